/- Walk: the reference's Order. -/
import Derived.Test.YtiohcegkkpeodaaDoorWalkR
namespace Go.Pol
/-- the reference's best order so far, its loss, and how many blocks it gives -/
def refO (s : Int) : Nat → Int × Int × Int
  | 0 => (-1, 0, 1)
  | k + 1 =>
    let st := refO s k
    let b : Int := 64 * 2 ^ k
    if 0 < b / s ∧ (st.1 < 0 ∨ (b % s) * st.2.2 < st.2.1 * (b / s)) then ((k : Int), b % s, b / s) else st
theorem refO_law {s : Int} (hs : 1 ≤ s) : ∀ k, ((ordS s k).1 = (-1, -1) ∧ refO s k = (-1, 0, 1)) ∨ ((ordS s k).1 ≠ (-1, -1) ∧ 0 ≤ (ordS s k).2 ∧ refO s k = ((ordS s k).2, (ordS s k).1.1, (ordS s k).1.2))
  | 0 => .inl ⟨rfl, rfl⟩
  | k + 1 => by
    have ih := refO_law hs k
    have hne : ((64 * 2 ^ k : Int) % s, (64 * 2 ^ k : Int) / s) ≠ (-1, -1) := fun h => by
      have := Int.emod_nonneg (64 * 2 ^ k : Int) (show s ≠ 0 by omega)
      simp only [Prod.mk.injEq] at h
      omega
    rcases ih with ⟨h1, h2⟩ | ⟨h1, h2, h3⟩
    · by_cases hq : 0 < (64 * 2 ^ k : Int) / s
      · refine .inr ?_
        have e1 : ordS s (k + 1) = (((64 * 2 ^ k : Int) % s, (64 * 2 ^ k : Int) / s), (k : Int)) := by
          simp only [ordS]; rw [if_pos ⟨hq, .inl h1⟩]
        have e2 : refO s (k + 1) = ((k : Int), (64 * 2 ^ k : Int) % s, (64 * 2 ^ k : Int) / s) := by
          simp only [refO]; rw [if_pos ⟨hq, .inl (by rw [h2]; decide)⟩]
        rw [e1, e2]
        exact ⟨hne, by simp only; omega, rfl⟩
      · refine .inl ?_
        have e1 : ordS s (k + 1) = ordS s k := by simp only [ordS]; rw [if_neg (fun h => hq h.1)]
        have e2 : refO s (k + 1) = refO s k := by simp only [refO]; rw [if_neg (fun h => hq h.1)]
        rw [e1, e2]
        exact ⟨h1, h2⟩
    · refine .inr ?_
      by_cases hq : 0 < (64 * 2 ^ k : Int) / s ∧ less ((64 * 2 ^ k : Int) % s, (64 * 2 ^ k : Int) / s) (ordS s k).1 = true
      · have e1 : ordS s (k + 1) = (((64 * 2 ^ k : Int) % s, (64 * 2 ^ k : Int) / s), (k : Int)) := by
          simp only [ordS]; rw [if_pos ⟨hq.1, .inr hq.2⟩]
        have e2 : refO s (k + 1) = ((k : Int), (64 * 2 ^ k : Int) % s, (64 * 2 ^ k : Int) / s) := by
          simp only [refO]; rw [if_pos ⟨hq.1, .inr (by rw [h3]; have := hq.2; unfold less at this; simpa using this)⟩]
        rw [e1, e2]
        exact ⟨hne, by simp only; omega, rfl⟩
      · have e1 : ordS s (k + 1) = ordS s k := by
          simp only [ordS]; rw [if_neg (fun h => hq ⟨h.1, h.2.resolve_left h1⟩)]
        have e2 : refO s (k + 1) = refO s k := by
          simp only [refO]
          rw [if_neg (fun h => hq ⟨h.1, by
            have := h.2
            rw [h3] at this
            unfold less
            rcases this with h' | h'
            · simp only at h'; omega
            · simpa using h'⟩)]
        rw [e1, e2]
        exact ⟨h1, h2, h3⟩
/-- what Order answers, of the reference's state -/
theorem refO_end {s : Int} (hs : 1 ≤ s) (k : Nat) : (if (ordS s k).1 = (-1, -1) then ((0, 4) : Int × Int) else ((ordS s k).2, 0)) = if (refO s k).1 < 0 then (0, 4) else ((refO s k).1, 0) := by
  rcases refO_law hs k with ⟨h1, h2⟩ | ⟨h1, h2, h3⟩
  · rw [if_pos h1, h2]; rfl
  · rw [if_neg h1, h3, if_neg (by simp only; omega)]
theorem refO_bound {s : Int} (h1 : 1 ≤ s) (h2 : s ≤ 4096) (k : Nat) (hk : k ≤ 5) : -1 ≤ (refO s k).1 ∧ 0 ≤ (refO s k).2.1 ∧ (refO s k).2.1 ≤ 4096 ∧ 0 ≤ (refO s k).2.2 ∧ (refO s k).2.2 ≤ 1024 := by
  rcases refO_law h1 k with ⟨_, h⟩ | ⟨ha, hb, h⟩
  · rw [h]; decide
  · rw [h]
    rcases ordS_bound h1 h2 k hk with h' | h'
    · exact absurd h' ha
    · simp only; omega
theorem pow_bound (k : Nat) (hk : k ≤ 5) : (64 : Int) ≤ 64 * 2 ^ k ∧ (64 : Int) * 2 ^ k ≤ 2048 := by
  rcases (show k = 0 ∨ k = 1 ∨ k = 2 ∨ k = 3 ∨ k = 4 ∨ k = 5 by omega) with rfl | rfl | rfl | rfl | rfl | rfl <;> decide
end Go.Pol
namespace Go.Proofs.YtiohcegkkpeodaaDoor
open Go Go.Proofs Go.RowKit Go.Pol

def OrdR (R : Int × Int) (w : World) (e : Ending) (w' : World) : Prop := e = .returned (.tuple #[.int .i64 R.1, .int .i64 R.2]) ∧ Below w.heap.size w w'
set_option maxRecDepth 100000 in
set_option maxHeartbeats 3200000 in
theorem refOrder_any (A : Option Addr) (n cap : Nat) (xs : List Int) (c : Int) (w : World) (hn : xs.length = n) (hm : n ≤ maxLen) (hr : RI w w.heap.size A xs) :
    Calls Tryd.prog 15 #[.agg #[.slice A n cap], .int .i64 c] w (OrdR (ordT xs c) w) := by
  have HCK := Lib.hid (fun W (h : RI W W.heap.size A xs) => refCheck_any A n cap xs W hn hm h)
  unfold maxLen at hm
  have hb0 := (Below.refl w.heap.size w).alloc (Nat.le_refl _) (.cells #[Value.slice A n cap] 27)
  have k0 := Blk.new w 27 #[Value.slice A n cap]
  have hr0 := (hr.below hb0).more (B' := (w.alloc (Obj.cells #[Value.slice A n cap] 27)).heap.size) (by simp)
  have c0 := k0.cell
  by_cases h1 : chkT xs = 0
  · have h1' : (chkT xs == 0) = true := by simp [h1]
    have h1'' : (chkT xs != 0) = false := by simp [h1]
    have hok := chkT_ok h1
    have hn64 : n ≤ 64 := by have := hok.len; omega
    by_cases h2 : c < 0
    · have h2' : decide (c < 0) = true := by simpa using h2
      have hE : Hid (ordT xs c = (0, 7)) := Lib.hid (by unfold ordT; rw [if_pos h1, if_pos (.inl h2)])
      clear h1 h2 hn hok
      generalize ordT xs c = R at *
      generalize chkT xs = ck at *
      go_enter Tryd.func15, Tryd.ntmps15
      go_wp2_with fail
      refine (HCK.out _ hr0).mono ?_
      rintro e w1 ⟨rfl, hb1⟩
      have B1 := hb0.trans (hb1.mono hb0.size)
      go_wp2_with fail
      go_ret2
      exact ⟨by rw [hE.out]; rfl, B1⟩
    · have h2' : decide (c < 0) = false := by simpa using h2
      by_cases h3 : (n : Int) ≤ c
      · have h3' : decide ((n : Int) ≤ c) = true := by simpa using h3
        have hE : Hid (ordT xs c = (0, 7)) := Lib.hid (by unfold ordT; rw [if_pos h1, if_pos (.inr (by rw [hn]; exact h3))])
        clear h1 h2 h3 hn hok
        generalize ordT xs c = R at *
        generalize chkT xs = ck at *
        go_enter Tryd.func15, Tryd.ntmps15
        go_wp2_with fail
        refine (HCK.out _ hr0).mono ?_
        rintro e w1 ⟨rfl, hb1⟩
        have B1 := hb0.trans (hb1.mono hb0.size)
        have c1 := (k0.call hb1).cell
        go_wp2_with fail
        go_ret2
        exact ⟨by rw [hE.out]; rfl, B1⟩
      · have h3' : decide ((n : Int) ≤ c) = false := by simpa using h3
        have hcn : c.toNat < n := by omega
        obtain ⟨s, hs⟩ : ∃ s, xs.getD c.toNat 0 = s := ⟨_, rfl⟩
        have hs1 := hok.at_ c.toNat (by omega)
        rw [hs] at hs1
        have hE : Hid (ordT xs c = if (refO s 5).1 < 0 then (0, 4) else ((refO s 5).1, 0)) := Lib.hid (by
          unfold ordT; rw [if_pos h1, if_neg (by rw [hn]; omega), hs, refO_end hs1.1])
        have HT := Lib.hid (fun (W : World) (h : RI W W.heap.size A xs) => RI.at_ h (k := c.toNat) (by omega))
        have hsb : 1 ≤ s ∧ s ≤ 4096 := ⟨hs1.1, hs1.2.1⟩
        have hcc : Hid (((c.toNat : Nat) : Int) = c) := Lib.hid (by omega)
        have hc0 : 0 ≤ c := by omega
        have hc64 : c < 64 := by omega
        clear h1 h2 h3 hn hok hs1
        generalize ordT xs c = R at *
        generalize chkT xs = ck at *
        go_enter Tryd.func15, Tryd.ntmps15
        go_wp2_with fail
        refine (HCK.out _ hr0).mono ?_
        rintro e w1 ⟨rfl, hb1⟩
        have B1 := hb0.trans (hb1.mono hb0.size)
        have hr1 := (hr0.below hb1).more hb1.size
        have k1 := k0.call hb1
        have c1 := k1.cell
        obtain ⟨g, o, rfl, hgl, hc⟩ := HT.out w1 hr1
        rw [hs] at hc
        clear hs c0
        go_wp2_with fail
        have hs0 : ¬ s = 0 := by omega
        go_loopw [8, 9, 10, 11, 12] (fun o a b y i wr => ∃ (k : Nat) (v p q : Int), k ≤ 5 ∧ i = .int .i64 k ∧ o = .int .i64 v ∧ a = .int .i64 p ∧ b = .int .i64 q ∧ y = .int .i64 (64 * 2 ^ k) ∧ Hid (refO s k = (v, p, q)) ∧ Below w1.heap.size w1 wr) (fun _ _ _ _ i _ => 5 - (intOf i).toNat)
        case atStart => exact ⟨0, -1, 0, 1, by omega, rfl, rfl, rfl, rfl, by simp, Lib.hid rfl, Below.refl _ _⟩
        case round =>
          obtain ⟨k, v, p, q, hk, rfl, rfl, rfl, rfl, rfl, hL, hB⟩ := hrel
          by_cases hlt : k < 5
          · have hlt' : decide ((k : Int) ≤ 4) = true := by simp; omega
            have hbd := refO_bound hsb.1 hsb.2 k (by omega)
            rw [hL.out] at hbd
            simp only at hbd
            have hpw := pow_bound k (by omega)
            have hN : Hid (refO s (k + 1) = if 0 < (64 * 2 ^ k : Int) / s ∧ (v < 0 ∨ ((64 * 2 ^ k : Int) % s) * q < p * ((64 * 2 ^ k : Int) / s)) then ((k : Int), (64 * 2 ^ k : Int) % s, (64 * 2 ^ k : Int) / s) else (v, p, q)) := Lib.hid (by simp only [refO]; rw [hL.out])
            have hP : Hid ((64 * 2 ^ (k + 1) : Int) = 2 * (64 * 2 ^ k)) := Lib.hid (by rw [Int.pow_succ]; omega)
            have hd1 : (64 * 2 ^ k : Int).tdiv s = (64 * 2 ^ k : Int) / s := Int.tdiv_eq_ediv_of_nonneg (by omega)
            have hd2 : (64 * 2 ^ k : Int).tmod s = (64 * 2 ^ k : Int) % s := Int.tmod_eq_emod_of_nonneg (by omega)
            have hq0 : 0 ≤ (64 * 2 ^ k : Int) / s ∧ (64 * 2 ^ k : Int) / s ≤ 2048 := ⟨Int.ediv_nonneg (by omega) (by omega), Int.le_trans (Int.ediv_le_self s (by omega)) (by omega)⟩
            have hr0 : 0 ≤ (64 * 2 ^ k : Int) % s ∧ (64 * 2 ^ k : Int) % s ≤ 4096 := ⟨Int.emod_nonneg _ (by omega), by have := Int.emod_lt_of_pos (64 * 2 ^ k : Int) (show 0 < s by omega); omega⟩
            clear hL
            generalize (64 * 2 ^ k : Int) = bb at *
            generalize bb / s = n0 at *
            generalize bb % s = m0 at *
            have hm1 : 0 ≤ m0 * q ∧ m0 * q ≤ 4096 * 1024 := ⟨Int.mul_nonneg hr0.1 hbd.2.2.2.1, Int.mul_le_mul hr0.2 hbd.2.2.2.2 hbd.2.2.2.1 (by omega)⟩
            have hm2 : 0 ≤ p * n0 ∧ p * n0 ≤ 4096 * 2048 := ⟨Int.mul_nonneg hbd.2.1 hq0.1, Int.mul_le_mul hbd.2.2.1 hq0.2 hq0.1 (by omega)⟩
            by_cases hq : 0 < n0
            · have hq' : decide (0 < n0) = true := by simpa using hq
              by_cases hv : v < 0
              · have hv' : decide (v < 0) = true := by simpa using hv
                have hE : Hid (refO s (k + 1) = ((k : Int), m0, n0)) := Lib.hid (by rw [hN.out, if_pos ⟨hq, .inl hv⟩])
                clear hN hq hv
                go_upto_region 14 with fail
                refine region_ext (by kernel_rfl) (by kernel_rfl) ?_
                repeat (go_big_quiet_step (fail))
                refine wpQuiet_nil ?_
                rintro w3 ⟨⟨_, hw3⟩, rfl⟩
                go_wp2_with fail
                go_roundw
                case rel => exact ⟨k + 1, k, m0, n0, by omega, by go_num, rfl, rfl, rfl, by rw [hP.out], hE, hB.trans (hw3.mono hB.size)⟩
                case measure => simp [intOf]; omega
              · have hv' : decide (v < 0) = false := by simpa using hv
                by_cases hl : m0 * q < p * n0
                · have hl' : decide (m0 * q < p * n0) = true := by simpa using hl
                  have hE : Hid (refO s (k + 1) = ((k : Int), m0, n0)) := Lib.hid (by rw [hN.out, if_pos ⟨hq, .inr hl⟩])
                  clear hN hq hv hl
                  go_upto_region 14 with fail
                  refine region_ext (by kernel_rfl) (by kernel_rfl) ?_
                  repeat (go_big_quiet_step (fail))
                  refine wpQuiet_nil ?_
                  rintro w3 ⟨⟨_, hw3⟩, rfl⟩
                  go_wp2_with fail
                  go_roundw
                  case rel => exact ⟨k + 1, k, m0, n0, by omega, by go_num, rfl, rfl, rfl, by rw [hP.out], hE, hB.trans (hw3.mono hB.size)⟩
                  case measure => simp [intOf]; omega
                · have hl' : decide (m0 * q < p * n0) = false := by simpa using hl
                  have hE : Hid (refO s (k + 1) = (v, p, q)) := Lib.hid (by rw [hN.out, if_neg (fun h => h.2.elim hv hl)])
                  clear hN hq hv hl
                  go_wp2_with fail
                  go_roundw
                  case rel => exact ⟨k + 1, v, p, q, by omega, by go_num, rfl, rfl, rfl, by rw [hP.out], hE, hB⟩
                  case measure => simp [intOf]; omega
            · have hq' : decide (0 < n0) = false := by simpa using hq
              have hE : Hid (refO s (k + 1) = (v, p, q)) := Lib.hid (by rw [hN.out, if_neg (fun h => hq h.1)])
              clear hN hq
              go_wp2_with fail
              go_roundw
              case rel => exact ⟨k + 1, v, p, q, by omega, by go_num, rfl, rfl, rfl, by rw [hP.out], hE, hB⟩
              case measure => simp [intOf]; omega
          · obtain rfl : k = 5 := by omega
            have hRo := hE.out
            rw [hL.out] at hRo
            simp only at hRo
            have BB := B1.trans (hB.mono B1.size)
            by_cases hv : v < 0
            · have hv' : decide (v < 0) = true := by simpa using hv
              rw [if_pos hv] at hRo
              have hRo' := Lib.hid hRo
              clear hRo hv hE
              go_wp2_with fail
              go_ret2
              exact ⟨by rw [hRo'.out]; rfl, BB⟩
            · have hv' : decide (v < 0) = false := by simpa using hv
              rw [if_neg hv] at hRo
              have hRo' := Lib.hid hRo
              clear hRo hv hE
              go_wp2_with fail
              go_ret2
              exact ⟨by rw [hRo'.out]; rfl, BB⟩
  · have h1' : (chkT xs == 0) = false := by simpa using h1
    have h1'' : (chkT xs != 0) = true := by simpa using h1
    have hE : Hid (ordT xs c = (0, chkT xs)) := Lib.hid (by unfold ordT; rw [if_neg h1])
    clear h1 hn
    generalize ordT xs c = R at *
    generalize chkT xs = ck at *
    go_enter Tryd.func15, Tryd.ntmps15
    go_wp2_with fail
    refine (HCK.out _ hr0).mono ?_
    rintro e w1 ⟨rfl, hb1⟩
    have B1 := hb0.trans (hb1.mono hb0.size)
    go_wp2_with fail
    go_ret2
    exact ⟨by rw [hE.out]; rfl, B1⟩
end Go.Proofs.YtiohcegkkpeodaaDoor
