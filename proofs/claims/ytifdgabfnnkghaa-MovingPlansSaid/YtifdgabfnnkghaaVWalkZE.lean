/- Walk: the law MovingPlans. -/
import Derived.Test.YtifdgabfnnkghaaVWalkZD
namespace Go.Pol
theorem PlanF_len (pages : Int) (bs : List B3) (o : Int) : (PlanF pages bs o).1.length ≤ 64 := by
  unfold PlanF
  by_cases hc : chkB pages bs = 0
  · rw [if_pos hc]
    split
    · split
      · rename_i h1 h2
        obtain ⟨pg, hpg, h3, h4⟩ := space_nat (chkB_ok hc).space
        subst hpg
        rw [Int.toNat_natCast] at h2 ⊢
        obtain ⟨k, _, hg, hms, _⟩ := good_of_is h2
        simp only
        rw [hms]
        exact (good_cost (chkB_ok hc) h4 hg).1
      · simp
    · simp
  · rw [if_neg hc]; simp
end Go.Pol
namespace Go.Proofs.Ytifdgabfnnkghaa
open Go Go.Proofs Go.RowKit Go.Pol Go.Shelf Go.Deep

set_option maxRecDepth 100000 in
set_option maxHeartbeats 3200000 in
theorem plansLaw_any (pages : Int) (A : Option Addr) (n cap : Nat) (bs : List B3) (o : Int) (w : World) (hn : bs.length = n) (hm : n ≤ maxLen) (hr : RT w w.heap.size A bs) :
    Calls Try.prog 4 #[.int .i64 pages, .slice A n cap, .int .i64 o] w fun e w' => e = .returned (.bool true) ∧ Below w.heap.size w w' := by
  have HF := Lib.hid (fun W => far_any A n cap 10 W hm)
  obtain ⟨fb, hfb⟩ : ∃ fb, (decide ((10 : Int) < (n : Int)) && decide (n ≤ 64) || decide (80 < n)) = fb := ⟨_, rfl⟩
  rw [hfb] at HF
  clear hfb
  cases fb with
  | true =>
    clear hn
    go_enter Try.func4, Try.ntmps4
    go_wp2_with (first
      | (go_at_call 8; refine (HF.out _).mono ?_; rintro e wS ⟨rfl, hwS⟩; replace hwS := hwS.symm; subst hwS)
      | (go_at_call 9; refine (awake24_any _).mono ?_; rintro e w1 ⟨rfl, hb1⟩))
    go_ret
    exact ⟨rfl, hb1⟩
  | false =>
    by_cases g1 : 64 < pages
    · have g1' : decide (64 < pages) = true := by simpa using g1
      by_cases g2 : pages ≤ 1024
      · have g2' : decide (pages ≤ 1024) = true := by simpa using g2
        clear hn g1 g2
        go_enter Try.func4, Try.ntmps4
        go_wp2_with (first
          | (go_at_call 8; refine (HF.out _).mono ?_; rintro e wS ⟨rfl, hwS⟩; replace hwS := hwS.symm; subst hwS)
          | (go_at_call 9; refine (awake24_any _).mono ?_; rintro e w1 ⟨rfl, hb1⟩))
        go_ret
        exact ⟨rfl, hb1⟩
      · have g2' : decide (pages ≤ 1024) = false := by simpa using g2
        clear g1 g2
        have H1 := Lib.hid (fun W (h : RT W W.heap.size A bs) => Plan_any pages A n cap bs o W hn hm h)
        have H2 := Lib.hid (fun W (h : RT W W.heap.size A bs) => refPlan_any pages A n cap bs o W hn hm h)
        have H3 := Lib.hid (fun W (h : RT W W.heap.size A bs) => Largest_any pages A n cap bs W hn hm h)
        have H4 := Lib.hid (fun W (h : RT W W.heap.size A bs) => refLargest_any pages A n cap bs W hn hm h)
        have hl64 := PlanF_len pages bs o
        generalize PlanF pages bs o = R at *
        generalize LargeF pages bs = L at *
        obtain ⟨ms, er⟩ := R
        obtain ⟨l1, l2, l3⟩ := L
        unfold PlanR at H1 H2
        unfold LargeR at H3 H4
        simp only at H1 H2 H3 H4 hl64
        obtain ⟨ml, hml⟩ : ∃ ml, ms.length = ml := ⟨_, rfl⟩
        rw [hml] at H1 H2 hl64
        have hml' := Lib.hid hml
        have hmlm : ml ≤ maxLen := by unfold maxLen; omega
        have x1 : (er == er) = true := by simp
        have x2 : (l1 == l1) = true := by simp
        have x3 : (l2 == l2) = true := by simp
        have x4 : (l3 == l3) = true := by simp
        clear hml hn
        go_enter Try.func4, Try.ntmps4
        go_wp2_with (first
          | (go_at_call 8; refine (HF.out _).mono ?_; rintro e wS ⟨rfl, hwS⟩; replace hwS := hwS.symm; subst hwS)
          | (go_at_call 17; refine (H1.out _ hr).mono ?_; rintro e w1 ⟨O1, c1, rfl, u1, hb1⟩; have r1 := hr.on hb1)
          | (go_at_call 18; refine (H2.out _ r1).mono ?_; rintro e w2 ⟨O2, c2, rfl, u2, hb2⟩; have r2 := r1.on hb2; have B2 := hb1.trans (hb2.mono hb1.size); have u1b := (u1.below hb2).more hb2.size)
          | (go_at_call 19; refine (H3.out _ r2).mono ?_; rintro e w3 ⟨rfl, hb3⟩; have r3 := r2.on hb3; have B3 := B2.trans (hb3.mono B2.size); have u1c := (u1b.below hb3).more hb3.size; have u2c := (u2.below hb3).more hb3.size)
          | (go_at_call 20; refine (H4.out _ r3).mono ?_; rintro e w4 ⟨rfl, hb4⟩; have B4 := B3.trans (hb4.mono B3.size); have u1d := (u1c.below hb4).more hb4.size; have u2d := (u2c.below hb4).more hb4.size)
          | (go_at_call 21; refine (sameMoves_any _ _ _ _ _ ms _ hml'.out hmlm u1d u2d).mono ?_; rintro e w5 ⟨rfl, hb5⟩; have B5 := B4.trans (hb5.mono B4.size))
          | (go_at_call 9; refine (awake24_any _).mono ?_; rintro e w6 ⟨rfl, hb6⟩))
        go_ret
        exact ⟨rfl, B5.trans (hb6.mono B5.size)⟩
    · have g1' : decide (64 < pages) = false := by simpa using g1
      clear g1
      have H1 := Lib.hid (fun W (h : RT W W.heap.size A bs) => Plan_any pages A n cap bs o W hn hm h)
      have H2 := Lib.hid (fun W (h : RT W W.heap.size A bs) => refPlan_any pages A n cap bs o W hn hm h)
      have H3 := Lib.hid (fun W (h : RT W W.heap.size A bs) => Largest_any pages A n cap bs W hn hm h)
      have H4 := Lib.hid (fun W (h : RT W W.heap.size A bs) => refLargest_any pages A n cap bs W hn hm h)
      have hl64 := PlanF_len pages bs o
      generalize PlanF pages bs o = R at *
      generalize LargeF pages bs = L at *
      obtain ⟨ms, er⟩ := R
      obtain ⟨l1, l2, l3⟩ := L
      unfold PlanR at H1 H2
      unfold LargeR at H3 H4
      simp only at H1 H2 H3 H4 hl64
      obtain ⟨ml, hml⟩ : ∃ ml, ms.length = ml := ⟨_, rfl⟩
      rw [hml] at H1 H2 hl64
      have hml' := Lib.hid hml
      have hmlm : ml ≤ maxLen := by unfold maxLen; omega
      have x1 : (er == er) = true := by simp
      have x2 : (l1 == l1) = true := by simp
      have x3 : (l2 == l2) = true := by simp
      have x4 : (l3 == l3) = true := by simp
      clear hml hn
      go_enter Try.func4, Try.ntmps4
      go_wp2_with (first
        | (go_at_call 8; refine (HF.out _).mono ?_; rintro e wS ⟨rfl, hwS⟩; replace hwS := hwS.symm; subst hwS)
        | (go_at_call 17; refine (H1.out _ hr).mono ?_; rintro e w1 ⟨O1, c1, rfl, u1, hb1⟩; have r1 := hr.on hb1)
        | (go_at_call 18; refine (H2.out _ r1).mono ?_; rintro e w2 ⟨O2, c2, rfl, u2, hb2⟩; have r2 := r1.on hb2; have B2 := hb1.trans (hb2.mono hb1.size); have u1b := (u1.below hb2).more hb2.size)
        | (go_at_call 19; refine (H3.out _ r2).mono ?_; rintro e w3 ⟨rfl, hb3⟩; have r3 := r2.on hb3; have B3 := B2.trans (hb3.mono B2.size); have u1c := (u1b.below hb3).more hb3.size; have u2c := (u2.below hb3).more hb3.size)
        | (go_at_call 20; refine (H4.out _ r3).mono ?_; rintro e w4 ⟨rfl, hb4⟩; have B4 := B3.trans (hb4.mono B3.size); have u1d := (u1c.below hb4).more hb4.size; have u2d := (u2c.below hb4).more hb4.size)
        | (go_at_call 21; refine (sameMoves_any _ _ _ _ _ ms _ hml'.out hmlm u1d u2d).mono ?_; rintro e w5 ⟨rfl, hb5⟩; have B5 := B4.trans (hb5.mono B4.size))
        | (go_at_call 9; refine (awake24_any _).mono ?_; rintro e w6 ⟨rfl, hb6⟩))
      go_ret
      exact ⟨rfl, B5.trans (hb6.mono B5.size)⟩
end Go.Proofs.Ytifdgabfnnkghaa
