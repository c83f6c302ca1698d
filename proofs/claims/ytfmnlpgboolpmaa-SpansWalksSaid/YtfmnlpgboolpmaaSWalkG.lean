/- Walk: the law SpansOf. -/
import Derived.Test.YtfmnlpgboolpmaaSWalkF
namespace Go.Proofs.Ytfmnlpgboolpmaa
open Go Go.Proofs Go.RowKit Go.Pol Go.Shelf

theorem long_any (A : Option Addr) (n cap : Nat) (w : World) (hm : n ≤ maxLen) :
    Calls Try.prog 38 #[.slice A n cap] w fun e w' => e = .returned (.bool (decide (2100 < n))) ∧ w' = w := by
  unfold maxLen at hm
  go_enter Try.func38, Try.ntmps38
  go_wp2_with fail
  go_ret
  exact ⟨ret_bool (decide_eq_decide.2 (by omega)), rfl⟩

set_option maxRecDepth 100000 in
set_option maxHeartbeats 1600000 in
theorem ofLaw_any (A : Option Addr) (n cap : Nat) (us : List Sp) (w : World) (hn : us.length = n) (hm : n ≤ maxLen) (hr : RU w w.heap.size A us) :
    Calls Try.prog 9 #[.slice A n cap] w fun e w' => e = .returned (.bool true) ∧ Below w.heap.size w w' := by
  have HL := Lib.hid (fun W => long_any A n cap W hm)
  by_cases hlen : 2100 < n
  · rw [decide_eq_true hlen] at HL
    go_enter Try.func9, Try.ntmps9
    go_wp2_with fail
    refine (HL.out _).mono ?_
    rintro e w1 ⟨rfl, rfl⟩
    go_wp2_with fail
    refine (awake3_any _).mono ?_
    rintro e w2 ⟨rfl, hb2⟩
    go_wp2_with fail
    go_ret
    exact ⟨rfl, hb2⟩
  rw [decide_eq_false hlen] at HL
  have H1 := Lib.hid (ofTop_any A n cap us w hn hm hr)
  have H2 := Lib.hid (fun W h => refOf_any A n cap us W hn hm h)
  have H3 := Lib.hid (fun W h => spCheck_any A n cap us W hn hm h)
  have H4 := Lib.hid (fun W h => refSpCheck_any A n cap us W hn hm h)
  have hcan := setOf_can us
  generalize chkS us = ck at *
  generalize setOf us = S0 at *
  generalize ofE us = er at *
  have x1 : (ck == ck) = true := by simp
  have x2 : (er == er) = true := by simp
  by_cases he : er = 0
  · subst he
    rw [if_pos rfl] at H1 H2
    unfold SpansOwn at H1
    unfold SpansR at H2
    have hzc := chkS_zero.2 hcan
    obtain ⟨sl, hsl⟩ : ∃ sl, S0.length = sl := ⟨_, rfl⟩
    rw [hsl] at H1 H2
    have hsl' := Lib.hid hsl
    clear hsl hcan hn
    go_enter Try.func9, Try.ntmps9
    go_wp2_with fail
    refine (HL.out _).mono ?_
    rintro e w0 ⟨rfl, rfl⟩
    go_wp2_with fail
    refine H1.out.mono ?_
    rintro e w1 ⟨A1, a1, rfl, r1, m1, n1, _, hb1, _⟩
    have s1 := hr.on hb1
    clear H1
    go_wp2_with fail
    refine (H2.out _ s1).mono ?_
    rintro e w2 ⟨A2, a2, rfl, r2, m2, n2, _, hb2⟩
    have B2 := hb1.trans (hb2.mono hb1.size)
    have s2 := s1.on hb2
    have r1b := r1.on hb2
    clear hb1 hb2 s1 r1 H2
    go_wp2_with fail
    refine (H3.out _ s2).mono ?_
    rintro e w3 ⟨rfl, hb3⟩
    have B3 := B2.trans (hb3.mono B2.size)
    have s3 := s2.on hb3
    have r1c := r1b.on hb3
    have r2c := r2.on hb3
    clear B2 hb3 s2 r1b r2
    go_wp2_with fail
    refine (H4.out _ s3).mono ?_
    rintro e w4 ⟨rfl, hb4⟩
    have B4 := B3.trans (hb4.mono B3.size)
    have r1d := r1c.on hb4
    have r2d := r2c.on hb4
    clear B3 hb4 s3 r1c r2c
    have HS := Lib.hid (sameT_any A1 A2 sl a1 a2 S0 S0 _ hsl'.out (Nat.le_trans m1 n1) rfl r1d r2d)
    go_wp2_with fail
    refine HS.out.mono ?_
    rintro e w5 ⟨rfl, hb5⟩
    have B5 := B4.trans (hb5.mono B4.size)
    have HC := Lib.hid (spCheck_any A1 sl a1 S0 _ hsl'.out (Nat.le_trans m1 n1) (r1d.on hb5))
    rw [hzc] at HC
    clear B4 hb5 HS r1d r2d
    go_wp2_with fail
    refine HC.out.mono ?_
    rintro e w6 ⟨rfl, hb6⟩
    have B6 := B5.trans (hb6.mono B5.size)
    go_wp2_with fail
    refine (awake3_any _).mono ?_
    rintro e w7 ⟨rfl, hb7⟩
    go_wp2_with fail
    go_ret
    exact ⟨rfl, B6.trans (hb7.mono B6.size)⟩
  · rw [if_neg he] at H1 H2
    unfold SpansOwn at H1
    unfold SpansR at H2
    simp only [List.length_nil] at H1 H2
    have he' : (er != 0) = true := by simpa using he
    clear hcan hn
    go_enter Try.func9, Try.ntmps9
    go_wp2_with fail
    refine (HL.out _).mono ?_
    rintro e w0 ⟨rfl, rfl⟩
    go_wp2_with fail
    refine H1.out.mono ?_
    rintro e w1 ⟨A1, a1, rfl, r1, m1, n1, _, hb1, _⟩
    have s1 := hr.on hb1
    clear H1
    go_wp2_with fail
    refine (H2.out _ s1).mono ?_
    rintro e w2 ⟨A2, a2, rfl, r2, m2, n2, _, hb2⟩
    have B2 := hb1.trans (hb2.mono hb1.size)
    have s2 := s1.on hb2
    clear hb1 hb2 s1 H2
    go_wp2_with fail
    refine (H3.out _ s2).mono ?_
    rintro e w3 ⟨rfl, hb3⟩
    have B3 := B2.trans (hb3.mono B2.size)
    have s3 := s2.on hb3
    clear B2 hb3 s2
    go_wp2_with fail
    refine (H4.out _ s3).mono ?_
    rintro e w4 ⟨rfl, hb4⟩
    have B4 := B3.trans (hb4.mono B3.size)
    clear B3 hb4 s3
    have HS := Lib.hid (sameT_any A1 A2 0 a1 a2 [] [] w4 rfl (by unfold maxLen; omega) rfl RU.nil RU.nil)
    go_wp2_with fail
    refine HS.out.mono ?_
    rintro e w5 ⟨rfl, hb5⟩
    have B5 := B4.trans (hb5.mono B4.size)
    go_wp2_with fail
    refine (awake3_any _).mono ?_
    rintro e w7 ⟨rfl, hb7⟩
    go_wp2_with fail
    go_ret
    exact ⟨rfl, B5.trans (hb7.mono B5.size)⟩
end Go.Proofs.Ytfmnlpgboolpmaa
