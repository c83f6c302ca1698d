/- Walk: the law MovingChecks. -/
import Derived.Test.YtifdgabfnnkghaaVWalkS
namespace Go.Pol
theorem afterL_len (pages : Int) : ∀ (ms : List (Int × Int)) (bs : List B3), (afterL pages bs ms).1.length ≤ bs.length
  | [], bs => by simp [afterL]
  | m :: r, bs => by
    rw [afterL]
    split
    · have := afterL_len pages r (movB bs m); simp only [movB, List.length_set] at this; exact this
    · simp
theorem afterB_len (pages : Int) (bs : List B3) (ms : List (Int × Int)) : (afterB pages bs ms).1.length ≤ bs.length := by
  unfold afterB
  split
  · split
    · simp
    · exact afterL_len _ _ _
  · simp
end Go.Pol
namespace Go.Proofs.Ytifdgabfnnkghaa
open Go Go.Proofs Go.RowKit Go.Pol Go.Shelf Go.Deep

set_option maxRecDepth 100000 in
set_option maxHeartbeats 3200000 in
theorem checksLaw_any (pages : Int) (A M : Option Addr) (n cap mn mcap : Nat) (bs : List B3) (ms : List (Int × Int)) (w : World) (hn : bs.length = n) (hm : n ≤ maxLen) (hz : A = none → cap = 0) (hr : RT w w.heap.size A bs) (hmn : ms.length = mn) (hmm : mn ≤ maxLen) (hru : RU w w.heap.size M ms) :
    Calls Try.prog 3 #[.int .i64 pages, .slice A n cap, .slice M mn mcap] w fun e w' => e = .returned (.bool true) ∧ Below w.heap.size w w' := by
  have HF := Lib.hid (fun W => far_any A n cap 80 W hm)
  obtain ⟨fb, hfb⟩ : ∃ fb, (decide ((80 : Int) < (n : Int)) && decide (n ≤ 64) || decide (80 < n)) = fb := ⟨_, rfl⟩
  rw [hfb] at HF
  clear hfb
  cases fb with
  | true =>
    clear hn hmn
    go_enter Try.func3, Try.ntmps3
    go_wp2_with (first
      | (go_at_call 8; refine (HF.out _).mono ?_; rintro e wS ⟨rfl, hwS⟩; replace hwS := hwS.symm; subst hwS)
      | (go_at_call 9; refine (awake24_any _).mono ?_; rintro e w1 ⟨rfl, hb1⟩))
    go_ret
    exact ⟨rfl, hb1⟩
  | false =>
    by_cases h3 : 300 < mn
    · have h3' : decide ((300 : Int) < (mn : Int)) = true := by simp; omega
      clear hn hmn h3
      go_enter Try.func3, Try.ntmps3
      go_wp2_with (first
        | (go_at_call 8; refine (HF.out _).mono ?_; rintro e wS ⟨rfl, hwS⟩; replace hwS := hwS.symm; subst hwS)
        | (go_at_call 9; refine (awake24_any _).mono ?_; rintro e w1 ⟨rfl, hb1⟩))
      go_ret
      exact ⟨rfl, hb1⟩
    · have h3' : decide ((300 : Int) < (mn : Int)) = false := by simp; omega
      have H1 := Lib.hid (fun W (h : RT W W.heap.size A bs) (h' : RU W W.heap.size M ms) => after_any pages A M n cap mn mcap bs ms W hn hm hz h hmn hmm h')
      have H2 := Lib.hid (fun W (h : RT W W.heap.size A bs) (h' : RU W W.heap.size M ms) => refAfter_any pages A M n cap mn mcap bs ms W hn hm hz h hmn hmm h')
      have H3 := Lib.hid (fun W (h : RT W W.heap.size A bs) (h' : RU W W.heap.size M ms) => cost_any A M n cap mn mcap bs ms W hn hm h hmn hmm h')
      have H4 := Lib.hid (fun W (h : RT W W.heap.size A bs) (h' : RU W W.heap.size M ms) => refCost_any A M n cap mn mcap bs ms W hn hm h hmn hmm h')
      have H5 := Lib.hid (fun W (h : RT W W.heap.size A bs) => check_any pages A n cap bs W hn hm h)
      have H6 := Lib.hid (fun W (h : RT W W.heap.size A bs) => refCheck_any pages A n cap bs W hn hm h)
      have hal := afterB_len pages bs ms
      rw [hn] at hal
      generalize afterB pages bs ms = R at *
      generalize costB bs ms = C at *
      generalize chkB pages bs = ck at *
      obtain ⟨cs, er⟩ := R
      obtain ⟨cn, ce⟩ := C
      unfold AfterR at H1 H2
      unfold CostR at H3 H4
      simp only at H1 H2 H3 H4 hal
      obtain ⟨cl, hcl⟩ : ∃ cl, cs.length = cl := ⟨_, rfl⟩
      rw [hcl] at H1 H2 hal
      have hcl' := Lib.hid hcl
      have hclm : cl ≤ maxLen := Nat.le_trans hal hm
      have x1 : (er == er) = true := by simp
      have x2 : (cn == cn) = true := by simp
      have x3 : (ce == ce) = true := by simp
      have x4 : (ck == ck) = true := by simp
      clear hcl hn hmn h3
      go_enter Try.func3, Try.ntmps3
      go_wp2_with (first
        | (go_at_call 8; refine (HF.out _).mono ?_; rintro e wS ⟨rfl, hwS⟩; replace hwS := hwS.symm; subst hwS)
        | (go_at_call 10; refine (H1.out _ hr hru).mono ?_; rintro e w1 ⟨A1, c1, rfl, r1, hb1⟩; have hr1 := hr.on hb1; have hu1 := (hru.below hb1).more hb1.size)
        | (go_at_call 11; refine (H2.out _ hr1 hu1).mono ?_; rintro e w2 ⟨A2, c2, rfl, r2, hb2⟩; have hr2 := hr1.on hb2; have hu2 := (hu1.below hb2).more hb2.size; have B2 := hb1.trans (hb2.mono hb1.size); have r1b := r1.on hb2)
        | (go_at_call 12; refine (H3.out _ hr2 hu2).mono ?_; rintro e w3 ⟨rfl, hb3⟩; have hr3 := hr2.on hb3; have hu3 := (hu2.below hb3).more hb3.size; have B3 := B2.trans (hb3.mono B2.size); have r1c := r1b.on hb3; have r2c := r2.on hb3)
        | (go_at_call 13; refine (H4.out _ hr3 hu3).mono ?_; rintro e w4 ⟨rfl, hb4⟩; have hr4 := hr3.on hb4; have B4 := B3.trans (hb4.mono B3.size); have r1d := r1c.on hb4; have r2d := r2c.on hb4)
        | (go_at_call 14; refine (H5.out _ hr4).mono ?_; rintro e w5 ⟨rfl, hb5⟩; have hr5 := hr4.on hb5; have B5 := B4.trans (hb5.mono B4.size); have r1e := r1d.on hb5; have r2e := r2d.on hb5)
        | (go_at_call 15; refine (H6.out _ hr5).mono ?_; rintro e w6 ⟨rfl, hb6⟩; have B6 := B5.trans (hb6.mono B5.size); have r1f := r1e.on hb6; have r2f := r2e.on hb6)
        | (go_at_call 16; refine (sameBlocks_any _ _ _ _ _ cs _ hcl'.out hclm r1f r2f).mono ?_; rintro e w7 ⟨rfl, hb7⟩; have B7 := B6.trans (hb7.mono B6.size))
        | (go_at_call 9; refine (awake24_any _).mono ?_; rintro e w8 ⟨rfl, hb8⟩))
      go_ret
      exact ⟨rfl, B7.trans (hb8.mono B7.size)⟩
end Go.Proofs.Ytifdgabfnnkghaa
