/- Walk: the law MovingFewest, its first answers. -/
import Derived.Test.YtifdgabfnnkghaaVWalkU
namespace Go.Proofs.Ytifdgabfnnkghaa
open Go Go.Proofs Go.RowKit Go.Pol Go.Shelf Go.Deep

set_option maxRecDepth 100000 in
set_option maxHeartbeats 1600000 in
/-- the law's first answers -/
theorem fewestBad_any (pages : Int) (A M : Option Addr) (n cap mn mcap : Nat) (bs : List B3) (o cand : Int) (w : World) (hn : bs.length = n) (hm : n ≤ maxLen) (hmm : mn ≤ maxLen) (hr : RT w w.heap.size A bs) (hc : chkB pages bs ≠ 0 ∨ 64 < mn ∨ isOrd o = false ∨ pages < pw o) :
    Calls Try.prog 6 #[.agg #[.int .i64 pages, .slice A n cap, .slice M mn mcap], .int .i64 o, .int .i64 cand] w fun e w' => e = .returned (.bool true) ∧ Below w.heap.size w w' := by
  unfold maxLen at hmm
  have hb0 := (Below.refl w.heap.size w).alloc (Nat.le_refl _) (.cells #[.int .i64 pages, .slice A n cap, .slice M mn mcap] 46)
  have k0 := Blk.new w 46 #[.int .i64 pages, .slice A n cap, .slice M mn mcap]
  obtain ⟨s, hs⟩ : ∃ s, w.heap.size = s := ⟨_, rfl⟩
  have hs1 : (w.alloc (.cells #[.int .i64 pages, .slice A n cap, .slice M mn mcap] 46)).heap.size = s + 1 := by rw [World.size_alloc, hs]
  have hrS : RT w s A bs := by rw [← hs]; exact hr
  rw [hs] at k0 hb0 ⊢
  obtain ⟨ck, hck⟩ : ∃ ck, chkB pages bs = ck := ⟨_, rfl⟩
  rw [hck] at hc
  have HC := Lib.hid (fun W (h : Below s w W) (hz : s ≤ W.heap.size) => show Calls Try.prog 15 #[.int .i64 pages, .slice A n cap] W fun e w' => e = .returned (.int .i64 ck) ∧ Below W.heap.size W w' from by rw [← hck]; exact refCheck_any pages A n cap bs W hn hm ((hrS.below h).more hz))
  clear hn hr hck hrS
  go_enter Try.func6, Try.ntmps6
  go_upto_region 1 with fail
  clear hs
  generalize w.alloc (Obj.cells #[.int .i64 pages, .slice A n cap, .slice M mn mcap] 46) = w1 at *
  have q1 := fun z : Ext w1 => (z.blk k0).cell
  have G := Lib.hid (fun z : Ext w1 => Ext.call (x := z) (HC.out z.w (hb0.trans (z.le.mono (by omega))) (by have := z.le.size; omega)))
  by_cases a1 : 64 < n
  · have a1' : decide ((64 : Int) < (n : Int)) = true := by simp; omega
    clear a1 hc
    refine region_ext (by kernel_rfl) (by kernel_rfl) ?_
    repeat (go_big_quiet_step (fail))
    refine wpQuiet_nil ?_
    rintro w2 ⟨⟨_, hw2⟩, rfl⟩
    have B2 := hb0.trans (hw2.mono (by omega))
    have B2s : s ≤ w2.heap.size := by have := hw2.size; omega
    clear q1
    go_wp2_with (go_at_call 9; refine (awake24_any _).mono ?_; rintro e w6 ⟨rfl, hb6⟩)
    go_ret
    exact ⟨rfl, B2.trans (hb6.mono B2s)⟩
  have a1' : decide ((64 : Int) < (n : Int)) = false := by simp; omega
  by_cases a2 : 64 < mn
  · have a2' : decide ((64 : Int) < (mn : Int)) = true := by simp; omega
    clear a2 hc
    refine region_ext (by kernel_rfl) (by kernel_rfl) ?_
    repeat (go_big_quiet_step (fail))
    refine wpQuiet_nil ?_
    rintro w2 ⟨⟨_, hw2⟩, rfl⟩
    have B2 := hb0.trans (hw2.mono (by omega))
    have B2s : s ≤ w2.heap.size := by have := hw2.size; omega
    clear q1
    go_wp2_with (go_at_call 9; refine (awake24_any _).mono ?_; rintro e w6 ⟨rfl, hb6⟩)
    go_ret
    exact ⟨rfl, B2.trans (hb6.mono B2s)⟩
  have a2' : decide ((64 : Int) < (mn : Int)) = false := by simp; omega
  by_cases a3 : ck = 0
  case neg =>
    have a3' : (ck != 0) = true := by simpa using a3
    clear a3 hc
    refine region_ext (by kernel_rfl) (by kernel_rfl) ?_
    repeat (go_big_quiet_step ((go_at_call 15; exact G.out _)))
    refine wpQuiet_nil ?_
    rintro w2 ⟨⟨_, hw2⟩, rfl⟩
    have B2 := hb0.trans (hw2.mono (by omega))
    have B2s : s ≤ w2.heap.size := by have := hw2.size; omega
    clear q1
    go_wp2_with (go_at_call 9; refine (awake24_any _).mono ?_; rintro e w6 ⟨rfl, hb6⟩)
    go_ret
    exact ⟨rfl, B2.trans (hb6.mono B2s)⟩
  have a3' : (ck != 0) = false := by simp [a3]
  have hc2 : isOrd o = false ∨ pages < pw o := by
    rcases hc with h | h | h
    · exact absurd a3 h
    · exact absurd h a2
    · exact h
  clear hc
  by_cases a4 : o < 0
  · have a4' : decide (o < 0) = true := by simpa using a4
    clear a4 hc2
    refine region_ext (by kernel_rfl) (by kernel_rfl) ?_
    repeat (go_big_quiet_step ((go_at_call 15; exact G.out _)))
    refine wpQuiet_nil ?_
    rintro w2 ⟨⟨_, hw2⟩, rfl⟩
    have B2 := hb0.trans (hw2.mono (by omega))
    have B2s : s ≤ w2.heap.size := by have := hw2.size; omega
    clear q1
    go_wp2_with (go_at_call 9; refine (awake24_any _).mono ?_; rintro e w6 ⟨rfl, hb6⟩)
    go_ret
    exact ⟨rfl, B2.trans (hb6.mono B2s)⟩
  have a4' : decide (o < 0) = false := by simpa using a4
  by_cases a5 : 10 < o
  · have a5' : decide (10 < o) = true := by simpa using a5
    clear a5 a4 hc2
    refine region_ext (by kernel_rfl) (by kernel_rfl) ?_
    repeat (go_big_quiet_step ((go_at_call 15; exact G.out _)))
    refine wpQuiet_nil ?_
    rintro w2 ⟨⟨_, hw2⟩, rfl⟩
    have B2 := hb0.trans (hw2.mono (by omega))
    have B2s : s ≤ w2.heap.size := by have := hw2.size; omega
    clear q1
    go_wp2_with (go_at_call 9; refine (awake24_any _).mono ?_; rintro e w6 ⟨rfl, hb6⟩)
    go_ret
    exact ⟨rfl, B2.trans (hb6.mono B2s)⟩
  have a5' : decide (10 < o) = false := by simpa using a5
  have hlt : pages < pw o := by
    rcases hc2 with h | h
    · rw [isOrd_iff.2 ⟨by omega, by omega⟩] at h; cases h
    · exact h
  have a6' : decide (pages < pw o) = true := by simpa using hlt
  have HS := Lib.hid (fun W => refSize_any o W ⟨by omega, by omega⟩)
  have hp1 := pw_pos o
  have hp2 := pw_le (show o ≤ 10 by omega)
  generalize pw o = sz at *
  have GS := Lib.hid (fun z : Ext w1 => Ext.call (x := z) ((HS.out z.w).mono (fun e w' h => ⟨h.1, by rw [h.2]; exact Below.refl _ _⟩)))
  clear a4 a5 hc2 hlt
  refine region_ext (by kernel_rfl) (by kernel_rfl) ?_
  repeat (go_big_quiet_step ((first | (go_at_call 15; exact G.out _) | (go_at_call 22; exact GS.out _))))
  refine wpQuiet_nil ?_
  rintro w2 ⟨⟨_, hw2⟩, rfl⟩
  have B2 := hb0.trans (hw2.mono (by omega))
  have B2s : s ≤ w2.heap.size := by have := hw2.size; omega
  clear q1
  go_wp2_with (go_at_call 9; refine (awake24_any _).mono ?_; rintro e w6 ⟨rfl, hb6⟩)
  go_ret
  exact ⟨rfl, B2.trans (hb6.mono B2s)⟩
end Go.Proofs.Ytifdgabfnnkghaa
