/- Walks: the law's Example, awake. -/
import Derived.Test.YtifdgabfnnkghaaVSpecE
import Derived.Test.YtifdgabfnnkghaaVWalkR
namespace Go.Proofs.Ytifdgabfnnkghaa
open Go Go.Proofs Go.RowKit Go.Pol Go.Shelf Go.Deep

theorem RT_blk {w : World} {g : Nat} {t : TypeId} {cs : Array Value} (bs : List B3) (h : Blk w g t cs) (hc : cs.toList = tCells bs) : RT w w.heap.size (some ⟨g, 0, none⟩) bs := by
  intro k hk
  have h2 := tCells_at bs k hk
  rw [← hc] at h2
  simp only [Array.getElem?_toList] at h2
  refine ⟨g, 0, rfl, h.lt, ?_, ?_, ?_⟩
  · rw [Nat.zero_add, h.cell]; exact h2.1
  · rw [Nat.zero_add, h.cell]; exact h2.2.1
  · rw [Nat.zero_add, h.cell]; exact h2.2.2
theorem RU_blk {w : World} {g : Nat} {t : TypeId} {cs : Array Value} (us : List (Int × Int)) (h : Blk w g t cs) (hc : cs.toList = spCells us) : RU w w.heap.size (some ⟨g, 0, none⟩) us := by
  intro k hk
  have h2 := spCells_at us k hk
  rw [← hc] at h2
  simp only [Array.getElem?_toList] at h2
  refine ⟨g, 0, rfl, h.lt, ?_, ?_⟩
  · rw [Nat.zero_add, h.cell]; exact h2.1
  · rw [Nat.zero_add, h.cell]; exact h2.2
theorem sameMoves_any (A B : Option Addr) (n cap cap' : Nat) (xs : List (Int × Int)) (w : World) (hn : xs.length = n) (hm : n ≤ maxLen) (hr : RU w w.heap.size A xs) (hs : RU w w.heap.size B xs) :
    Calls Try.prog 21 #[.slice A n cap, .slice B n cap'] w fun e w' => e = .returned (.bool true) ∧ Below w.heap.size w w' :=
  (lawMoves_any A B n n cap cap' xs xs w hn hm hn hm hr hs).mono (by rintro e w' ⟨rfl, hb⟩; exact ⟨by simp, hb⟩)
theorem sameBlocks_any (A B : Option Addr) (n cap cap' : Nat) (xs : List B3) (w : World) (hn : xs.length = n) (hm : n ≤ maxLen) (hr : RT w w.heap.size A xs) (hs : RT w w.heap.size B xs) :
    Calls Try.prog 16 #[.slice A n cap, .slice B n cap'] w fun e w' => e = .returned (.bool true) ∧ Below w.heap.size w w' :=
  (lawBlocks_any A B n n cap cap' xs xs w hn hm hn hm hr hs).mono (by rintro e w' ⟨rfl, hb⟩; exact ⟨by simp, hb⟩)
abbrev exC (p : Bool) : Array Value := #[.int .i64 0, .int .i64 1, .bool p, .int .i64 4, .int .i64 0, .bool false, .int .i64 8, .int .i64 2, .bool false, .int .i64 13, .int .i64 0, .bool false]
theorem example_any (w : World) : Calls Try.prog 25 #[] w fun e w' => e = .returned (.slice (some ⟨w.heap.size, 0, none⟩) 4 4) ∧ Blk w' w.heap.size 44 (exC false) ∧ Below w.heap.size w w' := by
  have k0 := Blk.new w 44 (exC false)
  have hb0 := (Below.refl w.heap.size w).alloc (Nat.le_refl _) (.cells (exC false) 44)
  go_enter Try.func25, Try.ntmps25
  go_wp2_with fail
  go_ret
  exact ⟨rfl, k0, hb0⟩
set_option maxRecDepth 100000 in
set_option maxHeartbeats 3200000 in
theorem awake24_any (w : World) : Calls Try.prog 9 #[] w fun e w' => e = .returned (.bool true) ∧ Below w.heap.size w w' := by
  have hm4 := Lib.hid (show (4 : Nat) ≤ maxLen by unfold maxLen; omega)
  have hm2 := Lib.hid (show (2 : Nat) ≤ maxLen by unfold maxLen; omega)
  obtain ⟨s, hs⟩ : ∃ s, w.heap.size = s := ⟨_, rfl⟩
  have hs' := Lib.hid hs
  have B0 : Hid (Below s w w ∧ s ≤ w.heap.size) := Lib.hid ⟨Below.refl _ _, by omega⟩
  clear hs
  go_enter Try.func9, Try.ntmps9
  go_upto_region 2 with (first
    | (go_at_call 25; refine (example_any _).mono ?_; rintro e w1 ⟨rfl, k1, hb1⟩; have r1 := RT_blk exB k1 rfl)
    | (go_at_call 17; refine (Plan_any _ _ _ _ exB _ _ rfl hm4.out r1).mono ?_; rw [ex_two]; rintro e w2 ⟨O2, oc2, rfl, hO2, hb2⟩))
  have b1 := hb1.trans (hb2.mono hb1.size)
  clear r1 k1 hb1 hb2
  go_upto_region 3 with (first
    | (go_at_call 25; refine (example_any _).mono ?_; rintro e w3 ⟨rfl, k3, hb3⟩; have r3 := RT_blk exB k3 rfl)
    | (go_at_call 17; refine (Plan_any _ _ _ _ exB _ _ rfl hm4.out r3).mono ?_; rw [ex_three]; rintro e w4 ⟨O4, oc4, rfl, hO4, hb4⟩))
  have b34 := hb3.trans (hb4.mono hb3.size)
  have b2 := b1.trans (b34.mono b1.size)
  have hO2a := (hO2.below b34).more b34.size
  clear r3 k3 hb3 hb4 b1 hO2 b34
  go_upto_region 4 with (first
    | (go_at_call 25; refine (example_any _).mono ?_; rintro e w5 ⟨rfl, k5, hb5⟩; have r5 := RT_blk exB k5 rfl)
    | (go_at_call 10; refine (after_any _ _ _ _ _ _ _ exB [(0, 14), (1, 12)] _ rfl hm4.out (fun h => by cases h) r5 rfl hm2.out ((hO4.below hb5).more hb5.size)).mono ?_; rw [ex_after]; rintro e w6 ⟨O6, oc6, rfl, hO6, hb6⟩))
  have b56 := hb5.trans (hb6.mono hb5.size)
  have b3 := b2.trans (b56.mono b2.size)
  have hO2b := (hO2a.below b56).more b56.size
  have hO4b := (hO4.below b56).more b56.size
  clear r5 k5 hb5 hb6 b2 hO2a hO4 b56
  go_upto_region 5 with (first
    | (go_at_call 25; refine (example_any _).mono ?_; rintro e w7 ⟨rfl, k7, hb7⟩; have r7 := RT_blk exB k7 rfl)
    | (go_at_call 12; refine (cost_any _ _ _ _ _ _ exB [(0, 14), (1, 12)] _ rfl hm4.out r7 rfl hm2.out ((hO4b.below hb7).more hb7.size)).mono ?_; rw [ex_cost]; rintro e w8 ⟨rfl, hb8⟩))
  have b78 := hb7.trans (hb8.mono hb7.size)
  have b4 := b3.trans (b78.mono b3.size)
  have hO2c := (hO2b.below b78).more b78.size
  have hO4c := (hO4b.below b78).more b78.size
  have hO6c := (hO6.below b78).more b78.size
  clear r7 k7 hb7 hb8 b3 hO2b hO4b hO6 b78
  go_upto_region 6 with (go_at_call 25; refine (example_any _).mono ?_; rintro e w9 ⟨rfl, k9, hb9⟩)
  have c9 := k9.cell
  have f9 := k9.frozen
  have hbX := hb9.setCell (p := ⟨w8.heap.size, 2, none⟩) (Nat.le_refl _) (.bool true)
  have kX : Blk (w9.setCell ⟨w8.heap.size, 2, none⟩ (.bool true)) w8.heap.size 44 (exC true) := k9.set_ 2 (.bool true)
  go_upto_region 7 with fail
  clear k9 hb9 c9 f9
  generalize w9.setCell ⟨w8.heap.size, 2, none⟩ (.bool true) = wX at *
  have rX := RT_blk exP kX rfl
  have b5 := b4.trans (hbX.mono b4.size)
  have hO2d := (hO2c.below hbX).more hbX.size
  have hO4d := (hO4c.below hbX).more hbX.size
  have hO6d := (hO6c.below hbX).more hbX.size
  clear b4 hO2c hO4c hO6c hbX kX
  go_upto_region 8 with (go_at_call 17; refine (Plan_any _ _ _ _ exP _ _ rfl hm4.out rX).mono ?_; rw [ex_pinned]; rintro e w10 ⟨O10, oc10, rfl, hO10, hb10⟩)
  have r10 := (rX.below hb10).more hb10.size
  go_upto_region 9 with (go_at_call 19; refine (Largest_any _ _ _ _ exP _ rfl hm4.out r10).mono ?_; rw [ex_largest]; rintro e w11 ⟨rfl, hb11⟩)
  have b11 := hb10.trans (hb11.mono hb10.size)
  have b6 := b5.trans (b11.mono b5.size)
  have hO2e := (hO2d.below b11).more b11.size
  have hO4e := (hO4d.below b11).more b11.size
  have hO6e := (hO6d.below b11).more b11.size
  clear b5 b11 hb10 hb11 r10 rX hO2d hO4d hO6d hO10
  go_upto_region 11 with fail
  have hm1 := Lib.hid (show (1 : Nat) ≤ maxLen by unfold maxLen; omega)
  have hA := (Below.refl w11.heap.size w11).alloc (Nat.le_refl _) (.cells #[.int .i64 1, .int .i64 2] 42)
  have hO2f := (hO2e.below hA).more hA.size
  have kA := RU_blk [(1, 2)] (Blk.new w11 42 #[.int .i64 1, .int .i64 2]) rfl
  go_wp2_with (first
    | (go_at_call 21; have hq := hO4f; refine (sameMoves_any _ _ _ _ _ [(0, 14), (1, 12)] _ rfl hm2.out hO4f kB).mono ?_; rintro e w13 ⟨rfl, hb13⟩; have b13 := hA12.trans (hb13.mono hA12.size); have hA13 := b13.alloc b13.size (.cells #[.int .i64 14, .int .i64 1, .bool false, .int .i64 12, .int .i64 0, .bool false, .int .i64 8, .int .i64 2, .bool false, .int .i64 13, .int .i64 0, .bool false] 44); have hO6f := (hO6e.below hA13).more hA13.size; have kC := RT_blk [(14, 1, false), (12, 0, false), (8, 2, false), (13, 0, false)] (Blk.new w13 44 #[.int .i64 14, .int .i64 1, .bool false, .int .i64 12, .int .i64 0, .bool false, .int .i64 8, .int .i64 2, .bool false, .int .i64 13, .int .i64 0, .bool false]) rfl)
    | (go_at_call 21; refine (sameMoves_any _ _ _ _ _ [(1, 2)] _ rfl hm1.out hO2f kA).mono ?_; rintro e w12 ⟨rfl, hb12⟩; have b12 := hA.trans (hb12.mono hA.size); have hA12 := b12.alloc b12.size (.cells #[.int .i64 0, .int .i64 14, .int .i64 1, .int .i64 12] 42); have hO4f := (hO4e.below hA12).more hA12.size; have kB := RU_blk [(0, 14), (1, 12)] (Blk.new w12 42 #[.int .i64 0, .int .i64 14, .int .i64 1, .int .i64 12]) rfl)
    | (go_at_call 16; refine (sameBlocks_any _ _ _ _ _ [(14, 1, false), (12, 0, false), (8, 2, false), (13, 0, false)] _ rfl hm4.out hO6f kC).mono ?_; rintro e w14 ⟨rfl, hb14⟩; have b14 := hA13.trans (hb14.mono hA13.size)))
  go_ret
  exact ⟨rfl, b6.trans (b14.mono b6.size)⟩
end Go.Proofs.Ytifdgabfnnkghaa
