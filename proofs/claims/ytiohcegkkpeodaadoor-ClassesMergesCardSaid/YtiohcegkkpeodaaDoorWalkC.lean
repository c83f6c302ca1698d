/- Walks: the worst size of a table. -/
import Derived.Test.YtiohcegkkpeodaaDoorWalkB
namespace Go.Proofs.YtiohcegkkpeodaaDoor
open Go Go.Proofs Go.RowKit Go.Pol

set_option maxHeartbeats 400000 in
theorem worst_any (A : Option Addr) (n cap : Nat) (xs : List Int) (w : World) (hn : xs.length = n) (hm : n ≤ maxLen) (hr : RI w w.heap.size A xs) :
    Calls Tryd.prog 25 #[.agg #[.slice A n cap]] w fun e w' => e = .returned (.tuple #[.int .i64 (wrsT xs).1, .int .i64 (wrsT xs).2.1, .int .i64 (wrsT xs).2.2.1, .int .i64 (wrsT xs).2.2.2]) ∧ Below w.heap.size w w' := by
  have hck := fun W (h : RI W W.heap.size A xs) => check_any A n cap xs W hn hm h
  have HCK := Lib.hid hck
  clear hck
  unfold maxLen at hm
  have hn' := Lib.hid hn
  clear hn
  have hb0 : ∀ t, Below w.heap.size w (w.alloc (Obj.cells #[Value.slice A n cap] t)) := fun t => (Below.refl _ _).alloc (Nat.le_refl _) _
  have hr0 := (hr.below (hb0 27)).more (B' := (w.alloc (Obj.cells #[Value.slice A n cap] 27)).heap.size) (by simp)
  by_cases he : chkT xs = 0
  case neg =>
    have he' : (chkT xs != 0) = true := by simpa using he
    have H : Hid (wrsT xs = (0, 0, 0, chkT xs)) := Lib.hid (by unfold wrsT; rw [if_neg he])
    clear he
    go_enter Tryd.func25, Tryd.ntmps25
    go_wp2_with (go_at_call 17; refine (HCK.out _ hr0).mono ?_; rintro e w1 ⟨rfl, hq⟩)
    (try simp only [Exit.inBlock, Exit.then]); refine bodyPost_ret (results_tmp4 rfl _ _ _) rfl ?_
    exact ⟨by rw [H.out]; rfl, (hb0 _).trans (hq.mono (by simp))⟩
  case pos =>
    have hok := Lib.hid (chkT_ok he)
    have he' : (chkT xs != 0) = false := by simpa using he
    have H : Hid (wrsT xs = ((wrs 0 (-1, 1) 1 xs).1, (wrs 0 (-1, 1) 1 xs).2.1 / (Nat.gcd (wrs 0 (-1, 1) 1 xs).2.1.toNat (wrs 0 (-1, 1) 1 xs).2.2.toNat : Nat), (wrs 0 (-1, 1) 1 xs).2.2 / (Nat.gcd (wrs 0 (-1, 1) 1 xs).2.1.toNat (wrs 0 (-1, 1) 1 xs).2.2.toNat : Nat), 0)) := Lib.hid (by unfold wrsT; rw [if_pos he])
    clear he
    obtain ⟨R, hR⟩ : ∃ R, wrs 0 (-1, 1) 1 xs = R := ⟨_, rfl⟩
    rw [hR] at H
    have HR := Lib.hid hR
    clear hR
    have hn1 : 1 ≤ n := by have := hok.out.pos; have := hn'.out; omega
    go_enter Tryd.func25, Tryd.ntmps25
    go_wp2_with (go_at_call 17; refine (HCK.out _ hr0).mono ?_; rintro e w1 ⟨rfl, hq⟩; have k1 := (Blk.new w 27 #[Value.slice A n cap]).call hq; have c1 := k1.cell; have hlt1 : w.heap.size < w1.heap.size := k1.lt)
    have hb1 : Below w.heap.size w w1 := (hb0 _).trans (hq.mono (by simp))
    have k7 := Blk.new w1 53 #[Value.int .i64 (-1), Value.int .i64 1]
    have k1' := k1.alloc (.cells #[Value.int .i64 (-1), Value.int .i64 1] 53)
    have hb2 : Below w.heap.size w (w1.alloc (.cells #[Value.int .i64 (-1), Value.int .i64 1] 53)) := hb1.alloc hb1.size _
    clear he' c1
    go_loopw [2, 8, 21] (fun sz fs i wr => ∃ (k s f a b : Int), 0 ≤ k ∧ k ≤ n ∧ i = .int .i64 k ∧ sz = .int .i64 s ∧ fs = .int .i64 f ∧ Hid (f = prev xs k.toNat + 1) ∧ -1 ≤ a ∧ a ≤ 4096 ∧ 1 ≤ b ∧ b ≤ 4096 ∧ Hid ((k = 0 ∧ a = -1 ∧ b = 1) ∨ 0 ≤ a) ∧ Below w.heap.size w wr ∧ Blk wr w1.heap.size 53 #[.int .i64 a, .int .i64 b] ∧ Blk wr w.heap.size 27 #[Value.slice A n cap] ∧ Hid (wrs s (a, b) f (xs.drop k.toNat) = R)) (fun _ _ i _ => n - (intOf i).toNat)
    case atStart => exact ⟨0, 0, 1, -1, 1, by omega, by omega, rfl, rfl, rfl, Lib.hid (by simp [prev]), by omega, by omega, by omega, by omega, Lib.hid (.inl ⟨rfl, rfl, rfl⟩), hb2, k7, k1', Lib.hid (by simpa using HR.out)⟩
    case round =>
      obtain ⟨k, s, f, a, b, hk0, hk, rfl, rfl, rfl, hf, ha0, ha1, hb0', hb1', hab, hB, kb, kt, hL⟩ := hrel
      by_cases hlt : k < n
      · obtain ⟨g, o, rfl, _, hc⟩ := RI.at_ (hr.below hB) (k := k.toNat) (by have := hn'.out; omega)
        have hd := Lib.hid (drop_cons 0 xs k.toNat (by have := hn'.out; omega))
        have hsucc : Hid ((k+1).toNat = k.toNat + 1) := Lib.hid (by omega)
        have hps := Lib.hid (prev_succ xs k.toNat)
        have hx := hok.out.at_ k.toNat (by have := hn'.out; omega)
        have hp0 : 0 ≤ prev xs k.toNat := by
          unfold prev
          split
          · omega
          · have := hok.out.at_ (k.toNat - 1) (by have := hn'.out; omega); omega
        generalize xs.getD k.toNat 0 = c at *
        obtain ⟨hx1, hx2, hx3⟩ := hx
        have hf1 : 1 ≤ f := by have := hf.out; omega
        have hf2 : f ≤ c := by have := hf.out; omega
        clear hp0 hx3
        have ct := kt.cell
        have lt := kt.lt
        have cb := kb.cell
        have lb := kb.lt
        by_cases hl : less (a, b) (c - f, c) = true
        · have hst : Hid (wrs f (c - f, c) (c + 1) (xs.drop (k+1).toNat) = R) := Lib.hid (by rw [← hL.out, hd.out, hsucc.out, wrs, if_pos hl])
          go_wp2_with (go_at_call 23; refine (less_any _ _ _ _ _ (by omega) (by omega) (by omega) (by omega)).mono ?_; rintro e w2 ⟨rfl, hq2⟩; have kb2 := (kb.alloc _).call hq2; have kt2 := (kt.alloc _).call hq2; have kx2 := (Blk.new wr 53 #[Value.int .i64 (c - f), Value.int .i64 c]).call hq2; have eb := fun x : Ext w2 => (x.blk kb2).cell; have fb := fun x : Ext w2 => (x.blk kb2).frozen; have ex := fun x : Ext w2 => (x.blk kx2).cell)
          refine region_ext_tail 3 (by kernel_rfl) (by kernel_rfl) ?_
          simp only [List.take_succ_cons, List.take_zero, List.drop_succ_cons, List.drop_zero]
          repeat (go_big_quiet_step (fail))
          refine wpQuiet_nil ?_
          intro z
          go_wp2
          have hBz := ((hB.alloc hB.size _).trans (hq2.mono (by have := hB.size; simp; omega))).trans (z.le.mono (by have := hB.size; have := hq2.size; simp at this; omega))
          go_roundw
          case rel => exact ⟨k+1, f, c+1, c-f, c, by omega, by omega, rfl, rfl, rfl, Lib.hid (by rw [hsucc.out, hps.out]), by omega, by omega, by omega, by omega, Lib.hid (.inr (by omega)), (hBz.setCell (p := ⟨w1.heap.size, 0, none⟩) (by have := hb1.size; simpa using this) _).setCell (p := ⟨w1.heap.size, 1, none⟩) (by have := hb1.size; simpa using this) _, (((z.blk kb2).set_ 0 _).set_ 1 _), (((z.blk kt2).far (by simp; omega) _).far (by simp; omega) _), hst⟩
          case measure => simp [intOf]; omega
        · have hl' : less (a, b) (c - f, c) = false := by simpa using hl
          have hst : Hid (wrs s (a, b) (c + 1) (xs.drop (k+1).toNat) = R) := Lib.hid (by rw [← hL.out, hd.out, hsucc.out, wrs, if_neg hl])
          have ha : Hid ((k + 1 = 0 ∧ a = -1 ∧ b = 1) ∨ 0 ≤ a) := Lib.hid (by
            rcases hab.out with ⟨h1, h2, h3⟩ | h1
            · exfalso
              apply hl
              rw [h2, h3]
              simp [less]; omega
            · exact .inr h1)
          clear hl
          go_wp2_with (go_at_call 23; refine (less_any _ _ _ _ _ (by omega) (by omega) (by omega) (by omega)).mono ?_; rintro e w2 ⟨rfl, hq2⟩; have kb2 := (kb.alloc _).call hq2; have kt2 := (kt.alloc _).call hq2)
          have hBz := (hB.alloc hB.size _).trans (hq2.mono (by have := hB.size; simp; omega))
          go_roundw
          case rel => exact ⟨k+1, s, c+1, a, b, by omega, by omega, rfl, rfl, rfl, Lib.hid (by rw [hsucc.out, hps.out]), by omega, by omega, by omega, by omega, ha, hBz, kb2, kt2, hst⟩
          case measure => simp [intOf]; omega
      · have hfin : Hid (R = (s, (a, b))) := Lib.hid (by rw [← hL.out, List.drop_of_length_le (by have := hn'.out; omega)]; rfl)
        have ha : 0 ≤ a := by rcases hab.out with ⟨h1, _, _⟩ | h1 <;> omega
        have cb := kb.cell
        have lb := kb.lt
        go_wp2_with (go_at_call 35; refine (lowest_any _ _ _ (by omega) (by omega)).mono ?_; rintro e w2 ⟨rfl, hq2⟩; have kb2 := kb.call hq2; have cb2 := kb2.cell; have fb2 := kb2.frozen)
        go_quiet (fail)
        go_wp2
        (try simp only [Exit.inBlock, Exit.then]); refine bodyPost_ret (results_tmp4 rfl _ _ _) rfl ?_
        refine ⟨by rw [H.out, hfin.out]; rfl, below_drewN ?_ _⟩
        exact ((hB.trans (hq2.mono hB.size)).setCell (p := ⟨w1.heap.size, 0, none⟩) (by have := hb1.size; simpa using this) _).setCell (p := ⟨w1.heap.size, 1, none⟩) (by have := hb1.size; simpa using this) _
end Go.Proofs.YtiohcegkkpeodaaDoor
