/- Walks: Order of the program: the order of the blocks that waste least, over a package-level variable that reads as the pair (-1, -1). -/
import Derived.Test.YtiohcegkkpeodaaDoorWalkC
import Derived.Laws.StructEq
namespace Go.Pol
/-- the best loss and its order behind the first orders -/
def ordS (s : Int) : Nat → (Int × Int) × Int
  | 0 => ((-1, -1), 0)
  | k + 1 =>
    let st := ordS s k
    let b : Int := 64 * 2 ^ k
    if 0 < b / s ∧ (st.1 = (-1, -1) ∨ less (b % s, b / s) st.1 = true) then ((b % s, b / s), (k : Int)) else st
def ordT (xs : List Int) (c : Int) : Int × Int :=
  if chkT xs = 0 then
    if c < 0 ∨ (xs.length : Int) ≤ c then (0, 7)
    else if (ordS (xs.getD c.toNat 0) 5).1 = (-1, -1) then (0, 4) else ((ordS (xs.getD c.toNat 0) 5).2, 0)
  else (0, chkT xs)
theorem ordS_bound {s : Int} (h1 : 1 ≤ s) (h2 : s ≤ 4096) : ∀ k : Nat, k ≤ 5 → (ordS s k).1 = (-1, -1) ∨ (0 ≤ (ordS s k).1.1 ∧ (ordS s k).1.1 ≤ 4096 ∧ 1 ≤ (ordS s k).1.2 ∧ (ordS s k).1.2 ≤ 1024)
  | 0, _ => .inl rfl
  | k + 1, hk => by
    have ih := ordS_bound h1 h2 k (by omega)
    simp only [ordS]
    split
    · rename_i h
      dsimp only
      have hb : (64 : Int) * 2 ^ k ≤ 1024 ∧ (0 : Int) ≤ 64 * 2 ^ k := by
        rcases (show k = 0 ∨ k = 1 ∨ k = 2 ∨ k = 3 ∨ k = 4 by omega) with rfl | rfl | rfl | rfl | rfl <;> decide
      obtain ⟨hb1, hb2⟩ := hb
      generalize (64 : Int) * 2 ^ k = B at *
      refine .inr ⟨Int.emod_nonneg _ (by omega), ?_, by omega, ?_⟩
      · have := Int.emod_lt_of_pos B (show 0 < s by omega)
        omega
      · have := Int.ediv_le_self s hb2
        omega
    · exact ih
end Go.Pol
namespace Go.Proofs.YtiohcegkkpeodaaDoor
open Go Go.Proofs Go.RowKit Go.Pol
/-- the package-level variable 'none' reads as the pair (-1, -1) -/
def NoneIs (w : World) : Prop := w.cell? ⟨0, 0, none⟩ = some (.int .i64 (-1)) ∧ w.cell? ⟨0, 1, none⟩ = some (.int .i64 (-1))
theorem NoneIs.below {w w' : World} {B : Nat} (h : NoneIs w) (hb : Below B w w') (hB : 0 < B) : NoneIs w' :=
  ⟨(hb.cell (p := ⟨0, 0, none⟩) hB).trans h.1, (hb.cell (p := ⟨0, 1, none⟩) hB).trans h.2⟩

set_option maxRecDepth 100000 in
theorem eq_ratio (a b c d : Int) (w : World) : (Op.equalIn 10000 53 (.agg #[.int .i64 a, .int .i64 b]) (.agg #[.int .i64 c, .int .i64 d])).run Tryd.prog w = .ok (a == c && b == d) w := by
  have u3 := Tryd.underlying3
  have a3 := Tryd.isAgg3
  have z3 := Tryd.sizeOf3
  rw [show (10000 : Nat) = 9999 + 1 from rfl, Op.equalIn]
  simp only [Sem.run_bind, run_underlying Tryd.underlying53, Result.andThen_ok]
  simp only [Std.Legacy.Range.forIn_eq_forIn_range', Std.Legacy.Range.size, Nat.sub_zero, Nat.add_sub_cancel, Nat.div_one, List.range'_succ, List.range'_zero, List.forIn_cons, List.forIn_nil]
  go_simp
  by_cases h1 : a = c <;> by_cases h2 : b = d <;> simp [h1, h2]
set_option maxRecDepth 100000 in
set_option maxHeartbeats 1600000 in
theorem order_ok (A : Option Addr) (n cap : Nat) (xs : List Int) (c : Int) (w : World) (hn : xs.length = n) (hm : n ≤ maxLen) (hr : RI w w.heap.size A xs) (hz : NoneIs w)
    (he : chkT xs = 0) (hc0 : 0 ≤ c) (hc1 : c < n) (s : Int) (hs : xs.getD c.toNat 0 = s)
    (R : Int × Int) (hR : (if (ordS s 5).1 = (-1, -1) then (0, 4) else ((ordS s 5).2, 0)) = R) :
    Calls Tryd.prog 9 #[.agg #[.slice A n cap], .int .i64 c] w fun e w' => e = .returned (.tuple #[.int .i64 R.1, .int .i64 R.2]) ∧ Below w.heap.size w w' := by
  have HR := Lib.hid hR
  clear hR
  have hck := fun W (h : RI W W.heap.size A xs) => check_any A n cap xs W hn hm h
  rw [he] at hck
  have HCK := Lib.hid hck
  clear hck
  have hok := chkT_ok he
  have hg : 0 < w.heap.size := World.block_lt_of_cell? _ _ hz.1
  have hs1 : 1 ≤ s ∧ s ≤ 4096 := by
    have := hok.at_ c.toNat (by omega)
    rw [hs] at this
    exact ⟨this.1, this.2.1⟩
  have hk5 : n ≤ 64 := by have := hok.len; omega
  have HT := Lib.hid (fun (W : World) (h : RI W W.heap.size A xs) => RI.at_ h (k := c.toNat) (by omega))
  clear he hok
  have hb0 := (Below.refl w.heap.size w).alloc (Nat.le_refl _) (.cells #[Value.slice A n cap] 27)
  have k0 := Blk.new w 27 #[Value.slice A n cap]
  have hr0 := (hr.below hb0).more (B' := (w.alloc (Obj.cells #[Value.slice A n cap] 27)).heap.size) (by simp)
  have d1 : decide (c < 0) = false := decide_eq_false (by omega)
  have d2 : decide ((n : Int) ≤ c) = false := decide_eq_false (by omega)
  go_enter Tryd.func9, Tryd.ntmps9
  go_wp2_with fail
  refine (HCK.out _ hr0).mono ?_
  rintro e w1 ⟨rfl, hb1⟩
  have B1 := hb0.trans (hb1.mono hb0.size)
  have k1 := k0.call hb1
  have c1 := k1.cell
  have z1 := hz.below B1 hg
  clear k0 hb0 hb1 hr0
  obtain ⟨z1a, z1b⟩ := z1
  go_wp2_with fail
  have kb0 := Blk.new w1 53 #[Value.int .i64 (-1), Value.int .i64 (-1)]
  have kt0 := k1.alloc (.cells #[Value.int .i64 (-1), Value.int .i64 (-1)] 53)
  have B2 := B1.alloc B1.size (.cells #[Value.int .i64 (-1), Value.int .i64 (-1)] 53)
  have hw1 : w.heap.size < w1.heap.size := k1.lt
  clear c1 z1a z1b k1
  have HZ := Lib.hid hz
  clear hz
  have HS := Lib.hid hs1
  go_loopw [8, 28] (fun o i wr => ∃ (k : Int) (v a b : Int), 0 ≤ k ∧ k ≤ 5 ∧ i = .int .i64 k ∧ o = .int .i64 v ∧ Hid (ordS s k.toNat = ((a, b), v)) ∧ Below w.heap.size w wr ∧ Blk wr w1.heap.size 53 #[.int .i64 a, .int .i64 b] ∧ Blk wr w.heap.size 27 #[Value.slice A n cap]) (fun _ i _ => 5 - (intOf i).toNat)
  case atStart => exact ⟨0, 0, -1, -1, by omega, by omega, rfl, rfl, Lib.hid rfl, B2, kb0, kt0⟩
  case round =>
    obtain ⟨k, v, a, b, hk0, hk, rfl, rfl, hL, hB, kb, kt⟩ := hrel
    have ct := kt.cell
    have cb := kb.cell
    have lb := kb.lt
    have lt := kt.lt
    obtain ⟨z0, z1⟩ := HZ.out.below hB hg
    by_cases hlt : k < 5
    · obtain ⟨g, o, rfl, hgl, hc⟩ := HT.out wr ((hr.below hB).more hB.size)
      rw [hs] at hc
      have hs1' : ¬ s = 0 := by omega
      have h0lt : 0 < wr.heap.size := by omega
      have hkn : Hid ((k + 1).toNat = k.toNat + 1) := Lib.hid (by omega)
      have hbd := ordS_bound hs1.1 hs1.2 k.toNat (by omega)
      rw [hL.out] at hbd
      dsimp only at hbd
      obtain ⟨bb, hbb⟩ : ∃ bb : Int, (64 : Int) * 2 ^ k.toNat = bb := ⟨_, rfl⟩
      have hbb1 : 0 ≤ bb ∧ bb ≤ 1024 := by
        rw [← hbb]
        rcases (show k = 0 ∨ k = 1 ∨ k = 2 ∨ k = 3 ∨ k = 4 by omega) with rfl | rfl | rfl | rfl | rfl <;> decide
      have hq0 : 0 ≤ bb / s ∧ bb / s ≤ 1024 := ⟨Int.ediv_nonneg hbb1.1 (by omega), Int.le_trans (Int.ediv_le_self s hbb1.1) hbb1.2⟩
      have hr0 : 0 ≤ bb % s ∧ bb % s ≤ 4096 := ⟨Int.emod_nonneg _ (by omega), by have := Int.emod_lt_of_pos bb (show 0 < s by omega); omega⟩
      have hw0 : wrap64 (64 * 2 ^ k.toNat) = bb := by rw [hbb]; unfold wrap64; omega
      have hw2 : bb.tdiv s = bb / s := Int.tdiv_eq_ediv_of_nonneg hbb1.1
      have hw3 : bb.tmod s = bb % s := Int.tmod_eq_emod_of_nonneg hbb1.1
      have hw1' : wrap64 (bb / s) = bb / s := by unfold wrap64; omega
      have hN : Hid (ordS s (k + 1).toNat = if 0 < bb / s ∧ ((a, b) = ((-1, -1) : Int × Int) ∨ less (bb % s, bb / s) (a, b) = true) then ((bb % s, bb / s), k) else ((a, b), v)) := Lib.hid (by
        rw [hkn.out, ordS]
        simp only [hL.out, hbb, Int.toNat_of_nonneg hk0])
      generalize bb / s = q at *
      generalize bb % s = r at *
      clear hbb hbb1 hs1 hL
      by_cases hq : 0 < q
      · by_cases hab : a = -1 ∧ b = -1
        · obtain ⟨rfl, rfl⟩ := hab
          clear hbd
          have hE : Hid (ordS s (k + 1).toNat = ((r, q), k)) := Lib.hid (by rw [hN.out, if_pos ⟨hq, .inl rfl⟩])
          clear hN
          have hq2 : decide (0 < q) = true := decide_eq_true hq
          have hEq : ∀ W, (Op.equalIn 10000 53 (.agg #[.int .i64 (-1), .int .i64 (-1)]) (.agg #[.int .i64 (-1), .int .i64 (-1)])).run Tryd.prog W = .ok true W := fun W => eq_ratio _ _ _ _ W
          have fb := kb.frozen
          go_wp2_with fail
          go_roundw
          case rel => exact ⟨k + 1, k, r, q, by omega, by omega, rfl, rfl, hE, ((hB.setCell (p := ⟨w1.heap.size, 0, none⟩) (by simpa using B1.size) _).setCell (p := ⟨w1.heap.size, 1, none⟩) (by simpa using B1.size) _).alloc (by simpa using hB.size) _, (((kb.set_ 0 _).set_ 1 _).alloc _), (((kt.far (by simp; omega) _).far (by simp; omega) _).alloc _)⟩
          case measure => simp [intOf]; omega
        · have hbd' : 0 ≤ a ∧ a ≤ 4096 ∧ 1 ≤ b ∧ b ≤ 1024 := by
            rcases hbd with h | h
            · simp only [Prod.mk.injEq] at h; exact absurd h hab
            · exact h
          clear hbd
          have hq2 : decide (0 < q) = true := decide_eq_true hq
          have hab2 : (a == -1 && b == -1) = false := by simp; omega
          have hEq : ∀ W, (Op.equalIn 10000 53 (.agg #[.int .i64 a, .int .i64 b]) (.agg #[.int .i64 (-1), .int .i64 (-1)])).run Tryd.prog W = .ok false W := fun W => by rw [eq_ratio, hab2]
          clear hab2
          by_cases hl : less (r, q) (a, b) = true
          · have hE : Hid (ordS s (k + 1).toNat = ((r, q), k)) := Lib.hid (by rw [hN.out, if_pos ⟨hq, .inr hl⟩])
            clear hN
            go_wp2_with (go_at_call 23; refine (less_any _ _ _ _ _ (by omega) (by omega) (by omega) (by omega)).mono ?_; rintro e w2 ⟨rfl, hq2'⟩; have kb2 := (kb.alloc _).call hq2'; have kt2 := (kt.alloc _).call hq2'; have kx2 := (Blk.new wr 53 #[Value.int .i64 r, Value.int .i64 q]).call hq2'; have eb := kb2.cell; have fb := kb2.frozen; have ex := kx2.cell; have lb2 := kb2.lt; have lx2 := kx2.lt)
            have hBz := (hB.alloc hB.size (.cells #[Value.int .i64 r, Value.int .i64 q] 53)).trans (hq2'.mono (by have := hB.size; simp; omega))
            go_roundw
            case rel => exact ⟨k + 1, k, r, q, by omega, by omega, rfl, rfl, hE, (hBz.setCell (p := ⟨w1.heap.size, 0, none⟩) (by simpa using B1.size) _).setCell (p := ⟨w1.heap.size, 1, none⟩) (by simpa using B1.size) _, ((kb2.set_ 0 _).set_ 1 _), ((kt2.far (by simp; omega) _).far (by simp; omega) _)⟩
            case measure => simp [intOf]; omega
          · have hl' : less (r, q) (a, b) = false := by simpa using hl
            have hE : Hid (ordS s (k + 1).toNat = ((a, b), v)) := Lib.hid (by rw [hN.out, if_neg (by rw [hl']; simp only [Prod.mk.injEq, Bool.false_eq_true, or_false]; exact fun h => hab h.2)])
            clear hN hl
            go_wp2_with (go_at_call 23; refine (less_any _ _ _ _ _ (by omega) (by omega) (by omega) (by omega)).mono ?_; rintro e w2 ⟨rfl, hq2'⟩; have kb2 := (kb.alloc _).call hq2'; have kt2 := (kt.alloc _).call hq2')
            have hBz := (hB.alloc hB.size _).trans (hq2'.mono (by have := hB.size; simp; omega))
            go_roundw
            case rel => exact ⟨k + 1, v, a, b, by omega, by omega, rfl, rfl, hE, hBz, kb2, kt2⟩
            case measure => simp [intOf]; omega
      · have hE : Hid (ordS s (k + 1).toNat = ((a, b), v)) := Lib.hid (by rw [hN.out, if_neg (fun h => hq h.1)])
        have hq' : decide (0 < q) = false := decide_eq_false hq
        go_wp2_with fail
        go_roundw
        case rel => exact ⟨k + 1, v, a, b, by omega, by omega, rfl, rfl, hE, hB, kb, kt⟩
        case measure => simp [intOf]; omega
    · obtain rfl : k = 5 := by omega
      have hE : Hid (ordS s 5 = ((a, b), v)) := hL
      clear hL
      by_cases hab : a = -1 ∧ b = -1
      · obtain ⟨rfl, rfl⟩ := hab
        have hEq : ∀ W, (Op.equalIn 10000 53 (.agg #[.int .i64 (-1), .int .i64 (-1)]) (.agg #[.int .i64 (-1), .int .i64 (-1)])).run Tryd.prog W = .ok true W := fun W => eq_ratio _ _ _ _ W
        go_wp2_with fail
        go_ret2
        exact ⟨by rw [← HR.out, hE.out]; rfl, hB⟩
      · have hab2 : (a == -1 && b == -1) = false := by simp; omega
        have hEq : ∀ W, (Op.equalIn 10000 53 (.agg #[.int .i64 a, .int .i64 b]) (.agg #[.int .i64 (-1), .int .i64 (-1)])).run Tryd.prog W = .ok false W := fun W => by rw [eq_ratio, hab2]
        clear hab2
        go_wp2_with fail
        go_ret2
        exact ⟨by rw [← HR.out, hE.out, if_neg (by simp only [Prod.mk.injEq]; exact hab)]; rfl, hB⟩
end Go.Proofs.YtiohcegkkpeodaaDoor
