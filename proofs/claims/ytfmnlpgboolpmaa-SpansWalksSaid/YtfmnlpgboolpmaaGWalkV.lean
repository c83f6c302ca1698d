/- Walks: cmp.Compare[int], the order by the first page, join of a span to the last one. -/
import Derived.Test.YtfmnlpgboolpmaaGWalkU
import Derived.Test.YtfmnlpgboolpmaaGWalkJ
namespace Go.Proofs.Ytfmnlpgboolpmaa
open Go Go.Proofs Go.RowKit Go.Pol

theorem isNaN_any (x : Int) (w : World) : Calls Try.prog 118 #[.int .i64 x] w fun e w' => e = .returned (.bool false) ∧ w' = w := by
  go_enter Try.func118, Try.ntmps118
  go_wp2
  go_ret
  exact ⟨by simp, rfl⟩

def cmpI (x y : Int) : Int := if x < y then -1 else if y < x then 1 else 0
theorem compare_any (x y : Int) (w : World) : Calls Try.prog 109 #[.int .i64 x, .int .i64 y] w fun e w' => e = .returned (.int .i64 (cmpI x y)) ∧ w' = w := by
  obtain ⟨R, hR0⟩ : ∃ R, cmpI x y = R := ⟨_, rfl⟩
  rw [hR0]
  have hR := Lib.hid hR0
  clear hR0
  by_cases h1 : x < y
  · have h1' : decide (x < y) = true := by simpa using h1
    have hE : Hid (R = -1) := Lib.hid (by rw [← hR.out, cmpI, if_pos h1])
    clear h1
    go_enter Try.func109, Try.ntmps109
    go_wp2_with (go_at_call 118; refine (isNaN_any _ _).mono ?_; rintro e w' ⟨rfl, rfl⟩)
    go_ret
    exact ⟨ret_int hE.out.symm, rfl⟩
  · have h1' : decide (x < y) = false := by simpa using h1
    by_cases h2 : y < x
    · have h2' : decide (y < x) = true := by simpa using h2
      have hE : Hid (R = 1) := Lib.hid (by rw [← hR.out, cmpI, if_neg h1, if_pos h2])
      clear h1 h2
      go_enter Try.func109, Try.ntmps109
      go_wp2_with (go_at_call 118; refine (isNaN_any _ _).mono ?_; rintro e w' ⟨rfl, rfl⟩)
      go_ret
      exact ⟨ret_int hE.out.symm, rfl⟩
    · have h2' : decide (y < x) = false := by simpa using h2
      have hE : Hid (R = 0) := Lib.hid (by rw [← hR.out, cmpI, if_neg h1, if_neg h2])
      clear h1 h2
      go_enter Try.func109, Try.ntmps109
      go_wp2_with (go_at_call 118; refine (isNaN_any _ _).mono ?_; rintro e w' ⟨rfl, rfl⟩)
      go_ret
      exact ⟨ret_int hE.out.symm, rfl⟩

theorem of1_any (x y : Sp) (w : World) : Calls Try.prog 108 #[.agg #[.int .i64 x.1, .int .i64 x.2], .agg #[.int .i64 y.1, .int .i64 y.2]] w fun e w' => e = .returned (.int .i64 (cmpI x.1 y.1)) ∧
    w' = (w.alloc (.cells #[.int .i64 x.1, .int .i64 x.2] 40)).alloc (.cells #[.int .i64 y.1, .int .i64 y.2] 40) := by
  have HC := Lib.hid (fun W => compare_any x.1 y.1 W)
  generalize cmpI x.1 y.1 = R at *
  go_enter Try.func108, Try.ntmps108
  go_wp2_with (go_at_call 109; refine (HC.out _).mono ?_; rintro e w' ⟨rfl, rfl⟩)
  go_ret
  exact ⟨rfl, rfl⟩

/-- a span behind sorted ones: joined to the last one where they touch -/
def joinF (xs : List Sp) (x : Sp) : List Sp :=
  match xs.getLast? with
  | none => [x]
  | some l => if x.1 ≤ l.1 + l.2 then xs.dropLast ++ [(l.1, max (l.1 + l.2) (x.1 + x.2) - l.1)] else xs ++ [x]
theorem joinF_nil (x : Sp) : joinF [] x = [x] := rfl
theorem joinF_snoc (pre : List Sp) (l x : Sp) : joinF (pre ++ [l]) x = if x.1 ≤ l.1 + l.2 then pre ++ [(l.1, max (l.1 + l.2) (x.1 + x.2) - l.1)] else pre ++ [l] ++ [x] := by simp [joinF]
set_option maxRecDepth 100000 in
set_option maxHeartbeats 1600000 in
theorem join_any (base : Nat) (v : Value) (xs : List Sp) (x : Sp) (w : World) (hx : (-100000 ≤ x.1 ∧ x.1 ≤ 50000) ∧ -100000 ≤ x.2 ∧ x.2 ≤ 50000) (hxs : ∀ y ∈ xs, (-100000 ≤ y.1 ∧ y.1 ≤ 50000) ∧ -100000 ≤ y.2 ∧ y.2 ≤ 50000) (hlen : xs.length ≤ 100000) (hbase : base ≤ w.heap.size)
    (hrow : w.ownsRow base 40 2 v xs.length (spCells xs)) :
    Calls Try.prog 110 #[v, .agg #[.int .i64 x.1, .int .i64 x.2]] w fun e w' => ∃ v', e = .returned v' ∧ w'.ownsRow base 40 2 v' (joinF xs x).length (spCells (joinF xs x)) ∧ Below base w w' := by
  obtain ⟨i0, hi, hz0, hz1, hz2⟩ := infoSp_parts
  obtain ⟨xa, xb⟩ := x
  simp only at hx ⊢
  have hb0 := (Below.refl w.heap.size w).alloc (Nat.le_refl _) (.cells #[.int .i64 xa, .int .i64 xb] 40)
  have k0 := Blk.new w 40 #[.int .i64 xa, .int .i64 xb]
  have c0 := k0.cell
  rcases List.eq_nil_or_concat xs with rfl | ⟨pre, l, rfl⟩
  · obtain ⟨A, cap, rfl⟩ := own_nil_iff hrow rfl
    rw [joinF_nil]
    go_enter Try.func110, Try.ntmps110
    go_upto_region 2 with fail
    refine region_ext (by kernel_rfl) (by kernel_rfl) ?_
    repeat (go_big_quiet_step (fail))
    refine wpQuiet_nil ?_
    rintro w1 ⟨⟨_, hw1⟩, rfl⟩
    have B1 := hb0.trans (hw1.mono hb0.size)
    have k1 := k0.call hw1
    have c1 := k1.cell
    have kN := Blk.new w1 40 #[.int .i64 xa, .int .i64 xb]
    have hrow1 : w1.ownsRow base 40 2 (.slice A 0 cap) ([] : List Sp).length (spCells ([] : List Sp)) := ownsRow_call hrow B1
    go_wp2_with (refine wpList_append_own _ rfl (.tmp 43) (.tmp 45) 36 rfl base 40 i0 (.agg #[.int .i64 0, .int .i64 0]) 2 16 Try.underlying36 hi hz0 hz1 hz2 rfl (by decide) _ 0 (spCells ([] : List Sp)) rfl (hrow1.alloc _) ⟨w1.heap.size, 0, none⟩ 1 1 [.int .i64 xa, .int .i64 xb] rfl rfl (news_two kN) news_one2 (by unfold maxLen; omega) (by omega) (by have := B1.size; simp; omega) ?_; intro v' w3 hown' hgrow _)
    go_ret
    exact ⟨v', rfl, by simpa [spCells] using hown', ((B1.mono hbase).alloc (by have := B1.size; omega) _).grown hgrow (by have := B1.size; simp; omega) (fun j hj => (hrow1.lt j hj).1)⟩
  · rw [List.concat_eq_append] at *
    rw [joinF_snoc]
    have hlx := hxs l (by simp)
    clear hxs
    obtain ⟨la, lb⟩ := l
    simp only at hlx ⊢
    rw [List.length_append, List.length_singleton] at hrow hlen
    have hrow0 := ownsRow_call hrow hb0
    obtain ⟨g, cap, rfl⟩ := ownsRow_succ hrow
    have hgb := hrow0.lt g rfl
    have hca : (w.alloc (.cells #[.int .i64 xa, .int .i64 xb] 40)).cell? ⟨g, pre.length * 2, none⟩ = some (.int .i64 la) := by
      rw [hrow0.cellAt _ (by omega), spCells_snoc, List.getElem?_append_right (by rw [spCells_len]; exact Nat.le_refl _), spCells_len]
      simp
    have hcb : (w.alloc (.cells #[.int .i64 xa, .int .i64 xb] 40)).cell? ⟨g, pre.length * 2 + 1, none⟩ = some (.int .i64 lb) := by
      rw [hrow0.cellAt _ (by omega), spCells_snoc, List.getElem?_append_right (by rw [spCells_len]; omega), spCells_len]
      simp
    obtain ⟨k, hk⟩ : ∃ k, pre.length = k := ⟨_, rfl⟩
    rw [hk] at hca hcb hlen ⊢
    have hk' := Lib.hid hk
    have hrow' := Lib.hid hrow
    clear hk hrow
    have q1 := fun z : Ext (w.alloc (.cells #[.int .i64 xa, .int .i64 xb] 40)) => z.cell hca
    have q2 := fun z : Ext (w.alloc (.cells #[.int .i64 xa, .int .i64 xb] 40)) => z.cell hcb
    have q3 := fun z : Ext (w.alloc (.cells #[.int .i64 xa, .int .i64 xb] 40)) => (z.blk k0).cell
    have C1 : Hid (∀ z : Ext (w.alloc (.cells #[.int .i64 xa, .int .i64 xb] 40)), Calls Try.prog 93 #[.agg #[.int .i64 la, .int .i64 lb]] z.w fun e w'' => e = .returned (.int .i64 (la + lb)) ∧ ∃ y : Ext (w.alloc (.cells #[.int .i64 xa, .int .i64 xb] 40)), w'' = y.w) := Lib.hid (fun z => Ext.call (end_any la lb _ (by omega) (by omega)))
    by_cases hle : xa ≤ la + lb
    · have hle' : decide (xa ≤ la + lb) = true := by simpa using hle
      rw [if_pos hle]
      go_enter Try.func110, Try.ntmps110
      go_upto_region 2 with fail
      refine region_ext (by kernel_rfl) (by kernel_rfl) ?_
      repeat (go_big_quiet_step ((go_at_call 93; exact C1.out _)))
      refine wpQuiet_nil ?_
      rintro w1 ⟨⟨_, hw1⟩, rfl⟩
      have B1 := hb0.trans (hw1.mono hb0.size)
      have k1 := k0.call hw1
      have hg0 : g < (w.alloc (.cells #[.int .i64 xa, .int .i64 xb] 40)).heap.size := hgb.2
      have hca1 := (hw1.cell (p := ⟨g, k * 2, none⟩) hg0).trans hca
      have hcb1 := (hw1.cell (p := ⟨g, k * 2 + 1, none⟩) hg0).trans hcb
      clear q1 q2 q3 C1
      have q1 := fun z : Ext w1 => z.cell hca1
      have q2 := fun z : Ext w1 => z.cell hcb1
      have q3 := fun z : Ext w1 => (z.blk k1).cell
      have C1 : Hid (∀ z : Ext w1, Calls Try.prog 93 #[.agg #[.int .i64 la, .int .i64 lb]] z.w fun e w'' => e = .returned (.int .i64 (la + lb)) ∧ ∃ y : Ext w1, w'' = y.w) := Lib.hid (fun z => Ext.call (end_any la lb _ (by omega) (by omega)))
      have C2 : Hid (∀ z : Ext w1, Calls Try.prog 93 #[.agg #[.int .i64 xa, .int .i64 xb]] z.w fun e w'' => e = .returned (.int .i64 (xa + xb)) ∧ ∃ y : Ext w1, w'' = y.w) := Lib.hid (fun z => Ext.call (end_any xa xb _ (by omega) (by omega)))
      have hmx : -200000 ≤ max (la + lb) (xa + xb) ∧ max (la + lb) (xa + xb) ≤ 200000 := by omega
      go_upto_region 3 with fail
      refine region_ext_tail 19 (by kernel_rfl) (by kernel_rfl) ?_
      simp only [List.take_succ_cons, List.take_zero, List.drop_succ_cons, List.drop_zero]
      iterate 9 go_big_quiet_step ((go_at_call 93; exact C1.out _))
      repeat (go_big_quiet_step ((go_at_call 93; exact C2.out _)))
      refine wpQuiet_nil ?_
      intro z
      have hrz := ownsRow_call hrow'.out (B1.trans (z.le.mono B1.size))
      have hfz := hrz.frozenAt (k * 2 + 1)
      have hcz := z.cell hcb1
      obtain ⟨hst, hgr⟩ := hrz.stored (k * 2 + 1) (.int .i64 (max (la + lb) (xa + xb) - la))
      rw [← hk'.out, spCells_set, hk'.out] at hst
      go_wp2_with fail
      go_ret
      exact ⟨_, rfl, by simpa [hk'.out] using hst, ((B1.trans (z.le.mono B1.size)).mono hbase).grown hgr (by have := B1.size; have := z.le.size; omega) (fun j hj => by cases hj; exact hgb.1)⟩
    · have hle' : decide (xa ≤ la + lb) = false := by simpa using hle
      rw [if_neg hle]
      go_enter Try.func110, Try.ntmps110
      go_upto_region 2 with fail
      refine region_ext (by kernel_rfl) (by kernel_rfl) ?_
      repeat (go_big_quiet_step ((go_at_call 93; exact C1.out _)))
      refine wpQuiet_nil ?_
      rintro w1 ⟨⟨_, hw1⟩, rfl⟩
      have B1 := hb0.trans (hw1.mono hb0.size)
      have k1 := k0.call hw1
      have c1 := k1.cell
      have kN := Blk.new w1 40 #[.int .i64 xa, .int .i64 xb]
      have hrow1 := ownsRow_call hrow'.out B1
      clear q1 q2 q3 C1
      go_wp2_with (refine wpList_append_own _ rfl (.tmp 43) (.tmp 45) 36 rfl base 40 i0 (.agg #[.int .i64 0, .int .i64 0]) 2 16 Try.underlying36 hi hz0 hz1 hz2 rfl (by decide) _ (k + 1) (spCells (pre ++ [(la, lb)])) rfl (by rw [← hk'.out]; exact hrow1.alloc _) ⟨w1.heap.size, 0, none⟩ 1 1 [.int .i64 xa, .int .i64 xb] rfl rfl (news_two kN) news_one2 (by unfold maxLen; omega) (by omega) (by have := B1.size; simp; omega) ?_; intro v' w3 hown' hgrow _)
      go_ret
      rw [← spCells_snoc (pre ++ [(la, lb)]) (xa, xb)] at hown'
      exact ⟨v', rfl, by simpa [hk'.out] using hown', ((B1.mono hbase).alloc (by have := B1.size; omega) _).grown hgrow (by have := B1.size; simp; omega) (fun j hj => (hrow1.lt j hj).1)⟩
end Go.Proofs.Ytfmnlpgboolpmaa
