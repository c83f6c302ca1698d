/- Merged texts. Walks: cmp.Compare[int], the order by the first page, join of a span to the last one. Walks: the reference's list of the pages of a set. Walks: of: spans sorted by their first pages and joined. Plain law: spans sorted by their first pages and joined are the set of their pages. Plain law: the set of any valid spans is the set of their pages. Walks: the reference's usable pages and guards as sets. Plain laws on plans of guards: the reference's sets are the program's; numbers of usable pages; what is hit. Plain law: the guards and the usable pages of a plan are disjoint, and together the range. Plain law: the usable pages of a plan by number: they ascend, lead back, and there are as many as their sum says; no run is longer than Every. Plain laws: how many pages of a span are in a set. Plain words for layer 13 (huge): what 'open' learns of a state, and when it does not. The kit's contracts for slices.SortFunc and slices.Grow, laid at this program in plain words (written by the kit's lay-plain; numbers of this seat). slices.SortFunc over spans, by their first pages: the kit's contract at this program, and what the slice owns behind it. The sort of spans at whatever length; of of whatever valid spans of the call's own. Walks: slices.Grow of nil, slices.Concat of two sets, Union. Walks: slices.Clone of spans, Of; the reference's Marks and Of. Plain functions: the pieces of spans between multiples of a size. A range over a function value whose function keeps cells of its own that it makes while it runs (X: what of all blocks is the function's); a region of such a function whose last operations hand a value to the loop. Walks: Count; Pieces as a function value that is ranged over. A slice of its own that a loop over a function value appends to, while the function makes blocks of its own: the slice's block is none of those. Walks: what Pieces hands back; the law's list of what such a function value goes through. Plain laws: pieces of one page are the pages; how many pieces there are. A range over a function value whose function ranges over another one: what the body must leave, it must leave too where it ends the loop. -/
import Derived.Deep.MidRow
import Derived.Shelf.SlSortCmp.WholeK
import Derived.Ground.SlsfProg
import Derived.Shelf.Spec.SlicesGrow
import Derived.Ground.Names8Prog
import Derived.Test.YtefnnfcfigcikaaGreatProg
import Derived.Sort.OwnSortedInts
import Derived.Laws.AppendOwnNone
import Derived.OrdersIn
import Derived.Laws.AppendOwn
import Derived.Test.YtefnnfcfigcikaaGreatC1
namespace Go.Proofs.YtefnnfcfigcikaaGreat
open Go Go.Proofs Go.RowKit Go.Pol

theorem isNaN_any (x : Int) (w : World) : Calls Tryz.prog 127 #[.int .i64 x] w fun e w' => e = .returned (.bool false) ∧ w' = w := by
  go_enter Tryz.func127, Tryz.ntmps127
  go_wp2
  go_ret
  exact ⟨by simp, rfl⟩

def cmpI (x y : Int) : Int := if x < y then -1 else if y < x then 1 else 0
theorem compare_any (x y : Int) (w : World) : Calls Tryz.prog 76 #[.int .i64 x, .int .i64 y] w fun e w' => e = .returned (.int .i64 (cmpI x y)) ∧ w' = w := by
  obtain ⟨R, hR0⟩ : ∃ R, cmpI x y = R := ⟨_, rfl⟩
  rw [hR0]
  have hR := Lib.hid hR0
  clear hR0
  by_cases h1 : x < y
  · have h1' : decide (x < y) = true := by simpa using h1
    have hE : Hid (R = -1) := Lib.hid (by rw [← hR.out, cmpI, if_pos h1])
    clear h1
    go_enter Tryz.func76, Tryz.ntmps76
    go_wp2_with (go_at_call 127; refine (isNaN_any _ _).mono ?_; rintro e w' ⟨rfl, rfl⟩)
    go_ret
    exact ⟨ret_int hE.out.symm, rfl⟩
  · have h1' : decide (x < y) = false := by simpa using h1
    by_cases h2 : y < x
    · have h2' : decide (y < x) = true := by simpa using h2
      have hE : Hid (R = 1) := Lib.hid (by rw [← hR.out, cmpI, if_neg h1, if_pos h2])
      clear h1 h2
      go_enter Tryz.func76, Tryz.ntmps76
      go_wp2_with (go_at_call 127; refine (isNaN_any _ _).mono ?_; rintro e w' ⟨rfl, rfl⟩)
      go_ret
      exact ⟨ret_int hE.out.symm, rfl⟩
    · have h2' : decide (y < x) = false := by simpa using h2
      have hE : Hid (R = 0) := Lib.hid (by rw [← hR.out, cmpI, if_neg h1, if_neg h2])
      clear h1 h2
      go_enter Tryz.func76, Tryz.ntmps76
      go_wp2_with (go_at_call 127; refine (isNaN_any _ _).mono ?_; rintro e w' ⟨rfl, rfl⟩)
      go_ret
      exact ⟨ret_int hE.out.symm, rfl⟩

theorem of1_any (x y : Sp) (w : World) : Calls Tryz.prog 175 #[.agg #[.int .i64 x.1, .int .i64 x.2], .agg #[.int .i64 y.1, .int .i64 y.2]] w fun e w' => e = .returned (.int .i64 (cmpI x.1 y.1)) ∧
    w' = (w.alloc (.cells #[.int .i64 x.1, .int .i64 x.2] 134)).alloc (.cells #[.int .i64 y.1, .int .i64 y.2] 134) := by
  have HC := Lib.hid (fun W => compare_any x.1 y.1 W)
  generalize cmpI x.1 y.1 = R at *
  go_enter Tryz.func175, Tryz.ntmps175
  go_wp2_with (go_at_call 76; refine (HC.out _).mono ?_; rintro e w' ⟨rfl, rfl⟩)
  go_ret
  exact ⟨rfl, rfl⟩

/-- a span behind sorted ones: joined to the last one where they touch -/
def joinF (xs : List Sp) (x : Sp) : List Sp :=
  match xs.getLast? with
  | none => [x]
  | some l => if x.1 ≤ l.1 + l.2 then xs.dropLast ++ [(l.1, max (l.1 + l.2) (x.1 + x.2) - l.1)] else xs ++ [x]
theorem joinF_nil (x : Sp) : joinF [] x = [x] := rfl
theorem joinF_snoc (pre : List Sp) (l x : Sp) : joinF (pre ++ [l]) x = if x.1 ≤ l.1 + l.2 then pre ++ [(l.1, max (l.1 + l.2) (x.1 + x.2) - l.1)] else pre ++ [l] ++ [x] := by simp [joinF]
set_option maxRecDepth 100000 in
set_option maxHeartbeats 1600000 in
theorem join_any (base : Nat) (v : Value) (xs : List Sp) (x : Sp) (w : World) (hx : (-100000 ≤ x.1 ∧ x.1 ≤ 50000) ∧ -100000 ≤ x.2 ∧ x.2 ≤ 50000) (hxs : ∀ y ∈ xs, (-100000 ≤ y.1 ∧ y.1 ≤ 50000) ∧ -100000 ≤ y.2 ∧ y.2 ≤ 50000) (hlen : xs.length ≤ 100000) (hbase : base ≤ w.heap.size)
    (hrow : w.ownsRow base 134 2 v xs.length (spCells xs)) :
    Calls Tryz.prog 176 #[v, .agg #[.int .i64 x.1, .int .i64 x.2]] w fun e w' => ∃ v', e = .returned v' ∧ w'.ownsRow base 134 2 v' (joinF xs x).length (spCells (joinF xs x)) ∧ Below base w w' := by
  obtain ⟨i0, hi, hz0, hz1, hz2⟩ := infoSp_parts
  obtain ⟨xa, xb⟩ := x
  simp only at hx ⊢
  have hb0 := (Below.refl w.heap.size w).alloc (Nat.le_refl _) (.cells #[.int .i64 xa, .int .i64 xb] 134)
  have k0 := Blk.new w 134 #[.int .i64 xa, .int .i64 xb]
  have c0 := k0.cell
  rcases List.eq_nil_or_concat xs with rfl | ⟨pre, l, rfl⟩
  · obtain ⟨A, cap, rfl⟩ := own_nil_iff hrow rfl
    rw [joinF_nil]
    go_enter Tryz.func176, Tryz.ntmps176
    go_upto_region 2 with fail
    refine region_ext (by kernel_rfl) (by kernel_rfl) ?_
    repeat (go_big_quiet_step (fail))
    refine wpQuiet_nil ?_
    rintro w1 ⟨⟨_, hw1⟩, rfl⟩
    have B1 := hb0.trans (hw1.mono hb0.size)
    have k1 := k0.call hw1
    have c1 := k1.cell
    have kN := Blk.new w1 134 #[.int .i64 xa, .int .i64 xb]
    have hrow1 : w1.ownsRow base 134 2 (.slice A 0 cap) ([] : List Sp).length (spCells ([] : List Sp)) := ownsRow_call hrow B1
    go_wp2_with (refine wpList_append_own _ rfl (.tmp 43) (.tmp 45) 42 rfl base 134 i0 (.agg #[.int .i64 0, .int .i64 0]) 2 16 Tryz.underlying42 hi hz0 hz1 hz2 rfl (by decide) _ 0 (spCells ([] : List Sp)) rfl (hrow1.alloc _) ⟨w1.heap.size, 0, none⟩ 1 1 [.int .i64 xa, .int .i64 xb] rfl rfl (news_two kN) news_one2 (by unfold maxLen; omega) (by omega) (by have := B1.size; simp; omega) ?_; intro v' w3 hown' hgrow _)
    go_ret
    exact ⟨v', rfl, by simpa [spCells] using hown', ((B1.mono hbase).alloc (by have := B1.size; omega) _).grown hgrow (by have := B1.size; simp; omega) (fun j hj => (hrow1.lt j hj).1)⟩
  · rw [List.concat_eq_append] at *
    rw [joinF_snoc]
    have hlx := hxs l (by simp)
    clear hxs
    obtain ⟨la, lb⟩ := l
    simp only at hlx ⊢
    rw [List.length_append, List.length_singleton] at hrow hlen
    have hrow0 := ownsRow_call hrow hb0
    obtain ⟨g, cap, rfl⟩ := ownsRow_succ hrow
    have hgb := hrow0.lt g rfl
    have hca : (w.alloc (.cells #[.int .i64 xa, .int .i64 xb] 134)).cell? ⟨g, pre.length * 2, none⟩ = some (.int .i64 la) := by
      rw [hrow0.cellAt _ (by omega), spCells_snoc, List.getElem?_append_right (by rw [spCells_len]; exact Nat.le_refl _), spCells_len]
      simp
    have hcb : (w.alloc (.cells #[.int .i64 xa, .int .i64 xb] 134)).cell? ⟨g, pre.length * 2 + 1, none⟩ = some (.int .i64 lb) := by
      rw [hrow0.cellAt _ (by omega), spCells_snoc, List.getElem?_append_right (by rw [spCells_len]; omega), spCells_len]
      simp
    obtain ⟨k, hk⟩ : ∃ k, pre.length = k := ⟨_, rfl⟩
    rw [hk] at hca hcb hlen ⊢
    have hk' := Lib.hid hk
    have hrow' := Lib.hid hrow
    clear hk hrow
    have q1 := fun z : Ext (w.alloc (.cells #[.int .i64 xa, .int .i64 xb] 134)) => z.cell hca
    have q2 := fun z : Ext (w.alloc (.cells #[.int .i64 xa, .int .i64 xb] 134)) => z.cell hcb
    have q3 := fun z : Ext (w.alloc (.cells #[.int .i64 xa, .int .i64 xb] 134)) => (z.blk k0).cell
    have C1 : Hid (∀ z : Ext (w.alloc (.cells #[.int .i64 xa, .int .i64 xb] 134)), Calls Tryz.prog 166 #[.agg #[.int .i64 la, .int .i64 lb]] z.w fun e w'' => e = .returned (.int .i64 (la + lb)) ∧ ∃ y : Ext (w.alloc (.cells #[.int .i64 xa, .int .i64 xb] 134)), w'' = y.w) := Lib.hid (fun z => Ext.call (end_any la lb _ (by omega) (by omega)))
    by_cases hle : xa ≤ la + lb
    · have hle' : decide (xa ≤ la + lb) = true := by simpa using hle
      rw [if_pos hle]
      go_enter Tryz.func176, Tryz.ntmps176
      go_upto_region 2 with fail
      refine region_ext (by kernel_rfl) (by kernel_rfl) ?_
      repeat (go_big_quiet_step ((go_at_call 166; exact C1.out _)))
      refine wpQuiet_nil ?_
      rintro w1 ⟨⟨_, hw1⟩, rfl⟩
      have B1 := hb0.trans (hw1.mono hb0.size)
      have k1 := k0.call hw1
      have hg0 : g < (w.alloc (.cells #[.int .i64 xa, .int .i64 xb] 134)).heap.size := hgb.2
      have hca1 := (hw1.cell (p := ⟨g, k * 2, none⟩) hg0).trans hca
      have hcb1 := (hw1.cell (p := ⟨g, k * 2 + 1, none⟩) hg0).trans hcb
      clear q1 q2 q3 C1
      have q1 := fun z : Ext w1 => z.cell hca1
      have q2 := fun z : Ext w1 => z.cell hcb1
      have q3 := fun z : Ext w1 => (z.blk k1).cell
      have C1 : Hid (∀ z : Ext w1, Calls Tryz.prog 166 #[.agg #[.int .i64 la, .int .i64 lb]] z.w fun e w'' => e = .returned (.int .i64 (la + lb)) ∧ ∃ y : Ext w1, w'' = y.w) := Lib.hid (fun z => Ext.call (end_any la lb _ (by omega) (by omega)))
      have C2 : Hid (∀ z : Ext w1, Calls Tryz.prog 166 #[.agg #[.int .i64 xa, .int .i64 xb]] z.w fun e w'' => e = .returned (.int .i64 (xa + xb)) ∧ ∃ y : Ext w1, w'' = y.w) := Lib.hid (fun z => Ext.call (end_any xa xb _ (by omega) (by omega)))
      have hmx : -200000 ≤ max (la + lb) (xa + xb) ∧ max (la + lb) (xa + xb) ≤ 200000 := by omega
      go_upto_region 3 with fail
      refine region_ext_tail 19 (by kernel_rfl) (by kernel_rfl) ?_
      simp only [List.take_succ_cons, List.take_zero, List.drop_succ_cons, List.drop_zero]
      iterate 9 go_big_quiet_step ((go_at_call 166; exact C1.out _))
      repeat (go_big_quiet_step ((go_at_call 166; exact C2.out _)))
      refine wpQuiet_nil ?_
      intro z
      have hrz := ownsRow_call hrow'.out (B1.trans (z.le.mono B1.size))
      have hfz := hrz.frozenAt (k * 2 + 1)
      have hcz := z.cell hcb1
      obtain ⟨hst, hgr⟩ := hrz.stored (k * 2 + 1) (.int .i64 (max (la + lb) (xa + xb) - la))
      rw [← hk'.out, spCells_set, hk'.out] at hst
      go_wp2_with fail
      go_ret
      exact ⟨_, rfl, by simpa [hk'.out] using hst, ((B1.trans (z.le.mono B1.size)).mono hbase).grown hgr (by have := B1.size; have := z.le.size; omega) (fun j hj => by cases hj; exact hgb.1)⟩
    · have hle' : decide (xa ≤ la + lb) = false := by simpa using hle
      rw [if_neg hle]
      go_enter Tryz.func176, Tryz.ntmps176
      go_upto_region 2 with fail
      refine region_ext (by kernel_rfl) (by kernel_rfl) ?_
      repeat (go_big_quiet_step ((go_at_call 166; exact C1.out _)))
      refine wpQuiet_nil ?_
      rintro w1 ⟨⟨_, hw1⟩, rfl⟩
      have B1 := hb0.trans (hw1.mono hb0.size)
      have k1 := k0.call hw1
      have c1 := k1.cell
      have kN := Blk.new w1 134 #[.int .i64 xa, .int .i64 xb]
      have hrow1 := ownsRow_call hrow'.out B1
      clear q1 q2 q3 C1
      go_wp2_with (refine wpList_append_own _ rfl (.tmp 43) (.tmp 45) 42 rfl base 134 i0 (.agg #[.int .i64 0, .int .i64 0]) 2 16 Tryz.underlying42 hi hz0 hz1 hz2 rfl (by decide) _ (k + 1) (spCells (pre ++ [(la, lb)])) rfl (by rw [← hk'.out]; exact hrow1.alloc _) ⟨w1.heap.size, 0, none⟩ 1 1 [.int .i64 xa, .int .i64 xb] rfl rfl (news_two kN) news_one2 (by unfold maxLen; omega) (by omega) (by have := B1.size; simp; omega) ?_; intro v' w3 hown' hgrow _)
      go_ret
      rw [← spCells_snoc (pre ++ [(la, lb)]) (xa, xb)] at hown'
      exact ⟨v', rfl, by simpa [hk'.out] using hown', ((B1.mono hbase).alloc (by have := B1.size; omega) _).grown hgrow (by have := B1.size; simp; omega) (fun j hj => (hrow1.lt j hj).1)⟩
end Go.Proofs.YtefnnfcfigcikaaGreat
namespace Go.Pol
open Go Go.RowKit
def pagesX (x : Sp) (j : Nat) : List Int := (List.range j).map fun (k : Nat) => x.1 + (k : Int)
theorem pagesX_succ (x : Sp) (j : Nat) : pagesX x (j + 1) = pagesX x j ++ [x.1 + (j : Int)] := by simp [pagesX, List.range_succ]
theorem pagesOf_nil : pagesOf [] = [] := rfl
theorem pagesOf_cons (x : Sp) (r : List Sp) : pagesOf (x :: r) = pagesX x x.2.toNat ++ pagesOf r := by simp [pagesOf, pagesX]
theorem pagesOf_append (l r : List Sp) : pagesOf (l ++ r) = pagesOf l ++ pagesOf r := by simp [pagesOf]
theorem pagesOf_len : ∀ (l : List Sp), (∀ x ∈ l, 0 ≤ x.2) → ((pagesOf l).length : Int) = sumS l
  | [], _ => by simp [pagesOf, sumS]
  | x :: r, h => by
    have ih := pagesOf_len r (fun y hy => h y (by simp [hy]))
    have hx := h x (by simp)
    rw [pagesOf_cons, List.length_append, show (pagesX x x.2.toNat).length = x.2.toNat by simp [pagesX]]
    simp only [sumS, List.map_cons, List.sum_cons] at ih ⊢
    omega
theorem take_snoc (us : List Sp) (k : Nat) (hk : k < us.length) : us.take (k + 1) = us.take k ++ [us.getD k (0,0)] := by
  rw [List.take_add_one, List.getElem?_eq_getElem hk]
  simp [List.getD_eq_getElem?_getD, hk]
theorem ints_one {a : Int} : ∀ u ∈ [Value.int .i64 a], u.oneCell' = true := by
  intro u hu; simp only [List.mem_cons, List.not_mem_nil, or_false] at hu; subst hu; rfl
theorem news_i {w : World} {g : Nat} {t : TypeId} {a : Int} (h : Blk w g t #[.int .i64 a]) : ∀ (j : Nat) (u : Value), [Value.int .i64 a][j]? = some u → w.cell? ((⟨g, 0, none⟩ : Addr).add j) = some u := by
  intro j u hu
  rw [addr_add0, Nat.zero_add, h.cell]
  simpa using hu
/-- what a call of the own made reads as a list -/
theorem own_RIx {w : World} {base : Nat} {e : TypeId} {v : Value} {n : Nat} {xs : List Int} (h : w.ownsRow base e 1 v n (xs.map (Value.int .i64))) (hn : xs.length = n) : ∃ (A : Option Addr) (cap : Nat), v = .slice A n cap ∧ RI w w.heap.size A xs := by
  have hv := h
  rcases h.2 with ⟨rfl, h0⟩ | ⟨g, cap, cur, rfl, hg, hk, _⟩
  · subst h0
    obtain rfl : xs = [] := List.eq_nil_of_length_eq_zero hn
    exact ⟨none, 0, rfl, RI.nil⟩
  · refine ⟨_, cap, rfl, fun k hk' => ?_⟩
    have hk2 : k < xs.length := by simpa using hk'
    have hc := hv.cellAt k (by omega)
    refine ⟨g, 0, rfl, Blk.lt hk, ?_⟩
    rw [Nat.zero_add, hc]
    exact List.getElem?_eq_getElem hk'
end Go.Pol
namespace Go.Proofs.YtefnnfcfigcikaaGreat
open Go Go.Proofs Go.RowKit Go.Pol
theorem infoIn : (Tryz.prog.info? 3).map (fun i => (i.zero, i.size, i.bytes)) = some (some (.int .i64 0), 1, 8) := by kernel_rfl

end Go.Proofs.YtefnnfcfigcikaaGreat
namespace Go.Proofs.YtefnnfcfigcikaaGreat
open Go Go.Proofs Go.RowKit Go.Pol

def ofF (us : List Sp) : List Sp := us.foldl joinF []
theorem joinF_vld {xs : List Sp} {x : Sp} (hxs : ∀ y ∈ xs, vld y = true) (hx : vld x = true) : ∀ y ∈ joinF xs x, vld y = true := by
  rcases List.eq_nil_or_concat xs with rfl | ⟨pre, l, rfl⟩
  · rw [joinF_nil]; simpa using hx
  · rw [List.concat_eq_append] at *
    rw [joinF_snoc]
    have hl := vld_iff.1 (hxs l (by simp))
    have hx' := vld_iff.1 hx
    split
    · intro y hy
      rcases List.mem_append.1 hy with h | h
      · exact hxs y (by simp [h])
      · simp only [List.mem_singleton] at h
        subst h
        exact vld_iff.2 (by simp only; omega)
    · intro y hy
      rcases List.mem_append.1 hy with h | h
      · exact hxs y h
      · simp only [List.mem_singleton] at h
        subst h
        exact hx
theorem joinF_len (xs : List Sp) (x : Sp) : (joinF xs x).length ≤ xs.length + 1 := by
  rcases List.eq_nil_or_concat xs with rfl | ⟨pre, l, rfl⟩
  · simp [joinF_nil]
  · rw [List.concat_eq_append, joinF_snoc]
    split <;> simp
theorem ofF_snoc (us : List Sp) (x : Sp) : ofF (us ++ [x]) = joinF (ofF us) x := by simp [ofF]

set_option maxRecDepth 100000 in
set_option maxHeartbeats 1600000 in
theorem of_any (base : Nat) (v : Value) (us : List Sp) (w : World) (hv : ∀ y ∈ us, vld y = true) (hlen : us.length ≤ 100000) (hbase : base ≤ w.heap.size)
    (HS : Calls Tryz.prog 174 #[v, .func (.func 175) #[] #[]] w fun e w' => e = .returned (.tuple #[]) ∧ ∃ us' : List Sp, us'.Perm us ∧ us'.Pairwise (fun a b => a.1 ≤ b.1) ∧ w'.ownsRow base 134 2 v us.length (spCells us') ∧ Below base w w') 
    (hrow : w.ownsRow base 134 2 v us.length (spCells us)) :
    Calls Tryz.prog 130 #[v] w fun e w' => ∃ (us' : List Sp) (v' : Value), us'.Perm us ∧ us'.Pairwise (fun a b => a.1 ≤ b.1) ∧ e = .returned v' ∧ w'.ownsRow w.heap.size 134 2 v' (ofF us').length (spCells (ofF us')) ∧ Below base w w' := by
  obtain ⟨A, cap, rfl⟩ := own_nil_iff hrow rfl
  go_enter Tryz.func130, Tryz.ntmps130
  go_wp2_with fail
  refine HS.mono ?_
  rintro e w1 ⟨rfl, us', hp, hs, hrow1, hb1⟩
  have hv' : ∀ y ∈ us', vld y = true := fun y hy => hv y (hp.mem_iff.1 hy)
  have hn := hp.length_eq
  obtain ⟨n, hn0⟩ : ∃ n, us.length = n := ⟨_, rfl⟩
  rw [hn0] at hrow1 hn hlen ⊢
  have hn' := Lib.hid hn
  clear hn hn0 HS hrow hv
  have hws := hb1.size
  have hb1s := hb1.size
  go_wp2_with fail
  go_loopw [3, 10] (fun v i wr => ∃ k : Nat, k ≤ n ∧ i = .int .i64 k ∧ wr.ownsRow w1.heap.size 134 2 v (ofF (us'.take k)).length (spCells (ofF (us'.take k))) ∧ Below w1.heap.size w1 wr ∧ Hid ((∀ y ∈ ofF (us'.take k), vld y = true) ∧ (ofF (us'.take k)).length ≤ k)) (fun _ i _ => n - (intOf i).toNat)
  case atStart => exact ⟨0, by omega, rfl, by simpa [ofF, spCells] using World.ownsRow_nil _ _ _ _, Below.refl _ _, Lib.hid ⟨by simp [ofF], by simp [ofF]⟩⟩
  case round =>
    obtain ⟨k, hk, rfl, hrow2, hB, hH⟩ := hrel
    by_cases hlt : k < n
    · have hlt' : decide ((k : Int) < (n : Int)) = true := by simpa using hlt
      have hr := ownsRow_call hrow1 hB
      obtain ⟨g, cap', e, _⟩ := hr.form (by omega)
      cases e
      have hg := hrow1.lt g rfl
      have hca := hr.cellAt (k * 2) (by omega)
      have hcb := hr.cellAt (k * 2 + 1) (by omega)
      have hat := spCells_at us' k (by have := hn'.out; omega)
      rw [hat.1] at hca
      rw [hat.2] at hcb
      have hvx := hv' (us'.getD k (0,0)) (by rw [List.getD_eq_getElem?_getD, List.getElem?_eq_getElem (by have := hn'.out; omega)]; simp)
      have htk := Lib.hid (take_snoc us' k (by have := hn'.out; omega))
      clear hat hr
      generalize us'.getD k (0,0) = x at *
      have hxb := vld_iff.1 hvx
      have hstep : Hid (ofF (us'.take (k + 1)) = joinF (ofF (us'.take k)) x) := Lib.hid (by rw [htk.out, ofF_snoc])
      have hH2 : Hid ((∀ y ∈ joinF (ofF (us'.take k)) x, vld y = true) ∧ (joinF (ofF (us'.take k)) x).length ≤ k + 1) := Lib.hid ⟨joinF_vld hH.out.1 hvx, by have := joinF_len (ofF (us'.take k)) x; have := hH.out.2; omega⟩
      have HJ := Lib.hid (fun (W : World) (v : Value) (hW : w1.heap.size ≤ W.heap.size) (h : W.ownsRow w1.heap.size 134 2 v (ofF (us'.take k)).length (spCells (ofF (us'.take k)))) => join_any w1.heap.size v (ofF (us'.take k)) x W (by omega) (fun y hy => by have := vld_iff.1 (hH.out.1 y hy); omega) (by have := hH.out.2; omega) hW h)
      generalize ofF (us'.take k) = L at *
      obtain ⟨xa, xb⟩ := x
      dsimp only at hca hcb HJ
      clear htk hvx hxb hH
      have hBs := hB.size
      go_wp2_with fail
      refine (HJ.out _ _ (by simp; omega) (hrow2.alloc _)).mono ?_
      rintro e w2 ⟨v', rfl, hrow3, hb3⟩
      go_wp2_with fail
      go_roundw
      case rel => exact ⟨k + 1, by omega, by go_num, by rw [hstep.out]; exact hrow3, (hB.alloc hBs _).trans hb3, by rw [hstep.out]; exact hH2⟩
      case measure => simp [intOf]; omega
    · obtain rfl : k = n := by omega
      have hlt' : decide ((k : Int) < (k : Int)) = false := by simp
      have hT : us'.take k = us' := List.take_of_length_le (by have := hn'.out; omega)
      rw [hT] at hrow2
      obtain ⟨A', cap', rfl⟩ := own_nil_iff hrow2 rfl
      go_wp2_with fail
      go_ret
      exact ⟨us', _, hp, hs, rfl, ownsRow_base hrow2 hws, hb1.trans (hB.mono (Nat.le_trans hbase hws))⟩
end Go.Proofs.YtefnnfcfigcikaaGreat
namespace Go.Proofs.YtefnnfcfigcikaaGreat
open Go Go.Proofs Go.RowKit Go.Pol

theorem joinF_law {L us : List Sp} {x : Sp} (hC : Go.Pol.Can L) (hm : ∀ q, mem q L = true ↔ mem q us = true) (hf : ∀ y ∈ L, ∃ u ∈ us, y.1 = u.1) (hx : vld x = true) (hle : ∀ u ∈ us, u.1 ≤ x.1) :
    Go.Pol.Can (joinF L x) ∧ (∀ q, mem q (joinF L x) = true ↔ mem q (us ++ [x]) = true) ∧ (∀ y ∈ joinF L x, ∃ u ∈ us ++ [x], y.1 = u.1) := by
  have hvx := vld_iff.1 hx
  rcases List.eq_nil_or_concat L with rfl | ⟨pre, l, rfl⟩
  · rw [joinF_nil]
    refine ⟨Go.Pol.Can.one hx, fun q => ?_, fun y hy => ⟨x, by simp, by simp only [List.mem_singleton] at hy; rw [hy]⟩⟩
    rw [mem_one, mem_snoc, ← hm q, mem_nil]; simp
  · rw [List.concat_eq_append] at *
    rw [joinF_snoc]
    obtain ⟨u, hu, hlu⟩ := hf l (by simp)
    have hlx := hle u hu
    have hvl := vld_iff.1 (hC.1 l (by simp))
    have hfo := (formOk_snoc _ _ _).1 hC.2
    by_cases h : x.1 ≤ l.1 + l.2
    · rw [if_pos h]
      refine ⟨⟨?_, (formOk_snoc _ _ _).2 hfo⟩, fun q => ?_, fun y hy => ?_⟩
      · intro y hy
        rcases List.mem_append.1 hy with h1 | h1
        · exact hC.1 y (by simp [h1])
        · simp only [List.mem_singleton] at h1
          subst h1
          exact vld_iff.2 (by simp only; omega)
      · rw [mem_snoc, mem_snoc, ← hm q, mem_snoc]
        simp only
        constructor
        · rintro (h1 | h1)
          · exact .inl (.inl h1)
          · by_cases h2 : q < l.1 + l.2
            · exact .inl (.inr (by omega))
            · exact .inr (by omega)
        · rintro ((h1 | h1) | h1)
          · exact .inl h1
          · exact .inr (by omega)
          · exact .inr (by omega)
      · rcases List.mem_append.1 hy with h1 | h1
        · obtain ⟨u', hu', e⟩ := hf y (by simp [h1])
          exact ⟨u', by simp [hu'], e⟩
        · simp only [List.mem_singleton] at h1
          subst h1
          exact ⟨u, by simp [hu], hlu⟩
    · rw [if_neg h]
      refine ⟨⟨?_, (formOk_snoc _ _ _).2 ⟨hC.2, ?_⟩⟩, fun q => ?_, fun y hy => ?_⟩
      · intro y hy
        rcases List.mem_append.1 hy with h1 | h1
        · exact hC.1 y h1
        · simp only [List.mem_singleton] at h1
          subst h1; exact hx
      · rw [lastE_snoc]; omega
      · rw [mem_snoc, mem_snoc (l := us), ← hm q]
      · rcases List.mem_append.1 hy with h1 | h1
        · obtain ⟨u', hu', e⟩ := hf y h1
          exact ⟨u', by simp [hu'], e⟩
        · simp only [List.mem_singleton] at h1
          subst h1
          exact ⟨y, by simp, rfl⟩
theorem foldl_law : ∀ (us L done : List Sp), Go.Pol.Can L → (∀ q, mem q L = true ↔ mem q done = true) → (∀ y ∈ L, ∃ u ∈ done, y.1 = u.1) → (∀ y ∈ us, vld y = true) → (∀ a ∈ done, ∀ b ∈ us, a.1 ≤ b.1) → us.Pairwise (fun a b => a.1 ≤ b.1) →
    Go.Pol.Can (us.foldl joinF L) ∧ ∀ q, mem q (us.foldl joinF L) = true ↔ mem q (done ++ us) = true
  | [], L, done, hC, hm, _, _, _, _ => ⟨hC, fun q => by simpa using hm q⟩
  | x :: us, L, done, hC, hm, hf, hv, hle, hp => by
    obtain ⟨h1, h2, h3⟩ := joinF_law hC hm hf (hv x (by simp)) (fun u hu => hle u hu x (by simp))
    have hp' := List.pairwise_cons.1 hp
    have h := foldl_law us (joinF L x) (done ++ [x]) h1 h2 h3 (fun y hy => hv y (by simp [hy])) (fun a ha b hb => by
      rcases List.mem_append.1 ha with h | h
      · exact hle a h b (by simp [hb])
      · simp only [List.mem_singleton] at h
        subst h; exact hp'.1 b hb) hp'.2
    refine ⟨h.1, fun q => ?_⟩
    rw [List.foldl_cons, h.2 q, List.append_assoc]; rfl
/-- of spans sorted by their first pages: the set of their pages -/
theorem ofF_law {us : List Sp} (hv : ∀ y ∈ us, vld y = true) (hp : us.Pairwise (fun a b => a.1 ≤ b.1)) : Go.Pol.Can (ofF us) ∧ ∀ q, mem q (ofF us) = true ↔ mem q us = true := by
  have h := foldl_law us [] [] ⟨by simp, rfl⟩ (fun q => Iff.rfl) (by simp) hv (by simp) hp
  exact ⟨h.1, fun q => by have := h.2 q; simpa [ofF] using this⟩
theorem mem_perm {us vs : List Sp} (h : us.Perm vs) (q : Int) : mem q us = mem q vs := by
  rw [Bool.eq_iff_iff]; simp only [mem, List.any_eq_true]
  exact ⟨fun ⟨x, hx, e⟩ => ⟨x, h.mem_iff.1 hx, e⟩, fun ⟨x, hx, e⟩ => ⟨x, h.mem_iff.2 hx, e⟩⟩
/-- which permutation it was that the sort laid makes no difference -/
theorem ofF_set {us us' s : List Sp} (hv : ∀ y ∈ us, vld y = true) (hp : us'.Perm us) (hs : us'.Pairwise (fun a b => a.1 ≤ b.1)) (hC : Go.Pol.Can s) (hm : ∀ q, mem q s = true ↔ mem q us = true) : ofF us' = s := by
  have h := ofF_law (fun y hy => hv y (hp.mem_iff.1 hy)) hs
  exact h.1.eq hC fun q => by rw [Bool.eq_iff_iff, h.2 q, hm q, mem_perm hp]
end Go.Proofs.YtefnnfcfigcikaaGreat
namespace Go.Pol
open Go
/-- what is wrong with a list of spans -/
def ofE (us : List Sp) : Int := if 2000 < us.length then 3 else if us.all vld = true then 0 else 7
/-- the set of the pages of some spans -/
def setOf (us : List Sp) : List Sp := setA fun k => mem (k : Int) us
theorem setOf_can (us : List Sp) : Can (setOf us) := setA_can _
theorem vld_mem {us : List Sp} (hv : ∀ x ∈ us, vld x = true) {q : Int} (h : mem q us = true) : 0 ≤ q ∧ q < 1024 := by
  obtain ⟨x, hx, hh⟩ := List.any_eq_true.1 h
  have := vld_iff.1 (hv x hx)
  simp at hh
  omega
theorem mem_setOf {us : List Sp} (hv : ∀ x ∈ us, vld x = true) (q : Int) : mem q (setOf us) = true ↔ mem q us = true := by
  unfold setOf
  rw [mem_setA]
  constructor
  · rintro ⟨h1, h2⟩
    rwa [show ((q.toNat : Nat) : Int) = q by omega] at h2
  · intro h
    have := vld_mem hv h
    exact ⟨this, by rwa [show ((q.toNat : Nat) : Int) = q by omega]⟩
theorem setOf_self {us : List Sp} (h : Can us) : setOf us = us := (h.eq_setA _ (fun _ _ => rfl)).symm
theorem ofE_zero {us : List Sp} (h : ofE us = 0) : us.length ≤ 2000 ∧ ∀ x ∈ us, vld x = true := by
  unfold ofE at h
  split at h
  · cases h
  · split at h
    · rename_i h1 h2
      exact ⟨by omega, List.all_eq_true.1 h2⟩
    · cases h
end Go.Pol
namespace Go.Proofs.YtefnnfcfigcikaaGreat
open Go Go.Proofs Go.RowKit Go.Pol
theorem ofF_setOf {us us' : List Sp} (hv : ∀ y ∈ us, vld y = true) (h : us'.Perm us) (hs : us'.Pairwise (fun a b => a.1 ≤ b.1)) : ofF us' = setOf us :=
  ofF_set hv h hs (setOf_can us) (fun q => mem_setOf hv q)
end Go.Proofs.YtefnnfcfigcikaaGreat
namespace Go.Pol
open Go Go.RowKit
theorem MarksAre.set {cs : Array Value} {f g : Nat → Bool} (h : MarksAre cs f) (k : Nat) (hk : k < 1024) (b : Bool) (hb : g k = b) (hg : ∀ j, j ≠ k → g j = f j) : MarksAre (cs.setIfInBounds k (.bool b)) g :=
  ⟨by simp [h.size], fun j hj => by
    by_cases hjk : j = k
    · subst hjk
      rw [Array.getElem?_setIfInBounds_self_of_lt (by rw [h.size]; exact hk), hb]
    · rw [Array.getElem?_setIfInBounds_ne (Ne.symm hjk), hg j hjk]; exact h.at_ j hj⟩
theorem rangeAt_blk {w : World} {g : Nat} {t : TypeId} {cs : Array Value} (h : Blk w g t cs) : w.rangeAt g 0 cs.toList := fun j v hj => by
  rw [Nat.zero_add, h.cell]; simpa using hj
/-- the marks of the first pages of a plan -/
def setM (pg n f b ev : Int) (us : Bool) (j : Nat) (q : Nat) : Bool := decide (pg ≤ (q : Int) ∧ (q : Int) < pg + j) && ((kindG pg n f b ev q == 0) == us)
end Go.Pol
namespace Go.Proofs.YtefnnfcfigcikaaGreat
open Go Go.Proofs Go.RowKit Go.Pol
theorem zeros_are : MarksAre Tryz.zeroCells152 (fun _ => false) := by
  have e : Tryz.zeroCells152 = Array.replicate 1024 (.bool false) := by kernel_rfl
  rw [e]
  exact ⟨by simp, fun k hk => by simp [hk]⟩

end Go.Proofs.YtefnnfcfigcikaaGreat
namespace Go.Pol
open Go
section
variable {pg n f b ev : Int}
theorem setM_true (hp : PlanOk pg n f b ev) : setA (setM pg n f b ev true n.toNat) = runsL pg n f b ev := by
  refine ((runsL_can hp).eq_setA _ fun p hp2 => ?_).symm
  have h := kindG_zero hp (p : Int)
  have hr := (runsL_ok hp).2.2 (p : Int)
  have a1 := hp.f0; have a2 := hp.b0; have a3 := hp.n0
  rw [Bool.eq_iff_iff]
  simp only [setM, Bool.and_eq_true, decide_eq_true_eq, beq_iff_eq]
  rw [← h]
  constructor
  · rintro ⟨_, h2⟩; simpa using h2
  · intro h2
    have := hr.1 (h.1 h2)
    refine ⟨by omega, by simpa using h2⟩
theorem setM_false (hp : PlanOk pg n f b ev) : setA (setM pg n f b ev false n.toNat) = gapsF (runsL pg n f b ev) (pg, n) := by
  have hv : vld (pg, n) = true := vld_iff.2 ⟨hp.pg0, hp.pg1, hp.n0, hp.n1⟩
  obtain ⟨hc, hm⟩ := (runsL_can hp).gaps hv
  refine (hc.eq_setA _ fun p hp2 => ?_).symm
  have h := kindG_zero hp (p : Int)
  have a3 := hp.n0
  rw [Bool.eq_iff_iff, hm]
  simp only [setM, Bool.and_eq_true, decide_eq_true_eq, beq_iff_eq]
  have e : (((n.toNat : Nat) : Int)) = n := by omega
  rw [e]
  constructor
  · rintro ⟨h1, h2⟩
    refine ⟨by omega, ?_⟩
    rw [Bool.eq_false_iff]; intro hh
    have := h.2 hh
    rw [this] at h2; simp at h2
  · rintro ⟨h1, h2⟩
    refine ⟨by omega, ?_⟩
    rw [beq_eq_false_iff_ne]
    intro hh
    have := h.1 hh
    rw [h2] at this; cases this
end
/-! numbers -/
theorem pagesX_cons (a c : Int) : ∀ (j : Nat), pagesX (a, c) (j + 1) = a :: pagesX (a + 1, c) j
  | j => by
    simp only [pagesX, List.range_succ_eq_map, List.map_cons, List.map_map]
    congr 1
    · simp
    · apply List.map_congr_left
      intro k _
      simp only [Function.comp]
      omega
theorem pagesX_get (x : Sp) (j i : Nat) (h : i < j) : (pagesX x j).getD i 0 = x.1 + (i : Int) := by
  simp [pagesX, List.getD_eq_getElem?_getD, h]
theorem pagesX_len (x : Sp) (j : Nat) : (pagesX x j).length = j := by simp [pagesX]
theorem getD_app_l (l r : List Int) (i : Nat) (h : i < l.length) : (l ++ r).getD i 0 = l.getD i 0 := by simp [List.getD_eq_getElem?_getD, List.getElem?_append_left h]
theorem getD_app_r (l r : List Int) (i : Nat) (h : l.length ≤ i) : (l ++ r).getD i 0 = r.getD (i - l.length) 0 := by simp [List.getD_eq_getElem?_getD, List.getElem?_append_right h]
def nthP (l : List Int) (i : Int) : Int × Int := if i < 0 ∨ (l.length : Int) ≤ i then (0, 7) else (l.getD i.toNat 0, 0)
theorem nthF_pages : ∀ (L : List Sp) (i : Int), (∀ x ∈ L, 1 ≤ x.2) → nthF L i = nthP (pagesOf L) i
  | [], i, _ => by simp [nthF, nthP, pagesOf]
  | x :: r, i, h => by
    have hx := h x (by simp)
    have ih := nthF_pages r (i - x.2) (fun y hy => h y (by simp [hy]))
    rw [nthF]
    by_cases h0 : i < 0
    · rw [if_pos h0, nthP, if_pos (.inl h0)]
    rw [if_neg h0]
    have hl : (pagesOf (x :: r)).length = x.2.toNat + (pagesOf r).length := by rw [pagesOf_cons, List.length_append, pagesX_len]
    by_cases h1 : i < x.2
    · rw [if_pos h1, nthP, if_neg (by rw [hl]; omega), pagesOf_cons, getD_app_l _ _ _ (by rw [pagesX_len]; omega), pagesX_get _ _ _ (by omega)]
      congr 1; omega
    · rw [if_neg h1, ih, nthP, nthP]
      by_cases h2 : i - x.2 < 0 ∨ ((pagesOf r).length : Int) ≤ i - x.2
      · rw [if_pos h2, if_pos (by rw [hl]; omega)]
      · rw [if_neg h2, if_neg (by rw [hl]; omega), pagesOf_cons, getD_app_r _ _ _ (by rw [pagesX_len]; omega), pagesX_len]
        congr 2; omega
def idxL (page : Int) : Int → List Int → Int × Int
  | _, [] => (0, 4)
  | k, y :: r => if y = page then (k, 0) else idxL page (k + 1) r
theorem idxL_pagesX (page c : Int) (r : List Int) : ∀ (j : Nat) (a k : Int), idxL page k (pagesX (a, c) j ++ r) = if a ≤ page ∧ page < a + j then (k + (page - a), 0) else idxL page (k + j) r
  | 0, a, k => by rw [if_neg (by omega)]; simp [pagesX]
  | j + 1, a, k => by
    rw [pagesX_cons, List.cons_append, idxL, idxL_pagesX page c r j (a + 1) (k + 1)]
    by_cases h : a = page
    · rw [if_pos h, if_pos (by omega)]; congr 1; omega
    · rw [if_neg h]
      by_cases h2 : a + 1 ≤ page ∧ page < a + 1 + j
      · rw [if_pos h2, if_pos (by omega)]; congr 1; omega
      · rw [if_neg h2, if_neg (by omega)]; congr 1; omega
theorem idxF_pages (page : Int) : ∀ (L : List Sp) (k : Int), (∀ x ∈ L, 1 ≤ x.2) → idxF page k L = idxL page k (pagesOf L)
  | [], k, _ => rfl
  | x :: r, k, h => by
    obtain ⟨xa, xb⟩ := x
    have hx := h (xa, xb) (by simp)
    have ih := idxF_pages page r (k + xb) (fun y hy => h y (by simp [hy]))
    simp only at hx
    rw [idxF, pagesOf_cons]
    simp only
    rw [idxL_pagesX]
    by_cases h1 : xa ≤ page ∧ page < xa + xb
    · rw [if_pos h1, if_pos (by omega)]; congr 1; omega
    · rw [if_neg h1, if_neg (by omega), ih]; congr 1; omega
/-! what is hit -/
theorem skipF_ok : ∀ (L : List Sp) (p e : Int), (∀ x ∈ L, 1 ≤ x.2) → formOk e L = true → p ≤ skipF p L ∧ (∀ q, p ≤ q → q < skipF p L → mem q L = true) ∧ mem (skipF p L) L = false
  | [], p, e, _, _ => ⟨Int.le_refl _, fun q h1 h2 => by simp only [skipF] at h2; omega, rfl⟩
  | x :: r, p, e, h, hf => by
    have hf' := formOk_cons.1 hf
    have hx := h x (by simp)
    have hr : ∀ y ∈ r, 1 ≤ y.2 := fun y hy => h y (by simp [hy])
    have low : ∀ q, mem q r = true → x.1 + x.2 < q := fun q hq => mem_lt hf'.2 (fun y hy => by have := hr y hy; omega) hq
    rw [skipF]
    by_cases h1 : x.1 ≤ p ∧ p < x.1 + x.2
    · rw [if_pos h1]
      refine ⟨by omega, fun q h2 h3 => mem_cons'.2 (.inl (by omega)), ?_⟩
      rw [Bool.eq_false_iff]; intro hh
      rcases mem_cons'.1 hh with h2 | h2
      · omega
      · have := low _ h2; omega
    · rw [if_neg h1]
      obtain ⟨a1, a2, a3⟩ := skipF_ok r p (x.1 + x.2) hr hf'.2
      refine ⟨a1, fun q h2 h3 => mem_cons'.2 (.inr (a2 q h2 h3)), ?_⟩
      rw [Bool.eq_false_iff]; intro hh
      rcases mem_cons'.1 hh with h2 | h2
      · by_cases hpq : skipF p r = p
        · rw [hpq] at h2; exact h1 h2
        · have h4 := a2 (skipF p r - 1) (by omega) (by omega)
          have := low _ h4; omega
      · rw [a3] at h2; cases h2
def hitS (K : Int → Int) (la : Int) : Nat → Int → Int × Int × Int
  | 0, _ => (0, -1, 0)
  | k + 1, p => if la < p then (0, -1, 0) else if K p ≠ 0 then (K p, p, 0) else hitS K la k (p + 1)
theorem hitS_skip (K : Int → Int) (la s : Int) (hs : K s ≠ 0) : ∀ (k : Nat) (p : Int), la - p < k → p ≤ s → (∀ q, p ≤ q → q < s → K q = 0) → hitS K la k p = if la < s then (0, -1, 0) else (K s, s, 0)
  | 0, p, h, hps, _ => by rw [hitS, if_pos (by omega)]
  | k + 1, p, h, hps, hq => by
    rw [hitS]
    by_cases h1 : la < p
    · rw [if_pos h1, if_pos (by omega)]
    rw [if_neg h1]
    by_cases h2 : p = s
    · subst h2; rw [if_pos hs, if_neg h1]
    · rw [if_neg (by rw [hq p (Int.le_refl _) (by omega)]; simp), hitS_skip K la s hs k (p + 1) (by omega) (by omega) (fun q h3 h4 => hq q (by omega) h4)]
theorem hitK_kind {pg n f b ev q : Int} (hp : PlanOk pg n f b ev) (h : kindG pg n f b ev q ≠ 0) : kindG pg n f b ev q = hitK pg n f b q := by
  have a1 := hp.f0; have a2 := hp.b0
  unfold kindG at h ⊢
  unfold hitK
  by_cases h1 : q - pg < 0 ∨ n ≤ q - pg
  · rw [if_pos h1, if_pos (show q < pg ∨ pg + n ≤ q by omega)]
  rw [if_neg h1] at h ⊢
  rw [if_neg (show ¬ (q < pg ∨ pg + n ≤ q) by omega)]
  by_cases h2 : q - pg < f
  · rw [if_pos h2, if_pos (show q < pg + f by omega)]
  rw [if_neg h2] at h ⊢
  rw [if_neg (show ¬ q < pg + f by omega)]
  by_cases h3 : n - b ≤ q - pg
  · rw [if_pos h3, if_pos (show pg + n - b ≤ q by omega)]
  rw [if_neg h3] at h ⊢
  rw [if_neg (show ¬ pg + n - b ≤ q by omega)]
  split at h
  · rename_i h4; rw [if_pos h4]
  · exact absurd rfl h
/-- what the reference's Hit answers -/
def hitR (pg n f b ev a m : Int) : Int × Int × Int :=
  if chkG pg n f b ev = 0 then (if badHit a m then (0, 0, 2) else hitS (kindG pg n f b ev) ((a + m - 1) / 64) 1100 (a / 64)) else (0, 0, chkG pg n f b ev)
theorem hit_law (pg n f b ev a m : Int) : hitR pg n f b ev a m = hitF pg n f b ev a m := by
  unfold hitR hitF
  by_cases hc : chkG pg n f b ev = 0
  · rw [if_pos hc, if_pos hc]
    have hp := chkG_zero.1 hc
    by_cases hb : badHit a m
    · rw [if_pos hb, if_pos hb]
    · rw [if_neg hb, if_neg hb]
      unfold badHit at hb
      have hcan := runsL_can hp
      obtain ⟨s1, s2, s3⟩ := skipF_ok (runsL pg n f b ev) (a / 64) (-1) (fun x hx => (vld_iff.1 (hcan.1 x hx)).2.2.1) hcan.2
      have hk : kindG pg n f b ev (skipF (a / 64) (runsL pg n f b ev)) ≠ 0 := fun h => by
        have := (kindG_zero hp _).1 h
        rw [s3] at this; cases this
      rw [hitS_skip (kindG pg n f b ev) ((a + m - 1) / 64) _ hk 1100 (a / 64) (by omega) s1 (fun q h1 h2 => (kindG_zero hp q).2 (s2 q h1 h2)), hitK_kind hp hk]
  · rw [if_neg hc, if_neg hc]
end Go.Pol
namespace Go.Proofs.YtefnnfcfigcikaaGreat
open Go Go.Proofs Go.RowKit Go.Pol
section
variable {pg n f b ev : Int}
theorem plan_vld (hp : PlanOk pg n f b ev) : vld (pg, n) = true := vld_iff.2 ⟨hp.pg0, hp.pg1, hp.n0, hp.n1⟩
theorem guards_set (hp : PlanOk pg n f b ev) : Go.Pol.Can (guardsF pg n f b ev) ∧ ∀ q, mem q (guardsF pg n f b ev) = true ↔ (pg ≤ q ∧ q < pg + n) ∧ mem q (runsL pg n f b ev) = false := by
  unfold guardsF
  rw [if_pos (chkG_zero.2 hp)]
  exact (runsL_can hp).gaps (plan_vld hp)
theorem runs_in (hp : PlanOk pg n f b ev) {q : Int} (h : mem q (runsL pg n f b ev) = true) : pg ≤ q ∧ q < pg + n := by
  have := ((runsL_ok hp).2.2 q).1 h
  have := hp.f0; have := hp.b0
  omega
theorem parts_common (hp : PlanOk pg n f b ev) : commonF (guardsF pg n f b ev) (runsL pg n f b ev) = [] := by
  have hg := guards_set hp
  have hr := runsL_can hp
  refine (hg.1.common hr).eq ⟨by simp, rfl⟩ fun q => ?_
  rw [hg.1.mem_common hr, mem_nil, Bool.and_eq_false_iff]
  by_cases h : mem q (runsL pg n f b ev) = true
  · left
    cases hq : mem q (guardsF pg n f b ev) with
    | false => rfl
    | true => rw [((hg.2 q).1 hq).2] at h; cases h
  · right; simpa using h
theorem parts_all (hp : PlanOk pg n f b ev) (q : Int) : mem q [(pg, n)] = true ↔ mem q (guardsF pg n f b ev ++ runsL pg n f b ev) = true := by
  have hg := guards_set hp
  rw [mem_one, mem_append, Bool.or_eq_true, hg.2 q]
  simp only
  constructor
  · intro h
    cases hq : mem q (runsL pg n f b ev) with
    | true => exact .inr rfl
    | false => exact .inl ⟨h, rfl⟩
  · rintro (h | h)
    · exact h.1
    · exact runs_in hp h
/-- whatever sorted permutation it was: joined, the guards and the usable pages are the range -/
theorem parts_of (hp : PlanOk pg n f b ev) {us' : List Sp} (h : us'.Perm (guardsF pg n f b ev ++ runsL pg n f b ev)) (hs : us'.Pairwise (fun a b => a.1 ≤ b.1)) : ofF us' = [(pg, n)] :=
  ofF_set (fun y hy => by
    rcases List.mem_append.1 hy with h1 | h1
    · exact (guards_set hp).1.1 y h1
    · exact (runsL_can hp).1 y h1) h hs (Go.Pol.Can.one (plan_vld hp)) (parts_all hp)
/-- the program's Has of one page says whether it is in the set -/
theorem has_one {s : List Sp} (hs : Go.Pol.Can s) {p : Int} (hv : vld (p, 1) = true) : (gapsF s (p, 1)).isEmpty = mem p s := by
  obtain ⟨hg, hm⟩ := hs.gaps hv
  cases hp : mem p s with
  | true =>
    have h0 : gapsF s (p, 1) = [] := hg.eq ⟨by simp, rfl⟩ fun q => by
      rw [mem_nil]
      cases hq : mem q (gapsF s (p, 1)) with
      | false => rfl
      | true =>
        have h := (hm q).1 hq
        simp only at h
        have e : q = p := by omega
        rw [e, hp] at h; cases h.2
    rw [h0]; rfl
  | false =>
    have h1 : mem p (gapsF s (p, 1)) = true := (hm p).2 ⟨by simp only; omega, hp⟩
    cases hG : gapsF s (p, 1) with
    | nil => rw [hG, mem_nil] at h1; cases h1
    | cons => rfl
end
end Go.Proofs.YtefnnfcfigcikaaGreat
namespace Go.Pol
open Go
theorem pages_sorted : ∀ (L : List Sp) (e : Int), (∀ x ∈ L, 1 ≤ x.2) → formOk e L = true → (pagesOf L).Pairwise (· < ·) ∧ ∀ p ∈ pagesOf L, e < p ∧ mem p L = true
  | [], _, _, _ => ⟨by simp [pagesOf], fun p hp => by simp [pagesOf] at hp⟩
  | x :: r, e, h, hf => by
    have hf' := formOk_cons.1 hf
    have hx := h x (by simp)
    obtain ⟨h1, h2⟩ := pages_sorted r (x.1 + x.2) (fun y hy => h y (by simp [hy])) hf'.2
    have hX : ∀ p ∈ pagesX x x.2.toNat, x.1 ≤ p ∧ p < x.1 + x.2 := by
      intro p hp
      simp only [pagesX, List.mem_map, List.mem_range] at hp
      obtain ⟨k, hk, rfl⟩ := hp
      omega
    rw [pagesOf_cons]
    constructor
    · rw [List.pairwise_append]
      refine ⟨?_, h1, fun a ha b hb => by have := hX a ha; have := (h2 b hb).1; omega⟩
      unfold pagesX
      rw [List.pairwise_map]
      exact List.pairwise_lt_range.imp (fun {a b} h => by omega)
    · intro p hp
      rcases List.mem_append.1 hp with h3 | h3
      · have := hX p h3
        exact ⟨by omega, mem_cons'.2 (.inl this)⟩
      · exact ⟨by have := (h2 p h3).1; omega, mem_cons'.2 (.inr (h2 p h3).2)⟩
theorem idxL_get : ∀ (P : List Int) (k : Int) (i : Nat), P.Pairwise (· < ·) → i < P.length → idxL (P.getD i 0) k P = (k + i, 0)
  | [], _, _, _, h => by simp at h
  | y :: r, k, 0, _, _ => by simp [idxL]
  | y :: r, k, i + 1, hp, h => by
    have hp' := List.pairwise_cons.1 hp
    have hi : i < r.length := by simpa using h
    have e : (y :: r).getD (i + 1) 0 = r.getD i 0 := by simp [List.getD_eq_getElem?_getD]
    have hm : r.getD i 0 ∈ r := by rw [List.getD_eq_getElem?_getD, List.getElem?_eq_getElem hi]; simp
    have hne : y ≠ r.getD i 0 := by have := hp'.1 _ hm; omega
    rw [e, idxL, if_neg hne, idxL_get r (k + 1) i hp'.2 hi]
    congr 1
    omega
theorem sum_form : ∀ (s : List Sp) (e : Int), e < 1024 → (∀ x ∈ s, vld x = true) → formOk e s = true → sumS s ≤ 1023 - e
  | [], e, he, _, _ => by simp [sumS]; omega
  | x :: s, e, he, hv, hf => by
    rw [formOk_cons] at hf
    have hx := vld_iff.1 (hv x (by simp))
    have e1 : sumS (x :: s) = x.2 + sumS s := by simp [sumS]
    rw [e1]
    cases s with
    | nil => simp [sumS]; omega
    | cons y r =>
      have hf2 := formOk_cons.1 hf.2
      have hy := vld_iff.1 (hv y (by simp))
      have := sum_form (y :: r) (x.1 + x.2) (by omega) (fun z hz => hv z (List.mem_cons_of_mem _ hz)) hf.2
      omega
theorem runs_size (sz en : Int) : ∀ (k : Nat) (a : Int), ∀ x ∈ runsF sz en k a, x.2 ≤ sz
  | 0, _ => by simp [runsF]
  | k + 1, a => by
    intro x hx
    rw [runsF] at hx
    split at hx
    · rcases List.mem_cons.1 hx with rfl | h
      · simp only; omega
      · exact runs_size sz en k _ x h
    · simp at hx
/-- the usable page with a number -/
def pageAt (L : List Sp) (k : Nat) : Int := (pagesOf L).getD k 0
/-- the one before it -/
def lastAt (L : List Sp) (k : Nat) : Int := if k = 0 then -1 else pageAt L (k - 1)
section
variable {pg n f b ev : Int}
theorem runs_every (_hp : PlanOk pg n f b ev) (he : 0 < ev) : ∀ x ∈ runsL pg n f b ev, x.2 ≤ ev := by
  intro x hx
  unfold runsL at hx
  have := runs_size _ _ _ _ x hx
  rw [if_neg (by omega)] at this
  exact this
theorem runs_pos (hp : PlanOk pg n f b ev) : ∀ x ∈ runsL pg n f b ev, 1 ≤ x.2 := fun x hx => ((runsL_ok hp).1 x hx).2.1
theorem runs_ne (hp : PlanOk pg n f b ev) : runsL pg n f b ev ≠ [] := by
  have h := hp.fb
  unfold runsL
  rw [show (1025 : Nat) = 1024 + 1 from rfl, runsF, if_pos (by omega)]
  simp
theorem runs_sum (hp : PlanOk pg n f b ev) : 1 ≤ sumS (runsL pg n f b ev) ∧ sumS (runsL pg n f b ev) ≤ 1024 := by
  have hc := runsL_can hp
  have h1 := sum_form _ (-1) (by omega) hc.1 hc.2
  refine ⟨?_, by omega⟩
  have h2 := runs_pos hp
  cases hL : runsL pg n f b ev with
  | nil => exact absurd hL (runs_ne hp)
  | cons x r =>
    rw [hL] at h2 hc
    have h3 := h2 x (by simp)
    have h4 := (sumS_bound r (fun y hy => hc.1 y (by simp [hy]))).1
    have e1 : sumS (x :: r) = x.2 + sumS r := by simp [sumS]
    omega
theorem parts_nth (hp : PlanOk pg n f b ev) (k : Nat) (hk : (k : Int) < sumS (runsL pg n f b ev)) :
    nthF (runsL pg n f b ev) k = (pageAt (runsL pg n f b ev) k, 0) ∧ idxF (pageAt (runsL pg n f b ev) k) 0 (runsL pg n f b ev) = ((k : Int), 0) ∧
    mem (pageAt (runsL pg n f b ev) k) (runsL pg n f b ev) = true ∧ 0 ≤ pageAt (runsL pg n f b ev) k ∧ pageAt (runsL pg n f b ev) k < 1024 ∧
    lastAt (runsL pg n f b ev) k < pageAt (runsL pg n f b ev) k := by
  have hpos := runs_pos hp
  have hc := runsL_can hp
  have hin : ∀ {q : Int}, mem q (runsL pg n f b ev) = true → pg ≤ q ∧ q < pg + n := fun h => by
    have := ((runsL_ok hp).2.2 _).1 h
    have := hp.f0; have := hp.b0
    omega
  have b1 := hp.pg0; have b2 := hp.n1
  generalize runsL pg n f b ev = L at *
  have hl := pagesOf_len L (fun x hx => by have := hpos x hx; omega)
  have hk' : k < (pagesOf L).length := by omega
  obtain ⟨hs, hm⟩ := pages_sorted L (-1) hpos hc.2
  have hmem : pageAt L k ∈ pagesOf L := by
    unfold pageAt
    rw [List.getD_eq_getElem?_getD, List.getElem?_eq_getElem hk']; simp
  have hmm := (hm _ hmem).2
  have := hin hmm
  refine ⟨?_, ?_, hmm, by omega, by omega, ?_⟩
  · rw [nthF_pages L _ hpos, nthP, if_neg (by omega)]; rfl
  · rw [idxF_pages _ _ _ hpos]
    have := idxL_get (pagesOf L) 0 k hs hk'
    rw [Int.zero_add] at this
    exact this
  · unfold lastAt
    by_cases h0 : k = 0
    · rw [if_pos h0]; omega
    · rw [if_neg h0]
      have h1 : k - 1 < (pagesOf L).length := by omega
      have := List.pairwise_iff_getElem.1 hs (k - 1) k h1 hk' (by omega)
      unfold pageAt
      have e1 : (pagesOf L).getD k 0 = (pagesOf L)[k] := by rw [List.getD_eq_getElem?_getD, List.getElem?_eq_getElem hk']; rfl
      have e2 : (pagesOf L).getD (k - 1) 0 = (pagesOf L)[k - 1] := by rw [List.getD_eq_getElem?_getD, List.getElem?_eq_getElem h1]; rfl
      rw [e1, e2]
      exact this
theorem parts_end (hp : PlanOk pg n f b ev) : nthF (runsL pg n f b ev) (sumS (runsL pg n f b ev)) = (0, 7) := by
  have hpos := runs_pos hp
  rw [nthF_pages _ _ hpos, nthP, if_pos]
  right
  rw [pagesOf_len _ (fun x hx => by have := hpos x hx; omega)]
  exact Int.le_refl _
theorem lastAt_succ (L : List Sp) (k : Nat) : lastAt L (k + 1) = pageAt L k := by unfold lastAt; rw [if_neg (by omega)]; rfl
end
end Go.Pol
namespace Go.Pol
open Go
def cntN (f : Int → Bool) : Nat → Int → Int
  | 0, _ => 0
  | k + 1, a => (if f a = true then 1 else 0) + cntN f k (a + 1)
/-- how many pages of a span are in some spans -/
def cntF (us : List Sp) (x : Sp) : Int := cntN (fun q => mem q us) x.2.toNat x.1
theorem cntN_snoc (f : Int → Bool) : ∀ (k : Nat) (a : Int), cntN f (k + 1) a = cntN f k a + if f (a + k) = true then 1 else 0
  | 0, a => by simp [cntN]
  | k + 1, a => by
    rw [cntN, cntN_snoc f k (a + 1), cntN, show a + 1 + (k : Int) = a + (k + 1 : Nat) by omega]
    omega
theorem cntN_split (f : Int → Bool) : ∀ (j k : Nat) (a : Int), cntN f (j + k) a = cntN f j a + cntN f k (a + j)
  | 0, k, a => by simp [cntN]
  | j + 1, k, a => by
    rw [show j + 1 + k = (j + k) + 1 by omega, cntN, cntN_split f j k (a + 1), cntN, show a + 1 + (j : Int) = a + (j + 1 : Nat) by omega]
    omega
theorem cntN_congr {f g : Int → Bool} : ∀ (k : Nat) (a : Int), (∀ q, a ≤ q → q < a + k → f q = g q) → cntN f k a = cntN g k a
  | 0, a, _ => rfl
  | k + 1, a, h => by
    rw [cntN, cntN, h a (by omega) (by omega), cntN_congr k (a + 1) (fun q h1 h2 => h q (by omega) (by omega))]
theorem cntN_bound (f : Int → Bool) : ∀ (k : Nat) (a : Int), 0 ≤ cntN f k a ∧ cntN f k a ≤ k
  | 0, a => by simp [cntN]
  | k + 1, a => by
    have := cntN_bound f k (a + 1)
    rw [cntN]
    split <;> omega
theorem cntN_all {f : Int → Bool} : ∀ (k : Nat) (a : Int), (∀ q, a ≤ q → q < a + k → f q = true) → cntN f k a = k
  | 0, a, _ => rfl
  | k + 1, a, h => by
    rw [cntN, h a (by omega) (by omega), if_pos rfl, cntN_all k (a + 1) (fun q h1 h2 => h q (by omega) (by omega))]
    omega
theorem cntN_none {f : Int → Bool} : ∀ (k : Nat) (a : Int), (∀ q, a ≤ q → q < a + k → f q = false) → cntN f k a = 0
  | 0, a, _ => rfl
  | k + 1, a, h => by
    rw [cntN, h a (by omega) (by omega), if_neg (by decide), cntN_none k (a + 1) (fun q h1 h2 => h q (by omega) (by omega))]
    omega
theorem cntN_full {f : Int → Bool} : ∀ (k : Nat) (a : Int), cntN f k a = k → ∀ q, a ≤ q → q < a + k → f q = true
  | 0, a, _, q, h1, h2 => by omega
  | k + 1, a, h, q, h1, h2 => by
    have hb := cntN_bound f k (a + 1)
    rw [cntN] at h
    by_cases hfa : f a = true
    · rw [if_pos hfa] at h
      by_cases hqa : q = a
      · rw [hqa]; exact hfa
      · exact cntN_full k (a + 1) (by omega) q (by omega) (by omega)
    · rw [if_neg hfa] at h; omega
theorem cntN_zero {f : Int → Bool} : ∀ (k : Nat) (a : Int), cntN f k a = 0 → ∀ q, a ≤ q → q < a + k → f q = false
  | 0, a, _, q, h1, h2 => by omega
  | k + 1, a, h, q, h1, h2 => by
    have hb := cntN_bound f k (a + 1)
    rw [cntN] at h
    by_cases hfa : f a = true
    · rw [if_pos hfa] at h; omega
    · rw [if_neg hfa] at h
      by_cases hqa : q = a
      · rw [hqa]; simpa using hfa
      · exact cntN_zero k (a + 1) (by omega) q (by omega) (by omega)
theorem cnt_sum : ∀ (us : List Sp) (e a : Int), formOk e us = true → (∀ x ∈ us, vld x = true) → (∀ x ∈ us, a ≤ x.1) → a ≤ 1024 → cntN (fun q => mem q us) (1024 - a).toNat a = sumS us
  | [], _, a, _, _, _, _ => by rw [cntN_none (f := fun q => mem q []) _ _ (fun q _ _ => rfl)]; simp [sumS]
  | x :: r, e, a, hf, hv, ha, hle => by
    have hf' := formOk_cons.1 hf
    have hx := vld_iff.1 (hv x (by simp))
    have hax := ha x (by simp)
    have hrv : ∀ y ∈ r, vld y = true := fun y hy => hv y (by simp [hy])
    have low : ∀ q, mem q r = true → x.1 + x.2 < q := fun q hq => mem_lt hf'.2 (fun y hy => by have := vld_iff.1 (hrv y hy); omega) hq
    have hr : ∀ y ∈ r, x.1 + x.2 ≤ y.1 := fun y hy => by
      have := vld_iff.1 (hrv y hy)
      have := low y.1 (List.any_eq_true.2 ⟨y, hy, by simp; omega⟩)
      omega
    have ih := cnt_sum r (x.1 + x.2) (x.1 + x.2) hf'.2 hrv hr (by omega)
    have e1 : (1024 - a).toNat = (x.1 - a).toNat + (x.2.toNat + (1024 - (x.1 + x.2)).toNat) := by omega
    rw [e1, cntN_split, cntN_split, show a + ((x.1 - a).toNat : Int) = x.1 by omega, show x.1 + (x.2.toNat : Int) = x.1 + x.2 by omega]
    rw [cntN_none (x.1 - a).toNat a (fun q h1 h2 => by
      rw [Bool.eq_false_iff]; intro hh
      rcases mem_cons'.1 hh with h | h
      · omega
      · have := low q h; omega)]
    rw [cntN_all x.2.toNat x.1 (fun q h1 h2 => mem_cons'.2 (.inl (by omega)))]
    rw [cntN_congr (g := fun q => mem q r) _ _ (fun q h1 h2 => by
      show mem q (x :: r) = mem q r
      rw [mem_cons, Bool.eq_iff_iff]
      simp
      omega), ih]
    have : sumS (x :: r) = x.2 + sumS r := by simp [sumS]
    omega
theorem count_law {us : List Sp} (h : Can us) : cntF us (0, 1024) = sumS us := by
  have := cnt_sum us (-1) 0 h.2 h.1 (fun x hx => (vld_iff.1 (h.1 x hx)).1) (by omega)
  exact this
theorem has_law {us : List Sp} {x : Sp} (h : Can us) (hv : vld x = true) : (gapsF us x).isEmpty = (cntF us x == x.2) := by
  obtain ⟨hg, hm⟩ := h.gaps hv
  have hx := vld_iff.1 hv
  have e : ((x.2.toNat : Nat) : Int) = x.2 := by omega
  cases hG : gapsF us x with
  | nil =>
    have : cntF us x = x.2 := by
      unfold cntF
      rw [cntN_all, e]
      intro q h1 h2
      show mem q us = true
      cases hq : mem q us with
      | true => rfl
      | false =>
        have := (hm q).2 ⟨by omega, hq⟩
        rw [hG] at this; cases this
    rw [this]; simp
  | cons y r =>
    have hy : mem y.1 (gapsF us x) = true := by
      rw [hG]
      have := vld_iff.1 (hg.1 y (by rw [hG]; simp))
      exact mem_cons'.2 (.inl (by omega))
    have h1 := (hm y.1).1 hy
    have : cntF us x ≠ x.2 := fun hc => by
      unfold cntF at hc
      have := cntN_full _ _ (hc.trans e.symm) y.1 (by omega) (by omega)
      rw [show mem y.1 us = true from this] at h1
      cases h1.2
    simp [this]
theorem meets_law {us : List Sp} {x : Sp} (h : Can us) (hv : vld x = true) : (commonF us [x]).isEmpty = (cntF us x == 0) := by
  have hc1 := Can.one hv
  have hm := fun q => h.mem_common hc1 (p := q)
  have hcc := h.common hc1
  cases hG : commonF us [x] with
  | nil =>
    have : cntF us x = 0 := by
      unfold cntF
      apply cntN_none
      intro q h1 h2
      have hx := vld_iff.1 hv
      have h3 := hm q
      rw [hG, mem_nil] at h3
      have h4 : mem q [x] = true := mem_cons'.2 (.inl (by omega))
      rw [h4, Bool.and_true] at h3
      exact h3.symm
    rw [this]; simp
  | cons y r =>
    have hy : mem y.1 (commonF us [x]) = true := by
      rw [hG]
      have := vld_iff.1 (hcc.1 y (by rw [hG]; simp))
      exact mem_cons'.2 (.inl (by omega))
    have h1 := hm y.1
    rw [hy] at h1
    have h2 := Bool.and_eq_true_iff.1 h1.symm
    have h3 : x.1 ≤ y.1 ∧ y.1 < x.1 + x.2 := by
      rcases mem_cons'.1 h2.2 with h | h
      · exact h
      · cases h
    have : cntF us x ≠ 0 := fun hc => by
      unfold cntF at hc
      have := cntN_zero _ _ hc y.1 (by omega) (by omega)
      rw [show mem y.1 us = false from this] at h2
      cases h2.1
    simp [this]
end Go.Pol
namespace Go.Pol

/-- how many pages of group g lie in a set -/
def grpF (us : List Sp) (g : Int) : Int := cntF us (16 * g, 16)
def hugOk (C : List Sp) : Int → List Int → Bool
  | _, [] => true
  | e, g :: r => decide (16 ≤ grpF C g) && decide (e < g) && hugOk C g r
def inG (g : Int) : Bool := decide (0 ≤ g) && decide (g < 64)
/-- does a set lie in another one? -/
def subF (L C : List Sp) : Bool := (List.range 1024).all fun p => !mem (p : Int) L || mem (p : Int) C
def chkH (C L : List Sp) (H : List Int) : Int :=
  if chkS C ≠ 0 then chkS C else if chkS L ≠ 0 then chkS L else if H.all inG = false then 7
  else if subF L C = false then 6 else if hugOk C (-1) H = false then 6 else 0

theorem inG_iff {g : Int} : inG g = true ↔ 0 ≤ g ∧ g < 64 := by simp [inG]
theorem grpF_bound (us : List Sp) (g : Int) : 0 ≤ grpF us g ∧ grpF us g ≤ 16 := by
  have := cntN_bound (fun q => mem q us) 16 (16 * g)
  exact this
theorem hugOk_cons {C : List Sp} {e g : Int} {r : List Int} : hugOk C e (g :: r) = true ↔ 16 ≤ grpF C g ∧ e < g ∧ hugOk C g r = true := by simp [hugOk, and_assoc]
theorem hugOk_mem {C : List Sp} : ∀ {H : List Int} {e : Int}, hugOk C e H = true → ∀ g ∈ H, e < g ∧ grpF C g = 16
  | [], _, _ => by simp
  | x :: r, e, h => by
    obtain ⟨h1, h2, h3⟩ := hugOk_cons.1 h
    intro g hg
    rcases List.mem_cons.1 hg with rfl | hg
    · exact ⟨h2, by have := (grpF_bound C g).2; omega⟩
    · obtain ⟨a, b⟩ := hugOk_mem h3 g hg
      exact ⟨by omega, b⟩
theorem chkH_zero {C L : List Sp} {H : List Int} : chkH C L H = 0 ↔ Can C ∧ Can L ∧ (∀ g ∈ H, inG g = true) ∧ subF L C = true ∧ hugOk C (-1) H = true := by
  rw [← chkS_zero, ← chkS_zero]
  unfold chkH
  by_cases h1 : chkS C = 0
  · rw [if_neg (by simp [h1])]
    by_cases h2 : chkS L = 0
    · rw [if_neg (by simp [h2])]
      by_cases h3 : H.all inG = true
      · rw [if_neg (by simp [h3])]
        rw [List.all_eq_true] at h3
        by_cases h4 : subF L C = true
        · rw [if_neg (by simp [h4])]
          by_cases h5 : hugOk C (-1) H = true
          · rw [if_neg (by simp [h5])]
            exact ⟨fun _ => ⟨h1, h2, h3, h4, h5⟩, fun _ => rfl⟩
          · rw [if_pos (by simpa using h5)]
            exact ⟨fun h => absurd h (by decide), fun h => absurd h.2.2.2.2 h5⟩
        · rw [if_pos (by simpa using h4)]
          exact ⟨fun h => absurd h (by decide), fun h => absurd h.2.2.2.1 h4⟩
      · rw [if_pos (by simpa using h3)]
        exact ⟨fun h => absurd h (by decide), fun h => absurd (List.all_eq_true.2 h.2.2.1) h3⟩
    · rw [if_pos h2]
      exact ⟨fun h => absurd h h2, fun h => absurd h.2.1 h2⟩
  · rw [if_pos h1]
    exact ⟨fun h => absurd h h1, fun h => absurd h.1 h1⟩
end Go.Pol
namespace Go.Proofs.YtefnnfcfigcikaaGreat
open Go Go.Proofs Go.Shelf
def sortSp_ren : Go.Shelf.Ren := ⟨fun | 6 => 174 | 15 => 102 | 14 => 196 | 28 => 158 | 29 => 159 | 20 => 208 | 21 => 209 | 22 => 210 | 23 => 211 | 24 => 212 | 25 => 213 | 26 => 214 | 27 => 215 | 46 => 229 | 47 => 230 | 48 => 231 | 49 => 232 | 50 => 233 | 57 => 238 | n => n, fun | 22 => 42 | 24 => 134 | 25 => 260 | 3 => 3 | 39 => 190 | 0 => 0 | 53 => 239 | 55 => 241 | 4 => 4 | 46 => 287 | 45 => 286 | 50 => 291 | 5 => 5 | 9 => 9 | 66 => 302 | 70 => 195 | 76 => 310 | 77 => 311 | n => n, fun | n => n⟩
theorem sortSp : Go.Proofs.SlLaysF0.n6 Tryz.prog sortSp_ren := {
  mixed := by kernel_rfl
  f6 := ⟨Tryz.f174.name, by decide, Tryz.func174.trans (congrArg some (by kernel_rfl))⟩
  f14 := ⟨Tryz.f196.name, by decide, Tryz.func196.trans (congrArg some (by kernel_rfl))⟩
  f15 := Tryz.func102.trans (congrArg some (by kernel_rfl))
  f20 := ⟨Tryz.f208.name, by decide, Tryz.func208.trans (congrArg some (by kernel_rfl))⟩
  f21 := ⟨Tryz.f209.name, by decide, Tryz.func209.trans (congrArg some (by kernel_rfl))⟩
  f22 := ⟨Tryz.f210.name, by decide, Tryz.func210.trans (congrArg some (by kernel_rfl))⟩
  f23 := ⟨Tryz.f211.name, by decide, Tryz.func211.trans (congrArg some (by kernel_rfl))⟩
  f24 := ⟨Tryz.f212.name, by decide, Tryz.func212.trans (congrArg some (by kernel_rfl))⟩
  f25 := ⟨Tryz.f213.name, by decide, Tryz.func213.trans (congrArg some (by kernel_rfl))⟩
  f26 := ⟨Tryz.f214.name, by decide, Tryz.func214.trans (congrArg some (by kernel_rfl))⟩
  f27 := ⟨Tryz.f215.name, by decide, Tryz.func215.trans (congrArg some (by kernel_rfl))⟩
  f28 := Tryz.func158.trans (congrArg some (by kernel_rfl))
  f29 := Tryz.func159.trans (congrArg some (by kernel_rfl))
  f46 := ⟨Tryz.f229.name, by decide, Tryz.func229.trans (congrArg some (by kernel_rfl))⟩
  f47 := Tryz.func230.trans (congrArg some (by kernel_rfl))
  f48 := Tryz.func231.trans (congrArg some (by kernel_rfl))
  f49 := ⟨Tryz.f232.name, by decide, Tryz.func232.trans (congrArg some (by kernel_rfl))⟩
  f50 := ⟨Tryz.f233.name, by decide, Tryz.func233.trans (congrArg some (by kernel_rfl))⟩
  f57 := ⟨Tryz.f238.name, by decide, Tryz.func238.trans (congrArg some (by kernel_rfl))⟩
  t0 := Tryz.underlying0
  a0 := Tryz.isAgg0
  z0 := Tryz.sizeOf0
  v0 := Tryz.zeroValue0
  t3 := Tryz.underlying3
  a3 := Tryz.isAgg3
  z3 := Tryz.sizeOf3
  v3 := Tryz.zeroValue3
  t4 := Tryz.underlying4
  a4 := Tryz.isAgg4
  z4 := Tryz.sizeOf4
  v4 := Tryz.zeroValue4
  t5 := Tryz.underlying5
  a5 := Tryz.isAgg5
  z5 := Tryz.sizeOf5
  v5 := Tryz.zeroValue5
  t9 := Tryz.underlying9
  a9 := Tryz.isAgg9
  z9 := Tryz.sizeOf9
  v9 := Tryz.zeroValue9
  t22 := Tryz.underlying42
  a22 := Tryz.isAgg42
  z22 := Tryz.sizeOf42
  v22 := Tryz.zeroValue42
  t25 := Tryz.underlying260
  a25 := Tryz.isAgg260
  z25 := Tryz.sizeOf260
  v25 := Tryz.zeroValue260
  t39 := Tryz.underlying190
  a39 := Tryz.isAgg190
  z39 := Tryz.sizeOf190
  v39 := Tryz.zeroValue190
  t45 := Tryz.underlying286
  a45 := Tryz.isAgg286
  z45 := Tryz.sizeOf286
  v45 := Tryz.zeroValue286
  t46 := Tryz.underlying287
  a46 := Tryz.isAgg287
  z46 := Tryz.sizeOf287
  v46 := Tryz.zeroValue287
  t50 := Tryz.underlying291
  a50 := Tryz.isAgg291
  z50 := Tryz.sizeOf291
  v50 := Tryz.zeroValue291
  t53 := Tryz.underlying239
  a53 := Tryz.isAgg239
  z53 := Tryz.sizeOf239
  v53 := Tryz.zeroValue239
  t55 := Tryz.underlying241
  a55 := Tryz.isAgg241
  z55 := Tryz.sizeOf241
  v55 := Tryz.zeroValue241
  t66 := Tryz.underlying302
  a66 := Tryz.isAgg302
  z66 := Tryz.sizeOf302
  v66 := Tryz.zeroValue302
  t70 := Tryz.underlying195
  a70 := Tryz.isAgg195
  z70 := Tryz.sizeOf195
  v70 := Tryz.zeroValue195
  t76 := Tryz.underlying310
  a76 := Tryz.isAgg310
  z76 := Tryz.sizeOf310
  v76 := Tryz.zeroValue310
  t77 := Tryz.underlying311
  a77 := Tryz.isAgg311
  z77 := Tryz.sizeOf311
  v77 := Tryz.zeroValue311 }
end Go.Proofs.YtefnnfcfigcikaaGreat
namespace Go.Proofs.YtefnnfcfigcikaaGreat
open Go Go.Proofs Go.RowKit Go.Pol Go.Shelf Go.Sort

def encSp (x : Sp) : List Value := [.int .i64 x.1, .int .i64 x.2]
theorem flat_cells (us : List Sp) : (flatK encSp 2 us.toArray).toList = spCells us := by
  apply List.ext_getElem?
  intro t
  have hl := spCells_len us
  by_cases ht : t < us.length * 2
  · have h1 : (flatK encSp 2 us.toArray).toList[t]? = some ((encSp us.toArray[t / 2]!)[t % 2]!) := by
      rw [← get_flatK encSp 2 us.toArray t (by simpa using ht)]
      rw [Array.getElem?_toList, getElem!_pos _ t (by simpa using ht), Array.getElem?_eq_getElem (by simpa using ht)]
    rw [h1]
    have hk : t / 2 < us.length := by omega
    have hat := spCells_at us (t / 2) hk
    have hg : us.toArray[t / 2]! = us.getD (t / 2) (0,0) := by
      rw [List.getD_eq_getElem?_getD, List.getElem?_eq_getElem hk, getElem!_pos _ _ (by simpa using hk)]; simp
    rw [hg]
    rcases Nat.mod_two_eq_zero_or_one t with h | h
    · rw [h, show t = t / 2 * 2 by omega, hat.1]; simp [encSp]
    · rw [h]
      have e : t = t / 2 * 2 + 1 := by omega
      generalize t / 2 = k at *
      subst e
      rw [hat.2]; simp [encSp]
  · rw [List.getElem?_eq_none (by simp; omega), List.getElem?_eq_none (by omega)]
theorem heap_putF {w : World} {g m : Nat} {os : Array Obj} {cur : Array Value} {e : TypeId} {fr : Nat × Nat} (F : Array Value) (hb : w.heap[g]? = some (.cells cur e fr)) :
    (grow (putRow id (Sort.ahead w m) g 0 F) os).heap[g]? = some (.cells (putCells id 0 F cur) e fr) := by
  have hg : g < w.heap.size := (Array.getElem?_eq_some_iff.1 hb).1
  rw [heap_grow_old _ _ (by simpa using hg)]
  simp [putRow, mapBlock, Sort.ahead, Array.getElem?_modify, hb, onCells]
theorem grownBy_putF {w : World} {g m : Nat} {os : Array Obj} (F : Array Value) : w.grownBy (grow (putRow id (Sort.ahead w m) g 0 F) os) (some g) := by
  refine ⟨rfl, rfl, rfl, by simp, fun k hk hne => ?_⟩
  rw [heap_grow_old _ _ (by simpa using hk)]
  have : g ≠ k := fun e => hne (by rw [e])
  simp [putRow, mapBlock, Sort.ahead, Array.getElem?_modify, this]
theorem take_putF (cur F : Array Value) (h : F.size ≤ cur.size) : (putCells id 0 F cur).toList.take F.size = F.toList := by
  apply List.ext_getElem?
  intro j
  by_cases hj : j < F.size
  · rw [List.getElem?_take_of_lt hj, Array.getElem?_toList]
    simp [putCells, hj, show j < cur.size by omega]
  · rw [List.getElem?_take_eq_none (by omega), List.getElem?_eq_none (by simp; omega)]
theorem owns_putF {w : World} {base g n cap m : Nat} {e : TypeId} {os : Array Obj} {xs : List Value} (F : Array Value) (hF : F.size = n * 2) (h : w.ownsRow base e 2 (.slice (some ⟨g, 0, none⟩) n cap) n xs) :
    (grow (putRow id (Sort.ahead w m) g 0 F) os).ownsRow base e 2 (.slice (some ⟨g, 0, none⟩) n cap) n F.toList := by
  rcases h.2 with ⟨h0, _⟩ | ⟨g', cap', cur, hv, hbase, hb, h1, h2, h3, _⟩
  · cases h0
  cases hv
  exact ⟨by simpa using hF, .inr ⟨g, cap, _, rfl, hbase, heap_putF _ hb, h1, h2, by simp [putCells, h3], by rw [← hF]; exact take_putF cur F (by rw [hF, h3]; exact Nat.mul_le_mul_right 2 h1)⟩⟩
theorem holds_own {w : World} {base g n cap : Nat} {e : TypeId} {us : List Sp} (hn : us.length = n) (h : w.ownsRow base e 2 (.slice (some ⟨g, 0, none⟩) n cap) n (spCells us)) : HoldsK encSp 2 w g 0 us.toArray := by
  intro j hj
  have hj' : j < us.length * 2 := by simpa using hj
  rw [Nat.zero_add]
  refine ⟨?_, h.frozenAt j⟩
  rw [h.cellAt j (by omega), ← flat_cells, Array.getElem?_toList, getElem!_pos _ j hj, Array.getElem?_eq_getElem hj]
  rfl


theorem cmpLays (blk off size : Nat) (w : World) : CmpLays Tryz.prog 175 #[] encSp 2 (fun x y => cmpI x.1 y.1) blk off size w :=
  fun m os dk _ x y => (of1_any x y _).mono (by rintro e w' ⟨he, rfl⟩; exact ⟨he, 0, _, by rw [alloc_eq_grow, alloc_eq_grow, grow_grow]; rfl⟩)
theorem ltSp (x y : Sp) : ltOf (fun x y : Sp => cmpI x.1 y.1) x y = decide (x.1 < y.1) := by
  unfold ltOf cmpI
  by_cases h1 : x.1 < y.1
  · simp [h1]
  · by_cases h2 : y.1 < x.1 <;> simp [h1, h2]
theorem swoSp : SWO (ltOf fun x y : Sp => cmpI x.1 y.1) where
  irrefl x := by rw [ltSp]; simp
  trans x y z h1 h2 := by rw [ltSp] at *; simp at *; omega
  ntrans x y z h1 h2 := by rw [ltSp] at *; simp at *; omega
theorem of1_enters : ∀ args w, (callFunc 175 args).run Tryz.prog w = .ok (.enter 175 args) w := enters_of Tryz.func175 (by kernel_rfl) rfl

set_option maxHeartbeats 1000000 in
/-- the sort of a slice of spans of the call's own that holds some -/
theorem sortSome_any (base : Nat) (v : Value) (us : List Sp) (w : World) (hlen : us.length ≤ 100000) (hbase : base ≤ w.heap.size) (hne : us ≠ []) (hrow : w.ownsRow base 134 2 v us.length (spCells us)) :
    Calls Tryz.prog 174 #[v, .func (.func 175) #[] #[]] w fun e w' => e = .returned (.tuple #[]) ∧ ∃ us' : List Sp, us'.Perm us ∧ us'.Pairwise (fun a b => a.1 ≤ b.1) ∧ w'.ownsRow base 134 2 v us.length (spCells us') ∧ Go.RowKit.Below base w w' := by
  have hpos : 0 < us.length := List.length_pos_iff.2 hne
  obtain ⟨g, cap, rfl, hg1, hg2⟩ := hrow.form hpos
  have hcon := AnyQ.slices_SortFunc sortSp 2 Tryz.isAgg134 Tryz.sizeOf134 encSp (fun _ => rfl) (fun x v hv => by simp [encSp] at hv; rcases hv with rfl | rfl <;> rfl) (fun x y => cmpI x.1 y.1) swoSp 175 #[] g 0 cap us.toArray w of1_enters (cmpLays g 0 us.toArray.size w) (holds_own rfl hrow) hg2 (by simp; omega)
  change Calls Tryz.prog 174 _ _ _ at hcon
  rw [List.size_toArray] at hcon
  refine hcon.mono ?_
  rintro e w' ⟨rfl, d', n, os, hp, hs, rfl⟩
  obtain ⟨us'⟩ := d'
  obtain ⟨hp1, _, hp2⟩ := hp
  simp only [List.size_toArray] at hp1 hp2
  refine ⟨rfl, us', by
    have h1 : (Array.extract us'.toArray 0 us.length).toList = us' := by simp [← hp1]
    have h2 : (Array.extract us.toArray 0 us.length).toList = us := by simp
    rw [h1, h2] at hp2; exact hp2, ?_, ?_, ?_⟩
  · rw [List.pairwise_iff_getElem]
    intro i j hi hj hij
    have := hs i j (Nat.zero_le _) hij (by omega)
    rw [ltSp, getElem!_pos _ j (by simpa using hj), getElem!_pos _ i (by simpa using hi)] at this
    simpa using this
  · have := owns_putF (m := n) (os := os) (flatK encSp 2 us'.toArray) (by simp [hp1]) hrow
    rw [flat_cells] at this
    exact this
  · exact (Go.RowKit.Below.refl base w).grown (grownBy_putF _) hbase (fun j hj => by cases hj; exact hg1)
end Go.Proofs.YtefnnfcfigcikaaGreat
namespace Go.Proofs.YtefnnfcfigcikaaGreat
open Go Go.Proofs Go.RowKit Go.Pol Go.Shelf

theorem insNone_any (A : Option Addr) (cap : Nat) (w : World) : Calls Tryz.prog 208 #[.slice A 0 cap, .int .i64 0, .int .i64 0, .func (.func 175) #[] #[]] w fun e w' => e = .returned (.tuple #[]) ∧ w' = w := by
  go_enter Tryz.func208, Tryz.ntmps208
  go_wp2_with fail
  go_loopw [8] (fun a wr => a = .int .i64 1 ∧ wr = w) (fun _ _ => 0)
  case atStart => exact ⟨rfl, rfl⟩
  case round =>
    obtain ⟨rfl, hw⟩ := hrel
    have hw' := hw.symm
    clear hw
    subst hw'
    go_wp2_with fail
    go_end0
    exact ⟨rfl, rfl⟩
theorem pdqNone_any (A : Option Addr) (cap : Nat) (w : World) : Calls Tryz.prog 196 #[.slice A 0 cap, .int .i64 0, .int .i64 0, .int .i64 0, .func (.func 175) #[] #[]] w fun e w' => e = .returned (.tuple #[]) ∧ w' = w := by
  have HI := Lib.hid (insNone_any A cap w)
  go_enter Tryz.func196, Tryz.ntmps196
  go_wp2_with fail
  go_loopw [1, 2] (fun a b wr => a = .int .i64 0 ∧ b = .int .i64 0 ∧ wr = w) (fun _ _ _ => 0)
  case atStart => exact ⟨rfl, rfl, rfl⟩
  case round =>
    obtain ⟨rfl, rfl, hw⟩ := hrel
    have hw' := hw.symm
    clear hw
    subst hw'
    go_wp2_with fail
    refine HI.out.mono ?_
    rintro e w1 ⟨rfl, hw⟩
    have hw' := hw.symm
    clear hw
    subst hw'
    go_wp2_with fail
    exact bodyPost_ret (results_none (by rfl) _ _ _) rfl ⟨rfl, rfl⟩
theorem sortNone_any (A : Option Addr) (cap : Nat) (w : World) : Calls Tryz.prog 174 #[.slice A 0 cap, .func (.func 175) #[] #[]] w fun e w' => e = .returned (.tuple #[]) ∧ w' = w := by
  have HI := Lib.hid (pdqNone_any A cap w)
  have HL := Lib.hid (fun W => len_any 0 W (by omega) (by omega))
  have e0 : ((Lib.bitLen (0 : Int).toNat : Nat) : Int) = 0 := by decide
  rw [e0] at HL
  go_enter Tryz.func174, Tryz.ntmps174
  go_wp2_with (go_at_call 102; refine (HL.out _).mono ?_; rintro e w' ⟨rfl, rfl⟩)
  refine HI.out.mono ?_
  rintro e w1 ⟨rfl, hw⟩
  have hw' := hw.symm
  clear hw
  subst hw'
  go_wp2_with fail
  go_end0
  exact ⟨rfl, rfl⟩
theorem sort_any (base : Nat) (v : Value) (us : List Sp) (w : World) (hlen : us.length ≤ 100000) (hbase : base ≤ w.heap.size) (hrow : w.ownsRow base 134 2 v us.length (spCells us)) :
    Calls Tryz.prog 174 #[v, .func (.func 175) #[] #[]] w fun e w' => e = .returned (.tuple #[]) ∧ ∃ us' : List Sp, us'.Perm us ∧ us'.Pairwise (fun a b => a.1 ≤ b.1) ∧ w'.ownsRow base 134 2 v us.length (spCells us') ∧ Below base w w' := by
  by_cases hne : us = []
  · subst hne
    obtain ⟨A, cap, rfl⟩ := own_nil_iff hrow rfl
    refine (sortNone_any A cap w).mono ?_
    rintro e w' ⟨rfl, rfl⟩
    exact ⟨rfl, [], List.Perm.refl _, List.Pairwise.nil, hrow, Below.refl _ _⟩
  · exact sortSome_any base v us w hlen hbase hne hrow
/-- of: of valid spans in a slice of the call's own -/
theorem of'_any (base : Nat) (v : Value) (us : List Sp) (w : World) (hv : ∀ y ∈ us, vld y = true) (hlen : us.length ≤ 100000) (hbase : base ≤ w.heap.size) (hrow : w.ownsRow base 134 2 v us.length (spCells us)) :
    Calls Tryz.prog 130 #[v] w fun e w' => ∃ (us' : List Sp) (v' : Value), us'.Perm us ∧ us'.Pairwise (fun a b => a.1 ≤ b.1) ∧ e = .returned v' ∧ w'.ownsRow w.heap.size 134 2 v' (ofF us').length (spCells (ofF us')) ∧ Below base w w' :=
  of_any base v us w hv hlen hbase (sort_any base v us w hlen hbase hrow) hrow
end Go.Proofs.YtefnnfcfigcikaaGreat
namespace Go.Proofs.YtefnnfcfigcikaaGreat
open Go Go.Proofs Go.RowKit Go.Pol Go.Shelf


theorem ru_src {w : World} {A : Option Addr} {us : List Sp} (h : RU w w.heap.size A us) : (A = none ∧ us = []) ∨ ∃ ad, A = some ad ∧ ∀ (j : Nat) (u : Value), (spCells us)[j]? = some u → w.cell? (ad.add j) = some u := by
  by_cases h0 : us = []
  · subst h0
    cases A with
    | none => exact .inl ⟨rfl, rfl⟩
    | some ad => exact .inr ⟨ad, rfl, fun j u hu => by simp [spCells] at hu⟩
  · obtain ⟨b, o, rfl, _⟩ := RU.at_' h (k := 0) (List.length_pos_iff.2 h0)
    refine .inr ⟨⟨b, o, none⟩, rfl, fun j u hu => ?_⟩
    have hl := spCells_len us
    have hj : j < us.length * 2 := by
      rw [← hl]; exact (List.getElem?_eq_some_iff.1 hu).1
    obtain ⟨k, hk⟩ : ∃ k, j = k * 2 ∨ j = k * 2 + 1 := ⟨j / 2, by omega⟩
    obtain ⟨b', o', e, _, h1, h2⟩ := RU.at_' h (k := k) (by omega)
    cases e
    have hat := spCells_at us k (by omega)
    rw [Addr.add_lit]
    rcases hk with rfl | rfl
    · rw [hat.1] at hu
      rw [← hu]; exact h1
    · rw [hat.2] at hu
      rw [← hu]; exact h2
theorem spCells_one (us : List Sp) : ∀ u ∈ spCells us, u.oneCell' = true := by
  intro u hu
  simp only [spCells, List.mem_flatMap, List.mem_cons, List.not_mem_nil, or_false] at hu
  obtain ⟨x, _, rfl | rfl⟩ := hu <;> rfl
theorem spCells_append (us vs : List Sp) : spCells (us ++ vs) = spCells us ++ spCells vs := by simp [spCells]

end Go.Proofs.YtefnnfcfigcikaaGreat
namespace Go.Pol
open Go Go.RowKit
theorem MarksAre.congr {cs : Array Value} {f g : Nat → Bool} (h : MarksAre cs f) (hg : ∀ k, k < 1024 → f k = g k) : MarksAre cs g :=
  ⟨h.size, fun k hk => by rw [← hg k hk]; exact h.at_ k hk⟩
theorem MarksAre.one {cs : Array Value} {f : Nat → Bool} (h : MarksAre cs f) : cs.all (·.oneCell') = true := by
  rw [Array.all_eq_true]
  intro i hi
  have := h.at_ i (by rw [← h.size]; exact hi)
  rw [Array.getElem?_eq_getElem hi] at this
  cases this' : cs[i] <;> simp_all [Value.oneCell']
theorem below_setCells {s : Nat} {w : World} (b : Nat) (hb : s ≤ b) : ∀ (vs : List Value) (o : Nat) (W : World), Below s w W → Below s w (W.setCells b o vs)
  | [], _, _, h => h
  | v :: vs, o, _, h => below_setCells b hb vs (o + 1) _ (h.setCell (p := ⟨b, o, none⟩) hb v)
theorem results_cell {P : Program} {fn : Func} {a : Tmp} {t : TypeId} {tmps : Array Value} {w : World} {v : Value} {p : Addr} (h : fn.results = #[.cell a t]) (ha : tmps.getD a undef = .pointer (some p)) (hl : (loadVar t p).run P w = .ok v w) :
    (results fn tmps).run P w = .ok v w := by
  have ha' : tmps[a]?.getD undef = .pointer (some p) := by rw [← ha, Array.getD_eq_getD_getElem?]
  simp [results, h, ha', asAddr, hl]
theorem blk_there {w : World} {g : Nat} {t : TypeId} {cs : Array Value} (h : Blk w g t cs) : w.there g 0 cs.size := fun j hj => by
  rw [Nat.zero_add]
  exact ⟨by rw [h.cell]; simp [hj], h.frozen j⟩
end Go.Pol
namespace Go.Proofs.YtefnnfcfigcikaaGreat
open Go Go.Proofs Go.RowKit Go.Pol Go.Shelf

set_option maxHeartbeats 800000 in
theorem clone_any (A : Option Addr) (n cap : Nat) (us : List Sp) (w : World) (hn : us.length = n) (hm : n ≤ 1000000) (hr : RU w w.heap.size A us) :
    Calls Tryz.prog 110 #[.slice A n cap] w fun e w' => ∃ v, e = .returned v ∧ w'.ownsRow w.heap.size 134 2 v n (spCells us) ∧ Below w.heap.size w w' := by
  obtain ⟨i0, hi, hy0, hy1, hy2⟩ := infoSp_parts
  have h1 := Lib.hid hn
  clear hn
  have q36 : ∀ (w : World) (a : Option Addr) (n c n' c' : Nat), (binOp .eql 42 (.slice a n c) (.slice none n' c')).run Tryz.prog w = .ok (.bool a.isNone) w := fun w a n c n' c' => Lib.run_eql_slice_nil w _ _ a n c n' c' Tryz.underlying42
  have hb0 := (Below.refl w.heap.size w).alloc (Nat.le_refl _) (.cells #[] 134)
  have hsrc := ru_src (hr.on ((Below.refl w.heap.size w).alloc (Nat.le_refl _) (.cells #[] 134)))
  have hown : (w.alloc (.cells #[] 134)).ownsRow w.heap.size 134 2 (.slice (some ⟨w.heap.size, 0, none⟩) 0 0) 0 [] := World.ownsRow_made w #[] 0 (Nat.le_refl _) (Nat.zero_le _) (by simp)
  rcases hsrc with ⟨rfl, rfl⟩ | ⟨ad, rfl, hnews⟩
  · have hn0 : n = 0 := h1.out.symm
    subst hn0
    go_enter Tryz.func110, Tryz.ntmps110
    go_wp2_with fail
    go_ret
    exact ⟨_, rfl, World.ownsRow_nil _ _ _ _, Below.refl _ _⟩
  · go_enter Tryz.func110, Tryz.ntmps110
    go_wp2_with (refine wpList_append_own _ rfl (.tmp 5) (.tmp 6) 42 rfl w.heap.size 134 i0 (.agg #[.int .i64 0, .int .i64 0]) 2 16 Tryz.underlying42 hi hy0 hy1 hy2 rfl (by decide) _ 0 [] rfl hown ad n cap (spCells us) rfl (by rw [spCells_len, h1.out]) hnews (spCells_one us) (by unfold maxLen; omega) (by omega) (by simp) ?_; intro v' w3 hown' hgrow _)
    go_ret
    rw [Nat.zero_add, List.nil_append] at hown'
    exact ⟨_, rfl, hown', hb0.grown hgrow (by simp) (fun j hj => (hown.lt j hj).1)⟩

set_option maxHeartbeats 800000 in
theorem ofTop_any (A : Option Addr) (n cap : Nat) (us : List Sp) (w : World) (hn : us.length = n) (hm : n ≤ maxLen) (hr : RU w w.heap.size A us) :
    Calls Tryz.prog 77 #[.slice A n cap] w (SpansOwn w (if ofE us = 0 then setOf us else []) (ofE us)) := by
  have HC := Lib.hid (containsFunc_any A n cap us w hn hm hr)
  by_cases hlen : 2000 < n
  · have hlen' : decide (2000 < (n : Int)) = true := by simp; omega
    have hE : ofE us = 3 := by unfold ofE; rw [if_pos (by omega)]
    rw [hE, if_neg (by decide)]
    clear hE
    go_enter Tryz.func77, Tryz.ntmps77
    go_wp2_with fail
    go_ret2
    exact ⟨none, 0, rfl, RU.nil, by simp, by unfold maxLen; omega, fun b o e => (by cases e), Below.refl _ _, fun _ => rfl⟩
  have hlen' : decide (2000 < (n : Int)) = false := by simp; omega
  by_cases hall : us.all vld = true
  · have hE : ofE us = 0 := by unfold ofE; rw [if_neg (by omega), if_pos hall]
    have hv := (ofE_zero hE).2
    rw [hE, if_pos rfl]
    rw [hall] at HC
    have HK := Lib.hid (fun W h => clone_any A n cap us W hn (by omega) h)
    have HO := Lib.hid (fun base v W (h1 : base ≤ W.heap.size) (h2 : W.ownsRow base 134 2 v us.length (spCells us)) => of'_any base v us W hv (by omega) h1 h2)
    have hS := Lib.hid (fun (us' : List Sp) (h1 : us'.Perm us) h2 => ofF_setOf hv h1 h2)
    rw [hn] at HO
    clear hE hall hv hn
    go_enter Tryz.func77, Tryz.ntmps77
    go_wp2_with fail
    refine HC.out.mono ?_
    rintro e w1 ⟨rfl, hb1⟩
    go_wp2_with fail
    refine (HK.out _ (hr.on hb1)).mono ?_
    rintro e w2 ⟨v, rfl, hrow, hb2⟩
    have B2 := hb1.trans (hb2.mono hb1.size)
    go_wp2_with fail
    refine (HO.out _ _ _ hb2.size hrow).mono ?_
    rintro e w3 ⟨us', v', hp, hs, rfl, hrow3, hb3⟩
    rw [hS.out us' hp hs] at hrow3
    obtain ⟨A3, cap3, rfl, hru, h1, h2, h3, _⟩ := own_RU hrow3 rfl
    go_wp2_with fail
    go_ret2
    exact ⟨A3, cap3, rfl, hru, h1, h2, fun b o e => by have := h3 b o e; have := B2.size; omega, B2.trans (hb3.mono hb1.size), own_cap hrow3⟩
  · have hE : ofE us = 7 := by unfold ofE; rw [if_neg (by omega), if_neg hall]
    have hall' : us.all vld = false := by simpa using hall
    rw [hE, if_neg (by decide)]
    rw [hall'] at HC
    clear hE hall hall'
    go_enter Tryz.func77, Tryz.ntmps77
    go_wp2_with fail
    refine HC.out.mono ?_
    rintro e w1 ⟨rfl, hb1⟩
    go_wp2_with fail
    go_ret2
    exact ⟨none, 0, rfl, RU.nil, by simp, by unfold maxLen; omega, fun b o e => (by cases e), hb1, fun _ => rfl⟩

theorem marks_step (us : List Sp) (k : Nat) (hk : k < us.length) (p : Int) : mem p (us.take (k + 1)) = (mem p (us.take k) || decide ((us.getD k (0,0)).1 ≤ p ∧ p < (us.getD k (0,0)).1 + (us.getD k (0,0)).2)) := by
  rw [take_snoc us k hk, mem_append, mem_cons, mem_nil, Bool.or_false]
  congr 1
  rw [Bool.eq_iff_iff]; simp

set_option maxRecDepth 100000 in
set_option maxHeartbeats 1600000 in
theorem marks_any (A : Option Addr) (n cap : Nat) (us : List Sp) (w : World) (hn : us.length = n) (hm : n ≤ 1000000) (hr : RU w w.heap.size A us) (hv : ∀ x ∈ us, vld x = true) :
    Calls Tryz.prog 95 #[.slice A n cap] w fun e w' => ∃ cs, e = .returned (.agg cs) ∧ MarksAre cs (fun k => mem (k : Int) us) ∧ Below w.heap.size w w' := by
  obtain ⟨s, hs⟩ : ∃ s, w.heap.size = s := ⟨_, rfl⟩
  obtain ⟨W0, hW0⟩ : ∃ W0, (w.alloc (.cells Tryz.zeroCells152 152)).alloc (.cells Tryz.zeroCells152 152) = W0 := ⟨_, rfl⟩
  have hb0 : Below s w W0 := by rw [← hW0, ← hs]; exact ((Below.refl w.heap.size w).alloc (Nat.le_refl _) _).alloc (by simp) _
  have kR : Blk W0 s 152 Tryz.zeroCells152 := by rw [← hW0, ← hs]; exact (Blk.new _ _ _).alloc _
  have kM : Blk W0 (s + 1) 152 Tryz.zeroCells152 := by
    have := Blk.new (w.alloc (.cells Tryz.zeroCells152 152)) 152 Tryz.zeroCells152
    rw [World.size_alloc, hs, hW0] at this; exact this
  have hZ := zeros_are
  have hW1 := Lib.hid hW0
  have hn' := Lib.hid hn
  have hv' := Lib.hid hv
  rw [hs] at hr
  clear hW0 hn hv
  go_enter Tryz.func95, Tryz.ntmps95
  go_upto_region 2 with fail
  try simp only [Nat.add_assoc, Nat.reduceAdd]
  try rw [hs]
  rw [hW1.out]
  generalize Tryz.zeroCells152 = Z at *
  clear hW1
  go_wp2_with fail
  go_loopw [4] (fun i wr => ∃ (k : Nat) (cs : Array Value), k ≤ n ∧ i = .int .i64 k ∧ Blk wr s 152 Z ∧ Blk wr (s + 1) 152 cs ∧ MarksAre cs (fun p => mem (p : Int) (us.take k)) ∧ Below s w wr) (fun i _ => n - (intOf i).toNat)
  case atStart => exact ⟨0, Z, by omega, rfl, kR, kM, hZ.congr (fun k _ => by simp [mem_nil]), hb0⟩
  case round =>
    obtain ⟨k, cs, hk, rfl, kR, kM, hM, hB⟩ := hrel
    by_cases hlt : k < n
    · have hlt' : decide ((k : Int) < (n : Int)) = true := by simpa using hlt
      obtain ⟨b, o, rfl, hbl, hcw, hdw⟩ := RU.at_' hr (k := k) (by have := hn'.out; omega)
      have hvx := vld_iff.1 (hv'.out (us.getD k (0,0)) (by rw [List.getD_eq_getElem?_getD, List.getElem?_eq_getElem (by have := hn'.out; omega)]; simp))
      have hst := Lib.hid (marks_step us k (by have := hn'.out; omega))
      generalize us.getD k (0,0) = x at *
      obtain ⟨xa, xb⟩ := x
      dsimp only at hcw hdw hvx hst
      have hc := (hB.cell (p := ⟨b, o + k * 2, none⟩) hbl).trans hcw
      go_wp2_with fail
      go_loopw [5] (fun p wr => ∃ (j : Nat) (cs : Array Value), (j : Int) ≤ xb ∧ p = .int .i64 (xa + j) ∧ Blk wr s 152 Z ∧ Blk wr (s + 1) 152 cs ∧ MarksAre cs (fun q => mem (q : Int) (us.take k) || decide (xa ≤ (q : Int) ∧ (q : Int) < xa + j)) ∧ Below s w wr) (fun p _ => (xa + xb - intOf p).toNat)
      case atStart => exact ⟨0, cs, by omega, by simp, kR, kM, hM.congr (fun p _ => by rw [decide_eq_false (by omega), Bool.or_false]), hB⟩
      case round =>
        clear hM kM kR hc hB
        obtain ⟨j, cs, hj, rfl, kR, kM, hM, hB⟩ := hrel
        have hBs := hB.size
        have hc := (hB.cell (p := ⟨b, o + k * 2, none⟩) hbl).trans hcw
        have hd := (hB.cell (p := ⟨b, o + k * 2 + 1, none⟩) hbl).trans hdw
        have e1 := fun z : Ext wr => z.cell hc
        have e2 := fun z : Ext wr => z.cell hd
        by_cases hjx : (j : Int) < xb
        · have hj' : decide (xa + (j : Int) < xa + xb) = true := by simp; omega
          have hmm := Lib.hid (hM.set (g := fun q => mem (q : Int) (us.take k) || decide (xa ≤ (q : Int) ∧ (q : Int) < xa + (j + 1 : Nat))) (xa + j).toNat (by omega) true (by
            have e : (((xa + (j : Int)).toNat : Nat) : Int) = xa + j := by omega
            simp only [e]
            rw [decide_eq_true (by omega), Bool.or_true]) (fun q hq => by
            congr 1
            exact decide_eq_decide.2 (by omega)))
          have hold := hM.at_ (xa + j).toNat (by omega)
          generalize (mem (((xa + (j : Int)).toNat : Nat) : Int) (us.take k) || decide (xa ≤ (((xa + (j : Int)).toNat : Nat) : Int) ∧ (((xa + (j : Int)).toNat : Nat) : Int) < xa + j)) = B0 at hold
          go_upto_region 6 with fail
          refine region_ext (by kernel_rfl) (by kernel_rfl) ?_
          repeat (go_big_quiet_step (fail))
          refine wpQuiet_nil ?_
          rintro w2 ⟨⟨_, hw2⟩, rfl⟩
          have kM2 := kM.call hw2
          have kR2 := kR.call hw2
          have hB2 := hB.trans (hw2.mono (by omega))
          have fM2 := kM2.frozen
          have cM2 : w2.cell? ⟨s + 1, (xa + (j : Int)).toNat, none⟩ = some (.bool B0) := (kM2.cell _).trans hold
          have hf4 : Far (fun k => k = s + 1) w2 (w2.setCell ⟨s + 1, (xa + (j : Int)).toNat, none⟩ (.bool true)) := Far.setCell (T := fun k => k = s + 1) (p := ⟨s + 1, (xa + (j : Int)).toNat, none⟩) (Far.refl _ _) (fun _ => rfl) _
          go_wp2_with fail
          go_roundw
          case rel => exact ⟨j + 1, _, by omega, by go_num, hf4.blk kR2 (by omega), kM2.set_ _ _, hmm.out, hB2.trans (hf4.below (by have := hB2.size; omega) (fun k hk => by omega))⟩
          case measure => simp [intOf]; omega
        · have hj' : decide (xa + (j : Int) < xa + xb) = false := by simp; omega
          have hjx2 : (j : Int) = xb := by omega
          have hM2 := hM.congr (g := fun p => mem (p : Int) (us.take (k + 1))) (fun p _ => by rw [hst.out, hjx2])
          go_upto_region 6 with fail
          refine region_ext (by kernel_rfl) (by kernel_rfl) ?_
          repeat (go_big_quiet_step (fail))
          refine wpQuiet_nil ?_
          rintro w2 ⟨⟨_, hw2⟩, rfl⟩
          have kM2 := kM.call hw2
          have kR2 := kR.call hw2
          have hB2 := hB.trans (hw2.mono (by omega))
          go_wp2_with fail
          go_roundw
          case rel => exact ⟨k + 1, cs, by omega, by go_num, kR2, kM2, hM2, hB2⟩
          case measure => simp [intOf]; omega
    · have hlt' : decide ((k : Int) < (n : Int)) = false := by simp; omega
      have hkn : k = us.length := by have := hn'.out; omega
      have hMe := hM.congr (g := fun p => mem (p : Int) us) (fun p _ => by rw [hkn, List.take_length])
      have hsz := hM.size
      have hth := blk_there kR
      have hzs := hZ.size
      have hone := hM.one
      go_wp2_with (first
        | (refine wpList_load_mid rfl 152 (.tmp 3) rfl (s + 1) 0 rfl cs.toList _ (rangeAt_blk kM) Tryz.underlying152 rfl (by rw [Array.length_toList, hsz]; kernel_rfl) ?_; rw [Array.toArray_toList])
        | (refine wpList_store_mid rfl 152 (.tmp 2) (.tmp 34) rfl s 0 cs rfl rfl (by rw [hsz, ← hzs]; exact hth) (by rw [hsz]; kernel_rfl) hone ?_))
      have hrg := World.rangeAt_setCells_same wr s 0 cs.toList (by rw [Array.length_toList, hsz, ← hzs]; exact hth)
      have hB9 := below_setCells s (Nat.le_refl _) cs.toList 0 wr hB
      generalize wr.setCells s 0 cs.toList = w9 at *
      have hld := run_loadVar_mid (P := Tryz.prog) w9 s 0 152 cs.toList _ hrg Tryz.underlying152 rfl (by rw [Array.length_toList, hsz]; kernel_rfl)
      rw [Array.toArray_toList] at hld
      exact bodyPost_ret (v := .agg cs) (results_cell rfl rfl hld) rfl ⟨cs, rfl, hMe, by rw [hs]; exact hB9⟩

set_option maxHeartbeats 1600000 in
theorem refOf_any (A : Option Addr) (n cap : Nat) (us : List Sp) (w : World) (hn : us.length = n) (hm : n ≤ maxLen) (hr : RU w w.heap.size A us) :
    Calls Tryz.prog 72 #[.slice A n cap] w (SpansR w (if ofE us = 0 then setOf us else []) (ofE us)) := by
  unfold maxLen at hm
  by_cases hlen : 2000 < n
  · have hlen' : decide (2000 < (n : Int)) = true := by simp; omega
    have hE : ofE us = 3 := by unfold ofE; rw [if_pos (by omega)]
    rw [hE, if_neg (by decide)]
    clear hE
    go_enter Tryz.func72, Tryz.ntmps72
    go_wp2_with fail
    go_ret2
    exact ⟨none, 0, rfl, RU.nil, by simp, by unfold maxLen; omega, fun b o e => (by cases e), Below.refl _ _⟩
  have hlen' : decide (2000 < (n : Int)) = false := by simp; omega
  have hE : Hid (ofE us = if us.all vld = true then 0 else 7) := Lib.hid (by unfold ofE; rw [if_neg (by omega)])
  have hn' := Lib.hid hn
  have HM := Lib.hid (fun W h hv => marks_any A n cap us W hn (by omega) h hv)
  clear hn
  obtain ⟨er, her⟩ : ∃ er, ofE us = er := ⟨_, rfl⟩
  obtain ⟨S, hS⟩ : ∃ S, (if er = 0 then setOf us else []) = S := ⟨_, rfl⟩
  rw [her] at hE ⊢
  rw [hS]
  have hS' := Lib.hid hS
  clear hS her
  go_enter Tryz.func72, Tryz.ntmps72
  go_wp2_with fail
  go_loopw [4] (fun i wr => ∃ (k : Int), 0 ≤ k ∧ k ≤ n ∧ i = .int .i64 k ∧ Below w.heap.size w wr ∧ Hid (∀ j : Nat, (j : Int) < k → j < us.length → vld (us.getD j (0,0)) = true)) (fun i _ => n - (intOf i).toNat)
  case atStart => exact ⟨0, by omega, by omega, rfl, Below.refl _ _, Lib.hid (fun j hj => absurd hj (by omega))⟩
  case round =>
    obtain ⟨k, hk0, hk, rfl, hB, hL⟩ := hrel
    by_cases hlt : k < n
    · have hlt' : decide (k < (n : Int)) = true := by simpa using hlt
      obtain ⟨b, o, rfl, _, hc, hd⟩ := RU.at_' (hr.below hB) (k := k.toNat) (by have := hn'.out; omega)
      generalize hu : us.getD k.toNat (0,0) = u at *
      have hu' := Lib.hid hu; clear hu
      obtain ⟨x, y⟩ := u
      dsimp only at hc hd
      by_cases hv : vld (x, y) = true
      · have hv' : (!vld (x, y)) = false := by simp [hv]
        go_wp2_with (go_at_call 96; refine (valid_any _ _ _).mono ?_; rintro e w1 ⟨rfl, hq⟩)
        have hB1 := hB.trans (hq.mono hB.size)
        go_roundw
        case rel =>
          refine ⟨k+1, by omega, by omega, rfl, hB1, Lib.hid (fun j hj hl => ?_)⟩
          by_cases hjk : (j : Int) < k
          · exact hL.out j hjk hl
          · obtain rfl : j = k.toNat := by omega
            rw [hu'.out]; exact hv
        case measure => simp [intOf]; omega
      · have hv' : (!vld (x, y)) = true := by simpa using hv
        have hER : Hid (er = 7) := Lib.hid (by
          have hb := badAt_at us k.toNat (fun j h1 h2 => hL.out j (by omega) h2) (by have := hn'.out; omega) (by rw [hu'.out]; simpa using hv)
          rw [hE.out, if_neg]
          intro hh
          have := (badAt_all us).2 hh
          have := hn'.out
          omega)
        have hSE : Hid (S = []) := Lib.hid (by rw [← hS'.out, hER.out, if_neg (by decide)])
        clear hv
        go_wp2_with (go_at_call 96; refine (valid_any _ _ _).mono ?_; rintro e w1 ⟨rfl, hq⟩)
        go_ret2
        rw [hER.out, hSE.out]
        exact ⟨none, 0, rfl, RU.nil, by simp, by unfold maxLen; omega, fun b o e => (by cases e), hB.trans (hq.mono hB.size)⟩
    · have hlt' : decide (k < (n : Int)) = false := by simp; omega
      have hA : us.all vld = true := by rw [← badAt_all]; exact badAt_end us (fun j h2 => hL.out j (by have := hn'.out; omega) h2)
      have hER : Hid (er = 0) := Lib.hid (by rw [hE.out, if_pos hA])
      have hSE : Hid (S = setOf us) := Lib.hid (by rw [← hS'.out, hER.out, if_pos rfl])
      have hvv := List.all_eq_true.1 hA
      have HM2 := Lib.hid (fun W h => HM.out W h hvv)
      clear hA hvv HM hL
      go_wp2_with fail
      refine (HM2.out _ (hr.on hB)).mono ?_
      rintro e w1 ⟨cs, rfl, hMA, hb1⟩
      have B1 := hB.trans (hb1.mono hB.size)
      have HS := Lib.hid (refSet_any cs _ w1 hMA)
      go_wp2_with fail
      refine HS.out.mono ?_
      rintro e w2 ⟨A2, cap2, rfl, hru, h1, h2, h3, hq2⟩
      go_wp2_with fail
      go_ret2
      rw [hER.out, hSE.out]
      exact ⟨A2, cap2, rfl, hru, h1, h2, fun b o e => by have := h3 b o e; have := B1.size; omega, B1.trans (hq2.mono B1.size)⟩
end Go.Proofs.YtefnnfcfigcikaaGreat
namespace Go.Pol
open Go
/-- the first page behind 'a' that is a multiple of the size -/
def nextM (size a : Int) : Int := (a / size + 1) * size
def cutN (size en : Int) : Nat → Int → List Sp
  | 0, _ => []
  | k + 1, a => if a < en then (a, min (nextM size a) en - a) :: cutN size en k (min (nextM size a) en) else []
def cutF (size : Int) (x : Sp) : List Sp := cutN size (x.1 + x.2) 1024 x.1
def piecesF (us : List Sp) (size : Int) : List Sp := if chkS us = 0 ∧ 1 ≤ size ∧ size ≤ 1024 then us.flatMap (cutF size) else []
theorem nextM_gt {size a : Int} (hs : 1 ≤ size) : a < nextM size a ∧ nextM size a ≤ a + size := by
  unfold nextM
  have h := Int.emod_add_mul_ediv a size
  have h1 := Int.emod_nonneg a (show size ≠ 0 by omega)
  have h2 := Int.emod_lt_of_pos a (show 0 < size by omega)
  rw [Int.add_mul, Int.one_mul, Int.mul_comm (a / size) size]
  omega
theorem cutN_step {size en a : Int} {k : Nat} (h : a < en) : cutN size en (k + 1) a = (a, min (nextM size a) en - a) :: cutN size en k (min (nextM size a) en) := by rw [cutN, if_pos h]
theorem cutN_end {size en a : Int} {k : Nat} (h : ¬ a < en) : cutN size en k a = [] := by
  cases k with
  | zero => rfl
  | succ k => rw [cutN, if_neg h]
theorem flat_take (us : List Sp) (size : Int) (k : Nat) (hk : k < us.length) : (us.take (k + 1)).flatMap (cutF size) = (us.take k).flatMap (cutF size) ++ cutF size (us.getD k (0,0)) := by
  have e : us.take (k + 1) = us.take k ++ [us.getD k (0,0)] := by
    rw [List.take_add_one, List.getElem?_eq_getElem hk, List.getD_eq_getElem?_getD, List.getElem?_eq_getElem hk]; rfl
  rw [e, List.flatMap_append]; simp
theorem flat_pre (us : List Sp) (size : Int) (k : Nat) : (us.take k).flatMap (cutF size) <+: us.flatMap (cutF size) := by
  refine ⟨(us.drop k).flatMap (cutF size), ?_⟩
  rw [← List.flatMap_append, List.take_append_drop]
end Go.Pol
namespace Go.Pol
open Go Go.RowKit

/-- the contract of a function value that is ranged over, and that makes blocks of its own (X): it goes through just 'xs' -/
def SeqX {α : Type} (P : Program) (g : Nat) (lb : Array Value) (encs : α → Array Value) (T K : Nat → Prop) (xs : List α) (w : World) : Prop :=
  ∀ (n l : Nat) (J Jx : (Nat → Prop) → List α → World → Prop) (W : World), Far (fun k => ¬ K k) w W →
    (∀ X pre A B, J X pre A → Far (fun k => T k ∨ X k) A B → J X pre B) → (∀ X pre A B, Jx X pre A → Far (fun k => T k ∨ X k) A B → Jx X pre B) →
    (∀ X X' pre A, J X pre A → (∀ k, X' k → X k ∨ A.heap.size ≤ k) → J X' pre A) →
    (∀ m X pre x W1, J X pre W1 → (∀ k, X k → k < W1.heap.size) → pre ++ [x] <+: xs → YieldAt Fence.wide m P l (encs x) W1 fun e W' =>
      (e = .returned (.bool true) ∧ J X (pre ++ [x]) W' ∧ Far (fun k => ¬ (K k ∨ X k)) W1 W') ∨ (e = .returned (.bool false) ∧ Jx X (pre ++ [x]) W')) →
    J (fun _ => False) [] W →
    CallsIn Fence.wide n P g (#[.func (.yield l) #[] #[]] ++ lb) W fun e W' => (∃ v, e = .returned v) ∧ ((∃ X, J X xs W') ∨ ∃ X pre, pre <+: xs ∧ Jx X pre W')

theorem SeqX.later {α : Type} {P : Program} {g : Nat} {lb : Array Value} {encs : α → Array Value} {T K : Nat → Prop} {xs : List α} {w w' : World}
    (h : SeqX P g lb encs T K xs w) (hw : Far (fun k => ¬ K k) w w') : SeqX P g lb encs T K xs w' :=
  fun n l J Jx W hW => h n l J Jx W (hw.trans hW)
/-- one that makes none -/
theorem SeqF.toX {α : Type} {P : Program} {g : Nat} {lb : Array Value} {encs : α → Array Value} {T K : Nat → Prop} {xs : List α} {w : World}
    (h : SeqF P g lb encs T K xs w) : SeqX P g lb encs T K xs w := by
  intro n l J Jx W hW hJ hJx _ hY h0
  refine (h n l (J (fun _ => False)) (Jx (fun _ => False)) W hW (fun pre A B a b => hJ _ pre A B a (b.mono fun _ _ h => .inl h)) (fun pre A B a b => hJx _ pre A B a (b.mono fun _ _ h => .inl h))
    (fun m pre x W1 a b => ?_) h0).mono ?_
  · obtain ⟨fn, tmps, assign, body, hy, hR⟩ := hY m (fun _ => False) pre x W1 a (fun _ h => h.elim) b
    refine ⟨fn, tmps, assign, body, hy, hR.mono ?_⟩
    rintro e W' (⟨h1, h2, h3⟩ | h1)
    · exact .inl ⟨h1, h2, h3.mono fun k _ h hk => h (.inl hk)⟩
    · exact .inr h1
  · rintro e W' ⟨h1, h2 | ⟨pre, h3, h4⟩⟩
    · exact ⟨h1, .inl ⟨_, h2⟩⟩
    · exact ⟨h1, .inr ⟨_, pre, h3, h4⟩⟩

/-- how a round's body may be left -/
def xPost {α : Type} (D : Nat) (K X : Nat → Prop) (I : (Nat → Prop) → List α → World → Prop) (Ix : Code → (Nat → Prop) → List α → World → Prop) (xs : List α) (W : World) : Exit → Act → World → Prop
  | .normal, _, W' => Far (fun k => ¬ (K k ∨ X k ∨ k = D ∨ k = D + 1)) W W' ∧ I X xs W'
  | .ret, _, W' => Far (fun k => ¬ (k = D ∨ k = D + 1)) W W' ∧ Ix .ret X xs W'
  | .exit id, _, W' => Far (fun k => ¬ (k = D ∨ k = D + 1)) W W' ∧ Ix (.exit id) X xs W'
  | .goto t, _, W' => Far (fun k => ¬ (k = D ∨ k = D + 1)) W W' ∧ Ix (.goto t) X xs W'
  | .panic _, _, _ => False
  | .outgrown, _, _ => False

theorem rangeX {α : Type} {P : Program} {g : Operand} {ps : Array Tmp} {assign body : Code} {Q : Exit → Act → World → Prop} {a : Act} {w : World}
    {gf : Nat} {lb : Array Value} (hg : a.eval g = .func (.func gf) #[] lb) (eg : ∀ args w, (callFunc gf args).run P w = .ok (.enter gf args) w)
    {encs : α → Array Value} {T K : Nat → Prop} {xs : List α} (hseq : SeqX P gf lb encs T K xs w) (hps : ∀ x, (encs x).size = ps.size)
    (hT : ∀ k, T k → k < w.heap.size) (hK : ∀ k, K k → k < w.heap.size)
    (I : (Nat → Prop) → List α → World → Prop) (Ix : Code → (Nat → Prop) → List α → World → Prop)
    (hI : ∀ X pre A B, I X pre A → Far (fun k => T k ∨ X k ∨ k = w.heap.size ∨ k = w.heap.size + 1) A B → I X pre B)
    (hIx : ∀ c X pre A B, Ix c X pre A → Far (fun k => T k ∨ X k ∨ k = w.heap.size ∨ k = w.heap.size + 1) A B → Ix c X pre B)
    (hnew : ∀ X X' pre A, I X pre A → (∀ k, X' k → X k ∨ A.heap.size ≤ k) → I X' pre A)
    (h0 : I (fun _ => False) [] w) (Ax : Nat → α → Act → World → Prop) (hAx : ∀ N x a' A B, Ax N x a' A → Far (fun k => k = w.heap.size + 1) A B → Ax N x a' B)
    (hassign : ∀ (m l : Nat) (x : α) (W : World) (C : Act → World → Prop), w.heap.size + 2 ≤ W.heap.size → (∀ a' W', Far (fun _ => False) W W' → Ax W.heap.size x a' W' → C a' W') →
      assign.wpIn (Fence.wide.inRound l) m P (Exit.then C (fun _ _ _ => False)) { tmps := (ps.zip (encs x)).foldl (fun t (p, v) => t.setIfInBounds p v) a.tmps, defers := [] } W)
    (hbody : ∀ (m l : Nat) (X : Nat → Prop) (pre : List α) (x : α) (a' : Act) (Wa W : World), w.heap.size + 2 ≤ W.heap.size → (∀ k, X k → k < Wa.heap.size ∧ k ≠ w.heap.size ∧ k ≠ w.heap.size + 1) → I X pre W → Ax Wa.heap.size x a' W → pre ++ [x] <+: xs → I X pre Wa → Far (fun k => k = w.heap.size + 1) Wa W →
      body.wpIn (Fence.wide.inRound l) m P (xPost w.heap.size K X I Ix (pre ++ [x]) W) a' W)
    (hdone : ∀ (X : Nat → Prop) (W : World), w.heap.size + 2 ≤ W.heap.size → I X xs W → W.heap[w.heap.size]? = some (.deferred (some [])) → Q .normal { a with defers := markOf w.heap.size :: a.defers } W)
    (hstop : ∀ (c : Code) (X : Nat → Prop) (pre : List α) (W : World), w.heap.size + 2 ≤ W.heap.size → pre <+: xs → Ix c X pre W → W.heap[w.heap.size]? = some (.deferred (some [])) → c.wp P Q { a with defers := markOf w.heap.size :: a.defers } W) :
    (Code.rangeFunc g ps assign body).wp P Q a w := by
  refine (wpIn_wide (n := 0)).1 (wpIn_rangeFunc fun fn _ => ?_)
  obtain ⟨D, hD⟩ : ∃ D, w.heap.size = D := ⟨_, rfl⟩
  -- the loop's record, in its three states
  obtain ⟨rec, hrec⟩ : ∃ rec : LoopState → Option Code → Loop, rec = fun s p => { state := s, pending := p, fn, tmps := a.tmps, params := ps, assign, body, defers := D } := ⟨_, rfl⟩
  obtain ⟨W1, hW1⟩ : ∃ W1, (w.alloc (.deferred (some []))).alloc (.loop (rec .ready none)) = W1 := ⟨_, rfl⟩
  have hent : (Instr.enterLoop fn a.tmps ps assign body none).run P w = .ok (D + 1, [markOf D]) W1 := by
    rw [← hW1, hrec, ← hD]; exact run_enterLoop_outer _ _ _ _ _
  have hfar : Far (fun _ => False) w W1 := by rw [← hW1]; exact ((Far.refl _ w).alloc _).alloc _
  have hl1 : W1.heap[D + 1]? = some (.loop (rec .ready none)) := by
    rw [← hW1, ← hD]
    have := World.alloc_heap_new (w.alloc (.deferred (some []))) (.loop (rec .ready none))
    rwa [World.size_alloc] at this
  have hd1 : W1.heap[D]? = some (.deferred (some [])) := by
    rw [← hW1, ← hD]; exact (Below.heap_alloc _ _ _ (by simp)).trans (World.alloc_heap_new w _)
  rw [hD] at hT hK hI hIx hAx hassign hbody hdone hstop
  refine ⟨D + 1, [markOf D], W1, { target := .fn (.func gf) lb, args := #[.func (.yield (D + 1)) #[] #[]] }, W1, gf, #[.func (.yield (D + 1)) #[] #[]] ++ lb, W1, hent, ?_, fun _ _ => trivial, ?_, fun h => (by cases h), ?_⟩
  · simp only [resolve, hg]
    simp [go_sem]
  · simp [invoke, go_sem, eg]
  -- what the iterator carries: the loop's invariant, the record, the block for deferred calls
  let J : (Nat → Prop) → List α → World → Prop := fun X pre W => I X pre W ∧ W.heap[D + 1]? = some (.loop (rec .ready none)) ∧ W.heap[D]? = some (.deferred (some [])) ∧ ¬ X D ∧ ¬ X (D + 1)
  let Jx : (Nat → Prop) → List α → World → Prop := fun X pre W => ∃ c, Ix c X pre W ∧ W.heap[D + 1]? = some (.loop (rec .done (some c))) ∧ W.heap[D]? = some (.deferred (some [])) ∧ ¬ X D ∧ ¬ X (D + 1)
  have hnT : ∀ k, T k → k ≠ D ∧ k ≠ D + 1 := fun k hk => by have := hT k hk; omega
  have hnK : ∀ k, K k → k ≠ D ∧ k ≠ D + 1 := fun k hk => by have := hK k hk; omega
  have up : ∀ {X : Nat → Prop} {k : Nat}, T k ∨ X k → T k ∨ X k ∨ k = D ∨ k = D + 1 := fun h => h.elim .inl (fun h => .inr (.inl h))
  refine (hseq _ (D + 1) J Jx W1 (hfar.mono (fun _ _ h => h.elim))
    (fun X pre A B h hf => ⟨hI X pre A B h.1 (hf.mono fun _ _ ht => up ht), hf.same h.2.1 (fun h' => h'.elim (fun h => (hnT _ h).2 rfl) h.2.2.2.2), hf.same h.2.2.1 (fun h' => h'.elim (fun h => (hnT _ h).1 rfl) h.2.2.2.1), h.2.2.2⟩)
    (fun X pre A B h hf => by
      obtain ⟨c, h1, h2, h3, h4, h5⟩ := h
      exact ⟨c, hIx c X pre A B h1 (hf.mono fun _ _ ht => up ht), hf.same h2 (fun h' => h'.elim (fun h => (hnT _ h).2 rfl) h5), hf.same h3 (fun h' => h'.elim (fun h => (hnT _ h).1 rfl) h4), h4, h5⟩)
    (fun X X' pre A h hX => by
      have l1 : D < A.heap.size := (Array.getElem?_eq_some_iff.1 h.2.2.1).1
      have l2 : D + 1 < A.heap.size := (Array.getElem?_eq_some_iff.1 h.2.1).1
      exact ⟨hnew X X' pre A h.1 hX, h.2.1, h.2.2.1, fun hd => (hX _ hd).elim h.2.2.2.1 (fun h => by omega), fun hd => (hX _ hd).elim h.2.2.2.2 (fun h => by omega)⟩)
    ?_ ⟨hI _ [] w W1 h0 (hfar.mono fun _ _ h => h.elim), hl1, hd1, id, id⟩).mono ?_
  · -- a round
    rintro m X pre x Wa ⟨hi, hl, hd, hXD, hXE⟩ hXlt hpre
    have hlt : D + 1 < Wa.heap.size := (Array.getElem?_eq_some_iff.1 hl).1
    have hy := run_yield (P := P) (args := encs x) hl (by rw [hrec]; exact hps x)
    rw [hrec] at hy
    refine ⟨fn, _, assign, body, hy, roundIn_of_wpIn trivial (hassign m (D + 1) x Wa _ (by omega) fun a' Wb hab hax => ?_)⟩
    have hlb := hab.same hl id
    have hdb := hab.same hd id
    have hib := hI X pre Wa Wb hi (hab.mono fun _ _ h => h.elim)
    have hltb : D + 1 < Wb.heap.size := (Array.getElem?_eq_some_iff.1 hlb).1
    refine ⟨_, run_beginRound hlb (by rw [hrec]), ?_⟩
    obtain ⟨Wc, hWc⟩ : ∃ Wc, Wb.putObj (D + 1) (.loop { rec .ready none with state := .busy }) = Wc := ⟨_, rfl⟩
    rw [hWc]
    have hbc : Far (fun k => k = D + 1) Wb Wc := by rw [← hWc]; exact Far.putObj (T := fun k => k = D + 1) (Far.refl _ Wb) (fun _ => rfl) _
    have hlc : Wc.heap[D + 1]? = some (.loop { rec .ready none with state := .busy }) := by rw [← hWc]; exact World.putObj_heap_same hltb
    have hdc : Wc.heap[D]? = some (.deferred (some [])) := hbc.same hdb (by omega)
    have hltc : D + 1 < Wc.heap.size := (Array.getElem?_eq_some_iff.1 hlc).1
    refine wpIn_mono (hbody m (D + 1) X pre x a' Wa Wc (by omega) (fun k hk => ⟨hXlt k hk, fun h => hXD (h ▸ hk), fun h => hXE (h ▸ hk)⟩) (hI X pre Wb Wc hib (hbc.mono fun _ _ h => .inr (.inr (.inr h)))) (hAx _ x a' Wb Wc hax hbc) hpre hi ((hab.mono fun _ _ h => h.elim : Far (fun k => k = D + 1) Wa Wb).trans hbc)) ?_
    -- what 'endRound' makes of it
    have fin : ∀ (j : Option Code) (Wd : World), Far (fun k => ¬ (k = D ∨ k = D + 1)) Wc Wd →
        (Instr.endRound (D + 1) j).run P Wd = .ok (.bool j.isNone) (Wd.putObj (D + 1) (.loop (rec (if j.isNone then .ready else .done) j))) ∧
        (Wd.putObj (D + 1) (.loop (rec (if j.isNone then .ready else .done) j))).heap[D + 1]? = some (.loop (rec (if j.isNone then .ready else .done) j)) ∧
        (Wd.putObj (D + 1) (.loop (rec (if j.isNone then .ready else .done) j))).heap[D]? = some (.deferred (some [])) := fun j Wd hcd => by
      have hld := hcd.same hlc (fun h => h (.inr rfl))
      have he := run_endRound (P := P) j hld
      rw [hrec] at he ⊢
      exact ⟨he, World.putObj_heap_same (Array.getElem?_eq_some_iff.1 hld).1, (World.putObj_heap_other (by omega)).trans (hcd.same hdc (fun h => h (.inl rfl)))⟩
    have back : ∀ (Y : Nat → Prop) (o : Obj) (Wd : World), Far (fun k => T k ∨ Y k ∨ k = D ∨ k = D + 1) Wd (Wd.putObj (D + 1) o) := fun Y o Wd => (Far.refl _ Wd).putObj (fun _ => .inr (.inr (.inr rfl))) o
    intro e a3 Wd hp
    cases e with
    | normal =>
      obtain ⟨hcd, hid⟩ := hp
      obtain ⟨h1, h2, h3⟩ := fin none Wd (hcd.mono fun k _ h h' => h (.inr (.inr h')))
      refine ⟨_, _, h1, .inl ⟨rfl, ⟨hI _ _ _ _ hid (back _ _ Wd), h2, h3, hXD, hXE⟩, ?_⟩⟩
      refine (((hab.mono fun _ _ h => h.elim : Far (fun k => ¬ (K k ∨ X k)) Wa Wb).trans (hbc.mono fun k _ h hk => hk.elim (fun hk => (hnK k hk).2 h) (fun hk => hXE (h ▸ hk)))).trans (hcd.mono fun k _ h hk => h (hk.elim .inl (fun h => .inr (.inl h))))).putObj (fun _ hk => hk.elim (fun hk => (hnK _ hk).2 rfl) hXE) _
    | ret =>
      obtain ⟨hcd, hid⟩ := hp
      obtain ⟨h1, h2, h3⟩ := fin (some .ret) Wd hcd
      exact ⟨_, _, h1, .inr ⟨rfl, .ret, hIx _ _ _ _ _ hid (back _ _ Wd), h2, h3, hXD, hXE⟩⟩
    | exit id =>
      obtain ⟨hcd, hid⟩ := hp
      obtain ⟨h1, h2, h3⟩ := fin (some (.exit id)) Wd hcd
      exact ⟨_, _, h1, .inr ⟨rfl, .exit id, hIx _ _ _ _ _ hid (back _ _ Wd), h2, h3, hXD, hXE⟩⟩
    | goto t =>
      obtain ⟨hcd, hid⟩ := hp
      obtain ⟨h1, h2, h3⟩ := fin (some (.goto t)) Wd hcd
      exact ⟨_, _, h1, .inr ⟨rfl, .goto t, hIx _ _ _ _ _ hid (back _ _ Wd), h2, h3, hXD, hXE⟩⟩
    | panic ch => exact hp.elim
    | outgrown => exact hp.elim
  · -- behind the iterator
    have back : ∀ (Y : Nat → Prop) (o : Obj) (Wd : World), Far (fun k => T k ∨ Y k ∨ k = D ∨ k = D + 1) Wd (Wd.putObj (D + 1) o) := fun Y o Wd => (Far.refl _ Wd).putObj (fun _ => .inr (.inr (.inr rfl))) o
    rintro e W2 ⟨⟨v, rfl⟩, h2⟩
    rcases h2 with ⟨X, hi, hl, hd, _⟩ | ⟨X, pre, hpre, c, hi, hl, hd, _⟩
    · have he := run_endLoop (P := P) hl (by rw [hrec]; simp)
      rw [hrec] at he
      have hlt : D + 1 < W2.heap.size := (Array.getElem?_eq_some_iff.1 hl).1
      exact ⟨none, _, he, hdone _ _ (by rw [World.putObj_size]; omega) (hI _ _ _ _ hi (back _ _ W2)) ((World.putObj_heap_other (by omega)).trans hd)⟩
    · have he := run_endLoop (P := P) hl (by rw [hrec]; simp)
      rw [hrec] at he
      have hlt : D + 1 < W2.heap.size := (Array.getElem?_eq_some_iff.1 hl).1
      exact ⟨some c, _, he, (wpIn_wide (n := 0)).2 (hstop c _ pre _ (by rw [World.putObj_size]; omega) hpre (hIx _ _ _ _ _ hi (back _ _ W2)) ((World.putObj_heap_other (by omega)).trans hd))⟩


/-! a region of the function itself whose last operations come one behind the other, behind all others -/
section
variable {P : Program} {ops : Array Oper} {md : Region.Mode} {C : World → Prop} {m : Nat}
theorem Oper.wpIn_of_quiet {o : Oper} {a : Act} {K : Act → Prop} {K' : Act → World → Prop} {Q' : Exit → Act → World → Prop} {w : World} (hw : C w) (h : ∀ a w', C w' → K a → K' a w') (hh : o.quiet P a C K) : o.wpIn Fence.wide m P a w K' Q' := by
  obtain ⟨v, h1, h2⟩ := hh
  have h3 := h1 w hw
  unfold Oper.quietAt at h3
  unfold Oper.wpIn
  refine ⟨fun _ _ => trivial, ?_⟩
  rw [show Fence.wide.round = none from rfl, Oper.semAt_none]
  generalize (execOp a.eval o).run P w = r at *
  cases r with
  | ok n w' =>
    cases n <;> simp only [Oper.quietUpon] at h3 <;> simp only [Oper.uponIn]
    case value u =>
      obtain ⟨e1, e2⟩ := h3
      rw [e1, e2]
      exact h _ _ hw h2
    case skip =>
      obtain ⟨rfl, rfl⟩ := h3
      exact h _ _ hw h2
    case enter f args =>
      obtain ⟨e1, e2⟩ := h3
      rw [e1]
      refine ⟨fun h0 => (by cases h0), (callsIn_wide.2 e2).mono ?_⟩
      rintro e w'' ⟨rfl, hc⟩
      exact h _ _ hc h2
  | halt x w' => cases x <;> simp only [Oper.quietUpon] at h3
theorem wpOpIn_of_qOp {i : Nat} {a : Act} {K : Act → Prop} {K' : Act → World → Prop} {Q' : Exit → Act → World → Prop} {w : World} (hC : C w) (h : ∀ a w', C w' → K a → K' a w') (hh : qOp P ops C i K a) : wpOpIn Fence.wide m P ops Q' i K' a w := by
  unfold qOp at hh
  unfold wpOpIn
  split
  · rename_i ho; simp only [ho] at hh; exact h _ _ hC hh
  · rename_i o ho
    simp only [ho] at hh
    split
    · rename_i hw; simp only [hw, if_true] at hh; exact Oper.wpIn_of_quiet hC h hh
    · rename_i hw; simp only [hw] at hh; exact ⟨fun _ _ => trivial, h _ _ hC hh⟩
theorem wpAnyIn_of_headQ {n g : Nat} {L : Array Bool → Act → Prop} {Q' : Exit → Act → World → Prop} (hL : ∀ listed a w, C w → L listed a → wpAnyIn Fence.wide m P md ops Q' g listed a w) :
    ∀ (f : Nat) (listed : Array Bool) (a : Act) (w : World), C w → headQ P md ops C n L f listed a → wpAnyIn Fence.wide m P md ops Q' (f + g) listed a w
  | 0, listed, a, w, hw, h => by rw [Nat.zero_add]; exact hL _ _ _ hw h
  | f + 1, listed, a, w, hw, h => by
    rw [show f + 1 + g = (f + g) + 1 by omega]
    exact ⟨fun h0 => absurd h0 h.1, fun i hi => wpOpIn_of_qOp hw (fun a' w' hw' h' => wpAnyIn_of_headQ hL f _ a' w' hw' h') (h.2 i hi).2⟩
theorem wpAnyIn_of_seq {F : Fence} {Q' : Exit → Act → World → Prop} : ∀ (l : List Oper) (k : Nat) (listed : Array Bool) (a : Act) (w : World), (∀ j, l[j]? = ops[k + j]?) →
    Region.seqB md ops l.length k listed = true → wpListIn F m P ops Q' l a w → wpAnyIn F m P md ops Q' l.length listed a w
  | [], _, _, _, _, _, hB, h => ⟨by simpa [Region.seqB] using hB, h⟩
  | o :: l, k, listed, a, w, hl, hB, h => by
    have h0 : ops[k]? = some o := by simpa using (hl 0).symm
    simp only [List.length_cons, Region.seqB, Bool.and_eq_true, decide_eq_true_eq] at hB
    refine ⟨fun h1 => (by rw [hB.1] at h1; cases h1), fun i hi => ?_⟩
    rw [hB.1] at hi
    have hik : i = k := by simpa using hi
    subst hik
    have hw : wpOpIn F m P ops Q' i (wpListIn F m P ops Q' l) a w := by unfold wpOpIn; simp only [h0]; exact h
    exact wpOpIn_mono (fun a' w' h' => wpAnyIn_of_seq l (i + 1) _ a' w' (fun j => by have := hl (j + 1); simpa [Nat.add_assoc, Nat.add_comm 1 j] using this) hB.2 h') hw
theorem region_tail_in {id : Nat} {Q : Exit → Act → World → Prop} {a : Act} {w : World} {l : List Oper} (n : Nat) (hm : P.follows .mixedOrders = true) (hB : Region.lexTailB .any l.toArray n = true)
    (h : wpQuiet P l.toArray (fun w' => ∃ x : Ext w, w' = x.w) (fun a' => ∀ x : Ext w, wpListIn Fence.wide m P l.toArray Q (l.drop n) a' x.w) (l.take n) a) : (Code.region id l.toArray true).wpIn Fence.wide m P Q a w := by
  simp only [Region.lexTailB, Bool.and_eq_true, decide_eq_true_eq] at hB
  obtain ⟨⟨⟨⟨hsel, hn⟩, hs⟩, hc⟩, hlex⟩ := hB
  have hn' : n < l.length := by simpa using hn
  have htl : (l.take n).length = n := by simp; omega
  have hdl : (l.drop n).length = l.toArray.size - n := by simp
  have inv0 : HeadInv .any l.toArray n (Array.replicate l.toArray.size false) :=
    ⟨by simp, fun j oj _ hl => (by rw [getD_replicate_false] at hl; cases hl), fun t _ ht => getD_in (by simpa using ht) (getD_replicate_false _ _)⟩
  have H := headQ_lex (md := .any) (g := l.toArray.size - n) hsel hs hc hn (l.take n) 0 _ a (fun j hj => by
    have hj' : j < n := by rw [htl] at hj; exact hj
    simp [hj']) (by simpa using htl) inv0 (by rw [htl]; exact hlex) h
  refine wpIn_region_any hm ?_
  have := wpAnyIn_of_headQ (m := m) (Q' := Q) (g := l.toArray.size - n) (fun listed a' w' hw' hL => by
    obtain ⟨x, rfl⟩ := hw'
    have := wpAnyIn_of_seq (F := Fence.wide) (m := m) (md := .any) (Q' := Q) (l.drop n) n listed a' x.w (fun j => by simp [List.getElem?_drop]) (by rw [hdl]; exact hL.1) (hL.2 x)
    rwa [hdl] at this) _ _ _ _ (⟨⟨_, (Below.refl _ w).drew⟩, rfl⟩ : ∃ x : Ext w, ({ w with drawn := w.drawn + 1 } : World) = x.w) H
  rw [htl, show n + (l.toArray.size - n) = l.toArray.size by omega] at this
  exact this
end
end Go.Pol
namespace Go.Proofs.YtefnnfcfigcikaaGreat
open Go Go.Proofs Go.RowKit Go.Pol Go.Shelf
attribute [local go_sem] Oper.semAt_some Go.Pol.wide_fn Go.Pol.wide_depth Go.Pol.wide_fn' Go.Pol.wide_depth'

set_option maxRecDepth 100000 in
set_option maxHeartbeats 1600000 in
theorem pieces1_seq (A : Option Addr) (n cap : Nat) (us : List Sp) (size : Int) (B1 B2 : Nat) (K : Nat → Prop) (w : World) (hK1 : K B1) (hK2 : K B2)
    (k1 : Blk w B1 42 #[.slice A n cap]) (k2 : Blk w B2 3 #[.int .i64 size]) (hn : us.length = n) (hm : n ≤ maxLen) (hr : RU w w.heap.size A us) (hown : us ≠ [] → ∀ b o, A = some ⟨b, o, none⟩ → K b) :
    SeqX Tryz.prog 193 #[.pointer (some ⟨B1, 0, none⟩), .pointer (some ⟨B2, 0, none⟩)] spV (fun _ => False) K (piecesF us size) w := by
  intro m l J Jx W hW hJ hJx hnew hY h0
  have kB1 := hW.blk k1 (by simpa using hK1)
  have kB2 := hW.blk k2 (by simpa using hK2)
  have far_ru : ∀ {W1 W2 : World} {N : Nat} {T : Nat → Prop}, RU W1 N A us → Far T W1 W2 → (∀ k, K k → ¬ T k) → RU W2 N A us := fun h hf hT => by
    by_cases h0 : us = []
    · subst h0; exact RU.nil
    · exact hf.ru h (fun b o e => hT b (hown h0 b o e))
  have hrW : RU W W.heap.size A us := (far_ru hr hW (fun k hk h => h hk)).more hW.size
  have HC := Lib.hid (spCheck_any A n cap us W hn hm hrW)
  refine callsIn_of_wp Tryz.func193 rfl trivial ?_ rfl
  simp only [Tryz.ntmps193, List.size_toArray, List.length_cons, List.length_nil, Nat.reduceAdd, Nat.reduceSub, Array.replicate_succ, Array.replicate_zero, List.push_toArray, List.append_toArray, List.nil_append, List.cons_append]
  have c1 := kB1.cell
  by_cases hc : chkS us = 0
  case neg =>
    have hE : Hid (piecesF us size = []) := Lib.hid (by unfold piecesF; rw [if_neg (fun h => hc h.1)])
    generalize chkS us = er at *
    have hc' : (er != 0) = true := by simpa using hc
    gi_wp2_with (gi_at_call 116; refine (callsIn_wide.2 HC.out).mono ?_; rintro e w1 ⟨rfl, hq⟩; have hJ1 := hJ _ [] W w1 h0 (.of_below hq))
    refine bodyPost_ret (results_none rfl _ _ _) rfl ?_
    exact ⟨⟨_, rfl⟩, .inl ⟨_, by rw [hE.out]; exact hJ1⟩⟩
  rw [hc] at HC
  by_cases hs1 : size < 1
  case pos =>
    have hE : Hid (piecesF us size = []) := Lib.hid (by unfold piecesF; rw [if_neg (fun h => by omega)])
    have hs1' : decide (size < 1) = true := by simpa using hs1
    gi_wp2_with (gi_at_call 116; refine (callsIn_wide.2 HC.out).mono ?_; rintro e w1 ⟨rfl, hq⟩; have hJ1 := hJ _ [] W w1 h0 (.of_below hq); have c2 := (kB2.call hq).cell)
    refine bodyPost_ret (results_none rfl _ _ _) rfl ?_
    exact ⟨⟨_, rfl⟩, .inl ⟨_, by rw [hE.out]; exact hJ1⟩⟩
  have hs1' : decide (size < 1) = false := by simpa using hs1
  by_cases hs2 : 1024 < size
  case pos =>
    have hE : Hid (piecesF us size = []) := Lib.hid (by unfold piecesF; rw [if_neg (fun h => by omega)])
    have hs2' : decide (1024 < size) = true := by simpa using hs2
    gi_wp2_with (gi_at_call 116; refine (callsIn_wide.2 HC.out).mono ?_; rintro e w1 ⟨rfl, hq⟩; have hJ1 := hJ _ [] W w1 h0 (.of_below hq); have c2 := (kB2.call hq).cell)
    refine bodyPost_ret (results_none rfl _ _ _) rfl ?_
    exact ⟨⟨_, rfl⟩, .inl ⟨_, by rw [hE.out]; exact hJ1⟩⟩
  have hs2' : decide (1024 < size) = false := by simpa using hs2
  have hP : Hid (piecesF us size = us.flatMap (cutF size)) := Lib.hid (by unfold piecesF; rw [if_pos ⟨hc, by omega, by omega⟩])
  have hcan := chkS_zero.1 hc
  have hlen := hcan.len
  have hvl := Lib.hid hcan.1
  have hn' := Lib.hid hn
  have hn512 : n ≤ 512 := by omega
  clear hcan hc hn
  gi_wp2_with (gi_at_call 116; refine (callsIn_wide.2 HC.out).mono ?_; rintro e w1 ⟨rfl, hq⟩; have kB1a := kB1.call hq; have kB2a := kB2.call hq; have c1a := kB1a.cell; have c2a := kB2a.cell)
  have hJ1 := hJ _ [] W w1 h0 (.of_below hq)
  have hr1 : RU w1 W.heap.size A us := hrW.below hq
  clear hr hrW HC h0 kB1 kB2 c1
  have hwz : W.heap.size ≤ w1.heap.size := hq.size
  gi_loopw [21] (fun i wr => ∃ k : Nat, k ≤ n ∧ i = .int .i64 k ∧ W.heap.size ≤ wr.heap.size ∧ J (fun _ => False) ((us.take k).flatMap (cutF size)) wr ∧ Blk wr B1 42 #[.slice A n cap] ∧ Blk wr B2 3 #[.int .i64 size] ∧ RU wr W.heap.size A us) (fun i _ => n - (intOf i).toNat)
  case atStart => exact ⟨0, by omega, rfl, hwz, hJ1, kB1a, kB2a, hr1⟩
  case round =>
    clear hJ1 kB1a kB2a hr1 c1a c2a hwz hq
    obtain ⟨k, hk, rfl, hwz, hJs, kB1, kB2, hru⟩ := hrel
    by_cases hlt : k < n
    · have hlt' : decide ((k : Int) < (n : Int)) = true := by simpa using hlt
      obtain ⟨b, o, rfl, hbl, hc, hd⟩ := RU.at_' hru (k := k) (by have := hn'.out; omega)
      have hvx := vld_iff.1 (hvl.out (us.getD k (0,0)) (by rw [List.getD_eq_getElem?_getD, List.getElem?_eq_getElem (by have := hn'.out; omega)]; simp))
      have hft := Lib.hid (flat_take us size k (by have := hn'.out; omega))
      have hfp := Lib.hid (flat_pre us size (k + 1))
      generalize us.getD k (0,0) = x at *
      obtain ⟨xa, xb⟩ := x
      dsimp only at hc hd hvx
      have kX := Blk.new wr 134 #[.int .i64 xa, .int .i64 xb]
      have hfa : Far (fun _ => False) wr (wr.alloc (.cells #[.int .i64 xa, .int .i64 xb] 134)) := (Far.refl _ wr).alloc _
      have hJ2 := hJ _ _ _ _ (hnew _ (fun k => k = wr.heap.size) _ wr hJs (fun j hj => .inr (by omega))) (hfa.mono fun _ _ h => h.elim)
      have kB1b := kB1.alloc (.cells #[.int .i64 xa, .int .i64 xb] 134)
      have kB2b := kB2.alloc (.cells #[.int .i64 xa, .int .i64 xb] 134)
      have hrub := far_ru hru hfa (fun _ _ h => h)
      have hszb : W.heap.size ≤ (wr.alloc (.cells #[.int .i64 xa, .int .i64 xb] 134)).heap.size := by simp; omega
      have hbx0 : wr.heap.size < (wr.alloc (.cells #[.int .i64 xa, .int .i64 xb] 134)).heap.size := by simp
      obtain ⟨L0, hL0⟩ : ∃ L0, (us.take k).flatMap (cutF size) = L0 := ⟨_, rfl⟩
      have hft' : Hid ((us.take (k + 1)).flatMap (cutF size) = L0 ++ cutF size (xa, xb)) := Lib.hid (by rw [hft.out, hL0])
      rw [hL0] at hJ2
      clear hft hL0
      gi_wp2_with fail
      generalize wr.alloc (.cells #[.int .i64 xa, .int .i64 xb] 134) = wa at *
      generalize wr.heap.size = bx at *
      clear hJs kB1 kB2 hru hfa hc hd hbl hwz
      gi_loopw [6] (fun at_ wr => ∃ (a : Int) (f : Nat) (don : List Sp), at_ = .int .i64 a ∧ xa ≤ a ∧ a ≤ 1024 ∧ xa + xb - a ≤ f ∧ W.heap.size ≤ wr.heap.size ∧ bx < wr.heap.size ∧ J (fun k => k = bx) (L0 ++ don) wr ∧ Blk wr B1 42 #[.slice (some ⟨b, o, none⟩) n cap] ∧ Blk wr B2 3 #[.int .i64 size] ∧ RU wr W.heap.size (some ⟨b, o, none⟩) us ∧ Blk wr bx 134 #[.int .i64 xa, .int .i64 xb] ∧ Hid (cutF size (xa, xb) = don ++ cutN size (xa + xb) f a)) (fun at_ _ => (xa + xb - intOf at_).toNat)
      case atStart => exact ⟨xa, 1024, [], rfl, by omega, by omega, by omega, hszb, hbx0, by rw [List.append_nil]; exact hJ2, kB1b, kB2b, hrub, kX, Lib.hid rfl⟩
      case round =>
        clear hJ2 kB1b kB2b hrub kX hszb hbx0
        obtain ⟨a, f, don, rfl, ha0, ha1, haf, hwz, hbx, hJs, kB1, kB2, hru, kX, hcut⟩ := hrel
        have cX := kX.cell
        by_cases hlt2 : a < xa + xb
        · have hlt2' : decide (a < xa + xb) = true := by simpa using hlt2
          obtain ⟨f', rfl⟩ : ∃ f', f = f' + 1 := ⟨f - 1, by omega⟩
          obtain ⟨q, hq⟩ : ∃ q, a / size = q := ⟨_, rfl⟩
          have hdiv : Int.tdiv a size = q := by rw [← hq]; exact Int.tdiv_eq_ediv_of_nonneg (by omega)
          have hq0 : 0 ≤ q := by rw [← hq]; exact Int.ediv_nonneg (by omega) (by omega)
          have hq1 : q ≤ a := by rw [← hq]; exact Int.ediv_le_self _ (by omega)
          obtain ⟨M, hM⟩ : ∃ M, nextM size a = M := ⟨_, rfl⟩
          have hMg := nextM_gt (size := size) (a := a) (by omega)
          rw [hM] at hMg
          have hmul : wrap64 ((q + 1) * size) = M := by rw [mul_wrap64 _ _ (by omega) (by omega), ← hM, nextM, hq]
          have hcs : Hid (cutF size (xa, xb) = (don ++ [(a, min M (xa + xb) - a)]) ++ cutN size (xa + xb) f' (min M (xa + xb))) := Lib.hid (by rw [hcut.out, cutN_step hlt2, hM]; simp)
          have hs0 : (size == 0) = false := by simp; omega
          clear hcut hq hM
          gi_upto_region 6 with (gi_at_call 166; refine (callsIn_wide.2 (end_any xa xb _ (by omega) (by omega))).mono ?_; rintro e w2 ⟨rfl, hq2⟩)
          have kX2 := kX.call hq2
          have kB12 := kB1.call hq2
          have kB22 := kB2.call hq2
          have hru2 := hru.below (hq2.mono hwz)
          have hJ2 := hJ _ _ wr w2 hJs (.of_below hq2)
          have hwz2 := Nat.le_trans hwz hq2.size
          have hbx2 := Nat.lt_of_lt_of_le hbx hq2.size
          clear kX kB1 kB2 hru hJs hwz hbx hq2 cX
          have e1 := fun z : Ext w2 => (z.blk kX2).cell
          have e2 := fun z : Ext w2 => (z.blk kB22).cell
          have HE : Hid (∀ z : Ext w2, Calls Tryz.prog 166 #[.agg #[.int .i64 xa, .int .i64 xb]] z.w fun e w'' => e = .returned (.int .i64 (xa + xb)) ∧ ∃ t : Ext w2, w'' = t.w) := Lib.hid (fun z => Ext.call (end_any xa xb _ (by omega) (by omega)))
          refine wpIn_wide.2 ?_
          refine region_ext (by kernel_rfl) (by kernel_rfl) ?_
          repeat (go_big_quiet_step ((go_at_call 166; exact HE.out _)))
          refine wpQuiet_nil ?_
          rintro w3 ⟨⟨_, hw3⟩, rfl⟩
          have hM2 : a < min M (xa + xb) ∧ min M (xa + xb) ≤ xa + xb := by omega
          generalize min M (xa + xb) = c at *
          have kX3 := kX2.call hw3
          have kB13 := kB12.call hw3
          have kB23 := kB22.call hw3
          have hru3 := hru2.below (hw3.mono hwz2)
          have hJ3 := hJ _ _ w2 w3 hJ2 (.of_below hw3)
          have hwz3 := Nat.le_trans hwz2 hw3.size
          have hbx3 := Nat.lt_of_lt_of_le hbx2 hw3.size
          clear kX2 kB12 kB22 hru2 hJ2 hwz2 hbx2 hw3 e1 e2 HE hmul hdiv hMg
          have hpre : Hid ((L0 ++ don) ++ [(a, c - a)] <+: piecesF us size) := Lib.hid (by
            rw [hP.out]
            refine List.IsPrefix.trans ?_ hfp.out
            rw [hft'.out, hcs.out]
            exact ⟨cutN size (xa + xb) f' c, by simp⟩)
          obtain ⟨fn, tmps, assign, body, hy, hRd⟩ := hY (m - 1) (fun k => k = bx) (L0 ++ don) (a, c - a) w3 hJ3 (fun k hk => by rw [hk]; exact hbx3) hpre.out
          clear hY
          gi_wp2_with fail
          refine hRd.mono ?_
          rintro e W4 (⟨rfl, hJ4, hF4⟩ | ⟨rfl, hJx4⟩)
          · gi_wp2_with fail
            go_roundw
            case rel => exact ⟨c, f', don ++ [(a, c - a)], by go_num, by omega, by omega, by omega, Nat.le_trans hwz3 hF4.size, Nat.lt_of_lt_of_le hbx3 hF4.size, by rw [← List.append_assoc]; exact hJ4, hF4.blk kB13 (fun h => h (.inl hK1)), hF4.blk kB23 (fun h => h (.inl hK2)), far_ru hru3 hF4 (fun k hk h => h (.inl hk)), hF4.blk kX3 (fun h => h (.inr rfl)), hcs⟩
            case measure => simp [intOf]; omega
          · gi_wp2_with fail
            refine bodyPost_ret (results_none rfl _ _ _) rfl ?_
            exact ⟨⟨_, rfl⟩, .inr ⟨_, (L0 ++ don) ++ [(a, c - a)], hpre.out, hJx4⟩⟩
        · have hlt2' : decide (a < xa + xb) = false := by simpa using hlt2
          have hend : Hid (L0 ++ don = (us.take (k + 1)).flatMap (cutF size)) := Lib.hid (by rw [hft'.out, hcut.out, cutN_end hlt2, List.append_nil])
          gi_wp2_with (gi_at_call 166; refine (callsIn_wide.2 (end_any xa xb _ (by omega) (by omega))).mono ?_; rintro e w2 ⟨rfl, hq2⟩)
          have hJ2 := hnew _ (fun _ => False) _ _ (hJ _ _ wr w2 hJs (.of_below hq2)) (fun _ h => h.elim)
          go_roundw
          case rel => exact ⟨k + 1, by omega, by go_num, Nat.le_trans hwz hq2.size, by rw [← hend.out]; exact hJ2, kB1.call hq2, kB2.call hq2, hru.below (hq2.mono hwz)⟩
          case measure => simp [intOf]; omega
    · have hlt' : decide ((k : Int) < (n : Int)) = false := by simp; omega
      have hE : Hid ((us.take k).flatMap (cutF size) = piecesF us size) := Lib.hid (by rw [hP.out, List.take_of_length_le (by have := hn'.out; omega)])
      gi_wp2_with fail
      go_end0
      exact ⟨⟨_, rfl⟩, .inl ⟨_, by rw [← hE.out]; exact hJs⟩⟩
end Go.Proofs.YtefnnfcfigcikaaGreat
namespace Go.Pol
open Go Go.RowKit

section
variable {P : Program} (w : World)
theorem append_block (base : Nat) (t ty e : TypeId) (i : TypeInfo) (z : Value) (size bytes : Nat) (ht : P.underlying t = some (.slice e)) (hi : P.info? e = some i) (hz : i.zero = some z)
    (hsize : i.size = size) (hby : i.bytes = bytes) (hzs : z.cells.size = size) (hsz : 0 < size)
    (v : Value) (n : Nat) (xs : List Value) (hown : w.ownsRow base e size v n xs)
    (a : Addr) (m c : Nat) (news : List Value) (hl : news.length = m * size) (hnews : ∀ j u, news[j]? = some u → w.cell? (a.add j) = some u) (h1 : ∀ u ∈ news, u.oneCell' = true)
    (h63 : n + m ≤ maxLen) (hbytes : (n + m) * bytes ≤ 140737488355328) (hbase : base ≤ w.heap.size) :
    ∃ v' w', (Builtin.append_ #[t, t] ty #[v, .slice (some a) m c]).run P w = .ok v' w' ∧ w'.ownsRow base e size v' (n + m) (xs ++ news) ∧ w.grownBy w' v.ownBlock ∧
      ∀ g, v'.ownBlock = some g → v.ownBlock = some g ∨ w.heap.size ≤ g := by
  obtain ⟨v', w', hr, r1, r2, _⟩ := run_append_own (P := P) w base t ty e i z size bytes ht hi hz hsize hby hzs hsz v n xs hown a m c news hl hnews h1 h63 hbytes hbase
  refine ⟨v', w', hr, r1, r2, fun g' hg' => ?_⟩
  have hsmall : n + m ≤ 9223372036854775807 := by simp only [maxLen] at h63; omega
  rcases hown.2 with ⟨hv, h0⟩ | ⟨g, cap, cur, hv, hbg, hg, hnc, hcm, hcs, htake⟩
  · subst h0
    have hx : xs = [] := List.eq_nil_of_length_eq_zero (by simpa using hown.1)
    have hown2 : w.ownsRow w.heap.size e size v 0 xs := by rw [hv, hx]; exact World.ownsRow_nil _ _ _ _
    obtain ⟨v2, w2, hr2, s1, _, _⟩ := run_append_own (P := P) w w.heap.size t ty e i z size bytes ht hi hz hsize hby hzs hsz v 0 xs hown2 a m c news hl hnews h1 h63 hbytes (Nat.le_refl _)
    rw [hr] at hr2
    injection hr2 with e1 e2
    subst e1; subst e2
    exact .inr (s1.lt g' hg').1
  · subst hsize
    subst hby
    subst hv
    by_cases hroom : n + m ≤ cap
    · have hfit : n * i.size + news.length ≤ cur.size := by rw [hl, hcs, ← Nat.add_mul]; exact Nat.mul_le_mul_right _ hroom
      have hr2 := run_append_room (P := P) w t ty e i ht hi g n cap cur hg a m c news hl hnews h1 hroom hfit
      rw [hr] at hr2
      injection hr2 with e1 e2
      subst e1
      exact .inl hg'
    · have holds : ∀ j u, xs[j]? = some u → w.cell? ((⟨g, 0, none⟩ : Addr).add j) = some u := hown.cells (g := g) rfl
      have hr2 := run_append_grow (P := P) w t ty e i z ht hi hz ⟨g, 0, none⟩ n cap xs hown.1 holds a m c news hl hnews (by omega) (by omega) (growslice_fits (by omega) hbytes)
      rw [hr] at hr2
      injection hr2 with e1 e2
      subst e1
      simp only [Value.ownBlock, Option.some.injEq] at hg'
      exact .inr (by omega)
end

theorem wpListIn_append_x {F : Fence} {n : Nat} {P : Program} (w : World) {ops : Array Oper} {rest : List Oper} {o : Oper} {a : Act} {Q : Exit → Act → World → Prop}
    (hg : o.guard = none) (s x : Operand) (t : TypeId) (hop : o.op = Op.call { callee := Callee.builtin Builtin.append, args := #[s, x], argTypes := #[t, t] })
    (base : Nat) (e : TypeId) (i : TypeInfo) (z : Value) (size bytes : Nat) (h1 : P.underlying t = some (.slice e)) (h2 : P.info? e = some i) (h3 : i.zero = some z) (h4 : i.size = size) (h5 : i.bytes = bytes) (h6 : z.cells.size = size) (h7 : 0 < size)
    (v : Value) (k : Nat) (xs : List Value) (hs : a.eval s = v) (hown : w.ownsRow base e size v k xs) (ad : Addr) (m c : Nat) (news : List Value) (hx : a.eval x = .slice (some ad) m c) (hn : news.length = m * size)
    (hc : ∀ j u, news[j]? = some u → w.cell? (ad.add j) = some u) (h1c : ∀ u ∈ news, u.oneCell' = true) (b1 : k + m ≤ maxLen) (b2 : (k + m) * bytes ≤ 140737488355328) (b3 : base ≤ w.heap.size)
    (hK : ∀ v' w', w'.ownsRow base e size v' (k + m) (xs ++ news) → w.grownBy w' v.ownBlock → (∀ g, v'.ownBlock = some g → v.ownBlock = some g ∨ w.heap.size ≤ g) → wpListIn F n P ops Q rest (a.put o.dst v') w') :
    wpListIn F n P ops Q (o :: rest) a w := by
  refine wpListIn_plain hg fun K hK' => ?_
  obtain ⟨v', w', hrun, r1, r2, r3⟩ := append_block (P := P) w base t o.type e i z size bytes h1 h2 h3 h4 h5 h6 h7 v k xs hown ad m c news hn hc h1c b1 b2 b3
  unfold Oper.wpIn
  refine ⟨?_, ?_⟩
  · simp [Oper.about, hop, resolve, Target.leads, Sem.run_pure]
  · rw [Oper.semAt_plain F _ _ (by rw [hop]; intro c hc'; cases hc')]
    simp [execOp, hop, resolve, invoke, builtin, hs, hx, hrun, Result.andThen]
    exact hK' _ _ (hK v' w' r1 r2 r3)

/-- the box of a slice, and the row that the slice owns beyond 'base'; neither is a block of X -/
structure BoxX (X : Nat → Prop) (w : World) (B : Nat) (tb te : TypeId) (base size n : Nat) (cs : List Value) : Prop where
  ex : ∃ v, Blk w B tb #[v] ∧ w.ownsRow base te size v n cs ∧ ¬ X B ∧ ∀ g, v.ownBlock = some g → ¬ X g
section
variable {X X' T : Nat → Prop} {w w' w1 : World} {B : Nat} {tb te : TypeId} {base size n : Nat} {cs cs' : List Value} {v v' : Value}
theorem BoxX.far (h : BoxX X w B tb te base size n cs) (hf : Far T w w') (hB : T B → X B) (hT : ∀ g, base ≤ g → T g → X g) : BoxX X w' B tb te base size n cs := by
  obtain ⟨v, h1, h2, h3, h4⟩ := h.ex
  exact ⟨v, hf.blk h1 (fun h => h3 (hB h)), ownsRow_far h2 hf (fun g hg h => h4 g hg (hT g (h2.lt g hg).1 h)), h3, h4⟩
theorem BoxX.new (h : BoxX X w B tb te base size n cs) (hX : ∀ k, X' k → X k ∨ w.heap.size ≤ k) : BoxX X' w B tb te base size n cs := by
  obtain ⟨v, h1, h2, h3, h4⟩ := h.ex
  refine ⟨v, h1, h2, fun h => (hX _ h).elim h3 (fun h => by have := h1.lt; omega), fun g hg h => (hX _ h).elim (h4 g hg) (fun h => by have := (h2.lt g hg).2; omega)⟩
/-- 'out = append(out, x)': what lies behind it -/
theorem BoxX.appended {tmp : Obj} {m : Nat} (hv : Blk w B tb #[v]) (hte : tb ≠ te) (hrow : w.ownsRow base te size v n cs) (hXB : ¬ X B) (hXg : ∀ g, v.ownBlock = some g → ¬ X g)
    (hown : w1.ownsRow base te size v' m cs') (hg : (w.alloc tmp).grownBy w1 v.ownBlock) (hblk : ∀ g, v'.ownBlock = some g → v.ownBlock = some g ∨ (w.alloc tmp).heap.size ≤ g) (hXlt : ∀ k, X k → k < w.heap.size) :
    Blk w1 B tb #[v] ∧ BoxX X (w1.setCell ⟨B, 0, none⟩ v') B tb te base size m cs' ∧ ∀ (T : Nat → Prop), T B → (∀ g, v.ownBlock = some g → T g) → Far T w (w1.setCell ⟨B, 0, none⟩ v') := by
  have hv1 : Blk w1 B tb #[v] := (hv.alloc tmp).grown hg (fun e => hv.not_row hrow hte e.symm)
  refine ⟨hv1, ⟨v', by simpa using hv1.set_ 0 v', ?_, hXB, fun g hg' hx => ?_⟩, fun T hTB hT => ?_⟩
  · have hfar : Far (fun k => k = B) w1 (w1.setCell ⟨B, 0, none⟩ v') := Far.setCell (T := fun k => k = B) (p := ⟨B, 0, none⟩) (Far.refl _ _) (fun _ => rfl) v'
    exact ownsRow_far hown hfar (fun g hg' e => by subst e; exact hv1.not_row hown hte hg')
  · rcases hblk g hg' with h | h
    · exact hXg g h hx
    · have := hXlt g hx
      simp at h; omega
  · have h1 : Far T w (w.alloc tmp) := (Far.refl T w).alloc tmp
    refine (h1.grown hg (fun r e hr => ?_)).setCell (p := ⟨B, 0, none⟩) (fun _ => hTB) v'
    exact hT r e
end

/-- a loop over values of one parameter whose variable lies in a box -/
theorem rangeXB {P : Program} {g : Operand} {ps : Array Tmp} {assign body : Code} {Q : Exit → Act → World → Prop} {a : Act} {w : World} (ib pb : Nat) (tE : TypeId)
    {gf : Nat} {lb : Array Value} (hg : a.eval g = .func (.func gf) #[] lb) (eg : ∀ args w, (callFunc gf args).run P w = .ok (.enter gf args) w)
    {T K : Nat → Prop} {xs : List Sp} (hseq : SeqX P gf lb spA T K xs w) (hps : ps = #[pb])
    (hT : ∀ k, T k → k < w.heap.size) (hK : ∀ k, K k → k < w.heap.size)
    (I : (Nat → Prop) → List Sp → World → Prop) (Ix : Code → (Nat → Prop) → List Sp → World → Prop)
    (hI : ∀ X pre A B, I X pre A → Far (fun k => T k ∨ X k ∨ k = w.heap.size ∨ k = w.heap.size + 1) A B → I X pre B)
    (hIx : ∀ c X pre A B, Ix c X pre A → Far (fun k => T k ∨ X k ∨ k = w.heap.size ∨ k = w.heap.size + 1) A B → Ix c X pre B)
    (hnew : ∀ X X' pre A, I X pre A → (∀ k, X' k → X k ∨ A.heap.size ≤ k) → I X' pre A)
    (h0 : I (fun _ => False) [] w)
    (hassign : ∀ (m l : Nat) (x : Sp) (W : World) (C : Act → World → Prop),
      C { tmps := (a.tmps.setIfInBounds pb (.agg #[.int .i64 x.1, .int .i64 x.2])).setIfInBounds ib (.pointer (some ⟨W.heap.size, 0, none⟩)), defers := [] } (W.alloc (.cells #[.int .i64 x.1, .int .i64 x.2] tE)) →
      assign.wpIn (Fence.wide.inRound l) m P (Exit.then C (fun _ _ _ => False)) { tmps := a.tmps.setIfInBounds pb (.agg #[.int .i64 x.1, .int .i64 x.2]), defers := [] } W)
    (hbody : ∀ (m l : Nat) (X : Nat → Prop) (pre : List Sp) (x : Sp) (Bx : Nat) (Wa W : World), w.heap.size + 2 ≤ W.heap.size → (∀ k, X k → k < Wa.heap.size ∧ k ≠ w.heap.size ∧ k ≠ w.heap.size + 1) → I X pre W → pre ++ [x] <+: xs → w.heap.size + 2 ≤ Bx → Blk W Bx tE #[.int .i64 x.1, .int .i64 x.2] → Wa.heap.size ≤ Bx →
      body.wpIn (Fence.wide.inRound l) m P (xPost w.heap.size K X I Ix (pre ++ [x]) W) { tmps := (a.tmps.setIfInBounds pb (.agg #[.int .i64 x.1, .int .i64 x.2])).setIfInBounds ib (.pointer (some ⟨Bx, 0, none⟩)), defers := [] } W)
    (hdone : ∀ (X : Nat → Prop) (W : World), w.heap.size + 2 ≤ W.heap.size → I X xs W → W.heap[w.heap.size]? = some (.deferred (some [])) → Q .normal { a with defers := markOf w.heap.size :: a.defers } W)
    (hstop : ∀ (c : Code) (X : Nat → Prop) (pre : List Sp) (W : World), w.heap.size + 2 ≤ W.heap.size → pre <+: xs → Ix c X pre W → W.heap[w.heap.size]? = some (.deferred (some [])) → c.wp P Q { a with defers := markOf w.heap.size :: a.defers } W) :
    (Code.rangeFunc g ps assign body).wp P Q a w := by
  subst hps
  refine rangeX hg eg hseq (fun _ => rfl) hT hK I Ix hI hIx hnew h0
    (fun N x a' W => ∃ Bx, N ≤ Bx ∧ w.heap.size + 2 ≤ Bx ∧ Blk W Bx tE #[.int .i64 x.1, .int .i64 x.2] ∧ a' = { tmps := (a.tmps.setIfInBounds pb (.agg #[.int .i64 x.1, .int .i64 x.2])).setIfInBounds ib (.pointer (some ⟨Bx, 0, none⟩)), defers := [] })
    (fun N x a' A B ⟨Bx, h0, h1, h2, h3⟩ hf => ⟨Bx, h0, h1, hf.blk h2 (by omega), h3⟩) ?_ ?_ hdone hstop
  · intro m l x W C hs hC
    have e : (#[pb].zip (spA x)).foldl (fun t (p, v) => t.setIfInBounds p v) a.tmps = a.tmps.setIfInBounds pb (.agg #[.int .i64 x.1, .int .i64 x.2]) := by simp [spA]
    rw [e]
    exact hassign m l x W C (hC _ _ ((Far.refl _ W).alloc _) ⟨W.heap.size, Nat.le_refl _, hs, Blk.new _ _ _, rfl⟩)
  · rintro m l X pre x a' Wa W hs hX hi ⟨Bx, h0, h1, h2, rfl⟩ hpre _ _
    exact hbody m l X pre x Bx Wa W hs hX hi hpre h1 h2 h0
end Go.Pol
namespace Go.Proofs.YtefnnfcfigcikaaGreat
open Go Go.Proofs Go.RowKit Go.Pol Go.Shelf
attribute [local go_sem] Oper.semAt_some Go.Pol.wide_fn Go.Pol.wide_depth Go.Pol.wide_fn' Go.Pol.wide_depth'

theorem pieces_enters : ∀ args w, (callFunc 193 args).run Tryz.prog w = .ok (.enter 193 args) w := enters_of Tryz.func193 (by kernel_rfl) rfl

set_option maxHeartbeats 800000 in
theorem piecesTop_own (A : Option Addr) (n cap : Nat) (us : List Sp) (size : Int) (w : World) (hn : us.length = n) (hm : n ≤ 1000000) (hr : RU w w.heap.size A us) :
    Calls Tryz.prog 168 #[.slice A n cap, .int .i64 size] w fun e w' => ∃ (lb : Array Value) (K : Nat → Prop), e = .returned (.func (.func 193) #[] lb) ∧
      SeqX Tryz.prog 193 lb spA (fun _ => False) K (piecesF us size) w' ∧ (∀ k, K k → w.heap.size ≤ k ∧ k < w'.heap.size) ∧ Below w.heap.size w w' := by
  have hb0 := ((Below.refl w.heap.size w).alloc (Nat.le_refl _) (.cells #[.slice A n cap] 42)).alloc (by simp) (.cells #[.int .i64 size] 3)
  have k1 := (Blk.new w 42 #[.slice A n cap]).alloc (.cells #[.int .i64 size] 3)
  have k2 := Blk.new (w.alloc (.cells #[.slice A n cap] 42)) 3 #[.int .i64 size]
  rw [World.size_alloc] at k2
  have r0 : RU ((w.alloc (.cells #[.slice A n cap] 42)).alloc (.cells #[.int .i64 size] 3)) _ A us := hr.on hb0
  have HK := Lib.hid (clone_any A n cap us _ hn hm r0)
  have z1 := k1.cell
  have hsz : ((w.alloc (.cells #[.slice A n cap] 42)).alloc (.cells #[.int .i64 size] 3)).heap.size = w.heap.size + 2 := by simp
  go_enter Tryz.func168, Tryz.ntmps168
  go_wp2_with fail
  refine HK.out.mono ?_
  rintro e w1 ⟨v, rfl, hrow, hb1⟩
  have B1 := hb0.trans (hb1.mono hb0.size)
  have k1b := k1.call hb1
  have k2b := k2.call hb1
  have f1 := k1b.frozen
  have z1b := k1b.cell
  have hs1 := B1.size
  clear HK
  obtain ⟨A2, cap2, rfl⟩ := own_nil_iff hrow hn
  go_wp2_with fail
  go_ret
  have k1c := k1b.set_ 0 (.slice A2 n cap2)
  have k2c := k2b.far (p := ⟨w.heap.size, 0, none⟩) (by show w.heap.size + 1 ≠ w.heap.size; omega) (.slice A2 n cap2)
  have hfar : Far (fun k => k = w.heap.size) w1 (w1.setCell ⟨w.heap.size, 0, none⟩ (.slice A2 n cap2)) := Far.setCell (T := fun k => k = w.heap.size) (p := ⟨w.heap.size, 0, none⟩) (Far.refl _ _) (fun _ => rfl) _
  have hrow2 := ownsRow_far hrow hfar (fun g hg e => by have := (hrow.lt g hg).1; omega)
  have B2 := B1.trans (hfar.below hs1 (fun k hk h => by omega))
  generalize w1.setCell ⟨w.heap.size, 0, none⟩ (.slice A2 n cap2) = w2 at *
  obtain ⟨A3, cap3, he, hru, h1, h2, h3, _⟩ := own_RU hrow2 hn
  cases he
  refine ⟨_, fun k => k = w.heap.size ∨ k = w.heap.size + 1 ∨ (us ≠ [] ∧ ∃ o, A2 = some ⟨k, o, none⟩), rfl, pieces1_seq A2 n cap2 us size w.heap.size (w.heap.size + 1) _ w2 (.inl rfl) (.inr (.inl rfl)) (by simpa using k1c) k2c hn (by unfold maxLen; omega) hru (fun h b o e => .inr (.inr ⟨h, o, e⟩)), ?_, B2⟩
  rintro k (rfl | rfl | ⟨h, o, e⟩)
  · exact ⟨Nat.le_refl _, k1c.lt⟩
  · exact ⟨by omega, k2c.lt⟩
  · exact ⟨by have := h3 k o e; omega, ru_lt hru h e⟩

theorem piecesTop_any (A : Option Addr) (n cap : Nat) (us : List Sp) (size : Int) (w : World) (hn : us.length = n) (hm : n ≤ 1000000) (hr : RU w w.heap.size A us) :
    Calls Tryz.prog 168 #[.slice A n cap, .int .i64 size] w fun e w' => ∃ (lb : Array Value) (K : Nat → Prop), e = .returned (.func (.func 193) #[] lb) ∧
      SeqX Tryz.prog 193 lb spA (fun _ => False) K (piecesF us size) w' ∧ (∀ k, K k → k < w'.heap.size) ∧ Below w.heap.size w w' := by
  refine (piecesTop_own A n cap us size w hn hm hr).mono ?_
  rintro e w' ⟨lb, K, h1, h2, h3, h4⟩
  exact ⟨lb, K, h1, h2, fun k hk => (h3 k hk).2, h4⟩

theorem run_equalIn_func_nil {P : Program} (w : World) (d : Nat) (t : TypeId) {a b : Array TypeId} {c : Bool} (f : Fn) (x y : Array Value) (h : P.underlying t = some (.func a b c)) :
    (Op.equalIn (d + 1) t (.func f x y) .nilFunc).run P w = .ok false w := by
  simp [Op.equalIn, run_underlying h]
theorem eql_seq (f : Fn) (c lb : Array Value) (w : World) : (binOp .eql 252 (.func f c lb) .nilFunc).run Tryz.prog w = .ok (.bool false) w := by
  simp only [binOp]
  simp [Op.equal, Op.maxDepth, run_equalIn_func_nil w 9999 _ f c lb Tryz.underlying252]

end Go.Proofs.YtefnnfcfigcikaaGreat
namespace Go.Pol
open Go
theorem nextM_one (a : Int) : nextM 1 a = a + 1 := by unfold nextM; rw [Int.ediv_one]; omega
theorem cutN_one (en : Int) : ∀ (k : Nat) (a : Int), en - a ≤ k → (cutN 1 en k a).map (·.1) = pagesX (a, 0) (en - a).toNat
  | 0, a, h => by rw [show (en - a).toNat = 0 by omega]; simp [cutN, pagesX]
  | k + 1, a, h => by
    by_cases hlt : a < en
    · rw [cutN_step hlt, nextM_one, List.map_cons, show min (a + 1) en = a + 1 by omega, cutN_one en k (a + 1) (by omega), show (en - a).toNat = (en - (a + 1)).toNat + 1 by omega, pagesX_cons]
    · rw [cutN_end hlt, show (en - a).toNat = 0 by omega]; simp [pagesX]
theorem pieces_one {us : List Sp} (h : Can us) : (piecesF us 1).map (·.1) = pagesOf us := by
  unfold piecesF
  rw [if_pos ⟨chkS_zero.2 h, by omega, by omega⟩]
  have hv := h.1
  clear h
  induction us with
  | nil => rfl
  | cons x r ih =>
    have hx := vld_iff.1 (hv x (by simp))
    rw [List.flatMap_cons, List.map_append, ih (fun y hy => hv y (by simp [hy])), pagesOf_cons, cutF, cutN_one _ _ _ (by omega)]
    congr 1
    rw [show (x.1 + x.2 - x.1).toNat = x.2.toNat by omega]
    rfl
theorem pieces_bad {us : List Sp} {size : Int} (h : ¬ (chkS us = 0 ∧ 1 ≤ size ∧ size ≤ 1024)) : piecesF us size = [] := by unfold piecesF; rw [if_neg h]
/-- each piece has a page of its own -/
theorem cutN_len {size en : Int} (hs : 1 ≤ size) : ∀ (k : Nat) (a : Int), ((cutN size en k a).length : Int) ≤ (if a < en then en - a else 0)
  | 0, a => by simp [cutN]; split <;> omega
  | k + 1, a => by
    by_cases hlt : a < en
    · have ih := cutN_len (en := en) hs k (min (nextM size a) en)
      have hn := nextM_gt (size := size) (a := a) hs
      rw [cutN_step hlt, if_pos hlt, List.length_cons]
      split at ih <;> omega
    · rw [cutN_end hlt, if_neg hlt]; simp
theorem pieces_len {us : List Sp} {size : Int} (h : Can us) (hs : 1 ≤ size) : ((us.flatMap (cutF size)).length : Int) ≤ sumS us := by
  have hv := h.1
  clear h
  induction us with
  | nil => simp [sumS]
  | cons x r ih =>
    have hx := vld_iff.1 (hv x (by simp))
    have h1 := cutN_len (en := x.1 + x.2) hs 1024 x.1
    rw [if_pos (by omega)] at h1
    have h2 := ih (fun y hy => hv y (by simp [hy]))
    rw [List.flatMap_cons, List.length_append]
    have e1 : sumS (x :: r) = x.2 + sumS r := by simp [sumS]
    rw [e1]
    unfold cutF at h2 ⊢
    omega
theorem pieces_most {us : List Sp} {size : Int} : (piecesF us size).length ≤ 1024 := by
  by_cases h : chkS us = 0 ∧ 1 ≤ size ∧ size ≤ 1024
  · have hc := chkS_zero.1 h.1
    have h1 := pieces_len hc h.2.1
    have h2 := sum_form us (-1) (by omega) hc.1 hc.2
    unfold piecesF
    rw [if_pos h]
    omega
  · rw [pieces_bad h]; simp
end Go.Pol
namespace Go.Pol
open Go Go.RowKit

/-- the contract of a function value that is ranged over, and that makes blocks of its own (X): it goes through just 'xs' -/
def SeqY {α : Type} (P : Program) (g : Nat) (lb : Array Value) (encs : α → Array Value) (T K : Nat → Prop) (xs : List α) (w : World) : Prop :=
  ∀ (n l : Nat) (J Jx : (Nat → Prop) → List α → World → Prop) (W : World), Far (fun k => ¬ K k) w W →
    (∀ X pre A B, J X pre A → Far (fun k => T k ∨ X k) A B → J X pre B) → (∀ X pre A B, Jx X pre A → Far (fun k => T k ∨ X k) A B → Jx X pre B) →
    (∀ X X' pre A, J X pre A → (∀ k, X' k → X k ∨ A.heap.size ≤ k) → J X' pre A) →
    (∀ m X pre x W1, J X pre W1 → (∀ k, X k → k < W1.heap.size) → pre ++ [x] <+: xs → YieldAt Fence.wide m P l (encs x) W1 fun e W' =>
      (e = .returned (.bool true) ∧ J X (pre ++ [x]) W' ∧ Far (fun k => ¬ (K k ∨ X k)) W1 W') ∨ (e = .returned (.bool false) ∧ Jx X (pre ++ [x]) W' ∧ Far (fun k => ¬ (K k ∨ X k)) W1 W')) →
    J (fun _ => False) [] W →
    CallsIn Fence.wide n P g (#[.func (.yield l) #[] #[]] ++ lb) W fun e W' => (∃ v, e = .returned v) ∧ ((∃ X, J X xs W') ∨ ∃ X pre, pre <+: xs ∧ Jx X pre W')

theorem SeqY.later {α : Type} {P : Program} {g : Nat} {lb : Array Value} {encs : α → Array Value} {T K : Nat → Prop} {xs : List α} {w w' : World}
    (h : SeqY P g lb encs T K xs w) (hw : Far (fun k => ¬ K k) w w') : SeqY P g lb encs T K xs w' :=
  fun n l J Jx W hW => h n l J Jx W (hw.trans hW)
/-- how a round's body may be left -/
def yPost {α : Type} (D : Nat) (K X : Nat → Prop) (I : (Nat → Prop) → List α → World → Prop) (Ix : Code → (Nat → Prop) → List α → World → Prop) (xs : List α) (W : World) : Exit → Act → World → Prop
  | .normal, _, W' => Far (fun k => ¬ (K k ∨ X k ∨ k = D ∨ k = D + 1)) W W' ∧ I X xs W'
  | .ret, _, W' => Far (fun k => ¬ (K k ∨ X k ∨ k = D ∨ k = D + 1)) W W' ∧ Ix .ret X xs W'
  | .exit id, _, W' => Far (fun k => ¬ (K k ∨ X k ∨ k = D ∨ k = D + 1)) W W' ∧ Ix (.exit id) X xs W'
  | .goto t, _, W' => Far (fun k => ¬ (K k ∨ X k ∨ k = D ∨ k = D + 1)) W W' ∧ Ix (.goto t) X xs W'
  | .panic _, _, _ => False
  | .outgrown, _, _ => False

theorem rangeY {α : Type} {P : Program} {g : Operand} {ps : Array Tmp} {assign body : Code} {Q : Exit → Act → World → Prop} {a : Act} {w : World}
    {gf : Nat} {lb : Array Value} (hg : a.eval g = .func (.func gf) #[] lb) (eg : ∀ args w, (callFunc gf args).run P w = .ok (.enter gf args) w)
    {encs : α → Array Value} {T K : Nat → Prop} {xs : List α} (hseq : SeqY P gf lb encs T K xs w) (hps : ∀ x, (encs x).size = ps.size)
    (hT : ∀ k, T k → k < w.heap.size) (hK : ∀ k, K k → k < w.heap.size)
    (I : (Nat → Prop) → List α → World → Prop) (Ix : Code → (Nat → Prop) → List α → World → Prop)
    (hI : ∀ X pre A B, I X pre A → Far (fun k => T k ∨ X k ∨ k = w.heap.size ∨ k = w.heap.size + 1) A B → I X pre B)
    (hIx : ∀ c X pre A B, Ix c X pre A → Far (fun k => T k ∨ X k ∨ k = w.heap.size ∨ k = w.heap.size + 1) A B → Ix c X pre B)
    (hnew : ∀ X X' pre A, I X pre A → (∀ k, X' k → X k ∨ A.heap.size ≤ k) → I X' pre A)
    (h0 : I (fun _ => False) [] w) (Ax : Nat → α → Act → World → Prop) (hAx : ∀ N x a' A B, Ax N x a' A → Far (fun k => k = w.heap.size + 1) A B → Ax N x a' B)
    (hassign : ∀ (m l : Nat) (x : α) (W : World) (C : Act → World → Prop), w.heap.size + 2 ≤ W.heap.size → (∀ a' W', Far (fun _ => False) W W' → Ax W.heap.size x a' W' → C a' W') →
      assign.wpIn (Fence.wide.inRound l) m P (Exit.then C (fun _ _ _ => False)) { tmps := (ps.zip (encs x)).foldl (fun t (p, v) => t.setIfInBounds p v) a.tmps, defers := [] } W)
    (hbody : ∀ (m l : Nat) (X : Nat → Prop) (pre : List α) (x : α) (a' : Act) (Wa W : World), w.heap.size + 2 ≤ W.heap.size → (∀ k, X k → k < Wa.heap.size ∧ k ≠ w.heap.size ∧ k ≠ w.heap.size + 1) → I X pre W → Ax Wa.heap.size x a' W → pre ++ [x] <+: xs → I X pre Wa → Far (fun k => k = w.heap.size + 1) Wa W →
      body.wpIn (Fence.wide.inRound l) m P (yPost w.heap.size K X I Ix (pre ++ [x]) W) a' W)
    (hdone : ∀ (X : Nat → Prop) (W : World), w.heap.size + 2 ≤ W.heap.size → I X xs W → W.heap[w.heap.size]? = some (.deferred (some [])) → Q .normal { a with defers := markOf w.heap.size :: a.defers } W)
    (hstop : ∀ (c : Code) (X : Nat → Prop) (pre : List α) (W : World), w.heap.size + 2 ≤ W.heap.size → pre <+: xs → Ix c X pre W → W.heap[w.heap.size]? = some (.deferred (some [])) → c.wp P Q { a with defers := markOf w.heap.size :: a.defers } W) :
    (Code.rangeFunc g ps assign body).wp P Q a w := by
  refine (wpIn_wide (n := 0)).1 (wpIn_rangeFunc fun fn _ => ?_)
  obtain ⟨D, hD⟩ : ∃ D, w.heap.size = D := ⟨_, rfl⟩
  -- the loop's record, in its three states
  obtain ⟨rec, hrec⟩ : ∃ rec : LoopState → Option Code → Loop, rec = fun s p => { state := s, pending := p, fn, tmps := a.tmps, params := ps, assign, body, defers := D } := ⟨_, rfl⟩
  obtain ⟨W1, hW1⟩ : ∃ W1, (w.alloc (.deferred (some []))).alloc (.loop (rec .ready none)) = W1 := ⟨_, rfl⟩
  have hent : (Instr.enterLoop fn a.tmps ps assign body none).run P w = .ok (D + 1, [markOf D]) W1 := by
    rw [← hW1, hrec, ← hD]; exact run_enterLoop_outer _ _ _ _ _
  have hfar : Far (fun _ => False) w W1 := by rw [← hW1]; exact ((Far.refl _ w).alloc _).alloc _
  have hl1 : W1.heap[D + 1]? = some (.loop (rec .ready none)) := by
    rw [← hW1, ← hD]
    have := World.alloc_heap_new (w.alloc (.deferred (some []))) (.loop (rec .ready none))
    rwa [World.size_alloc] at this
  have hd1 : W1.heap[D]? = some (.deferred (some [])) := by
    rw [← hW1, ← hD]; exact (Below.heap_alloc _ _ _ (by simp)).trans (World.alloc_heap_new w _)
  rw [hD] at hT hK hI hIx hAx hassign hbody hdone hstop
  refine ⟨D + 1, [markOf D], W1, { target := .fn (.func gf) lb, args := #[.func (.yield (D + 1)) #[] #[]] }, W1, gf, #[.func (.yield (D + 1)) #[] #[]] ++ lb, W1, hent, ?_, fun _ _ => trivial, ?_, fun h => (by cases h), ?_⟩
  · simp only [resolve, hg]
    simp [go_sem]
  · simp [invoke, go_sem, eg]
  -- what the iterator carries: the loop's invariant, the record, the block for deferred calls
  let J : (Nat → Prop) → List α → World → Prop := fun X pre W => I X pre W ∧ W.heap[D + 1]? = some (.loop (rec .ready none)) ∧ W.heap[D]? = some (.deferred (some [])) ∧ ¬ X D ∧ ¬ X (D + 1)
  let Jx : (Nat → Prop) → List α → World → Prop := fun X pre W => ∃ c, Ix c X pre W ∧ W.heap[D + 1]? = some (.loop (rec .done (some c))) ∧ W.heap[D]? = some (.deferred (some [])) ∧ ¬ X D ∧ ¬ X (D + 1)
  have hnT : ∀ k, T k → k ≠ D ∧ k ≠ D + 1 := fun k hk => by have := hT k hk; omega
  have hnK : ∀ k, K k → k ≠ D ∧ k ≠ D + 1 := fun k hk => by have := hK k hk; omega
  have up : ∀ {X : Nat → Prop} {k : Nat}, T k ∨ X k → T k ∨ X k ∨ k = D ∨ k = D + 1 := fun h => h.elim .inl (fun h => .inr (.inl h))
  refine (hseq _ (D + 1) J Jx W1 (hfar.mono (fun _ _ h => h.elim))
    (fun X pre A B h hf => ⟨hI X pre A B h.1 (hf.mono fun _ _ ht => up ht), hf.same h.2.1 (fun h' => h'.elim (fun h => (hnT _ h).2 rfl) h.2.2.2.2), hf.same h.2.2.1 (fun h' => h'.elim (fun h => (hnT _ h).1 rfl) h.2.2.2.1), h.2.2.2⟩)
    (fun X pre A B h hf => by
      obtain ⟨c, h1, h2, h3, h4, h5⟩ := h
      exact ⟨c, hIx c X pre A B h1 (hf.mono fun _ _ ht => up ht), hf.same h2 (fun h' => h'.elim (fun h => (hnT _ h).2 rfl) h5), hf.same h3 (fun h' => h'.elim (fun h => (hnT _ h).1 rfl) h4), h4, h5⟩)
    (fun X X' pre A h hX => by
      have l1 : D < A.heap.size := (Array.getElem?_eq_some_iff.1 h.2.2.1).1
      have l2 : D + 1 < A.heap.size := (Array.getElem?_eq_some_iff.1 h.2.1).1
      exact ⟨hnew X X' pre A h.1 hX, h.2.1, h.2.2.1, fun hd => (hX _ hd).elim h.2.2.2.1 (fun h => by omega), fun hd => (hX _ hd).elim h.2.2.2.2 (fun h => by omega)⟩)
    ?_ ⟨hI _ [] w W1 h0 (hfar.mono fun _ _ h => h.elim), hl1, hd1, id, id⟩).mono ?_
  · -- a round
    rintro m X pre x Wa ⟨hi, hl, hd, hXD, hXE⟩ hXlt hpre
    have hlt : D + 1 < Wa.heap.size := (Array.getElem?_eq_some_iff.1 hl).1
    have hy := run_yield (P := P) (args := encs x) hl (by rw [hrec]; exact hps x)
    rw [hrec] at hy
    refine ⟨fn, _, assign, body, hy, roundIn_of_wpIn trivial (hassign m (D + 1) x Wa _ (by omega) fun a' Wb hab hax => ?_)⟩
    have hlb := hab.same hl id
    have hdb := hab.same hd id
    have hib := hI X pre Wa Wb hi (hab.mono fun _ _ h => h.elim)
    have hltb : D + 1 < Wb.heap.size := (Array.getElem?_eq_some_iff.1 hlb).1
    refine ⟨_, run_beginRound hlb (by rw [hrec]), ?_⟩
    obtain ⟨Wc, hWc⟩ : ∃ Wc, Wb.putObj (D + 1) (.loop { rec .ready none with state := .busy }) = Wc := ⟨_, rfl⟩
    rw [hWc]
    have hbc : Far (fun k => k = D + 1) Wb Wc := by rw [← hWc]; exact Far.putObj (T := fun k => k = D + 1) (Far.refl _ Wb) (fun _ => rfl) _
    have hlc : Wc.heap[D + 1]? = some (.loop { rec .ready none with state := .busy }) := by rw [← hWc]; exact World.putObj_heap_same hltb
    have hdc : Wc.heap[D]? = some (.deferred (some [])) := hbc.same hdb (by omega)
    have hltc : D + 1 < Wc.heap.size := (Array.getElem?_eq_some_iff.1 hlc).1
    refine wpIn_mono (hbody m (D + 1) X pre x a' Wa Wc (by omega) (fun k hk => ⟨hXlt k hk, fun h => hXD (h ▸ hk), fun h => hXE (h ▸ hk)⟩) (hI X pre Wb Wc hib (hbc.mono fun _ _ h => .inr (.inr (.inr h)))) (hAx _ x a' Wb Wc hax hbc) hpre hi ((hab.mono fun _ _ h => h.elim : Far (fun k => k = D + 1) Wa Wb).trans hbc)) ?_
    -- what 'endRound' makes of it
    have fin : ∀ (j : Option Code) (Wd : World), Far (fun k => ¬ (k = D ∨ k = D + 1)) Wc Wd →
        (Instr.endRound (D + 1) j).run P Wd = .ok (.bool j.isNone) (Wd.putObj (D + 1) (.loop (rec (if j.isNone then .ready else .done) j))) ∧
        (Wd.putObj (D + 1) (.loop (rec (if j.isNone then .ready else .done) j))).heap[D + 1]? = some (.loop (rec (if j.isNone then .ready else .done) j)) ∧
        (Wd.putObj (D + 1) (.loop (rec (if j.isNone then .ready else .done) j))).heap[D]? = some (.deferred (some [])) := fun j Wd hcd => by
      have hld := hcd.same hlc (fun h => h (.inr rfl))
      have he := run_endRound (P := P) j hld
      rw [hrec] at he ⊢
      exact ⟨he, World.putObj_heap_same (Array.getElem?_eq_some_iff.1 hld).1, (World.putObj_heap_other (by omega)).trans (hcd.same hdc (fun h => h (.inl rfl)))⟩
    have back : ∀ (Y : Nat → Prop) (o : Obj) (Wd : World), Far (fun k => T k ∨ Y k ∨ k = D ∨ k = D + 1) Wd (Wd.putObj (D + 1) o) := fun Y o Wd => (Far.refl _ Wd).putObj (fun _ => .inr (.inr (.inr rfl))) o
    intro e a3 Wd hp
    cases e with
    | normal =>
      obtain ⟨hcd, hid⟩ := hp
      obtain ⟨h1, h2, h3⟩ := fin none Wd (hcd.mono fun k _ h h' => h (.inr (.inr h')))
      refine ⟨_, _, h1, .inl ⟨rfl, ⟨hI _ _ _ _ hid (back _ _ Wd), h2, h3, hXD, hXE⟩, ?_⟩⟩
      refine (((hab.mono fun _ _ h => h.elim : Far (fun k => ¬ (K k ∨ X k)) Wa Wb).trans (hbc.mono fun k _ h hk => hk.elim (fun hk => (hnK k hk).2 h) (fun hk => hXE (h ▸ hk)))).trans (hcd.mono fun k _ h hk => h (hk.elim .inl (fun h => .inr (.inl h))))).putObj (fun _ hk => hk.elim (fun hk => (hnK _ hk).2 rfl) hXE) _
    | ret =>
      obtain ⟨hcd, hid⟩ := hp
      obtain ⟨h1, h2, h3⟩ := fin (some .ret) Wd (hcd.mono fun k _ h h' => h (.inr (.inr h')))
      exact ⟨_, _, h1, .inr ⟨rfl, ⟨.ret, hIx _ _ _ _ _ hid (back _ _ Wd), h2, h3, hXD, hXE⟩, (((hab.mono fun _ _ h => h.elim : Far (fun k => ¬ (K k ∨ X k)) Wa Wb).trans (hbc.mono fun k _ h hk => hk.elim (fun hk => (hnK k hk).2 h) (fun hk => hXE (h ▸ hk)))).trans (hcd.mono fun k _ h hk => h (hk.elim .inl (fun h => .inr (.inl h))))).putObj (fun _ hk => hk.elim (fun hk => (hnK _ hk).2 rfl) hXE) _⟩⟩
    | exit id =>
      obtain ⟨hcd, hid⟩ := hp
      obtain ⟨h1, h2, h3⟩ := fin (some (.exit id)) Wd (hcd.mono fun k _ h h' => h (.inr (.inr h')))
      exact ⟨_, _, h1, .inr ⟨rfl, ⟨.exit id, hIx _ _ _ _ _ hid (back _ _ Wd), h2, h3, hXD, hXE⟩, (((hab.mono fun _ _ h => h.elim : Far (fun k => ¬ (K k ∨ X k)) Wa Wb).trans (hbc.mono fun k _ h hk => hk.elim (fun hk => (hnK k hk).2 h) (fun hk => hXE (h ▸ hk)))).trans (hcd.mono fun k _ h hk => h (hk.elim .inl (fun h => .inr (.inl h))))).putObj (fun _ hk => hk.elim (fun hk => (hnK _ hk).2 rfl) hXE) _⟩⟩
    | goto t =>
      obtain ⟨hcd, hid⟩ := hp
      obtain ⟨h1, h2, h3⟩ := fin (some (.goto t)) Wd (hcd.mono fun k _ h h' => h (.inr (.inr h')))
      exact ⟨_, _, h1, .inr ⟨rfl, ⟨.goto t, hIx _ _ _ _ _ hid (back _ _ Wd), h2, h3, hXD, hXE⟩, (((hab.mono fun _ _ h => h.elim : Far (fun k => ¬ (K k ∨ X k)) Wa Wb).trans (hbc.mono fun k _ h hk => hk.elim (fun hk => (hnK k hk).2 h) (fun hk => hXE (h ▸ hk)))).trans (hcd.mono fun k _ h hk => h (hk.elim .inl (fun h => .inr (.inl h))))).putObj (fun _ hk => hk.elim (fun hk => (hnK _ hk).2 rfl) hXE) _⟩⟩
    | panic ch => exact hp.elim
    | outgrown => exact hp.elim
  · -- behind the iterator
    have back : ∀ (Y : Nat → Prop) (o : Obj) (Wd : World), Far (fun k => T k ∨ Y k ∨ k = D ∨ k = D + 1) Wd (Wd.putObj (D + 1) o) := fun Y o Wd => (Far.refl _ Wd).putObj (fun _ => .inr (.inr (.inr rfl))) o
    rintro e W2 ⟨⟨v, rfl⟩, h2⟩
    rcases h2 with ⟨X, hi, hl, hd, _⟩ | ⟨X, pre, hpre, c, hi, hl, hd, _⟩
    · have he := run_endLoop (P := P) hl (by rw [hrec]; simp)
      rw [hrec] at he
      have hlt : D + 1 < W2.heap.size := (Array.getElem?_eq_some_iff.1 hl).1
      exact ⟨none, _, he, hdone _ _ (by rw [World.putObj_size]; omega) (hI _ _ _ _ hi (back _ _ W2)) ((World.putObj_heap_other (by omega)).trans hd)⟩
    · have he := run_endLoop (P := P) hl (by rw [hrec]; simp)
      rw [hrec] at he
      have hlt : D + 1 < W2.heap.size := (Array.getElem?_eq_some_iff.1 hl).1
      exact ⟨some c, _, he, (wpIn_wide (n := 0)).2 (hstop c _ pre _ (by rw [World.putObj_size]; omega) hpre (hIx _ _ _ _ _ hi (back _ _ W2)) ((World.putObj_heap_other (by omega)).trans hd))⟩


end Go.Pol
