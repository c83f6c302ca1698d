/- Merged texts. Walks: slices.AppendSeq and slices.Collect over blocks that a function value hands out. slices.SortFunc over blocks, by their pages; slices.SortedFunc over their values. Walks: slices.IndexFunc and slices.ContainsFunc over blocks; bits.OnesCount; the program's Check. Walk: the program's Check of blocks. Walks: why a move is not possible (both). Walk: why a move is not possible, of the reference. Walks: a copy of blocks; the blocks after moves (the program). Walks: the cost of moves (both); the law's comparisons and bounds. Walks: the free places of a space (open, take, holds). Walk: can blocks of these orders be placed? (holds) -/
import Derived.Shelf.SlSortCmp.WholeK
import Derived.Ground.SlsfProg
import Derived.Sort.OwnSortedInts
import Derived.Lib.AppendZerosOnto
import Derived.Laws.AppendOwn
import Derived.Deep.RegionHeld
import Derived.Deep.MidRow
import Derived.Test.YtpabnbhbcphfiaaGreatT1
namespace Go.Pol
open Go Go.RowKit
theorem own_nilT {w : World} {base n : Nat} {e : TypeId} {v : Value} {bs : List B3} (h : w.ownsRow base e 3 v n (tCells bs)) (hn : bs.length = n) : ∃ (A : Option Addr) (cap : Nat), v = .slice A n cap := by
  obtain ⟨A, cap, hv, _⟩ := own_RT h hn
  exact ⟨A, cap, hv⟩
end Go.Pol
namespace Go.Proofs.YtpabnbhbcphfiaaGreat
open Go Go.Proofs Go.RowKit Go.Pol Go.Shelf
attribute [local go_sem] Oper.semAt_some Go.Pol.wide_fn Go.Pol.wide_depth Go.Pol.wide_fn' Go.Pol.wide_depth'

theorem infoMv : (Tryz.prog.info? 65).map (fun i => (i.zero, i.size, i.bytes)) = some (some (.agg #[.int .i64 0, .int .i64 0, .bool false]), 3, 24) := by kernel_rfl
theorem infoMv_parts : ∃ i0, Tryz.prog.info? 65 = some i0 ∧ i0.zero = some (.agg #[.int .i64 0, .int .i64 0, .bool false]) ∧ i0.size = 3 ∧ i0.bytes = 24 := by
  obtain ⟨i0, h⟩ := info_parts infoMv
  exact ⟨i0, h⟩
set_option maxRecDepth 100000 in
set_option maxHeartbeats 3200000 in
theorem appendSeqT_any (g : Nat) (lb : Array Value) (K : Nat → Prop) (xs : List B3) (w : World) (hxs : xs.length ≤ 1000000)
    (hseq : SeqX Tryz.prog g lb tA (fun _ => False) K xs w) (eg : ∀ args w, (callFunc g args).run Tryz.prog w = .ok (.enter g args) w) (hK : ∀ k, K k → k < w.heap.size) :
    Calls Tryz.prog 241 #[.slice none 0 0, .func (.func g) #[] lb] w fun e w' => ∃ v, e = .returned v ∧ w'.ownsRow w.heap.size 65 3 v xs.length (tCells xs) ∧ Below w.heap.size w w' := by
  obtain ⟨i0, hi, hz0, hz1, hz2⟩ := infoMv_parts
  obtain ⟨s, hs⟩ : ∃ s, w.heap.size = s := ⟨_, rfl⟩
  obtain ⟨W0, hW0⟩ : ∃ W0, w.alloc (.cells #[.slice none 0 0] 56) = W0 := ⟨_, rfl⟩
  have hs0 : W0.heap.size = s + 1 := by rw [← hW0, ← hs]; simp
  have kO : Blk W0 s 56 #[.slice none 0 0] := by rw [← hW0, ← hs]; exact Blk.new _ _ _
  have hb0 : Below s w W0 := by rw [← hW0, ← hs]; exact (Below.refl w.heap.size w).alloc (Nat.le_refl _) _
  have hF0 : Far (fun _ => False) w W0 := .of_below (by rw [hs]; exact hb0)
  have hW1 := Lib.hid hW0
  clear hW0
  refine calls_of_marks Tryz.func241 rfl ?_
  simp only [Tryz.ntmps241, List.size_toArray, List.length_cons, List.length_nil, Nat.reduceAdd, Nat.reduceSub, Array.replicate_succ, Array.replicate_zero, List.push_toArray, List.append_toArray, List.nil_append, List.cons_append]
  go_wp2_with fail
  rw [hW1.out]
  clear hW1
  have ls1 := kO.lt
  have hlen : ∀ (pre : List B3) (x : B3), pre ++ [x] <+: xs → pre.length < 1000000 := fun pre x h => by
    have := h.length_le
    simp at this
    omega
  refine rangeXT 5 7 65 (gf := g) (lb := lb) rfl eg (hseq.later (hF0.mono fun _ _ h => h.elim)) rfl (fun _ h => h.elim) (fun k h => by have := hK k h; omega)
    (fun X pre W => BoxX X W s 56 65 (s + 3) 3 pre.length (tCells pre) ∧ Below s w W ∧ ∀ k, X k → s ≤ k)
    (fun _ _ _ _ => False)
    (fun X pre A B h hf => ⟨h.1.far hf (by rintro (h | h | h | h) <;> first | exact h | exact h.elim | omega) (fun g hg => by rintro (h | h | h | h) <;> first | exact h | exact h.elim | omega),
      h.2.1.trans (hf.below (by rw [← hs]; exact h.2.1.size) (fun k hk => by rintro (h' | h' | h' | h'); exact h'; have := h.2.2 k h'; omega; omega; omega)), h.2.2⟩)
    (fun _ _ _ _ _ h _ => h.elim)
    (fun X X' pre A h hX => ⟨h.1.new hX, h.2.1, fun k hk => (hX _ hk).elim (h.2.2 k) (fun h' => by have := h.2.1.size; omega)⟩)
    ⟨⟨_, kO, World.ownsRow_nil _ _ _ _, id, fun _ _ => id⟩, hb0, fun _ h => h.elim⟩ ?assign ?body ?done (fun _ _ _ _ _ _ h _ => h.elim)
  case assign =>
    intro m l x W C hC
    simp only [List.setIfInBounds_toArray, List.set_cons_succ, List.set_cons_zero] at hC ⊢
    gi_wp2
    exact hC
  case body =>
    rintro m l X pre x Bx Wa W hsz hXlt ⟨hbox, hB, hXs⟩ hpre hBx kx hBa
    simp only [List.setIfInBounds_toArray, List.set_cons_succ, List.set_cons_zero]
    have hlt := hlen pre x hpre
    obtain ⟨v, hv, hrow, hXB, hXg⟩ := hbox.ex
    obtain ⟨A', cap', rfl⟩ := own_nilT hrow rfl
    obtain ⟨pl, hpl⟩ : ∃ pl, pre.length = pl := ⟨_, rfl⟩
    obtain ⟨xa, xo, xc⟩ := x
    dsimp only at kx
    have cx := kx.cell
    have cv := hv.cell
    have fv := hv.frozen
    have kN := Blk.new W 65 #[.int .i64 xa, .int .i64 xo, .bool xc]
    have hXl2 : ∀ k, X k → k < W.heap.size := fun k hk => by have := (hXlt k hk).1; have := kx.lt; omega
    rw [hpl] at hrow hv cv hlt hXg
    gi_wp2_with (gi_at_builtin; refine wpListIn_append_x _ rfl (.tmp 8) (.tmp 10) 56 rfl (s + 3) 65 i0 (.agg #[.int .i64 0, .int .i64 0, .bool false]) 3 24 Tryz.underlying56 hi hz0 hz1 hz2 rfl (by decide) _ pl (tCells pre) rfl (hrow.alloc _) ⟨W.heap.size, 0, none⟩ 1 1 [.int .i64 xa, .int .i64 xo, .bool xc] rfl rfl (news_three kN) news_one3 (by unfold maxLen; omega) (by omega) (by simp; omega) ?_; intro v' w1 hown' hgrow hblk; rw [← tCells_snoc pre (xa, xo, xc)] at hown'; obtain ⟨hv1, hb2, hf2⟩ := BoxX.appended hv (by decide) hrow hXB hXg hown' hgrow hblk hXl2; obtain ⟨A2, cap2, rfl⟩ := own_nilT hown' (by simp; omega); have cv1 := hv1.cell; have fv1 := hv1.frozen)
    have hgx : ∀ g, (Value.slice A' pl cap').ownBlock = some g → s + 3 ≤ g ∧ ¬ X g := fun g hg => ⟨(hrow.lt g hg).1, hXg g hg⟩
    have hf3 := hf2 (fun k => k = s ∨ (Value.slice A' pl cap').ownBlock = some k) (.inl rfl) (fun g hg => .inr hg)
    refine ⟨hf3.mono fun k _ h => ?_, ?_, hB.trans (hf3.below (by have := hB.size; omega) fun k hk => ?_), hXs⟩
    · rintro (h' | h' | h' | h')
      · have := hK k h'
        rcases h with h | h
        · omega
        · have := hgx k h; omega
      · rcases h with h | h
        · exact hXB (h ▸ h')
        · exact (hgx k h).2 h'
      · rcases h with h | h
        · omega
        · have := hgx k h; omega
      · rcases h with h | h
        · omega
        · have := hgx k h; omega
    · rw [List.length_append, List.length_singleton, hpl]; exact hb2
    · rintro (h | h)
      · omega
      · have := hgx _ h; omega
  case done =>
    rintro X W hsz ⟨hbox, hB, hXs⟩ hd
    obtain ⟨v, hv, hrow, hXB, hXg⟩ := hbox.ex
    have cv := hv.cell
    obtain ⟨A', cap', rfl⟩ := own_nilT hrow rfl
    rw [hs0] at hd hsz
    go_wp2_with fail
    rw [hs0]
    have hfp : Far (fun k => k = s + 1) W (W.putObj (s + 1) (.deferred none)) := Far.putObj (T := fun k => k = s + 1) (Far.refl _ _) (fun _ => rfl) _
    have hrow3 := ownsRow_far hrow hfp (fun g hg h => by have := (hrow.lt g hg).1; omega)
    exact leave_mark (v := .slice A' xs.length cap') hd (by simp [results, Tryz.results241, go_sem]) ⟨_, rfl, ownsRow_base hrow3 (by omega), by rw [hs]; exact hB.trans (hfp.below (by have := hB.size; omega) (fun k hk => by omega))⟩

theorem collectT_any (g : Nat) (lb : Array Value) (K : Nat → Prop) (xs : List B3) (w : World) (hxs : xs.length ≤ 1000000)
    (hseq : SeqX Tryz.prog g lb tA (fun _ => False) K xs w) (eg : ∀ args w, (callFunc g args).run Tryz.prog w = .ok (.enter g args) w) (hK : ∀ k, K k → k < w.heap.size) :
    Calls Tryz.prog 225 #[.func (.func g) #[] lb] w fun e w' => ∃ v, e = .returned v ∧ w'.ownsRow w.heap.size 65 3 v xs.length (tCells xs) ∧ Below w.heap.size w w' := by
  have HA := Lib.hid (appendSeqT_any g lb K xs w hxs hseq eg hK)
  go_enter Tryz.func225, Tryz.ntmps225
  go_wp2_with (go_at_call 241; refine (HA.out).mono ?_; rintro e w1 ⟨v, rfl, hown, hf⟩)
  go_ret
  exact ⟨v, rfl, hown, hf⟩
end Go.Proofs.YtpabnbhbcphfiaaGreat
namespace Go.Proofs.YtpabnbhbcphfiaaGreat
open Go Go.Proofs Go.RowKit Go.Pol Go.Shelf Go.Sort

def encB (x : B3) : List Value := [.int .i64 x.1, .int .i64 x.2.1, .bool x.2.2]
theorem flat_cellsT (us : List B3) : (flatK encB 3 us.toArray).toList = tCells us := by
  apply List.ext_getElem?
  intro t
  have hl := tCells_len us
  by_cases ht : t < us.length * 3
  · have h1 : (flatK encB 3 us.toArray).toList[t]? = some ((encB us.toArray[t / 3]!)[t % 3]!) := by
      rw [← get_flatK encB 3 us.toArray t (by simpa using ht)]
      rw [Array.getElem?_toList, getElem!_pos _ t (by simpa using ht), Array.getElem?_eq_getElem (by simpa using ht)]
    rw [h1]
    have hk : t / 3 < us.length := by omega
    have hat := tCells_at us (t / 3) hk
    have hg : us.toArray[t / 3]! = us.getD (t / 3) b0 := by
      rw [List.getD_eq_getElem?_getD, List.getElem?_eq_getElem hk, getElem!_pos _ _ (by simpa using hk)]; simp
    rw [hg]
    rcases (show t % 3 = 0 ∨ t % 3 = 1 ∨ t % 3 = 2 by omega) with h | h | h
    · rw [h, show t = t / 3 * 3 by omega, hat.1]; simp [encB]
    · rw [h]
      have e : t = t / 3 * 3 + 1 := by omega
      generalize t / 3 = k at *
      subst e
      rw [hat.2.1]; simp [encB]
    · rw [h]
      have e : t = t / 3 * 3 + 2 := by omega
      generalize t / 3 = k at *
      subst e
      rw [hat.2.2]; simp [encB]
  · rw [List.getElem?_eq_none (by simp; omega), List.getElem?_eq_none (by omega)]
theorem heap_putFV {w : World} {g m : Nat} {os : Array Obj} {cur : Array Value} {e : TypeId} {fr : Nat × Nat} (F : Array Value) (hb : w.heap[g]? = some (.cells cur e fr)) :
    (grow (putRow id (Sort.ahead w m) g 0 F) os).heap[g]? = some (.cells (putCells id 0 F cur) e fr) := by
  have hg : g < w.heap.size := (Array.getElem?_eq_some_iff.1 hb).1
  rw [heap_grow_old _ _ (by simpa using hg)]
  simp [putRow, mapBlock, Sort.ahead, Array.getElem?_modify, hb, onCells]
theorem grownBy_putFV {w : World} {g m : Nat} {os : Array Obj} (F : Array Value) : w.grownBy (grow (putRow id (Sort.ahead w m) g 0 F) os) (some g) := by
  refine ⟨rfl, rfl, rfl, by simp, fun k hk hne => ?_⟩
  rw [heap_grow_old _ _ (by simpa using hk)]
  have : g ≠ k := fun e => hne (by rw [e])
  simp [putRow, mapBlock, Sort.ahead, Array.getElem?_modify, this]
theorem take_putFV (cur F : Array Value) (h : F.size ≤ cur.size) : (putCells id 0 F cur).toList.take F.size = F.toList := by
  apply List.ext_getElem?
  intro j
  by_cases hj : j < F.size
  · rw [List.getElem?_take_of_lt hj, Array.getElem?_toList]
    simp [putCells, hj, show j < cur.size by omega]
  · rw [List.getElem?_take_eq_none (by omega), List.getElem?_eq_none (by simp; omega)]
theorem owns_putT {w : World} {base g n cap m : Nat} {e : TypeId} {os : Array Obj} {xs : List Value} (F : Array Value) (hF : F.size = n * 3) (h : w.ownsRow base e 3 (.slice (some ⟨g, 0, none⟩) n cap) n xs) :
    (grow (putRow id (Sort.ahead w m) g 0 F) os).ownsRow base e 3 (.slice (some ⟨g, 0, none⟩) n cap) n F.toList := by
  rcases h.2 with ⟨h0, _⟩ | ⟨g', cap', cur, hv, hbase, hb, h1, h2, h3, _⟩
  · cases h0
  cases hv
  exact ⟨by simpa using hF, .inr ⟨g, cap, _, rfl, hbase, heap_putFV _ hb, h1, h2, by simp [putCells, h3], by rw [← hF]; exact take_putFV cur F (by rw [hF, h3]; exact Nat.mul_le_mul_right 3 h1)⟩⟩
theorem holds_ownT {w : World} {base g n cap : Nat} {e : TypeId} {us : List B3} (hn : us.length = n) (h : w.ownsRow base e 3 (.slice (some ⟨g, 0, none⟩) n cap) n (tCells us)) : HoldsK encB 3 w g 0 us.toArray := by
  intro j hj
  have hj' : j < us.length * 3 := by simpa using hj
  rw [Nat.zero_add]
  refine ⟨?_, h.frozenAt j⟩
  rw [h.cellAt j (by omega), ← flat_cellsT, Array.getElem?_toList, getElem!_pos _ j hj, Array.getElem?_eq_getElem hj]
  rfl




theorem isNaN_anyV (x : Int) (w : World) : Calls Tryz.prog 171 #[.int .i64 x] w fun e w' => e = .returned (.bool false) ∧ w' = w := by
  go_enter Tryz.func171, Tryz.ntmps171
  go_wp2
  go_ret
  exact ⟨by simp, rfl⟩
def cmpIV (x y : Int) : Int := if x < y then -1 else if y < x then 1 else 0
theorem compare_anyV (x y : Int) (w : World) : Calls Tryz.prog 111 #[.int .i64 x, .int .i64 y] w fun e w' => e = .returned (.int .i64 (cmpIV x y)) ∧ w' = w := by
  obtain ⟨R, hR0⟩ : ∃ R, cmpIV x y = R := ⟨_, rfl⟩
  rw [hR0]
  have hR := Lib.hid hR0
  clear hR0
  by_cases h1 : x < y
  · have h1' : decide (x < y) = true := by simpa using h1
    have hE : Hid (R = -1) := Lib.hid (by rw [← hR.out, cmpIV, if_pos h1])
    clear h1
    go_enter Tryz.func111, Tryz.ntmps111
    go_wp2_with (go_at_call 171; refine (isNaN_anyV _ _).mono ?_; rintro e w' ⟨rfl, rfl⟩)
    go_ret
    exact ⟨ret_int hE.out.symm, rfl⟩
  · have h1' : decide (x < y) = false := by simpa using h1
    by_cases h2 : y < x
    · have h2' : decide (y < x) = true := by simpa using h2
      have hE : Hid (R = 1) := Lib.hid (by rw [← hR.out, cmpIV, if_neg h1, if_pos h2])
      clear h1 h2
      go_enter Tryz.func111, Tryz.ntmps111
      go_wp2_with (go_at_call 171; refine (isNaN_anyV _ _).mono ?_; rintro e w' ⟨rfl, rfl⟩)
      go_ret
      exact ⟨ret_int hE.out.symm, rfl⟩
    · have h2' : decide (y < x) = false := by simpa using h2
      have hE : Hid (R = 0) := Lib.hid (by rw [← hR.out, cmpIV, if_neg h1, if_neg h2])
      clear h1 h2
      go_enter Tryz.func111, Tryz.ntmps111
      go_wp2_with (go_at_call 171; refine (isNaN_anyV _ _).mono ?_; rintro e w' ⟨rfl, rfl⟩)
      go_ret
      exact ⟨ret_int hE.out.symm, rfl⟩


theorem check2_anyV (x y : B3) (w : World) : Calls Tryz.prog 194 #[bV x, bV y] w fun e w' => e = .returned (.int .i64 (cmpIV x.1 y.1)) ∧
    w' = (w.alloc (.cells #[.int .i64 x.1, .int .i64 x.2.1, .bool x.2.2] 65)).alloc (.cells #[.int .i64 y.1, .int .i64 y.2.1, .bool y.2.2] 65) := by
  obtain ⟨xa, xo, xc⟩ := x
  obtain ⟨ya, yo, yc⟩ := y
  simp only
  have HC := Lib.hid (fun W => compare_anyV xa ya W)
  generalize cmpIV xa ya = R at *
  go_enter Tryz.func194, Tryz.ntmps194
  go_wp2_with (go_at_call 111; refine (HC.out _).mono ?_; rintro e w' ⟨rfl, rfl⟩)
  go_ret
  exact ⟨rfl, rfl⟩
theorem cmpLaysT (blk off size : Nat) (w : World) : CmpLays Tryz.prog 194 #[] encB 3 (fun x y => cmpIV x.1 y.1) blk off size w :=
  fun m os dk _ x y => (check2_anyV x y _).mono (by rintro e w' ⟨he, rfl⟩; exact ⟨he, 0, _, by rw [alloc_eq_grow, alloc_eq_grow, grow_grow]; rfl⟩)
theorem ltMv (x y : B3) : ltOf (fun x y : B3 => cmpIV x.1 y.1) x y = decide (x.1 < y.1) := by
  unfold ltOf cmpIV
  by_cases h1 : x.1 < y.1
  · simp [h1]
  · by_cases h2 : y.1 < x.1 <;> simp [h1, h2]
theorem swoMv : SWO (ltOf fun x y : B3 => cmpIV x.1 y.1) where
  irrefl x := by rw [ltMv]; simp
  trans x y z h1 h2 := by rw [ltMv] at *; simp at *; omega
  ntrans x y z h1 h2 := by rw [ltMv] at *; simp at *; omega
theorem check2_enters : ∀ args w, (callFunc 194 args).run Tryz.prog w = .ok (.enter 194 args) w := enters_of Tryz.func194 (by kernel_rfl) rfl

theorem insNoneT_any (A : Option Addr) (cap : Nat) (w : World) : Calls Tryz.prog 258 #[.slice A 0 cap, .int .i64 0, .int .i64 0, .func (.func 194) #[] #[]] w fun e w' => e = .returned (.tuple #[]) ∧ w' = w := by
  go_enter Tryz.func258, Tryz.ntmps258
  go_wp2_with fail
  go_loopw [8] (fun a wr => a = .int .i64 1 ∧ wr = w) (fun _ _ => 0)
  case atStart => exact ⟨rfl, rfl⟩
  case round =>
    obtain ⟨rfl, hw⟩ := hrel
    have hw' := hw.symm
    clear hw
    subst hw'
    go_wp2_with fail
    go_end0
    exact ⟨rfl, rfl⟩
theorem pdqNoneT_any (A : Option Addr) (cap : Nat) (w : World) : Calls Tryz.prog 242 #[.slice A 0 cap, .int .i64 0, .int .i64 0, .int .i64 0, .func (.func 194) #[] #[]] w fun e w' => e = .returned (.tuple #[]) ∧ w' = w := by
  have HI := Lib.hid (insNoneT_any A cap w)
  go_enter Tryz.func242, Tryz.ntmps242
  go_wp2_with fail
  go_loopw [1, 2] (fun a b wr => a = .int .i64 0 ∧ b = .int .i64 0 ∧ wr = w) (fun _ _ _ => 0)
  case atStart => exact ⟨rfl, rfl, rfl⟩
  case round =>
    obtain ⟨rfl, rfl, hw⟩ := hrel
    have hw' := hw.symm
    clear hw
    subst hw'
    go_wp2_with fail
    refine HI.out.mono ?_
    rintro e w1 ⟨rfl, hw⟩
    have hw' := hw.symm
    clear hw
    subst hw'
    go_wp2_with fail
    exact bodyPost_ret (results_none (by rfl) _ _ _) rfl ⟨rfl, rfl⟩
theorem sortNoneT_any (A : Option Addr) (cap : Nat) (w : World) : Calls Tryz.prog 226 #[.slice A 0 cap, .func (.func 194) #[] #[]] w fun e w' => e = .returned (.tuple #[]) ∧ w' = w := by
  have HI := Lib.hid (pdqNoneT_any A cap w)
  have HL := Lib.hid (fun W => len_any 0 W (by omega) (by omega))
  have e0 : ((Lib.bitLen (0 : Int).toNat : Nat) : Int) = 0 := by decide
  rw [e0] at HL
  go_enter Tryz.func226, Tryz.ntmps226
  go_wp2_with (go_at_call 124; refine (HL.out _).mono ?_; rintro e w' ⟨rfl, rfl⟩)
  refine HI.out.mono ?_
  rintro e w1 ⟨rfl, hw⟩
  have hw' := hw.symm
  clear hw
  subst hw'
  go_wp2_with fail
  go_end0
  exact ⟨rfl, rfl⟩
set_option maxHeartbeats 1000000 in
theorem sortSomeT_any (base : Nat) (v : Value) (us : List B3) (w : World) (hlen : us.length ≤ 100000) (hbase : base ≤ w.heap.size) (hne : us ≠ []) (hrow : w.ownsRow base 65 3 v us.length (tCells us)) :
    Calls Tryz.prog 226 #[v, .func (.func 194) #[] #[]] w fun e w' => e = .returned (.tuple #[]) ∧ ∃ us' : List B3, us'.Perm us ∧ us'.Pairwise (fun a b => a.1 ≤ b.1) ∧ w'.ownsRow base 65 3 v us.length (tCells us') ∧ Go.RowKit.Below base w w' := by
  have hpos : 0 < us.length := List.length_pos_iff.2 hne
  obtain ⟨g, cap, rfl, hg1, hg2⟩ := hrow.form hpos
  have hcon := AnyQ.slices_SortFunc sortMv 3 Tryz.isAgg65 Tryz.sizeOf65 encB (fun _ => rfl) (fun x v hv => by simp [encB] at hv; rcases hv with rfl | rfl | rfl <;> rfl) (fun x y => cmpIV x.1 y.1) swoMv 194 #[] g 0 cap us.toArray w check2_enters (cmpLaysT g 0 us.toArray.size w) (holds_ownT rfl hrow) hg2 (by simp; omega)
  change Calls Tryz.prog 226 _ _ _ at hcon
  rw [List.size_toArray] at hcon
  refine hcon.mono ?_
  rintro e w' ⟨rfl, d', n, os, hp, hs, rfl⟩
  obtain ⟨us'⟩ := d'
  obtain ⟨hp1, _, hp2⟩ := hp
  simp only [List.size_toArray] at hp1 hp2
  refine ⟨rfl, us', by
    have h1 : (Array.extract us'.toArray 0 us.length).toList = us' := by simp [← hp1]
    have h2 : (Array.extract us.toArray 0 us.length).toList = us := by simp
    rw [h1, h2] at hp2; exact hp2, ?_, ?_, ?_⟩
  · rw [List.pairwise_iff_getElem]
    intro i j hi hj hij
    have := hs i j (Nat.zero_le _) hij (by omega)
    rw [ltMv, getElem!_pos _ j (by simpa using hj), getElem!_pos _ i (by simpa using hi)] at this
    simpa using this
  · have := owns_putT (m := n) (os := os) (flatK encB 3 us'.toArray) (by simp [hp1]) hrow
    rw [flat_cellsT] at this
    exact this
  · exact (Go.RowKit.Below.refl base w).grown (grownBy_putFV _) hbase (fun j hj => by cases hj; exact hg1)
theorem sortT_any (base : Nat) (v : Value) (us : List B3) (w : World) (hlen : us.length ≤ 100000) (hbase : base ≤ w.heap.size) (hrow : w.ownsRow base 65 3 v us.length (tCells us)) :
    Calls Tryz.prog 226 #[v, .func (.func 194) #[] #[]] w fun e w' => e = .returned (.tuple #[]) ∧ ∃ us' : List B3, us'.Perm us ∧ us'.Pairwise (fun a b => a.1 ≤ b.1) ∧ w'.ownsRow base 65 3 v us.length (tCells us') ∧ Go.RowKit.Below base w w' := by
  by_cases hne : us = []
  · subst hne
    obtain ⟨A, cap, rfl⟩ := own_nilT hrow rfl
    refine (sortNoneT_any A cap w).mono ?_
    rintro e w' ⟨rfl, rfl⟩
    exact ⟨rfl, [], List.Perm.refl _, List.Pairwise.nil, hrow, Go.RowKit.Below.refl _ _⟩
  · exact sortSomeT_any base v us w hlen hbase hne hrow
theorem sortedT_any (g : Nat) (lb : Array Value) (K : Nat → Prop) (xs : List B3) (w : World) (hxs : xs.length ≤ 100000)
    (hseq : SeqX Tryz.prog g lb tA (fun _ => False) K xs w) (eg : ∀ args w, (callFunc g args).run Tryz.prog w = .ok (.enter g args) w) (hK : ∀ k, K k → k < w.heap.size) :
    Calls Tryz.prog 192 #[.func (.func g) #[] lb, .func (.func 194) #[] #[]] w fun e w' => ∃ (us : List B3) (A : Option Addr) (cap : Nat), us.Perm xs ∧ us.Pairwise (fun a b => a.1 ≤ b.1) ∧ e = .returned (.slice A us.length cap) ∧ RT w' w'.heap.size A us ∧ Go.RowKit.Below w.heap.size w w' := by
  have HA := Lib.hid (collectT_any g lb K xs w (by omega) hseq eg hK)
  go_enter Tryz.func192, Tryz.ntmps192
  go_wp2_with fail
  refine HA.out.mono ?_
  rintro e w1 ⟨v, rfl, hown, hb1⟩
  have HS := Lib.hid (sortT_any w.heap.size v xs w1 (by omega) hb1.size hown)
  obtain ⟨A0, cap0, rfl⟩ := own_nilT hown rfl
  go_wp2_with fail
  refine HS.out.mono ?_
  rintro e w2 ⟨rfl, us, hp, hs, hown2, hb2⟩
  obtain ⟨A, cap, e, hrt, _⟩ := own_RT hown2 hp.length_eq
  cases e
  go_wp2_with fail
  go_ret
  exact ⟨us, A0, cap0, hp, hs, by rw [hp.length_eq]; rfl, hrt, hb1.trans hb2⟩
end Go.Proofs.YtpabnbhbcphfiaaGreat
namespace Go.Pol
def isPow2 (x : Nat) : Bool := List.elem x [1, 2, 4, 8, 16, 32, 64, 128, 256, 512, 1024]
theorem isPow2_space : ∀ x : Nat, x ≤ 1024 → spaceB (x : Int) = isPow2 x := by decide +kernel
/-- blocks sorted by their pages: is one not behind the one ahead of it? -/
def adjB (us : List B3) : Bool := (List.range us.length).any fun i => decide (0 < i) && decide ((us.getD i b0).1 < (us.getD (i - 1) b0).1 + pw (us.getD (i - 1) b0).2.1)
theorem adjB_iff {us : List B3} : adjB us = true ↔ ∃ i, i + 1 < us.length ∧ (us.getD (i + 1) b0).1 < (us.getD i b0).1 + pw (us.getD i b0).2.1 := by
  unfold adjB
  simp only [List.any_eq_true, List.mem_range, Bool.and_eq_true, decide_eq_true_eq]
  constructor
  · rintro ⟨i, h1, h2, h3⟩
    exact ⟨i - 1, by omega, by rw [show i - 1 + 1 = i by omega]; exact h3⟩
  · rintro ⟨i, h1, h2⟩
    exact ⟨i + 1, h1, by omega, by simpa using h2⟩
theorem clash_false {bs : List B3} : clash bs = false ↔ bs.Pairwise (fun a b => overB a b = false) := by
  rw [List.pairwise_iff_getElem]
  constructor
  · intro h i j hi hj hij
    cases hc : overB bs[i] bs[j] with
    | false => rfl
    | true =>
      have : clash bs = true := clash_iff.2 ⟨j, i, hj, hij, by rw [overB_comm]; simpa [List.getD_eq_getElem?_getD, hi, hj] using hc⟩
      rw [h] at this; cases this
  · intro h
    cases hc : clash bs with
    | false => rfl
    | true =>
      obtain ⟨i, k, hi, hk, ho⟩ := clash_iff.1 hc
      have := h k i (by omega) hi hk
      rw [overB_comm] at ho
      simp only [List.getD_eq_getElem?_getD, List.getElem?_eq_getElem hi, List.getElem?_eq_getElem (show k < bs.length by omega), Option.getD_some] at ho
      rw [this] at ho; cases ho
theorem clash_perm {bs us : List B3} (h : us.Perm bs) : clash us = clash bs := by
  have : clash us = false ↔ clash bs = false := by
    rw [clash_false, clash_false]
    exact h.pairwise_iff (fun {a b} hab => by rw [overB_comm]; exact hab)
  cases h1 : clash us <;> cases h2 : clash bs <;> simp_all
theorem adjB_clash {us : List B3} (hs : us.Pairwise (fun a b => a.1 ≤ b.1)) : adjB us = clash us := by
  have hle : ∀ i j, i < j → j < us.length → (us.getD i b0).1 ≤ (us.getD j b0).1 := fun i j hij hj => by
    have := (List.pairwise_iff_getElem.1 hs) i j (by omega) hj hij
    simpa [List.getD_eq_getElem?_getD, hj, show i < us.length by omega] using this
  have hiff : adjB us = true ↔ clash us = true := by
    rw [adjB_iff, clash_iff]
    constructor
    · rintro ⟨i, h1, h2⟩
      refine ⟨i + 1, i, h1, by omega, overB_iff.2 ⟨h2, ?_⟩⟩
      have := hle i (i + 1) (by omega) h1
      have := pw_pos (us.getD (i + 1) b0).2.1
      omega
    · rintro ⟨i, k, h1, h2, h3⟩
      have h3' := (overB_iff.1 h3).1
      -- some neighbours between k and i overlap
      by_cases hx : ∃ j, k ≤ j ∧ j < i ∧ (us.getD (j + 1) b0).1 < (us.getD j b0).1 + pw (us.getD j b0).2.1
      · obtain ⟨j, hj1, hj2, hj3⟩ := hx
        exact ⟨j, by omega, hj3⟩
      · exfalso
        have hno : (us.getD k b0).1 + pw (us.getD k b0).2.1 ≤ (us.getD (k + 1) b0).1 := by
          by_cases hq : (us.getD (k + 1) b0).1 < (us.getD k b0).1 + pw (us.getD k b0).2.1
          · exact absurd ⟨k, Nat.le_refl _, h2, hq⟩ hx
          · omega
        have : (us.getD (k + 1) b0).1 ≤ (us.getD i b0).1 := by
          by_cases hq : k + 1 = i
          · rw [hq]; omega
          · exact hle (k + 1) i (by omega) h1
        omega
  cases h1 : adjB us <;> cases h2 : clash us <;> simp_all
end Go.Pol
namespace Go.Proofs.YtpabnbhbcphfiaaGreat
open Go Go.Proofs Go.RowKit Go.Pol Go.Shelf
attribute [local go_sem] Oper.semAt_some Go.Pol.wide_fn Go.Pol.wide_depth Go.Pol.wide_fn' Go.Pol.wide_depth'

/-- where the first entry is that a test holds of -/
def idxB (p : B3 → Bool) : List B3 → Nat → Int
  | [], _ => -1
  | x :: r, k => if p x = true then (k : Int) else idxB p r (k + 1)
theorem idxB_any (p : B3 → Bool) : ∀ (bs : List B3) (k : Nat), decide (0 ≤ idxB p bs k) = bs.any p
  | [], k => by simp [idxB]
  | x :: r, k => by
    rw [idxB]
    cases h : p x with
    | true => simp [h]
    | false => simp [h, idxB_any p r (k + 1)]
set_option maxRecDepth 100000 in
theorem indexT_any (p : B3 → Bool) (g : Nat) (lb : Array Value) (A : Option Addr) (n cap : Nat) (bs : List B3) (w : World) (hn : bs.length = n) (hm : n ≤ maxLen) (hr : RT w w.heap.size A bs)
    (eg : ∀ args w, (callFunc g args).run Tryz.prog w = .ok (.enter g args) w)
    (hp : ∀ x ∈ bs, ∀ W, Below w.heap.size w W → Calls Tryz.prog g (#[bV x] ++ lb) W fun e W' => e = .returned (.bool (p x)) ∧ Below W.heap.size W W') :
    Calls Tryz.prog 224 #[.slice A n cap, .func (.func g) #[] lb] w fun e w' => e = .returned (.int .i64 (idxB p bs 0)) ∧ Below w.heap.size w w' := by
  unfold maxLen at hm
  obtain ⟨R, hR⟩ : ∃ R, idxB p bs 0 = R := ⟨_, rfl⟩
  rw [hR]
  have hR' := Lib.hid hR
  have hn' := Lib.hid hn
  have hp' := Lib.hid hp
  clear hR hn hp
  go_enter Tryz.func224, Tryz.ntmps224
  go_wp2_with fail
  go_loopw [8] (fun i wr => ∃ k : Nat, k ≤ n ∧ i = .int .i64 k ∧ Below w.heap.size w wr ∧ Hid (idxB p (bs.drop k) k = R)) (fun i _ => n - (intOf i).toNat)
  case atStart => exact ⟨0, by omega, rfl, Below.refl _ _, by simpa using hR'⟩
  case round =>
    obtain ⟨k, hk, rfl, hB, hH⟩ := hrel
    by_cases hlt : k < n
    · have hlt' : decide ((k : Int) < (n : Int)) = true := by simpa using hlt
      obtain ⟨b, o, rfl, _, c1, c2, c3⟩ := ((hr.below hB).more hB.size).at_ (k := k) (by have := hn'.out; omega)
      have HP := Lib.hid (hp'.out (bs.getD k b0) (getD_memB (by have := hn'.out; omega)) wr hB)
      have hst := hH.out
      rw [Go.Pol.drop_cons b0 bs k (by have := hn'.out; omega), idxB] at hst
      generalize bs.getD k b0 = x at *
      obtain ⟨xa, xo, xc⟩ := x
      simp only at c1 c2 c3
      cases hpx : p (xa, xo, xc) with
      | true =>
        rw [hpx] at HP
        rw [if_pos hpx] at hst
        have hst' := Lib.hid hst
        clear hst hH hpx
        go_wp2_with fail
        refine HP.out.mono ?_
        rintro e w1 ⟨rfl, hb1⟩
        go_wp2_with fail
        go_ret
        exact ⟨ret_int hst'.out, hB.trans (hb1.mono hB.size)⟩
      | false =>
        rw [hpx] at HP
        rw [if_neg (by simp [hpx])] at hst
        have hst' := Lib.hid hst
        clear hst hH hpx
        go_wp2_with fail
        refine HP.out.mono ?_
        rintro e w1 ⟨rfl, hb1⟩
        go_wp2_with fail
        go_roundw
        case rel => exact ⟨k + 1, by omega, by go_num, hB.trans (hb1.mono hB.size), hst'⟩
        case measure => simp [intOf]; omega
    · obtain rfl : k = n := by omega
      have hlt' : decide ((k : Int) < (k : Int)) = false := by simp
      have hst := hH.out
      rw [List.drop_of_length_le (by have := hn'.out; omega)] at hst
      have hst' := Lib.hid (show -1 = R from hst)
      clear hst hH
      go_wp2_with fail
      go_ret
      exact ⟨ret_int hst'.out, hB⟩
theorem containsT_any (p : B3 → Bool) (g : Nat) (lb : Array Value) (A : Option Addr) (n cap : Nat) (bs : List B3) (w : World) (hn : bs.length = n) (hm : n ≤ maxLen) (hr : RT w w.heap.size A bs)
    (eg : ∀ args w, (callFunc g args).run Tryz.prog w = .ok (.enter g args) w)
    (hp : ∀ x ∈ bs, ∀ W, Below w.heap.size w W → Calls Tryz.prog g (#[bV x] ++ lb) W fun e W' => e = .returned (.bool (p x)) ∧ Below W.heap.size W W') :
    Calls Tryz.prog 189 #[.slice A n cap, .func (.func g) #[] lb] w fun e w' => e = .returned (.bool (bs.any p)) ∧ Below w.heap.size w w' := by
  have HI := Lib.hid (indexT_any p g lb A n cap bs w hn hm hr eg hp)
  have hE := Lib.hid (idxB_any p bs 0)
  generalize idxB p bs 0 = R at *
  generalize bs.any p = S at *
  go_enter Tryz.func189, Tryz.ntmps189
  go_wp2_with fail
  refine HI.out.mono ?_
  rintro e w1 ⟨rfl, hb1⟩
  go_wp2_with fail
  go_ret
  exact ⟨ret_bool hE.out, hb1⟩
set_option maxRecDepth 100000 in
theorem ones64_anyV (x : Nat) (hx : x ≤ 1024) (w : World) : Calls Tryz.prog 223 #[.int .u64 (x : Int)] w fun e w' => ∃ r : Int, e = .returned (.int .i64 r) ∧ w' = w ∧ (r != 1) = !isPow2 x := by
  go_enter Tryz.func223, Tryz.ntmps223
  go_wp2_with fail
  go_ret
  refine ⟨_, rfl, rfl, ?_⟩
  clear w
  revert x
  decide +kernel
theorem ones_anyV (x : Nat) (hx : x ≤ 1024) (w : World) : Calls Tryz.prog 188 #[.int .u64 (x : Int)] w fun e w' => ∃ r : Int, e = .returned (.int .i64 r) ∧ w' = w ∧ (r != 1) = !isPow2 x := by
  have H := Lib.hid (ones64_anyV x hx w)
  go_enter Tryz.func188, Tryz.ntmps188
  go_wp2_with fail
  refine H.out.mono ?_
  rintro e w1 ⟨r, rfl, rfl, hr⟩
  go_wp2_with fail
  go_ret
  exact ⟨r, rfl, rfl, hr⟩


end Go.Proofs.YtpabnbhbcphfiaaGreat
namespace Go.Proofs.YtpabnbhbcphfiaaGreat
open Go Go.Proofs Go.RowKit Go.Pol Go.Shelf

theorem check1_enters : ∀ args w, (callFunc 190 args).run Tryz.prog w = .ok (.enter 190 args) w := enters_of Tryz.func190 (by kernel_rfl) rfl
theorem checkSpace_any (pages : Int) (A : Option Addr) (n cap : Nat) (w : World) (hs : spaceB pages = false) :
    Calls Tryz.prog 135 #[.int .i64 pages, .slice A n cap] w fun e w' => e = .returned (.int .i64 2) ∧ Below w.heap.size w w' := by
  have hb0 := (Below.refl w.heap.size w).alloc (Nat.le_refl _) (.cells #[.int .i64 pages] 3)
  have k0 := Blk.new w 3 #[.int .i64 pages]
  have c0 := k0.cell
  by_cases h1 : pages < 1
  · have h1' : decide (pages < 1) = true := by simpa using h1
    clear h1 hs
    go_enter Tryz.func135, Tryz.ntmps135
    go_wp2_with fail
    go_ret
    exact ⟨rfl, hb0⟩
  · have h1' : decide (pages < 1) = false := by simpa using h1
    by_cases h2 : 1024 < pages
    · have h2' : decide (1024 < pages) = true := by simpa using h2
      clear h1 h2 hs
      go_enter Tryz.func135, Tryz.ntmps135
      go_wp2_with fail
      go_ret
      exact ⟨rfl, hb0⟩
    · have h2' : decide (1024 < pages) = false := by simpa using h2
      obtain ⟨x, rfl⟩ := Int.eq_ofNat_of_zero_le (show 0 ≤ pages by omega)
      have hx : x ≤ 1024 := by omega
      have hp : Hid (isPow2 x = false) := Lib.hid (by rw [← isPow2_space x hx]; exact hs)
      have HO := Lib.hid (fun W => ones_anyV x hx W)
      rw [hp.out] at HO
      clear h1 h2 hs
      go_enter Tryz.func135, Tryz.ntmps135
      go_wp2_with fail
      refine (HO.out _).mono ?_
      rintro e w1 ⟨r, rfl, hw1, hr⟩
      subst hw1
      have hr' : (r != 1) = true := hr
      go_wp2_with fail
      go_ret
      exact ⟨rfl, hb0⟩
set_option maxRecDepth 100000 in
set_option maxHeartbeats 1600000 in
theorem checkIn_any (pages : Int) (A : Option Addr) (n cap : Nat) (bs : List B3) (w : World) (hn : bs.length = n) (hm : n ≤ maxLen) (hr : RT w w.heap.size A bs) (hs : spaceB pages = true) :
    Calls Tryz.prog 135 #[.int .i64 pages, .slice A n cap] w fun e w' => e = .returned (.int .i64 (chkB pages bs)) ∧ Below w.heap.size w w' := by
  unfold maxLen at hm
  have hb0 := (Below.refl w.heap.size w).alloc (Nat.le_refl _) (.cells #[.int .i64 pages] 3)
  have k0 := Blk.new w 3 #[.int .i64 pages]
  have c0 := k0.cell
  have hpb := spaceB_bound hs
  have hE := Lib.hid (show chkB pages bs = if 64 < n then 3 else if bs.any (fun b => !insB pages b.1 b.2.1) = true then 7 else if clash bs = true then 8 else 0 from by unfold chkB; rw [if_neg (by simp [hs]), hn])
  generalize chkB pages bs = R at *
  obtain ⟨x, rfl⟩ := Int.eq_ofNat_of_zero_le (show 0 ≤ pages by omega)
  have hx : x ≤ 1024 := by omega
  have hp : Hid (isPow2 x = true) := Lib.hid (by rw [← isPow2_space x hx]; exact hs)
  have HO := Lib.hid (fun W => ones_anyV x hx W)
  rw [hp.out] at HO
  have h1' : decide ((x : Int) < 1) = false := by simp; omega
  have h2' : decide ((1024 : Int) < (x : Int)) = false := by simp; omega
  have hr0 := hr.on hb0
  have HC := Lib.hid (containsT_any (fun b => !insB (x : Int) b.1 b.2.1) 190 #[.pointer (some ⟨w.heap.size, 0, none⟩)] A n cap bs _ hn (by unfold maxLen; omega) hr0 check1_enters (fun b hb W hW => check1_any w.heap.size x b W (by omega) (k0.call hW)))
  have hn' := Lib.hid hn
  clear hs hn hr
  by_cases h64 : 64 < n
  · have h64' : decide ((64 : Int) < (n : Int)) = true := by simp; omega
    have hR : Hid (R = 3) := Lib.hid (by rw [hE.out, if_pos h64])
    clear hE h64 HC
    go_enter Tryz.func135, Tryz.ntmps135
    go_wp2_with fail
    refine (HO.out _).mono ?_
    rintro e w1 ⟨r, rfl, hw1, hr⟩
    subst hw1
    have hr' : (r != 1) = false := hr
    go_wp2_with fail
    go_ret
    exact ⟨ret_int hR.out.symm, hb0⟩
  · have h64' : decide ((64 : Int) < (n : Int)) = false := by simp; omega
    have hE2 : Hid (R = if bs.any (fun b => !insB (x : Int) b.1 b.2.1) = true then 7 else if clash bs = true then 8 else 0) := Lib.hid (by rw [hE.out, if_neg h64])
    clear hE
    cases hany : bs.any (fun b => !insB (x : Int) b.1 b.2.1) with
    | true =>
      rw [hany] at HC
      have hR : Hid (R = 7) := Lib.hid (by rw [hE2.out, if_pos hany])
      clear hE2 hany
      go_enter Tryz.func135, Tryz.ntmps135
      go_wp2_with fail
      refine (HO.out _).mono ?_
      rintro e w1 ⟨r, rfl, hw1, hr⟩
      subst hw1
      have hr' : (r != 1) = false := hr
      go_wp2_with fail
      refine HC.out.mono ?_
      rintro e w2 ⟨rfl, hb2⟩
      go_wp2_with fail
      go_ret
      exact ⟨ret_int hR.out.symm, hb0.trans (hb2.mono hb0.size)⟩
    | false =>
      rw [hany] at HC
      have hR : Hid (R = if clash bs = true then 8 else 0) := Lib.hid (by rw [hE2.out, if_neg (by simp [hany])])
      have hins : Hid (∀ b ∈ bs, okPl b) := Lib.hid (fun b hb => ins_okPl (pages := (x : Int)) (by omega) (by have := any_false_iff.1 hany b hb; simpa using this))
      clear hE2 hany
      go_enter Tryz.func135, Tryz.ntmps135
      go_wp2_with fail
      refine (HO.out _).mono ?_
      rintro e w1 ⟨r, rfl, hw1, hr⟩
      subst hw1
      have hr' : (r != 1) = false := hr
      go_wp2_with fail
      refine HC.out.mono ?_
      rintro e w2 ⟨rfl, hb2⟩
      have B2 := hb0.trans (hb2.mono hb0.size)
      have r2 := hr0.on hb2
      clear HC HO hr0 k0 c0 hb0 hb2
      have HV := Lib.hid (values_any A n cap w2)
      go_wp2_with fail
      refine HV.out.mono ?_
      rintro e w3 ⟨rfl, rfl⟩
      have hbv := (Below.refl w2.heap.size w2).alloc (Nat.le_refl _) (.cells #[.slice A n cap] 56)
      have kV := Blk.new w2 56 #[.slice A n cap]
      have rV := r2.on hbv
      have B3 := B2.trans (hbv.mono B2.size)
      have HS := Lib.hid (sortedT_any 227 #[.pointer (some ⟨w2.heap.size, 0, none⟩)] (fun k => k < w2.heap.size + 1) bs _ (by have := hn'.out; omega) (values1_seq A n cap bs w2.heap.size _ _ (by omega) kV hn'.out (by unfold maxLen; omega) rV (fun hne b o e => by
        obtain ⟨b', o', e', hb, _⟩ := r2.at_ (k := 0) (List.length_pos_iff.2 hne)
        rw [e] at e'; cases e'; omega)) values_enters (fun k hk => by simp; omega))
      clear HV kV rV hbv r2
      go_wp2_with fail
      refine HS.out.mono ?_
      rintro e w4 ⟨us, A4, c4, hp4, hs4, rfl, rt4, hb4⟩
      have B4 := B3.trans (hb4.mono B3.size)
      obtain ⟨m, hm4⟩ : ∃ m, us.length = m := ⟨_, rfl⟩
      have hm64 : m ≤ 64 := by have := hp4.length_eq; have := hn'.out; omega
      rw [hm4]
      have hm4' := Lib.hid hm4
      have hR2 : Hid (R = if adjB us = true then 8 else 0) := Lib.hid (by rw [hR.out, adjB_clash hs4, clash_perm hp4])
      have hok : Hid (∀ i, i < m → okPl (us.getD i b0)) := Lib.hid (fun i hi => hins.out _ (hp4.mem_iff.1 (getD_memB (by omega))))
      clear HS hp4 hs4 hm4 hR hins B2 B3 hb4
      go_wp2_with fail
      go_loopw [6] (fun i wr => ∃ k : Nat, 1 ≤ k ∧ (k ≤ m ∨ k = 1) ∧ i = .int .i64 k ∧ Below w4.heap.size w4 wr ∧ Hid (∀ i, i + 1 < k → ¬ (us.getD (i + 1) b0).1 < (us.getD i b0).1 + pw (us.getD i b0).2.1)) (fun i _ => m - (intOf i).toNat)
      case atStart => exact ⟨1, by omega, .inr rfl, rfl, Below.refl _ _, Lib.hid (by omega)⟩
      case round =>
        obtain ⟨k, hk1, hk, rfl, hB, hL⟩ := hrel
        by_cases hlt : k < m
        · have hlt' : decide ((k : Int) < (m : Int)) = true := by simpa using hlt
          have hrr := (rt4.below hB).more hB.size
          obtain ⟨b, o, rfl, _, c1, _, _⟩ := hrr.at_ (k := k) (by have := hm4'.out; omega)
          obtain ⟨b', o', e', _, d1, d2, d3⟩ := hrr.at_ (k := k - 1) (by have := hm4'.out; omega)
          cases e'
          have ok1 := hok.out (k - 1) (by omega)
          have HEn := Lib.hid (fun W => end_anyV (us.getD (k - 1) b0) W ok1)
          have hkk : k - 1 + 1 = k := by omega
          have hbd := ok1
          have hok2 := hok.out k hlt
          obtain ⟨px, hpx⟩ : ∃ px, (us.getD k b0).1 = px := ⟨_, rfl⟩
          obtain ⟨y, hy⟩ : ∃ y, us.getD (k - 1) b0 = y := ⟨_, rfl⟩
          rw [hpx] at c1
          rw [hy] at d1 d2 d3 HEn hbd
          have hpx' := Lib.hid hpx
          have hy' := Lib.hid hy
          obtain ⟨ya, yo, yc⟩ := y
          simp only at d1 d2 d3 HEn
          obtain ⟨hya, hyo⟩ := hbd
          simp only at hya hyo
          have hpw1 := pw_pos yo
          have hpw2 := pw_le hyo.2
          have hpxb : -100000 ≤ px ∧ px ≤ 100000 := by rw [← hpx]; exact hok2.1
          clear hpx hy ok1 hok2
          obtain ⟨q, hq⟩ : ∃ q, pw yo = q := ⟨_, rfl⟩
          rw [hq] at HEn hpw1 hpw2
          have hq' := Lib.hid hq
          clear hq
          have q1 := fun z : Ext wr => z.cell c1
          have q2 := fun z : Ext wr => z.cell d1
          have q3 := fun z : Ext wr => z.cell d2
          have q4 := fun z : Ext wr => z.cell d3
          have G := Lib.hid (fun z : Ext wr => Ext.call (x := z) (HEn.out z.w))
          by_cases hcmp : px < ya + q
          · have hcmp' : decide (px < ya + q) = true := by simpa using hcmp
            have hRR : Hid (R = 8) := Lib.hid (by rw [hR2.out, if_pos (adjB_iff.2 ⟨k - 1, by have := hm4'.out; omega, by rw [hkk, hpx'.out, hy'.out]; simp only; rw [hq'.out]; exact hcmp⟩)])
            clear hcmp hR2 hL
            go_upto_region 11 with fail
            refine region_ext (by kernel_rfl) (by kernel_rfl) ?_
            repeat (go_big_quiet_step ((go_at_call 195; exact G.out _)))
            refine wpQuiet_nil ?_
            rintro w5 ⟨⟨_, hw5⟩, rfl⟩
            go_wp2_with fail
            go_ret
            exact ⟨ret_int hRR.out.symm, (B4.trans (hB.mono B4.size)).trans ((hw5.mono hB.size).mono B4.size)⟩
          · have hcmp' : decide (px < ya + q) = false := by simpa using hcmp
            have hL2 : Hid (∀ i, i + 1 < k + 1 → ¬ (us.getD (i + 1) b0).1 < (us.getD i b0).1 + pw (us.getD i b0).2.1) := Lib.hid (fun i hi => by
              by_cases h : i + 1 = k
              · obtain rfl : i = k - 1 := by omega
                rw [hkk, hpx'.out, hy'.out]; simp only; rw [hq'.out]; exact hcmp
              · exact hL.out i (by omega))
            clear hcmp hL
            go_upto_region 11 with fail
            refine region_ext (by kernel_rfl) (by kernel_rfl) ?_
            repeat (go_big_quiet_step ((go_at_call 195; exact G.out _)))
            refine wpQuiet_nil ?_
            rintro w5 ⟨⟨_, hw5⟩, rfl⟩
            go_wp2_with fail
            go_roundw
            case rel => exact ⟨k + 1, by omega, .inl (by omega), by go_num, hB.trans (hw5.mono hB.size), hL2⟩
            case measure => simp [intOf]; omega
        · have hlt' : decide ((k : Int) < (m : Int)) = false := by simp; omega
          have hRR : Hid (R = 0) := Lib.hid (by
            rw [hR2.out, if_neg]
            intro hc
            obtain ⟨i, hi, hlt2⟩ := adjB_iff.1 hc
            exact hL.out i (by have := hm4'.out; omega) hlt2)
          clear hR2 hL
          go_wp2_with fail
          go_ret
          exact ⟨ret_int hRR.out.symm, B4.trans (hB.mono B4.size)⟩
theorem check_any (pages : Int) (A : Option Addr) (n cap : Nat) (bs : List B3) (w : World) (hn : bs.length = n) (hm : n ≤ maxLen) (hr : RT w w.heap.size A bs) :
    Calls Tryz.prog 135 #[.int .i64 pages, .slice A n cap] w fun e w' => e = .returned (.int .i64 (chkB pages bs)) ∧ Below w.heap.size w w' := by
  cases hs : spaceB pages with
  | true => exact checkIn_any pages A n cap bs w hn hm hr hs
  | false =>
    have := checkSpace_any pages A n cap w hs
    rw [show chkB pages bs = 2 by unfold chkB; rw [if_pos hs]]
    exact this
end Go.Proofs.YtpabnbhbcphfiaaGreat
namespace Go.Proofs.YtpabnbhbcphfiaaGreat
open Go Go.Proofs Go.RowKit Go.Pol Go.Shelf

set_option maxHeartbeats 800000 in
theorem poss1_any (B : Nat) (x y : B3) (w : World) (hx : okPl x) (hy : okPl y) (kB : Blk w B 65 #[.int .i64 y.1, .int .i64 y.2.1, .bool y.2.2]) :
    Calls Tryz.prog 200 #[bV x, .pointer (some ⟨B, 0, none⟩)] w fun e w' => e = .returned (.bool (overB x y)) ∧ Below w.heap.size w w' := by
  have hE := Lib.hid (show overB x y = (decide (x.1 < y.1 + pw y.2.1) && decide (y.1 < x.1 + pw x.2.1)) from rfl)
  generalize overB x y = R at *
  have HX := Lib.hid (fun W => end_anyV x W hx)
  have HY := Lib.hid (fun W => end_anyV y W hy)
  obtain ⟨a, o, c⟩ := x
  obtain ⟨a2, o2, c2⟩ := y
  simp only at hE HX HY kB ⊢
  generalize a + pw o = ea at *
  generalize a2 + pw o2 = eb at *
  have hb0 := (Below.refl w.heap.size w).alloc (Nat.le_refl _) (.cells #[.int .i64 a, .int .i64 o, .bool c] 65)
  have k0 := Blk.new w 65 #[.int .i64 a, .int .i64 o, .bool c]
  have k1 := kB.alloc (.cells #[.int .i64 a, .int .i64 o, .bool c] 65)
  have q0 := fun z : Ext (w.alloc (.cells #[.int .i64 a, .int .i64 o, .bool c] 65)) => (z.blk k0).cell
  have q1 := fun z : Ext (w.alloc (.cells #[.int .i64 a, .int .i64 o, .bool c] 65)) => (z.blk k1).cell
  have G := Lib.hid (fun z : Ext (w.alloc (.cells #[.int .i64 a, .int .i64 o, .bool c] 65)) => Ext.call (x := z) (HX.out z.w))
  have G2 := Lib.hid (fun z : Ext (w.alloc (.cells #[.int .i64 a, .int .i64 o, .bool c] 65)) => Ext.call (x := z) (HY.out z.w))
  clear HX HY hx hy
  by_cases h1 : a < eb
  · have h1' : decide (a < eb) = true := by simpa using h1
    rw [h1'] at hE
    clear h1
    go_enter Tryz.func200, Tryz.ntmps200
    go_upto_region 1 with fail
    refine region_ext (by kernel_rfl) (by kernel_rfl) ?_
    iterate 4 go_big_quiet_step ((go_at_call 195; exact G2.out _))
    repeat (go_big_quiet_step ((go_at_call 195; exact G.out _)))
    refine wpQuiet_nil ?_
    rintro w1 ⟨⟨_, hw1⟩, rfl⟩
    go_wp2_with fail
    go_ret
    exact ⟨ret_bool (by rw [hE.out]; simp), hb0.trans (hw1.mono hb0.size)⟩
  · have h1' : decide (a < eb) = false := by simpa using h1
    rw [h1'] at hE
    clear h1
    go_enter Tryz.func200, Tryz.ntmps200
    go_upto_region 1 with fail
    refine region_ext (by kernel_rfl) (by kernel_rfl) ?_
    iterate 4 go_big_quiet_step ((go_at_call 195; exact G2.out _))
    repeat (go_big_quiet_step ((go_at_call 195; exact G.out _)))
    refine wpQuiet_nil ?_
    rintro w1 ⟨⟨_, hw1⟩, rfl⟩
    go_wp2_with fail
    go_ret
    exact ⟨ret_bool (by rw [hE.out]; simp), hb0.trans (hw1.mono hb0.size)⟩
theorem poss1_enters : ∀ args w, (callFunc 200 args).run Tryz.prog w = .ok (.enter 200 args) w := enters_of Tryz.func200 (by kernel_rfl) rfl
set_option maxRecDepth 100000 in
set_option maxHeartbeats 1600000 in
theorem possible_any (pages : Int) (A : Option Addr) (n cap : Nat) (bs : List B3) (m : Int × Int) (w : World) (hn : bs.length = n) (hm : n ≤ maxLen) (hr : RT w w.heap.size A bs) (hp : 0 ≤ pages ∧ pages ≤ 1024) (hall : ∀ b ∈ bs, okPl b) :
    Calls Tryz.prog 137 #[.int .i64 pages, .slice A n cap, .agg #[.int .i64 m.1, .int .i64 m.2]] w fun e w' => e = .returned (.int .i64 (possB pages bs m)) ∧ Below w.heap.size w w' := by
  obtain ⟨mk, mt⟩ := m
  have hm' := hm
  unfold maxLen at hm
  have hb0 := (Below.refl w.heap.size w).alloc (Nat.le_refl _) (.cells #[.int .i64 mk, .int .i64 mt] 152)
  have k0 := Blk.new w 152 #[.int .i64 mk, .int .i64 mt]
  have c0 := k0.cell
  have hE := Lib.hid (show possB pages bs (mk, mt) = if mk < 0 ∨ (n : Int) ≤ mk then 4 else if (bs.getD mk.toNat b0).2.2 = true then 9 else if insB pages mt (bs.getD mk.toNat b0).2.1 = false then 2 else if bs.any (fun c => overB c (mt, (bs.getD mk.toNat b0).2.1, false)) = true then 8 else 0 from by unfold possB; rw [hn])
  generalize possB pages bs (mk, mt) = R at *
  simp only
  by_cases h1 : mk < 0
  · have h1' : decide (mk < 0) = true := by simpa using h1
    have hR : Hid (R = 4) := Lib.hid (by rw [hE.out, if_pos (.inl h1)])
    clear hE h1 hn hall
    go_enter Tryz.func137, Tryz.ntmps137
    go_wp2_with fail
    go_ret
    exact ⟨ret_int hR.out.symm, hb0⟩
  · have h1' : decide (mk < 0) = false := by simpa using h1
    by_cases h2 : (n : Int) ≤ mk
    · have h2' : decide ((n : Int) ≤ mk) = true := by simpa using h2
      have hR : Hid (R = 4) := Lib.hid (by rw [hE.out, if_pos (.inr h2)])
      clear hE h1 h2 hn hall
      go_enter Tryz.func137, Tryz.ntmps137
      go_wp2_with fail
      go_ret
      exact ⟨ret_int hR.out.symm, hb0⟩
    · obtain ⟨k, rfl⟩ := Int.eq_ofNat_of_zero_le (show 0 ≤ mk by omega)
      have hkn : k < n := by omega
      have hk' : decide ((n : Int) ≤ (k : Int)) = false := by simp; omega
      have hE2 : Hid (R = if (bs.getD k b0).2.2 = true then 9 else if insB pages mt (bs.getD k b0).2.1 = false then 2 else if bs.any (fun c => overB c (mt, (bs.getD k b0).2.1, false)) = true then 8 else 0) := Lib.hid (by
        rw [hE.out, if_neg (by omega)]; rfl)
      obtain ⟨b, o, rfl, hbl, c1, c2, c3⟩ := (hr.on hb0).at_ (k := k) (by omega)
      have hx := hall _ (getD_memB (bs := bs) (k := k) (by omega))
      have hall' := Lib.hid hall
      clear hE h1 h2 hall
      generalize bs.getD k b0 = x at *
      obtain ⟨xa, xo, xc⟩ := x
      simp only at c1 c2 c3 hE2
      cases xc with
      | true =>
        have hR : Hid (R = 9) := Lib.hid (by rw [hE2.out, if_pos rfl])
        clear hE2 hn
        have hb1 := hb0.alloc hb0.size (.cells #[.int .i64 xa, .int .i64 xo, .bool true] 65)
        go_enter Tryz.func137, Tryz.ntmps137
        go_wp2_with fail
        go_ret
        exact ⟨ret_int hR.out.symm, hb1⟩
      | false =>
        have hE3 : Hid (R = if insB pages mt xo = false then 2 else if bs.any (fun c => overB c (mt, xo, false)) = true then 8 else 0) := Lib.hid (by rw [hE2.out, if_neg (by simp)])
        clear hE2
        have hb1 := hb0.alloc hb0.size (.cells #[.int .i64 xa, .int .i64 xo, .bool false] 65)
        have HW := Lib.hid (fun W => wrong_anyV pages mt xo W (by omega))
        cases hI : insB pages mt xo with
        | false =>
          rw [hI] at HW
          have hR : Hid (R = 2) := Lib.hid (by rw [hE3.out, if_pos hI])
          clear hE3 hn hI
          have k0' := k0.alloc (.cells #[.int .i64 xa, .int .i64 xo, .bool false] 65)
          go_enter Tryz.func137, Tryz.ntmps137
          go_wp2_with (go_at_call 191; refine (HW.out _).mono ?_; rintro e w1 ⟨rfl, hw1⟩; subst hw1)
          go_ret
          exact ⟨ret_int hR.out.symm, hb1⟩
        | true =>
          rw [hI] at HW
          have hy : okPl (mt, xo, false) := by
            have h' := insB_iff.1 hI
            have := pw_pos xo
            exact ⟨⟨by simp only; omega, by simp only; omega⟩, h'.1.1, h'.1.2⟩
          have hR : Hid (R = if bs.any (fun c => overB c (mt, xo, false)) = true then 8 else 0) := Lib.hid (by rw [hE3.out, if_neg (by simp [hI])])
          clear hE3 hI
          obtain ⟨WB, hWB⟩ : ∃ WB, (w.alloc (.cells #[.int .i64 k, .int .i64 mt] 152)).alloc (.cells #[.int .i64 mt, .int .i64 xo, .bool false] 65) = WB := ⟨_, rfl⟩
          have kS := Blk.new (w.alloc (.cells #[.int .i64 k, .int .i64 mt] 152)) 65 #[.int .i64 mt, .int .i64 xo, .bool false]
          rw [World.size_alloc] at kS
          have hb2 := hb0.alloc hb0.size (.cells #[.int .i64 mt, .int .i64 xo, .bool false] 65)
          have hr2 := (hr.below hb2).more hb2.size
          rw [hWB] at kS hb2 hr2
          have HC := Lib.hid (containsT_any (fun c => overB c (mt, xo, false)) 200 #[.pointer (some ⟨w.heap.size + 1, 0, none⟩)] (some ⟨b, o, none⟩) n cap bs WB hn hm' hr2 poss1_enters (fun c hc W hW => poss1_any _ c (mt, xo, false) W (hall'.out c hc) hy (kS.call hW)))
          generalize bs.any (fun c => overB c (mt, xo, false)) = S at *
          have hWB' := Lib.hid hWB
          clear kS hr2 hn hWB
          cases S with
          | true =>
            have hRR : Hid (R = 8) := Lib.hid (by rw [hR.out, if_pos rfl])
            clear hR
            go_enter Tryz.func137, Tryz.ntmps137
            go_wp2_with (first | (go_at_call 191; refine (HW.out _).mono ?_; rintro e w1 ⟨rfl, hw1⟩; subst hw1))
            rw [hWB'.out]
            refine HC.out.mono ?_
            rintro e w3 ⟨rfl, hb3⟩
            go_wp2_with fail
            go_ret
            exact ⟨ret_int hRR.out.symm, hb2.trans (hb3.mono hb2.size)⟩
          | false =>
            have hRR : Hid (R = 0) := Lib.hid (by rw [hR.out, if_neg (by simp)])
            clear hR
            go_enter Tryz.func137, Tryz.ntmps137
            go_wp2_with (first | (go_at_call 191; refine (HW.out _).mono ?_; rintro e w1 ⟨rfl, hw1⟩; subst hw1))
            rw [hWB'.out]
            refine HC.out.mono ?_
            rintro e w3 ⟨rfl, hb3⟩
            go_wp2_with fail
            go_ret
            exact ⟨ret_int hRR.out.symm, hb2.trans (hb3.mono hb2.size)⟩
end Go.Proofs.YtpabnbhbcphfiaaGreat
namespace Go.Proofs.YtpabnbhbcphfiaaGreat
open Go Go.Proofs Go.RowKit Go.Pol Go.Shelf

set_option maxRecDepth 100000 in
set_option maxHeartbeats 1600000 in
theorem refPossible_any (pages : Int) (A : Option Addr) (n cap : Nat) (bs : List B3) (m : Int × Int) (w : World) (hn : bs.length = n) (hm : n ≤ maxLen) (hr : RT w w.heap.size A bs) (hp : 0 ≤ pages ∧ pages ≤ 1024) (hall : ∀ b ∈ bs, okPl b) :
    Calls Tryz.prog 84 #[.int .i64 pages, .slice A n cap, .agg #[.int .i64 m.1, .int .i64 m.2]] w fun e w' => e = .returned (.int .i64 (possB pages bs m)) ∧ Below w.heap.size w w' := by
  obtain ⟨mk, mt⟩ := m
  have hm' := hm
  unfold maxLen at hm
  have hb0 := (Below.refl w.heap.size w).alloc (Nat.le_refl _) (.cells #[.int .i64 mk, .int .i64 mt] 152)
  have k0 := Blk.new w 152 #[.int .i64 mk, .int .i64 mt]
  have c0 := k0.cell
  have hE := Lib.hid (show possB pages bs (mk, mt) = if mk < 0 ∨ (n : Int) ≤ mk then 4 else if (bs.getD mk.toNat b0).2.2 = true then 9 else if insB pages mt (bs.getD mk.toNat b0).2.1 = false then 2 else if bs.any (fun c => overB c (mt, (bs.getD mk.toNat b0).2.1, false)) = true then 8 else 0 from by unfold possB; rw [hn])
  generalize possB pages bs (mk, mt) = R at *
  simp only
  by_cases h1 : mk < 0
  · have h1' : decide (mk < 0) = true := by simpa using h1
    have hR : Hid (R = 4) := Lib.hid (by rw [hE.out, if_pos (.inl h1)])
    clear hE h1 hn hall
    go_enter Tryz.func84, Tryz.ntmps84
    go_wp2_with fail
    go_ret
    exact ⟨ret_int hR.out.symm, hb0⟩
  · have h1' : decide (mk < 0) = false := by simpa using h1
    by_cases h2 : (n : Int) ≤ mk
    · have h2' : decide ((n : Int) ≤ mk) = true := by simpa using h2
      have hR : Hid (R = 4) := Lib.hid (by rw [hE.out, if_pos (.inr h2)])
      clear hE h1 h2 hn hall
      go_enter Tryz.func84, Tryz.ntmps84
      go_wp2_with fail
      go_ret
      exact ⟨ret_int hR.out.symm, hb0⟩
    · obtain ⟨k, rfl⟩ := Int.eq_ofNat_of_zero_le (show 0 ≤ mk by omega)
      have hkn : k < n := by omega
      have hk' : decide ((n : Int) ≤ (k : Int)) = false := by simp; omega
      have hE2 : Hid (R = if (bs.getD k b0).2.2 = true then 9 else if insB pages mt (bs.getD k b0).2.1 = false then 2 else if bs.any (fun c => overB c (mt, (bs.getD k b0).2.1, false)) = true then 8 else 0) := Lib.hid (by
        rw [hE.out, if_neg (by omega)]; rfl)
      obtain ⟨b, o, rfl, hbl, c1, c2, c3⟩ := (hr.on hb0).at_ (k := k) (by omega)
      have hx := hall _ (getD_memB (bs := bs) (k := k) (by omega))
      have hall' := Lib.hid hall
      clear hE h1 h2 hall
      generalize bs.getD k b0 = x at *
      obtain ⟨xa, xo, xc⟩ := x
      simp only at c1 c2 c3 hE2
      cases xc with
      | true =>
        have hR : Hid (R = 9) := Lib.hid (by rw [hE2.out, if_pos rfl])
        clear hE2 hn
        have hb1 := hb0.alloc hb0.size (.cells #[.int .i64 xa, .int .i64 xo, .bool true] 65)
        go_enter Tryz.func84, Tryz.ntmps84
        go_wp2_with fail
        go_ret
        exact ⟨ret_int hR.out.symm, hb1⟩
      | false =>
        have hE3 : Hid (R = if insB pages mt xo = false then 2 else if bs.any (fun c => overB c (mt, xo, false)) = true then 8 else 0) := Lib.hid (by rw [hE2.out, if_neg (by simp)])
        clear hE2
        have hb1 := hb0.alloc hb0.size (.cells #[.int .i64 xa, .int .i64 xo, .bool false] 65)
        have HW := Lib.hid (fun W => refIns_any pages mt xo W (by omega))
        cases hI : insB pages mt xo with
        | false =>
          rw [hI] at HW
          have hR : Hid (R = 2) := Lib.hid (by rw [hE3.out, if_pos hI])
          clear hE3 hn hI
          have k0' := k0.alloc (.cells #[.int .i64 xa, .int .i64 xo, .bool false] 65)
          go_enter Tryz.func84, Tryz.ntmps84
          go_wp2_with (go_at_call 73; refine (HW.out _).mono ?_; rintro e w1 ⟨rfl, hw1⟩; subst hw1)
          go_ret
          exact ⟨ret_int hR.out.symm, hb1⟩
        | true =>
          rw [hI] at HW
          have hy : okPl (mt, xo, false) := by
            have h' := insB_iff.1 hI
            have := pw_pos xo
            exact ⟨⟨by simp only; omega, by simp only; omega⟩, h'.1.1, h'.1.2⟩
          have hR : Hid (R = if bs.any (fun c => overB c (mt, xo, false)) = true then 8 else 0) := Lib.hid (by rw [hE3.out, if_neg (by simp [hI])])
          clear hE3 hI
          have k1 := k0.alloc (.cells #[.int .i64 xa, .int .i64 xo, .bool false] 65)
          have k2 := Blk.new (w.alloc (.cells #[.int .i64 k, .int .i64 mt] 152)) 65 #[.int .i64 xa, .int .i64 xo, .bool false]
          rw [World.size_alloc] at k2
          have hn' := Lib.hid hn
          have hrL := hr
          clear hn
          go_enter Tryz.func84, Tryz.ntmps84
          go_upto_region 8 with (first | (go_at_call 73; refine (HW.out _).mono ?_; rintro e w1 ⟨rfl, hw1⟩; subst hw1))
          clear c0 c1 c2 c3 hbl
          generalize (w.alloc (.cells #[.int .i64 k, .int .i64 mt] 152)).alloc (.cells #[.int .i64 xa, .int .i64 xo, .bool false] 65) = WB at *
          go_wp2_with fail
          go_loopw [8] (fun i wr => ∃ j : Nat, j ≤ n ∧ i = .int .i64 j ∧ Below w.heap.size w wr ∧ Blk wr w.heap.size 152 #[.int .i64 k, .int .i64 mt] ∧ Blk wr (w.heap.size + 1) 65 #[.int .i64 xa, .int .i64 xo, .bool false] ∧ Hid (∀ i, i < j → overB (bs.getD i b0) (mt, xo, false) = false)) (fun i _ => n - (intOf i).toNat)
          case atStart => exact ⟨0, by omega, rfl, hb1, k1, k2, Lib.hid (by omega)⟩
          case round =>
            obtain ⟨j, hj, rfl, hB, kM, kX, hL⟩ := hrel
            by_cases hlt : j < n
            · have hlt' : decide ((j : Int) < (n : Int)) = true := by simpa using hlt
              obtain ⟨b', o', e', _, d1, d2, d3⟩ := ((hrL.below hB).more hB.size).at_ (k := j) (by have := hn'.out; omega)
              cases e'
              have HO := Lib.hid (fun W => over_any (bs.getD j b0) (mt, xo, false) W (hall'.out _ (getD_memB (by have := hn'.out; omega))) hy)
              obtain ⟨I, hI⟩ : ∃ I, overB (bs.getD j b0) (mt, xo, false) = I := ⟨_, rfl⟩
              rw [hI] at HO
              have hI' := Lib.hid hI
              obtain ⟨y, hyy⟩ : ∃ y, bs.getD j b0 = y := ⟨_, rfl⟩
              rw [hyy] at d1 d2 d3 HO
              clear hI hyy
              obtain ⟨ya, yo, yc⟩ := y
              simp only at d1 d2 d3 HO
              have q1 := fun z : Ext wr => z.cell d1
              have q2 := fun z : Ext wr => z.cell d2
              have q3 := fun z : Ext wr => z.cell d3
              have q4 := fun z : Ext wr => (z.blk kM).cell
              have q5 := fun z : Ext wr => (z.blk kX).cell
              have G := Lib.hid (fun z : Ext wr => Ext.call (x := z) (HO.out z.w))
              cases I with
              | true =>
                have hRR : Hid (R = 8) := Lib.hid (by rw [hR.out, if_pos (List.any_eq_true.2 ⟨_, getD_memB (by have := hn'.out; omega), hI'.out⟩)])
                clear hR hL
                go_upto_region 11 with fail
                refine region_ext (by kernel_rfl) (by kernel_rfl) ?_
                repeat (go_big_quiet_step ((go_at_call 74; exact G.out _)))
                refine wpQuiet_nil ?_
                rintro w5 ⟨⟨_, hw5⟩, rfl⟩
                go_wp2_with fail
                go_ret
                exact ⟨ret_int hRR.out.symm, hB.trans (hw5.mono hB.size)⟩
              | false =>
                have hL2 : Hid (∀ i, i < j + 1 → overB (bs.getD i b0) (mt, xo, false) = false) := Lib.hid (fun i hi => by
                  by_cases h : i = j
                  · subst h; exact hI'.out
                  · exact hL.out i (by omega))
                clear hL
                go_upto_region 11 with fail
                refine region_ext (by kernel_rfl) (by kernel_rfl) ?_
                repeat (go_big_quiet_step ((go_at_call 74; exact G.out _)))
                refine wpQuiet_nil ?_
                rintro w5 ⟨⟨_, hw5⟩, rfl⟩
                go_wp2_with fail
                go_roundw
                case rel => exact ⟨j + 1, by omega, by go_num, hB.trans (hw5.mono hB.size), kM.call hw5, kX.call hw5, hL2⟩
                case measure => simp [intOf]; omega
            · obtain rfl : j = n := by omega
              have hlt' : decide ((j : Int) < (j : Int)) = false := by simp
              have hRR : Hid (R = 0) := Lib.hid (by
                rw [hR.out, if_neg]
                rw [Bool.not_eq_true, any_false_iff, all_getD (p := fun c => overB c (mt, xo, false) = false)]
                intro i hi
                exact hL.out i (by have := hn'.out; omega))
              clear hR hL
              go_wp2_with fail
              go_ret
              exact ⟨ret_int hRR.out.symm, hB⟩
end Go.Proofs.YtpabnbhbcphfiaaGreat
namespace Go.Pol
open Go Go.RowKit
theorem tCells_set : ∀ (bs : List B3) (k : Nat) (y : Int), k < bs.length → (tCells bs).set (k * 3) (.int .i64 y) = tCells (bs.set k (y, (bs.getD k b0).2))
  | [], k, y, h => by simp at h
  | x :: r, 0, y, _ => by simp [tCells]
  | x :: r, k + 1, y, h => by
    have ih := tCells_set r k y (by simpa using h)
    have e : tCells (x :: r) = .int .i64 x.1 :: .int .i64 x.2.1 :: .bool x.2.2 :: tCells r := by simp [tCells]
    rw [e, show (k + 1) * 3 = k * 3 + 1 + 1 + 1 by omega]
    simp only [List.set_cons_succ, ih]
    simp [tCells]
theorem RT.src {w : World} {A : Option Addr} {bs : List B3} (h : RT w w.heap.size A bs) : (A = none ∧ bs = []) ∨ ∃ ad, A = some ad ∧ ∀ (j : Nat) (u : Value), (tCells bs)[j]? = some u → w.cell? (ad.add j) = some u := by
  by_cases h0 : bs = []
  · subst h0
    cases A with
    | none => exact .inl ⟨rfl, rfl⟩
    | some ad => exact .inr ⟨ad, rfl, fun j u hu => by simp [tCells] at hu⟩
  · obtain ⟨b, o, rfl, _⟩ := h.at_ (k := 0) (List.length_pos_iff.2 h0)
    refine .inr ⟨⟨b, o, none⟩, rfl, fun j u hu => ?_⟩
    have hl := tCells_len bs
    have hj : j < bs.length * 3 := by
      rw [← hl]; exact (List.getElem?_eq_some_iff.1 hu).1
    obtain ⟨k, hk⟩ : ∃ k, j = k * 3 ∨ j = k * 3 + 1 ∨ j = k * 3 + 2 := ⟨j / 3, by omega⟩
    obtain ⟨b', o', e, _, h1, h2, h3⟩ := h.at_ (k := k) (by omega)
    cases e
    have hat := tCells_at bs k (by omega)
    rw [Addr.add_lit]
    rcases hk with rfl | rfl | rfl
    · rw [hat.1] at hu; rw [← hu]; exact h1
    · rw [hat.2.1] at hu; rw [← hu]; exact h2
    · rw [hat.2.2] at hu; rw [← hu]; exact h3
end Go.Pol
namespace Go.Proofs.YtpabnbhbcphfiaaGreat
open Go Go.Proofs Go.RowKit Go.Pol Go.Shelf

theorem run_equalIn_slice_nil {P : Program} (w : World) (d : Nat) (t e : TypeId) (A : Option Addr) (n c : Nat) (h : P.underlying t = some (.slice e)) :
    (Op.equalIn (d + 1) t (.slice A n c) (.slice none 0 0)).run P w = .ok A.isNone w := by
  cases A <;> simp [Op.equalIn, run_underlying h]
theorem eql_nil (A : Option Addr) (n c : Nat) (w : World) : (binOp .eql 56 (.slice A n c) (.slice none 0 0)).run Tryz.prog w = .ok (.bool A.isNone) w := by
  simp only [binOp]
  simp [Op.equal, Op.maxDepth, run_equalIn_slice_nil w 9999 _ _ A n c Tryz.underlying56]
set_option maxRecDepth 100000 in
theorem clone_anyV (A : Option Addr) (n cap : Nat) (bs : List B3) (w : World) (hn : bs.length = n) (hm : n ≤ 1000) (hz : A = none → cap = 0) (hr : RT w w.heap.size A bs) :
    Calls Tryz.prog 87 #[.slice A n cap] w fun e w' => ∃ v, e = .returned v ∧ w'.ownsRow w.heap.size 65 3 v n (tCells bs) ∧ Below w.heap.size w w' := by
  obtain ⟨i0, hi, hz0, hz1, hz2⟩ := infoMv_parts
  have heq := eql_nil
  rcases hr.src with ⟨rfl, rfl⟩ | ⟨ad, rfl, hnews⟩
  · have hc := hz rfl
    subst hc
    subst hn
    go_enter Tryz.func87, Tryz.ntmps87
    go_wp2_with fail
    go_ret
    exact ⟨_, rfl, World.ownsRow_nil _ _ _ _, Below.refl _ _⟩
  · have hb1 := (Below.refl w.heap.size w).alloc (Nat.le_refl _) (.cells #[] 65)
    have hnews' : ∀ (j : Nat) (u : Value), (tCells bs)[j]? = some u → (w.alloc (.cells #[] 65)).cell? (ad.add j) = some u := fun j u hu => by rw [World.cell?_alloc_some _ _ _ (by rw [hnews j u hu]; rfl)]; exact hnews j u hu
    go_enter Tryz.func87, Tryz.ntmps87
    go_wp2_with (refine wpList_append_own _ rfl (.tmp 5) (.tmp 6) 56 rfl w.heap.size 65 i0 (.agg #[.int .i64 0, .int .i64 0, .bool false]) 3 24 Tryz.underlying56 hi hz0 hz1 hz2 rfl (by decide) _ 0 [] rfl (World.ownsRow_made w _ _ (Nat.le_refl _) (by unfold maxLen; omega) rfl) ad n cap (tCells bs) rfl (by rw [tCells_len, hn]) hnews' (tCells_one bs) (by unfold maxLen; omega) (by omega) (by simp) ?_; intro v' w3 hown' hgrow _)
    go_ret
    exact ⟨v', rfl, by simpa using hown', hb1.grown hgrow (by simp) (fun j hj => by cases hj; exact Nat.le_refl _)⟩

def AfterR (r : List B3 × Int) (w : World) (e : Ending) (w' : World) : Prop := ∃ (A : Option Addr) (cap : Nat), e = .returned (.tuple #[.slice A r.1.length cap, .int .i64 r.2]) ∧ RT w' w'.heap.size A r.1 ∧ Below w.heap.size w w'
theorem afterR_err {w w' : World} {c : Int} (hb : Below w.heap.size w w') : AfterR ([], c) w (.returned (.tuple #[.slice none 0 0, .int .i64 c])) w' := ⟨none, 0, rfl, RT.nil, hb⟩
set_option maxRecDepth 100000 in
set_option maxHeartbeats 1600000 in
theorem afterErr_any (pages : Int) (A M : Option Addr) (n cap mn mcap : Nat) (bs : List B3) (ms : List (Int × Int)) (w : World) (hn : bs.length = n) (hm : n ≤ maxLen) (hr : RT w w.heap.size A bs) (hmn : ms.length = mn) (hmm : mn ≤ maxLen) (hbad : chkB pages bs ≠ 0 ∨ 256 < ms.length) :
    Calls Tryz.prog 77 #[.int .i64 pages, .slice A n cap, .slice M mn mcap] w (AfterR (afterB pages bs ms) w) := by
  have HC := Lib.hid (check_any pages A n cap bs w hn hm hr)
  unfold maxLen at hmm
  by_cases h1 : chkB pages bs = 0
  · have h2 : 256 < ms.length := hbad.resolve_left (fun h => h h1)
    have hE : Hid (afterB pages bs ms = ([], 3)) := Lib.hid (by unfold afterB; rw [if_pos h1, if_pos h2])
    have h1' : (chkB pages bs != 0) = false := by simp [h1]
    have h2' : decide ((256 : Int) < (mn : Int)) = true := by simp; omega
    clear h1 h2 hbad hn hmn
    generalize afterB pages bs ms = R at *
    generalize chkB pages bs = ck at *
    go_enter Tryz.func77, Tryz.ntmps77
    go_wp2_with fail
    refine HC.out.mono ?_
    rintro e w1 ⟨rfl, hb1⟩
    go_wp2_with fail
    go_ret2
    rw [hE.out]
    exact afterR_err hb1
  · have hE : Hid (afterB pages bs ms = ([], chkB pages bs)) := Lib.hid (by unfold afterB; rw [if_neg h1])
    have h1' : (chkB pages bs != 0) = true := by simpa using h1
    clear h1 hbad hn hmn
    generalize afterB pages bs ms = R at *
    generalize chkB pages bs = ck at *
    go_enter Tryz.func77, Tryz.ntmps77
    go_wp2_with fail
    refine HC.out.mono ?_
    rintro e w1 ⟨rfl, hb1⟩
    go_wp2_with fail
    go_ret2
    rw [hE.out]
    exact afterR_err hb1

theorem movB_okPl {pages : Int} {bs : List B3} {k : Nat} {y : Int} (hp : pages ≤ 1024) (hk : k < bs.length) (h : possB pages bs ((k : Int), y) = 0) (hall : ∀ b ∈ bs, okPl b) : ∀ b ∈ bs.set k (y, (bs.getD k b0).2), okPl b := by
  have hI : insB pages y (bs.getD k b0).2.1 = true := by
    unfold possB at h
    rw [if_neg (by simp only; omega)] at h
    simp only [Int.toNat_natCast] at h
    split at h
    · omega
    · split at h
      · omega
      · rename_i h1
        simpa using h1
  intro b hb
  rcases List.mem_or_eq_of_mem_set hb with h | h
  · exact hall b h
  · subst h
    have h' := insB_iff.1 hI
    have := pw_pos (bs.getD k b0).2.1
    exact ⟨⟨by simp only; omega, by simp only; omega⟩, h'.1.1, h'.1.2⟩
theorem possB_in {pages : Int} {bs : List B3} {m : Int × Int} (h : possB pages bs m = 0) : 0 ≤ m.1 ∧ m.1 < bs.length := by
  unfold possB at h
  by_cases hc : m.1 < 0 ∨ (bs.length : Int) ≤ m.1
  · rw [if_pos hc] at h; omega
  · omega
set_option maxRecDepth 100000 in
set_option maxHeartbeats 3200000 in
theorem afterOk_any (pages : Int) (A M : Option Addr) (n cap mn mcap : Nat) (bs : List B3) (ms : List (Int × Int)) (w : World) (hn : bs.length = n) (hm : n ≤ maxLen) (hz : A = none → cap = 0) (hr : RT w w.heap.size A bs) (hmn : ms.length = mn) (hru : RU w w.heap.size M ms) (h1 : chkB pages bs = 0) (h2 : ms.length ≤ 256) :
    Calls Tryz.prog 77 #[.int .i64 pages, .slice A n cap, .slice M mn mcap] w (AfterR (afterB pages bs ms) w) := by
  have HC := Lib.hid (check_any pages A n cap bs w hn hm hr)
  have ok := chkB_ok h1
  rw [h1] at HC
  have hpg := spaceB_bound ok.space
  have hn64 : n ≤ 64 := by rw [← hn]; exact ok.len
  have hE : Hid (afterB pages bs ms = afterL pages bs ms) := Lib.hid (by unfold afterB; rw [if_pos h1, if_neg (by omega)])
  have hok0 : Hid (∀ b ∈ bs, okPl b) := Lib.hid (fun b hb => ins_okPl hpg.2 (ok.ins b hb))
  have hmn256 : mn ≤ 256 := by omega
  have h2' : decide ((256 : Int) < (mn : Int)) = false := by simp; omega
  have HCl := Lib.hid (fun W (h : RT W W.heap.size A bs) => clone_anyV A n cap bs W hn (by omega) hz h)
  have hn' := Lib.hid hn
  have hmn' := Lib.hid hmn
  clear h1 h2 ok hn hmn hz
  generalize afterB pages bs ms = R at *
  go_enter Tryz.func77, Tryz.ntmps77
  go_wp2_with fail
  refine HC.out.mono ?_
  rintro e w1 ⟨rfl, hb1⟩
  have r1 := hr.on hb1
  go_wp2_with fail
  refine (HCl.out _ r1).mono ?_
  rintro e w2 ⟨v, rfl, hown, hb2⟩
  have B2 := hb1.trans (hb2.mono hb1.size)
  have hbase := hb1.size
  have hbw := hb2.size
  obtain ⟨base, hbs⟩ : ∃ base, w1.heap.size = base := ⟨_, rfl⟩
  rw [hbs] at hown hbase hbw
  clear HC HCl r1 hb1 hb2 hr
  obtain ⟨A2, cap2, rfl⟩ := own_nilT hown hn'.out
  go_wp2_with fail
  go_loopw [26] (fun i wr => ∃ (k : Nat) (cs : List B3), k ≤ mn ∧ i = .int .i64 k ∧ cs.length = n ∧ wr.ownsRow base 65 3 (.slice A2 n cap2) n (tCells cs) ∧ base ≤ wr.heap.size ∧ Below w.heap.size w wr ∧ Hid (∀ b ∈ cs, okPl b) ∧ Hid (R = afterL pages cs (ms.drop k))) (fun i _ => mn - (intOf i).toNat)
  case atStart => exact ⟨0, bs, by omega, rfl, hn'.out, hown, hbw, B2, hok0, by simpa using hE⟩
  case round =>
    obtain ⟨k, cs, hk, rfl, hcs, hrow, hbr, hB, hok, hR⟩ := hrel
    have hru' := (hru.below hB).more hB.size
    have hcs' := Lib.hid hcs
    clear hcs
    by_cases hlt : k < mn
    · have hlt' : decide ((k : Int) < (mn : Int)) = true := by simpa using hlt
      obtain ⟨b, o, rfl, hbl, c1, c2⟩ := RU.at_' hru' (k := k) (by have := hmn'.out; omega)
      have hst := Lib.hid (show R = if possB pages cs (ms.getD k (0,0)) = 0 then afterL pages (movB cs (ms.getD k (0,0))) (ms.drop (k + 1)) else ([], possB pages cs (ms.getD k (0,0))) by
        rw [hR.out, Go.Pol.drop_cons (0,0) ms k (by have := hmn'.out; omega), afterL])
      generalize ms.getD k (0,0) = m at *
      obtain ⟨mk, mt⟩ := m
      simp only at c1 c2
      have hbm := hB.alloc hB.size (.cells #[.int .i64 mk, .int .i64 mt] 152)
      have kM := Blk.new wr 152 #[.int .i64 mk, .int .i64 mt]
      have hrow1 := hrow.alloc (.cells #[.int .i64 mk, .int .i64 mt] 152)
      obtain ⟨_, _, e2, hrt, _⟩ := own_RT hrow1 hcs'.out
      cases e2
      have HP := Lib.hid (possible_any pages A2 n cap2 cs (mk, mt) _ hcs'.out (by unfold maxLen; omega) hrt (by omega) hok.out)
      simp only at HP
      by_cases hpz : possB pages cs (mk, mt) = 0
      · rw [hpz] at HP
        have hin := possB_in hpz
        obtain ⟨q, rfl⟩ := Int.eq_ofNat_of_zero_le hin.1
        have hqn : q < n := by have := hcs'.out; simp only at hin; omega
        have hokm : Hid (∀ b ∈ cs.set q (mt, (cs.getD q b0).2), okPl b) := Lib.hid (movB_okPl hpg.2 (by have := hcs'.out; omega) hpz hok.out)
        have hst2 : Hid (R = afterL pages (cs.set q (mt, (cs.getD q b0).2)) (ms.drop (k + 1))) := Lib.hid (by rw [hst.out, if_pos hpz]; simp [movB])
        have hlen2 : Hid ((cs.set q (mt, (cs.getD q b0).2)).length = n) := Lib.hid (by rw [List.length_set]; exact hcs'.out)
        have hsetT := Lib.hid (tCells_set cs q mt (by have := hcs'.out; omega))
        obtain ⟨g, cq, e3, _⟩ := hrow.form (by omega)
        cases e3
        have hgb := hrow.lt g rfl
        clear hst hpz hin hR
        go_wp2_with fail
        refine HP.out.mono ?_
        rintro e w3 ⟨rfl, hb3⟩
        have B3 := hbm.trans (hb3.mono hbm.size)
        have k3 := (kM.call hb3).cell
        have hrow3 := ownsRow_call hrow1 hb3
        have hf3 := hrow3.frozenAt (q * 3)
        have hcell := hrow3.cellAt (q * 3) (by omega)
        rw [(tCells_at cs q (by have := hcs'.out; omega)).1] at hcell
        obtain ⟨hst3, hgr3⟩ := hrow3.stored (q * 3) (.int .i64 mt)
        rw [hsetT.out] at hst3
        have hg3 := hrow3.lt g rfl
        clear HP
        go_wp2_with fail
        go_roundw
        case rel => exact ⟨k + 1, _, by omega, by go_num, hlen2.out, hst3, by have := hgr3.size; omega, B3.grown hgr3 B3.size (fun j hj => by cases hj; omega), hokm, hst2⟩
        case measure => simp [intOf]; omega
      · have hRR : Hid (R = ([], possB pages cs (mk, mt))) := Lib.hid (by rw [hst.out, if_neg hpz])
        have hpz' : (possB pages cs (mk, mt) != 0) = true := by simpa using hpz
        generalize possB pages cs (mk, mt) = pe at *
        clear hst hpz hR
        go_wp2_with fail
        refine HP.out.mono ?_
        rintro e w3 ⟨rfl, hb3⟩
        go_wp2_with fail
        go_ret2
        rw [hRR.out]
        exact afterR_err (hbm.trans (hb3.mono hbm.size))
    · obtain rfl : k = mn := by omega
      have hlt' : decide ((k : Int) < (k : Int)) = false := by simp
      have hRR : Hid (R = (cs, 0)) := Lib.hid (by rw [hR.out, List.drop_of_length_le (by have := hmn'.out; omega), afterL])
      obtain ⟨_, _, e2, hrt, _⟩ := own_RT hrow hcs'.out
      cases e2
      clear hR
      go_wp2_with fail
      go_ret2
      rw [hRR.out]
      exact ⟨A2, cap2, by rw [hcs'.out]; rfl, hrt, hB⟩
theorem after_any (pages : Int) (A M : Option Addr) (n cap mn mcap : Nat) (bs : List B3) (ms : List (Int × Int)) (w : World) (hn : bs.length = n) (hm : n ≤ maxLen) (hz : A = none → cap = 0) (hr : RT w w.heap.size A bs) (hmn : ms.length = mn) (hmm : mn ≤ maxLen) (hru : RU w w.heap.size M ms) :
    Calls Tryz.prog 77 #[.int .i64 pages, .slice A n cap, .slice M mn mcap] w (AfterR (afterB pages bs ms) w) := by
  by_cases h1 : chkB pages bs = 0
  · by_cases h2 : ms.length ≤ 256
    · exact afterOk_any pages A M n cap mn mcap bs ms w hn hm hz hr hmn hru h1 h2
    · exact afterErr_any pages A M n cap mn mcap bs ms w hn hm hr hmn hmm (.inr (by omega))
  · exact afterErr_any pages A M n cap mn mcap bs ms w hn hm hr hmn hmm (.inl h1)
end Go.Proofs.YtpabnbhbcphfiaaGreat
namespace Go.Proofs.YtpabnbhbcphfiaaGreat
open Go Go.Proofs Go.RowKit Go.Pol Go.Shelf

def CostR (r : Int × Int) (w : World) (e : Ending) (w' : World) : Prop := e = .returned (.tuple #[.int .i64 r.1, .int .i64 r.2]) ∧ Below w.heap.size w w'
set_option maxRecDepth 100000 in
set_option maxHeartbeats 1600000 in
theorem cost_any (A M : Option Addr) (n cap mn mcap : Nat) (bs : List B3) (ms : List (Int × Int)) (w : World) (hn : bs.length = n) (_hm : n ≤ maxLen) (hr : RT w w.heap.size A bs) (hmn : ms.length = mn) (hmm : mn ≤ maxLen) (hru : RU w w.heap.size M ms) :
    Calls Tryz.prog 78 #[.slice A n cap, .slice M mn mcap] w (CostR (costB bs ms) w) := by
  unfold maxLen at hmm
  have hn' := Lib.hid hn
  have hmn' := Lib.hid hmn
  by_cases h2 : 256 < mn
  · have h2' : decide ((256 : Int) < (mn : Int)) = true := by simp; omega
    have hE : Hid (costB bs ms = (0, 3)) := Lib.hid (by unfold costB; rw [if_pos (by omega)])
    clear h2 hn hmn
    generalize costB bs ms = R at *
    go_enter Tryz.func78, Tryz.ntmps78
    go_wp2_with fail
    go_ret2
    rw [hE.out]
    exact ⟨rfl, Below.refl _ _⟩
  · have h2' : decide ((256 : Int) < (mn : Int)) = false := by simp; omega
    have hE : Hid (costB bs ms = costL bs 0 ms) := Lib.hid (by unfold costB; rw [if_neg (by omega)])
    clear hn hmn
    generalize costB bs ms = R at *
    go_enter Tryz.func78, Tryz.ntmps78
    go_wp2_with fail
    go_loopw [6, 15] (fun s i wr => ∃ (k : Nat) (z : Int), k ≤ mn ∧ i = .int .i64 k ∧ s = .int .i64 z ∧ 0 ≤ z ∧ z ≤ 1024 * k ∧ Below w.heap.size w wr ∧ Hid (R = costL bs z (ms.drop k))) (fun _ i _ => mn - (intOf i).toNat)
    case atStart => exact ⟨0, 0, by omega, rfl, rfl, by omega, by omega, Below.refl _ _, by simpa using hE⟩
    case round =>
      obtain ⟨k, z, hk, rfl, rfl, hz0, hz1, hB, hR⟩ := hrel
      by_cases hlt : k < mn
      · have hlt' : decide ((k : Int) < (mn : Int)) = true := by simpa using hlt
        obtain ⟨b, o, rfl, hbl, c1, c2⟩ := RU.at_' ((hru.below hB).more hB.size) (k := k) (by have := hmn'.out; omega)
        have hst := Lib.hid (show R = if (ms.getD k (0,0)).1 < 0 ∨ (n : Int) ≤ (ms.getD k (0,0)).1 then (0, 4) else if isOrd (bs.getD (ms.getD k (0,0)).1.toNat b0).2.1 = false then (0, 7) else costL bs (z + pw (bs.getD (ms.getD k (0,0)).1.toNat b0).2.1) (ms.drop (k + 1)) by
          rw [hR.out, Go.Pol.drop_cons (0,0) ms k (by have := hmn'.out; omega), costL, hn'.out])
        generalize ms.getD k (0,0) = m at *
        obtain ⟨mk, mt⟩ := m
        simp only at c1 c2 hst
        clear hR
        have hbm := hB.alloc hB.size (.cells #[.int .i64 mk, .int .i64 mt] 152)
        by_cases h1 : mk < 0
        · have h1' : decide (mk < 0) = true := by simpa using h1
          have hRR : Hid (R = (0, 4)) := Lib.hid (by rw [hst.out, if_pos (.inl h1)])
          clear hst h1
          go_wp2_with fail
          go_ret2
          rw [hRR.out]
          exact ⟨rfl, hbm⟩
        · have h1' : decide (mk < 0) = false := by simpa using h1
          by_cases h3 : (n : Int) ≤ mk
          · have h3' : decide ((n : Int) ≤ mk) = true := by simpa using h3
            have hRR : Hid (R = (0, 4)) := Lib.hid (by rw [hst.out, if_pos (.inr h3)])
            clear hst h1 h3
            go_wp2_with fail
            go_ret2
            rw [hRR.out]
            exact ⟨rfl, hbm⟩
          · obtain ⟨q, rfl⟩ := Int.eq_ofNat_of_zero_le (show 0 ≤ mk by omega)
            have hqn : q < n := by omega
            have hq' : decide ((n : Int) ≤ (q : Int)) = false := by simp; omega
            have hst2 : Hid (R = if isOrd (bs.getD q b0).2.1 = false then (0, 7) else costL bs (z + pw (bs.getD q b0).2.1) (ms.drop (k + 1))) := Lib.hid (by rw [hst.out, if_neg (by omega)]; rfl)
            obtain ⟨b', o', rfl, _, _, d2, _⟩ := ((hr.below hB).more hB.size).at_ (k := q) (by have := hn'.out; omega)
            obtain ⟨xo, hxo⟩ : ∃ xo, (bs.getD q b0).2.1 = xo := ⟨_, rfl⟩
            rw [hxo] at hst2 d2
            clear hst h1 h3 hxo
            by_cases ho : 0 ≤ xo ∧ xo ≤ 10
            · have e1 : decide (xo < 0) = false := by simp; omega
              have e2 : decide (10 < xo) = false := by simp; omega
              have HS := Lib.hid (fun W => size_any xo W ho)
              have hp1 := pw_pos xo
              have hp2 := pw_le ho.2
              have hRR : Hid (R = costL bs (z + pw xo) (ms.drop (k + 1))) := Lib.hid (by rw [hst2.out, if_neg (by rw [isOrd_iff.2 ho]; simp)])
              generalize pw xo = p at *
              clear hst2
              go_wp2_with (go_at_call 86; refine (HS.out _).mono ?_; rintro e wS ⟨rfl, hwS⟩; subst hwS)
              go_roundw
              case rel => exact ⟨k + 1, z + p, by omega, by go_num, rfl, by omega, by omega, hbm, hRR⟩
              case measure => simp [intOf]; omega
            · have hRR : Hid (R = (0, 7)) := Lib.hid (by
                rw [hst2.out, if_pos]
                cases h : isOrd xo with
                | false => rfl
                | true => exact absurd (isOrd_iff.1 h) ho)
              by_cases e1 : xo < 0
              · have e1' : decide (xo < 0) = true := by simpa using e1
                clear hst2 e1 ho
                go_wp2_with fail
                go_ret2
                rw [hRR.out]
                exact ⟨rfl, hbm⟩
              · have e1' : decide (xo < 0) = false := by simpa using e1
                have e2' : decide (10 < xo) = true := by simp; omega
                clear hst2 e1 ho
                go_wp2_with fail
                go_ret2
                rw [hRR.out]
                exact ⟨rfl, hbm⟩
      · obtain rfl : k = mn := by omega
        have hlt' : decide ((k : Int) < (k : Int)) = false := by simp
        have hRR : Hid (R = (z, 0)) := Lib.hid (by rw [hR.out, List.drop_of_length_le (by have := hmn'.out; omega), costL])
        clear hR
        go_wp2_with fail
        go_ret2
        rw [hRR.out]
        exact ⟨rfl, hB⟩
set_option maxRecDepth 100000 in
theorem eqMm (x1 x2 y1 y2 : Int) (w : World) : (Op.equalIn 10000 152 (.agg #[.int .i64 x1, .int .i64 x2]) (.agg #[.int .i64 y1, .int .i64 y2])).run Tryz.prog w = .ok (decide (x1 = y1 ∧ x2 = y2)) w := by
  have u3 := Tryz.underlying3
  have a3 := Tryz.isAgg3
  have z3 := Tryz.sizeOf3
  rw [show (10000 : Nat) = 9999 + 1 from rfl]
  by_cases h1 : x1 = y1 <;> by_cases h2 : x2 = y2 <;> go_simp <;> simp [h1, h2]
set_option maxHeartbeats 400000 in
theorem lawMoves_any (A B : Option Addr) (n m cap cap' : Nat) (xs ys : List (Int × Int)) (w : World) (hn : xs.length = n) (hm : n ≤ maxLen) (hn2 : ys.length = m) (hm2 : m ≤ maxLen) (hr : RU w w.heap.size A xs) (hs : RU w w.heap.size B ys) :
    Calls Tryz.prog 80 #[.slice A n cap, .slice B m cap'] w fun e w' => e = .returned (.bool (decide (xs = ys))) ∧ Below w.heap.size w w' := by
  unfold maxLen at hm hm2
  have hn' := Lib.hid hn
  have hm' := Lib.hid hn2
  clear hn hn2
  by_cases hnm : n = m
  case neg =>
    have hne : ((n : Int) != m) = true := by rw [bne_iff_ne]; omega
    have H : Hid (decide (xs = ys) = false) := Lib.hid (by rw [decide_eq_false_iff_not]; rintro rfl; exact hnm (hn'.out.symm.trans hm'.out))
    go_enter Tryz.func80, Tryz.ntmps80
    go_wp2
    go_ret
    exact ⟨ret_bool H.out.symm, Below.refl _ _⟩
  case pos =>
    subst hnm
    have hne : ((n : Int) != n) = false := by simp
    go_enter Tryz.func80, Tryz.ntmps80
    go_wp2
    go_loopw [5] (fun i wr => ∃ (k : Int), 0 ≤ k ∧ k ≤ n ∧ i = .int .i64 k ∧ Below w.heap.size w wr ∧ Hid (xs = ys ↔ xs.drop k.toNat = ys.drop k.toNat)) (fun i _ => n - (intOf i).toNat)
    case atStart => exact ⟨0, by omega, by omega, rfl, Below.refl _ _, Lib.hid (by simp)⟩
    case round =>
      obtain ⟨k, hk1, hk, rfl, hB, hL⟩ := hrel
      have hr1 := hr.below hB
      have hs1 := hs.below hB
      by_cases hlt : k < n
      · have hlt' : decide (k < (n : Int)) = true := by simpa using hlt
        obtain ⟨b, o, rfl, _, hc, hd⟩ := RU.at_' hr1 (k := k.toNat) (by have := hn'.out; omega)
        obtain ⟨b2, o2, rfl, _, hc2, hd2⟩ := RU.at_' hs1 (k := k.toNat) (by have := hm'.out; omega)
        have hd1 := Lib.hid (drop_cons (0,0) xs k.toNat (by have := hn'.out; omega))
        have hd2' := Lib.hid (drop_cons (0,0) ys k.toNat (by have := hm'.out; omega))
        have hsucc : Hid ((k+1).toNat = k.toNat + 1) := Lib.hid (by omega)
        generalize xs.getD k.toNat (0,0) = x at *
        generalize ys.getD k.toNat (0,0) = y at *
        obtain ⟨x1, x2⟩ := x
        obtain ⟨y1, y2⟩ := y
        dsimp only at hc hd hc2 hd2
        have hcx := fun y : Ext wr => y.cell hc
        have hcy := fun y : Ext wr => y.cell hc2
        have hdx := fun y : Ext wr => y.cell hd
        have hdy := fun y : Ext wr => y.cell hd2
        have hq := fun (W : World) => eqMm x1 x2 y1 y2 W
        by_cases hxy : x1 = y1 ∧ x2 = y2
        · have hxy' : decide (x1 = y1 ∧ x2 = y2) = true := by simpa using hxy
          have hst : Hid (xs = ys ↔ xs.drop (k+1).toNat = ys.drop (k+1).toNat) := Lib.hid (by rw [hL.out, hd1.out, hd2'.out, hsucc.out]; simp [hxy])
          rw [hxy'] at hq
          clear hxy hxy'
          go_upto_region 6 with fail
          refine region_ext (by kernel_rfl) (by kernel_rfl) ?_
          repeat (go_big_quiet_step (fail))
          refine wpQuiet_nil ?_
          rintro w1 ⟨⟨_, hw1⟩, rfl⟩
          go_wp2_with fail
          go_roundw
          case rel => exact ⟨k+1, by omega, by omega, rfl, hB.trans (hw1.mono hB.size), hst⟩
          case measure => simp [intOf]; omega
        · have hxy' : decide (x1 = y1 ∧ x2 = y2) = false := by simpa using hxy
          have hE : Hid (decide (xs = ys) = false) := Lib.hid (by
            rw [decide_eq_false_iff_not, hL.out, hd1.out, hd2'.out]
            intro h
            injection h with h1 _
            exact hxy (by simpa using h1))
          rw [hxy'] at hq
          clear hxy hxy'
          go_upto_region 6 with fail
          refine region_ext (by kernel_rfl) (by kernel_rfl) ?_
          repeat (go_big_quiet_step (fail))
          refine wpQuiet_nil ?_
          rintro w1 ⟨⟨_, hw1⟩, rfl⟩
          go_wp2_with fail
          go_ret
          exact ⟨ret_bool hE.out.symm, hB.trans (hw1.mono hB.size)⟩
      · have hlt' : decide (k < (n : Int)) = false := by simp; omega
        go_wp2_with fail
        go_ret
        have : decide (xs = ys) = true := by rw [decide_eq_true_eq, hL.out, List.drop_of_length_le (by have := hn'.out; omega), List.drop_of_length_le (by have := hm'.out; omega)]
        exact ⟨ret_bool this.symm, hB⟩


set_option maxRecDepth 100000 in
theorem eqMb (x1 x2 : Int) (x3 : Bool) (y1 y2 : Int) (y3 : Bool) (w : World) : (Op.equalIn 10000 65 (.agg #[.int .i64 x1, .int .i64 x2, .bool x3]) (.agg #[.int .i64 y1, .int .i64 y2, .bool y3])).run Tryz.prog w = .ok (decide (x1 = y1 ∧ x2 = y2 ∧ x3 = y3)) w := by
  have u3 := Tryz.underlying3
  have a3 := Tryz.isAgg3
  have z3 := Tryz.sizeOf3
  rw [show (10000 : Nat) = 9999 + 1 from rfl]
  have u4 := Tryz.underlying4
  have a4 := Tryz.isAgg4
  have z4 := Tryz.sizeOf4
  by_cases h1 : x1 = y1 <;> by_cases h2 : x2 = y2 <;> by_cases h3 : x3 = y3 <;> go_simp <;> simp [h1, h2, h3]
set_option maxHeartbeats 400000 in
theorem lawBlocks_any (A B : Option Addr) (n m cap cap' : Nat) (xs ys : List B3) (w : World) (hn : xs.length = n) (hm : n ≤ maxLen) (hn2 : ys.length = m) (hm2 : m ≤ maxLen) (hr : RT w w.heap.size A xs) (hs : RT w w.heap.size B ys) :
    Calls Tryz.prog 28 #[.slice A n cap, .slice B m cap'] w fun e w' => e = .returned (.bool (decide (xs = ys))) ∧ Below w.heap.size w w' := by
  unfold maxLen at hm hm2
  have hn' := Lib.hid hn
  have hm' := Lib.hid hn2
  clear hn hn2
  by_cases hnm : n = m
  case neg =>
    have hne : ((n : Int) != m) = true := by rw [bne_iff_ne]; omega
    have H : Hid (decide (xs = ys) = false) := Lib.hid (by rw [decide_eq_false_iff_not]; rintro rfl; exact hnm (hn'.out.symm.trans hm'.out))
    go_enter Tryz.func28, Tryz.ntmps28
    go_wp2
    go_ret
    exact ⟨ret_bool H.out.symm, Below.refl _ _⟩
  case pos =>
    subst hnm
    have hne : ((n : Int) != n) = false := by simp
    go_enter Tryz.func28, Tryz.ntmps28
    go_wp2
    go_loopw [5] (fun i wr => ∃ (k : Int), 0 ≤ k ∧ k ≤ n ∧ i = .int .i64 k ∧ Below w.heap.size w wr ∧ Hid (xs = ys ↔ xs.drop k.toNat = ys.drop k.toNat)) (fun i _ => n - (intOf i).toNat)
    case atStart => exact ⟨0, by omega, by omega, rfl, Below.refl _ _, Lib.hid (by simp)⟩
    case round =>
      obtain ⟨k, hk1, hk, rfl, hB, hL⟩ := hrel
      have hr1 := hr.below hB
      have hs1 := hs.below hB
      by_cases hlt : k < n
      · have hlt' : decide (k < (n : Int)) = true := by simpa using hlt
        obtain ⟨b, o, rfl, _, hc, hd, he⟩ := RT.at_ hr1 (k := k.toNat) (by have := hn'.out; omega)
        obtain ⟨b2, o2, rfl, _, hc2, hd2, he2⟩ := RT.at_ hs1 (k := k.toNat) (by have := hm'.out; omega)
        have hd1 := Lib.hid (drop_cons b0 xs k.toNat (by have := hn'.out; omega))
        have hd2' := Lib.hid (drop_cons b0 ys k.toNat (by have := hm'.out; omega))
        have hsucc : Hid ((k+1).toNat = k.toNat + 1) := Lib.hid (by omega)
        generalize xs.getD k.toNat b0 = x at *
        generalize ys.getD k.toNat b0 = y at *
        obtain ⟨x1, x2, x3⟩ := x
        obtain ⟨y1, y2, y3⟩ := y
        dsimp only at hc hd hc2 hd2 he he2
        have hcx := fun y : Ext wr => y.cell hc
        have hcy := fun y : Ext wr => y.cell hc2
        have hdx := fun y : Ext wr => y.cell hd
        have hdy := fun y : Ext wr => y.cell hd2
        have hex := fun y : Ext wr => y.cell he
        have hey := fun y : Ext wr => y.cell he2
        have hq := fun (W : World) => eqMb x1 x2 x3 y1 y2 y3 W
        by_cases hxy : x1 = y1 ∧ x2 = y2 ∧ x3 = y3
        · have hxy' : decide (x1 = y1 ∧ x2 = y2 ∧ x3 = y3) = true := by simpa using hxy
          have hst : Hid (xs = ys ↔ xs.drop (k+1).toNat = ys.drop (k+1).toNat) := Lib.hid (by rw [hL.out, hd1.out, hd2'.out, hsucc.out]; simp [hxy])
          rw [hxy'] at hq
          clear hxy hxy'
          go_upto_region 6 with fail
          refine region_ext (by kernel_rfl) (by kernel_rfl) ?_
          repeat (go_big_quiet_step (fail))
          refine wpQuiet_nil ?_
          rintro w1 ⟨⟨_, hw1⟩, rfl⟩
          go_wp2_with fail
          go_roundw
          case rel => exact ⟨k+1, by omega, by omega, rfl, hB.trans (hw1.mono hB.size), hst⟩
          case measure => simp [intOf]; omega
        · have hxy' : decide (x1 = y1 ∧ x2 = y2 ∧ x3 = y3) = false := by simpa using hxy
          have hE : Hid (decide (xs = ys) = false) := Lib.hid (by
            rw [decide_eq_false_iff_not, hL.out, hd1.out, hd2'.out]
            intro h
            injection h with h1 _
            exact hxy (by simpa using h1))
          rw [hxy'] at hq
          clear hxy hxy'
          go_upto_region 6 with fail
          refine region_ext (by kernel_rfl) (by kernel_rfl) ?_
          repeat (go_big_quiet_step (fail))
          refine wpQuiet_nil ?_
          rintro w1 ⟨⟨_, hw1⟩, rfl⟩
          go_wp2_with fail
          go_ret
          exact ⟨ret_bool hE.out.symm, hB.trans (hw1.mono hB.size)⟩
      · have hlt' : decide (k < (n : Int)) = false := by simp; omega
        go_wp2_with fail
        go_ret
        have : decide (xs = ys) = true := by rw [decide_eq_true_eq, hL.out, List.drop_of_length_le (by have := hn'.out; omega), List.drop_of_length_le (by have := hm'.out; omega)]
        exact ⟨ret_bool this.symm, hB⟩



end Go.Proofs.YtpabnbhbcphfiaaGreat
namespace Go.Pol
open Go Go.RowKit
/-- the cells of a room -/
structure RoomAre (cs : Array Value) (f : Nat → Nat → Bool) (mn : Nat → Int) : Prop where
  size : cs.size = 11275
  at_ : ∀ o i, o < 11 → i < 1024 → cs[o * 1024 + i]? = some (.bool (f o i))
  many : ∀ o, o < 11 → cs[11264 + o]? = some (.int .i64 (mn o))
theorem RoomAre.setF {cs : Array Value} {f : Nat → Nat → Bool} {mn : Nat → Int} (h : RoomAre cs f mn) {o i : Nat} (ho : o < 11) (hi : i < 1024) (b : Bool) :
    RoomAre (cs.setIfInBounds (o * 1024 + i) (.bool b)) (fun o' i' => if o' = o ∧ i' = i then b else f o' i') mn := by
  refine ⟨by simp [h.size], fun o' i' ho' hi' => ?_, fun o' ho' => ?_⟩
  · rw [Array.getElem?_setIfInBounds]
    by_cases e : o * 1024 + i = o' * 1024 + i'
    · obtain ⟨rfl, rfl⟩ : o' = o ∧ i' = i := by omega
      rw [if_pos rfl, if_pos (by rw [h.size]; omega)]
      simp
    · rw [if_neg e, h.at_ o' i' ho' hi']
      have : ¬ (o' = o ∧ i' = i) := fun h => e (by rw [h.1, h.2])
      simp [this]
  · rw [Array.getElem?_setIfInBounds, if_neg (by omega), h.many o' ho']
theorem RoomAre.setM {cs : Array Value} {f : Nat → Nat → Bool} {mn : Nat → Int} (h : RoomAre cs f mn) {o : Nat} (ho : o < 11) (v : Int) :
    RoomAre (cs.setIfInBounds (11264 + o) (.int .i64 v)) f (fun o' => if o' = o then v else mn o') := by
  refine ⟨by simp [h.size], fun o' i' ho' hi' => ?_, fun o' ho' => ?_⟩
  · rw [Array.getElem?_setIfInBounds, if_neg (by omega), h.at_ o' i' ho' hi']
  · rw [Array.getElem?_setIfInBounds]
    by_cases e : o = o'
    · subst e
      rw [if_pos rfl, if_pos (by rw [h.size]; omega)]
      simp
    · rw [if_neg (by omega), h.many o' ho']
      have : ¬ (o' = o) := fun h => e h.symm
      simp [this]
theorem RoomAre.ext {cs : Array Value} {f g : Nat → Nat → Bool} {mn mn' : Nat → Int} (h : RoomAre cs f mn) (hf : ∀ o i, o < 11 → i < 1024 → f o i = g o i) (hm : ∀ o, o < 11 → mn o = mn' o) : RoomAre cs g mn' :=
  ⟨h.size, fun o i ho hi => by rw [h.at_ o i ho hi, hf o i ho hi], fun o ho => by rw [h.many o ho, hm o ho]⟩
end Go.Pol
namespace Go.Proofs.YtpabnbhbcphfiaaGreat
open Go Go.Proofs Go.RowKit Go.Pol Go.Shelf

theorem size11_any (o : Int) (w : World) (h : 0 ≤ o ∧ o ≤ 11) : Calls Tryz.prog 86 #[.int .i64 o] w fun e w' => e = .returned (.int .i64 (pw o)) ∧ w' = w := by
  by_cases h10 : o ≤ 10
  · exact size_any o w ⟨h.1, h10⟩
  · obtain rfl : o = 11 := by omega
    go_enter Tryz.func86, Tryz.ntmps86
    go_wp2_with fail
    go_ret
    exact ⟨rfl, rfl⟩
/-- strips 2^d values 'false' off a list -/
def strip : Nat → List Value → Option (List Value)
  | 0, .bool false :: r => some r
  | 0, _ => none
  | d + 1, l => match strip d l with
    | some r => strip d r
    | none => none
theorem strip_spec : ∀ (d : Nat) (l r : List Value), strip d l = some r → l = List.replicate (2 ^ d) (.bool false) ++ r
  | 0, l, r, h => by
    unfold strip at h
    split at h
    · cases h; rfl
    · cases h
    · rename_i h2 _ _; omega
  | d + 1, l, r, h => by
    rw [strip] at h
    split at h
    · rename_i r' h'
      have h1 := strip_spec d l r' h'
      have h2 := strip_spec d r' r h
      rw [h1, h2, ← List.append_assoc, List.replicate_append_replicate]
      rw [show 2 ^ d + 2 ^ d = 2 ^ (d + 1) by rw [Nat.pow_succ]; omega]
    · cases h
theorem zeroStripV : (((strip 13 Tryz.zeroCells309.toList).bind (strip 11)).bind (strip 10)) = some (List.replicate 11 (.int .i64 0)) := by kernel_rfl
theorem zeroRoom : RoomAre Tryz.zeroCells309 (fun _ _ => false) (fun _ => 0) := by
  have e : Tryz.zeroCells309.toList = List.replicate 11264 (.bool false) ++ List.replicate 11 (.int .i64 0) := by
    have h := zeroStripV
    simp only [Option.bind_eq_some_iff] at h
    obtain ⟨b, ⟨a, ha, hb⟩, hc⟩ := h
    rw [strip_spec _ _ _ ha, strip_spec _ _ _ hb, strip_spec _ _ _ hc, ← List.append_assoc, ← List.append_assoc, List.replicate_append_replicate, List.replicate_append_replicate]
  obtain ⟨zc, hzc⟩ : ∃ zc, Tryz.zeroCells309 = zc := ⟨_, rfl⟩
  rw [hzc] at e ⊢
  clear hzc
  refine ⟨by rw [← Array.length_toList, e]; simp only [List.length_append, List.length_replicate], fun o i ho hi => ?_, fun o ho => ?_⟩
  · rw [← Array.getElem?_toList, e, List.getElem?_append_left (by rw [List.length_replicate]; omega), List.getElem?_replicate, if_pos (by omega)]
  · rw [← Array.getElem?_toList, e, List.getElem?_append_right (by rw [List.length_replicate]; omega), List.getElem?_replicate, if_pos (by rw [List.length_replicate]; omega)]
theorem pow_le_iff {k P : Nat} : (2 : Nat) ^ k ≤ 2 ^ P ↔ k ≤ P := Nat.pow_le_pow_iff_right (by decide)
set_option maxRecDepth 100000 in
set_option maxHeartbeats 1600000 in
theorem open_anyV (pg : Nat) (w : World) (P : Nat) (hP : P ≤ 10) (hpg : pg = 2 ^ P) :
    Calls Tryz.prog 228 #[.int .i64 pg] w fun e w' => e = .returned (.pointer (some ⟨w.heap.size, 0, none⟩)) ∧ (∃ cs, Blk w' w.heap.size 309 cs ∧ RoomAre cs (frB pg fun _ => false) (fun o => (cntB (frB pg (fun _ => false) o) 1024 : Nat))) ∧ Below w.heap.size w w' := by
  have hz := zeroRoom
  have k0 := Blk.new w 309 Tryz.zeroCells309
  have hb0 := (Below.refl w.heap.size w).alloc (Nat.le_refl _) (.cells Tryz.zeroCells309 309)
  have hpg' := Lib.hid hpg
  have hpg1024 : pg ≤ 1024 := by rw [hpg]; exact Nat.pow_le_pow_right (by decide) hP
  clear hpg
  obtain ⟨s, hs⟩ : ∃ s, w.heap.size = s := ⟨_, rfl⟩
  rw [hs] at k0 hb0
  have hs' := Lib.hid hs
  go_enter Tryz.func228, Tryz.ntmps228
  go_upto_region 2 with fail
  generalize w.alloc (Obj.cells Tryz.zeroCells309 309) = w0 at *
  generalize Tryz.zeroCells309 = zc at *
  go_wp2_with fail
  go_loopw [4] (fun i wr => ∃ (k : Nat) (cs : Array Value), k ≤ P + 1 ∧ i = .int .i64 k ∧ Blk wr s 309 cs ∧ Hid (RoomAre cs (fun o i => decide (o < k) && frB pg (fun _ => false) o i) (fun o => if o < k then (cntB (frB pg (fun _ => false) o) 1024 : Nat) else 0)) ∧ Below s w wr) (fun i _ => P + 1 - (intOf i).toNat)
  case atStart => exact ⟨0, zc, by omega, rfl, k0, Lib.hid (hz.ext (by simp) (by simp)), hb0⟩
  case round =>
    obtain ⟨k, cs, hk, rfl, kB, hR, hB⟩ := hrel
    have HS := Lib.hid (fun W => size11_any (k : Int) W (by omega))
    have hpwk := pw_nat k
    by_cases hlt : k ≤ P
    · have hle : Hid (2 ^ k ≤ pg) := Lib.hid (by rw [hpg'.out]; exact pow_le_iff.2 hlt)
      have hle' : decide (pw (k : Int) ≤ (pg : Int)) = true := by rw [hpwk, decide_eq_true_eq]; exact Int.ofNat_le.2 hle.out
      clear hpwk
      generalize pw (k : Int) = p at *
      obtain ⟨q, hq⟩ : ∃ q, pg / 2 ^ k = q := ⟨_, rfl⟩
      have hsh : ((pg : Int) / 2 ^ k) = (q : Int) := by rw [← hq]; simp
      have hq1024 : q ≤ 1024 := by rw [← hq]; exact Nat.le_trans (Nat.div_le_self _ _) hpg1024
      have hq' := Lib.hid hq
      clear hq
      go_upto_region 5 with (go_at_call 86; refine (HS.out _).mono ?_; rintro e wS ⟨rfl, hwS⟩; subst hwS)
      go_wp2_with fail
      go_loopw [17] (fun i wr2 => ∃ (j : Nat) (ds : Array Value), j ≤ q ∧ i = .int .i64 j ∧ Blk wr2 s 309 ds ∧ Hid (RoomAre ds (fun o i => (decide (o < k) && frB pg (fun _ => false) o i) || (decide (o = k) && decide (i < j))) (fun o => if o < k then (cntB (frB pg (fun _ => false) o) 1024 : Nat) else 0)) ∧ Below s w wr2) (fun i _ => q - (intOf i).toNat)
      case atStart => exact ⟨0, cs, by omega, rfl, kB, Lib.hid (hR.out.ext (by simp) (by simp)), hB⟩
      case round =>
        obtain ⟨j, ds, hj, rfl, kD, hD, hB2⟩ := hrel
        have fD := kD.frozen
        by_cases hlt2 : j < q
        · have hlt2' : decide ((j : Int) < (q : Int)) = true := by simpa using hlt2
          have hcell : _ := (kD.cell (k * 1024 + j)).trans (hD.out.at_ k j (by omega) (by omega))
          have hset := Lib.hid (hD.out.setF (o := k) (i := j) (by omega) (by omega) true)
          go_wp2_with fail
          go_roundw
          case rel => exact ⟨j + 1, _, by omega, by go_num, kD.set_ (k * 1024 + j) (.bool true), Lib.hid (hset.out.ext (fun o i ho hi => by
            by_cases e : o = k ∧ i = j
            · obtain ⟨rfl, rfl⟩ := e; simp
            · rw [if_neg e]
              by_cases e1 : o = k
              · subst e1
                have : i ≠ j := fun h => e ⟨rfl, h⟩
                have h2 : decide (i < j + 1) = decide (i < j) := by
                  by_cases h3 : i < j
                  · rw [decide_eq_true h3, decide_eq_true (by omega)]
                  · rw [decide_eq_false h3, decide_eq_false (by omega)]
                rw [h2]
              · simp [e1]) (fun o ho => rfl)), hB2.setCell (p := ⟨s, k * 1024 + j, none⟩) (by simp) _⟩
          case measure => simp [intOf]; omega
        · obtain rfl : j = q := by omega
          have hlt2' : decide ((j : Int) < (j : Int)) = false := by simp
          have hcell : _ := (kD.cell (11264 + k)).trans (hD.out.many k (by omega))
          have hmk : Hid (((if k < k then ((cntB (frB pg (fun _ => false) k) 1024 : Nat) : Int) else 0)) = 0) := Lib.hid (by simp)
          rw [hmk.out] at hcell
          have q1 := fun z : Ext wr => z.cell hcell
          have hset := Lib.hid (hD.out.setM (o := k) (by omega) (j : Int))
          go_upto_region 10 with fail
          refine region_ext_tail 8 (by kernel_rfl) (by kernel_rfl) ?_
          simp only [List.take_succ_cons, List.take_zero, List.drop_succ_cons, List.drop_zero]
          repeat (go_big_quiet_step (fail))
          refine wpQuiet_nil ?_
          intro z
          have kZ := z.blk kD
          have fZ := kZ.frozen
          have hcz := z.cell hcell
          have hBz := hB2.trans (z.le.mono (by have := kD.lt; omega))
          go_wp2_with fail
          go_roundw
          case rel => exact ⟨k + 1, _, by omega, by go_num, kZ.set_ (11264 + k) (.int .i64 (j : Int)), Lib.hid (hset.out.ext (fun o i ho hi => by
            simp only [frB_none]
            by_cases e : o = k
            · subst e
              rw [hq'.out]; simp
            · by_cases e2 : o < k
              · simp [e, e2, show o < k + 1 by omega]
              · simp [e, e2, show ¬ o < k + 1 by omega]) (fun o ho => by
            by_cases e : o = k
            · subst e
              have hc : cntB (frB pg (fun _ => false) o) 1024 = j := by
                rw [cntB_ext 1024 (g := fun i => decide (i < j)) (fun i hi => by rw [frB_none, hq'.out]), cntB_lt]; omega
              simp [hc]
            · by_cases e2 : o < k
              · simp [e, e2, show o < k + 1 by omega]
              · simp [e, e2, show ¬ o < k + 1 by omega])), hBz.setCell (p := ⟨s, 11264 + k, none⟩) (by simp) _⟩
          case measure => simp [intOf]; omega
    · obtain rfl : k = P + 1 := by omega
      have hgt : Hid (pg < 2 ^ (P + 1)) := Lib.hid (by rw [hpg'.out, Nat.pow_succ]; have := Nat.two_pow_pos P; omega)
      have hle' : decide (pw ((P + 1 : Nat) : Int) ≤ (pg : Int)) = false := by rw [hpwk, decide_eq_false_iff_not]; intro h; have := Int.ofNat_le.1 h; have := hgt.out; omega
      have hfin := Lib.hid (hR.out.ext (g := frB pg fun _ => false) (mn' := fun o => ((cntB (frB pg (fun _ => false) o) 1024 : Nat) : Int)) (fun o i ho hi => by
        by_cases e : o < P + 1
        · simp [e]
        · have hz0 : pg / 2 ^ o = 0 := Nat.div_eq_of_lt (Nat.lt_of_lt_of_le hgt.out (Nat.pow_le_pow_right (by decide) (by omega)))
          rw [frB_none, hz0]; simp [e]) (fun o ho => by
        by_cases e : o < P + 1
        · simp [e]
        · have hz0 : pg / 2 ^ o = 0 := Nat.div_eq_of_lt (Nat.lt_of_lt_of_le hgt.out (Nat.pow_le_pow_right (by decide) (by omega)))
          have hc : cntB (frB pg (fun _ => false) o) 1024 = 0 := by
            rw [cntB_ext 1024 (g := fun i => decide (i < 0)) (fun i hi => by rw [frB_none, hz0]), cntB_lt]; rfl
          simp [e, hc]))
      clear hpwk
      generalize pw ((P + 1 : Nat) : Int) = p at *
      go_wp2_with (go_at_call 86; refine (HS.out _).mono ?_; rintro e wS ⟨rfl, hwS⟩; subst hwS)
      go_ret
      rw [hs'.out]
      exact ⟨rfl, ⟨cs, kB, hfin.out⟩, hB⟩

/-- free places after a block has been taken -/
def takeF (f : Nat → Nat → Bool) (page od : Nat) (o i : Nat) : Bool := f o i && !(decide (page / 2 ^ o ≤ i) && decide (i ≤ (page + 2 ^ od - 1) / 2 ^ o))
/-- .. up to place j of order k -/
def takeU (f : Nat → Nat → Bool) (page od k j : Nat) (o i : Nat) : Bool := if o < k then takeF f page od o i else if o = k then f o i && !(decide (page / 2 ^ o ≤ i) && decide (i < j)) else f o i
theorem takeU_zero (f : Nat → Nat → Bool) (page od o i : Nat) : takeU f page od 0 0 o i = f o i := by
  unfold takeU
  by_cases h : o = 0 <;> simp [h]
theorem takeU_first (f : Nat → Nat → Bool) (page od k o i : Nat) : takeU f page od k (page / 2 ^ k) o i = takeU f page od k 0 o i := by
  unfold takeU
  by_cases h : o = k
  · subst h
    have : (decide (page / 2 ^ o ≤ i) && decide (i < page / 2 ^ o)) = false := by
      by_cases h1 : page / 2 ^ o ≤ i
      · rw [decide_eq_false (show ¬ i < page / 2 ^ o by omega)]; simp
      · rw [decide_eq_false h1]; simp
    simp [this]
  · simp [h]
theorem takeU_at (f : Nat → Nat → Bool) (page od k j : Nat) : takeU f page od k j k j = f k j := by simp [takeU]
theorem takeU_step (f : Nat → Nat → Bool) (page od k j o i : Nat) (hj : page / 2 ^ k ≤ j) : takeU f page od k (j + 1) o i = if o = k ∧ i = j then false else takeU f page od k j o i := by
  unfold takeU
  by_cases h : o = k
  · subst h
    by_cases h2 : i = j
    · subst h2; simp [hj]
    · have : decide (i < j + 1) = decide (i < j) := by
        by_cases h3 : i < j
        · rw [decide_eq_true h3, decide_eq_true (by omega)]
        · rw [decide_eq_false h3, decide_eq_false (by omega)]
      simp [h2, this]
  · simp [h]
theorem takeU_last (f : Nat → Nat → Bool) (page od k o i : Nat) : takeU f page od k ((page + 2 ^ od - 1) / 2 ^ k + 1) o i = takeU f page od (k + 1) 0 o i := by
  unfold takeU
  by_cases h1 : o < k
  · simp [h1, show o < k + 1 by omega]
  · by_cases h : o = k
    · subst h
      simp [takeF, Nat.lt_succ_iff]
    · by_cases h2 : o = k + 1
      · subst h2; simp [show ¬ k + 1 < k by omega]
      · simp [h1, h, h2, show ¬ o < k + 1 by omega]
theorem takeU_end (f : Nat → Nat → Bool) (page od o i : Nat) (ho : o < 11) : takeU f page od 11 0 o i = takeF f page od o i := by simp [takeU, ho]
def cntI (f : Nat → Nat → Bool) (o : Nat) : Int := ((cntB (f o) 1024 : Nat) : Int)
theorem cntI_ext {f g : Nat → Nat → Bool} {o : Nat} (h : ∀ i, i < 1024 → f o i = g o i) : cntI f o = cntI g o := by
  unfold cntI; rw [cntB_ext 1024 h]
set_option maxRecDepth 100000 in
set_option maxHeartbeats 1600000 in
theorem take_any (B : Nat) (f : Nat → Nat → Bool) (page od : Nat) (cs : Array Value) (w : World) (hod : od ≤ 10) (hpage : page + 2 ^ od ≤ 1024) (kB : Blk w B 309 cs) (hR : RoomAre cs f (cntI f)) :
    Calls Tryz.prog 229 #[.pointer (some ⟨B, 0, none⟩), .int .i64 page, .int .i64 od] w fun e w' => e = .returned (.tuple #[]) ∧ (∃ cs', Blk w' B 309 cs' ∧ RoomAre cs' (takeF f page od) (cntI (takeF f page od))) ∧ Far (fun k => k = B) w w' := by
  have HS := Lib.hid (fun W => size_any (od : Int) W (by omega))
  rw [pw_nat] at HS
  obtain ⟨sz, hsz⟩ : ∃ sz, 2 ^ od = sz := ⟨_, rfl⟩
  have hsz1 : 1 ≤ sz := by rw [← hsz]; exact Nat.two_pow_pos od
  rw [hsz] at HS hpage
  have hsz' := Lib.hid hsz
  clear hsz
  go_enter Tryz.func229, Tryz.ntmps229
  go_wp2_with fail
  go_loopw [10] (fun i wr => ∃ (k : Nat) (ds : Array Value), k ≤ 11 ∧ i = .int .i64 k ∧ Blk wr B 309 ds ∧ Hid (RoomAre ds (takeU f page od k 0) (cntI (takeU f page od k 0))) ∧ Far (fun k => k = B) w wr) (fun i _ => 11 - (intOf i).toNat)
  case atStart => exact ⟨0, cs, by omega, rfl, kB, Lib.hid (hR.ext (fun o i _ _ => (takeU_zero f page od o i).symm) (fun o _ => cntI_ext (fun i _ => (takeU_zero f page od o i).symm))), Far.refl _ _⟩
  case round =>
    obtain ⟨k, ds, hk, rfl, kD, hD, hF⟩ := hrel
    by_cases hlt : k < 11
    · have hlt' : decide ((k : Int) < 11) = true := by simp; omega
      obtain ⟨a, ha⟩ : ∃ a, page / 2 ^ k = a := ⟨_, rfl⟩
      obtain ⟨b, hb⟩ : ∃ b, (page + sz - 1) / 2 ^ k = b := ⟨_, rfl⟩
      have hsh1 : ((page : Int) / 2 ^ k) = (a : Int) := by rw [← ha]; simp
      have hsh2 : (((page : Int) + (sz : Int) - 1) / 2 ^ k) = (b : Int) := by
        rw [← hb, show (page : Int) + (sz : Int) - 1 = ((page + sz - 1 : Nat) : Int) by omega]; simp
      have hb1023 : b ≤ 1023 := by rw [← hb]; exact Nat.le_trans (Nat.div_le_self _ _) (by omega)
      have ha' := Lib.hid ha
      have hb' := Lib.hid hb
      clear ha hb
      have G := Lib.hid (fun z : Ext wr => Ext.call (x := z) ((HS.out z.w).mono (fun e w' h => ⟨h.1, by rw [h.2]; exact Below.refl _ _⟩)))
      go_upto_region 3 with fail
      refine region_ext (by kernel_rfl) (by kernel_rfl) ?_
      repeat (go_big_quiet_step ((go_at_call 86; exact G.out _)))
      refine wpQuiet_nil ?_
      rintro w3 ⟨⟨_, hw3⟩, rfl⟩
      have kD3 := kD.call hw3
      have hF3 := hF.trans ((Far.of_below (T := fun k => k = B) hw3))
      have hab : a ≤ b + 1 := by rw [← ha'.out, ← hb'.out]; have := Nat.div_le_div_right (c := 2 ^ k) (show page ≤ page + sz - 1 by omega); omega
      have hD3 : Hid (RoomAre ds (takeU f page od k a) (cntI (takeU f page od k a))) := Lib.hid (hD.out.ext (fun o i _ _ => by rw [← ha'.out]; exact (takeU_first f page od k o i).symm) (fun o _ => cntI_ext (fun i _ => by rw [← ha'.out]; exact (takeU_first f page od k o i).symm)))
      clear kD hF hD hw3 G
      go_wp2_with fail
      go_loopw [9] (fun i wr2 => ∃ (j : Nat) (es : Array Value), a ≤ j ∧ j ≤ b + 1 ∧ i = .int .i64 j ∧ Blk wr2 B 309 es ∧ Hid (RoomAre es (takeU f page od k j) (cntI (takeU f page od k j))) ∧ Far (fun k => k = B) w wr2) (fun i _ => b + 1 - (intOf i).toNat)
      case atStart => exact ⟨a, ds, Nat.le_refl _, hab, rfl, kD3, hD3, hF3⟩
      case round =>
        clear kD3 hF3 hD3
        obtain ⟨j, es, haj, hj, rfl, kE, hE, hF⟩ := hrel
        by_cases hlt2 : j ≤ b
        · have hlt2' : decide ((j : Int) ≤ (b : Int)) = true := by simpa using hlt2
          have hlt3' : decide ((j : Int) < 1024) = true := by simp; omega
          have hcell : _ := (kE.cell (k * 1024 + j)).trans (hE.out.at_ k j (by omega) (by omega))
          rw [takeU_at] at hcell
          have fE := kE.frozen
          cases hv : f k j with
          | false =>
            rw [hv] at hcell
            have hE2 : Hid (RoomAre es (takeU f page od k (j + 1)) (cntI (takeU f page od k (j + 1)))) := Lib.hid (by
              have hs : ∀ o i, takeU f page od k (j + 1) o i = takeU f page od k j o i := fun o i => by
                rw [takeU_step f page od k j o i (by rw [ha'.out]; exact haj)]
                split
                · rename_i h; rw [h.1, h.2, takeU_at, hv]
                · rfl
              exact hE.out.ext (fun o i _ _ => (hs o i).symm) (fun o _ => cntI_ext (fun i _ => (hs o i).symm)))
            clear hE hv
            go_wp2_with fail
            go_roundw
            case rel => exact ⟨j + 1, es, by omega, by omega, by go_num, kE, hE2, hF⟩
            case measure => simp [intOf]; omega
          | true =>
            rw [hv] at hcell
            have kE2 := kE.set_ (k * 1024 + j) (.bool false)
            have hE2 := Lib.hid (hE.out.setF (o := k) (i := j) (by omega) (by omega) false)
            have hF2 : Far (fun k => k = B) w (wr.setCell ⟨B, k * 1024 + j, none⟩ (.bool false)) := hF.setCell (p := ⟨B, k * 1024 + j, none⟩) (fun _ => rfl) _
            have hmn := (kE2.cell (11264 + k)).trans (hE2.out.many k (by omega))
            obtain ⟨c, hc⟩ : ∃ c, cntI (takeU f page od k j) k = c := ⟨_, rfl⟩
            have hcb : 0 ≤ c ∧ c ≤ 1024 := by rw [← hc]; unfold cntI; have := cntB_le (takeU f page od k j k) 1024; omega
            rw [hc] at hmn
            have hE3 := Lib.hid (hE2.out.setM (o := k) (by omega) (c - 1))
            have hE4 : Hid (RoomAre ((es.setIfInBounds (k * 1024 + j) (.bool false)).setIfInBounds (11264 + k) (.int .i64 (c - 1))) (takeU f page od k (j + 1)) (cntI (takeU f page od k (j + 1)))) := Lib.hid (by
              have hs : ∀ o i, (if o = k ∧ i = j then false else takeU f page od k j o i) = takeU f page od k (j + 1) o i := fun o i => (takeU_step f page od k j o i (by rw [ha'.out]; exact haj)).symm
              refine hE3.out.ext (fun o i _ _ => hs o i) (fun o _ => ?_)
              by_cases e : o = k
              · subst e
                rw [if_pos rfl, ← hc]
                have hcl := cntB_clear (f := takeU f page od o j o) (k := j) (by rw [takeU_at]; exact hv) 1024 (by omega)
                have hx : cntB (fun i => takeU f page od o j o i && !(i == j)) 1024 = cntB (takeU f page od o (j + 1) o) 1024 := cntB_ext 1024 (fun i _ => by
                  rw [← hs o i]
                  by_cases h : i = j
                  · simp [h]
                  · simp [h])
                unfold cntI
                rw [← hx]
                omega
              · rw [if_neg e]
                exact cntI_ext (fun i _ => by rw [← hs o i]; simp [e]))
            go_upto_region 9 with fail
            clear hcell hE hE2 hE3 hv hF fE
            generalize wr.setCell ⟨B, k * 1024 + j, none⟩ (.bool false) = w4 at *
            have q1 := fun z : Ext w4 => z.cell hmn
            refine region_ext_tail 9 (by kernel_rfl) (by kernel_rfl) ?_
            simp only [List.take_succ_cons, List.take_zero, List.drop_succ_cons, List.drop_zero]
            repeat (go_big_quiet_step (fail))
            refine wpQuiet_nil ?_
            intro z
            have kZ := z.blk kE2
            have fZ := kZ.frozen
            have hcz := z.cell hmn
            have hFz := hF2.trans (Far.of_below (T := fun k => k = B) z.le)
            go_wp2_with fail
            go_roundw
            case rel => exact ⟨j + 1, _, by omega, by omega, by go_num, kZ.set_ (11264 + k) (.int .i64 (c - 1)), hE4, hFz.setCell (p := ⟨B, 11264 + k, none⟩) (fun _ => rfl) _⟩
            case measure => simp [intOf]; omega
        · obtain rfl : j = b + 1 := by omega
          have hlt2' : decide (((b + 1 : Nat) : Int) ≤ (b : Int)) = false := by simp; omega
          have hlt2'' : decide ((b : Int) + 1 ≤ (b : Int)) = false := by simp; omega
          have hE2 : Hid (RoomAre es (takeU f page od (k + 1) 0) (cntI (takeU f page od (k + 1) 0))) := Lib.hid (by
            have hs : ∀ o i, takeU f page od k (b + 1) o i = takeU f page od (k + 1) 0 o i := fun o i => by
              rw [← hb'.out, ← hsz'.out]; exact takeU_last f page od k o i
            exact hE.out.ext (fun o i _ _ => hs o i) (fun o _ => cntI_ext (fun i _ => hs o i)))
          clear hE
          go_wp2_with fail
          go_roundw
          case rel => exact ⟨k + 1, es, by omega, by go_num, kE, hE2, hF⟩
          case measure => simp [intOf]; omega
    · obtain rfl : k = 11 := by omega
      have hfin : Hid (RoomAre ds (takeF f page od) (cntI (takeF f page od))) := Lib.hid (hD.out.ext (fun o i ho _ => takeU_end f page od o i ho) (fun o ho => cntI_ext (fun i _ => takeU_end f page od o i ho)))
      clear hD
      go_wp2_with fail
      go_end0
      exact ⟨rfl, ⟨ds, kD, hfin.out⟩, hF⟩
end Go.Proofs.YtpabnbhbcphfiaaGreat
namespace Go.Pol
open Go Go.RowKit
/-- the cells of an array of eleven numbers -/
structure ArrAre (cs : Array Value) (g : Nat → Int) : Prop where
  size : cs.size = 11
  at_ : ∀ t, t < 11 → cs[t]? = some (.int .i64 (g t))
theorem ArrAre.set {cs : Array Value} {g : Nat → Int} (h : ArrAre cs g) {t : Nat} (ht : t < 11) (v : Int) : ArrAre (cs.setIfInBounds t (.int .i64 v)) (fun t' => if t' = t then v else g t') := by
  refine ⟨by simp [h.size], fun t' ht' => ?_⟩
  rw [Array.getElem?_setIfInBounds]
  by_cases e : t = t'
  · subst e
    rw [if_pos rfl, if_pos (by rw [h.size]; exact ht)]
    simp
  · rw [if_neg e, h.at_ t' ht']
    have : ¬ t' = t := fun h => e h.symm
    simp [this]
theorem ArrAre.ext {cs : Array Value} {g g' : Nat → Int} (h : ArrAre cs g) (hg : ∀ t, t < 11 → g t = g' t) : ArrAre cs g' := ⟨h.size, fun t ht => by rw [h.at_ t ht, hg t ht]⟩
def needO (o t : Nat) : Nat := if t ≤ o then 2 ^ (o - t) else 0
theorem needB_snoc (os : List Nat) (o t : Nat) : needB (os ++ [o]) t = needB os t + needO o t := by simp [needB, needO]
theorem needB_le (os : List Nat) (t : Nat) (h : ∀ o ∈ os, o ≤ 10) : needB os t ≤ os.length * 1024 := by
  induction os with
  | nil => simp [needB]
  | cons o r ih =>
    have ih' := ih (fun x hx => h x (by simp [hx]))
    have ho := h o (by simp)
    have : (if t ≤ o then 2 ^ (o - t) else 0) ≤ 1024 := by
      split
      · exact Nat.le_trans (Nat.pow_le_pow_right (by decide) (show o - t ≤ 10 by omega)) (by decide)
      · omega
    simp only [needB, List.map_cons, List.sum_cons, List.length_cons] at ih' ⊢
    omega
end Go.Pol
namespace Go.Proofs.YtpabnbhbcphfiaaGreat
open Go Go.Proofs Go.RowKit Go.Pol Go.Shelf Go.Deep

theorem idx_arr (cs : Array Value) (g : Nat → Int) (h : ArrAre cs g) (t : Nat) (ht : t < 11) (W : World) : (Instr.index 307 (.agg cs) (.int .i64 t)).run Tryz.prog W = .ok (.int .i64 (g t)) W := by
  have u := Tryz.underlying307
  have a3 := Tryz.isAgg3
  have z3 := Tryz.sizeOf3
  have hg := h.at_ t ht
  have h1 : 0 ≤ (t : Int) ∧ (t : Int) < 11 := by omega
  unfold Instr.index
  simp only [Sem.run_bind, run_underlying u, Result.andThen_ok]
  simp [part, asIntOf, a3, Result.andThen, h1, hg]
theorem rangeAt_blk {w : World} {g : Nat} {t : TypeId} {cs : Array Value} (h : Blk w g t cs) : w.rangeAt g 0 cs.toList := fun j v hj => by
  rw [Nat.zero_add, h.cell]; simpa using hj
set_option maxRecDepth 100000 in
set_option maxHeartbeats 1600000 in
theorem holds_any (B : Nat) (f : Nat → Nat → Bool) (cs : Array Value) (A : Option Addr) (n cap : Nat) (os : List Nat) (w : World) (hn : os.length = n) (hn64 : n ≤ 1000) (hos : ∀ o ∈ os, o ≤ 10) (hr : RI w w.heap.size A (os.map fun o : Nat => (o : Int))) (kB : Blk w B 309 cs) (hR : RoomAre cs f (cntI f)) :
    Calls Tryz.prog 230 #[.pointer (some ⟨B, 0, none⟩), .slice A n cap] w fun e w' => e = .returned (.bool (holdsB f os)) ∧ Below w.heap.size w w' := by
  obtain ⟨R, hRR⟩ : ∃ R, holdsB f os = R := ⟨_, rfl⟩
  rw [hRR]
  have hE := Lib.hid hRR
  have hn' := Lib.hid hn
  have hos' := Lib.hid hos
  have hR' := Lib.hid hR
  clear hRR hn hos hR
  have hb0 := (Below.refl w.heap.size w).alloc (Nat.le_refl _) (.cells #[.int .i64 0, .int .i64 0, .int .i64 0, .int .i64 0, .int .i64 0, .int .i64 0, .int .i64 0, .int .i64 0, .int .i64 0, .int .i64 0, .int .i64 0] 307)
  have kN := Blk.new w 307 #[.int .i64 0, .int .i64 0, .int .i64 0, .int .i64 0, .int .i64 0, .int .i64 0, .int .i64 0, .int .i64 0, .int .i64 0, .int .i64 0, .int .i64 0]
  have hz : ArrAre #[.int .i64 0, .int .i64 0, .int .i64 0, .int .i64 0, .int .i64 0, .int .i64 0, .int .i64 0, .int .i64 0, .int .i64 0, .int .i64 0, .int .i64 0] (fun _ => 0) := ⟨rfl, fun t ht => by
    rcases (show t = 0 ∨ t = 1 ∨ t = 2 ∨ t = 3 ∨ t = 4 ∨ t = 5 ∨ t = 6 ∨ t = 7 ∨ t = 8 ∨ t = 9 ∨ t = 10 by omega) with rfl | rfl | rfl | rfl | rfl | rfl | rfl | rfl | rfl | rfl | rfl <;> rfl⟩
  have hlB := kB.lt
  go_enter Tryz.func230, Tryz.ntmps230
  go_upto_region 2 with fail
  generalize w.alloc (.cells #[.int .i64 0, .int .i64 0, .int .i64 0, .int .i64 0, .int .i64 0, .int .i64 0, .int .i64 0, .int .i64 0, .int .i64 0, .int .i64 0, .int .i64 0] 307) = w0 at *
  generalize #[Value.int .i64 0, .int .i64 0, .int .i64 0, .int .i64 0, .int .i64 0, .int .i64 0, .int .i64 0, .int .i64 0, .int .i64 0, .int .i64 0, .int .i64 0] = zc at *
  go_wp2_with fail
  go_loopw [13] (fun i wr => ∃ (k : Nat) (ds : Array Value), k ≤ n ∧ i = .int .i64 k ∧ Blk wr w.heap.size 307 ds ∧ Hid (ArrAre ds (fun t => (needB (os.take k) t : Nat))) ∧ Below w.heap.size w wr) (fun i _ => n - (intOf i).toNat)
  case atStart => exact ⟨0, zc, by omega, rfl, kN, Lib.hid (hz.ext (fun t _ => by simp [needB])), hb0⟩
  case round =>
    obtain ⟨k, ds, hk, rfl, kD, hD, hB⟩ := hrel
    by_cases hlt : k < n
    · have hlt' : decide ((k : Int) < (n : Int)) = true := by simpa using hlt
      obtain ⟨b, o, rfl, hbl, c1⟩ := ((hr.below hB).more hB.size).at_ (k := k) (by rw [List.length_map]; have := hn'.out; omega)
      obtain ⟨od, hod⟩ : ∃ od, os.getD k 0 = od := ⟨_, rfl⟩
      have hge : (os.map fun o : Nat => (o : Int)).getD k 0 = (od : Int) := by
        rw [← hod]
        simp only [List.getD_eq_getElem?_getD, List.getElem?_map]
        rw [List.getElem?_eq_getElem (by have := hn'.out; omega)]; simp
      rw [hge] at c1
      have hmem : od ∈ os := by rw [← hod, List.getD_eq_getElem?_getD, List.getElem?_eq_getElem (by have := hn'.out; omega)]; simp
      have hod10 := hos'.out od hmem
      have hts : Hid (os.take (k + 1) = os.take k ++ [od]) := Lib.hid (by
        rw [List.take_add_one, List.getElem?_eq_getElem (by have := hn'.out; omega), ← hod, List.getD_eq_getElem?_getD, List.getElem?_eq_getElem (by have := hn'.out; omega)]; rfl)
      have hnb := Lib.hid (fun t => needB_le (os.take k) t (fun x hx => hos'.out x (List.mem_of_mem_take hx)))
      clear hge hod hmem
      go_wp2_with fail
      go_loopw [8] (fun i wr2 => ∃ (j : Nat) (es : Array Value), j ≤ od + 1 ∧ i = .int .i64 j ∧ Blk wr2 w.heap.size 307 es ∧ Hid (ArrAre es (fun t => ((needB (os.take k) t + if t < j then needO od t else 0 : Nat) : Int))) ∧ Below w.heap.size w wr2) (fun i _ => od + 1 - (intOf i).toNat)
      case atStart => exact ⟨0, ds, by omega, rfl, kD, Lib.hid (hD.out.ext (fun t _ => by simp)), hB⟩
      case round =>
        clear kD hD hB c1 hbl
        obtain ⟨j, es, hj, rfl, kE, hEs, hB⟩ := hrel
        by_cases hlt2 : j ≤ od
        · have hlt2' : decide ((j : Int) ≤ (od : Int)) = true := by simpa using hlt2
          have HS := Lib.hid (fun W => size_any ((od : Int) - (j : Int)) W (by omega))
          have hpw : pw ((od : Int) - (j : Int)) = ((2 ^ (od - j) : Nat) : Int) := by rw [show (od : Int) - (j : Int) = ((od - j : Nat) : Int) by omega, pw_nat]
          rw [hpw] at HS
          have hq1024 : 2 ^ (od - j) ≤ 1024 := Nat.le_trans (Nat.pow_le_pow_right (by decide) (show od - j ≤ 10 by omega)) (by decide)
          have hno : Hid (needO od j = 2 ^ (od - j)) := Lib.hid (by unfold needO; rw [if_pos hlt2])
          obtain ⟨q, hq⟩ : ∃ q, 2 ^ (od - j) = q := ⟨_, rfl⟩
          rw [hq] at HS hq1024
          have hno' : Hid (needO od j = q) := Lib.hid (by rw [hno.out, hq])
          clear hpw hq hno
          have hcell : _ := (kE.cell j).trans (hEs.out.at_ j (by omega))
          obtain ⟨nd, hnd⟩ : ∃ nd, needB (os.take k) j = nd := ⟨_, rfl⟩
          have hnd64 : nd ≤ 1024000 := by
            rw [← hnd]
            have := hnb.out j
            have h2 : (os.take k).length ≤ n := by rw [List.length_take]; omega
            have h3 : (os.take k).length * 1024 ≤ n * 1024 := Nat.mul_le_mul_right _ h2
            omega
          have hcv : Hid (((needB (os.take k) j + if j < j then needO od j else 0 : Nat) : Int) = (nd : Int)) := Lib.hid (by rw [hnd]; simp)
          rw [hcv.out] at hcell
          have hset := Lib.hid (hEs.out.set (t := j) (by omega) ((nd : Int) + (q : Int)))
          have hnext : Hid (ArrAre (es.setIfInBounds j (.int .i64 ((nd : Int) + (q : Int)))) (fun t => ((needB (os.take k) t + if t < j + 1 then needO od t else 0 : Nat) : Int))) := Lib.hid (hset.out.ext (fun t _ => by
            by_cases e : t = j
            · subst e
              rw [if_pos rfl, if_pos (by omega), hnd, hno'.out]; rfl
            · rw [if_neg e]
              by_cases e2 : t < j
              · rw [if_pos e2, if_pos (by omega)]
              · rw [if_neg e2, if_neg (by omega)]))
          have q1 := fun z : Ext wr => z.cell hcell
          have G := Lib.hid (fun z : Ext wr => Ext.call (x := z) ((HS.out z.w).mono (fun e w' h => ⟨h.1, by rw [h.2]; exact Below.refl _ _⟩)))
          clear hEs hset hcv
          go_upto_region 8 with fail
          refine region_ext_tail 9 (by kernel_rfl) (by kernel_rfl) ?_
          simp only [List.take_succ_cons, List.take_zero, List.drop_succ_cons, List.drop_zero]
          repeat (go_big_quiet_step ((go_at_call 86; exact G.out _)))
          refine wpQuiet_nil ?_
          intro z
          have kZ := z.blk kE
          have fZ := kZ.frozen
          have hcz := z.cell hcell
          have hBz := hB.trans (z.le.mono hB.size)
          go_wp2_with fail
          go_roundw
          case rel => exact ⟨j + 1, _, by omega, by go_num, kZ.set_ j (.int .i64 ((nd : Int) + (q : Int))), hnext, hBz.setCell (p := ⟨w.heap.size, j, none⟩) (by simp) _⟩
          case measure => simp [intOf]; omega
        · obtain rfl : j = od + 1 := by omega
          have hlt2' : decide (((od + 1 : Nat) : Int) ≤ (od : Int)) = false := by simp; omega
          have hlt2'' : decide ((od : Int) + 1 ≤ (od : Int)) = false := by simp; omega
          have hnext : Hid (ArrAre es (fun t => (needB (os.take (k + 1)) t : Nat))) := Lib.hid (hEs.out.ext (fun t _ => by
            rw [hts.out, needB_snoc]
            unfold needO
            by_cases e : t ≤ od
            · rw [if_pos (by omega)]
            · rw [if_neg (by omega), if_neg e]))
          clear hEs
          go_wp2_with fail
          go_roundw
          case rel => exact ⟨k + 1, es, by omega, by go_num, kE, hnext, hB⟩
          case measure => simp [intOf]; omega
    · obtain rfl : k = n := by omega
      have hlt' : decide ((k : Int) < (k : Int)) = false := by simp
      have hD2 : Hid (ArrAre ds (fun t => (needB os t : Nat))) := Lib.hid (hD.out.ext (fun t _ => by rw [List.take_of_length_le (by have := hn'.out; omega)]))
      have hsz := hD2.out.size
      have hidx := fun t ht W => idx_arr ds _ hD2.out t ht W
      have hidx' := Lib.hid hidx
      clear hD hidx
      go_wp2_with (refine wpList_load_mid rfl 307 (.tmp 5) rfl w.heap.size 0 rfl ds.toList _ (rangeAt_blk kD) Tryz.underlying307 rfl (by rw [Array.length_toList, hsz]; kernel_rfl) ?_; rw [Array.toArray_toList])
      have kR := kB.call hB
      have hcR := kR.cell
      go_loopw [33] (fun i wr2 => ∃ j : Nat, j ≤ 11 ∧ i = .int .i64 j ∧ wr2 = wr ∧ Hid (∀ t, t < j → needB os t ≤ cntB (f t) 1024)) (fun i _ => 11 - (intOf i).toNat)
      case atStart => exact ⟨0, by omega, rfl, rfl, Lib.hid (by omega)⟩
      case round =>
        obtain ⟨j, hj, rfl, hw, hL⟩ := hrel
        have hw' := hw.symm
        clear hw
        subst hw'
        by_cases hlt2 : j < 11
        · have hlt2' : decide ((j : Int) < 11) = true := by simp; omega
          have hx := hidx'.out j hlt2
          have hcell : _ := (kR.cell (11264 + j)).trans (hR'.out.many j hlt2)
          obtain ⟨c, hc⟩ : ∃ c, cntB (f j) 1024 = c := ⟨_, rfl⟩
          have hcI : Hid (cntI f j = (c : Int)) := Lib.hid (by unfold cntI; rw [hc])
          rw [hcI.out] at hcell
          obtain ⟨nd, hnd⟩ : ∃ nd, needB os j = nd := ⟨_, rfl⟩
          rw [hnd] at hx
          have hc' := Lib.hid hc
          have hnd' := Lib.hid hnd
          clear hc hnd hcR
          by_cases hcmp : c < nd
          · have hcmp' : decide ((c : Int) < (nd : Int)) = true := by simpa using hcmp
            have hF : Hid (R = false) := Lib.hid (by
              rw [← hE.out]
              cases h : holdsB f os with
              | false => rfl
              | true =>
                have := (List.all_eq_true.1 h) j (List.mem_range.2 hlt2)
                rw [hnd'.out, hc'.out] at this
                simp at this; omega)
            clear hE hL
            go_wp2_with fail
            go_ret
            exact ⟨ret_bool hF.out.symm, hB⟩
          · have hcmp' : decide ((c : Int) < (nd : Int)) = false := by simpa using hcmp
            have hL2 : Hid (∀ t, t < j + 1 → needB os t ≤ cntB (f t) 1024) := Lib.hid (fun t ht => by
              by_cases e : t = j
              · subst e; rw [hnd'.out, hc'.out]; omega
              · exact hL.out t (by omega))
            clear hL
            go_wp2_with fail
            go_roundw
            case rel => exact ⟨j + 1, by omega, by go_num, by first | rfl | trivial, hL2⟩
            case measure => simp [intOf]; omega
        · obtain rfl : j = 11 := by omega
          have hT : Hid (R = true) := Lib.hid (by
            rw [← hE.out]
            exact List.all_eq_true.2 (fun t ht => by simpa using hL.out t (List.mem_range.1 ht)))
          clear hE hL
          go_wp2_with fail
          go_ret
          exact ⟨ret_bool hT.out.symm, hB⟩
end Go.Proofs.YtpabnbhbcphfiaaGreat
