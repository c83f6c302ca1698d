/- Merged texts. Walks of layer 13: slices.AppendSeq and slices.Collect over groups that a function value hands out. The stable sort of groups by their live pages: the comparison; up to 20 groups (one insertion sort). Walk of layer 13: Choose. Walks: the reference's Has, Meets and Count; the program's Meets. Walks: the reference's Union, Meet, Minus and Not. Plain laws for the reference of layer 13: what its calls into layer 03 say of groups. Walks of layer 13: slices.Contains of ints; Split. Walks of layer 13: the reference's span, in, live. Walk of layer 13: the reference's Check. Walks of layer 13: the reference's Score, touched, Split. Walks of layer 13: the reference's touched, Split. Walks of layer 13: the law's ints, Example, far. Plain laws for layer 13: the example's values; a sort of Array.insertionSort's kind keeps the size. -/
import Derived.Shelf.SlSortCmp.WholeK
import Derived.Ground.SlsfProg
import Derived.Sort.OwnSortedInts
import Derived.Test.YtpabnbhbcphfiaaGreatS3
namespace Go.Proofs.YtpabnbhbcphfiaaGreat
open Go Go.Proofs Go.RowKit Go.Pol Go.Shelf
attribute [local go_sem] Oper.semAt_some Go.Pol.wide_fn Go.Pol.wide_depth Go.Pol.wide_fn' Go.Pol.wide_depth'

theorem infoGp : (Tryz.prog.info? 198).map (fun i => (i.zero, i.size, i.bytes)) = some (some (.agg #[.int .i64 0, .int .i64 0, .int .i64 0, .bool false]), 4, 32) := by kernel_rfl
theorem infoGp_parts : ∃ i0, Tryz.prog.info? 198 = some i0 ∧ i0.zero = some (.agg #[.int .i64 0, .int .i64 0, .int .i64 0, .bool false]) ∧ i0.size = 4 ∧ i0.bytes = 32 := by
  obtain ⟨i0, h⟩ := info_parts infoGp
  exact ⟨i0, h⟩
set_option maxRecDepth 100000 in
set_option maxHeartbeats 3200000 in
theorem appendSeqG_any (g : Nat) (lb : Array Value) (K : Nat → Prop) (xs : List Gp) (w : World) (hxs : xs.length ≤ 1000000)
    (hseq : SeqX Tryz.prog g lb gA (fun _ => False) K xs w) (eg : ∀ args w, (callFunc g args).run Tryz.prog w = .ok (.enter g args) w) (hK : ∀ k, K k → k < w.heap.size) :
    Calls Tryz.prog 214 #[.slice none 0 0, .func (.func g) #[] lb] w fun e w' => ∃ v, e = .returned v ∧ w'.ownsRow w.heap.size 198 4 v xs.length (gCells xs) ∧ Below w.heap.size w w' := by
  obtain ⟨i0, hi, hz0, hz1, hz2⟩ := infoGp_parts
  obtain ⟨s, hs⟩ : ∃ s, w.heap.size = s := ⟨_, rfl⟩
  obtain ⟨W0, hW0⟩ : ∃ W0, w.alloc (.cells #[.slice none 0 0] 202) = W0 := ⟨_, rfl⟩
  have hs0 : W0.heap.size = s + 1 := by rw [← hW0, ← hs]; simp
  have kO : Blk W0 s 202 #[.slice none 0 0] := by rw [← hW0, ← hs]; exact Blk.new _ _ _
  have hb0 : Below s w W0 := by rw [← hW0, ← hs]; exact (Below.refl w.heap.size w).alloc (Nat.le_refl _) _
  have hF0 : Far (fun _ => False) w W0 := .of_below (by rw [hs]; exact hb0)
  have hW1 := Lib.hid hW0
  clear hW0
  refine calls_of_marks Tryz.func214 rfl ?_
  simp only [Tryz.ntmps214, List.size_toArray, List.length_cons, List.length_nil, Nat.reduceAdd, Nat.reduceSub, Array.replicate_succ, Array.replicate_zero, List.push_toArray, List.append_toArray, List.nil_append, List.cons_append]
  go_wp2_with fail
  rw [hW1.out]
  clear hW1
  have ls1 := kO.lt
  have hlen : ∀ (pre : List Gp) (x : Gp), pre ++ [x] <+: xs → pre.length < 1000000 := fun pre x h => by
    have := h.length_le
    simp at this
    omega
  refine rangeXG 5 7 198 (gf := g) (lb := lb) rfl eg (hseq.later (hF0.mono fun _ _ h => h.elim)) rfl (fun _ h => h.elim) (fun k h => by have := hK k h; omega)
    (fun X pre W => BoxX X W s 202 198 (s + 3) 4 pre.length (gCells pre) ∧ Below s w W ∧ ∀ k, X k → s ≤ k)
    (fun _ _ _ _ => False)
    (fun X pre A B h hf => ⟨h.1.far hf (by rintro (h | h | h | h) <;> first | exact h | exact h.elim | omega) (fun g hg => by rintro (h | h | h | h) <;> first | exact h | exact h.elim | omega),
      h.2.1.trans (hf.below (by rw [← hs]; exact h.2.1.size) (fun k hk => by rintro (h' | h' | h' | h'); exact h'; have := h.2.2 k h'; omega; omega; omega)), h.2.2⟩)
    (fun _ _ _ _ _ h _ => h.elim)
    (fun X X' pre A h hX => ⟨h.1.new hX, h.2.1, fun k hk => (hX _ hk).elim (h.2.2 k) (fun h' => by have := h.2.1.size; omega)⟩)
    ⟨⟨_, kO, World.ownsRow_nil _ _ _ _, id, fun _ _ => id⟩, hb0, fun _ h => h.elim⟩ ?assign ?body ?done (fun _ _ _ _ _ _ h _ => h.elim)
  case assign =>
    intro m l x W C hC
    obtain ⟨xn, xc, xl, xh⟩ := x
    simp only [gV, List.setIfInBounds_toArray, List.set_cons_succ, List.set_cons_zero] at hC ⊢
    gi_wp2
    exact hC
  case body =>
    rintro m l X pre x Bx Wa W hsz hXlt ⟨hbox, hB, hXs⟩ hpre hBx kx hBa
    simp only [List.setIfInBounds_toArray, List.set_cons_succ, List.set_cons_zero]
    have hlt := hlen pre x hpre
    obtain ⟨v, hv, hrow, hXB, hXg⟩ := hbox.ex
    obtain ⟨A', cap', rfl⟩ := own_nilG hrow rfl
    obtain ⟨pl, hpl⟩ : ∃ pl, pre.length = pl := ⟨_, rfl⟩
    obtain ⟨xa, xo, xl, xc⟩ := x
    dsimp only at kx
    have cx := kx.cell
    have cv := hv.cell
    have fv := hv.frozen
    have kN := Blk.new W 198 #[.int .i64 xa, .int .i64 xo, .int .i64 xl, .bool xc]
    have hXl2 : ∀ k, X k → k < W.heap.size := fun k hk => by have := (hXlt k hk).1; have := kx.lt; omega
    rw [hpl] at hrow hv cv hlt hXg
    gi_wp2_with (gi_at_builtin; refine wpListIn_append_x _ rfl (.tmp 8) (.tmp 10) 202 rfl (s + 3) 198 i0 (.agg #[.int .i64 0, .int .i64 0, .int .i64 0, .bool false]) 4 32 Tryz.underlying202 hi hz0 hz1 hz2 rfl (by decide) _ pl (gCells pre) rfl (hrow.alloc _) ⟨W.heap.size, 0, none⟩ 1 1 [.int .i64 xa, .int .i64 xo, .int .i64 xl, .bool xc] rfl rfl (news_four kN) news_one4 (by unfold maxLen; omega) (by omega) (by simp; omega) ?_; intro v' w1 hown' hgrow hblk; rw [← gCells_snoc pre (xa, xo, xl, xc)] at hown'; obtain ⟨hv1, hb2, hf2⟩ := BoxX.appended hv (by decide) hrow hXB hXg hown' hgrow hblk hXl2; obtain ⟨A2, cap2, rfl⟩ := own_nilG hown' (by simp; omega); have cv1 := hv1.cell; have fv1 := hv1.frozen)
    have hgx : ∀ g, (Value.slice A' pl cap').ownBlock = some g → s + 3 ≤ g ∧ ¬ X g := fun g hg => ⟨(hrow.lt g hg).1, hXg g hg⟩
    have hf3 := hf2 (fun k => k = s ∨ (Value.slice A' pl cap').ownBlock = some k) (.inl rfl) (fun g hg => .inr hg)
    refine ⟨hf3.mono fun k _ h => ?_, ?_, hB.trans (hf3.below (by have := hB.size; omega) fun k hk => ?_), hXs⟩
    · rintro (h' | h' | h' | h')
      · have := hK k h'
        rcases h with h | h
        · omega
        · have := hgx k h; omega
      · rcases h with h | h
        · exact hXB (h ▸ h')
        · exact (hgx k h).2 h'
      · rcases h with h | h
        · omega
        · have := hgx k h; omega
      · rcases h with h | h
        · omega
        · have := hgx k h; omega
    · rw [List.length_append, List.length_singleton, hpl]; exact hb2
    · rintro (h | h)
      · omega
      · have := hgx _ h; omega
  case done =>
    rintro X W hsz ⟨hbox, hB, hXs⟩ hd
    obtain ⟨v, hv, hrow, hXB, hXg⟩ := hbox.ex
    have cv := hv.cell
    obtain ⟨A', cap', rfl⟩ := own_nilG hrow rfl
    rw [hs0] at hd hsz
    go_wp2_with fail
    rw [hs0]
    have hfp : Far (fun k => k = s + 1) W (W.putObj (s + 1) (.deferred none)) := Far.putObj (T := fun k => k = s + 1) (Far.refl _ _) (fun _ => rfl) _
    have hrow3 := ownsRow_far hrow hfp (fun g hg h => by have := (hrow.lt g hg).1; omega)
    exact leave_mark (v := .slice A' xs.length cap') hd (by simp [results, Tryz.results214, go_sem]) ⟨_, rfl, ownsRow_base hrow3 (by omega), by rw [hs]; exact hB.trans (hfp.below (by have := hB.size; omega) (fun k hk => by omega))⟩

theorem collectG_any (g : Nat) (lb : Array Value) (K : Nat → Prop) (xs : List Gp) (w : World) (hxs : xs.length ≤ 1000000)
    (hseq : SeqX Tryz.prog g lb gA (fun _ => False) K xs w) (eg : ∀ args w, (callFunc g args).run Tryz.prog w = .ok (.enter g args) w) (hK : ∀ k, K k → k < w.heap.size) :
    Calls Tryz.prog 168 #[.func (.func g) #[] lb] w fun e w' => ∃ v, e = .returned v ∧ w'.ownsRow w.heap.size 198 4 v xs.length (gCells xs) ∧ Below w.heap.size w w' := by
  have HA := Lib.hid (appendSeqG_any g lb K xs w hxs hseq eg hK)
  go_enter Tryz.func168, Tryz.ntmps168
  go_wp2_with (go_at_call 214; refine (HA.out).mono ?_; rintro e w1 ⟨v, rfl, hown, hf⟩)
  go_ret
  exact ⟨v, rfl, hown, hf⟩
end Go.Proofs.YtpabnbhbcphfiaaGreat
namespace Go.Proofs.YtpabnbhbcphfiaaGreat
open Go Go.Proofs Go.RowKit Go.Pol Go.Shelf Go.Sort

def encG (x : Gp) : List Value := [.int .i64 x.1, .int .i64 x.2.1, .int .i64 x.2.2.1, .bool x.2.2.2]
theorem flat_cellsG (us : List Gp) : (flatK encG 4 us.toArray).toList = gCells us := by
  apply List.ext_getElem?
  intro t
  have hl := gCells_len us
  by_cases ht : t < us.length * 4
  · have h1 : (flatK encG 4 us.toArray).toList[t]? = some ((encG us.toArray[t / 4]!)[t % 4]!) := by
      rw [← get_flatK encG 4 us.toArray t (by simpa using ht)]
      rw [Array.getElem?_toList, getElem!_pos _ t (by simpa using ht), Array.getElem?_eq_getElem (by simpa using ht)]
    rw [h1]
    have hk : t / 4 < us.length := by omega
    have hat := gCells_at us (t / 4) hk
    have hg : us.toArray[t / 4]! = us.getD (t / 4) gp0 := by
      rw [List.getD_eq_getElem?_getD, List.getElem?_eq_getElem hk, getElem!_pos _ _ (by simpa using hk)]; simp
    rw [hg]
    rcases (show t % 4 = 0 ∨ t % 4 = 1 ∨ t % 4 = 2 ∨ t % 4 = 3 by omega) with h | h | h | h
    · rw [h, show t = t / 4 * 4 by omega, hat.1]; simp [encG]
    · rw [h]
      have e : t = t / 4 * 4 + 1 := by omega
      generalize t / 4 = k at *
      subst e
      rw [hat.2.1]; simp [encG]
    · rw [h]
      have e : t = t / 4 * 4 + 2 := by omega
      generalize t / 4 = k at *
      subst e
      rw [hat.2.2.1]; simp [encG]
    · rw [h]
      have e : t = t / 4 * 4 + 3 := by omega
      generalize t / 4 = k at *
      subst e
      rw [hat.2.2.2]; simp [encG]
  · rw [List.getElem?_eq_none (by simp; omega), List.getElem?_eq_none (by omega)]
theorem owns_putG {w : World} {base g n cap m : Nat} {e : TypeId} {os : Array Obj} {xs : List Value} (F : Array Value) (hF : F.size = n * 4) (h : w.ownsRow base e 4 (.slice (some ⟨g, 0, none⟩) n cap) n xs) :
    (grow (putRow id (Sort.ahead w m) g 0 F) os).ownsRow base e 4 (.slice (some ⟨g, 0, none⟩) n cap) n F.toList := by
  rcases h.2 with ⟨h0, _⟩ | ⟨g', cap', cur, hv, hbase, hb, h1, h2, h3, _⟩
  · cases h0
  cases hv
  exact ⟨by simpa using hF, .inr ⟨g, cap, _, rfl, hbase, heap_putF _ hb, h1, h2, by simp [putCells, h3], by rw [← hF]; exact take_putF cur F (by rw [hF, h3]; exact Nat.mul_le_mul_right 4 h1)⟩⟩
theorem holds_ownG {w : World} {base g n cap : Nat} {e : TypeId} {us : List Gp} (hn : us.length = n) (h : w.ownsRow base e 4 (.slice (some ⟨g, 0, none⟩) n cap) n (gCells us)) : HoldsK encG 4 w g 0 us.toArray := by
  intro j hj
  have hj' : j < us.length * 4 := by simpa using hj
  rw [Nat.zero_add]
  refine ⟨?_, h.frozenAt j⟩
  rw [h.cellAt j (by omega), ← flat_cellsG, Array.getElem?_toList, getElem!_pos _ j hj, Array.getElem?_eq_getElem hj]
  rfl






theorem choose1_any (x y : Gp) (w : World) : Calls Tryz.prog 110 #[gV x, gV y] w fun e w' => e = .returned (.int .i64 (cmpI x.2.2.1 y.2.2.1)) ∧
    w' = (w.alloc (.cells #[.int .i64 x.1, .int .i64 x.2.1, .int .i64 x.2.2.1, .bool x.2.2.2] 198)).alloc (.cells #[.int .i64 y.1, .int .i64 y.2.1, .int .i64 y.2.2.1, .bool y.2.2.2] 198) := by
  obtain ⟨xa, xo, xl, xc⟩ := x
  obtain ⟨ya, yo, yl, yc⟩ := y
  simp only [gV]
  have HC := Lib.hid (fun W => compare_any xl yl W)
  generalize cmpI xl yl = R at *
  go_enter Tryz.func110, Tryz.ntmps110
  go_wp2_with (go_at_call 111; refine (HC.out _).mono ?_; rintro e w' ⟨rfl, rfl⟩)
  go_ret
  exact ⟨rfl, rfl⟩
theorem cmpLaysG (blk off size : Nat) (w : World) : CmpLays Tryz.prog 110 #[] encG 4 (fun x y => cmpI x.2.2.1 y.2.2.1) blk off size w :=
  fun m os dk _ x y => (choose1_any x y _).mono (by rintro e w' ⟨he, rfl⟩; exact ⟨he, 0, _, by rw [alloc_eq_grow, alloc_eq_grow, grow_grow]; rfl⟩)
/-- fewer live pages -/
def ltL (x y : Gp) : Bool := decide (x.2.2.1 < y.2.2.1)
theorem ltOf_L : (ltOf fun x y : Gp => cmpI x.2.2.1 y.2.2.1) = ltL := by
  funext x y
  unfold ltOf cmpI ltL
  by_cases h1 : x.2.2.1 < y.2.2.1
  · simp [h1]
  · by_cases h2 : y.2.2.1 < x.2.2.1 <;> simp [h1, h2]
theorem choose1_enters : ∀ args w, (callFunc 110 args).run Tryz.prog w = .ok (.enter 110 args) w := enters_of Tryz.func110 (by kernel_rfl) rfl
/-- what is asked of the sort of a list -/
def StabC (n : Nat) (F : Array Gp → Array Gp) : Prop := ∀ (g cap : Nat) (d : Array Gp) (w : World), d.size = n → HoldsK encG 4 w g 0 d → g < w.heap.size →
  Calls Tryz.prog 215 #[.slice (some ⟨g, 0, none⟩) n cap, .int .i64 n, .func (.func 110) #[] #[]] w fun e w' => e = .returned (.tuple #[]) ∧ ∃ m os, w' = sortWorldK encG 4 w g 0 m (F d) os
set_option maxHeartbeats 1000000 in
theorem stable20 (n : Nat) (hn : n ≤ 19) : StabC n (fun d => insertionSort ltL d 0 n) := by
  intro g cap d w hd hH hg
  have hI := AnyQ.insertionSortCmpFunc insG 4 Tryz.isAgg198 Tryz.sizeOf198 encG (fun _ => rfl) (fun x v hv => by simp [encG] at hv; rcases hv with rfl | rfl | rfl | rfl <;> rfl) (fun x y => cmpI x.2.2.1 y.2.2.1) 110 #[] g 0 cap 0 n d w choose1_enters (cmpLaysG g 0 d.size w) hH hg (Nat.zero_le _) (by omega) (by omega)
  rw [hd, ltOf_L] at hI
  change Calls Tryz.prog 237 _ _ _ at hI
  have HI := Lib.hid hI
  clear hI
  have h1 : decide (20 ≤ (n : Int)) = false := by simp; omega
  have h2 : decide (20 < (n : Int)) = false := by simp; omega
  clear hH
  go_enter Tryz.func215, Tryz.ntmps215
  go_wp2_with fail
  go_loopw [7, 8] (fun a b wr => a = .int .i64 0 ∧ b = .int .i64 20 ∧ wr = w) (fun _ _ _ => 0)
  case atStart => exact ⟨rfl, rfl, rfl⟩
  case round =>
    obtain ⟨rfl, rfl, hw⟩ := hrel
    have hw' := hw.symm
    clear hw
    subst hw'
    go_wp2_with fail
    refine HI.out.mono ?_
    rintro e w1 ⟨rfl, m, os, rfl⟩
    go_wp2_with fail
    obtain ⟨W2, hW2⟩ : ∃ W2, sortWorldK encG 4 w g 0 m (insertionSort ltL d 0 n) os = W2 := ⟨_, rfl⟩
    rw [hW2]
    have hW2' := Lib.hid hW2
    clear hW2
    go_loopw [6] (fun a wr => a = .int .i64 20 ∧ wr = W2) (fun _ _ => 0)
    case atStart => exact ⟨rfl, rfl⟩
    case round =>
      obtain ⟨rfl, hw⟩ := hrel
      have hw' := hw.symm
      clear hw
      subst hw'
      go_wp2_with fail
      go_end0
      exact ⟨rfl, m, os, hW2'.out.symm⟩
theorem insertionNone (A : Option Addr) (cap : Nat) (w : World) : Calls Tryz.prog 237 #[.slice A 0 cap, .int .i64 0, .int .i64 0, .func (.func 110) #[] #[]] w fun e w' => e = .returned (.tuple #[]) ∧ w' = w := by
  go_enter Tryz.func237, Tryz.ntmps237
  go_wp2_with fail
  go_loopw [8] (fun a wr => a = .int .i64 1 ∧ wr = w) (fun _ _ => 0)
  case atStart => exact ⟨rfl, rfl⟩
  case round =>
    obtain ⟨rfl, hw⟩ := hrel
    have hw' := hw.symm
    clear hw
    subst hw'
    go_wp2_with fail
    go_end0
    exact ⟨rfl, rfl⟩
theorem stableNone (A : Option Addr) (cap : Nat) (w : World) : Calls Tryz.prog 215 #[.slice A 0 cap, .int .i64 0, .func (.func 110) #[] #[]] w fun e w' => e = .returned (.tuple #[]) ∧ w' = w := by
  have HI := Lib.hid (insertionNone A cap w)
  go_enter Tryz.func215, Tryz.ntmps215
  go_wp2_with fail
  go_loopw [7, 8] (fun a b wr => a = .int .i64 0 ∧ b = .int .i64 20 ∧ wr = w) (fun _ _ _ => 0)
  case atStart => exact ⟨rfl, rfl, rfl⟩
  case round =>
    obtain ⟨rfl, rfl, hw⟩ := hrel
    have hw' := hw.symm
    clear hw
    subst hw'
    go_wp2_with fail
    refine HI.out.mono ?_
    rintro e w1 ⟨rfl, hw⟩
    have hw' := hw.symm
    clear hw
    subst hw'
    go_wp2_with fail
    go_loopw [6] (fun a wr => a = .int .i64 20 ∧ wr = w) (fun _ _ => 0)
    case atStart => exact ⟨rfl, rfl⟩
    case round =>
      obtain ⟨rfl, hw⟩ := hrel
      have hw' := hw.symm
      clear hw
      subst hw'
      go_wp2_with fail
      go_end0
      exact ⟨rfl, rfl⟩
/-- a sort by what StabC asks, of a list of its own -/
theorem sortStableG_any (F : Array Gp → Array Gp) (base : Nat) (v : Value) (us : List Gp) (w : World) (hF : us ≠ [] → StabC us.length F) (hsz : ∀ d, (F d).size = d.size) (hbase : base ≤ w.heap.size) (hrow : w.ownsRow base 198 4 v us.length (gCells us)) :
    Calls Tryz.prog 169 #[v, .func (.func 110) #[] #[]] w fun e w' => e = .returned (.tuple #[]) ∧ w'.ownsRow base 198 4 v us.length (gCells (F us.toArray).toList) ∧ Go.RowKit.Below base w w' := by
  by_cases hne : us = []
  · subst hne
    obtain ⟨A, cap, rfl⟩ := own_nilG hrow rfl
    have HS := Lib.hid (stableNone A cap w)
    have he : (F #[]).toList = [] := by
      have := hsz #[]
      rw [← List.length_eq_zero_iff, Array.length_toList, this]; rfl
    have hfin : w.ownsRow base 198 4 (.slice A ([] : List Gp).length cap) ([] : List Gp).length (gCells (F ([] : List Gp).toArray).toList) := by
      rw [show (F ([] : List Gp).toArray).toList = [] from he]; exact hrow
    clear hrow hF
    go_enter Tryz.func169, Tryz.ntmps169
    go_wp2_with fail
    refine HS.out.mono ?_
    rintro e w1 ⟨rfl, hw⟩
    subst hw
    go_wp2_with fail
    go_end0
    exact ⟨rfl, hfin, Go.RowKit.Below.refl _ _⟩
  · have hpos : 0 < us.length := List.length_pos_iff.2 hne
    obtain ⟨g, cap, rfl, hg1, hg2⟩ := hrow.form hpos
    have HS := Lib.hid (hF hne g cap us.toArray w (by simp) (holds_ownG rfl hrow) hg2)
    have hlen : (F us.toArray).toList.length = us.length := by rw [Array.length_toList, hsz]; simp
    generalize hd : F us.toArray = d' at *
    obtain ⟨us'⟩ := d'
    obtain ⟨n, hn⟩ : ∃ n, us.length = n := ⟨_, rfl⟩
    rw [hn] at HS hlen hrow ⊢
    clear hF hd
    go_enter Tryz.func169, Tryz.ntmps169
    go_wp2_with fail
    refine HS.out.mono ?_
    rintro e w1 ⟨rfl, m, os, rfl⟩
    go_wp2_with fail
    go_end0
    refine ⟨rfl, ?_, (Go.RowKit.Below.refl base w).grown (grownBy_putF _) hbase (fun j hj => by cases hj; exact hg1)⟩
    have := owns_putG (m := m) (os := os) (flatK encG 4 us'.toArray) (by simp [show us'.length = n from hlen]) hrow
    rw [flat_cellsG] at this
    exact this
/-- what the stable sort makes of a list -/
def SortsTo (us vs : List Gp) : Prop := vs.length = us.length ∧ ∀ (base : Nat) (v : Value) (w : World), base ≤ w.heap.size → w.ownsRow base 198 4 v us.length (gCells us) →
  Calls Tryz.prog 169 #[v, .func (.func 110) #[] #[]] w fun e w' => e = .returned (.tuple #[]) ∧ w'.ownsRow base 198 4 v us.length (gCells vs) ∧ Go.RowKit.Below base w w'
theorem sorts_of_stab (F : Array Gp → Array Gp) (us : List Gp) (hF : us ≠ [] → StabC us.length F) (hsz : ∀ d, (F d).size = d.size) : SortsTo us (F us.toArray).toList :=
  ⟨by rw [Array.length_toList, hsz]; simp, fun base v w hb hr => sortStableG_any F base v us w hF hsz hb hr⟩
theorem sortedStableG_any (vs : List Gp) (g : Nat) (lb : Array Value) (K : Nat → Prop) (xs : List Gp) (w : World) (hxs : xs.length ≤ 1000) (hS : SortsTo xs vs)
    (hseq : SeqX Tryz.prog g lb gA (fun _ => False) K xs w) (eg : ∀ args w, (callFunc g args).run Tryz.prog w = .ok (.enter g args) w) (hK : ∀ k, K k → k < w.heap.size) :
    Calls Tryz.prog 107 #[.func (.func g) #[] lb, .func (.func 110) #[] #[]] w fun e w' => ∃ (A : Option Addr) (cap : Nat), e = .returned (.slice A xs.length cap) ∧ RG w' w'.heap.size A vs ∧ (∀ b o, A = some ⟨b, o, none⟩ → w.heap.size ≤ b) ∧ Go.RowKit.Below w.heap.size w w' := by
  have HA := Lib.hid (collectG_any g lb K xs w (by omega) hseq eg hK)
  have hlen := hS.1
  have hS' := Lib.hid hS.2
  clear hS
  go_enter Tryz.func107, Tryz.ntmps107
  go_wp2_with fail
  refine HA.out.mono ?_
  rintro e w1 ⟨v, rfl, hown, hb1⟩
  have HS := Lib.hid (hS'.out w.heap.size v w1 hb1.size hown)
  obtain ⟨A0, cap0, rfl⟩ := own_nilG hown rfl
  go_wp2_with fail
  refine HS.out.mono ?_
  rintro e w2 ⟨rfl, hown2, hb2⟩
  obtain ⟨A, cap, e, hrt, hA⟩ := own_RG hown2 hlen
  cases e
  go_wp2_with fail
  go_ret
  exact ⟨A0, cap0, rfl, hrt, hA, hb1.trans hb2⟩
end Go.Proofs.YtpabnbhbcphfiaaGreat
namespace Go.Pol
open Go Go.RowKit
theorem cutH_nil {n h : Int} (hn : n ≤ h) : ∀ (l : List Gp), cutH n h l = []
  | [] => rfl
  | _ :: _ => by rw [cutH, if_pos hn]
theorem numsF_snoc (l : List Gp) (x : Gp) : numsF (l ++ [x]) = numsF l ++ [x.1] := by simp [numsF]
theorem upd_taken (H T : List Int) (x : Nat) : upd (fun g : Nat => decide ((g : Int) ∈ H) && !decide ((g : Int) ∈ T)) x false = fun g : Nat => decide ((g : Int) ∈ H) && !decide ((g : Int) ∈ T ++ [(x : Int)]) := by
  funext g
  unfold upd
  by_cases h : g = x
  · subst h; simp
  · rw [if_neg h]
    have : ¬ ((g : Int) = (x : Int)) := by omega
    simp [this]
/-- the cells of all pages -/
structure PgsAre (cs : Array Value) (cm lv : Nat → Bool) : Prop where
  size : cs.size = 2048
  at_ : ∀ k, k < 1024 → cs[k * 2]? = some (.bool (cm k)) ∧ cs[k * 2 + 1]? = some (.bool (lv k))
theorem LookIs.pages {cs : Array Value} {cm lv : Nat → Bool} {nm gc gl : Nat → Int} {gh : Nat → Bool} (h : LookIs cs cm lv nm gc gl gh) : PgsAre (cs.extract 0 2048) cm lv := by
  have hx : ∀ j, j < 2048 → (cs.extract 0 2048)[j]? = cs[j]? := fun j hj => by
    rw [ext_get (by rw [h.size]; omega), Nat.zero_add]
  exact ⟨by simp [h.size], fun k hk => by rw [hx _ (by omega), hx _ (by omega)]; exact ⟨h.cm k hk, h.lv k hk⟩⟩
theorem LookIs.rangeAtP {w : World} {b : Nat} {t : TypeId} {cs : Array Value} {cm lv : Nat → Bool} {nm gc gl : Nat → Int} {gh : Nat → Bool} (h : LookIs cs cm lv nm gc gl gh) (hb : Blk w b t cs) :
    w.rangeAt b 0 (cs.extract 0 2048).toList := fun j v hj => by
  rw [Array.getElem?_toList] at hj
  have hlt : j < 2048 := by
    have := (Array.getElem?_eq_some_iff.1 hj).1
    simp [h.size] at this
    omega
  rw [hb.cell, ← hj, ext_get (by rw [h.size]; omega)]
theorem extract2 {cs : Array Value} {k : Nat} {a b : Value} (h0 : cs[k * 2]? = some a) (h1 : cs[k * 2 + 1]? = some b) : cs.extract (k * 2) (k * 2 + 2) = #[a, b] := by
  have hs := (Array.getElem?_eq_some_iff.1 h1).1
  apply Array.ext_getElem?
  intro i
  by_cases hi : i < 2
  · rw [ext_get (by omega)]
    rcases (show i = 0 ∨ i = 1 by omega) with rfl | rfl
    · exact h0
    · exact h1
  · rw [Array.getElem?_eq_none (by simp; omega), Array.getElem?_eq_none (by simp; omega)]
/-- what a list of spans and an error look like that are handed back -/
def SpE (r : List Sp × Int) (w : World) (e : Ending) (w' : World) : Prop := ∃ (A : Option Addr) (cap : Nat), e = .returned (.tuple #[.slice A r.1.length cap, .int .i64 r.2]) ∧ RU w' w'.heap.size A r.1 ∧ r.1.length ≤ cap ∧ cap ≤ maxLen ∧ Below w.heap.size w w'
theorem SpE.err {w w' : World} {c : Int} (hb : Below w.heap.size w w') : SpE ([], c) w (.returned (.tuple #[.slice none 0 0, .int .i64 c])) w' := ⟨none, 0, rfl, RU.nil, Nat.le_refl _, by unfold maxLen; omega, hb⟩
/-- the same, in memory of its own -/
def SpEN (r : List Sp × Int) (w : World) (e : Ending) (w' : World) : Prop := ∃ (A : Option Addr) (cap : Nat), e = .returned (.tuple #[.slice A r.1.length cap, .int .i64 r.2]) ∧ RU w' w'.heap.size A r.1 ∧ r.1.length ≤ cap ∧ cap ≤ maxLen ∧ Below w.heap.size w w' ∧ ∀ g o, A = some ⟨g, o, none⟩ → w.heap.size ≤ g
theorem SpEN.err {w w' : World} {c : Int} (hb : Below w.heap.size w w') : SpEN ([], c) w (.returned (.tuple #[.slice none 0 0, .int .i64 c])) w' := ⟨none, 0, rfl, RU.nil, Nat.le_refl _, by unfold maxLen; omega, hb, fun _ _ h => by cases h⟩
theorem SpEN.to {r : List Sp × Int} {w w' : World} {e : Ending} (h : SpEN r w e w') : SpE r w e w' := by
  obtain ⟨A, cap, h1, h2, h3, h4, h5, _⟩ := h
  exact ⟨A, cap, h1, h2, h3, h4, h5⟩
end Go.Pol
namespace Go.Proofs.YtpabnbhbcphfiaaGreat
open Go Go.Proofs Go.RowKit Go.Pol Go.Shelf
attribute [local go_sem] Oper.semAt_some Go.Pol.wide_fn Go.Pol.wide_depth Go.Pol.wide_fn' Go.Pol.wide_depth'

theorem idx_pg (cs : Array Value) (cm lv : Nat → Bool) (h : PgsAre cs cm lv) (k : Nat) (hk : k < 1024) (W : World) : (Instr.index 196 (.agg cs) (.int .i64 k)).run Tryz.prog W = .ok (.agg #[.bool (cm k), .bool (lv k)]) W := by
  have u := Tryz.underlying196
  have a3 := Tryz.isAgg194
  have z3 := Tryz.sizeOf194
  obtain ⟨h0, h1⟩ := h.at_ k hk
  have he := extract2 h0 h1
  have hb : 0 ≤ (k : Int) ∧ (k : Int) < 1024 := by omega
  unfold Instr.index
  simp only [Sem.run_bind, run_underlying u, Result.andThen_ok]
  simp [part, asIntOf, a3, z3, Result.andThen, hb, he]

set_option maxRecDepth 100000 in
set_option maxHeartbeats 3200000 in
theorem chooseN_any (S : Value) (C L : List Sp) (H : List Int) (n : Int) (ord : List Gp) (w : World) (hS : StIs w S C L H) (hso : SortsTo ((gsH C L H).filter hugeP) ord) (hperm : ord.Perm ((gsH C L H).filter hugeP)) :
    Calls Tryz.prog 44 #[S, .int .i64 n] w (SpEN (chooseA C L H n ord) w) := by
  obtain ⟨A1, A2, A3, n1, c1, n2, c2, n3, c3, rfl, h1, h2, h3, h4, h5, h6, h7, h8, h9⟩ := hS.ex
  have hb0 := (Below.refl w.heap.size w).alloc (Nat.le_refl _) (.cells #[.slice A1 n1 c1, .slice A2 n2 c2, .slice A3 n3 c3] 94)
  have k0 := Blk.new w 94 #[.slice A1 n1 c1, .slice A2 n2 c2, .slice A3 n3 c3]
  have c0 := k0.cell
  have HO := Lib.hid (open_any A1 A2 A3 n1 c1 n2 c2 n3 c3 C L H _ h1 h2 (h3.on hb0) h4 h5 (h6.on hb0) h7 h8 (RI.on h9 hb0))
  obtain ⟨s, hs⟩ : ∃ s, w.heap.size = s := ⟨_, rfl⟩
  obtain ⟨hv, hhv⟩ : ∃ hv, haveF (gsH C L H) = hv := ⟨_, rfl⟩
  obtain ⟨ct, hct⟩ : ∃ ct, cutH n hv ord = ct := ⟨_, rfl⟩
  have hA0 : chooseA C L H n ord = if chkH C L H ≠ 0 then ([], chkH C L H) else if n < 0 ∨ 1024 < n then ([], 2) else if hv + idleG ct < n then ([], 4) else (setOf (onesF (firH n C L H (numsF ct) 1024)), 0) := by
    rw [← hct, ← hhv]; rfl
  have hA := Lib.hid hA0
  clear hA0
  generalize chooseA C L H n ord = R at *
  generalize hER : chkH C L H = er at *
  have hER' := Lib.hid hER
  have hct' := Lib.hid hct
  have hhv' := Lib.hid hhv
  have hgs := Lib.hid (show gpsOf (fun g => (g : Int)) (fun g => grpF C (g : Int)) (fun g => grpF L (g : Int)) (fun g => decide ((g : Int) ∈ H)) = gsH C L H from rfl)
  have hso' := Lib.hid hso
  have hperm' := Lib.hid hperm
  clear h1 h2 h3 h4 h5 h6 h7 h8 h9 hS hER hct hhv k0 hso hperm
  go_enter Tryz.func44, Tryz.ntmps44
  go_wp2_with fail
  refine HO.out.mono ?_
  rintro e w1 ⟨hb1, he, hz⟩
  have B1 := hb0.trans (hb1.mono hb0.size)
  rw [hER'.out] at he hz
  by_cases h0 : er = 0
  case neg =>
    obtain rfl := he h0
    have h0' : (er != 0) = true := by simpa using h0
    have hA' : Hid (R = ([], er)) := Lib.hid (by rw [hA.out, if_pos h0])
    clear hA h0 he hz
    go_wp2_with fail
    go_ret2
    rw [hA'.out]
    exact SpEN.err B1
  case pos =>
    obtain ⟨b, cs, rfl, hbs, kL, hcs⟩ := hz h0
    have hA1 : Hid (R = if n < 0 ∨ 1024 < n then ([], 2) else if hv + idleG ct < n then ([], 4) else (setOf (onesF (firH n C L H (numsF ct) 1024)), 0)) := Lib.hid (by rw [hA.out, if_neg (by simp [h0])])
    clear hA he hz h0
    by_cases hl0 : n < 0
    · have hl0' : decide (n < 0) = true := by simpa using hl0
      have hA2 : Hid (R = ([], 2)) := Lib.hid (by rw [hA1.out, if_pos (.inl hl0)])
      clear hA1 hl0
      go_wp2_with fail
      go_ret2
      rw [hA2.out]
      exact SpEN.err B1
    have hl0' : decide (n < 0) = false := by simpa using hl0
    by_cases hl1 : 1024 < n
    · have hl1' : decide (1024 < n) = true := by simpa using hl1
      have hA2 : Hid (R = ([], 2)) := Lib.hid (by rw [hA1.out, if_pos (.inr hl1)])
      clear hA1 hl0 hl1
      go_wp2_with fail
      go_ret2
      rw [hA2.out]
      exact SpEN.err B1
    have hl1' : decide (1024 < n) = false := by simpa using hl1
    have hA2 : Hid (R = if hv + idleG ct < n then ([], 4) else (setOf (onesF (firH n C L H (numsF ct) 1024)), 0)) := Lib.hid (by rw [hA1.out, if_neg (by omega)])
    clear hA1
    have hsb : s < b := by have := hbs; rw [World.size_alloc, hs] at this; omega
    have hra := hcs.rangeAt kL
    have hG := hcs.groups
    rw [hgs.out] at hG
    have hlen := hG.len
    have hsz2 := hG.size
    generalize cs.extract 2048 2304 = ds at *
    have hidx := Lib.hid (fun k hk W => idx_grp ds (gsH C L H) hG k hk W)
    clear hG
    go_wp2_with (refine wpList_load_mid rfl 199 (.tmp 33) rfl b 2048 rfl ds.toList _ hra Tryz.underlying199 rfl (by rw [Array.length_toList, hsz2]; kernel_rfl) ?_; rw [Array.toArray_toList])
    clear hra
    have hbd := Lib.hid (fun x (h : x ∈ gsH C L H) => gsH_bounds h)
    generalize hGS : gsH C L H = gs at *
    have hGS' := Lib.hid hGS
    clear hGS
    go_loopw [8, 35] (fun v i wr => ∃ k : Nat, k ≤ 64 ∧ i = .int .i64 k ∧ v = .int .i64 (haveF (gs.take k)) ∧ Below w1.heap.size w1 wr) (fun _ i _ => 64 - (intOf i).toNat)
    case atStart => exact ⟨0, by omega, rfl, by simp [haveF], Below.refl _ _⟩
    case round =>
      obtain ⟨k, hk, rfl, hvv, hB⟩ := hrel
      have hbnd := haveF_bound (gs.take k) (fun x hx => hbd.out x (List.mem_of_mem_take hx))
      rw [List.length_take] at hbnd
      by_cases hlt : k < 64
      · as_aux_lemma =>
          have hlt' : decide ((k : Int) < 64) = true := by rw [decide_eq_true_eq]; omega
          have hts := Lib.hid (take_snocG gs k (by omega))
          have hix := fun W => hidx.out k hlt W
          have hsn := Lib.hid (haveF_snoc (gs.take k) (gs.getD k gp0))
          have hxb := hbd.out (gs.getD k gp0) (by rw [List.getD_eq_getElem?_getD, List.getElem?_eq_getElem (by omega)]; exact List.getElem_mem _)
          rw [← hts.out] at hsn
          generalize haveF (gs.take k) = hk0 at *
          generalize gs.getD k gp0 = x at *
          obtain ⟨xn, xc, xl, xh⟩ := x
          unfold gV at hix
          dsimp only at hix hsn hxb
          have kX := Blk.new wr 198 #[.int .i64 xn, .int .i64 xc, .int .i64 xl, .bool xh]
          have cX := kX.cell
          have hBX := hB.alloc hB.size (.cells #[.int .i64 xn, .int .i64 xc, .int .i64 xl, .bool xh] 198)
          subst hvv
          cases xh with
          | true =>
            have hsn2 : Hid (haveF (gs.take (k + 1)) = hk0) := Lib.hid (by rw [hsn.out]; simp)
            clear hsn hts
            go_wp2_with fail
            go_roundw
            case rel => exact ⟨k + 1, by omega, by go_num, by rw [hsn2.out], hBX⟩
            case measure => simp [intOf]; omega
          | false =>
            have hsn2 : Hid (haveF (gs.take (k + 1)) = hk0 + (xc - xl)) := Lib.hid (by rw [hsn.out]; simp)
            clear hsn hts
            go_wp2_with fail
            go_roundw
            case rel => exact ⟨k + 1, by omega, by go_num, by rw [hsn2.out], hBX⟩
            case measure => simp [intOf]; omega
      · obtain rfl : k = 64 := by omega
        have hlt' : decide (((64 : Nat) : Int) < 64) = false := by decide
        have hT : gs.take 64 = gs := List.take_of_length_le (by omega)
        rw [hT, hhv'.out] at hvv hbnd
        subst hvv
        clear hT
        have HS := Lib.hid (some_any b 109 wr)
        have kQ := heap_two wr 191 207 (.pointer (some ⟨b, 0, none⟩)) (.func (.func 109) #[] #[])
        obtain ⟨Bo, hBo⟩ : ∃ Bo, wr.heap.size = Bo := ⟨_, rfl⟩
        rw [hBo] at kQ HS
        have kLr := kL.call hB
        have hs1 := hB.size
        have hbB := kLr.lt
        rw [hBo] at hbB
        go_wp2_with fail
        refine HS.out.mono ?_
        rintro e w3 ⟨rfl, hw3⟩
        obtain ⟨q1, q2, q3, q4⟩ := kQ
        rw [← hw3] at q1 q2 q3 q4
        rw [← hBo] at q3
        clear hw3 HS
        have kL3 := kLr.call q3
        have B3 := B1.trans ((hB.trans (q3.mono hB.size)).mono (by have := B1.size; omega))
        have hsq := some1_seq hugeP 109 b Bo (Bo + 1) cs gs _ _ _ _ _ _ (fun k => k = b ∨ k = Bo ∨ k = Bo + 1) w3 (.inl rfl) (.inr (.inl rfl)) (.inr (.inr rfl)) kL3 q1 q2 hcs hgs.out (enters_of Tryz.func109 (by kernel_rfl) rfl) (fun x W => huge_any x W)
        have hxl : (gs.filter hugeP).length ≤ 64 := by
          have := List.length_filter_le hugeP gs
          omega
        have HT := Lib.hid (sortedStableG_any ord _ _ _ _ w3 (by omega) hso'.out hsq some1_enters (fun k hk => by omega))
        have hol : ord.length = (gs.filter hugeP).length := hperm'.out.length_eq
        have hob := Lib.hid (fun x (hx : x ∈ ord) => (List.mem_filter.1 (hperm'.out.mem_iff.1 hx)).1)
        rw [← hol] at HT hxl
        obtain ⟨ol, holl⟩ : ∃ ol, ord.length = ol := ⟨_, rfl⟩
        rw [holl] at HT hxl
        clear q1 q2 q3 kLr hsq hol hB hb1 kL hbs hidx
        go_wp2_with fail
        refine HT.out.mono ?_
        rintro e w4 ⟨A4, c4, rfl, hrg, hA4, hb4⟩
        have kL4 := kL3.call hb4
        have B4 := B3.trans (hb4.mono (by have := B3.size; omega))
        have hs4 := hb4.size
        clear HT hb4 kL3 B3
        go_wp2_with fail
        go_loopw [8, 54] (fun v i wr => ∃ (k : Nat) (es : Array Value), k ≤ ol ∧ i = .int .i64 k ∧ v = .int .i64 (hv + idleG (ord.take k)) ∧ Far (fun g => g = b) w4 wr ∧ Blk wr b 201 es ∧
          Hid (LookIs es (fun p => mem (p : Int) C) (fun p => mem (p : Int) L) (fun g => (g : Int)) (fun g => grpF C (g : Int)) (fun g => grpF L (g : Int)) (fun g => decide ((g : Int) ∈ H) && !decide ((g : Int) ∈ numsF (ord.take k)))) ∧
          Hid (cutH n hv ord = ord.take k ++ cutH n (hv + idleG (ord.take k)) (ord.drop k))) (fun _ i _ => ol - (intOf i).toNat)
        case atStart => exact ⟨0, cs, by omega, rfl, by simp [idleG], Far.refl _ _, kL4, Lib.hid (by simpa [numsF] using hcs), Lib.hid (by simp [idleG])⟩
        case round =>
          obtain ⟨k, es, hk, rfl, hvv, hF4, kLk, hlk, hck⟩ := hrel
          clear kL4
          have Br := B4.trans (hF4.below (by have := B4.size; omega) (fun g hg => by omega))
          have hib := idleG_bound (ord.take k) (fun x hx => by have := hbd.out x (hob.out x (List.mem_of_mem_take hx)); omega)
          rw [List.length_take] at hib
          by_cases hlt : k < ol
          · have hlt' : decide ((k : Int) < (ol : Int)) = true := by simpa using hlt
            by_cases hbr : n ≤ hv + idleG (ord.take k)
            · as_aux_lemma =>
                have hbr' : decide (n ≤ hv + idleG (ord.take k)) = true := by simpa using hbr
                have hT : ct = ord.take k := by rw [← hct'.out, hck.out, cutH_nil hbr, List.append_nil]
                have hge' : decide (hv + idleG (ord.take k) < n) = false := by simp; omega
                have hA3 : Hid (R = (setOf (onesF (firH n C L H (numsF (ord.take k)) 1024)), 0)) := Lib.hid (by rw [hA2.out, hT, if_neg (by omega)])
                have hdr : ∃ x, x = ord.getD k gp0 := ⟨_, rfl⟩
                have hmem : ord.getD k gp0 ∈ ord := by rw [List.getD_eq_getElem?_getD, List.getElem?_eq_getElem (by omega)]; exact List.getElem_mem _
                obtain ⟨qb, qo, rfl, hqb, d0, d1, d2, d3⟩ := hrg k (by omega)
                have hqn : w3.heap.size ≤ qb := hA4 _ _ rfl
                replace d0 := hF4.cell d0 (by simp; omega)
                replace d1 := hF4.cell d1 (by simp; omega)
                replace d2 := hF4.cell d2 (by simp; omega)
                replace d3 := hF4.cell d3 (by simp; omega)
                generalize hTT : numsF (ord.take k) = T at *
                generalize idleG (ord.take k) = ig at *
                generalize ord.getD k gp0 = x at *
                obtain ⟨xn, xc, xl, xh⟩ := x
                dsimp only at d0 d1 d2 d3
                have hlk2 := hlk.out
                have hbX : Below wr.heap.size wr (wr.alloc (.cells #[.int .i64 xn, .int .i64 xc, .int .i64 xl, .bool xh] 198)) := (Below.refl _ _).alloc (Nat.le_refl _) _
                have kL5 := kLk.call hbX
                have B5 := Br.trans (hbX.mono (by have := Br.size; omega))
                clear hck hT hdr hmem hTT hlk hA2 hrg hA4
                subst hvv
                go_upto_region 17 with fail
                generalize wr.alloc (.cells #[.int .i64 xn, .int .i64 xc, .int .i64 xl, .bool xh] 198) = w5 at *
                have hPg := hlk2.pages
                have hra := hlk2.rangeAtP kL5
                have hsz9 := hPg.size
                generalize es.extract 0 2048 = ps at *
                have hidp := Lib.hid (fun k hk W => idx_pg ps _ _ hPg k hk W)
                have hgh := Lib.hid (fun q hq => hlk2.gh q hq)
                clear hPg hlk2
                obtain ⟨j0, hi, hz0, hz1, hz2⟩ := infoSp_parts
                go_wp2_with (refine wpList_load_mid rfl 196 (.tmp 79) rfl b 0 rfl ps.toList _ hra Tryz.underlying196 rfl (by rw [Array.length_toList, hsz9]; kernel_rfl) ?_; rw [Array.toArray_toList])
                clear hra
                go_loopw [1, 14, 81] (fun v1 v14 i wr => ∃ (k : Nat) (l : List Nat), k ≤ 1024 ∧ i = .int .i64 k ∧ Hid (firH n C L H T k = l) ∧ (l.length : Int) ≤ n ∧ l.length ≤ k ∧ v1 = .int .i64 (n - l.length) ∧ wr.ownsRow w5.heap.size 115 2 v14 l.length (spCells (onesF l)) ∧ Below w5.heap.size w5 wr) (fun _ _ i _ => 1024 - (intOf i).toNat)
                case atStart => exact ⟨0, [], by omega, rfl, Lib.hid (by simp [firH]), by simp; omega, by simp, by simp, World.ownsRow_nil _ _ _ _, Below.refl _ _⟩
                case round =>
                  obtain ⟨k, l, hk, rfl, hfl, hln, hlk, rfl, hrow, hB⟩ := hrel
                  by_cases hlt : k < 1024
                  · have hlt' : decide ((k : Int) < 1024) = true := by rw [decide_eq_true_eq]; omega
                    have hix := fun W => hidp.out k hlt W
                    have hsu := Lib.hid (firH_succ n (by omega) C L H T k)
                    rw [hfl.out] at hsu
                    have kLr := kL5.call hB
                    obtain ⟨q, hq⟩ : ∃ q, k / 16 = q := ⟨_, rfl⟩
                    have hq' : ((k : Int) / 16) = (q : Int) := by omega
                    have hq64 : q < 64 := by omega
                    have c5 := (kLr.cell (2048 + q * 4 + 3)).trans (hgh.out q hq64)
                    have hfr : Hid (freeP C L H T k = (mem (k : Int) C && !mem (k : Int) L && !(decide ((q : Int) ∈ H) && !decide ((q : Int) ∈ T)))) := Lib.hid (by rw [freeP, hq'])
                    obtain ⟨c9, hc9⟩ : ∃ c9, mem (k : Int) C = c9 := ⟨_, rfl⟩
                    obtain ⟨l9, hl9⟩ : ∃ l9, mem (k : Int) L = l9 := ⟨_, rfl⟩
                    obtain ⟨g9, hg9⟩ : ∃ g9, (decide ((q : Int) ∈ H) && !decide ((q : Int) ∈ T)) = g9 := ⟨_, rfl⟩
                    rw [hg9] at c5 hfr
                    rw [hc9, hl9] at hfr
                    rw [hc9, hl9] at hix
                    clear hc9 hl9 hg9
                    obtain ⟨ll, hll⟩ : ∃ ll, l.length = ll := ⟨_, rfl⟩
                    rw [hll] at hrow hln hlk hsu ⊢
                    have kX := Blk.new wr 194 #[.bool c9, .bool l9]
                    have cX := kX.cell
                    have hbX : Below wr.heap.size wr (wr.alloc (.cells #[.bool c9, .bool l9] 194)) := (Below.refl _ _).alloc (Nat.le_refl _) _
                    have c5X := ((kLr.call hbX).cell (2048 + q * 4 + 3)).trans ((kLr.cell (2048 + q * 4 + 3)).symm.trans c5)
                    by_cases hpos : (ll : Int) < n
                    case neg =>
                      have hpos' : decide (0 < n - (ll : Int)) = false := by simp; omega
                      have hsu2 : Hid (firH n C L H T (k + 1) = l) := Lib.hid (by rw [hsu.out, decide_eq_false hpos]; rfl)
                      clear hsu hfl hfr hidp hgh
                      go_wp2_with fail
                      go_roundw
                      case rel => exact ⟨k + 1, l, by omega, by go_num, hsu2, by omega, by omega, by rw [hll], by rw [hll]; exact ownsRow_call hrow hbX, hB.trans (hbX.mono hB.size)⟩
                      case measure => simp [intOf]; omega
                    case pos =>
                      have hpos' : decide (0 < n - (ll : Int)) = true := by simp; omega
                      cases c9 with
                      | false =>
                        have hsu2 : Hid (firH n C L H T (k + 1) = l) := Lib.hid (by rw [hsu.out, hfr.out]; simp)
                        clear hsu hfl hfr hidp hgh
                        go_wp2_with fail
                        go_roundw
                        case rel => exact ⟨k + 1, l, by omega, by go_num, hsu2, by omega, by omega, by rw [hll], by rw [hll]; exact ownsRow_call hrow hbX, hB.trans (hbX.mono hB.size)⟩
                        case measure => simp [intOf]; omega
                      | true =>
                        cases l9 with
                        | true =>
                          have hsu2 : Hid (firH n C L H T (k + 1) = l) := Lib.hid (by rw [hsu.out, hfr.out]; simp)
                          clear hsu hfl hfr hidp hgh
                          go_wp2_with fail
                          go_roundw
                          case rel => exact ⟨k + 1, l, by omega, by go_num, hsu2, by omega, by omega, by rw [hll], by rw [hll]; exact ownsRow_call hrow hbX, hB.trans (hbX.mono hB.size)⟩
                          case measure => simp [intOf]; omega
                        | false =>
                          cases g9 with
                          | true =>
                            have hsu2 : Hid (firH n C L H T (k + 1) = l) := Lib.hid (by rw [hsu.out, hfr.out]; simp)
                            clear hsu hfl hfr hidp hgh
                            go_wp2_with fail
                            go_roundw
                            case rel => exact ⟨k + 1, l, by omega, by go_num, hsu2, by omega, by omega, by rw [hll], by rw [hll]; exact ownsRow_call hrow hbX, hB.trans (hbX.mono hB.size)⟩
                            case measure => simp [intOf]; omega
                          | false =>
                            have hsu2 : Hid (firH n C L H T (k + 1) = l ++ [k]) := Lib.hid (by rw [hsu.out, hfr.out, decide_eq_true hpos]; rfl)
                            clear hsu hfl hfr hidp hgh
                            go_upto_region 28 with fail
                            have hrow6 := ownsRow_call hrow hbX
                            have hsX := hbX.size
                            generalize wr.alloc (.cells #[.bool true, .bool false] 194) = w6 at *
                            have kN := Blk.new w6 115 #[.int .i64 (k : Int), .int .i64 1]
                            have hB6 := hB.trans (hbX.mono hB.size)
                            have hbN : Below w6.heap.size w6 (w6.alloc (.cells #[.int .i64 (k : Int), .int .i64 1] 115)) := (Below.refl _ _).alloc (Nat.le_refl _) _
                            go_wp2_with (refine wpList_append_own _ rfl (.tmp 107) (.tmp 110) 22 rfl w5.heap.size 115 j0 (.agg #[.int .i64 0, .int .i64 0]) 2 16 Tryz.underlying22 hi hz0 hz1 hz2 rfl (by decide) _ ll (spCells (onesF l)) rfl (hrow6.alloc _) ⟨w6.heap.size, 0, none⟩ 1 1 [.int .i64 (k : Int), .int .i64 1] rfl rfl (news_two kN) news_one2 (by unfold maxLen; omega) (by omega) (by have := hB6.size; simp; omega) ?_; intro v' w7 hown' hgrow _)
                            go_roundw
                            case rel => exact ⟨k + 1, l ++ [k], by omega, by go_num, hsu2, by rw [List.length_append, List.length_singleton, hll]; omega, by rw [List.length_append, List.length_singleton, hll]; omega, by rw [List.length_append, List.length_singleton, hll]; congr 1; omega, by rw [List.length_append, List.length_singleton, hll, onesF_snoc, spCells_snoc]; exact hown', (hB6.trans (hbN.mono hB6.size)).grown hgrow (by have := hB6.size; simp; omega) (fun g hg => by have := (hrow6.lt g hg).1; omega)⟩
                            case measure => simp [intOf]; omega
                  · obtain rfl : k = 1024 := by omega
                    have hlt' : decide (((1024 : Nat) : Int) < 1024) = false := by decide
                    have hA4 : Hid (R = (setOf (onesF l), 0)) := Lib.hid (by rw [hA3.out, hfl.out])
                    have hok : ofE (onesF l) = 0 := by rw [← hfl.out]; exact ones_ok
                    have hol2 : (onesF l).length = l.length := by simp [onesF]
                    obtain ⟨A7, c7, rfl, hru, _⟩ := own_RU hrow hol2
                    have HOf := Lib.hid (ofTop_any A7 l.length c7 (onesF l) wr hol2 (by unfold maxLen; omega) hru)
                    rw [hok, if_pos rfl] at HOf
                    have B7 := B5.trans (hB.mono (by have := B5.size; omega))
                    clear hfl hA3 hidp hgh hok hrow hru hol2
                    generalize setOf (onesF l) = G at *
                    go_wp2_with fail
                    refine HOf.out.mono ?_
                    rintro e w8 ⟨A8, c8, rfl, hru8, hg1, hg2, hg3, hb8, _⟩
                    go_wp2_with fail
                    go_ret2
                    rw [hA4.out]
                    exact ⟨A8, c8, rfl, hru8, hg1, hg2, B7.trans (hb8.mono (by have := B7.size; omega)), fun g o e => by have := hg3 g o e; have := B7.size; omega⟩
            · as_aux_lemma =>
                have hts := take_snocG ord k (by omega)
                have hdr : ord.drop k = ord.getD k gp0 :: ord.drop (k + 1) := Go.Pol.drop_cons gp0 ord k (by omega)
                have hmem : ord.getD k gp0 ∈ ord := by rw [List.getD_eq_getElem?_getD, List.getElem?_eq_getElem (by omega)]; exact List.getElem_mem _
                have hxb := hbd.out _ (hob.out _ hmem)
                have hxn := gsH_num (by rw [hGS'.out]; exact hob.out _ hmem : ord.getD k gp0 ∈ gsH C L H)
                have hsn := idleG_snoc (ord.take k) (ord.getD k gp0)
                rw [← hts] at hsn
                have hck1 := hck.out
                rw [hdr, cutH, if_neg hbr] at hck1
                obtain ⟨qb, qo, rfl, hqb, d0, d1, d2, d3⟩ := hrg k (by omega)
                have hqn : w3.heap.size ≤ qb := hA4 _ _ rfl
                replace d0 := hF4.cell d0 (by simp; omega)
                replace d1 := hF4.cell d1 (by simp; omega)
                replace d2 := hF4.cell d2 (by simp; omega)
                replace d3 := hF4.cell d3 (by simp; omega)
                have hnm := numsF_snoc (ord.take k) (ord.getD k gp0)
                rw [← hts] at hnm
                generalize idleG (ord.take k) = ig at *
                generalize ord.getD k gp0 = x at *
                obtain ⟨xn, xc, xl, xh⟩ := x
                dsimp only at d0 d1 d2 d3 hsn hxb hxn hnm hck1
                obtain ⟨gn, rfl⟩ : ∃ gn : Nat, xn = (gn : Int) := ⟨xn.toNat, by omega⟩
                have hck2 : Hid (cutH n hv ord = ord.take (k + 1) ++ cutH n (hv + idleG (ord.take (k + 1))) (ord.drop (k + 1))) := Lib.hid (by
                  rw [hck1, hsn, hts, List.append_assoc, List.singleton_append, Int.add_assoc])
                have hset := hlk.out.gh_ (p := gn) (by omega) false
                rw [upd_taken, ← hnm] at hset
                have hset' := Lib.hid hset
                have c5 := (hlk.out.gh gn (by omega))
                have hsn2 := Lib.hid hsn
                have kX := Blk.new wr 198 #[.int .i64 (gn : Int), .int .i64 xc, .int .i64 xl, .bool xh]
                have cX := kX.cell
                have hbX : Below wr.heap.size wr (wr.alloc (.cells #[.int .i64 (gn : Int), .int .i64 xc, .int .i64 xl, .bool xh] 198)) := (Below.refl _ _).alloc (Nat.le_refl _) _
                have kL5 := kLk.call hbX
                have hbr' : decide (n ≤ hv + ig) = false := by simpa using hbr
                clear hset hts hdr hck hck1 hlk hnm hsn hrg hA4 hmem
                subst hvv
                go_upto_region 19 with fail
                generalize wr.alloc (.cells #[.int .i64 (gn : Int), .int .i64 xc, .int .i64 xl, .bool xh] 198) = w5 at *
                have hcX : ∀ z : Ext w5, _ := fun z => (z.blk kX).cell
                refine region_ext_tail 7 (by kernel_rfl) (by kernel_rfl) ?_
                simp only [List.take_succ_cons, List.take_zero, List.drop_succ_cons, List.drop_zero]
                repeat (go_big_quiet_step (fail))
                refine wpQuiet_nil ?_
                intro z
                have kLz := z.blk kL5
                have fz := kLz.frozen
                have cz := (kLz.cell (2048 + gn * 4 + 3)).trans c5
                clear hcX c5 cX
                go_wp2_with fail
                have hf2 : Far (fun g => g = b) w5 (z.w.setCell ⟨b, 2048 + gn * 4 + 3, none⟩ (.bool false)) := Far.setCell (T := fun g => g = b) (p := ⟨b, 2048 + gn * 4 + 3, none⟩) (.of_below z.le) (fun _ => rfl) _
                go_roundw
                case rel => exact ⟨k + 1, _, by omega, by go_num, by rw [hsn2.out, Int.add_assoc], hF4.trans ((Far.of_below hbX).trans hf2), kLz.set_ (2048 + gn * 4 + 3) (.bool false), hset', hck2⟩
                case measure => simp [intOf]; omega
          · obtain rfl : k = ol := by omega
            have hlt' : decide ((k : Int) < (k : Int)) = false := by simp
            have hT : ct = ord.take k := by rw [← hct'.out, hck.out, List.drop_of_length_le (by omega), cutH, List.append_nil]
            by_cases hge : hv + idleG (ord.take k) < n
            · as_aux_lemma =>
                have hge' : decide (hv + idleG (ord.take k) < n) = true := by simpa using hge
                have hA3 : Hid (R = ([], 4)) := Lib.hid (by rw [hA2.out, hT, if_pos hge])
                generalize idleG (ord.take k) = ig at *
                clear hck hT hlk hA2 hrg hA4
                subst hvv
                go_wp2_with fail
                go_ret2
                rw [hA3.out]
                exact SpEN.err Br
            · as_aux_lemma =>
                have hge' : decide (hv + idleG (ord.take k) < n) = false := by simpa using hge
                have hA3 : Hid (R = (setOf (onesF (firH n C L H (numsF (ord.take k)) 1024)), 0)) := Lib.hid (by rw [hA2.out, hT, if_neg hge])
                generalize hTT : numsF (ord.take k) = T at *
                generalize idleG (ord.take k) = ig at *
                have hlk2 := hlk.out
                have kL5 := kLk
                have B5 := Br
                clear hck hT hTT hlk hA2 hrg hA4
                subst hvv
                obtain ⟨w5, hw5⟩ : ∃ w5, wr = w5 := ⟨_, rfl⟩
                rw [hw5] at kL5 B5 ⊢
                clear hw5
                have hPg := hlk2.pages
                have hra := hlk2.rangeAtP kL5
                have hsz9 := hPg.size
                generalize es.extract 0 2048 = ps at *
                have hidp := Lib.hid (fun k hk W => idx_pg ps _ _ hPg k hk W)
                have hgh := Lib.hid (fun q hq => hlk2.gh q hq)
                clear hPg hlk2
                obtain ⟨j0, hi, hz0, hz1, hz2⟩ := infoSp_parts
                go_wp2_with (refine wpList_load_mid rfl 196 (.tmp 79) rfl b 0 rfl ps.toList _ hra Tryz.underlying196 rfl (by rw [Array.length_toList, hsz9]; kernel_rfl) ?_; rw [Array.toArray_toList])
                clear hra
                go_loopw [1, 14, 81] (fun v1 v14 i wr => ∃ (k : Nat) (l : List Nat), k ≤ 1024 ∧ i = .int .i64 k ∧ Hid (firH n C L H T k = l) ∧ (l.length : Int) ≤ n ∧ l.length ≤ k ∧ v1 = .int .i64 (n - l.length) ∧ wr.ownsRow w5.heap.size 115 2 v14 l.length (spCells (onesF l)) ∧ Below w5.heap.size w5 wr) (fun _ _ i _ => 1024 - (intOf i).toNat)
                case atStart => exact ⟨0, [], by omega, rfl, Lib.hid (by simp [firH]), by simp; omega, by simp, by simp, World.ownsRow_nil _ _ _ _, Below.refl _ _⟩
                case round =>
                  obtain ⟨k, l, hk, rfl, hfl, hln, hlk, rfl, hrow, hB⟩ := hrel
                  by_cases hlt : k < 1024
                  · have hlt' : decide ((k : Int) < 1024) = true := by rw [decide_eq_true_eq]; omega
                    have hix := fun W => hidp.out k hlt W
                    have hsu := Lib.hid (firH_succ n (by omega) C L H T k)
                    rw [hfl.out] at hsu
                    have kLr := kL5.call hB
                    obtain ⟨q, hq⟩ : ∃ q, k / 16 = q := ⟨_, rfl⟩
                    have hq' : ((k : Int) / 16) = (q : Int) := by omega
                    have hq64 : q < 64 := by omega
                    have c5 := (kLr.cell (2048 + q * 4 + 3)).trans (hgh.out q hq64)
                    have hfr : Hid (freeP C L H T k = (mem (k : Int) C && !mem (k : Int) L && !(decide ((q : Int) ∈ H) && !decide ((q : Int) ∈ T)))) := Lib.hid (by rw [freeP, hq'])
                    obtain ⟨c9, hc9⟩ : ∃ c9, mem (k : Int) C = c9 := ⟨_, rfl⟩
                    obtain ⟨l9, hl9⟩ : ∃ l9, mem (k : Int) L = l9 := ⟨_, rfl⟩
                    obtain ⟨g9, hg9⟩ : ∃ g9, (decide ((q : Int) ∈ H) && !decide ((q : Int) ∈ T)) = g9 := ⟨_, rfl⟩
                    rw [hg9] at c5 hfr
                    rw [hc9, hl9] at hfr
                    rw [hc9, hl9] at hix
                    clear hc9 hl9 hg9
                    obtain ⟨ll, hll⟩ : ∃ ll, l.length = ll := ⟨_, rfl⟩
                    rw [hll] at hrow hln hlk hsu ⊢
                    have kX := Blk.new wr 194 #[.bool c9, .bool l9]
                    have cX := kX.cell
                    have hbX : Below wr.heap.size wr (wr.alloc (.cells #[.bool c9, .bool l9] 194)) := (Below.refl _ _).alloc (Nat.le_refl _) _
                    have c5X := ((kLr.call hbX).cell (2048 + q * 4 + 3)).trans ((kLr.cell (2048 + q * 4 + 3)).symm.trans c5)
                    by_cases hpos : (ll : Int) < n
                    case neg =>
                      have hpos' : decide (0 < n - (ll : Int)) = false := by simp; omega
                      have hsu2 : Hid (firH n C L H T (k + 1) = l) := Lib.hid (by rw [hsu.out, decide_eq_false hpos]; rfl)
                      clear hsu hfl hfr hidp hgh
                      go_wp2_with fail
                      go_roundw
                      case rel => exact ⟨k + 1, l, by omega, by go_num, hsu2, by omega, by omega, by rw [hll], by rw [hll]; exact ownsRow_call hrow hbX, hB.trans (hbX.mono hB.size)⟩
                      case measure => simp [intOf]; omega
                    case pos =>
                      have hpos' : decide (0 < n - (ll : Int)) = true := by simp; omega
                      cases c9 with
                      | false =>
                        have hsu2 : Hid (firH n C L H T (k + 1) = l) := Lib.hid (by rw [hsu.out, hfr.out]; simp)
                        clear hsu hfl hfr hidp hgh
                        go_wp2_with fail
                        go_roundw
                        case rel => exact ⟨k + 1, l, by omega, by go_num, hsu2, by omega, by omega, by rw [hll], by rw [hll]; exact ownsRow_call hrow hbX, hB.trans (hbX.mono hB.size)⟩
                        case measure => simp [intOf]; omega
                      | true =>
                        cases l9 with
                        | true =>
                          have hsu2 : Hid (firH n C L H T (k + 1) = l) := Lib.hid (by rw [hsu.out, hfr.out]; simp)
                          clear hsu hfl hfr hidp hgh
                          go_wp2_with fail
                          go_roundw
                          case rel => exact ⟨k + 1, l, by omega, by go_num, hsu2, by omega, by omega, by rw [hll], by rw [hll]; exact ownsRow_call hrow hbX, hB.trans (hbX.mono hB.size)⟩
                          case measure => simp [intOf]; omega
                        | false =>
                          cases g9 with
                          | true =>
                            have hsu2 : Hid (firH n C L H T (k + 1) = l) := Lib.hid (by rw [hsu.out, hfr.out]; simp)
                            clear hsu hfl hfr hidp hgh
                            go_wp2_with fail
                            go_roundw
                            case rel => exact ⟨k + 1, l, by omega, by go_num, hsu2, by omega, by omega, by rw [hll], by rw [hll]; exact ownsRow_call hrow hbX, hB.trans (hbX.mono hB.size)⟩
                            case measure => simp [intOf]; omega
                          | false =>
                            have hsu2 : Hid (firH n C L H T (k + 1) = l ++ [k]) := Lib.hid (by rw [hsu.out, hfr.out, decide_eq_true hpos]; rfl)
                            clear hsu hfl hfr hidp hgh
                            go_upto_region 28 with fail
                            have hrow6 := ownsRow_call hrow hbX
                            have hsX := hbX.size
                            generalize wr.alloc (.cells #[.bool true, .bool false] 194) = w6 at *
                            have kN := Blk.new w6 115 #[.int .i64 (k : Int), .int .i64 1]
                            have hB6 := hB.trans (hbX.mono hB.size)
                            have hbN : Below w6.heap.size w6 (w6.alloc (.cells #[.int .i64 (k : Int), .int .i64 1] 115)) := (Below.refl _ _).alloc (Nat.le_refl _) _
                            go_wp2_with (refine wpList_append_own _ rfl (.tmp 107) (.tmp 110) 22 rfl w5.heap.size 115 j0 (.agg #[.int .i64 0, .int .i64 0]) 2 16 Tryz.underlying22 hi hz0 hz1 hz2 rfl (by decide) _ ll (spCells (onesF l)) rfl (hrow6.alloc _) ⟨w6.heap.size, 0, none⟩ 1 1 [.int .i64 (k : Int), .int .i64 1] rfl rfl (news_two kN) news_one2 (by unfold maxLen; omega) (by omega) (by have := hB6.size; simp; omega) ?_; intro v' w7 hown' hgrow _)
                            go_roundw
                            case rel => exact ⟨k + 1, l ++ [k], by omega, by go_num, hsu2, by rw [List.length_append, List.length_singleton, hll]; omega, by rw [List.length_append, List.length_singleton, hll]; omega, by rw [List.length_append, List.length_singleton, hll]; congr 1; omega, by rw [List.length_append, List.length_singleton, hll, onesF_snoc, spCells_snoc]; exact hown', (hB6.trans (hbN.mono hB6.size)).grown hgrow (by have := hB6.size; simp; omega) (fun g hg => by have := (hrow6.lt g hg).1; omega)⟩
                            case measure => simp [intOf]; omega
                  · obtain rfl : k = 1024 := by omega
                    have hlt' : decide (((1024 : Nat) : Int) < 1024) = false := by decide
                    have hA4 : Hid (R = (setOf (onesF l), 0)) := Lib.hid (by rw [hA3.out, hfl.out])
                    have hok : ofE (onesF l) = 0 := by rw [← hfl.out]; exact ones_ok
                    have hol2 : (onesF l).length = l.length := by simp [onesF]
                    obtain ⟨A7, c7, rfl, hru, _⟩ := own_RU hrow hol2
                    have HOf := Lib.hid (ofTop_any A7 l.length c7 (onesF l) wr hol2 (by unfold maxLen; omega) hru)
                    rw [hok, if_pos rfl] at HOf
                    have B7 := B5.trans (hB.mono (by have := B5.size; omega))
                    clear hfl hA3 hidp hgh hok hrow hru hol2
                    generalize setOf (onesF l) = G at *
                    go_wp2_with fail
                    refine HOf.out.mono ?_
                    rintro e w8 ⟨A8, c8, rfl, hru8, hg1, hg2, hg3, hb8, _⟩
                    go_wp2_with fail
                    go_ret2
                    rw [hA4.out]
                    exact ⟨A8, c8, rfl, hru8, hg1, hg2, B7.trans (hb8.mono (by have := B7.size; omega)), fun g o e => by have := hg3 g o e; have := B7.size; omega⟩
theorem choose_any (S : Value) (C L : List Sp) (H : List Int) (n : Int) (ord : List Gp) (w : World) (hS : StIs w S C L H) (hso : SortsTo ((gsH C L H).filter hugeP) ord) (hperm : ord.Perm ((gsH C L H).filter hugeP)) :
    Calls Tryz.prog 44 #[S, .int .i64 n] w (SpE (chooseA C L H n ord) w) :=
  (chooseN_any S C L H n ord w hS hso hperm).mono fun _ _ h => h.to
theorem choose_anyF (S : Value) (C L : List Sp) (H : List Int) (n : Int) (F : Array Gp → Array Gp) (ord : List Gp) (w : World) (hS : StIs w S C L H) (hF : (gsH C L H).filter hugeP ≠ [] → StabC ((gsH C L H).filter hugeP).length F) (hsz : ∀ d, (F d).size = d.size)
    (hord : (F ((gsH C L H).filter hugeP).toArray).toList = ord) (hperm : ord.Perm ((gsH C L H).filter hugeP)) :
    Calls Tryz.prog 44 #[S, .int .i64 n] w (SpE (chooseA C L H n ord) w) :=
  choose_any S C L H n ord w hS (hord ▸ sorts_of_stab F _ hF hsz) hperm
end Go.Proofs.YtpabnbhbcphfiaaGreat
namespace Go.Proofs.YtpabnbhbcphfiaaGreat
open Go Go.Proofs Go.RowKit Go.Pol Go.Shelf
attribute [local go_sem] Oper.semAt_some Go.Pol.wide_fn Go.Pol.wide_depth Go.Pol.wide_fn' Go.Pol.wide_depth'

set_option maxHeartbeats 800000 in
theorem asked_any (A : Option Addr) (n cap : Nat) (us : List Sp) (p q : Int) (w : World) (hn : us.length = n) (hm : n ≤ maxLen) (hr : RU w w.heap.size A us) :
    Calls Tryz.prog 211 #[.slice A n cap, .agg #[.int .i64 p, .int .i64 q]] w fun e w' => e = .returned (.int .i64 (askS us (p, q))) ∧ Below w.heap.size w w' := by
  have hb0 := (Below.refl w.heap.size w).alloc (Nat.le_refl _) (.cells #[.int .i64 p, .int .i64 q] 115)
  have k0 := Blk.new w 115 #[.int .i64 p, .int .i64 q]
  have HC := Lib.hid (refSpCheck_any A n cap us _ hn hm (hr.on hb0))
  obtain ⟨R, hR⟩ : ∃ R, askS us (p, q) = R := ⟨_, rfl⟩
  rw [hR]
  have hR' := Lib.hid hR
  clear hR hn
  unfold askS at hR'
  by_cases hc : chkS us = 0
  · rw [if_pos hc] at hR'
    rw [hc] at HC
    clear hc
    by_cases hv : vld (p, q) = true
    · rw [if_pos hv] at hR'
      have hv' : (!vld (p, q)) = false := by simp [hv]
      go_enter Tryz.func211, Tryz.ntmps211
      go_wp2_with fail
      refine HC.out.mono ?_
      rintro e w1 ⟨rfl, hb1⟩
      have k1 := k0.call hb1
      have z1 := k1.cell
      have B1 := hb0.trans (hb1.mono hb0.size)
      go_wp2_with fail
      refine (valid_any _ _ _).mono ?_
      rintro e w2 ⟨rfl, hb2⟩
      go_wp2_with fail
      go_ret
      exact ⟨ret_int hR'.out, B1.trans (hb2.mono B1.size)⟩
    · rw [if_neg hv] at hR'
      have hv' : (!vld (p, q)) = true := by simpa using hv
      clear hv
      go_enter Tryz.func211, Tryz.ntmps211
      go_wp2_with fail
      refine HC.out.mono ?_
      rintro e w1 ⟨rfl, hb1⟩
      have k1 := k0.call hb1
      have z1 := k1.cell
      have B1 := hb0.trans (hb1.mono hb0.size)
      go_wp2_with fail
      refine (valid_any _ _ _).mono ?_
      rintro e w2 ⟨rfl, hb2⟩
      go_wp2_with fail
      go_ret
      exact ⟨ret_int hR'.out, B1.trans (hb2.mono B1.size)⟩
  · rw [if_neg hc] at hR'
    generalize chkS us = er at *
    have hc' : (er == 0) = false := by simpa using hc
    clear hc
    go_enter Tryz.func211, Tryz.ntmps211
    go_wp2_with fail
    refine HC.out.mono ?_
    rintro e w1 ⟨rfl, hb1⟩
    go_wp2_with fail
    go_ret
    exact ⟨ret_int hR'.out, hb0.trans (hb1.mono hb0.size)⟩

set_option maxRecDepth 100000 in
set_option maxHeartbeats 1600000 in
theorem rcount_any (A : Option Addr) (n cap : Nat) (us : List Sp) (xa xb : Int) (w : World) (hn : us.length = n) (hm : n ≤ 1000000) (hr : RU w w.heap.size A us) (hv : ∀ x ∈ us, vld x = true) (hx : vld (xa, xb) = true) :
    Calls Tryz.prog 212 #[.slice A n cap, .agg #[.int .i64 xa, .int .i64 xb]] w fun e w' => e = .returned (.int .i64 (cntF us (xa, xb))) ∧ Below w.heap.size w w' := by
  have hb0 := (Below.refl w.heap.size w).alloc (Nat.le_refl _) (.cells #[.int .i64 xa, .int .i64 xb] 115)
  have k0 := Blk.new w 115 #[.int .i64 xa, .int .i64 xb]
  have HM := Lib.hid (marks_any A n cap us _ hn hm (hr.on hb0) hv)
  have hvx := vld_iff.1 hx
  dsimp only at hvx
  obtain ⟨f, hf⟩ : ∃ f : Int → Bool, (fun q => mem q us) = f := ⟨_, rfl⟩
  have hfm : Hid (∀ q, mem q us = f q) := Lib.hid (fun q => by rw [← hf])
  have hC : Hid (cntF us (xa, xb) = cntN f xb.toNat xa) := Lib.hid (by unfold cntF; rw [hf])
  have hsn := Lib.hid (fun k => cntN_snoc f k xa)
  have hbd := Lib.hid (fun k => cntN_bound f k xa)
  obtain ⟨R, hR⟩ : ∃ R, cntF us (xa, xb) = R := ⟨_, rfl⟩
  rw [hR]
  rw [hR] at hC
  have hZ := zeros_are
  have hzs := hZ.size
  clear hf hv hx hn hR hZ
  obtain ⟨s, hs⟩ : ∃ s, w.heap.size = s := ⟨_, rfl⟩
  rw [hs] at hb0 k0
  go_enter Tryz.func212, Tryz.ntmps212
  try simp only [hs]
  go_wp2_with fail
  refine HM.out.mono ?_
  rintro e w1 ⟨cs, rfl, hMA, hb1⟩
  have k1 := k0.call hb1
  have B1 := hb0.trans (hb1.mono (by have := hb0.size; omega))
  have hsz := hMA.size
  have hone := hMA.one
  have kZ := Blk.new w1 186 Tryz.zeroCells186
  have hth := blk_there kZ
  have hs1 := k1.lt
  have hat := hMA.at_
  clear HM
  go_upto_region 2 with (refine wpList_store_mid rfl 186 (.tmp 5) (.tmp 9) rfl w1.heap.size 0 cs rfl rfl (by rw [hsz, ← hzs]; exact hth) (by rw [hsz]; kernel_rfl) hone ?_)
  have hrg := World.rangeAt_setCells_same (w1.alloc (.cells Tryz.zeroCells186 186)) w1.heap.size 0 cs.toList (by rw [Array.length_toList, hsz, ← hzs]; exact hth)
  have hbz := below_setCells w1.heap.size (Nat.le_refl _) cs.toList 0 _ ((Below.refl w1.heap.size w1).alloc (Nat.le_refl _) (.cells Tryz.zeroCells186 186))
  generalize (w1.alloc (.cells Tryz.zeroCells186 186)).setCells w1.heap.size 0 cs.toList = W9 at *
  have k9 := k1.call hbz
  have B9 := B1.trans (hbz.mono (by have := B1.size; omega))
  have c9 := k9.cell
  have hcell : Hid (∀ p : Nat, p < 1024 → W9.cell? ⟨w1.heap.size, p, none⟩ = some (.bool (f p))) := Lib.hid (fun p hp => by
    have h := hrg p (.bool (f p)) (by
      rw [Array.getElem?_toList, hat p hp]
      exact congrArg (fun b => some (Value.bool b)) (hfm.out p))
    rw [Nat.zero_add] at h
    exact h)
  generalize w1.heap.size = g at *
  clear hrg hat hth kZ k1 k9 hone hsz hzs hMA hbz B1 hb1 hb0 k0 hfm
  go_wp2_with fail
  go_loopw [6, 7] (fun nn i wr => ∃ (j : Nat) (z : Int), (j : Int) ≤ xb ∧ i = .int .i64 (xa + j) ∧ nn = .int .i64 z ∧ 0 ≤ z ∧ z ≤ j ∧ Hid (z = cntN f j xa) ∧ wr = W9) (fun _ i _ => (xa + xb - intOf i).toNat)
  case atStart => exact ⟨0, 0, by omega, by simp, rfl, by omega, by omega, Lib.hid rfl, rfl⟩
  case round =>
    obtain ⟨j, z, hj, rfl, rfl, hz0, hz1, hz, hw⟩ := hrel
    have hw' := hw.symm
    clear hw
    subst hw'
    by_cases hlt : (j : Int) < xb
    · have hlt' : decide (xa + (j : Int) < xa + xb) = true := by simp; omega
      have hcj := hcell.out (xa + j).toNat (by omega)
      have hst := Lib.hid (hsn.out j)
      have e : (((xa + (j : Int)).toNat : Nat) : Int) = xa + j := by omega
      rw [e] at hcj
      clear e
      cases hfj : f (xa + j) with
      | true =>
        rw [hfj] at hcj
        have hz2 : Hid (z + 1 = cntN f (j + 1) xa) := Lib.hid (by rw [hst.out, hfj, hz.out, if_pos rfl])
        clear hst hfj
        go_wp2_with fail
        go_roundw
        case rel => exact ⟨j + 1, z + 1, by omega, by go_num, by go_num, by omega, by omega, hz2, trivial⟩
        case measure => simp [intOf]; omega
      | false =>
        rw [hfj] at hcj
        have hz2 : Hid (z = cntN f (j + 1) xa) := Lib.hid (by rw [hst.out, hfj, hz.out, if_neg (by decide)]; omega)
        clear hst hfj
        go_wp2_with fail
        go_roundw
        case rel => exact ⟨j + 1, z, by omega, by go_num, rfl, by omega, by omega, hz2, trivial⟩
        case measure => simp [intOf]; omega
    · have hlt' : decide (xa + (j : Int) < xa + xb) = false := by simp; omega
      have hE : Hid (z = R) := Lib.hid (by rw [hz.out, hC.out, show xb.toNat = j by omega])
      go_wp2_with fail
      go_ret
      exact ⟨ret_int hE.out, B9⟩

theorem askS_zero {us : List Sp} {x : Sp} (h : askS us x = 0) : Go.Pol.Can us ∧ vld x = true := by
  unfold askS at h
  by_cases hz : chkS us = 0
  · rw [if_pos hz] at h
    by_cases hv : vld x = true
    · exact ⟨chkS_zero.1 hz, hv⟩
    · rw [if_neg hv] at h; cases h
  · rw [if_neg hz] at h; exact absurd h hz

set_option maxHeartbeats 800000 in
theorem rHas_any (A : Option Addr) (n cap : Nat) (us : List Sp) (p q : Int) (w : World) (hn : us.length = n) (hm : n ≤ maxLen) (hr : RU w w.heap.size A us) :
    Calls Tryz.prog 164 #[.slice A n cap, .agg #[.int .i64 p, .int .i64 q]] w fun e w' => e = .returned (.tuple #[.bool (decide (askS us (p, q) = 0) && (cntF us (p, q) == q)), .int .i64 (askS us (p, q))]) ∧ Below w.heap.size w w' := by
  have hb0 := (Below.refl w.heap.size w).alloc (Nat.le_refl _) (.cells #[.int .i64 p, .int .i64 q] 115)
  have k0 := Blk.new w 115 #[.int .i64 p, .int .i64 q]
  have z0 := k0.cell
  have hr0 := hr.on hb0
  have HA := Lib.hid (asked_any A n cap us p q _ hn hm hr0)
  by_cases h0 : askS us (p, q) = 0
  · obtain ⟨hu, hv⟩ := askS_zero h0
    have hl := hu.len
    have HK := Lib.hid (fun W h => rcount_any A n cap us p q W hn (by omega) h hu.1 hv)
    rw [h0] at HA ⊢
    generalize cntF us (p, q) = C at *
    clear h0 hu hv hn
    go_enter Tryz.func164, Tryz.ntmps164
    go_wp2_with fail
    refine HA.out.mono ?_
    rintro e w1 ⟨rfl, hb1⟩
    have B1 := hb0.trans (hb1.mono hb0.size)
    have k1 := k0.call hb1
    have r1 := hr0.on hb1
    have q1 := fun z : Ext w1 => (z.blk k1).cell
    have CK : Hid (∀ z : Ext w1, Calls Tryz.prog 212 #[.slice A n cap, .agg #[.int .i64 p, .int .i64 q]] z.w fun e w'' => e = .returned (.int .i64 C) ∧ ∃ t : Ext w1, w'' = t.w) := Lib.hid (fun z => Ext.call (HK.out _ (r1.on z.le)))
    clear HA k0 z0 hr0
    go_upto_region 4 with fail
    refine region_ext (by kernel_rfl) (by kernel_rfl) ?_
    repeat (go_big_quiet_step ((go_at_call 212; exact CK.out _)))
    refine wpQuiet_nil ?_
    rintro w2 ⟨⟨_, hw2⟩, rfl⟩
    go_wp2_with fail
    go_ret2
    exact ⟨rfl, B1.trans (hw2.mono B1.size)⟩
  · obtain ⟨er, her⟩ : ∃ er, askS us (p, q) = er := ⟨_, rfl⟩
    rw [her] at HA h0 ⊢
    have hz' : (er != 0) = true := by simpa using h0
    have hz2 : decide (er = 0) = false := by simpa using h0
    rw [hz2, Bool.false_and]
    clear her h0
    go_enter Tryz.func164, Tryz.ntmps164
    go_wp2_with fail
    refine HA.out.mono ?_
    rintro e w1 ⟨rfl, hb1⟩
    go_wp2_with fail
    go_ret2
    exact ⟨rfl, hb0.trans (hb1.mono hb0.size)⟩

end Go.Proofs.YtpabnbhbcphfiaaGreat
namespace Go.Pol
open Go
/-- how both sets are combined -/
def combG (how : Int) (x y : Bool) : Bool := if how = 1 then x || y else if how = 2 then x && y else x && !y
/-- what is wrong with two sets -/
def chk2 (us vs : List Sp) : Int := if chkS us = 0 then chkS vs else chkS us
def combF (how : Int) (us vs : List Sp) : List Sp := if chk2 us vs = 0 then setA (fun p => combG how (mem (p : Int) us) (mem (p : Int) vs)) else []
theorem chk2_zero {us vs : List Sp} (h : chk2 us vs = 0) : Can us ∧ Can vs := by
  unfold chk2 at h
  by_cases h1 : chkS us = 0
  · rw [if_pos h1] at h
    exact ⟨chkS_zero.1 h1, chkS_zero.1 h⟩
  · rw [if_neg h1] at h
    exact absurd h h1
end Go.Pol
namespace Go.Proofs.YtpabnbhbcphfiaaGreat
open Go Go.Proofs Go.RowKit Go.Pol Go.Shelf

set_option maxRecDepth 100000 in
set_option maxHeartbeats 3200000 in
theorem combined_any (A1 A2 : Option Addr) (n1 c1 n2 c2 : Nat) (us vs : List Sp) (how : Int) (hhow : how = 1 ∨ how = 2 ∨ how = 3) (w : World) (hn1 : us.length = n1) (hm1 : n1 ≤ maxLen) (hr1 : RU w w.heap.size A1 us) (hn2 : vs.length = n2) (hm2 : n2 ≤ maxLen) (hr2 : RU w w.heap.size A2 vs) :
    Calls Tryz.prog 116 #[.slice A1 n1 c1, .slice A2 n2 c2, .int .i64 how] w (SpansR w (combF how us vs) (chk2 us vs)) := by
  have H1 := Lib.hid (fun W h => refSpCheck_any A1 n1 c1 us W hn1 hm1 h)
  have H2 := Lib.hid (fun W h => refSpCheck_any A2 n2 c2 vs W hn2 hm2 h)
  by_cases hz : chk2 us vs = 0
  case neg =>
    unfold combF
    rw [if_neg hz]
    unfold chk2 at hz ⊢
    by_cases h1 : chkS us = 0
    · rw [if_pos h1] at hz ⊢
      rw [h1] at H1
      generalize chkS vs = er at *
      have hz' : (er != 0) = true := by simpa using hz
      clear hz h1 hhow
      go_enter Tryz.func116, Tryz.ntmps116
      go_wp2_with fail
      refine (H1.out _ hr1).mono ?_
      rintro e w1 ⟨rfl, hb1⟩
      go_wp2_with fail
      refine (H2.out _ (hr2.on hb1)).mono ?_
      rintro e w2 ⟨rfl, hb2⟩
      go_wp2_with fail
      go_ret2
      exact ⟨none, 0, rfl, RU.nil, by simp, by unfold maxLen; omega, fun b o e => (by cases e), hb1.trans (hb2.mono hb1.size)⟩
    · rw [if_neg h1] at hz ⊢
      generalize chkS us = er at *
      have hz' : (er != 0) = true := by simpa using hz
      have hz2 : (er == 0) = false := by simpa using hz
      clear hz h1 hhow
      go_enter Tryz.func116, Tryz.ntmps116
      go_wp2_with fail
      refine (H1.out _ hr1).mono ?_
      rintro e w1 ⟨rfl, hb1⟩
      go_wp2_with fail
      go_ret2
      exact ⟨none, 0, rfl, RU.nil, by simp, by unfold maxLen; omega, fun b o e => (by cases e), hb1⟩
  case pos =>
    obtain ⟨hU, hV⟩ := chk2_zero hz
    have z1 := chkS_zero.2 hU
    have z2 := chkS_zero.2 hV
    rw [z1] at H1
    rw [z2] at H2
    have hC : Hid (combF how us vs = setA (fun p => combG how (mem (p : Int) us) (mem (p : Int) vs))) := Lib.hid (by unfold combF; rw [if_pos hz])
    rw [hz]
    have l1 := hU.len
    have l2 := hV.len
    have M1 := Lib.hid (fun W h => marks_any A1 n1 c1 us W hn1 (by omega) h hU.1)
    have M2 := Lib.hid (fun W h => marks_any A2 n2 c2 vs W hn2 (by omega) h hV.1)
    obtain ⟨R, hR⟩ : ∃ R, combF how us vs = R := ⟨_, rfl⟩
    rw [hR]
    rw [hR] at hC
    obtain ⟨f1, hf1⟩ : ∃ f1 : Nat → Bool, (fun p : Nat => mem (p : Int) us) = f1 := ⟨_, rfl⟩
    obtain ⟨f2, hf2⟩ : ∃ f2 : Nat → Bool, (fun p : Nat => mem (p : Int) vs) = f2 := ⟨_, rfl⟩
    have hC2 : Hid (R = setA (fun p => combG how (f1 p) (f2 p))) := Lib.hid (by rw [hC.out, ← hf1, ← hf2])
    rw [hf1] at M1
    rw [hf2] at M2
    have HSet := Lib.hid (fun cs f W h => refSet_any cs f W h)
    have hZ := zeros_are
    clear hC hf1 hf2 hR hU hV hz hn1 hn2 z1 z2
    go_enter Tryz.func116, Tryz.ntmps116
    go_wp2_with fail
    refine (H1.out _ hr1).mono ?_
    rintro e w1 ⟨rfl, hb1⟩
    have r1 := hr1.on hb1
    have r2 := hr2.on hb1
    go_wp2_with fail
    refine (H2.out _ r2).mono ?_
    rintro e w2 ⟨rfl, hb2⟩
    have B2 := hb1.trans (hb2.mono hb1.size)
    have r1b := r1.on hb2
    have r2b := r2.on hb2
    clear H1 H2 hb1 hb2 r1 r2 hr1 hr2
    go_wp2_with fail
    refine (M1.out _ r1b).mono ?_
    rintro e w3 ⟨cs1, rfl, hM1, hb3⟩
    have B3 := B2.trans (hb3.mono B2.size)
    have r2c := r2b.on hb3
    clear M1 B2 hb3 r1b r2b
    go_wp2_with fail
    refine (M2.out _ r2c).mono ?_
    rintro e w4 ⟨cs2, rfl, hM2, hb4⟩
    have B4 := B3.trans (hb4.mono B3.size)
    clear M2 B3 hb4 r2c
    obtain ⟨g, hg⟩ : ∃ g, w4.heap.size = g := ⟨_, rfl⟩
    have kA : Blk ((w4.alloc (.cells Tryz.zeroCells186 186)).alloc (.cells Tryz.zeroCells186 186)) g 186 Tryz.zeroCells186 := by rw [← hg]; exact (Blk.new _ _ _).alloc _
    have kB : Blk ((w4.alloc (.cells Tryz.zeroCells186 186)).alloc (.cells Tryz.zeroCells186 186)) (g + 1) 186 Tryz.zeroCells186 := by
      have := Blk.new (w4.alloc (.cells Tryz.zeroCells186 186)) 186 Tryz.zeroCells186
      rw [World.size_alloc, hg] at this; exact this
    have hbA : Below g w4 ((w4.alloc (.cells Tryz.zeroCells186 186)).alloc (.cells Tryz.zeroCells186 186)) := by rw [← hg]; exact ((Below.refl w4.heap.size w4).alloc (Nat.le_refl _) _).alloc (by simp) _
    have hzs := hZ.size
    have hs1 := hM1.size
    have hs2 := hM2.size
    have ho1 := hM1.one
    have ho2 := hM2.one
    have ht1 := blk_there kA
    have ht2 := blk_there kB
    rw [hzs] at ht1 ht2
    have hBg := B4.size
    go_upto_region 7 with (first
      | (refine wpList_store_mid rfl 186 (.tmp 9) (.tmp 23) rfl g 0 cs1 rfl rfl (by rw [hs1]; exact ht1) (by rw [hs1]; kernel_rfl) ho1 ?_)
      | (refine wpList_store_mid rfl 186 (.tmp 10) (.tmp 25) rfl (g + 1) 0 cs2 rfl rfl (by rw [hs2]; exact World.there_setCells ht2 _ _ _) (by rw [hs2]; kernel_rfl) ho2 ?_))
    have hg1 := World.rangeAt_setCells_same ((w4.alloc (.cells Tryz.zeroCells186 186)).alloc (.cells Tryz.zeroCells186 186)) g 0 cs1.toList (by rw [Array.length_toList, hs1]; exact ht1)
    have hg1b := World.rangeAt_setCells_apart hg1 (g + 1) 0 cs2.toList (.inl (by omega))
    have hg2 := World.rangeAt_setCells_same (((w4.alloc (.cells Tryz.zeroCells186 186)).alloc (.cells Tryz.zeroCells186 186)).setCells g 0 cs1.toList) (g + 1) 0 cs2.toList (by rw [Array.length_toList, hs2]; exact World.there_setCells ht2 _ _ _)
    have hb5 := below_setCells (s := g) (g + 1) (by omega) cs2.toList 0 _ (below_setCells g (Nat.le_refl _) cs1.toList 0 _ hbA)
    generalize (((w4.alloc (.cells Tryz.zeroCells186 186)).alloc (.cells Tryz.zeroCells186 186)).setCells g 0 cs1.toList).setCells (g + 1) 0 cs2.toList = W5 at *
    have hc1 : ∀ p : Nat, p < 1024 → W5.cell? ⟨g, p, none⟩ = some (.bool (f1 p)) := fun p hp => by
      have h := hg1b p (.bool (f1 p)) (by rw [Array.getElem?_toList, hM1.at_ p hp])
      rw [Nat.zero_add] at h
      exact h
    have hc2 : ∀ p : Nat, p < 1024 → W5.cell? ⟨g + 1, p, none⟩ = some (.bool (f2 p)) := fun p hp => by
      have h := hg2 p (.bool (f2 p)) (by rw [Array.getElem?_toList, hM2.at_ p hp])
      rw [Nat.zero_add] at h
      exact h
    have hlt5 : g + 1 < W5.heap.size := World.block_lt_of_cell? _ _ (hc2 0 (by omega))
    have B5 := B4.trans (hb5.mono (by omega))
    have hz5 := hb5.size
    clear hg1 hg1b hg2 ht1 ht2 kA kB hbA ho1 ho2 hM1 hM2 hb5 B4
    go_upto_region 8 with fail
    have kO := Blk.new W5 186 Tryz.zeroCells186
    have hb6 := (Below.refl W5.heap.size W5).alloc (Nat.le_refl _) (.cells Tryz.zeroCells186 186)
    generalize W5.alloc (.cells Tryz.zeroCells186 186) = W6 at *
    generalize Tryz.zeroCells186 = Z at *
    obtain ⟨o, ho⟩ : ∃ o, W5.heap.size = o := ⟨_, rfl⟩
    rw [ho] at hb6 kO hlt5
    have hws : w.heap.size ≤ o := by rw [← ho]; exact B5.size
    try simp only [ho]
    go_wp2_with fail
    go_loopw [12] (fun i wr => ∃ (k : Nat) (cs : Array Value), k ≤ 1024 ∧ i = .int .i64 k ∧ Blk wr o 186 cs ∧ MarksAre cs (fun p => decide (p < k) && combG how (f1 p) (f2 p)) ∧ Below o W5 wr) (fun i _ => 1024 - (intOf i).toNat)
    case atStart => exact ⟨0, Z, by omega, rfl, kO, hZ.congr (fun p _ => by simp), hb6⟩
    case round =>
      clear kO hb6
      obtain ⟨k, cs, hk, rfl, kO, hM, hB⟩ := hrel
      by_cases hlt : k < 1024
      · have hlt' : decide ((k : Int) < 1024) = true := by simp; omega
        have x1 := (hB.cell (p := ⟨g, k, none⟩) (by show g < o; omega)).trans (hc1 k hlt)
        have x2 := (hB.cell (p := ⟨g + 1, k, none⟩) hlt5).trans (hc2 k hlt)
        have hold := hM.at_ k hlt
        generalize (decide (k < k) && combG how (f1 k) (f2 k)) = B0 at hold
        have hst := fun b (hb : combG how (f1 k) (f2 k) = b) => hM.set (g := fun p => decide (p < k + 1) && combG how (f1 p) (f2 p)) k hlt b (by
          show (decide (k < k + 1) && combG how (f1 k) (f2 k)) = b
          rw [decide_eq_true (by omega), hb, Bool.true_and]) (fun q hq => by
          congr 1
          exact decide_eq_decide.2 (by omega))
        have hst' := Lib.hid hst
        clear hst
        have fO := kO.frozen
        have cO : wr.cell? ⟨o, k, none⟩ = some (.bool B0) := (kO.cell k).trans hold
        generalize f1 k = u at *
        generalize f2 k = v at *
        rcases hhow with rfl | rfl | rfl <;> cases u <;> cases v
        all_goals (go_wp2_with fail; go_roundw; (case rel => exact ⟨k + 1, _, by omega, by go_num, kO.set_ _ _, hst'.out _ rfl, hB.setCell (p := ⟨o, k, none⟩) (Nat.le_refl _) _⟩); (case measure => simp [intOf]; omega))
      · have hlt' : decide ((k : Int) < 1024) = false := by simp; omega
        obtain rfl : k = 1024 := by omega
        have hMe := hM.congr (g := fun p => combG how (f1 p) (f2 p)) (fun p hp => by rw [decide_eq_true hp, Bool.true_and])
        have hsz := hM.size
        have HS2 := Lib.hid (fun W => HSet.out cs _ W hMe)
        rw [← hC2.out] at HS2
        have B9 := B5.trans (hB.mono hws)
        go_wp2_with (first
          | (refine wpList_load_mid rfl 186 (.tmp 11) rfl o 0 rfl cs.toList _ (rangeAt_blk kO) Tryz.underlying186 rfl (by rw [Array.length_toList, hsz]; kernel_rfl) ?_; rw [Array.toArray_toList])
          | (go_at_call 101; refine (HS2.out _).mono ?_; rintro e w2 ⟨A, cap, rfl, hru, h1, h2, h3, hq2⟩))
        go_ret2
        exact ⟨A, cap, rfl, hru, h1, h2, fun b o e => by have := h3 b o e; have := B9.size; omega, B9.trans (hq2.mono B9.size)⟩

theorem rMeet_any (A1 A2 : Option Addr) (n1 c1 n2 c2 : Nat) (us vs : List Sp) (w : World) (hn1 : us.length = n1) (hm1 : n1 ≤ maxLen) (hr1 : RU w w.heap.size A1 us) (hn2 : vs.length = n2) (hm2 : n2 ≤ maxLen) (hr2 : RU w w.heap.size A2 vs) :
    Calls Tryz.prog 103 #[.slice A1 n1 c1, .slice A2 n2 c2] w (SpansR w (combF 2 us vs) (chk2 us vs)) := by
  have H := Lib.hid (combined_any A1 A2 n1 c1 n2 c2 us vs 2 (by omega) w hn1 hm1 hr1 hn2 hm2 hr2)
  generalize combF 2 us vs = R at *
  generalize chk2 us vs = er at *
  go_enter Tryz.func103, Tryz.ntmps103
  go_wp2_with fail
  refine H.out.mono ?_
  rintro e w1 ⟨A, cap, rfl, h1, h2, h3, h4, h5⟩
  go_wp2_with fail
  go_ret2
  exact ⟨A, cap, rfl, h1, h2, h3, h4, h5⟩
theorem rMinus_any (A1 A2 : Option Addr) (n1 c1 n2 c2 : Nat) (us vs : List Sp) (w : World) (hn1 : us.length = n1) (hm1 : n1 ≤ maxLen) (hr1 : RU w w.heap.size A1 us) (hn2 : vs.length = n2) (hm2 : n2 ≤ maxLen) (hr2 : RU w w.heap.size A2 vs) :
    Calls Tryz.prog 47 #[.slice A1 n1 c1, .slice A2 n2 c2] w (SpansR w (combF 3 us vs) (chk2 us vs)) := by
  have H := Lib.hid (combined_any A1 A2 n1 c1 n2 c2 us vs 3 (by omega) w hn1 hm1 hr1 hn2 hm2 hr2)
  generalize combF 3 us vs = R at *
  generalize chk2 us vs = er at *
  go_enter Tryz.func47, Tryz.ntmps47
  go_wp2_with fail
  refine H.out.mono ?_
  rintro e w1 ⟨A, cap, rfl, h1, h2, h3, h4, h5⟩
  go_wp2_with fail
  go_ret2
  exact ⟨A, cap, rfl, h1, h2, h3, h4, h5⟩

/-! the program's answers are the reference's -/
end Go.Proofs.YtpabnbhbcphfiaaGreat
namespace Go.Pol
open Go
theorem spanOk {g : Int} (h : 0 ≤ g ∧ g < 64) : vld (16 * g, 16) = true := by rw [vld_iff]; simp only; omega
theorem askS_span {us : List Sp} (hc : Can us) {g : Int} (h : 0 ≤ g ∧ g < 64) : Go.Proofs.YtpabnbhbcphfiaaGreat.askS us (16 * g, 16) = 0 := by
  unfold Go.Proofs.YtpabnbhbcphfiaaGreat.askS
  rw [if_pos (chkS_zero.2 hc), if_pos (spanOk h)]
theorem setA_nil {f : Nat → Bool} : setA f = [] ↔ ∀ p, p < 1024 → f p = false := by
  constructor
  · intro h p hp
    cases hf : f p with
    | false => rfl
    | true =>
      have : mem (p : Int) (setA f) = true := (mem_setA f _).2 ⟨by omega, by rwa [show ((p : Nat) : Int).toNat = p by omega]⟩
      rw [h] at this
      cases this
  · intro h
    cases he : setA f with
    | nil => rfl
    | cons x r =>
      have hv := vld_iff.1 ((setA_can f).1 x (by rw [he]; simp))
      have hm : mem x.1 (setA f) = true := by
        rw [he]; unfold mem; rw [List.any_cons, Bool.or_eq_true]; left; simp; omega
      obtain ⟨h1, h2⟩ := (mem_setA f _).1 hm
      rw [h _ (by omega)] at h2
      cases h2
theorem minus_nil {L C : List Sp} (hL : Can L) (hC : Can C) : chk2 L C = 0 ∧ (combF 3 L C = [] ↔ subF L C = true) := by
  have h2 : chk2 L C = 0 := by
    unfold chk2
    rw [if_pos (chkS_zero.2 hL)]
    exact chkS_zero.2 hC
  refine ⟨h2, ?_⟩
  unfold combF
  rw [if_pos h2, setA_nil]
  unfold subF
  simp only [List.all_eq_true, List.mem_range]
  constructor
  · intro h p hp
    have := h p hp
    unfold combG at this
    rw [if_neg (by decide), if_neg (by decide)] at this
    cases h1 : mem (p : Int) L <;> cases h3 : mem (p : Int) C <;> simp_all
  · intro h p hp
    have := h p hp
    unfold combG
    rw [if_neg (by decide), if_neg (by decide)]
    cases h1 : mem (p : Int) L <;> cases h3 : mem (p : Int) C <;> simp_all
end Go.Pol
namespace Go.Pol
open Go Go.RowKit
/-- the huge groups that are met, in the order of the pages -/
def stepS (H : List Int) (o : List Int) (p : Int) : List Int := if decide (p / 16 ∈ H) && !decide (p / 16 ∈ o) then o ++ [p / 16] else o
def splitG (H : List Int) (l : List Int) : List Int := l.foldl (stepS H) []
theorem splitG_snoc (H : List Int) (l : List Int) (p : Int) : splitG H (l ++ [p]) = stepS H (splitG H l) p := by simp [splitG]
theorem splitG_len (H : List Int) (l : List Int) : (splitG H l).length ≤ l.length := by
  suffices h : ∀ (l o : List Int), (l.foldl (stepS H) o).length ≤ o.length + l.length by
    have := h l []
    rwa [List.length_nil, Nat.zero_add] at this
  intro l
  induction l with
  | nil => intro o; simp
  | cons p r ih =>
    intro o
    rw [List.foldl_cons]
    refine Nat.le_trans (ih _) ?_
    unfold stepS
    split
    · simp; omega
    · simp
/-- what Split answers -/
def splitA (C L : List Sp) (H : List Int) (ps : List Sp) : List Int × Int :=
  if chkH C L H ≠ 0 then ([], chkH C L H) else if chkS ps ≠ 0 then ([], chkS ps) else if subF ps C = false then ([], 4) else (splitG H (pagesOf ps), 0)
end Go.Pol
namespace Go.Proofs.YtpabnbhbcphfiaaGreat
open Go Go.Proofs Go.RowKit Go.Pol Go.Shelf
attribute [local go_sem] Oper.semAt_some Go.Pol.wide_fn Go.Pol.wide_depth Go.Pol.wide_fn' Go.Pol.wide_depth'

set_option maxRecDepth 100000 in
theorem indexV_any (v : Int) (A : Option Addr) (n cap : Nat) (bs : List Int) (w : World) (hn : bs.length = n) (hm : n ≤ maxLen) (hr : RI w w.heap.size A bs) :
    Calls Tryz.prog 210 #[.slice A n cap, .int .i64 v] w fun e w' => e = .returned (.int .i64 (idxI (fun x => v == x) bs 0)) ∧ w' = w := by
  unfold maxLen at hm
  obtain ⟨R, hR⟩ : ∃ R, idxI (fun x => v == x) bs 0 = R := ⟨_, rfl⟩
  rw [hR]
  have hR' := Lib.hid hR
  have hn' := Lib.hid hn
  clear hR hn
  go_enter Tryz.func210, Tryz.ntmps210
  go_wp2_with fail
  go_loopw [8] (fun i wr => ∃ k : Nat, k ≤ n ∧ i = .int .i64 k ∧ wr = w ∧ Hid (idxI (fun x => v == x) (bs.drop k) k = R)) (fun i _ => n - (intOf i).toNat)
  case atStart => exact ⟨0, by omega, rfl, rfl, by simpa using hR'⟩
  case round =>
    obtain ⟨k, hk, rfl, hw, hH⟩ := hrel
    have hw' := hw.symm
    clear hw
    subst hw'
    by_cases hlt : k < n
    · have hlt' : decide ((k : Int) < (n : Int)) = true := by simpa using hlt
      obtain ⟨b, o, rfl, _, c1⟩ := hr.at_ (k := k) (by have := hn'.out; omega)
      have hst := hH.out
      rw [Go.Pol.drop_cons 0 bs k (by have := hn'.out; omega), idxI] at hst
      generalize bs.getD k 0 = x at *
      cases hpx : (v == x) with
      | true =>
        rw [if_pos hpx] at hst
        have hst' := Lib.hid hst
        clear hst hH
        go_wp2_with fail
        go_ret
        exact ⟨ret_int hst'.out, rfl⟩
      | false =>
        rw [if_neg (by simp [hpx])] at hst
        have hst' := Lib.hid hst
        clear hst hH
        go_wp2_with fail
        go_roundw
        case rel => exact ⟨k + 1, by omega, by go_num, by first | rfl | trivial, hst'⟩
        case measure => simp [intOf]; omega
    · obtain rfl : k = n := by omega
      have hlt' : decide ((k : Int) < (k : Int)) = false := by simp
      have hst := hH.out
      rw [List.drop_of_length_le (by have := hn'.out; omega)] at hst
      have hst' := Lib.hid (show -1 = R from hst)
      clear hst hH
      go_wp2_with fail
      go_ret
      exact ⟨ret_int hst'.out, rfl⟩
theorem containsV_any (v : Int) (A : Option Addr) (n cap : Nat) (bs : List Int) (w : World) (hn : bs.length = n) (hm : n ≤ maxLen) (hr : RI w w.heap.size A bs) :
    Calls Tryz.prog 163 #[.slice A n cap, .int .i64 v] w fun e w' => e = .returned (.bool (decide (v ∈ bs))) ∧ w' = w := by
  have HI := Lib.hid (indexV_any v A n cap bs w hn hm hr)
  have hE := Lib.hid (show decide (0 ≤ idxI (fun x => v == x) bs 0) = decide (v ∈ bs) by
    rw [idxI_any, Bool.eq_iff_iff]; simp)
  generalize idxI (fun x => v == x) bs 0 = R at *
  generalize decide (v ∈ bs) = S at *
  go_enter Tryz.func163, Tryz.ntmps163
  go_wp2_with fail
  refine HI.out.mono ?_
  rintro e w1 ⟨rfl, hw⟩
  have hw' := hw.symm
  clear hw
  subst hw'
  go_wp2_with fail
  go_ret
  exact ⟨ret_bool hE.out, rfl⟩

/-- what the loop of Split keeps -/
structure SplF (w : World) (s D : Nat) (X : Nat → Prop) (Bp b : Nat) (cs : Array Value) (W : World) : Prop where
  kP : Blk W Bp 191 #[.pointer (some ⟨b, 0, none⟩)]
  kL : Blk W b 201 cs
  below : Below s w W
  size : D ≤ W.heap.size
  own : ∀ k, X k → D ≤ k
theorem SplF.not {w W : World} {s D D0 : Nat} {X : Nat → Prop} {Bp b k : Nat} {cs : Array Value} (h : SplF w s D X Bp b cs W) (h0 : D ≤ D0) (hk : k < D) : ¬ (False ∨ X k ∨ k = D0 ∨ k = D0 + 1) := by
  rintro (h' | h' | h' | h')
  · exact h'
  · have := h.own k h'; omega
  · omega
  · omega
theorem SplF.far {w A B : World} {s D D0 : Nat} {X : Nat → Prop} {Bp b Bo : Nat} {cs : Array Value} (h : SplF w s D X Bp b cs A) (hf : Far (fun k => False ∨ X k ∨ k = D0 ∨ k = D0 + 1) A B) (hb : s + 3 ≤ b ∧ b < Bp ∧ Bp < Bo ∧ Bo < D) (h0 : D ≤ D0) : SplF w s D X Bp b cs B :=
  ⟨hf.blk h.kP (h.not h0 (by omega)), hf.blk h.kL (h.not h0 (by omega)), h.below.trans (hf.below (by have := h.size; omega) (fun k hk => h.not h0 (by omega))), Nat.le_trans h.size hf.size, h.own⟩
theorem SplF.new {w W : World} {s D : Nat} {X X' : Nat → Prop} {Bp b : Nat} {cs : Array Value} (h : SplF w s D X Bp b cs W) (hX : ∀ k, X' k → X k ∨ W.heap.size ≤ k) : SplF w s D X' Bp b cs W :=
  ⟨h.kP, h.kL, h.below, h.size, fun k hk => (hX k hk).elim (h.own k) (fun h' => by have := h.size; omega)⟩
set_option maxRecDepth 100000 in
set_option maxHeartbeats 3200000 in
theorem splitN_any (S : Value) (C L : List Sp) (H : List Int) (A : Option Addr) (n cap : Nat) (ps : List Sp) (w : World) (hS : StIs w S C L H) (hn : ps.length = n) (hm : n ≤ maxLen) (hr : RU w w.heap.size A ps) :
    Calls Tryz.prog 99 #[S, .slice A n cap] w (IntsN (splitA C L H ps) w) := by
  obtain ⟨A1, A2, A3, n1, c1, n2, c2, n3, c3, rfl, h1, h2, h3, h4, h5, h6, h7, h8, h9⟩ := hS.ex
  obtain ⟨i0, hi, hz0, hz1, hz2⟩ := info_parts infoIn
  obtain ⟨s, hs⟩ : ∃ s, w.heap.size = s := ⟨_, rfl⟩
  obtain ⟨W0, hW0⟩ : ∃ W0, ((w.alloc (.cells #[.slice A1 n1 c1, .slice A2 n2 c2, .slice A3 n3 c3] 94)).alloc (.cells #[.slice none 0 0] 47)).alloc (.cells #[.int .i64 0] 35) = W0 := ⟨_, rfl⟩
  have hs0 : W0.heap.size = s + 3 := by rw [← hW0, ← hs]; simp
  have hb0 : Below s w W0 := by rw [← hW0, ← hs]; exact (((Below.refl w.heap.size w).alloc (Nat.le_refl _) _).alloc (by simp) _).alloc (by simp; omega) _
  have kH : Blk W0 s 94 #[.slice A1 n1 c1, .slice A2 n2 c2, .slice A3 n3 c3] := by rw [← hW0, ← hs]; exact ((Blk.new _ _ _).alloc _).alloc _
  have kR : Blk W0 (s + 1) 47 #[.slice none 0 0] := by
    rw [← hW0, ← hs]; have := Blk.new (w.alloc (.cells #[.slice A1 n1 c1, .slice A2 n2 c2, .slice A3 n3 c3] 94)) 47 #[.slice none 0 0]
    rw [World.size_alloc] at this; exact this.alloc _
  have kE : Blk W0 (s + 2) 35 #[.int .i64 0] := by
    rw [← hW0, ← hs]; have := Blk.new ((w.alloc (.cells #[.slice A1 n1 c1, .slice A2 n2 c2, .slice A3 n3 c3] 94)).alloc (.cells #[.slice none 0 0] 47)) 35 #[.int .i64 0]
    simp only [World.size_alloc] at this; exact this
  have hbb : Below w.heap.size w W0 := by rw [hs]; exact hb0
  have HO := Lib.hid (open_any A1 A2 A3 n1 c1 n2 c2 n3 c3 C L H W0 h1 h2 (h3.on hbb) h4 h5 (h6.on hbb) h7 h8 (RI.on h9 hbb))
  have HP := Lib.hid (fun W (h : RU W W.heap.size A ps) => spCheck_any A n cap ps W hn hm h)
  have hA := Lib.hid (show splitA C L H ps = if chkH C L H ≠ 0 then ([], chkH C L H) else if chkS ps ≠ 0 then ([], chkS ps) else if subF ps C = false then ([], 4) else (splitG H (pagesOf ps), 0) from rfl)
  generalize splitA C L H ps = R at *
  generalize hER : chkH C L H = er at *
  have hER' := Lib.hid hER
  have cH := kH.cell
  have hW1 := Lib.hid hW0
  clear hW0 h1 h2 h3 h4 h5 h6 h7 h8 h9 hS hbb hER
  refine calls_of_marks Tryz.func99 rfl ?_
  simp only [Tryz.ntmps99, List.size_toArray, List.length_cons, List.length_nil, Nat.reduceAdd, Nat.reduceSub, Array.replicate_succ, Array.replicate_zero, List.push_toArray, List.append_toArray, List.nil_append, List.cons_append]
  go_upto_region 1 with fail
  try simp only [Nat.add_assoc, Nat.reduceAdd]
  rw [hW1.out]
  clear hW1
  go_wp2_with fail
  refine HO.out.mono ?_
  rintro e w1 ⟨hb1, he, hz⟩
  have B1 := hb0.trans (hb1.mono (by omega))
  rw [hER'.out] at he hz
  have kR1 := kR.call hb1
  have kE1 := kE.call hb1
  have hs1 := hb1.size
  by_cases h0 : er = 0
  case neg =>
    obtain rfl := he h0
    have h0' : (er != 0) = true := by simpa using h0
    have hA' : Hid (R = ([], er)) := Lib.hid (by rw [hA.out, if_pos h0])
    have hz2 := Lib.hid h0
    clear hA h0 he hz
    go_upto_region 2 with fail
    have hb2 := (Below.refl w1.heap.size w1).alloc (Nat.le_refl _) (.cells #[.pointer none] 191)
    generalize w1.alloc (.cells #[.pointer none] 191) = w2 at *
    have kRx := kR1.call hb2
    have kEx := kE1.call hb2
    have Bx := B1.trans (hb2.mono (by have := B1.size; omega))
    have z1 := kRx.cell
    have z2 := kEx.cell
    have y1 := kRx.frozen
    have y2 := kEx.frozen
    go_wp2_with fail
    obtain ⟨k4, k5, hf⟩ := two_set (by omega) kRx kEx (.slice none 0 0) (.int .i64 er)
    have x1 := k4.cell
    have x2 := k5.cell
    exact leave_none (v := .tuple #[.slice none 0 0, .int .i64 er]) (by simp [results, Tryz.results99, go_sem, x1, x2]) (by rw [hA'.out]; exact IntsN.err (by rw [hs]; exact Bx.trans (hf.below (by have := Bx.size; omega) (fun k hk => by omega))))
  case pos =>
    obtain ⟨b, cs, rfl, hbs, kL, hcs⟩ := hz h0
    have hA1 : Hid (R = if chkS ps ≠ 0 then ([], chkS ps) else if subF ps C = false then ([], 4) else (splitG H (pagesOf ps), 0)) := Lib.hid (by rw [hA.out, if_neg (by simp [h0])])
    clear hA he hz h0
    have hb2 := (Below.refl w1.heap.size w1).alloc (Nat.le_refl _) (.cells #[.pointer (some ⟨b, 0, none⟩)] 191)
    have kP := Blk.new w1 191 #[.pointer (some ⟨b, 0, none⟩)]
    obtain ⟨Bp, hBp⟩ : ∃ Bp, w1.heap.size = Bp := ⟨_, rfl⟩
    have hbB : b < Bp := by rw [← hBp]; exact kL.lt
    have hs2 : (w1.alloc (.cells #[.pointer (some ⟨b, 0, none⟩)] 191)).heap.size = Bp + 1 := by rw [World.size_alloc, hBp]
    rw [hBp] at kP
    have kR2 := kR1.call hb2
    have kE2 := kE1.call hb2
    have kL2 := kL.call hb2
    have B2 := B1.trans (hb2.mono (by have := B1.size; omega))
    have hpr := hr.on (by rw [hs]; exact B2)
    go_upto_region 4 with fail
    generalize w1.alloc (.cells #[.pointer (some ⟨b, 0, none⟩)] 191) = w2 at *
    try simp only [hBp]
    clear hb1 hb2 kR1 kE1 kL B1 kR kE kH cH HO
    by_cases hc : chkS ps = 0
    · have hcan := chkS_zero.1 hc
      rw [hc] at HP
      have hA2 : Hid (R = if subF ps C = false then ([], 4) else (splitG H (pagesOf ps), 0)) := Lib.hid (by rw [hA1.out, if_neg (by simp [hc])])
      clear hA1 hc
      go_wp2_with fail
      refine (HP.out _ hpr).mono ?_
      rintro e w3 ⟨rfl, hb3⟩
      have kR3 := kR2.call hb3
      have kE3 := kE2.call hb3
      have kL3 := kL2.call hb3
      have kP3 := kP.call hb3
      have B3 := B2.trans (hb3.mono (by have := B2.size; omega))
      have hs3 := hb3.size
      obtain ⟨Bo, hBo⟩ : ∃ Bo, w3.heap.size = Bo := ⟨_, rfl⟩
      have hb4 := (Below.refl w3.heap.size w3).alloc (Nat.le_refl _) (.cells #[.slice none 0 0] 47)
      have kO := Blk.new w3 47 #[.slice none 0 0]
      have hs4 : (w3.alloc (.cells #[.slice none 0 0] 47)).heap.size = Bo + 1 := by rw [World.size_alloc, hBo]
      rw [hBo] at kO
      have kR4 := kR3.call hb4
      have kE4 := kE3.call hb4
      have kL4 := kL3.call hb4
      have kP4 := kP3.call hb4
      have B4 := B3.trans (hb4.mono (by have := B3.size; omega))
      have T := Lib.hid (pagesTop_any A n cap ps _ hn (by have := hcan.len; omega) (hr.on (by rw [hs]; exact B4)))
      rw [show fsts (piecesF ps 1) = pagesOf ps from pieces_one hcan] at T
      go_upto_region 8 with fail
      generalize w3.alloc (.cells #[.slice none 0 0] 47) = w4 at *
      try simp only [hBo]
      clear hb3 hb4 kR3 kE3 kL3 kP3 kR2 kE2 kL2 kP B3 hpr
      go_wp2_with fail
      refine T.out.mono ?_
      rintro e w5 ⟨lb, K5, rfl, hsq, hK5, hb5⟩
      have kR5 := kR4.call hb5
      have kE5 := kE4.call hb5
      have kL5 := kL4.call hb5
      have kP5 := kP4.call hb5
      have kO5 := kO.call hb5
      have B5 := B4.trans (hb5.mono (by have := B4.size; omega))
      have hs5 := hb5.size
      obtain ⟨D, hD⟩ : ∃ D, w5.heap.size = D := ⟨_, rfl⟩
      have hKs : ∀ k, K5 k → Bo + 1 ≤ k ∧ k < D := fun k h => by have := hK5 k h; omega
      have hBP : s + 3 ≤ b ∧ b < Bp ∧ Bp < Bo ∧ Bo < D := ⟨by omega, hbB, by omega, by omega⟩
      clear T hb5 hK5 kR4 kE4 kL4 kP4 kO B4 hs2 hs3 hs4 hs5
      go_wp2_with fail
      refine rangeYI 10 27 (gf := 208) (lb := lb) rfl pages_enters hsq rfl (fun _ h => h.elim) (fun k h => by have := hKs k h; omega)
        (fun X pre W => BoxX X W Bo 47 3 (D + 2) 1 (splitG H pre).length ((splitG H pre).map (Value.int .i64)) ∧ (∀ p ∈ pre, mem p C = true) ∧ SplF w s D X Bp b cs W ∧ Blk W (s + 1) 47 #[.slice none 0 0] ∧ Blk W (s + 2) 35 #[.int .i64 0])
        (fun c X pre W => c = .ret ∧ subF ps C = false ∧ SplF w s D X Bp b cs W ∧ Blk W (s + 1) 47 #[.slice none 0 0] ∧ Blk W (s + 2) 35 #[.int .i64 4])
        (fun X pre A B h hf => ⟨h.1.far hf (by rintro (h | h | h | h) <;> first | exact h | exact h.elim | omega) (fun g hg => by rintro (h | h | h | h) <;> first | exact h | exact h.elim | omega), h.2.1,
          h.2.2.1.far hf hBP (by omega), hf.blk h.2.2.2.1 (h.2.2.1.not (by omega) (by omega)), hf.blk h.2.2.2.2 (h.2.2.1.not (by omega) (by omega))⟩)
        (fun c X pre A B h hf => ⟨h.1, h.2.1, h.2.2.1.far hf hBP (by omega), hf.blk h.2.2.2.1 (h.2.2.1.not (by omega) (by omega)), hf.blk h.2.2.2.2 (h.2.2.1.not (by omega) (by omega))⟩)
        (fun X X' pre A h hX => ⟨h.1.new hX, h.2.1, h.2.2.1.new hX, h.2.2.2⟩)
        ⟨⟨_, kO5, World.ownsRow_nil _ _ _ _, id, fun _ _ => id⟩, fun _ h => (by simp at h), ⟨kP5, kL5, B5, by omega, fun _ h => h.elim⟩, kR5, kE5⟩ ?assign ?body ?done ?stop
      case assign =>
        intro m l x W C hC
        simp only [List.setIfInBounds_toArray, List.set_cons_succ, List.set_cons_zero] at hC ⊢
        gi_wp2
        exact hC
      case body =>
        rintro m l X pre xa Wa W hsz hXlt ⟨hbox, hm2, hF, kR, kE⟩ hpre hBa
        simp only [List.setIfInBounds_toArray, List.set_cons_succ, List.set_cons_zero]
        obtain ⟨x, rfl, hx⟩ := page_nat hcan hpre
        have hxm : (x : Int) ∈ pagesOf ps := hpre.subset (by simp)
        have hpl := pre_len hcan hpre
        have cP := hF.kP.cell
        have c0 := (hF.kL.cell (x * 2)).trans (hcs.cm x hx)
        by_cases hmc : mem (x : Int) C = true
        case neg =>
          have hmc' : mem (x : Int) C = false := by simpa using hmc
          have hsub : subF ps C = false := by
            cases h : subF ps C with
            | false => rfl
            | true => exact absurd ((subF_iff hcan).1 h _ hxm) hmc
          rw [hmc'] at c0
          have cR := kR.cell
          have cE := kE.cell
          have fR := kR.frozen
          have fE := kE.frozen
          clear hmc hmc' hbox
          gi_wp2_with fail
          obtain ⟨k2, k3, hf2⟩ := two_set (by omega) kR kE (.slice none 0 0) (.int .i64 4)
          refine ⟨hf2.mono fun k _ h => ?_, rfl, hsub, ⟨hf2.blk hF.kP (by omega), hf2.blk hF.kL (by omega), hF.below.trans (hf2.below (by have := hF.below.size; omega) (fun k hk => by omega)), Nat.le_trans hF.size hf2.size, hF.own⟩, k2, k3⟩
          rintro (h' | h' | h' | h')
          · have := hKs k h'; omega
          · have := hF.own k h'; omega
          · omega
          · omega
        case pos =>
          rw [hmc] at c0
          have hq1 : x / 16 < 64 := by omega
          obtain ⟨q, hq⟩ : ∃ q, x / 16 = q := ⟨_, rfl⟩
          have hq' : ((x : Int) / 16) = (q : Int) := by omega
          rw [hq] at hq1
          have g0 := (hF.kL.cell (2048 + q * 4)).trans (hcs.nm q hq1)
          have g1 := (hF.kL.cell (2048 + q * 4 + 1)).trans (hcs.gc q hq1)
          have g2 := (hF.kL.cell (2048 + q * 4 + 2)).trans (hcs.gl q hq1)
          have g3 := (hF.kL.cell (2048 + q * 4 + 3)).trans (hcs.gh q hq1)
          generalize grpF C (q : Int) = v1 at g1
          generalize grpF L (q : Int) = v2 at g2
          have hmn : ∀ p ∈ pre ++ [(x : Int)], mem p C = true := by
            intro p hp
            rcases List.mem_append.1 hp with h | h
            · exact hm2 p h
            · rw [List.mem_singleton.1 h]; exact hmc
          have hsn := Lib.hid (show splitG H (pre ++ [(x : Int)]) = if decide ((q : Int) ∈ H) && !decide ((q : Int) ∈ splitG H pre) then splitG H pre ++ [(q : Int)] else splitG H pre by
            rw [splitG_snoc, stepS, hq'])
          have hOl := splitG_len H pre
          obtain ⟨v, hv, hrow, hXB, hXg⟩ := hbox.ex
          obtain ⟨A', cap', rfl, hru⟩ := own_RIx hrow rfl
          generalize hO : splitG H pre = O at *
          have hO' := Lib.hid hO
          obtain ⟨hd, hhd⟩ : ∃ hd, decide ((q : Int) ∈ H) = hd := ⟨_, rfl⟩
          rw [hhd] at g3 hsn
          have hhd' := Lib.hid hhd
          clear hO hbox hmc hhd hm2
          obtain ⟨pl, hpl2⟩ : ∃ pl, O.length = pl := ⟨_, rfl⟩
          have cv := hv.cell
          have fv := hv.frozen
          rw [hpl2] at hrow hv cv hOl hXg
          have kX := Blk.new W 198 #[.int .i64 (q : Int), .int .i64 v1, .int .i64 v2, .bool hd]
          have cX := kX.cell
          have hbX : Below W.heap.size W (W.alloc (.cells #[.int .i64 (q : Int), .int .i64 v1, .int .i64 v2, .bool hd] 198)) := (Below.refl _ _).alloc (Nat.le_refl _) _
          have HC := Lib.hid (containsV_any (q : Int) A' pl cap' O (W.alloc (.cells #[.int .i64 (q : Int), .int .i64 v1, .int .i64 v2, .bool hd] 198)) hpl2 (by unfold maxLen; omega) (RI.on hru hbX))
          have same : splitG H (pre ++ [(x : Int)]) = O → ∀ W', Below W.heap.size W W' → Far (fun k => ¬ (K5 k ∨ X k ∨ k = w5.heap.size ∨ k = w5.heap.size + 1)) W W' ∧ (BoxX X W' Bo 47 3 (D + 2) 1 (splitG H (pre ++ [(x : Int)])).length ((splitG H (pre ++ [(x : Int)])).map (Value.int .i64)) ∧ (∀ p ∈ pre ++ [(x : Int)], mem p C = true) ∧ SplF w s D X Bp b cs W' ∧ Blk W' (s + 1) 47 #[.slice none 0 0] ∧ Blk W' (s + 2) 35 #[.int .i64 0]) := fun hE W' hb => by
            rw [hE, hpl2]
            exact ⟨.of_below hb, ⟨_, hv.call hb, ownsRow_call hrow hb, hXB, hXg⟩, hmn, ⟨hF.kP.call hb, hF.kL.call hb, hF.below.trans (hb.mono (by have := hF.below.size; omega)), Nat.le_trans hF.size hb.size, hF.own⟩, kR.call hb, kE.call hb⟩
          have same' := Lib.hid same
          clear same
          have cvX := (hv.call hbX).cell
          cases hd with
          | false =>
            have hE : Hid (splitG H (pre ++ [(x : Int)]) = O) := Lib.hid (by rw [hsn.out]; rfl)
            clear HC hsn
            gi_wp2_with fail
            exact same'.out hE.out _ hbX
          | true =>
            by_cases hin : (q : Int) ∈ O
            · rw [decide_eq_true hin] at HC hsn
              have hE : Hid (splitG H (pre ++ [(x : Int)]) = O) := Lib.hid (by rw [hsn.out]; rfl)
              clear hsn hin
              gi_wp2_with fail
              refine (CallsIn.inRound l (callsIn_wide.2 HC.out)).mono ?_
              rintro e w7 ⟨rfl, hw7⟩
              subst hw7
              gi_wp2_with fail
              exact same'.out hE.out _ hbX
            · rw [decide_eq_false hin] at HC hsn
              have hE : Hid (splitG H (pre ++ [(x : Int)]) = O ++ [(q : Int)]) := Lib.hid (by rw [hsn.out]; rfl)
              clear hsn hin same'
              gi_wp2_with fail
              refine (CallsIn.inRound l (callsIn_wide.2 HC.out)).mono ?_
              rintro e w7 ⟨rfl, hw7⟩
              subst hw7
              clear HC g0 g1 g2 g3 c0
              have hv7 := hv.call hbX
              have cX7 := cX
              have kR7 := kR.call hbX
              have kE7 := kE.call hbX
              have hF7 : SplF w s D X Bp b cs _ := ⟨hF.kP.call hbX, hF.kL.call hbX, hF.below.trans (hbX.mono (by have := hF.below.size; omega)), Nat.le_trans hF.size hbX.size, hF.own⟩
              have hrow7 := ownsRow_call hrow hbX
              have hlt7 : ∀ k, X k → k < (W.alloc (.cells #[.int .i64 (q : Int), .int .i64 v1, .int .i64 v2, .bool true] 198)).heap.size := fun k hk => by have := (hXlt k hk).1; have := hbX.size; omega
              have F7 : Far (fun k => ¬ (K5 k ∨ X k ∨ k = w5.heap.size ∨ k = w5.heap.size + 1)) W _ := .of_below hbX
              have hsz7 := hbX.size
              generalize W.alloc (.cells #[.int .i64 (q : Int), .int .i64 v1, .int .i64 v2, .bool true] 198) = w7 at *
              have kN := Blk.new w7 3 #[.int .i64 (q : Int)]
              have cv7 := hv7.cell
              have fv7 := hv7.frozen
              clear hv cv fv cX kX hrow hbX cvX
              gi_wp2_with (gi_at_builtin; refine wpListIn_append_x _ rfl (.tmp 52) (.tmp 55) 47 rfl (D + 2) 3 i0 (.int .i64 0) 1 8 Tryz.underlying47 hi hz0 hz1 hz2 rfl (by decide) _ pl (O.map (Value.int .i64)) rfl (hrow7.alloc _) ⟨w7.heap.size, 0, none⟩ 1 1 [.int .i64 (q : Int)] rfl rfl (news_i kN) ints_one (by unfold maxLen; omega) (by omega) (by simp; omega) ?_; intro v' w1 hown' hgrow hblk; rw [show O.map (Value.int .i64) ++ [Value.int .i64 (q : Int)] = (O ++ [(q : Int)]).map (Value.int .i64) by simp] at hown'; obtain ⟨hv1, hb2, hf2⟩ := BoxX.appended hv7 (by decide) hrow7 hXB hXg hown' hgrow hblk hlt7; obtain ⟨A2, cap2, rfl, _⟩ := own_RIx hown' (by simp; omega); have cv1 := hv1.cell; have fv1 := hv1.frozen)
              have hgx : ∀ g, (Value.slice A' pl cap').ownBlock = some g → D + 2 ≤ g ∧ ¬ X g := fun g hg => ⟨(hrow7.lt g hg).1, hXg g hg⟩
              have hf3 := hf2 (fun k => k = Bo ∨ (Value.slice A' pl cap').ownBlock = some k) (.inl rfl) (fun g hg => .inr hg)
              have hfn : ∀ k, k = Bo ∨ (Value.slice A' pl cap').ownBlock = some k → ¬ (K5 k ∨ X k ∨ k = w5.heap.size ∨ k = w5.heap.size + 1) := by
                intro k h
                rintro (h' | h' | h' | h')
                · have := hKs k h'
                  rcases h with h | h
                  · omega
                  · have := hgx k h; omega
                · rcases h with h | h
                  · exact hXB (h ▸ h')
                  · exact (hgx k h).2 h'
                · rcases h with h | h
                  · omega
                  · have := hgx k h; omega
                · rcases h with h | h
                  · omega
                  · have := hgx k h; omega
              have hfk : ∀ k, k < D → k ≠ Bo → ¬ (k = Bo ∨ (Value.slice A' pl cap').ownBlock = some k) := by
                rintro k hk hne (h | h)
                · exact hne h
                · have := hgx k h; omega
              refine ⟨F7.trans (hf3.mono fun k _ h => hfn k h), ?_, hmn, ⟨hf3.blk hF7.kP (hfk _ (by omega) (by omega)), hf3.blk hF7.kL (hfk _ (by omega) (by omega)), hF7.below.trans (hf3.below (by have := hF7.below.size; omega) fun k hk => hfk k (by omega) (by omega)), Nat.le_trans hF7.size hf3.size, hF7.own⟩, hf3.blk kR7 (hfk _ (by omega) (by omega)), hf3.blk kE7 (hfk _ (by omega) (by omega))⟩
              rw [hE.out, List.length_append, List.length_singleton, hpl2]; exact hb2
      case done =>
        rintro X W hsz ⟨hbox, hm2, hF, kR, kE⟩ hd
        have hsub : subF ps C = true := (subF_iff hcan).2 hm2
        have hA' : Hid (R = (splitG H (pagesOf ps), 0)) := Lib.hid (by rw [hA2.out, if_neg (by rw [hsub]; decide)])
        obtain ⟨v, hv, hrow, hXB, hXg⟩ := hbox.ex
        generalize splitG H (pagesOf ps) = G at *
        obtain ⟨A', cap', rfl, hru⟩ := own_RIx hrow rfl
        have cv := hv.cell
        have cR := kR.cell
        have cE := kE.cell
        have fR := kR.frozen
        have fE := kE.frozen
        rw [hD] at hd ⊢
        go_wp2_with fail
        obtain ⟨k2, k3, hf2⟩ := two_set (by omega) kR kE (.slice A' G.length cap') (.int .i64 0)
        have hd2 := hf2.same hd (by omega)
        have hB2 := hF.below.trans (hf2.below (by have := hF.below.size; omega) (fun k hk => by omega))
        have hrow2 := ownsRow_far hrow hf2 (fun g hg h => by have := (hrow.lt g hg).1; omega)
        generalize ((W.setCell ⟨s + 1, 0, none⟩ (.slice A' G.length cap')).setCell ⟨s + 2, 0, none⟩ (.int .i64 0)) = w9 at *
        have hfp : Far (fun k => k = D) w9 (w9.putObj D (.deferred none)) := Far.putObj (T := fun k => k = D) (Far.refl _ _) (fun _ => rfl) _
        have hrow3 := ownsRow_far hrow2 hfp (fun g hg h => by have := (hrow2.lt g hg).1; omega)
        have x1 := (hfp.blk k2 (by omega)).cell
        have x2 := (hfp.blk k3 (by omega)).cell
        obtain ⟨A2, cap2, he, hru, _, _, hfr, _⟩ := own_Rd hrow3
        cases he
        exact leave_mark (v := .tuple #[.slice A' G.length cap', .int .i64 0]) hd2 (by simp [results, Tryz.results99, go_sem, x1, x2]) (by rw [hA'.out]; exact ⟨A', cap', rfl, hru, fun b' o' h' => by have := hfr b' o' h'; have := hF.below.size; omega, by rw [hs]; exact hB2.trans (hfp.below (by have := hB2.size; omega) (fun k hk => by omega))⟩)
      case stop =>
        rintro c X pre W hsz hpre ⟨rfl, hsub, hF, kR, kE⟩ hd
        have hA' : Hid (R = ([], 4)) := Lib.hid (by rw [hA2.out, if_pos hsub])
        have hfp : Far (fun k => k = D) W (W.putObj D (.deferred none)) := Far.putObj (T := fun k => k = D) (Far.refl _ _) (fun _ => rfl) _
        have x1 := (hfp.blk kR (by omega)).cell
        have x2 := (hfp.blk kE (by omega)).cell
        rw [hD] at hd ⊢
        go_wp2_with fail
        exact leave_mark (v := .tuple #[.slice none 0 0, .int .i64 4]) hd (by simp [results, Tryz.results99, go_sem, x1, x2]) (by rw [hA'.out]; exact IntsN.err (by rw [hs]; exact hF.below.trans (hfp.below (by have := hF.below.size; omega) (fun k hk => by omega))))
    · have hc' : (chkS ps != 0) = true := by simpa using hc
      have hA' : Hid (R = ([], chkS ps)) := Lib.hid (by rw [hA1.out, if_pos hc])
      generalize chkS ps = ec at *
      clear hA1 hc
      go_wp2_with fail
      refine (HP.out _ hpr).mono ?_
      rintro e w3 ⟨rfl, hb3⟩
      have kRx := kR2.call hb3
      have kEx := kE2.call hb3
      have Bx := B2.trans (hb3.mono (by have := B2.size; omega))
      have z1 := kRx.cell
      have z2 := kEx.cell
      have y1 := kRx.frozen
      have y2 := kEx.frozen
      go_wp2_with fail
      obtain ⟨k4, k5, hf⟩ := two_set (by omega) kRx kEx (.slice none 0 0) (.int .i64 ec)
      have x1 := k4.cell
      have x2 := k5.cell
      exact leave_none (v := .tuple #[.slice none 0 0, .int .i64 ec]) (by simp [results, Tryz.results99, go_sem, x1, x2]) (by rw [hA'.out]; exact IntsN.err (by rw [hs]; exact Bx.trans (hf.below (by have := Bx.size; omega) (fun k hk => by omega))))
theorem split_any (S : Value) (C L : List Sp) (H : List Int) (A : Option Addr) (n cap : Nat) (ps : List Sp) (w : World) (hS : StIs w S C L H) (hn : ps.length = n) (hm : n ≤ maxLen) (hr : RU w w.heap.size A ps) :
    Calls Tryz.prog 99 #[S, .slice A n cap] w (IntsE (splitA C L H ps) w) :=
  (splitN_any S C L H A n cap ps w hS hn hm hr).mono fun _ _ h => h.e
end Go.Proofs.YtpabnbhbcphfiaaGreat
namespace Go.Proofs.YtpabnbhbcphfiaaGreat
open Go Go.Proofs Go.RowKit Go.Pol Go.Shelf
attribute [local go_sem] Oper.semAt_some Go.Pol.wide_fn Go.Pol.wide_depth Go.Pol.wide_fn' Go.Pol.wide_depth'

theorem span13_any (g : Int) (w : World) (h : 0 ≤ g ∧ g < 64) : Calls Tryz.prog 165 #[.int .i64 g] w fun e w' => e = .returned (.agg #[.int .i64 (16 * g), .int .i64 16]) ∧ Below w.heap.size w w' := by
  obtain ⟨k, rfl⟩ : ∃ k : Nat, g = (k : Int) := ⟨g.toNat, by omega⟩
  have hm : (k : Int) * 16 = 16 * (k : Int) := Int.mul_comm _ _
  have k0 := Blk.new w 115 #[.int .i64 0, .int .i64 0]
  have hb0 := (Below.refl w.heap.size w).alloc (Nat.le_refl _) (.cells #[.int .i64 0, .int .i64 0] 115)
  have c0 := k0.cell
  have f0 := k0.frozen
  have k1 := Blk.new w 115 #[.int .i64 (16 * (k : Int)), .int .i64 16]
  have hb1 := (Below.refl w.heap.size w).alloc (Nat.le_refl _) (.cells #[.int .i64 (16 * (k : Int)), .int .i64 16] 115)
  have c1 := k1.cell
  go_enter Tryz.func165, Tryz.ntmps165
  go_wp2_with fail
  exact bodyPost_ret (v := .agg #[.int .i64 (16 * (k : Int)), .int .i64 16]) (by simp [results, Tryz.results165, go_sem, c1]) rfl ⟨rfl, hb1⟩
end Go.Proofs.YtpabnbhbcphfiaaGreat
namespace Go.Proofs.YtpabnbhbcphfiaaGreat
open Go Go.Proofs Go.RowKit Go.Pol Go.Shelf
attribute [local go_sem] Oper.semAt_some Go.Pol.wide_fn Go.Pol.wide_depth Go.Pol.wide_fn' Go.Pol.wide_depth'

set_option maxRecDepth 100000 in
set_option maxHeartbeats 3200000 in
theorem rcheck13_any (S : Value) (C L : List Sp) (H : List Int) (w : World) (hS : StIs w S C L H) :
    Calls Tryz.prog 104 #[S] w fun e w' => e = .returned (.int .i64 (chkH C L H)) ∧ Below w.heap.size w w' := by
  obtain ⟨A1, A2, A3, n1, c1, n2, c2, n3, c3, rfl, h1, h2, h3, h4, h5, h6, h7, h8, h9⟩ := hS.ex
  have hb0 := (Below.refl w.heap.size w).alloc (Nat.le_refl _) (.cells #[.slice A1 n1 c1, .slice A2 n2 c2, .slice A3 n3 c3] 94)
  have k0 := Blk.new w 94 #[.slice A1 n1 c1, .slice A2 n2 c2, .slice A3 n3 c3]
  have H1 := Lib.hid (fun W h => refSpCheck_any A1 n1 c1 C W h1 h2 h)
  have H2 := Lib.hid (fun W h => refSpCheck_any A2 n2 c2 L W h4 h5 h)
  have HM := Lib.hid (fun W (hr1 : RU W W.heap.size A2 L) (hr2 : RU W W.heap.size A1 C) => rMinus_any A2 A1 n2 c2 n1 c1 L C W h4 h5 hr1 h1 h2 hr2)
  have HH := Lib.hid (fun (g : Int) W h => rHas_any A1 n1 c1 C (16 * g) 16 W h1 h2 h)
  obtain ⟨R, hR⟩ : ∃ R, chkH C L H = R := ⟨_, rfl⟩
  rw [hR]
  have hR' := Lib.hid hR
  have r1 := h3.on hb0
  have r2 := h6.on hb0
  have r3 := RI.on h9 hb0
  have hn3 := h7
  have hm3 := h8
  unfold maxLen at hm3
  clear hR h1 h2 h3 h4 h5 h6 h7 h8 h9 hS
  have c0 := k0.cell
  by_cases hc : chkS C = 0
  case neg =>
    have hE : Hid (R = chkS C) := Lib.hid (by rw [← hR'.out, chkH_1 hc])
    have hc' : (chkS C == 0) = false := by simpa using hc
    have hc2 : (chkS C != 0) = true := by simpa using hc
    generalize chkS C = er at *
    clear hc HM HH
    go_enter Tryz.func104, Tryz.ntmps104
    go_wp2_with fail
    refine (H1.out _ r1).mono ?_
    rintro e w1 ⟨rfl, hb1⟩
    go_wp2_with fail
    go_ret
    exact ⟨ret_int hE.out.symm, hb0.trans (hb1.mono hb0.size)⟩
  case pos =>
    rw [hc] at H1
    by_cases hl : chkS L = 0
    case neg =>
      have hE : Hid (R = chkS L) := Lib.hid (by rw [← hR'.out, chkH_2 hc hl])
      have hc2 : (chkS L != 0) = true := by simpa using hl
      generalize chkS L = er at *
      clear hc hl HM HH
      go_enter Tryz.func104, Tryz.ntmps104
      go_wp2_with fail
      refine (H1.out _ r1).mono ?_
      rintro e w1 ⟨rfl, hb1⟩
      have k1 := k0.call hb1
      have c1 := k1.cell
      have r21 := r2.on hb1
      have B1 := hb0.trans (hb1.mono hb0.size)
      go_wp2_with fail
      refine (H2.out _ r21).mono ?_
      rintro e w2 ⟨rfl, hb2⟩
      go_wp2_with fail
      go_ret
      exact ⟨ret_int hE.out.symm, B1.trans (hb2.mono B1.size)⟩
    case pos =>
      rw [hl] at H2
      have canC := Lib.hid (chkS_zero.1 hc)
      have canL := Lib.hid (chkS_zero.1 hl)
      have hcl := Lib.hid (⟨hc, hl⟩ : chkS C = 0 ∧ chkS L = 0)
      clear hc hl
      go_enter Tryz.func104, Tryz.ntmps104
      go_wp2_with fail
      refine (H1.out _ r1).mono ?_
      rintro e w1 ⟨rfl, hb1⟩
      have k1 := k0.call hb1
      have c1 := k1.cell
      have r21 := r2.on hb1
      have B1 := hb0.trans (hb1.mono hb0.size)
      go_wp2_with fail
      refine (H2.out _ r21).mono ?_
      rintro e w2 ⟨rfl, hb2⟩
      have k2 := k1.call hb2
      have q1 := (r1.on hb1).on hb2
      have q2 := r21.on hb2
      have q3 := RI.on (RI.on r3 hb1) hb2
      have B2 := B1.trans (hb2.mono B1.size)
      clear r21 B1 hb1 hb2 k1 c1 r1 r2 r3 hb0 k0 c0
      go_wp2_with fail
      have hst0 : Hid (H.all inG = (H.drop 0).all inG) := Lib.hid rfl
      go_loopw [4] (fun i wr => ∃ k : Nat, k ≤ n3 ∧ i = .int .i64 k ∧ wr = w2 ∧ Hid (H.all inG = (H.drop k).all inG)) (fun i _ => n3 - (intOf i).toNat)
      case atStart => exact ⟨0, by omega, rfl, rfl, hst0⟩
      case round =>
        clear hst0
        obtain ⟨k, hk, rfl, hw, hst⟩ := hrel
        have hw' := hw.symm
        clear hw
        subst hw'
        have c2 := k2.cell
        by_cases hlt : k < n3
        · have hlt' : decide ((k : Int) < (n3 : Int)) = true := by simpa using hlt
          obtain ⟨b, o, rfl, _, c4⟩ := q3.at_ (k := k) (by omega)
          have hst1 := hst.out
          rw [Go.Pol.drop_cons 0 H k (by omega), List.all_cons] at hst1
          generalize H.getD k 0 = x at *
          have hi : inG x = (decide (0 ≤ x) && decide (x < 64)) := rfl
          by_cases hx0 : x < 0
          · as_aux_lemma =>
              have hx0' : decide (x < 0) = true := by simpa using hx0
              have hE : Hid (R = 7) := Lib.hid (by rw [← hR'.out, chkH_3 hcl.out.1 hcl.out.2 (by rw [hst1, hi, decide_eq_false (show ¬ 0 ≤ x by omega)]; rfl)])
              clear hst hst1 hi hx0
              go_wp2_with fail
              go_ret
              exact ⟨ret_int hE.out.symm, B2⟩
          · have hx0' : decide (x < 0) = false := by simpa using hx0
            by_cases hx1 : 64 ≤ x
            · as_aux_lemma =>
                have hx1' : decide (64 ≤ x) = true := by simpa using hx1
                have hE : Hid (R = 7) := Lib.hid (by rw [← hR'.out, chkH_3 hcl.out.1 hcl.out.2 (by rw [hst1, hi, decide_eq_false (show ¬ x < 64 by omega), Bool.and_false]; rfl)])
                clear hst hst1 hi hx0 hx1
                go_wp2_with fail
                go_ret
                exact ⟨ret_int hE.out.symm, B2⟩
            · as_aux_lemma =>
                have hx1' : decide (64 ≤ x) = false := by simpa using hx1
                have hst2 : Hid (H.all inG = (H.drop (k + 1)).all inG) := Lib.hid (by rw [hst1, hi, decide_eq_true (show 0 ≤ x by omega), decide_eq_true (show x < 64 by omega)]; rfl)
                clear hst hst1 hi hx0 hx1
                go_wp2_with fail
                go_roundw
                case rel => exact ⟨k + 1, by omega, by go_num, by first | rfl | trivial, hst2⟩
                case measure => simp [intOf]; omega
        · as_aux_lemma =>
            obtain rfl : k = n3 := by omega
            have hlt' : decide ((k : Int) < (k : Int)) = false := by simp
            have hG : Hid (H.all inG = true) := Lib.hid (by rw [hst.out, List.drop_of_length_le (by omega)]; rfl)
            have c2 := k2.cell
            obtain ⟨e1, e2⟩ := minus_nil canL.out canC.out
            have HM2 := HM.out w2 q2 q1
            rw [e1] at HM2
            clear hst hlt HM e1
            by_cases hsub : subF L C = true
            case neg =>
              have hE : Hid (R = 6) := Lib.hid (by rw [← hR'.out, chkH_4 hcl.out.1 hcl.out.2 hG.out (by simpa using hsub)])
              have hpos : 0 < (combF 3 L C).length := List.length_pos_iff.2 (fun h => hsub (e2.1 h))
              generalize combF 3 L C = M at *
              obtain ⟨ml, hml⟩ : ∃ ml, M.length = ml := ⟨_, rfl⟩
              unfold SpansR at HM2
              rw [hml] at HM2 hpos
              have hp' : decide (0 < (ml : Int)) = true := by rw [decide_eq_true_eq]; omega
              have hp2 : decide (0 < ml) = true := by rw [decide_eq_true_eq]; omega
              have HM3 := Lib.hid HM2
              clear e2 hsub HM2
              go_wp2_with fail
              refine HM3.out.mono ?_
              rintro e w3 ⟨A9, c9, rfl, u9, _, _, _, hb3⟩
              go_wp2_with fail
              go_ret
              exact ⟨ret_int hE.out.symm, B2.trans (hb3.mono B2.size)⟩
            case pos =>
              have hM : combF 3 L C = [] := e2.2 hsub
              rw [hM] at HM2
              have HM3 := Lib.hid HM2
              have hsub' := Lib.hid hsub
              unfold SpansR at HM3
              clear e2 hsub HM2 hM
              go_wp2_with fail
              refine HM3.out.mono ?_
              rintro e w3 ⟨A9, c9, rfl, u9, _, _, _, hb3⟩
              have k3 := k2.call hb3
              have p1 := q1.on hb3
              have p3 := RI.on q3 hb3
              have B3 := B2.trans (hb3.mono B2.size)
              clear hb3 q1 q2 q3 B2 k2 c2 HM3 u9
              go_wp2_with fail
              have hst0 : Hid (hugOk C (-1) H = hugOk C (prevH H 0) (H.drop 0)) := Lib.hid rfl
              go_loopw [7] (fun i wr => ∃ j : Nat, j ≤ k ∧ i = .int .i64 j ∧ Below w3.heap.size w3 wr ∧ Hid (hugOk C (-1) H = hugOk C (prevH H j) (H.drop j))) (fun i _ => k - (intOf i).toNat)
              case atStart => exact ⟨0, by omega, rfl, Below.refl _ _, hst0⟩
              case round =>
                clear hst0
                obtain ⟨j, hj, rfl, hB, hst⟩ := hrel
                have k4 := k3.call hB
                have p4 := p1.on hB
                have p5 := RI.on p3 hB
                have B4 := B3.trans (hB.mono B3.size)
                have c4 := k4.cell
                by_cases hlt : j < k
                · have hlt' : decide ((j : Int) < (k : Int)) = true := by simpa using hlt
                  have hst1 := hst.out
                  rw [Go.Pol.drop_cons 0 H j (by omega)] at hst1
                  have hin := inG_iff.1 (List.all_eq_true.1 hG.out _ (getD_memI (bs := H) (k := j) (by omega)))
                  have hpk : 0 < j → prevH H j = H.getD (j - 1) 0 := fun h => by rw [prevH, if_neg (by omega)]
                  have hp0 : j = 0 → prevH H j = -1 := fun h => by rw [prevH, if_pos h]
                  have hpn : prevH H (j + 1) = H.getD j 0 := by rw [prevH, if_neg (by omega)]; rfl
                  obtain ⟨b, o, hA3, _, c5⟩ := p5.at_ (k := j) (by omega)
                  have c7 : 0 < j → wr.cell? ⟨b, o + (j - 1), none⟩ = some (.int .i64 (H.getD (j - 1) 0)) := fun h => by
                    obtain ⟨b', o', e', _, c6⟩ := p5.at_ (k := j - 1) (by omega)
                    rw [hA3] at e'; cases e'; exact c6
                  generalize H.getD j 0 = x at *
                  generalize H.getD (j - 1) 0 = pr at *
                  have hHx := HH.out x wr p4
                  rw [askS_span canC.out hin] at hHx
                  have hbe : (decide ((0 : Int) = 0) && (cntF C (16 * x, 16) == 16)) = decide (16 ≤ grpF C x) := by
                    have := grpF_bound C x
                    unfold grpF at *
                    rw [Bool.eq_iff_iff]; simp; omega
                  rw [hbe] at hHx
                  clear hbe
                  obtain ⟨hb, hhb⟩ : ∃ hb, decide (16 ≤ grpF C x) = hb := ⟨_, rfl⟩
                  rw [hhb] at hHx
                  have hok1 : hugOk C (-1) H = (hb && decide (prevH H j < x) && hugOk C x (H.drop (j + 1))) := by rw [hst1, hugOk, hhb]
                  have G1 := Lib.hid (fun z : Ext wr => Ext.call (x := z) (span13_any x z.w hin))
                  have G2 := Lib.hid (fun (z : Ext wr) => Ext.call (x := z) (by
                    have := HH.out x z.w (p4.on z.le)
                    rw [askS_span canC.out hin] at this
                    rw [show (decide ((0 : Int) = 0) && (cntF C (16 * x, 16) == 16)) = hb by
                      rw [← hhb]
                      have := grpF_bound C x
                      unfold grpF at *
                      rw [Bool.eq_iff_iff]; simp; omega] at this
                    exact this))
                  have e1 := fun z : Ext wr => (z.blk k4).cell
                  have e2 := fun z : Ext wr => z.cell c5
                  subst hA3
                  have c7' := Lib.hid c7
                  have hok' := Lib.hid hok1
                  have hpk' := Lib.hid hpk
                  have hp0' := Lib.hid hp0
                  have hpn' := Lib.hid hpn
                  clear hst1 hst hHx hhb p4 p5 c7 hok1 hpk hp0 hpn
                  go_upto_region 17 with fail
                  refine region_ext (by kernel_rfl) (by kernel_rfl) ?_
                  repeat (go_big_quiet_step ((first | (go_at_call 165; exact G1.out _) | (go_at_call 164; exact G2.out _))))
                  refine wpQuiet_nil ?_
                  rintro w8 ⟨⟨_, hw8⟩, rfl⟩
                  have k8 := k4.call hw8
                  have B8 := B4.trans (hw8.mono B4.size)
                  have hB8 := hB.trans (hw8.mono hB.size)
                  have e8 := fun z : Ext w8 => (z.blk k8).cell
                  have c58 := (hw8.cell (World.block_lt_of_cell? _ _ c5)).trans c5
                  have e9 := fun z : Ext w8 => z.cell c58
                  clear e1 e2 G1 G2 c4
                  cases hb with
                  | false =>
                    have hE : Hid (R = 6) := Lib.hid (by rw [← hR'.out, chkH_5 hcl.out.1 hcl.out.2 hG.out hsub'.out (by rw [hok'.out]; rfl)])
                    go_upto_region 18 with fail
                    refine region_ext (by kernel_rfl) (by kernel_rfl) ?_
                    repeat (go_big_quiet_step (fail))
                    refine wpQuiet_nil ?_
                    rintro w9 ⟨⟨_, hw9⟩, rfl⟩
                    go_wp2_with fail
                    go_ret
                    exact ⟨ret_int hE.out.symm, B8.trans (hw9.mono B8.size)⟩
                  | true =>
                    by_cases hj0 : j = 0
                    · subst hj0
                      have hst2 : Hid (hugOk C (-1) H = hugOk C (prevH H (0 + 1)) (H.drop (0 + 1))) := Lib.hid (by
                        rw [hok'.out, hpn'.out, hp0'.out rfl, decide_eq_true (show (-1 : Int) < x by omega)]; rfl)
                      go_upto_region 18 with fail
                      refine region_ext (by kernel_rfl) (by kernel_rfl) ?_
                      repeat (go_big_quiet_step (fail))
                      refine wpQuiet_nil ?_
                      rintro w9 ⟨⟨_, hw9⟩, rfl⟩
                      go_wp2_with fail
                      go_roundw
                      case rel => exact ⟨1, by omega, by go_num, hB8.trans (hw9.mono hB8.size), hst2⟩
                      case measure => simp [intOf]; omega
                    · have h4k : 0 < j := by omega
                      have c78 := (hw8.cell (World.block_lt_of_cell? _ _ (c7'.out h4k))).trans (c7'.out h4k)
                      have e10 := fun z : Ext w8 => z.cell c78
                      have h1k : (1 : Int) ≤ (j : Int) := by omega
                      have h2k : 1 ≤ j := by omega
                      have h3k : (j : Int) - 1 < (k : Int) := by omega
                      have h5k : (0 : Int) ≤ (j : Int) - 1 := by omega
                      have h6k : decide (0 < (j : Int)) = true := by rw [decide_eq_true_eq]; omega
                      have h7k : decide (0 < j) = true := by rw [decide_eq_true_eq]; omega
                      have hwj : wrap64 ((j : Int) - 1) = (j : Int) - 1 := by unfold wrap64; omega
                      have hpk2 := Lib.hid (hpk'.out h4k)
                      by_cases hle : x ≤ pr
                      · have hle' : decide (x ≤ pr) = true := by simpa using hle
                        have hE : Hid (R = 6) := Lib.hid (by rw [← hR'.out, chkH_5 hcl.out.1 hcl.out.2 hG.out hsub'.out (by rw [hok'.out, hpk2.out, decide_eq_false (show ¬ pr < x by omega)]; rfl)])
                        clear hle hj0
                        go_upto_region 18 with fail
                        refine region_ext (by kernel_rfl) (by kernel_rfl) ?_
                        repeat (go_big_quiet_step (fail))
                        refine wpQuiet_nil ?_
                        rintro w9 ⟨⟨_, hw9⟩, rfl⟩
                        go_wp2_with fail
                        go_ret
                        exact ⟨ret_int hE.out.symm, B8.trans (hw9.mono B8.size)⟩
                      · have hle' : decide (x ≤ pr) = false := by simpa using hle
                        have hst2 : Hid (hugOk C (-1) H = hugOk C (prevH H (j + 1)) (H.drop (j + 1))) := Lib.hid (by
                          rw [hok'.out, hpn'.out, hpk2.out, decide_eq_true (show pr < x by omega)]; rfl)
                        clear hle hj0
                        go_upto_region 18 with fail
                        refine region_ext (by kernel_rfl) (by kernel_rfl) ?_
                        repeat (go_big_quiet_step (fail))
                        refine wpQuiet_nil ?_
                        rintro w9 ⟨⟨_, hw9⟩, rfl⟩
                        go_wp2_with fail
                        go_roundw
                        case rel => exact ⟨j + 1, by omega, by go_num, hB8.trans (hw9.mono hB8.size), hst2⟩
                        case measure => simp [intOf]; omega
                · as_aux_lemma =>
                    obtain rfl : j = k := by omega
                    have hlt' : decide ((j : Int) < (j : Int)) = false := by simp
                    have hE : Hid (R = 0) := Lib.hid (by
                      rw [← hR'.out, chkH_zero]
                      exact ⟨canC.out, canL.out, List.all_eq_true.1 hG.out, hsub'.out, by rw [hst.out, List.drop_of_length_le (by omega)]; rfl⟩)
                    clear hst
                    go_wp2_with fail
                    go_ret
                    exact ⟨ret_int hE.out.symm, B4⟩
end Go.Proofs.YtpabnbhbcphfiaaGreat
namespace Go.Pol
open Go Go.RowKit
theorem huge_len {C L : List Sp} {H : List Int} (h : chkH C L H = 0) : H.length ≤ 64 := by
  obtain ⟨_, _, h3, _, h5⟩ := chkH_zero.1 h
  have := huge_grps h3 h5
  rw [← this]
  refine Nat.le_trans (List.length_filter_le _ _) ?_
  simp [grps]
/-- the huge groups that have a page of a set -/
def touchF (ps : List Sp) (H : List Int) : List Int := H.filter fun g => decide (0 < grpF ps g)
theorem touchF_len (ps : List Sp) (l : List Int) : (touchF ps l).length ≤ l.length := List.length_filter_le _ _
/-- what the reference's Split answers -/
def splitB (C L : List Sp) (H : List Int) (ps : List Sp) : List Int × Int :=
  if chkH C L H ≠ 0 then ([], chkH C L H) else if chkS ps ≠ 0 then ([], chkS ps) else if subF ps C = false then ([], 4) else (touchF ps H, 0)
end Go.Pol
namespace Go.Proofs.YtpabnbhbcphfiaaGreat
open Go Go.Proofs Go.RowKit Go.Pol Go.Shelf
attribute [local go_sem] Oper.semAt_some Go.Pol.wide_fn Go.Pol.wide_depth Go.Pol.wide_fn' Go.Pol.wide_depth'

theorem StIs.parts {w : World} {A1 A2 A3 : Option Addr} {n1 c1 n2 c2 n3 c3 : Nat} {C L : List Sp} {H : List Int} (h : StIs w (.agg #[.slice A1 n1 c1, .slice A2 n2 c2, .slice A3 n3 c3]) C L H) : RU w w.heap.size A1 C ∧ RU w w.heap.size A2 L ∧ RI w w.heap.size A3 H := by
  obtain ⟨_, _, _, _, _, _, _, _, _, e, _, _, u, _, _, v, _, _, z⟩ := h.ex
  cases e
  exact ⟨u, v, z⟩
end Go.Proofs.YtpabnbhbcphfiaaGreat
namespace Go.Proofs.YtpabnbhbcphfiaaGreat
open Go Go.Proofs Go.RowKit Go.Pol Go.Shelf
attribute [local go_sem] Oper.semAt_some Go.Pol.wide_fn Go.Pol.wide_depth Go.Pol.wide_fn' Go.Pol.wide_depth'

def IntsNC (r : List Int × Int) (w : World) (e : Ending) (w' : World) : Prop := ∃ (A : Option Addr) (cap : Nat), e = .returned (.tuple #[.slice A r.1.length cap, .int .i64 r.2]) ∧ RI w' w'.heap.size A r.1 ∧ (∀ b o, A = some ⟨b, o, none⟩ → w.heap.size ≤ b) ∧ r.1.length ≤ cap ∧ Below w.heap.size w w'
theorem IntsNC.err {w w' : World} {c : Int} (hb : Below w.heap.size w w') : IntsNC ([], c) w (.returned (.tuple #[.slice none 0 0, .int .i64 c])) w' := ⟨none, 0, rfl, RI.nil, fun _ _ h => (by cases h), Nat.le_refl _, hb⟩
theorem IntsNC.e {r : List Int × Int} {w : World} {e : Ending} {w' : World} (h : IntsNC r w e w') : IntsE r w e w' := by
  obtain ⟨A, cap, h1, h2, _, _, h4⟩ := h
  exact ⟨A, cap, h1, h2, h4⟩
end Go.Proofs.YtpabnbhbcphfiaaGreat
namespace Go.Pol
open Go Go.RowKit
def exC13 : List Sp := [(0, 48)]
def exL13 : List Sp := [(0, 10), (16, 14)]
def exH13 : List Int := [0, 1]
end Go.Pol
namespace Go.Proofs.YtpabnbhbcphfiaaGreat
open Go Go.Proofs Go.RowKit Go.Pol Go.Shelf
attribute [local go_sem] Oper.semAt_some Go.Pol.wide_fn Go.Pol.wide_depth Go.Pol.wide_fn' Go.Pol.wide_depth'

theorem ints13_any (A B : Option Addr) (n cap cap' : Nat) (xs : List Int) (w : World) (hn : xs.length = n) (hm : n ≤ 1000000) (hr : RI w w.heap.size A xs) (hs : RI w w.heap.size B xs) :
    Calls Tryz.prog 100 #[.slice A n cap, .slice B n cap'] w fun e w' => e = .returned (.bool true) ∧ Below w.heap.size w w' := by
  have hn' := Lib.hid hn
  clear hn
  have hne : ((n : Int) != n) = false := by simp
  go_enter Tryz.func100, Tryz.ntmps100
  go_wp2_with fail
  go_loopw [5] (fun i wr => ∃ k : Nat, k ≤ n ∧ i = .int .i64 k ∧ Below w.heap.size w wr) (fun i _ => n - (intOf i).toNat)
  case atStart => exact ⟨0, by omega, rfl, Below.refl _ _⟩
  case round =>
    obtain ⟨k, hk, rfl, hB⟩ := hrel
    by_cases hlt : k < n
    · have hlt' : decide ((k : Int) < (n : Int)) = true := by simp; omega
      obtain ⟨b, o, rfl, hbl, hc⟩ := (hr.below hB).at_ (k := k) (by have := hn'.out; omega)
      obtain ⟨b2, o2, rfl, hbl2, hc2⟩ := (hs.below hB).at_ (k := k) (by have := hn'.out; omega)
      generalize xs.getD k 0 = x at *
      have q1 := fun z : Ext wr => z.cell hc
      have q2 := fun z : Ext wr => z.cell hc2
      have hxx : (x != x) = false := by simp
      go_upto_region 6 with fail
      refine region_ext (by kernel_rfl) (by kernel_rfl) ?_
      repeat (go_big_quiet_step (fail))
      refine wpQuiet_nil ?_
      rintro w1 ⟨⟨_, hw1⟩, rfl⟩
      go_wp2_with fail
      go_roundw
      case rel => exact ⟨k + 1, by omega, by go_num, hB.trans (hw1.mono hB.size)⟩
      case measure => simp [intOf]; omega
    · have hlt' : decide ((k : Int) < (n : Int)) = false := by simp; omega
      go_wp2_with fail
      go_ret
      exact ⟨rfl, hB⟩
theorem ru_blk {w : World} {g : Nat} {t : TypeId} (us : List Sp) {cs : Array Value} (h : Blk w g t cs) (hc : cs.toList = spCells us) : RU w w.heap.size (some ⟨g, 0, none⟩) us := fun k hk => by
  have := spCells_at us k hk
  refine ⟨g, 0, rfl, h.lt, ?_, ?_⟩
  · rw [h.cell, Nat.zero_add, ← Array.getElem?_toList, hc]; exact this.1
  · rw [h.cell, Nat.zero_add, ← Array.getElem?_toList, hc]; exact this.2
theorem ri_blk {w : World} {g : Nat} {t : TypeId} (us : List Int) {cs : Array Value} (h : Blk w g t cs) (hc : cs.toList = us.map (Value.int .i64)) : RI w w.heap.size (some ⟨g, 0, none⟩) us := by
  intro k hk
  rw [List.length_map] at hk
  refine ⟨g, 0, rfl, h.lt, ?_⟩
  rw [h.cell, Nat.zero_add, ← Array.getElem?_toList, hc]
  rw [List.getElem?_map, List.getElem?_eq_getElem hk]; simp
theorem example13_any (w : World) : Calls Tryz.prog 97 #[] w fun e w' => ∃ S, e = .returned S ∧ StIs w' S exC13 exL13 exH13 ∧ Below w.heap.size w w' := by
  have hSt : ∀ (W : World) (s : Nat) (B : Below s w W), w.heap.size = s → Blk W (s + 1) 115 #[.int .i64 0, .int .i64 48] → Blk W (s + 1 + 1) 115 #[.int .i64 0, .int .i64 10, .int .i64 16, .int .i64 14] → Blk W (s + 1 + 1 + 1) 3 #[.int .i64 0, .int .i64 1] →
      StIs W (.agg #[.slice (some ⟨s + 1, 0, none⟩) 1 1, .slice (some ⟨s + 1 + 1, 0, none⟩) 2 2, .slice (some ⟨s + 1 + 1 + 1, 0, none⟩) 2 2]) exC13 exL13 exH13 := fun W s B _ k1 k2 k3 =>
    ⟨_, _, _, _, _, _, _, _, _, rfl, rfl, by unfold maxLen; omega, ru_blk exC13 k1 rfl, rfl, by unfold maxLen; omega, ru_blk exL13 k2 rfl, rfl, by unfold maxLen; omega, ri_blk exH13 k3 rfl⟩
  have hSt' := Lib.hid hSt
  obtain ⟨W4, hW4⟩ : ∃ W4, ((((w.alloc (.cells #[.slice (some ⟨w.heap.size + 1, 0, none⟩) 1 1, .slice (some ⟨w.heap.size + 1 + 1, 0, none⟩) 2 2, .slice (some ⟨w.heap.size + 1 + 1 + 1, 0, none⟩) 2 2] 94)).alloc (.cells #[.int .i64 0, .int .i64 48] 115)).alloc
    (.cells #[.int .i64 0, .int .i64 10, .int .i64 16, .int .i64 14] 115)).alloc (.cells #[.int .i64 0, .int .i64 1] 3)) = W4 := ⟨_, rfl⟩
  have hB : Below w.heap.size w W4 := by rw [← hW4]; exact ((((Below.refl w.heap.size w).alloc (Nat.le_refl _) _).alloc (by simp) _).alloc (by simp; omega) _).alloc (by simp; omega) _
  have k0 : Blk W4 w.heap.size 94 #[.slice (some ⟨w.heap.size + 1, 0, none⟩) 1 1, .slice (some ⟨w.heap.size + 1 + 1, 0, none⟩) 2 2, .slice (some ⟨w.heap.size + 1 + 1 + 1, 0, none⟩) 2 2] := by
    rw [← hW4]; exact (((Blk.new _ _ _).alloc _).alloc _).alloc _
  have k1 : Blk W4 (w.heap.size + 1) 115 #[.int .i64 0, .int .i64 48] := by
    rw [← hW4]; have := Blk.new (w.alloc (.cells #[.slice (some ⟨w.heap.size + 1, 0, none⟩) 1 1, .slice (some ⟨w.heap.size + 1 + 1, 0, none⟩) 2 2, .slice (some ⟨w.heap.size + 1 + 1 + 1, 0, none⟩) 2 2] 94)) 115 #[.int .i64 0, .int .i64 48]
    rw [World.size_alloc] at this; exact (this.alloc _).alloc _
  have k2 : Blk W4 (w.heap.size + 1 + 1) 115 #[.int .i64 0, .int .i64 10, .int .i64 16, .int .i64 14] := by
    rw [← hW4]; have := Blk.new ((w.alloc (.cells #[.slice (some ⟨w.heap.size + 1, 0, none⟩) 1 1, .slice (some ⟨w.heap.size + 1 + 1, 0, none⟩) 2 2, .slice (some ⟨w.heap.size + 1 + 1 + 1, 0, none⟩) 2 2] 94)).alloc (.cells #[.int .i64 0, .int .i64 48] 115)) 115 #[.int .i64 0, .int .i64 10, .int .i64 16, .int .i64 14]
    rw [World.size_alloc, World.size_alloc] at this; exact this.alloc _
  have k3 : Blk W4 (w.heap.size + 1 + 1 + 1) 3 #[.int .i64 0, .int .i64 1] := by
    rw [← hW4]; have := Blk.new (((w.alloc (.cells #[.slice (some ⟨w.heap.size + 1, 0, none⟩) 1 1, .slice (some ⟨w.heap.size + 1 + 1, 0, none⟩) 2 2, .slice (some ⟨w.heap.size + 1 + 1 + 1, 0, none⟩) 2 2] 94)).alloc (.cells #[.int .i64 0, .int .i64 48] 115)).alloc (.cells #[.int .i64 0, .int .i64 10, .int .i64 16, .int .i64 14] 115)) 3 #[.int .i64 0, .int .i64 1]
    rw [World.size_alloc, World.size_alloc, World.size_alloc] at this; exact this
  have hW4' := Lib.hid hW4
  have hst := Lib.hid (hSt W4 w.heap.size hB rfl k1 k2 k3)
  have c0 := k0.cell
  clear hSt hSt' hW4 k1 k2 k3
  go_enter Tryz.func97, Tryz.ntmps97
  go_wp2_with fail
  rw [hW4'.out]
  exact bodyPost_ret (v := .agg #[.slice (some ⟨w.heap.size + 1, 0, none⟩) 1 1, .slice (some ⟨w.heap.size + 1 + 1, 0, none⟩) 2 2, .slice (some ⟨w.heap.size + 1 + 1 + 1, 0, none⟩) 2 2]) (by simp [results, Tryz.results97, go_sem, c0]) rfl ⟨_, rfl, hst.out, hB⟩
end Go.Proofs.YtpabnbhbcphfiaaGreat
namespace Go.Pol
open Go
def exO13 : List Gp := [(0, 16, 10, true), (1, 16, 14, true)]
theorem ex13_groups : groupsA exC13 exL13 exH13 0 = ([2], 0) := by decide +kernel
theorem ex13_score : scoreA exC13 exL13 exH13 = (2, 1, 8, 0) := by decide +kernel
theorem ex13_split : splitA exC13 exL13 exH13 [(8, 13)] = ([0, 1], 0) := by decide +kernel
theorem ex13_huge : (gsH exC13 exL13 exH13).filter hugeP = exO13 := by decide +kernel
theorem ex13_choose17 : chooseA exC13 exL13 exH13 17 exO13 = ([(10, 6), (32, 11)], 0) := by decide +kernel
theorem ex13_choose23 : chooseA exC13 exL13 exH13 23 exO13 = ([(10, 6), (30, 17)], 0) := by decide +kernel
theorem insInner_size {α : Type} [Inhabited α] (lt : α → α → Bool) (a : Nat) : ∀ (j : Nat) (d : Array α), (Sort.insInner lt a j d).size = d.size
  | 0, _ => rfl
  | j + 1, d => by
    rw [Sort.insInner]
    split
    · rw [insInner_size lt a j, Sort.size_swp]
    · rfl
theorem insOuter_size {α : Type} [Inhabited α] (lt : α → α → Bool) (a b : Nat) : ∀ (k i : Nat) (d : Array α), b - i ≤ k → (Sort.insOuter lt a b i d).size = d.size
  | 0, i, d, h => by rw [Sort.insOuter, if_neg (by omega)]
  | k + 1, i, d, h => by
    rw [Sort.insOuter]
    split
    · rw [insOuter_size lt a b k (i + 1) _ (by omega), insInner_size]
    · rfl
theorem insSort_size {α : Type} [Inhabited α] (lt : α → α → Bool) (a b : Nat) (d : Array α) : (Sort.insertionSort lt d a b).size = d.size := insOuter_size lt a b _ _ d (Nat.le_refl _)
end Go.Pol
namespace Go.Proofs.YtpabnbhbcphfiaaGreat
open Go Go.Proofs Go.RowKit Go.Pol
theorem ex13_ord : (Sort.insertionSort ltL exO13.toArray 0 2).toList = exO13 := by
  simp [Sort.insertionSort, Sort.insOuter, Sort.insInner, ltL, exO13]
end Go.Proofs.YtpabnbhbcphfiaaGreat
