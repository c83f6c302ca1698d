/- Merged texts. Words for memory that all walks of this seat share: a slice that reads as a list of integers or of structs of integers; how such readings are carried into worlds that have grown. Plain functions and laws on spans of pages: what a set is, that two sets with the same pages are equal, the common pages and the gaps of sets, the set of marked pages. Walks: the checks of layer 3 (spans), of the program and of the reference. A range over a function value whose function keeps its state in cells: what it may write (T), what the loop's body must leave (K), what the loop carries (I); the contract of such a function value, and the statement's own law at the widest fence. Walks: the function values that the spans' and the guards' loops go through (common pages of two sets; runs of usable pages). Walks: the checks of layer 11 (guards), of the program and of the reference; the kind of a page. Slices of spans that a call has made itself: as cells, as readings, across steps. Walks: slices.Collect over a function value that goes through spans; the usable pages of a plan. A region that draws its order: what reads cells that nobody writes ahead of it is taken first, however the others change the world; a condition on the world is asked only behind operations that may come ahead of it. Walks: the gaps of a set of spans in a span, Not. Plain laws on plans of guards: the runs of usable pages are a set; which pages they have; numbers of usable pages. Walks: Hit and Least of layer 11. Walks: bits.Len of small numbers, Least of layer 11. Walks: the examples of the document for layer 11. Walks: the program's Has, the check of two sets, and Meet. Walks: the reference's set of marked pages. Walks: cmp.Compare[int], the order by the first page, join of a span to the last one. Walks: the reference's list of the pages of a set. Walks: of: spans sorted by their first pages and joined. Plain law: spans sorted by their first pages and joined are the set of their pages. Plain law: the set of any valid spans is the set of their pages. -/
import Derived.Below
import Derived.Laws.OwnMore
import Derived.Laws.MakeOwn
import Derived.Laws.CopyOwn
import Derived.Deep.RegionLaw
import Derived.Deep.AppendLies
import Derived.Deep.Draws
import Derived.Deep.QuietTactic
import Derived.BigQuiet
import Derived.Lib.Hide
import Derived.WalkKit
import Derived.WalkSpells
import Derived.WalkLawsBesides
import Derived.Maps.AppendAt
import Derived.StillTailTactics
import Derived.Deep.RegionHeld3
import Derived.Deep.DeepCutAuto
import Derived.Deep.DeepFit
import Derived.ChangeSame
import Derived.Deep.Slices
import Derived.Deep.Fields
import Derived.Lib.SmallJoins
import Derived.OpenShut
import Derived.ProofKit
import Derived.OpenVars
import Derived.JoinedOf
import Derived.Test.YtpabnbhbcphfiaaGreatChecked
import Derived.Laws.StructEq
import Derived.RangeFuncNested
import Derived.RangeFuncBound
import Derived.RangeFuncCalls
import Derived.RangeFuncLeaves
import Derived.OwnWalkIn
import Derived.TacticsInMore
import Derived.LoopNIn
import Derived.LoopIn
import Derived.Sort.CutIn
import Derived.Shelf.Abstract
import Derived.OrdersHeld
import Derived.Lib.BitFns
import Derived.Lib.Strings
import Derived.Lib.Small
import Derived.Lib.Walk
namespace Go.Pol
open Go Go.RowKit

/-- The cells from 'A' on hold the list 'xs' (one cell each), in a block below 'B'. -/
def Rd (w : World) (B : Nat) (A : Option Addr) (xs : List Value) : Prop :=
  ∀ k (h : k < xs.length), ∃ b o, A = some ⟨b, o, none⟩ ∧ b < B ∧ w.cell? ⟨b, o + k, none⟩ = some xs[k]

section
variable {w w' : World} {B B' : Nat} {A : Option Addr} {xs : List Value}
theorem Rd.keep (h : Rd w B A xs) (hk : ∀ p : Addr, p.block < B → w'.cell? p = w.cell? p) : Rd w' B A xs := fun k hl => by
  obtain ⟨b, o, e, hb, hc⟩ := h k hl
  exact ⟨b, o, e, hb, (hk _ hb).trans hc⟩
theorem Rd.more (h : Rd w B A xs) (hB : B ≤ B') : Rd w B' A xs := fun k hl => by
  obtain ⟨b, o, e, hb, hc⟩ := h k hl
  exact ⟨b, o, e, by omega, hc⟩
theorem Rd.below (h : Rd w B A xs) (hb : Below B w w') : Rd w' B A xs := h.keep fun _ hp => hb.cell hp
theorem Rd.nil : Rd w B A [] := fun k h => absurd h (by simp)
end

/-- A slice of integers. -/
def RI (w : World) (B : Nat) (A : Option Addr) (xs : List Int) : Prop := Rd w B A (xs.map (Value.int .i64))
section
variable {w w' : World} {B B' : Nat} {A : Option Addr} {xs : List Int}
theorem RI.at_ (h : RI w B A xs) {k : Nat} (hk : k < xs.length) :
    ∃ b o, A = some ⟨b, o, none⟩ ∧ b < B ∧ w.cell? ⟨b, o + k, none⟩ = some (.int .i64 (xs.getD k 0)) := by
  obtain ⟨b, o, e, hb, hc⟩ := h k (by simpa using hk)
  refine ⟨b, o, e, hb, hc.trans ?_⟩
  simp [List.getD_eq_getElem?_getD, hk]
theorem RI.below (h : RI w B A xs) (hb : Below B w w') : RI w' B A xs := Rd.below h hb
theorem RI.more (h : RI w B A xs) (hB : B ≤ B') : RI w B' A xs := Rd.more h hB
theorem RI.nil : RI w B A [] := Rd.nil
end
/-- A slice of pairs of integers (a struct with two fields, a cell each). -/
def RU (w : World) (B : Nat) (A : Option Addr) (us : List (Int × Int)) : Prop :=
  ∀ k, k < us.length → ∃ b o, A = some ⟨b, o, none⟩ ∧ b < B ∧ w.cell? ⟨b, o + k * 2, none⟩ = some (.int .i64 (us.getD k (0,0)).1) ∧ w.cell? ⟨b, o + k * 2 + 1, none⟩ = some (.int .i64 (us.getD k (0,0)).2)
section
variable {w w' : World} {B B' : Nat} {A : Option Addr} {us : List (Int × Int)}
theorem RU.keep (h : RU w B A us) (hk : ∀ p : Addr, p.block < B → w'.cell? p = w.cell? p) : RU w' B A us := fun k hl => by
  obtain ⟨b, o, e, hb, hc, hd⟩ := h k hl
  exact ⟨b, o, e, hb, (hk _ hb).trans hc, (hk _ hb).trans hd⟩
theorem RU.below (h : RU w B A us) (hb : Below B w w') : RU w' B A us := h.keep fun _ hp => hb.cell hp
theorem RU.more (h : RU w B A us) (hB : B ≤ B') : RU w B' A us := fun k hl => by
  obtain ⟨b, o, e, hb, hc⟩ := h k hl
  exact ⟨b, o, e, by omega, hc⟩
theorem RU.at_' (h : RU w B A us) {k : Nat} (hk : k < us.length) : ∃ b o, A = some ⟨b, o, none⟩ ∧ b < B ∧ w.cell? ⟨b, o + k * 2, none⟩ = some (.int .i64 (us.getD k (0,0)).1) ∧ w.cell? ⟨b, o + k * 2 + 1, none⟩ = some (.int .i64 (us.getD k (0,0)).2) := h k hk
theorem RU.nil : RU w B A [] := fun k h => absurd h (by simp)
end

/-- Block 'g' is just the cells 'cs', of element type 't', none of them frozen. -/
def Blk (w : World) (g : Nat) (t : TypeId) (cs : Array Value) : Prop := w.heap[g]? = some (.cells cs t (0, 0))
section
variable {w w' : World} {g : Nat} {t : TypeId} {cs : Array Value}
theorem Blk.lt (h : Blk w g t cs) : g < w.heap.size := by
  by_cases hlt : g < w.heap.size
  · exact hlt
  · unfold Blk at h; rw [Array.getElem?_eq_none (by omega)] at h; cases h
theorem Blk.cell (h : Blk w g t cs) (i : Nat) : w.cell? ⟨g, i, none⟩ = cs[i]? := cell_of_row w g i cs t (0, 0) h
theorem Blk.frozen (h : Blk w g t cs) (i : Nat) : w.frozen? ⟨g, i, none⟩ = false := by
  unfold Blk at h
  simp [World.frozen?, h]
theorem Blk.new (w : World) (t : TypeId) (cs : Array Value) : Blk (w.alloc (.cells cs t)) w.heap.size t cs := heap_alloc_new w _
theorem Blk.drew (h : Blk w g t cs) : Blk w.drew g t cs := h
theorem Blk.alloc (h : Blk w g t cs) (o : Obj) : Blk (w.alloc o) g t cs := (Below.heap_alloc w o g h.lt).trans h
theorem Blk.set_ (h : Blk w g t cs) (i : Nat) (u : Value) : Blk (w.setCell ⟨g, i, none⟩ u) g t (cs.setIfInBounds i u) := by
  unfold Blk at h ⊢
  simp [World.setCell, Array.getElem?_modify, h]
theorem Blk.far (h : Blk w g t cs) {p : Addr} (hp : g ≠ p.block) (u : Value) : Blk (w.setCell p u) g t cs := (Below.heap_setCell w p u g hp).trans h
theorem Blk.below {B : Nat} (h : Blk w g t cs) (hb : Below B w w') (hg : g < B) : Blk w' g t cs := (hb.block g hg).trans h
theorem Blk.call (h : Blk w g t cs) (hb : Below w.heap.size w w') : Blk w' g t cs := (hb.block g h.lt).trans h
theorem Blk.ne_ {g' : Nat} {t' : TypeId} {cs' : Array Value} (h : Blk w g t cs) (h' : Blk w g' t' cs') (hne : t ≠ t') : g ≠ g' := by
  rintro rfl
  unfold Blk at h h'
  rw [h] at h'
  injection h' with h'
  injection h' with _ ht
  exact hne ht
theorem Blk.grown {row : Option Nat} (h : Blk w g t cs) (hb : w.grownBy w' row) (hg : some g ≠ row) : Blk w' g t cs := (hb.block g h.lt hg).trans h
end

theorem addr_add0 (b o j : Nat) : (⟨b, o, none⟩ : Addr).add j = ⟨b, o + j, none⟩ := by
  unfold Addr.add
  by_cases h : j = 0 <;> simp [h]

/-- A later world: what lay below the heap's size lies as it lay. -/
structure Ext (W : World) where
  w : World
  le : Below W.heap.size W w
theorem Ext.cell {W : World} (x : Ext W) {p : Addr} {v : Value} (h : W.cell? p = some v) : x.w.cell? p = some v := by
  have hb : p.block < W.heap.size := by
    by_cases hp : p.block < W.heap.size
    · exact hp
    · have : W.heap[p.block]? = none := Array.getElem?_eq_none (by omega)
      simp [World.cell?, this] at h
  exact (x.le.cell hb).trans h
theorem Ext.blk {W : World} (x : Ext W) {g : Nat} {t : TypeId} {cs : Array Value} (h : Blk W g t cs) : Blk x.w g t cs := h.call x.le
instance extNonempty (W : World) : Nonempty (Ext W) := ⟨⟨W, Below.refl _ _⟩⟩
def Later (W w' : World) : Prop := ∃ x : Ext W, w' = x.w
theorem Later.all {W : World} {p : World → Prop} (h : ∀ x : Ext W, p x.w) : ∀ w', Later W w' → p w' := fun _ ⟨x, e⟩ => e ▸ h x
theorem Ext.call {P : Program} {f : FuncId} {args : Array Value} {W : World} {x : Ext W} {v : Value}
    (h : Calls P f args x.w fun e w' => e = .returned v ∧ Below x.w.heap.size x.w w') : Calls P f args x.w fun e w'' => e = .returned v ∧ ∃ y : Ext W, w'' = y.w :=
  h.mono fun _ w'' ⟨he, hb⟩ => ⟨he, ⟨w'', x.le.trans (hb.mono x.le.size)⟩, rfl⟩
theorem Ext.same {P : Program} {f : FuncId} {args : Array Value} {W : World} {x : Ext W} {v : Value}
    (h : Calls P f args x.w fun e w' => e = .returned v ∧ x.w = w') : Calls P f args x.w fun e w'' => e = .returned v ∧ ∃ y : Ext W, w'' = y.w :=
  h.mono fun _ _ ⟨he, hb⟩ => ⟨he, x, hb.symm⟩
/-- A region that draws its order, whose operations read and call functions that turn nothing that lay there: one walk in the order of the text. -/
theorem region_ext {P : Program} {id : Nat} {Q : Exit → Act → World → Prop} {a : Act} {w : World} {l : List Oper} (hm : P.follows .mixedOrders = true) (hB : Region.lexB .any l.toArray = true)
    (h : wpQuiet P l.toArray (fun w' => ∃ x : Ext w, w' = x.w) (fun a' => ∀ w', (∃ x : Ext w, w' = x.w) → Q .normal a' w') l a) : (Code.region id l.toArray true).wp P Q a w :=
  wp_region_quiet (C := fun w' => ∃ x : Ext w, w' = x.w) hm hB ⟨⟨_, (Below.refl _ w).drew⟩, rfl⟩ (by simpa using h)

theorem run_makeI {P : Program} (t e : TypeId) (i : TypeInfo) (z : Value) (ht : P.underlying t = some (.slice e)) (hi : P.info? e = some i) (hz : i.zero = some z) (hz1 : z.cells = #[z]) (hs : i.size = 1)
    (kl kc : IntKind) (n : Nat) (hbytes : i.bytes * n ≤ 281474976710656) (h63 : n ≤ 9223372036854775807) (w : World) :
    (Instr.makeSlice t (.int kl (n : Int)) (.int kc (n : Int))).run P w = .ok (.slice (some ⟨w.heap.size, 0, none⟩) n n) (w.alloc (.cells (Array.replicate n z) e)) := by
  have hb : (i.bytes : Int) * (n : Int) ≤ 281474976710656 := by
    have h : ((i.bytes * n : Nat) : Int) ≤ 281474976710656 := by omega
    rwa [Int.natCast_mul] at h
  have hr := run_make (P := P) w t e i z ht hi hz kl kc n n (by omega) (by omega) hb (by omega)
  simp only [Int.toNat_natCast] at hr
  rw [hr, hz1, hs, Nat.mul_one]
  congr 3
  apply Array.toList_inj.1
  rw [toList_madeCells_one, Array.toList_replicate]
theorem ret_int {k : IntKind} {a b : Int} (h : a = b) : Ending.returned (.int k a) = .returned (.int k b) := by rw [h]

/-! A region whose last operations come one behind the other, behind all others: the others read (or call what turns nothing), in whatever order; the last ones are walked one by one, in any later world. -/
section
variable {P : Program} {ops : Array Oper} {md : Region.Mode} {C : World → Prop}
def headQ (P : Program) (md : Region.Mode) (ops : Array Oper) (C : World → Prop) (n : Nat) (L : Array Bool → Act → Prop) : Nat → Array Bool → Act → Prop
  | 0, listed, a => L listed a
  | f + 1, listed, a => Region.ready md ops listed ≠ [] ∧ ∀ i ∈ Region.ready md ops listed, i < n ∧ qOp P ops C i (headQ P md ops C n L f (listed.setIfInBounds i true)) a

theorem wpAny_of_headQ {n g : Nat} {L : Array Bool → Act → Prop} {Q' : Exit → Act → World → Prop} (hL : ∀ listed a w, C w → L listed a → wpAny P md ops Q' g listed a w) :
    ∀ (f : Nat) (listed : Array Bool) (a : Act) (w : World), C w → headQ P md ops C n L f listed a → wpAny P md ops Q' (f + g) listed a w
  | 0, listed, a, w, hw, h => by rw [Nat.zero_add]; exact hL _ _ _ hw h
  | f + 1, listed, a, w, hw, h => by
    rw [show f + 1 + g = (f + g) + 1 by omega]
    exact ⟨fun h0 => absurd h0 h.1, fun i hi => wpOp_of_qOp hw (fun a' w' hw' h' => wpAny_of_headQ hL f _ a' w' hw' h') (h.2 i hi).2⟩

theorem headQ_first {n i : Nat} {oi : Oper} {v : Value} {L : Array Bool → Act → Prop} (hi : ops[i]? = some oi) (hsel : ∀ (j : Nat) (o : Oper) cs b, ops[j]? = some o → o.op ≠ .select cs b)
    (hs : Region.sinkB md ops n = true) (hc : Region.chainB md ops n = true) (hn : n < ops.size) (hin : i < n) (hdone : ∀ listed a, L listed a → ∀ j ∈ Region.ready md ops listed, n ≤ j) :
    ∀ (f : Nat) (listed : Array Bool) (a : Act), HeadInv md ops n listed →
      (∀ j oj, ops[j]? = some oj → j ≠ i → listed.getD j true = false → (∀ e ∈ oj.after, Region.binds md e = true → e.on ≠ i) → oi.apart ops oj = true) →
      i ∈ Region.ready md ops listed → YieldsIn P ops C oi v a →
      headQ P md ops C n L f (listed.setIfInBounds i true) (a.put oi.dst v) → headQ P md ops C n L (f + 1) listed a := by
  intro f
  induction f with
  | zero =>
    intro listed a inv _ hr hy H
    have hun := (mem_ready.1 hr).1
    refine ⟨fun h => (by rw [h] at hr; cases hr), fun j hj => ?_⟩
    have hjn : j < n := by
      by_cases h : j < n
      · exact h
      · exact absurd hj (tail_waits hs hc hn inv _ i rfl hin hun j (by omega))
    refine ⟨hjn, ?_⟩
    by_cases hji : j = i
    · subst hji; exact hy.qOp hi H
    · have := hdone _ _ H j (ready_mono hj hji)
      omega
  | succ f ih =>
    intro listed a inv hfree hr hy H
    have hun := (mem_ready.1 hr).1
    refine ⟨fun h => (by rw [h] at hr; cases hr), fun j hj => ?_⟩
    have hjn : j < n := by
      by_cases h : j < n
      · exact h
      · exact absurd hj (tail_waits hs hc hn inv _ i rfl hin hun j (by omega))
    refine ⟨hjn, ?_⟩
    by_cases hji : j = i
    · subst hji; exact hy.qOp hi H
    · have h1 := (H.2 j (ready_mono hj hji)).2
      obtain ⟨hjun, oj, hoj, hall⟩ := mem_ready.1 hj
      have hnot : ∀ e ∈ oj.after, Region.binds md e = true → e.on ≠ i := fun e he hb heq => by
        have h1 := hall e he hb
        rw [heq, getD_both hun] at h1
        cases h1
      have h2 := qOp_put hoj (hfree j oj hoj hji hjun hnot) (fun cs b => hsel i oi cs b hi) (fun cs b => hsel j oj cs b hoj) hy h1
      have hfree' : ∀ k ok, ops[k]? = some ok → k ≠ i → (listed.setIfInBounds j true).getD k true = false →
          (∀ e ∈ ok.after, Region.binds md e = true → e.on ≠ i) → oi.apart ops ok = true := fun k ok hk hki hu hno => by
        refine hfree k ok hk hki ?_ hno
        by_cases hjk : j = k
        · subst hjk; exact hjun
        · rw [getD_set_ne true hjk] at hu; exact hu
      refine qOp_mono (fun a' h3 => ih (listed.setIfInBounds j true) a' (inv.set hj hjn) hfree' (ready_mono hr (Ne.symm hji)) h3.1 ?_) h2
      rw [Array.setIfInBounds_comm _ _ hji]
      exact h3.2

theorem headQ_lex {n g : Nat} {Lq : Act → Prop} (hsel : Region.noSelect ops = true) (hs : Region.sinkB md ops n = true) (hc : Region.chainB md ops n = true) (hn : n < ops.size) :
    ∀ (l : List Oper) (k : Nat) (listed : Array Bool) (a : Act), (∀ j, j < l.length → l[j]? = ops[k + j]?) → k + l.length = n → HeadInv md ops n listed →
    Region.lexHead md ops g l.length k listed = true → wpQuiet P ops C Lq l a →
    headQ P md ops C n (fun listed' a' => Region.seqB md ops g n listed' = true ∧ Lq a') l.length listed a
  | [], k, listed, a, _, hk, _, hB, h => by
    obtain rfl : k = n := by simpa using hk
    exact ⟨by simpa [Region.lexHead] using hB, h⟩
  | o :: l, k, listed, a, hl, hk, inv, hB, h => by
    have h0 : ops[k]? = some o := by simpa using (hl 0 (by simp)).symm
    simp only [List.length_cons, Region.lexHead, Bool.and_eq_true] at hB
    obtain ⟨⟨hr, hf⟩, hB'⟩ := hB
    have hkn : k < n := by simp only [List.length_cons] at hk; omega
    have hr' : k ∈ Region.ready md ops listed := by simpa using hr
    have hst : qOp P ops C k (wpQuiet P ops C Lq l) a := by unfold qOp; simp only [h0]; exact h
    obtain ⟨v, hy, hK⟩ := yieldsIn_of_qOp h0 hst
    exact headQ_first h0 (Region.noSelect_spec hsel) hs hc hn hkn (fun listed' a' hL => seqB_ready hL.1) l.length listed a inv (Region.free_spec h0 hf) hr' hy
      (headQ_lex hsel hs hc hn l (k + 1) _ _ (fun j hj => by have := hl (j + 1) (by simp; omega); simpa [Nat.add_assoc, Nat.add_comm 1 j] using this) (by simp only [List.length_cons] at hk; omega) (inv.set hr' hkn) hB' hK)

theorem region_ext_tail {id : Nat} {Q : Exit → Act → World → Prop} {a : Act} {w : World} {l : List Oper} (n : Nat) (hm : P.follows .mixedOrders = true) (hB : Region.lexTailB .any l.toArray n = true)
    (h : wpQuiet P l.toArray (fun w' => ∃ x : Ext w, w' = x.w) (fun a' => ∀ x : Ext w, wpList P l.toArray Q (l.drop n) a' x.w) (l.take n) a) : (Code.region id l.toArray true).wp P Q a w := by
  simp only [Region.lexTailB, Bool.and_eq_true, decide_eq_true_eq] at hB
  obtain ⟨⟨⟨⟨hsel, hn⟩, hs⟩, hc⟩, hlex⟩ := hB
  have hn' : n < l.length := by simpa using hn
  have htl : (l.take n).length = n := by simp; omega
  have hdl : (l.drop n).length = l.toArray.size - n := by simp
  have inv0 : HeadInv .any l.toArray n (Array.replicate l.toArray.size false) :=
    ⟨by simp, fun j oj _ hl => (by rw [getD_replicate_false] at hl; cases hl), fun t _ ht => getD_in (by simpa using ht) (getD_replicate_false _ _)⟩
  have H := headQ_lex (md := .any) (g := l.toArray.size - n) hsel hs hc hn (l.take n) 0 _ a (fun j hj => by
    have hj' : j < n := by rw [htl] at hj; exact hj
    simp [hj']) (by simpa using htl) inv0 (by rw [htl]; exact hlex) h
  refine wp_region_any hm ?_
  have := wpAny_of_headQ (Q' := Q) (g := l.toArray.size - n) (fun listed a' w' hw' hL => by
    obtain ⟨x, rfl⟩ := hw'
    have := wpAny_of_seq (md := .any) (Q' := Q) (l.drop n) n listed a' x.w (fun j => by simp [List.getElem?_drop]) (by rw [hdl]; exact hL.1) (hL.2 x)
    rwa [hdl] at this) _ _ _ _ (⟨⟨_, (Below.refl _ w).drew⟩, rfl⟩ : ∃ x : Ext w, ({ w with drawn := w.drawn + 1 } : World) = x.w) H
  rw [htl, show n + (l.toArray.size - n) = l.toArray.size by omega] at this
  exact this
end
theorem Ext.frozen {W : World} (x : Ext W) {p : Addr} {v : Value} (h : W.cell? p = some v) (hf : W.frozen? p = false) : x.w.frozen? p = false := by
  have hb : p.block < W.heap.size := by
    by_cases hp : p.block < W.heap.size
    · exact hp
    · have : W.heap[p.block]? = none := Array.getElem?_eq_none (by omega)
      simp [World.cell?, this] at h
  exact (x.le.frozen hb).trans hf

theorem mul_abs (a d : Int) (s t : Nat) (ha : -s ≤ a ∧ a ≤ s) (hd : -t ≤ d ∧ d ≤ t) : -((s * t : Nat) : Int) ≤ a * d ∧ a * d ≤ ((s * t : Nat) : Int) := by
  have h : (a * d).natAbs ≤ s * t := by rw [Int.natAbs_mul]; exact Nat.mul_le_mul (by omega) (by omega)
  omega
theorem mul_wrap64 (a d : Int) (ha : -10000 ≤ a ∧ a ≤ 10000) (hd : -10000 ≤ d ∧ d ≤ 10000) : wrap64 (a * d) = a * d := by
  have := mul_abs a d 10000 10000 (by omega) (by omega)
  exact IntWalk.wrap64_in _ (by omega)
theorem ret_bool {a b : Bool} (h : a = b) : Ending.returned (.bool a) = .returned (.bool b) := by rw [h]
theorem drop_cons {α : Type} (d : α) (xs : List α) (k : Nat) (h : k < xs.length) : xs.drop k = xs.getD k d :: xs.drop (k+1) := by
  rw [List.drop_eq_getElem_cons h]; simp [List.getD_eq_getElem?_getD, h]
/-! A region whose operations are taken one by one in whatever order: an invariant that speaks of what has been done. -/
section
variable {P : Program} {Q : Exit → Act → World → Prop}
def StepAll (P : Program) (ops : Array Oper) (Q : Exit → Act → World → Prop) (Inv : (Nat → Bool) → Act → World → Prop) : List Oper → Nat → Prop
  | [], _ => True
  | o :: r, k => (∀ (D : Nat → Bool) (a : Act) (w : World), Inv D a w → D k = false → (∀ e ∈ o.after, Region.binds .any e = true → D e.on = true) →
      (if Region.wanted o (yielded ops a.tmps) then o.wp P a w (fun a' w' => Inv (fun j => j == k || D j) a' w') Q else Inv (fun j => j == k || D j) (a.put o.dst undef) w)) ∧ StepAll P ops Q Inv r (k + 1)

def edgesDown : List Oper → Nat → Bool
  | [], _ => true
  | o :: r, k => o.after.all (fun e => !Region.binds .any e || decide (e.on < k)) && edgesDown r (k + 1)

theorem edgesDown_at : ∀ (l : List Oper) (k : Nat), edgesDown l k = true → ∀ i o, l[i]? = some o → ∀ e ∈ o.after, Region.binds .any e = true → e.on < k + i
  | [], _, _, _, _, h => by simp at h
  | o :: r, k, h, i, o', hi => by
    simp only [edgesDown, Bool.and_eq_true] at h
    cases i with
    | zero =>
      simp at hi; subst hi
      intro e he hb
      have := Array.all_eq_true'.1 h.1 e he
      simpa [hb] using this
    | succ i =>
      intro e he hb
      have := edgesDown_at r (k + 1) h.2 i o' (by simpa using hi) e he hb
      omega

theorem StepAll.at_ {ops : Array Oper} {Inv : (Nat → Bool) → Act → World → Prop} : ∀ (l : List Oper) (k : Nat), StepAll P ops Q Inv l k → ∀ i o, l[i]? = some o →
    ∀ (D : Nat → Bool) (a : Act) (w : World), Inv D a w → D (k + i) = false → (∀ e ∈ o.after, Region.binds .any e = true → D e.on = true) →
      (if Region.wanted o (yielded ops a.tmps) then o.wp P a w (fun a' w' => Inv (fun j => j == (k + i) || D j) a' w') Q else Inv (fun j => j == (k + i) || D j) (a.put o.dst undef) w)
  | [], _, _, i, o, hi => by simp at hi
  | o :: r, k, h, i, o', hi => by
    cases i with
    | zero => simp at hi; subst hi; exact h.1
    | succ i =>
      have := StepAll.at_ r (k + 1) h.2 i o' (by simpa using hi)
      rw [show k + 1 + i = k + (i + 1) by omega] at this
      exact this

theorem wpAny_of_inv {l : List Oper} {Inv : (Nat → Bool) → Act → World → Prop} (hB : edgesDown l 0 = true) (hs : StepAll P l.toArray Q Inv l 0)
    (hext : ∀ D D' a w, (∀ i, i < l.length → D i = D' i) → Inv D a w → Inv D' a w)
    (he : ∀ a w, Inv (fun _ => true) a w → Q .normal a w) : ∀ (fuel : Nat) (listed : Array Bool) (a : Act) (w : World), listed.size = l.length → (l.length ≤ fuel + (listed.toList.filter id).length) →
      Inv (fun i => listed.getD i true) a w → wpAny P .any l.toArray Q fuel listed a w := by
  have hnil : ∀ (listed : Array Bool) (a : Act) (w : World), listed.size = l.length → Inv (fun i => listed.getD i true) a w → Region.ready .any l.toArray listed = [] → Q .normal a w := by
    intro listed a w hsz hi hr
    refine he a w (hext _ _ a w (fun i hil => ?_) hi)
    -- the least place that is not listed would be ready
    have hmin : ∀ i, i < l.length → listed.getD i true = true := by
      intro i
      induction i using Nat.strongRecOn with
      | _ i ih =>
        intro hil
        cases hb : listed.getD i true with
        | true => rfl
        | false =>
          exfalso
          obtain ⟨o, ho⟩ : ∃ o, l[i]? = some o := ⟨l[i], List.getElem?_eq_getElem hil⟩
          have : i ∈ Region.ready .any l.toArray listed := mem_ready.2 ⟨hb, o, by simpa using ho, fun e hem hbind => by
            have hlt := edgesDown_at l 0 hB i o ho e hem hbind
            have h1 := ih e.on (by omega) (by omega)
            have h2 : e.on < listed.size := by omega
            simp [h2] at h1 ⊢
            exact h1⟩
          rw [hr] at this
          cases this
    exact hmin i hil
  intro fuel
  induction fuel with
  | zero =>
    intro listed a w hsz hf hi
    have hall : Region.ready .any l.toArray listed = [] := by
      cases hr : Region.ready .any l.toArray listed with
      | nil => rfl
      | cons i rs =>
        exfalso
        have hmem : i ∈ Region.ready .any l.toArray listed := by rw [hr]; simp
        obtain ⟨hun, o, ho, _⟩ := mem_ready.1 hmem
        have hil : i < l.length := by have := (Array.getElem?_eq_some_iff.1 ho).1; simpa using this
        have hlen := List.length_filter_lt_length_iff_exists (p := (id : Bool → Bool)) (l := listed.toList) |>.2 ⟨listed.getD i true, by
          have : i < listed.size := by omega
          simp [this], by simp [hun]⟩
        have : listed.toList.length = l.length := by simpa using hsz
        omega
    exact ⟨hall, hnil listed a w hsz hi hall⟩
  | succ fuel ih =>
    intro listed a w hsz hf hi
    refine ⟨hnil listed a w hsz hi, fun i hmem => ?_⟩
    obtain ⟨hun, o, ho, hall⟩ := mem_ready.1 hmem
    have hil : i < l.length := by have := (Array.getElem?_eq_some_iff.1 ho).1; simpa using this
    have hst := StepAll.at_ l 0 hs i o (by simpa using ho) (fun i => listed.getD i true) a w hi (by simpa using hun) (fun e hem hbind => by
      have h1 := hall e hem hbind
      have h2 : e.on < listed.size := by have := edgesDown_at l 0 hB i o (by simpa using ho) e hem hbind; omega
      simp [h2] at h1 ⊢
      exact h1)
    rw [Nat.zero_add] at hst
    have hnext : ∀ a' w', Inv (fun j => j == i || listed.getD j true) a' w' → wpAny P .any l.toArray Q fuel (listed.setIfInBounds i true) a' w' := by
      intro a' w' h'
      refine ih _ a' w' (by simpa using hsz) ?_ (hext _ _ a' w' (fun j hj => ?_) h')
      · have hc : ((listed.setIfInBounds i true).toList.filter id).length = (listed.toList.filter id).length + 1 := by
          have hi' : i < listed.toList.length := by simp; omega
          have hf' : listed.toList[i] = false := by
            have : i < listed.size := by omega
            simp [this] at hun; simpa using hun
          rw [Array.toList_setIfInBounds]
          have e1 := List.take_append_drop i listed.toList
          have e2 : listed.toList.drop i = false :: listed.toList.drop (i + 1) := by rw [List.drop_eq_getElem_cons hi', hf']
          have e3 : listed.toList.set i true = listed.toList.take i ++ true :: listed.toList.drop (i + 1) := by
            rw [List.set_eq_take_append_cons_drop, if_pos hi']
          rw [e3]
          conv => rhs; rw [← e1, e2]
          simp
          omega
        omega
      · by_cases hji : j = i
        · subst hji
          have : j < listed.size := by omega
          simp [this]
        · have : j < listed.size := by omega
          simp [hji, this, Ne.symm hji]
    unfold wpOp
    rw [ho]
    show if Region.wanted o (yielded l.toArray a.tmps) = true then _ else _
    split
    · rename_i hw
      rw [if_pos hw] at hst
      exact .inl (Oper.wp_mono hnext hst)
    · rename_i hw
      rw [if_neg hw] at hst
      exact hnext _ _ hst

theorem region_inv {id : Nat} {a : Act} {w : World} {l : List Oper} (Inv : (Nat → Bool) → Act → World → Prop) (hm : P.follows .mixedOrders = true) (hB : edgesDown l 0 = true)
    (hext : ∀ D D' a w, (∀ i, i < l.length → D i = D' i) → Inv D a w → Inv D' a w)
    (h0 : ∀ D, (∀ i, i < l.length → D i = false) → Inv D a { w with drawn := w.drawn + 1 }) (hs : StepAll P l.toArray Q Inv l 0) (he : ∀ a w, Inv (fun _ => true) a w → Q .normal a w) : (Code.region id l.toArray true).wp P Q a w := by
  refine wp_region_any hm (wpAny_of_inv hB hs hext he _ _ _ _ (by simp) (by simp) (h0 _ (fun i hi => ?_)))
  have : i < (Array.replicate l.toArray.size false).size := by simpa using hi
  simp [hi]
end

end Go.Pol
namespace Go.Pol
abbrev Sp := Int × Int

def vld (x : Sp) : Bool := decide (0 ≤ x.1) && decide (x.1 < 1024) && decide (1 ≤ x.2) && decide (x.2 ≤ 1024 - x.1)
theorem vld_iff {x : Sp} : vld x = true ↔ 0 ≤ x.1 ∧ x.1 < 1024 ∧ 1 ≤ x.2 ∧ x.2 ≤ 1024 - x.1 := by simp [vld, and_assoc]
def formOk : Int → List Sp → Bool
  | _, [] => true
  | e, x :: r => decide (e < x.1) && formOk (x.1 + x.2) r
def chkS (s : List Sp) : Int := if 512 < s.length then 3 else if s.all vld = false then 7 else if formOk (-1) s then 0 else 6
def mem (p : Int) (s : List Sp) : Bool := s.any fun x => decide (x.1 ≤ p) && decide (p < x.1 + x.2)
def Can (s : List Sp) : Prop := (∀ x ∈ s, vld x = true) ∧ formOk (-1) s = true

theorem mem_nil {p : Int} : mem p [] = false := rfl
theorem mem_cons {p : Int} {x : Sp} {s : List Sp} : mem p (x :: s) = ((decide (x.1 ≤ p) && decide (p < x.1 + x.2)) || mem p s) := rfl
theorem mem_append {p : Int} {s t : List Sp} : mem p (s ++ t) = (mem p s || mem p t) := by simp [mem]
theorem mem_cons' {p : Int} {x : Sp} {s : List Sp} : mem p (x :: s) = true ↔ (x.1 ≤ p ∧ p < x.1 + x.2) ∨ mem p s = true := by simp [mem_cons]
theorem formOk_cons {e : Int} {x : Sp} {s : List Sp} : formOk e (x :: s) = true ↔ e < x.1 ∧ formOk (x.1 + x.2) s = true := by simp [formOk]
theorem mem_lt {p : Int} : ∀ {s : List Sp} {e : Int}, formOk e s = true → (∀ x ∈ s, 0 ≤ x.2) → mem p s = true → e < p
  | [], _, _, _, h => by simp [mem_nil] at h
  | x :: s, e, hf, hw, h => by
    rw [formOk_cons] at hf
    have := hw x (by simp)
    rcases mem_cons'.1 h with h | h
    · omega
    · have := mem_lt hf.2 (fun y hy => hw y (by simp [hy])) h
      omega
theorem uniq : ∀ (s t : List Sp) (e : Int), (∀ x ∈ s, 1 ≤ x.2) → (∀ x ∈ t, 1 ≤ x.2) → formOk e s = true → formOk e t = true → (∀ p : Int, mem p s = mem p t) → s = t
  | [], [], _, _, _, _, _, _ => rfl
  | [], y :: t, _, _, ht, _, _, h => by
    have := h y.1
    have h1 := ht y (by simp)
    rw [mem_nil, mem_cons] at this
    simp at this
    omega
  | x :: s, [], _, hs, _, _, _, h => by
    have := h x.1
    have h1 := hs x (by simp)
    rw [mem_nil, mem_cons] at this
    simp at this
    omega
  | x :: s, y :: t, e, hs, ht, fs, ft, h => by
    have hx := hs x (by simp)
    have hy := ht y (by simp)
    rw [formOk_cons] at fs ft
    have hs' : ∀ z ∈ s, 1 ≤ z.2 := fun z hz => hs z (by simp [hz])
    have ht' : ∀ z ∈ t, 1 ≤ z.2 := fun z hz => ht z (by simp [hz])
    have low : ∀ p, mem p s = true → x.1 + x.2 < p := fun p hp => mem_lt fs.2 (fun z hz => by have := hs' z hz; omega) hp
    have low' : ∀ p, mem p t = true → y.1 + y.2 < p := fun p hp => mem_lt ft.2 (fun z hz => by have := ht' z hz; omega) hp
    have e1 : x.1 = y.1 := by
      have a := h x.1
      have b := h y.1
      have a1 : mem x.1 (x :: s) = true := mem_cons'.2 (.inl (by omega))
      have b1 : mem y.1 (y :: t) = true := mem_cons'.2 (.inl (by omega))
      rw [a1] at a; rw [b1] at b
      rcases mem_cons'.1 a.symm with h1 | h1 <;> rcases mem_cons'.1 b with h2 | h2
      · omega
      · have := low _ h2; omega
      · have := low' _ h1; omega
      · have := low _ h2; have := low' _ h1; omega
    have e2 : x.2 = y.2 := by
      have a := h (x.1 + x.2)
      have b := h (y.1 + y.2)
      have a1 : mem (x.1 + x.2) (x :: s) = false := by
        rw [Bool.eq_false_iff]; intro hh
        rcases mem_cons'.1 hh with h1 | h1
        · omega
        · have := low _ h1; omega
      have b1 : mem (y.1 + y.2) (y :: t) = false := by
        rw [Bool.eq_false_iff]; intro hh
        rcases mem_cons'.1 hh with h1 | h1
        · omega
        · have := low' _ h1; omega
      rw [a1] at a; rw [b1] at b
      have a2 : ¬ (y.1 ≤ x.1 + x.2 ∧ x.1 + x.2 < y.1 + y.2) := fun hh => by
        have : mem (x.1 + x.2) (y :: t) = true := mem_cons'.2 (.inl hh)
        rw [← a] at this; cases this
      have b2 : ¬ (x.1 ≤ y.1 + y.2 ∧ y.1 + y.2 < x.1 + x.2) := fun hh => by
        have : mem (y.1 + y.2) (x :: s) = true := mem_cons'.2 (.inl hh)
        rw [b] at this; cases this
      omega
    have exy : x = y := Prod.ext e1 e2
    subst exy
    congr 1
    refine uniq s t (x.1 + x.2) hs' ht' fs.2 ft.2 fun p => ?_
    have hp := h p
    rw [mem_cons, mem_cons] at hp
    by_cases hin : x.1 ≤ p ∧ p < x.1 + x.2
    · have z1 : mem p s = false := by rw [Bool.eq_false_iff]; intro hh; have := low _ hh; omega
      have z2 : mem p t = false := by rw [Bool.eq_false_iff]; intro hh; have := low' _ hh; omega
      rw [z1, z2]
    · have : (decide (x.1 ≤ p) && decide (p < x.1 + x.2)) = false := by simp; omega
      simpa [this] using hp
theorem Can.eq {s t : List Sp} (hs : Can s) (ht : Can t) (h : ∀ p : Int, mem p s = mem p t) : s = t :=
  uniq s t (-1) (fun x hx => (vld_iff.1 (hs.1 x hx)).2.2.1) (fun x hx => (vld_iff.1 (ht.1 x hx)).2.2.1) hs.2 ht.2 h
theorem form_len : ∀ (s : List Sp) (e : Int), e < 1024 → (∀ x ∈ s, vld x = true) → formOk e s = true → 2 * (s.length : Int) ≤ 1024 - e
  | [], e, he, _, _ => by simp; omega
  | x :: s, e, _, hv, hf => by
    rw [formOk_cons] at hf
    have hx := vld_iff.1 (hv x (by simp))
    cases s with
    | nil => simp; omega
    | cons y r =>
      have hf2 := formOk_cons.1 hf.2
      have hy := vld_iff.1 (hv y (by simp))
      have := (form_len (y :: r) (x.1 + x.2) (by omega) (fun z hz => hv z (List.mem_cons_of_mem _ hz)) hf.2)
      simp only [List.length_cons] at this ⊢
      omega
theorem Can.len {s : List Sp} (h : Can s) : s.length ≤ 512 := by
  have := form_len s (-1) (by omega) h.1 h.2
  omega
theorem chkS_zero {s : List Sp} : chkS s = 0 ↔ Can s := by
  unfold chkS
  constructor
  · intro h
    split at h
    · cases h
    · split at h
      · cases h
      · split at h
        · rename_i h1 h2 h3
          exact ⟨fun x hx => by simpa using List.all_eq_true.1 (by simpa using h2 : s.all vld = true) x hx, h3⟩
        · cases h
  · intro h
    rw [if_neg (by have := h.len; omega), if_neg (by rw [Bool.not_eq_false]; exact List.all_eq_true.2 h.1), if_pos h.2]
/-! the common pages -/
theorem Can.one {x : Sp} (h : vld x = true) : Can [x] := ⟨by simpa using h, by rw [formOk_cons]; have := (vld_iff.1 h).1; exact ⟨by omega, rfl⟩⟩
theorem mem_one {p : Int} {x : Sp} : mem p [x] = true ↔ x.1 ≤ p ∧ p < x.1 + x.2 := by simp [mem]
/-! the gaps -/
/-! the set of the pages that are marked -/
def bump (l : List Sp) : List Sp := match l.reverse with | [] => [] | x :: r => r.reverse ++ [(x.1, x.2 + 1)]
theorem bump_snoc (l : List Sp) (x : Sp) : bump (l ++ [x]) = l ++ [(x.1, x.2 + 1)] := by simp [bump]
def setF (f : Nat → Bool) : Nat → List Sp
  | 0 => []
  | p + 1 => if f p then (if decide (0 < p) && f (p - 1) then bump (setF f p) else setF f p ++ [((p : Int), 1)]) else setF f p
def lastE : Int → List Sp → Int
  | e, [] => e
  | _, x :: r => lastE (x.1 + x.2) r
theorem lastE_snoc (e : Int) : ∀ (l : List Sp) (x : Sp), lastE e (l ++ [x]) = x.1 + x.2
  | [], _ => rfl
  | y :: r, x => lastE_snoc (y.1 + y.2) r x
theorem formOk_snoc : ∀ (l : List Sp) (e : Int) (x : Sp), formOk e (l ++ [x]) = true ↔ formOk e l = true ∧ lastE e l < x.1
  | [], e, x => by simp [formOk, lastE]
  | y :: r, e, x => by rw [List.cons_append, formOk_cons, formOk_cons, formOk_snoc r, lastE]; simp only [and_assoc]
theorem mem_snoc {p : Int} {l : List Sp} {x : Sp} : mem p (l ++ [x]) = true ↔ mem p l = true ∨ (x.1 ≤ p ∧ p < x.1 + x.2) := by rw [mem_append, Bool.or_eq_true, mem_one]
structure SetOk (f : Nat → Bool) (p : Nat) (l : List Sp) : Prop where
  wid : ∀ x ∈ l, 0 ≤ x.1 ∧ 1 ≤ x.2 ∧ x.1 + x.2 ≤ p
  form : formOk (-1) l = true
  mem : ∀ q : Int, mem q l = true ↔ (0 ≤ q ∧ q < p) ∧ f q.toNat = true
  last : 0 < p → f (p - 1) = true → ∃ (r : List Sp) (x : Sp), l = r ++ [x] ∧ x.1 + x.2 = (p : Int)
  open_ : (0 < p → f (p - 1) = false) → lastE (-1) l < p
theorem setF_ok (f : Nat → Bool) : ∀ p, SetOk f p (setF f p)
  | 0 => ⟨by simp [setF], rfl, fun q => by simp [setF, mem_nil]; omega, fun h => absurd h (by omega), fun _ => by simp [setF, lastE]⟩
  | p + 1 => by
    have ih := setF_ok f p
    rw [setF]
    by_cases hp : f p = true
    · rw [if_pos hp]
      by_cases hq : 0 < p ∧ f (p - 1) = true
      · rw [if_pos (by simp [hq])]
        obtain ⟨r, x, hl, hx⟩ := ih.last hq.1 hq.2
        have hw := ih.wid
        have hf := ih.form
        have hm := ih.mem
        rw [hl] at hw hf hm ⊢
        rw [bump_snoc]
        refine ⟨fun y hy => ?_, ?_, fun q => ?_, fun _ _ => ⟨r, _, rfl, by simp only; omega⟩, fun h => ?_⟩
        · rw [List.mem_append, List.mem_singleton] at hy
          rcases hy with hy | rfl
          · have := hw y (by simp [hy]); omega
          · have := hw x (by simp); simp only; omega
        · rw [formOk_snoc] at hf ⊢; exact hf
        · have h1 := hm q
          rw [mem_snoc] at h1 ⊢
          simp only
          have hx' := hw x (by simp)
          by_cases hqp : q = (p : Int)
          · constructor
            · intro _; exact ⟨by omega, by rw [hqp]; simpa using hp⟩
            · intro _; right; omega
          · constructor
            · rintro (h | h)
              · have := h1.1 (.inl h)
                exact ⟨by omega, this.2⟩
              · have := h1.1 (.inr (by omega))
                exact ⟨by omega, this.2⟩
            · rintro ⟨h2, h3⟩
              rcases h1.2 ⟨by omega, h3⟩ with h | h
              · exact .inl h
              · exact .inr (by omega)
        · rw [Nat.add_sub_cancel] at h
          have := h (by omega)
          rw [hp] at this; cases this
      · rw [if_neg (by simpa using hq)]
        have hop := ih.open_ (fun h0 => by
          cases h : f (p - 1) with
          | false => rfl
          | true => exact absurd ⟨h0, h⟩ hq)
        refine ⟨fun y hy => ?_, ?_, fun q => ?_, fun _ _ => ⟨_, _, rfl, by simp only; omega⟩, fun h => ?_⟩
        · rw [List.mem_append, List.mem_singleton] at hy
          rcases hy with hy | rfl
          · have := ih.wid y hy; omega
          · simp only; omega
        · rw [formOk_snoc]; exact ⟨ih.form, hop⟩
        · rw [mem_snoc, ih.mem q]
          simp only
          by_cases hqp : q = p
          · subst hqp
            constructor
            · intro _; exact ⟨by omega, by simpa using hp⟩
            · intro _; right; omega
          · constructor
            · rintro (⟨h, h2⟩ | h)
              · exact ⟨by omega, h2⟩
              · omega
            · rintro ⟨h, h2⟩; exact .inl ⟨by omega, h2⟩
        · rw [Nat.add_sub_cancel] at h
          have := h (by omega)
          rw [hp] at this; cases this
    · rw [if_neg hp]
      have hp' : f p = false := by simpa using hp
      refine ⟨fun y hy => by have := ih.wid y hy; omega, ih.form, fun q => ?_, fun _ h => ?_, fun _ => ?_⟩
      · rw [ih.mem q]
        constructor
        · rintro ⟨h1, h2⟩; exact ⟨by omega, h2⟩
        · rintro ⟨h1, h2⟩
          refine ⟨?_, h2⟩
          by_cases hqp : q = p
          · subst hqp; rw [Int.toNat_natCast, hp'] at h2; cases h2
          · omega
      · rw [Nat.add_sub_cancel, hp'] at h; cases h
      · by_cases hq : 0 < p ∧ f (p - 1) = true
        · obtain ⟨r, x, hl, hx⟩ := ih.last hq.1 hq.2
          rw [hl, lastE_snoc, hx]; omega
        · have := ih.open_ (fun h0 => by
            cases h : f (p - 1) with
            | false => rfl
            | true => exact absurd ⟨h0, h⟩ hq)
          omega
def setA (f : Nat → Bool) : List Sp := setF f 1024
theorem setA_can (f : Nat → Bool) : Can (setA f) := ⟨fun x hx => by have := (setF_ok f 1024).wid x hx; rw [vld_iff]; omega, (setF_ok f 1024).form⟩
theorem mem_setA (f : Nat → Bool) (q : Int) : mem q (setA f) = true ↔ (0 ≤ q ∧ q < 1024) ∧ f q.toNat = true := (setF_ok f 1024).mem q
theorem Can.range {s : List Sp} (h : Can s) {p : Int} (hp : mem p s = true) : 0 ≤ p ∧ p < 1024 := by
  obtain ⟨x, hx, hh⟩ := List.any_eq_true.1 hp
  have := vld_iff.1 (h.1 x hx)
  simp at hh
  omega
/-- a set is what the marks of its pages give -/
theorem Can.eq_setA {s : List Sp} (h : Can s) (f : Nat → Bool) (hf : ∀ p : Nat, p < 1024 → f p = mem p s) : s = setA f := by
  refine h.eq (setA_can f) fun p => ?_
  rw [Bool.eq_iff_iff, mem_setA]
  constructor
  · intro hp
    have := h.range hp
    refine ⟨this, ?_⟩
    rw [hf _ (by omega), Int.toNat_of_nonneg this.1]; exact hp
  · rintro ⟨h1, h2⟩
    rw [hf _ (by omega), Int.toNat_of_nonneg h1.1] at h2; exact h2
end Go.Pol
namespace Go.Proofs.YtpabnbhbcphfiaaGreat
open Go Go.Proofs Go.RowKit Go.Pol

theorem wrong_any (p n : Int) (w : World) :
    Calls Tryz.prog 173 #[.agg #[.int .i64 p, .int .i64 n]] w fun e w' => e = .returned (.bool (!vld (p, n))) ∧ Below w.heap.size w w' := by
  have hb0 := (Below.refl w.heap.size w).alloc (Nat.le_refl _) (.cells #[.int .i64 p, .int .i64 n] 115)
  by_cases h1 : p < 0
  · have h1' : decide (p < 0) = true := by simpa using h1
    go_enter Tryz.func173, Tryz.ntmps173
    go_wp2
    go_ret
    exact ⟨ret_bool (by simp [vld]; omega), hb0⟩
  have h1' : decide (p < 0) = false := by simpa using h1
  by_cases h2 : 1024 ≤ p
  · have h2' : decide (1024 ≤ p) = true := by simpa using h2
    go_enter Tryz.func173, Tryz.ntmps173
    go_wp2
    go_ret
    exact ⟨ret_bool (by simp [vld]; omega), hb0⟩
  have h2' : decide (1024 ≤ p) = false := by simpa using h2
  by_cases h3 : n < 1
  · have h3' : decide (n < 1) = true := by simpa using h3
    go_enter Tryz.func173, Tryz.ntmps173
    go_wp2
    go_ret
    exact ⟨ret_bool (by simp [vld]; omega), hb0⟩
  have h3' : decide (n < 1) = false := by simpa using h3
  go_enter Tryz.func173, Tryz.ntmps173
  go_wp2
  go_ret
  exact ⟨ret_bool (by rw [Bool.eq_iff_iff]; simp [vld]; omega), hb0⟩

theorem valid_any (p n : Int) (w : World) :
    Calls Tryz.prog 113 #[.agg #[.int .i64 p, .int .i64 n]] w fun e w' => e = .returned (.bool (vld (p, n))) ∧ Below w.heap.size w w' := by
  have hb0 := (Below.refl w.heap.size w).alloc (Nat.le_refl _) (.cells #[.int .i64 p, .int .i64 n] 115)
  by_cases h1 : 0 ≤ p
  case neg =>
    have h1' : decide (0 ≤ p) = false := by simpa using h1
    go_enter Tryz.func113, Tryz.ntmps113
    go_wp2
    go_ret
    exact ⟨ret_bool (by simp [vld]; omega), hb0⟩
  have h1' : decide (0 ≤ p) = true := by simpa using h1
  by_cases h2 : p < 1024
  case neg =>
    have h2' : decide (p < 1024) = false := by simpa using h2
    go_enter Tryz.func113, Tryz.ntmps113
    go_wp2
    go_ret
    exact ⟨ret_bool (by simp [vld]; omega), hb0⟩
  have h2' : decide (p < 1024) = true := by simpa using h2
  by_cases h3 : 1 ≤ n
  case neg =>
    have h3' : decide (1 ≤ n) = false := by simpa using h3
    go_enter Tryz.func113, Tryz.ntmps113
    go_wp2
    go_ret
    exact ⟨ret_bool (by simp [vld]; omega), hb0⟩
  have h3' : decide (1 ≤ n) = true := by simpa using h3
  go_enter Tryz.func113, Tryz.ntmps113
  go_wp2
  go_ret
  exact ⟨ret_bool (by rw [Bool.eq_iff_iff]; simp [vld]; omega), hb0⟩

theorem end_any (p n : Int) (w : World) (hp : -100000 ≤ p ∧ p ≤ 100000) (hn : -100000 ≤ n ∧ n ≤ 100000) :
    Calls Tryz.prog 207 #[.agg #[.int .i64 p, .int .i64 n]] w fun e w' => e = .returned (.int .i64 (p + n)) ∧ Below w.heap.size w w' := by
  have hb0 := (Below.refl w.heap.size w).alloc (Nat.le_refl _) (.cells #[.int .i64 p, .int .i64 n] 115)
  go_enter Tryz.func207, Tryz.ntmps207
  go_wp2
  go_ret
  exact ⟨rfl, hb0⟩

/-- where the first span that is not valid lies -/
def badAt : List Sp → Nat
  | [] => 0
  | x :: r => if vld x = true then badAt r + 1 else 0
theorem badAt_all : ∀ (s : List Sp), (badAt s = s.length ↔ s.all vld = true)
  | [] => by simp [badAt]
  | x :: r => by
    have := badAt_all r
    simp only [badAt, List.length_cons, List.all_cons]
    by_cases h : vld x = true
    · rw [if_pos h]; simp [h, this]
    · rw [if_neg h]; simp [h]
theorem badAt_at : ∀ (s : List Sp) (k : Nat), (∀ j, j < k → j < s.length → vld (s.getD j (0,0)) = true) → k < s.length → vld (s.getD k (0,0)) = false → badAt s = k
  | [], k, _, h, _ => by simp at h
  | x :: r, 0, _, _, h => by simp at h; simp [badAt, h]
  | x :: r, k + 1, hj, hk, h => by
    have h0 := hj 0 (by omega) (by simp)
    simp at h0
    rw [badAt, if_pos h0, badAt_at r k (fun j h1 h2 => by simpa using hj (j + 1) (by omega) (by simp; omega)) (by simpa using hk) (by simpa using h)]
theorem badAt_end (s : List Sp) (h : ∀ j, j < s.length → vld (s.getD j (0,0)) = true) : badAt s = s.length := by
  rw [badAt_all, List.all_eq_true]
  intro x hx
  obtain ⟨j, hj, rfl⟩ := List.getElem_of_mem hx
  simpa [List.getD_eq_getElem?_getD, hj] using h j hj

set_option maxHeartbeats 400000 in
theorem indexFunc_any (A : Option Addr) (n cap : Nat) (us : List Sp) (w : World) (hn : us.length = n) (hm : n ≤ maxLen) (hr : RU w w.heap.size A us) :
    Calls Tryz.prog 216 #[.slice A n cap, .func (.func 173) #[] #[]] w fun e w' => e = .returned (.int .i64 (if badAt us = n then -1 else (badAt us : Nat))) ∧ Below w.heap.size w w' := by
  unfold maxLen at hm
  have hn' := Lib.hid hn
  clear hn
  obtain ⟨R, hR0⟩ : ∃ R : Int, (if badAt us = n then -1 else ((badAt us : Nat) : Int)) = R := ⟨_, rfl⟩
  rw [hR0]
  have hR := Lib.hid hR0
  clear hR0
  go_enter Tryz.func216, Tryz.ntmps216
  go_wp2
  go_loopw [8] (fun i wr => ∃ (k : Int), 0 ≤ k ∧ k ≤ n ∧ i = .int .i64 k ∧ Below w.heap.size w wr ∧ Hid (∀ j : Nat, (j : Int) < k → j < us.length → vld (us.getD j (0,0)) = true)) (fun i _ => n - (intOf i).toNat)
  case atStart => exact ⟨0, by omega, by omega, rfl, Below.refl _ _, Lib.hid (fun j hj => absurd hj (by omega))⟩
  case round =>
    obtain ⟨k, hk0, hk, rfl, hB, hL⟩ := hrel
    by_cases hlt : k < n
    · obtain ⟨b, o, rfl, _, hc, hd⟩ := RU.at_' (hr.below hB) (k := k.toNat) (by have := hn'.out; omega)
      have hX : Hid (us.getD k.toNat (0,0) = us.getD k.toNat (0,0)) := Lib.hid rfl
      generalize hu : us.getD k.toNat (0,0) = u at *
      have hu' := Lib.hid hu; clear hu hX
      obtain ⟨x, y⟩ := u
      dsimp only at hc hd
      by_cases hv : vld (x, y) = true
      · have hv' : (!vld (x, y)) = false := by simp [hv]
        go_wp2_with (go_at_call 173; refine (wrong_any _ _ _).mono ?_; rintro e w1 ⟨rfl, hq⟩)
        have hB1 := hB.trans (hq.mono hB.size)
        go_roundw
        case rel =>
          refine ⟨k+1, by omega, by omega, rfl, hB1, Lib.hid (fun j hj hl => ?_)⟩
          by_cases hjk : (j : Int) < k
          · exact hL.out j hjk hl
          · obtain rfl : j = k.toNat := by omega
            rw [hu'.out]; exact hv
        case measure => simp [intOf]; omega
      · have hv' : (!vld (x, y)) = true := by simpa using hv
        have hE : Hid (badAt us = k.toNat) := Lib.hid (badAt_at us k.toNat (fun j h1 h2 => hL.out j (by omega) h2) (by have := hn'.out; omega) (by rw [hu'.out]; simpa using hv))
        clear hv
        go_wp2_with (go_at_call 173; refine (wrong_any _ _ _).mono ?_; rintro e w1 ⟨rfl, hq⟩)
        go_ret
        exact ⟨ret_int (by rw [← hR.out, hE.out, if_neg (by omega)]; omega), hB.trans (hq.mono hB.size)⟩
    · have hE : Hid (badAt us = n) := Lib.hid (by rw [← hn'.out]; exact badAt_end us (fun j h2 => hL.out j (by have := hn'.out; omega) h2))
      go_wp2
      go_ret
      exact ⟨ret_int (by rw [← hR.out, if_pos hE.out]), hB⟩

theorem containsFunc_any (A : Option Addr) (n cap : Nat) (us : List Sp) (w : World) (hn : us.length = n) (hm : n ≤ maxLen) (hr : RU w w.heap.size A us) :
    Calls Tryz.prog 172 #[.slice A n cap, .func (.func 173) #[] #[]] w fun e w' => e = .returned (.bool (!us.all vld)) ∧ Below w.heap.size w w' := by
  have HI := Lib.hid (indexFunc_any A n cap us w hn hm hr)
  have hR : Hid (decide (0 ≤ (if badAt us = n then (-1 : Int) else ((badAt us : Nat) : Int))) = !us.all vld) := Lib.hid (by
    have h := badAt_all us
    rw [hn] at h
    by_cases hb : badAt us = n
    · rw [if_pos hb, h.1 hb]; rfl
    · have : us.all vld = false := by rw [Bool.eq_false_iff]; exact fun hh => hb (h.2 hh)
      rw [if_neg hb, this]; simp)
  generalize (if badAt us = n then (-1 : Int) else ((badAt us : Nat) : Int)) = R at *
  clear hn hr
  go_enter Tryz.func172, Tryz.ntmps172
  go_wp2_with (go_at_call 216; refine (HI.out).mono ?_; rintro e w1 ⟨rfl, hq⟩)
  go_ret
  exact ⟨ret_bool hR.out, hq⟩

theorem form_step (us : List Sp) (e : Int) (k : Nat) (hk : k + 1 < us.length) (h : formOk e us = true ↔ formOk ((us.getD k (0,0)).1 + (us.getD k (0,0)).2) (us.drop (k+1)) = true) :
    formOk e us = true ↔ (us.getD k (0,0)).1 + (us.getD k (0,0)).2 < (us.getD (k+1) (0,0)).1 ∧ formOk ((us.getD (k+1) (0,0)).1 + (us.getD (k+1) (0,0)).2) (us.drop (k+2)) = true := by
  rw [h, drop_cons (0,0) us (k+1) hk, formOk_cons]
theorem form_start (us : List Sp) (h0 : 0 < us.length) (hv : us.all vld = true) : formOk (-1) us = true ↔ formOk ((us.getD 0 (0,0)).1 + (us.getD 0 (0,0)).2) (us.drop 1) = true := by
  cases us with
  | nil => simp at h0
  | cons x r =>
    have := vld_iff.1 ((by simpa using hv : vld x = true ∧ _).1)
    rw [formOk_cons]; simp; intro; omega
theorem all_at {us : List Sp} (hv : us.all vld = true) {k : Nat} (hk : k < us.length) : vld (us.getD k (0,0)) = true := by
  have := List.all_eq_true.1 hv us[k] (List.getElem_mem hk)
  simpa [List.getD_eq_getElem?_getD, hk] using this

set_option maxHeartbeats 800000 in
theorem spCheck_any (A : Option Addr) (n cap : Nat) (us : List Sp) (w : World) (hn : us.length = n) (hm : n ≤ maxLen) (hr : RU w w.heap.size A us) :
    Calls Tryz.prog 161 #[.slice A n cap] w fun e w' => e = .returned (.int .i64 (chkS us)) ∧ Below w.heap.size w w' := by
  have HC := Lib.hid (containsFunc_any A n cap us w hn hm hr)
  unfold maxLen at hm
  have hn' := Lib.hid hn
  clear hn
  obtain ⟨R, hR0⟩ : ∃ R : Int, chkS us = R := ⟨_, rfl⟩
  rw [hR0]
  have hR := Lib.hid hR0
  clear hR0
  by_cases hlen : 512 < n
  · have hlen' : decide (512 < (n : Int)) = true := by simp; omega
    go_enter Tryz.func161, Tryz.ntmps161
    go_wp2
    go_ret
    exact ⟨ret_int (by rw [← hR.out, chkS, if_pos (by rw [hn'.out]; exact hlen)]), Below.refl _ _⟩
  have hlen' : decide (512 < (n : Int)) = false := by simp; omega
  by_cases hall : us.all vld = true
  case neg =>
    have hall' : (!us.all vld) = true := by simpa using hall
    have hE : Hid (R = 7) := Lib.hid (by rw [← hR.out, chkS, if_neg (by rw [hn'.out]; exact hlen), if_pos (by simpa using hall)])
    rw [hall'] at HC
    clear hall hall' hr
    go_enter Tryz.func161, Tryz.ntmps161
    go_wp2_with (go_at_call 172; refine (HC.out).mono ?_; rintro e w1 ⟨rfl, hq⟩)
    go_ret
    exact ⟨ret_int hE.out.symm, hq⟩
  have hall' : (!us.all vld) = false := by rw [hall]; rfl
  have hR2 : Hid (R = if formOk (-1) us = true then 0 else 6) := Lib.hid (by rw [← hR.out, chkS, if_neg (by rw [hn'.out]; exact hlen), if_neg (by rw [hall]; decide)])
  have hA := Lib.hid hall
  rw [hall'] at HC
  clear hall hall' hR
  go_enter Tryz.func161, Tryz.ntmps161
  go_wp2_with (go_at_call 172; refine (HC.out).mono ?_; rintro e w1 ⟨rfl, hq⟩)
  go_loopw [3] (fun i wr => ∃ (k : Nat), (k + 1 ≤ n ∨ n = 0 ∧ k = 0) ∧ i = .int .i64 ((k : Int) + 1) ∧ Below w.heap.size w wr ∧ Hid (0 < n → (formOk (-1) us = true ↔ formOk ((us.getD k (0,0)).1 + (us.getD k (0,0)).2) (us.drop (k+1)) = true))) (fun i _ => n + 1 - (intOf i).toNat)
  case atStart => exact ⟨0, by omega, by simp, hq, Lib.hid (fun h => form_start us (by rw [hn'.out]; exact h) hA.out)⟩
  case round =>
    obtain ⟨k, hk, rfl, hB, hL⟩ := hrel
    by_cases hlt : k + 1 < n
    · have hlt' : decide ((k : Int) + 1 < (n : Int)) = true := by simp; omega
      obtain ⟨b, o, rfl, hbl, hc, hd⟩ := RU.at_' (hr.below hB) (k := k) (by have := hn'.out; omega)
      obtain ⟨b', o', had, _, hc2, hd2⟩ := RU.at_' (hr.below hB) (k := k + 1) (by have := hn'.out; omega)
      obtain ⟨rfl, rfl⟩ : b = b' ∧ o = o' := by simpa using had
      clear had
      have hst := Lib.hid (form_step us (-1) k (by have := hn'.out; omega) (hL.out (by omega)))
      have hv1 := vld_iff.1 (all_at hA.out (k := k) (by have := hn'.out; omega))
      have hv2 := vld_iff.1 (all_at hA.out (k := k + 1) (by have := hn'.out; omega))
      generalize hu : us.getD k (0,0) = u at *
      generalize hv : us.getD (k+1) (0,0) = v at *
      have hv' := Lib.hid hv; clear hu hv hL
      obtain ⟨x, y⟩ := u
      obtain ⟨x2, y2⟩ := v
      dsimp only at hc hd hc2 hd2 hst hv1 hv2
      have q1 := fun y : Ext wr => y.cell hc
      have q2 := fun y : Ext wr => y.cell hd
      have q3 := fun y : Ext wr => y.cell hc2
      have q4 := fun y : Ext wr => y.cell hd2
      have HEC : Hid (∀ z : Ext wr, Calls Tryz.prog 207 #[.agg #[.int .i64 x, .int .i64 y]] z.w fun e w'' => e = .returned (.int .i64 (x + y)) ∧ ∃ t : Ext wr, w'' = t.w) := Lib.hid (fun z => Ext.call (end_any x y _ (by omega) (by omega)))
      by_cases hle : x2 ≤ x + y
      · have hle' : decide (x2 ≤ x + y) = true := by simpa using hle
        have hE : Hid (R = 6) := Lib.hid (by rw [hR2.out, if_neg (by rw [hst.out]; omega)])
        clear hst hR2 hv1 hv2
        go_upto_region 8 with fail
        refine region_ext (by kernel_rfl) (by kernel_rfl) ?_
        repeat (go_big_quiet_step ((go_at_call 207; exact HEC.out _)))
        refine wpQuiet_nil ?_
        rintro w2 ⟨⟨_, hw2⟩, rfl⟩
        go_wp2_with fail
        go_ret
        exact ⟨ret_int hE.out.symm, hB.trans (hw2.mono hB.size)⟩
      · have hle' : decide (x2 ≤ x + y) = false := by simpa using hle
        have hst' : Hid (formOk (-1) us = true ↔ formOk (x2 + y2) (us.drop (k + 1 + 1)) = true) := Lib.hid (by rw [hst.out]; exact ⟨fun h => h.2, fun h => ⟨by omega, h⟩⟩)
        clear hst hv1 hv2
        go_upto_region 8 with fail
        refine region_ext (by kernel_rfl) (by kernel_rfl) ?_
        repeat (go_big_quiet_step ((go_at_call 207; exact HEC.out _)))
        refine wpQuiet_nil ?_
        rintro w2 ⟨⟨_, hw2⟩, rfl⟩
        go_wp2_with fail
        go_roundw
        case rel => exact ⟨k + 1, by omega, by simp, hB.trans (hw2.mono hB.size), Lib.hid (fun _ => by rw [hv'.out]; exact hst'.out)⟩
        case measure => simp [intOf]; omega
    · have hlt' : decide ((k : Int) + 1 < (n : Int)) = false := by simp; omega
      have hE : Hid (R = 0) := Lib.hid (by
        rw [hR2.out, if_pos]
        by_cases h0 : 0 < n
        · rw [hL.out h0, List.drop_of_length_le (by have := hn'.out; omega)]; rfl
        · rw [List.eq_nil_of_length_eq_zero (by have := hn'.out; omega : us.length = 0)]; rfl)
      clear hR2
      go_wp2_with fail
      go_ret
      exact ⟨ret_int hE.out.symm, hB⟩

set_option maxHeartbeats 800000 in
theorem refSpCheck_any (A : Option Addr) (n cap : Nat) (us : List Sp) (w : World) (hn : us.length = n) (hm : n ≤ maxLen) (hr : RU w w.heap.size A us) :
    Calls Tryz.prog 45 #[.slice A n cap] w fun e w' => e = .returned (.int .i64 (chkS us)) ∧ Below w.heap.size w w' := by
  unfold maxLen at hm
  have hn' := Lib.hid hn
  clear hn
  obtain ⟨R, hR0⟩ : ∃ R : Int, chkS us = R := ⟨_, rfl⟩
  rw [hR0]
  have hR := Lib.hid hR0
  clear hR0
  by_cases hlen : 512 < n
  · have hlen' : decide (512 < (n : Int)) = true := by simp; omega
    go_enter Tryz.func45, Tryz.ntmps45
    go_wp2
    go_ret
    exact ⟨ret_int (by rw [← hR.out, chkS, if_pos (by rw [hn'.out]; exact hlen)]), Below.refl _ _⟩
  have hlen' : decide (512 < (n : Int)) = false := by simp; omega
  go_enter Tryz.func45, Tryz.ntmps45
  go_wp2_with fail
  go_loopw [3] (fun i wr => ∃ (k : Int), 0 ≤ k ∧ k ≤ n ∧ i = .int .i64 k ∧ Below w.heap.size w wr ∧ Hid (∀ j : Nat, (j : Int) < k → j < us.length → vld (us.getD j (0,0)) = true)) (fun i _ => n - (intOf i).toNat)
  case atStart => exact ⟨0, by omega, by omega, rfl, Below.refl _ _, Lib.hid (fun j hj => absurd hj (by omega))⟩
  case round =>
    obtain ⟨k, hk0, hk, rfl, hB, hL⟩ := hrel
    by_cases hlt : k < n
    · have hlt' : decide (k < (n : Int)) = true := by simpa using hlt
      obtain ⟨b, o, rfl, _, hc, hd⟩ := RU.at_' (hr.below hB) (k := k.toNat) (by have := hn'.out; omega)
      generalize hu : us.getD k.toNat (0,0) = u at *
      have hu' := Lib.hid hu; clear hu
      obtain ⟨x, y⟩ := u
      dsimp only at hc hd
      by_cases hv : vld (x, y) = true
      · have hv' : (!vld (x, y)) = false := by simp [hv]
        go_wp2_with (go_at_call 113; refine (valid_any _ _ _).mono ?_; rintro e w1 ⟨rfl, hq⟩)
        have hB1 := hB.trans (hq.mono hB.size)
        go_roundw
        case rel =>
          refine ⟨k+1, by omega, by omega, rfl, hB1, Lib.hid (fun j hj hl => ?_)⟩
          by_cases hjk : (j : Int) < k
          · exact hL.out j hjk hl
          · obtain rfl : j = k.toNat := by omega
            rw [hu'.out]; exact hv
        case measure => simp [intOf]; omega
      · have hv' : (!vld (x, y)) = true := by simpa using hv
        have hE : Hid (R = 7) := Lib.hid (by
          have hb := badAt_at us k.toNat (fun j h1 h2 => hL.out j (by omega) h2) (by have := hn'.out; omega) (by rw [hu'.out]; simpa using hv)
          rw [← hR.out, chkS, if_neg (by rw [hn'.out]; exact hlen), if_pos]
          rw [Bool.eq_false_iff]; intro hh
          have := (badAt_all us).2 hh
          have := hn'.out
          omega)
        clear hv
        go_wp2_with (go_at_call 113; refine (valid_any _ _ _).mono ?_; rintro e w1 ⟨rfl, hq⟩)
        go_ret
        exact ⟨ret_int hE.out.symm, hB.trans (hq.mono hB.size)⟩
    · have hlt' : decide (k < (n : Int)) = false := by simp; omega
      have hA : Hid (us.all vld = true) := Lib.hid (by rw [← badAt_all]; exact badAt_end us (fun j h2 => hL.out j (by have := hn'.out; omega) h2))
      have hR2 : Hid (R = if formOk (-1) us = true then 0 else 6) := Lib.hid (by rw [← hR.out, chkS, if_neg (by rw [hn'.out]; exact hlen), if_neg (by rw [hA.out]; decide)])
      clear hL hR
      go_wp2_with fail
      go_loopw [4] (fun i wr => ∃ (k : Nat), (k + 1 ≤ n ∨ n = 0 ∧ k = 0) ∧ i = .int .i64 ((k : Int) + 1) ∧ Below w.heap.size w wr ∧ Hid (0 < n → (formOk (-1) us = true ↔ formOk ((us.getD k (0,0)).1 + (us.getD k (0,0)).2) (us.drop (k+1)) = true))) (fun i _ => n + 1 - (intOf i).toNat)
      case atStart => exact ⟨0, by omega, by simp, hB, Lib.hid (fun h => form_start us (by rw [hn'.out]; exact h) hA.out)⟩
      case round =>
        obtain ⟨k, hk, rfl, hB, hL⟩ := hrel
        by_cases hlt : k + 1 < n
        · have hlt' : decide ((k : Int) + 1 < (n : Int)) = true := by simp; omega
          obtain ⟨b, o, rfl, hbl, hc, hd⟩ := RU.at_' (hr.below hB) (k := k) (by have := hn'.out; omega)
          obtain ⟨b', o', had, _, hc2, hd2⟩ := RU.at_' (hr.below hB) (k := k + 1) (by have := hn'.out; omega)
          obtain ⟨rfl, rfl⟩ : b = b' ∧ o = o' := by simpa using had
          clear had
          have hst := Lib.hid (form_step us (-1) k (by have := hn'.out; omega) (hL.out (by omega)))
          have hv1 := vld_iff.1 (all_at hA.out (k := k) (by have := hn'.out; omega))
          have hv2 := vld_iff.1 (all_at hA.out (k := k + 1) (by have := hn'.out; omega))
          generalize hu : us.getD k (0,0) = u at *
          generalize hv : us.getD (k+1) (0,0) = v at *
          have hv' := Lib.hid hv; clear hu hv hL
          obtain ⟨x, y⟩ := u
          obtain ⟨x2, y2⟩ := v
          dsimp only at hc hd hc2 hd2 hst hv1 hv2
          have q1 := fun y : Ext wr => y.cell hc
          have q2 := fun y : Ext wr => y.cell hd
          have q3 := fun y : Ext wr => y.cell hc2
          have q4 := fun y : Ext wr => y.cell hd2
          by_cases hle : x2 ≤ x + y
          · have hle' : decide (x2 ≤ x + y) = true := by simpa using hle
            have hE : Hid (R = 6) := Lib.hid (by rw [hR2.out, if_neg (by rw [hst.out]; omega)])
            clear hst hR2
            go_upto_region 11 with fail
            refine region_ext (by kernel_rfl) (by kernel_rfl) ?_
            repeat (go_big_quiet_step (fail))
            refine wpQuiet_nil ?_
            rintro w2 ⟨⟨_, hw2⟩, rfl⟩
            go_wp2_with fail
            go_ret
            exact ⟨ret_int hE.out.symm, hB.trans (hw2.mono hB.size)⟩
          · have hle' : decide (x2 ≤ x + y) = false := by simpa using hle
            have hst' : Hid (formOk (-1) us = true ↔ formOk (x2 + y2) (us.drop (k + 1 + 1)) = true) := Lib.hid (by rw [hst.out]; exact ⟨fun h => h.2, fun h => ⟨by omega, h⟩⟩)
            clear hst
            go_upto_region 11 with fail
            refine region_ext (by kernel_rfl) (by kernel_rfl) ?_
            repeat (go_big_quiet_step (fail))
            refine wpQuiet_nil ?_
            rintro w2 ⟨⟨_, hw2⟩, rfl⟩
            go_wp2_with fail
            go_roundw
            case rel => exact ⟨k + 1, by omega, by simp, hB.trans (hw2.mono hB.size), Lib.hid (fun _ => by rw [hv'.out]; exact hst'.out)⟩
            case measure => simp [intOf]; omega
        · have hlt' : decide ((k : Int) + 1 < (n : Int)) = false := by simp; omega
          have hE : Hid (R = 0) := Lib.hid (by
            rw [hR2.out, if_pos]
            by_cases h0 : 0 < n
            · rw [hL.out h0, List.drop_of_length_le (by have := hn'.out; omega)]; rfl
            · rw [List.eq_nil_of_length_eq_zero (by have := hn'.out; omega : us.length = 0)]; rfl)
          clear hR2
          go_wp2_with fail
          go_ret
          exact ⟨ret_int hE.out.symm, hB⟩

/-- what 'ask' and 'asked' answer -/
def askS (s : List Sp) (x : Sp) : Int := if chkS s = 0 then (if vld x = true then 0 else 7) else chkS s
set_option maxRecDepth 100000 in
theorem eq40 (x1 x2 y1 y2 : Int) (w : World) : (Op.equalIn 10000 115 (.agg #[.int .i64 x1, .int .i64 x2]) (.agg #[.int .i64 y1, .int .i64 y2])).run Tryz.prog w = .ok (decide (x1 = y1 ∧ x2 = y2)) w := by
  have u3 := Tryz.underlying3
  have a3 := Tryz.isAgg3
  have z3 := Tryz.sizeOf3
  rw [show (10000 : Nat) = 9999 + 1 from rfl]
  by_cases h1 : x1 = y1 <;> by_cases h2 : x2 = y2 <;> go_simp <;> simp [h1, h2]
set_option maxHeartbeats 400000 in
theorem same_any (A B : Option Addr) (n m cap cap' : Nat) (xs ys : List Sp) (w : World) (hn : xs.length = n) (hm : n ≤ maxLen) (hn2 : ys.length = m) (hm2 : m ≤ maxLen) (hr : RU w w.heap.size A xs) (hs : RU w w.heap.size B ys) :
    Calls Tryz.prog 14 #[.slice A n cap, .slice B m cap'] w fun e w' => e = .returned (.bool (decide (xs = ys))) ∧ Below w.heap.size w w' := by
  unfold maxLen at hm hm2
  have hn' := Lib.hid hn
  have hm' := Lib.hid hn2
  clear hn hn2
  by_cases hnm : n = m
  case neg =>
    have hne : ((n : Int) != m) = true := by rw [bne_iff_ne]; omega
    have H : Hid (decide (xs = ys) = false) := Lib.hid (by rw [decide_eq_false_iff_not]; rintro rfl; exact hnm (hn'.out.symm.trans hm'.out))
    go_enter Tryz.func14, Tryz.ntmps14
    go_wp2
    go_ret
    exact ⟨ret_bool H.out.symm, Below.refl _ _⟩
  case pos =>
    subst hnm
    have hne : ((n : Int) != n) = false := by simp
    go_enter Tryz.func14, Tryz.ntmps14
    go_wp2
    go_loopw [5] (fun i wr => ∃ (k : Int), 0 ≤ k ∧ k ≤ n ∧ i = .int .i64 k ∧ Below w.heap.size w wr ∧ Hid (xs = ys ↔ xs.drop k.toNat = ys.drop k.toNat)) (fun i _ => n - (intOf i).toNat)
    case atStart => exact ⟨0, by omega, by omega, rfl, Below.refl _ _, Lib.hid (by simp)⟩
    case round =>
      obtain ⟨k, hk1, hk, rfl, hB, hL⟩ := hrel
      have hr1 := hr.below hB
      have hs1 := hs.below hB
      by_cases hlt : k < n
      · have hlt' : decide (k < (n : Int)) = true := by simpa using hlt
        obtain ⟨b, o, rfl, _, hc, hd⟩ := RU.at_' hr1 (k := k.toNat) (by have := hn'.out; omega)
        obtain ⟨b2, o2, rfl, _, hc2, hd2⟩ := RU.at_' hs1 (k := k.toNat) (by have := hm'.out; omega)
        have hd1 := Lib.hid (drop_cons (0,0) xs k.toNat (by have := hn'.out; omega))
        have hd2' := Lib.hid (drop_cons (0,0) ys k.toNat (by have := hm'.out; omega))
        have hsucc : Hid ((k+1).toNat = k.toNat + 1) := Lib.hid (by omega)
        generalize xs.getD k.toNat (0,0) = x at *
        generalize ys.getD k.toNat (0,0) = y at *
        obtain ⟨x1, x2⟩ := x
        obtain ⟨y1, y2⟩ := y
        dsimp only at hc hd hc2 hd2
        have hcx := fun y : Ext wr => y.cell hc
        have hcy := fun y : Ext wr => y.cell hc2
        have hdx := fun y : Ext wr => y.cell hd
        have hdy := fun y : Ext wr => y.cell hd2
        have hq := fun (W : World) => eq40 x1 x2 y1 y2 W
        by_cases hxy : x1 = y1 ∧ x2 = y2
        · have hxy' : decide (x1 = y1 ∧ x2 = y2) = true := by simpa using hxy
          have hst : Hid (xs = ys ↔ xs.drop (k+1).toNat = ys.drop (k+1).toNat) := Lib.hid (by rw [hL.out, hd1.out, hd2'.out, hsucc.out]; simp [hxy])
          rw [hxy'] at hq
          clear hxy hxy'
          go_upto_region 6 with fail
          refine region_ext (by kernel_rfl) (by kernel_rfl) ?_
          repeat (go_big_quiet_step (fail))
          refine wpQuiet_nil ?_
          rintro w1 ⟨⟨_, hw1⟩, rfl⟩
          go_wp2_with fail
          go_roundw
          case rel => exact ⟨k+1, by omega, by omega, rfl, hB.trans (hw1.mono hB.size), hst⟩
          case measure => simp [intOf]; omega
        · have hxy' : decide (x1 = y1 ∧ x2 = y2) = false := by simpa using hxy
          have hE : Hid (decide (xs = ys) = false) := Lib.hid (by
            rw [decide_eq_false_iff_not, hL.out, hd1.out, hd2'.out]
            intro h
            injection h with h1 _
            exact hxy (by simpa using h1))
          rw [hxy'] at hq
          clear hxy hxy'
          go_upto_region 6 with fail
          refine region_ext (by kernel_rfl) (by kernel_rfl) ?_
          repeat (go_big_quiet_step (fail))
          refine wpQuiet_nil ?_
          rintro w1 ⟨⟨_, hw1⟩, rfl⟩
          go_wp2_with fail
          go_ret
          exact ⟨ret_bool hE.out.symm, hB.trans (hw1.mono hB.size)⟩
      · have hlt' : decide (k < (n : Int)) = false := by simp; omega
        go_wp2_with fail
        go_ret
        have : decide (xs = ys) = true := by rw [decide_eq_true_eq, hL.out, List.drop_of_length_le (by have := hn'.out; omega), List.drop_of_length_le (by have := hm'.out; omega)]
        exact ⟨ret_bool this.symm, hB⟩

end Go.Proofs.YtpabnbhbcphfiaaGreat
namespace Go.Pol
open Go Go.RowKit

/-- B differs from A at blocks of T alone; it may have more blocks. -/
structure Far (T : Nat → Prop) (A B : World) : Prop where
  os : B.os = A.os
  tape : B.tape = A.tape
  output : B.output = A.output
  size : A.heap.size ≤ B.heap.size
  block : ∀ k, k < A.heap.size → ¬ T k → B.heap[k]? = A.heap[k]?
section
variable {T T' : Nat → Prop} {A B C : World}
theorem Far.refl (T : Nat → Prop) (A : World) : Far T A A := ⟨rfl, rfl, rfl, Nat.le_refl _, fun _ _ _ => rfl⟩
theorem Far.trans (h : Far T A B) (k : Far T B C) : Far T A C :=
  ⟨k.os.trans h.os, k.tape.trans h.tape, k.output.trans h.output, Nat.le_trans h.size k.size, fun i hi hT => (k.block i (Nat.lt_of_lt_of_le hi h.size) hT).trans (h.block i hi hT)⟩
theorem Far.mono (h : Far T A B) (hT : ∀ k, k < A.heap.size → T k → T' k) : Far T' A B := ⟨h.os, h.tape, h.output, h.size, fun k hk hn => h.block k hk (fun ht => hn (hT k hk ht))⟩
/-- the first world's own blocks -/
theorem Far.trans' (h : Far T A B) (k : Far T' B C) (hT : ∀ i, i < A.heap.size → T' i → T i) : Far T A C :=
  ⟨k.os.trans h.os, k.tape.trans h.tape, k.output.trans h.output, Nat.le_trans h.size k.size, fun i hi hn => (k.block i (Nat.lt_of_lt_of_le hi h.size) (fun ht => hn (hT i hi ht))).trans (h.block i hi hn)⟩
theorem Far.of_below (h : Below A.heap.size A B) : Far T A B := ⟨h.os, h.tape, h.output, h.size, fun k hk _ => h.block k hk⟩
theorem Far.below {n : Nat} (h : Far T A B) (hn : n ≤ A.heap.size) (hT : ∀ k, k < n → ¬ T k) : Below n A B := ⟨h.os, h.tape, h.output, h.size, fun k hk => h.block k (by omega) (hT k hk)⟩
theorem Far.alloc (h : Far T A B) (o : Obj) : Far T A (B.alloc o) := h.trans (.of_below ((Below.refl _ _).alloc (Nat.le_refl _) o))
theorem Far.drew (h : Far T A B) : Far T A B.drew := h.trans (.of_below ((Below.refl _ _).drew))
theorem Far.setCell (h : Far T A B) {p : Addr} (hp : p.block < A.heap.size → T p.block) (v : Value) : Far T A (B.setCell p v) := by
  refine ⟨h.os, h.tape, h.output, Nat.le_trans h.size (KeepsWalks.setCell B p v).size, fun k hk hT => (Below.heap_setCell B p v k (fun e => ?_)).trans (h.block k hk hT)⟩
  exact hT (by rw [e]; exact hp (by rw [← e]; exact hk))
theorem Far.putObj (h : Far T A B) {l : Nat} (hl : l < A.heap.size → T l) (o : Obj) : Far T A (B.putObj l o) :=
  ⟨h.os, h.tape, h.output, by rw [World.putObj_size]; exact h.size, fun k hk hT => (World.putObj_heap_other (fun e => hT (by rw [e]; exact hl (by rw [← e]; exact hk)))).trans (h.block k hk hT)⟩
theorem Far.call (h : Far T A B) (hb : Below B.heap.size B C) : Far T A C := h.trans (.of_below hb)
theorem Far.blk {g : Nat} {t : TypeId} {cs : Array Value} (h : Far T A B) (hg : Blk A g t cs) (hT : ¬ T g) : Blk B g t cs := (h.block g hg.lt hT).trans hg
theorem Far.same {l : Nat} {o : Obj} (h : Far T A B) (hl : A.heap[l]? = some o) (hT : ¬ T l) : B.heap[l]? = some o := (h.block l (Array.getElem?_eq_some_iff.1 hl).1 hT).trans hl
theorem Far.cell {p : Addr} {v : Value} (h : Far T A B) (hc : A.cell? p = some v) (hT : ¬ T p.block) : B.cell? p = some v := by
  have hb : p.block < A.heap.size := World.block_lt_of_cell? _ _ hc
  have := h.block p.block hb hT
  simp only [World.cell?] at hc ⊢
  rw [this]; exact hc
theorem Far.frozen {p : Addr} {v : Value} (h : Far T A B) (hc : A.cell? p = some v) (hf : A.frozen? p = false) (hT : ¬ T p.block) : B.frozen? p = false := by
  have hb : p.block < A.heap.size := World.block_lt_of_cell? _ _ hc
  have := h.block p.block hb hT
  simp only [World.frozen?] at hf ⊢
  rw [this]; exact hf
theorem Far.ru {Bn : Nat} {Ad : Option Addr} {us : List (Int × Int)} (h : Far T A B) (hr : RU A Bn Ad us) (hT : ∀ b o, Ad = some ⟨b, o, none⟩ → ¬ T b) : RU B Bn Ad us := fun k hl => by
  obtain ⟨b, o, e, hb, hc, hd⟩ := hr k hl
  exact ⟨b, o, e, hb, h.cell hc (hT b o e), h.cell hd (hT b o e)⟩
theorem Far.ri {Bn : Nat} {Ad : Option Addr} {us : List Int} (h : Far T A B) (hr : RI A Bn Ad us) (hT : ∀ b o, Ad = some ⟨b, o, none⟩ → ¬ T b) : RI B Bn Ad us := fun k hl => by
  obtain ⟨b, o, e, hb, hc⟩ := hr k hl
  exact ⟨b, o, e, hb, h.cell hc (hT b o e)⟩
end

/-- the contract of a function value that is ranged over: it goes through just 'xs' -/
def SeqF {α : Type} (P : Program) (g : Nat) (lb : Array Value) (encs : α → Array Value) (T K : Nat → Prop) (xs : List α) (w : World) : Prop :=
  ∀ (n l : Nat) (J Jx : List α → World → Prop) (W : World), Far (fun k => ¬ K k) w W →
    (∀ pre A B, J pre A → Far T A B → J pre B) → (∀ pre A B, Jx pre A → Far T A B → Jx pre B) →
    (∀ m pre x W1, J pre W1 → pre ++ [x] <+: xs → YieldAt Fence.wide m P l (encs x) W1 fun e W' =>
      (e = .returned (.bool true) ∧ J (pre ++ [x]) W' ∧ Far (fun k => ¬ K k) W1 W') ∨ (e = .returned (.bool false) ∧ Jx (pre ++ [x]) W')) →
    J [] W →
    CallsIn Fence.wide n P g (#[.func (.yield l) #[] #[]] ++ lb) W fun e W' => (∃ v, e = .returned v) ∧ (J xs W' ∨ ∃ pre, pre <+: xs ∧ Jx pre W')

theorem SeqF.later {α : Type} {P : Program} {g : Nat} {lb : Array Value} {encs : α → Array Value} {T K : Nat → Prop} {xs : List α} {w w' : World}
    (h : SeqF P g lb encs T K xs w) (hw : Far (fun k => ¬ K k) w w') : SeqF P g lb encs T K xs w' :=
  fun n l J Jx W hW => h n l J Jx W (hw.trans hW)

/-- how a round's body may be left -/
def fPost {α : Type} (D : Nat) (K : Nat → Prop) (I : List α → World → Prop) (Ix : Code → List α → World → Prop) (xs : List α) (W : World) : Exit → Act → World → Prop
  | .normal, _, W' => Far (fun k => ¬ (K k ∨ k = D ∨ k = D + 1)) W W' ∧ I xs W'
  | .ret, _, W' => Far (fun k => ¬ (k = D ∨ k = D + 1)) W W' ∧ Ix .ret xs W'
  | .exit id, _, W' => Far (fun k => ¬ (k = D ∨ k = D + 1)) W W' ∧ Ix (.exit id) xs W'
  | .goto t, _, W' => Far (fun k => ¬ (k = D ∨ k = D + 1)) W W' ∧ Ix (.goto t) xs W'
  | .panic _, _, _ => False
  | .outgrown, _, _ => False

/-- the mark that the statement leaves among the activation's deferred calls -/
abbrev markOf (D : Nat) : Deferred := { target := .collected D, args := #[] }

theorem rangeF {α : Type} {P : Program} {g : Operand} {ps : Array Tmp} {assign body : Code} {Q : Exit → Act → World → Prop} {a : Act} {w : World}
    {gf : Nat} {lb : Array Value} (hg : a.eval g = .func (.func gf) #[] lb) (eg : ∀ args w, (callFunc gf args).run P w = .ok (.enter gf args) w)
    {encs : α → Array Value} {T K : Nat → Prop} {xs : List α} (hseq : SeqF P gf lb encs T K xs w) (hps : ∀ x, (encs x).size = ps.size)
    (hT : ∀ k, T k → k < w.heap.size) (hK : ∀ k, K k → k < w.heap.size)
    (I : List α → World → Prop) (Ix : Code → List α → World → Prop)
    (hI : ∀ pre A B, I pre A → Far (fun k => T k ∨ k = w.heap.size ∨ k = w.heap.size + 1) A B → I pre B)
    (hIx : ∀ c pre A B, Ix c pre A → Far (fun k => T k ∨ k = w.heap.size ∨ k = w.heap.size + 1) A B → Ix c pre B)
    (h0 : I [] w) (Ax : Nat → α → Act → World → Prop) (hAx : ∀ N x a' A B, Ax N x a' A → Far (fun k => k = w.heap.size + 1) A B → Ax N x a' B)
    (hassign : ∀ (m l : Nat) (x : α) (W : World) (C : Act → World → Prop), w.heap.size + 2 ≤ W.heap.size → (∀ a' W', Far (fun _ => False) W W' → Ax W.heap.size x a' W' → C a' W') →
      assign.wpIn (Fence.wide.inRound l) m P (Exit.then C (fun _ _ _ => False)) { tmps := (ps.zip (encs x)).foldl (fun t (p, v) => t.setIfInBounds p v) a.tmps, defers := [] } W)
    (hbody : ∀ (m l : Nat) (pre : List α) (x : α) (a' : Act) (Wa W : World), w.heap.size + 2 ≤ W.heap.size → I pre W → Ax Wa.heap.size x a' W → pre ++ [x] <+: xs → I pre Wa → Far (fun k => k = w.heap.size + 1) Wa W →
      body.wpIn (Fence.wide.inRound l) m P (fPost w.heap.size K I Ix (pre ++ [x]) W) a' W)
    (hdone : ∀ (W : World), w.heap.size + 2 ≤ W.heap.size → I xs W → W.heap[w.heap.size]? = some (.deferred (some [])) → Q .normal { a with defers := markOf w.heap.size :: a.defers } W)
    (hstop : ∀ (c : Code) (pre : List α) (W : World), w.heap.size + 2 ≤ W.heap.size → pre <+: xs → Ix c pre W → W.heap[w.heap.size]? = some (.deferred (some [])) → c.wp P Q { a with defers := markOf w.heap.size :: a.defers } W) :
    (Code.rangeFunc g ps assign body).wp P Q a w := by
  refine (wpIn_wide (n := 0)).1 (wpIn_rangeFunc fun fn _ => ?_)
  obtain ⟨D, hD⟩ : ∃ D, w.heap.size = D := ⟨_, rfl⟩
  -- the loop's record, in its three states
  obtain ⟨rec, hrec⟩ : ∃ rec : LoopState → Option Code → Loop, rec = fun s p => { state := s, pending := p, fn, tmps := a.tmps, params := ps, assign, body, defers := D } := ⟨_, rfl⟩
  obtain ⟨W1, hW1⟩ : ∃ W1, (w.alloc (.deferred (some []))).alloc (.loop (rec .ready none)) = W1 := ⟨_, rfl⟩
  have hent : (Instr.enterLoop fn a.tmps ps assign body none).run P w = .ok (D + 1, [markOf D]) W1 := by
    rw [← hW1, hrec, ← hD]; exact run_enterLoop_outer _ _ _ _ _
  have hfar : Far (fun _ => False) w W1 := by rw [← hW1]; exact ((Far.refl _ w).alloc _).alloc _
  have hl1 : W1.heap[D + 1]? = some (.loop (rec .ready none)) := by
    rw [← hW1, ← hD]
    have := World.alloc_heap_new (w.alloc (.deferred (some []))) (.loop (rec .ready none))
    rwa [World.size_alloc] at this
  have hd1 : W1.heap[D]? = some (.deferred (some [])) := by
    rw [← hW1, ← hD]; exact (Below.heap_alloc _ _ _ (by simp)).trans (World.alloc_heap_new w _)
  rw [hD] at hT hK hI hIx hAx hassign hbody hdone hstop
  refine ⟨D + 1, [markOf D], W1, { target := .fn (.func gf) lb, args := #[.func (.yield (D + 1)) #[] #[]] }, W1, gf, #[.func (.yield (D + 1)) #[] #[]] ++ lb, W1, hent, ?_, fun _ _ => trivial, ?_, fun h => (by cases h), ?_⟩
  · simp only [resolve, hg]
    simp [go_sem]
  · simp [invoke, go_sem, eg]
  -- what the iterator carries: the loop's invariant, the record, the block for deferred calls
  let J : List α → World → Prop := fun pre W => I pre W ∧ W.heap[D + 1]? = some (.loop (rec .ready none)) ∧ W.heap[D]? = some (.deferred (some []))
  let Jx : List α → World → Prop := fun pre W => ∃ c, Ix c pre W ∧ W.heap[D + 1]? = some (.loop (rec .done (some c))) ∧ W.heap[D]? = some (.deferred (some []))
  have hnT : ∀ k, T k → k ≠ D ∧ k ≠ D + 1 := fun k hk => by have := hT k hk; omega
  have hnK : ∀ k, K k → k ≠ D ∧ k ≠ D + 1 := fun k hk => by have := hK k hk; omega
  refine (hseq _ (D + 1) J Jx W1 (hfar.mono (fun _ _ h => h.elim)) (fun pre A B h hf => ⟨hI pre A B h.1 (hf.mono fun _ _ ht => .inl ht), hf.same h.2.1 (fun h => (hnT _ h).2 rfl), hf.same h.2.2 (fun h => (hnT _ h).1 rfl)⟩)
    (fun pre A B h hf => by
      obtain ⟨c, h1, h2, h3⟩ := h
      exact ⟨c, hIx c pre A B h1 (hf.mono fun _ _ ht => .inl ht), hf.same h2 (fun h => (hnT _ h).2 rfl), hf.same h3 (fun h => (hnT _ h).1 rfl)⟩)
    ?_ ⟨hI [] w W1 h0 (hfar.mono fun _ _ h => h.elim), hl1, hd1⟩).mono ?_
  · -- a round
    rintro m pre x Wa ⟨hi, hl, hd⟩ hpre
    have hlt : D + 1 < Wa.heap.size := (Array.getElem?_eq_some_iff.1 hl).1
    have hy := run_yield (P := P) (args := encs x) hl (by rw [hrec]; exact hps x)
    rw [hrec] at hy
    refine ⟨fn, _, assign, body, hy, roundIn_of_wpIn trivial (hassign m (D + 1) x Wa _ (by omega) fun a' Wb hab hax => ?_)⟩
    have hlb := hab.same hl id
    have hdb := hab.same hd id
    have hib := hI pre Wa Wb hi (hab.mono fun _ _ h => h.elim)
    have hltb : D + 1 < Wb.heap.size := (Array.getElem?_eq_some_iff.1 hlb).1
    refine ⟨_, run_beginRound hlb (by rw [hrec]), ?_⟩
    obtain ⟨Wc, hWc⟩ : ∃ Wc, Wb.putObj (D + 1) (.loop { rec .ready none with state := .busy }) = Wc := ⟨_, rfl⟩
    rw [hWc]
    have hbc : Far (fun k => k = D + 1) Wb Wc := by rw [← hWc]; exact Far.putObj (T := fun k => k = D + 1) (Far.refl _ Wb) (fun _ => rfl) _
    have hlc : Wc.heap[D + 1]? = some (.loop { rec .ready none with state := .busy }) := by rw [← hWc]; exact World.putObj_heap_same hltb
    have hdc : Wc.heap[D]? = some (.deferred (some [])) := hbc.same hdb (by omega)
    have hltc : D + 1 < Wc.heap.size := (Array.getElem?_eq_some_iff.1 hlc).1
    refine wpIn_mono (hbody m (D + 1) pre x a' Wa Wc (by omega) (hI pre Wb Wc hib (hbc.mono fun _ _ h => .inr (.inr h))) (hAx _ x a' Wb Wc hax hbc) hpre hi ((hab.mono fun _ _ h => h.elim : Far (fun k => k = D + 1) Wa Wb).trans hbc)) ?_
    -- what 'endRound' makes of it
    have fin : ∀ (j : Option Code) (Wd : World), Far (fun k => ¬ (k = D ∨ k = D + 1)) Wc Wd →
        (Instr.endRound (D + 1) j).run P Wd = .ok (.bool j.isNone) (Wd.putObj (D + 1) (.loop (rec (if j.isNone then .ready else .done) j))) ∧
        (Wd.putObj (D + 1) (.loop (rec (if j.isNone then .ready else .done) j))).heap[D + 1]? = some (.loop (rec (if j.isNone then .ready else .done) j)) ∧
        (Wd.putObj (D + 1) (.loop (rec (if j.isNone then .ready else .done) j))).heap[D]? = some (.deferred (some [])) := fun j Wd hcd => by
      have hld := hcd.same hlc (fun h => h (.inr rfl))
      have he := run_endRound (P := P) j hld
      rw [hrec] at he ⊢
      exact ⟨he, World.putObj_heap_same (Array.getElem?_eq_some_iff.1 hld).1, (World.putObj_heap_other (by omega)).trans (hcd.same hdc (fun h => h (.inl rfl)))⟩
    have back : ∀ (o : Obj) (Wd : World), Far (fun k => T k ∨ k = D ∨ k = D + 1) Wd (Wd.putObj (D + 1) o) := fun o Wd => (Far.refl _ Wd).putObj (fun _ => .inr (.inr rfl)) o
    intro e a3 Wd hp
    cases e with
    | normal =>
      obtain ⟨hcd, hid⟩ := hp
      obtain ⟨h1, h2, h3⟩ := fin none Wd (hcd.mono fun k _ h h' => h (.inr h'))
      refine ⟨_, _, h1, .inl ⟨rfl, ⟨hI _ _ _ hid (back _ Wd), h2, h3⟩, ?_⟩⟩
      refine (((hab.mono fun _ _ h => h.elim : Far (fun k => ¬ K k) Wa Wb).trans (hbc.mono fun k _ h hk => (hnK k hk).2 h)).trans (hcd.mono fun k _ h hk => h (.inl hk))).putObj (fun _ hk => (hnK _ hk).2 rfl) _
    | ret =>
      obtain ⟨hcd, hid⟩ := hp
      obtain ⟨h1, h2, h3⟩ := fin (some .ret) Wd hcd
      exact ⟨_, _, h1, .inr ⟨rfl, .ret, hIx _ _ _ _ hid (back _ Wd), h2, h3⟩⟩
    | exit id =>
      obtain ⟨hcd, hid⟩ := hp
      obtain ⟨h1, h2, h3⟩ := fin (some (.exit id)) Wd hcd
      exact ⟨_, _, h1, .inr ⟨rfl, .exit id, hIx _ _ _ _ hid (back _ Wd), h2, h3⟩⟩
    | goto t =>
      obtain ⟨hcd, hid⟩ := hp
      obtain ⟨h1, h2, h3⟩ := fin (some (.goto t)) Wd hcd
      exact ⟨_, _, h1, .inr ⟨rfl, .goto t, hIx _ _ _ _ hid (back _ Wd), h2, h3⟩⟩
    | panic ch => exact hp.elim
    | outgrown => exact hp.elim
  · -- behind the iterator
    have back : ∀ (o : Obj) (Wd : World), Far (fun k => T k ∨ k = D ∨ k = D + 1) Wd (Wd.putObj (D + 1) o) := fun o Wd => (Far.refl _ Wd).putObj (fun _ => .inr (.inr rfl)) o
    rintro e W2 ⟨⟨v, rfl⟩, h2⟩
    rcases h2 with ⟨hi, hl, hd⟩ | ⟨pre, hpre, c, hi, hl, hd⟩
    · have he := run_endLoop (P := P) hl (by rw [hrec]; simp)
      rw [hrec] at he
      have hlt : D + 1 < W2.heap.size := (Array.getElem?_eq_some_iff.1 hl).1
      exact ⟨none, _, he, hdone _ (by rw [World.putObj_size]; omega) (hI _ _ _ hi (back _ W2)) ((World.putObj_heap_other (by omega)).trans hd)⟩
    · have he := run_endLoop (P := P) hl (by rw [hrec]; simp)
      rw [hrec] at he
      have hlt : D + 1 < W2.heap.size := (Array.getElem?_eq_some_iff.1 hl).1
      exact ⟨some c, _, he, (wpIn_wide (n := 0)).2 (hstop c pre _ (by rw [World.putObj_size]; omega) hpre (hIx _ _ _ _ hi (back _ W2)) ((World.putObj_heap_other (by omega)).trans hd))⟩

/-- a function whose body holds such a statement is entered -/
theorem calls_of_marks {P : Program} {f : FuncId} {fn : Func} {c : Code} {args : Array Value} {w : World} {R : Ending → World → Prop}
    (hf : P.funcs[f]? = some fn) (hb : fn.body = some c) (h : c.wp P (bodyPostM Fence.wide 0 P fn R) { tmps := args ++ Array.replicate (fn.ntmps - args.size) undef, defers := [] } w) : Calls P f args w R :=
  (callsIn_wide (n := 0)).1 (callsIn_of_wp_marks hf hb trivial (wpIn_wide.2 h))
/-- it returns behind the statement -/
theorem leave_mark {P : Program} {fn : Func} {tmps : Array Value} {w : World} {R : Ending → World → Prop} {D : Nat} {v : Value} (hd : w.heap[D]? = some (.deferred (some [])))
    (hres : (results fn tmps).run P (w.putObj D (.deferred none)) = .ok v (w.putObj D (.deferred none))) (hR : R (.returned v) (w.putObj D (.deferred none))) :
    bodyPostM Fence.wide 0 P fn R .ret { tmps := tmps, defers := [markOf D] } w :=
  ⟨by simp, .inl ⟨_, _, rfl, run_takeDeferred hd, v, hres, hR⟩⟩
/-- it returns ahead of the statement -/
theorem leave_none {P : Program} {fn : Func} {tmps : Array Value} {w : World} {R : Ending → World → Prop} {v : Value}
    (hres : (results fn tmps).run P w = .ok v w) (hR : R (.returned v) w) : bodyPostM Fence.wide 0 P fn R .ret { tmps := tmps, defers := [] } w := ⟨v, hres, hR⟩
theorem wide_fn (k : Nat) : Fence.wide.fn k = True := rfl
theorem wide_depth : Fence.wide.depth = none := rfl
theorem wide_fn' (k l : Nat) : (Fence.wide.inRound l).fn k = True := rfl
theorem wide_depth' (l : Nat) : (Fence.wide.inRound l).depth = none := rfl
end Go.Pol
namespace Go.Proofs.YtpabnbhbcphfiaaGreat
open Go Go.Proofs Go.RowKit Go.Pol
attribute [local go_sem] Oper.semAt_some Go.Pol.wide_fn Go.Pol.wide_depth Go.Pol.wide_fn' Go.Pol.wide_depth'

abbrev spV (x : Sp) : Array Value := #[.agg #[.int .i64 x.1, .int .i64 x.2]]

/-- a slice that the iterator still has before it -/
structure Left (w : World) (N : Nat) (K : Nat → Prop) (B1 B2 : Nat) (P : Option Addr) (m d : Nat) (us : List Sp) : Prop where
  len : us.length = m
  cap : m ≤ d
  max : d ≤ 9223372036854775807
  ru : RU w N P us
  own : us ≠ [] → ∀ b o, P = some ⟨b, o, none⟩ → K b ∧ b ≠ B1 ∧ b ≠ B2
  vl : ∀ x ∈ us, vld x = true
theorem Left.far {T : Nat → Prop} {w w' : World} {N : Nat} {K : Nat → Prop} {B1 B2 : Nat} {P : Option Addr} {m d : Nat} {us : List Sp} (h : Left w N K B1 B2 P m d us) (hf : Far T w w') (hT : ∀ k, K k → k ≠ B1 → k ≠ B2 → ¬ T k) : Left w' N K B1 B2 P m d us :=
  ⟨h.len, h.cap, h.max, by
    by_cases h0 : us = []
    · subst h0; exact RU.nil
    · exact hf.ru h.ru (fun b o e => by have := h.own h0 b o e; exact hT b this.1 this.2.1 this.2.2), h.own, h.vl⟩

end Go.Proofs.YtpabnbhbcphfiaaGreat
namespace Go.Pol
def wrongG (f b ev : Int) : Bool := !(decide (0 ≤ f) && decide (f ≤ 16) && decide (0 ≤ b) && decide (b ≤ 16) && decide (0 ≤ ev) && decide (ev ≤ 1024))
end Go.Pol
namespace Go.Pol
open Go Go.RowKit
def spCells (us : List Sp) : List Value := us.flatMap fun x => [.int .i64 x.1, .int .i64 x.2]
theorem spCells_len (us : List Sp) : (spCells us).length = us.length * 2 := by
  induction us with
  | nil => rfl
  | cons x r ih => simp only [spCells, List.flatMap_cons, List.length_append, List.length_cons, List.length_nil] at ih ⊢; omega
theorem spCells_snoc (us : List Sp) (x : Sp) : spCells (us ++ [x]) = spCells us ++ [.int .i64 x.1, .int .i64 x.2] := by simp [spCells]
theorem spCells_at : ∀ (us : List Sp) (k : Nat), k < us.length → (spCells us)[k * 2]? = some (.int .i64 (us.getD k (0,0)).1) ∧ (spCells us)[k * 2 + 1]? = some (.int .i64 (us.getD k (0,0)).2)
  | [], k, h => by simp at h
  | x :: r, 0, _ => by simp [spCells]
  | x :: r, k + 1, h => by
    have ih := spCells_at r k (by simpa using h)
    have e : spCells (x :: r) = .int .i64 x.1 :: .int .i64 x.2 :: spCells r := by simp [spCells]
    rw [e, show (k + 1) * 2 = k * 2 + 1 + 1 by omega]
    simpa using ih
section
variable {T : Nat → Prop} {w w' : World} {base : Nat} {e : TypeId} {size : Nat} {v : Value} {n : Nat} {xs : List Value} {us : List Sp}
theorem ownsRow_far (h : w.ownsRow base e size v n xs) (hf : Far T w w') (hT : ∀ g, v.ownBlock = some g → ¬ T g) : w'.ownsRow base e size v n xs := by
  refine ⟨h.1, ?_⟩
  rcases h.2 with hn | ⟨g, cap, cur, rfl, hb, hg, rest⟩
  · exact .inl hn
  · exact .inr ⟨g, cap, cur, rfl, hb, hf.same hg (hT g rfl), rest⟩
theorem ownsRow_call (h : w.ownsRow base e size v n xs) (hf : Below w.heap.size w w') : w'.ownsRow base e size v n xs := ownsRow_far (T := fun _ => False) h (.of_below hf) (fun _ _ h => h)
theorem ownsRow_base {base' : Nat} (h : w.ownsRow base e size v n xs) (hb : base' ≤ base) : w.ownsRow base' e size v n xs := by
  refine ⟨h.1, ?_⟩
  rcases h.2 with hn | ⟨g, cap, cur, rfl, hb', rest⟩
  · exact .inl hn
  · exact .inr ⟨g, cap, cur, rfl, by omega, rest⟩
theorem Far.grown {A B C : World} {row : Option Nat} (h : Far T A B) (hg : B.grownBy C row) (hr : ∀ r, row = some r → r < A.heap.size → T r) : Far T A C :=
  ⟨hg.os.trans h.os, hg.tape.trans h.tape, hg.output.trans h.output, Nat.le_trans h.size hg.size, fun k hk hT => (hg.block k (Nat.lt_of_lt_of_le hk h.size) (fun e => hT (hr k e.symm hk))).trans (h.block k hk hT)⟩
/-- what a call of the own made reads as a list -/
theorem own_RU (h : w.ownsRow base e 2 v n (spCells us)) (hn : us.length = n) : ∃ (A : Option Addr) (cap : Nat), v = .slice A n cap ∧ RU w w.heap.size A us ∧ n ≤ cap ∧ cap ≤ maxLen ∧ (∀ b o, A = some ⟨b, o, none⟩ → base ≤ b) ∧ (us = [] ∨ A ≠ none) := by
  have hv := h
  rcases h.2 with ⟨rfl, h0⟩ | ⟨g, cap, cur, rfl, hg, hk, hnc, hcm, _⟩
  · subst h0
    obtain rfl : us = [] := List.eq_nil_of_length_eq_zero hn
    exact ⟨none, 0, rfl, RU.nil, Nat.le_refl _, by unfold maxLen; omega, fun b o e => (by cases e), .inl rfl⟩
  · refine ⟨_, cap, rfl, fun k hk' => ?_, hnc, hcm, fun b o e => by cases e; exact hg, .inr (by simp)⟩
    have h2 := spCells_at us k hk'
    have h0 := hv.cellAt (k * 2) (by omega)
    have h1 := hv.cellAt (k * 2 + 1) (by omega)
    refine ⟨g, 0, rfl, Blk.lt hk, ?_, ?_⟩
    · rw [Nat.zero_add, h0]; exact h2.1
    · rw [Nat.zero_add, h1]; exact h2.2
theorem own_cap {A : Option Addr} {cap m : Nat} (h : w.ownsRow base e size (.slice A n cap) m xs) (hA : A = none) : cap = 0 := by
  rcases h.2 with ⟨h0, _⟩ | ⟨g, cap', cur, h0, _⟩
  · cases h0; rfl
  · cases h0; cases hA
theorem own_nil_iff (h : w.ownsRow base e 2 v n (spCells us)) (hn : us.length = n) : ∃ (A : Option Addr) (cap : Nat), v = .slice A n cap := by
  obtain ⟨A, cap, hv, _⟩ := own_RU h hn
  exact ⟨A, cap, hv⟩
/-- a box is not a slice's own row -/
theorem Blk.not_row {g : Nat} {t : TypeId} {cs : Array Value} (h : Blk w g t cs) (hr : w.ownsRow base e size v n xs) (hte : t ≠ e) : v.ownBlock ≠ some g := by
  rcases hr.2 with ⟨rfl, _⟩ | ⟨g', cap, cur, rfl, _, hgb, _⟩
  · simp [Value.ownBlock]
  · intro e'
    obtain rfl : g' = g := by simpa [Value.ownBlock] using e'
    unfold Blk at h
    rw [h] at hgb
    simp at hgb
    exact hte hgb.2
theorem news_two {g : Nat} {t : TypeId} {a b : Int} (h : Blk w g t #[.int .i64 a, .int .i64 b]) : ∀ (j : Nat) (u : Value), [Value.int .i64 a, Value.int .i64 b][j]? = some u → w.cell? ((⟨g, 0, none⟩ : Addr).add j) = some u := by
  intro j u hu
  rw [addr_add0, Nat.zero_add]
  rw [h.cell]
  simpa using hu
theorem news_one2 {a b : Int} : ∀ u ∈ [Value.int .i64 a, Value.int .i64 b], u.oneCell' = true := by
  intro u hu
  simp only [List.mem_cons, List.not_mem_nil, or_false] at hu
  rcases hu with rfl | rfl <;> rfl
end
/-- the box of a slice of spans, and the row that the slice owns beyond 'base' -/
structure BoxS (w : World) (B : Nat) (tb te : TypeId) (base : Nat) (us : List Sp) : Prop where
  ex : ∃ v, Blk w B tb #[v] ∧ w.ownsRow base te 2 v us.length (spCells us) ∧ (v = .slice none 0 0 ↔ us = [])
theorem BoxS.far {T : Nat → Prop} {w w' : World} {B : Nat} {tb te : TypeId} {base : Nat} {us : List Sp} (h : BoxS w B tb te base us) (hf : Far T w w') (hB : ¬ T B) (hT : ∀ g, base ≤ g → ¬ T g) : BoxS w' B tb te base us := by
  obtain ⟨v, h1, h2, h3⟩ := h.ex
  exact ⟨v, hf.blk h1 hB, ownsRow_far h2 hf (fun g hg => hT g (h2.lt g hg).1), h3⟩
/-- 'out = append(out, x)': what lies behind it -/
theorem BoxS.appended {w w1 : World} {B : Nat} {tb te : TypeId} {base : Nat} {us us' : List Sp} {v v' : Value} {tmp : Obj} {m : Nat} (hv : Blk w B tb #[v]) (hte : tb ≠ te) (hrow : w.ownsRow base te 2 v us.length (spCells us))
    (hown : w1.ownsRow base te 2 v' m (spCells us')) (hm : m = us'.length) (hne : us' ≠ []) (hg : (w.alloc tmp).grownBy w1 v.ownBlock) :
    Blk w1 B tb #[v] ∧ BoxS (w1.setCell ⟨B, 0, none⟩ v') B tb te base us' ∧ ∀ (T : Nat → Prop), T B → (∀ g, v.ownBlock = some g → T g) → Far T w (w1.setCell ⟨B, 0, none⟩ v') := by
  subst hm
  have hv1 : Blk w1 B tb #[v] := (hv.alloc tmp).grown hg (fun e => hv.not_row hrow hte e.symm)
  refine ⟨hv1, ⟨v', by simpa using hv1.set_ 0 v', ?_, ?_⟩, fun T hTB hT => ?_⟩
  · have hfar : Far (fun k => k = B) w1 (w1.setCell ⟨B, 0, none⟩ v') := Far.setCell (T := fun k => k = B) (p := ⟨B, 0, none⟩) (Far.refl _ _) (fun _ => rfl) v'
    exact ownsRow_far hown hfar (fun g hg' e => by subst e; exact hv1.not_row hown hte hg')
  · constructor
    · intro e
      subst e
      rcases hown.2 with ⟨_, h0⟩ | ⟨g, cap, cur, e, _⟩
      · exact List.eq_nil_of_length_eq_zero h0
      · cases e
    · intro e; exact absurd e hne
  · have h1 : Far T w (w.alloc tmp) := (Far.refl T w).alloc tmp
    refine (h1.grown hg (fun r e hr => ?_)).setCell (p := ⟨B, 0, none⟩) (fun _ => hTB) v'
    exact hT r e

/-- two variables in boxes are stored into -/
theorem two_set {W : World} {p q : Nat} {t t' : TypeId} {x y : Value} (hpq : p ≠ q) (k1 : Blk W p t #[x]) (k2 : Blk W q t' #[y]) (a b : Value) :
    Blk ((W.setCell ⟨p, 0, none⟩ a).setCell ⟨q, 0, none⟩ b) p t #[a] ∧ Blk ((W.setCell ⟨p, 0, none⟩ a).setCell ⟨q, 0, none⟩ b) q t' #[b] ∧
      Far (fun k => k = p ∨ k = q) W ((W.setCell ⟨p, 0, none⟩ a).setCell ⟨q, 0, none⟩ b) := by
  have h1 : Blk (W.setCell ⟨p, 0, none⟩ a) p t #[a] := k1.set_ 0 a
  have h2 : Blk (W.setCell ⟨p, 0, none⟩ a) q t' #[y] := k2.far (p := ⟨p, 0, none⟩) (Ne.symm hpq) a
  exact ⟨h1.far (p := ⟨q, 0, none⟩) hpq b, h2.set_ 0 b, Far.setCell (T := fun k => k = p ∨ k = q) (p := ⟨q, 0, none⟩) (Far.setCell (T := fun k => k = p ∨ k = q) (p := ⟨p, 0, none⟩) (Far.refl _ _) (fun _ => .inl rfl) a) (fun _ => .inr rfl) b⟩
/-- the values that a loop over spans is handed -/
abbrev spA (x : Sp) : Array Value := #[.agg #[.int .i64 x.1, .int .i64 x.2]]
end Go.Pol
namespace Go.Proofs.YtpabnbhbcphfiaaGreat
open Go Go.Proofs Go.RowKit Go.Pol Go.Shelf
attribute [local go_sem] Oper.semAt_some Go.Pol.wide_fn Go.Pol.wide_depth Go.Pol.wide_fn' Go.Pol.wide_depth'

theorem infoSp : (Tryz.prog.info? 115).map (fun i => (i.zero, i.size, i.bytes)) = some (some (.agg #[.int .i64 0, .int .i64 0]), 2, 16) := by kernel_rfl
theorem infoSp_parts : ∃ i0, Tryz.prog.info? 115 = some i0 ∧ i0.zero = some (.agg #[.int .i64 0, .int .i64 0]) ∧ i0.size = 2 ∧ i0.bytes = 16 := by
  obtain ⟨i0, h⟩ := info_parts infoSp
  exact ⟨i0, h⟩

/-- what hands back a slice of spans and an error -/
def SpansR (w : World) (us : List Sp) (er : Int) (e : Ending) (w' : World) : Prop :=
  ∃ (A : Option Addr) (cap : Nat), e = .returned (.tuple #[.slice A us.length cap, .int .i64 er]) ∧ RU w' w'.heap.size A us ∧ us.length ≤ cap ∧ cap ≤ maxLen ∧ (∀ b o, A = some ⟨b, o, none⟩ → w.heap.size ≤ b) ∧ Below w.heap.size w w'

end Go.Proofs.YtpabnbhbcphfiaaGreat
namespace Go.Pol
open Go Go.RowKit
section
variable {P : Program} {ops : Array Oper} {Q : Exit → Act → World → Prop} {md : Region.Mode} {S : World → Prop} {tl : List Nat}
def wpAnyT (P : Program) (md : Region.Mode) (ops : Array Oper) (Q : Exit → Act → World → Prop) (S : World → Prop) (tl : List Nat) : Nat → Array Bool → Act → World → Prop
  | 0, listed, a, w => Region.ready md ops listed = [] ∧ Q .normal a w
  | fuel + 1, listed, a, w =>
    (Region.ready md ops listed = [] → Q .normal a w) ∧
    ∀ i ∈ Region.ready md ops listed, wpOp P ops Q i (fun a' w' => (tl.contains i = false → S w') ∧ wpAnyT P md ops Q S tl fuel (listed.setIfInBounds i true) a' w') a w
theorem wpAny_of_T : ∀ (fuel : Nat) (listed : Array Bool) (a : Act) (w : World), wpAnyT P md ops Q S tl fuel listed a w → wpAny P md ops Q fuel listed a w
  | 0, _, _, _, h => h
  | fuel + 1, _, _, _, h => ⟨h.1, fun i hi => wpOp_mono (fun a' w' h' => wpAny_of_T fuel _ a' w' h'.2) (h.2 i hi)⟩
/-- the operations below number n that wait for number i, at first or at second hand -/
def waitB (md : Region.Mode) (ops : Array Oper) (i n : Nat) (l : List Nat) : Bool :=
  match ops[n]? with
  | some o => o.after.any (fun e => Region.binds md e && (e.on == i || l.contains e.on))
  | none => false
def waitsL (md : Region.Mode) (ops : Array Oper) (i : Nat) : Nat → List Nat
  | 0 => []
  | n + 1 => if waitB md ops i n (waitsL md ops i n) = true then n :: waitsL md ops i n else waitsL md ops i n
def Closed (md : Region.Mode) (ops : Array Oper) (listed : Array Bool) : Prop :=
  ∀ j oj, ops[j]? = some oj → listed.getD j false = true → ∀ e ∈ oj.after, Region.binds md e = true → listed.getD e.on false = true
def closedB (md : Region.Mode) (ops : Array Oper) (listed : Array Bool) : Bool :=
  (List.range ops.size).all fun j => !listed.getD j false || (match ops[j]? with | some oj => oj.after.all (fun e => !Region.binds md e || listed.getD e.on false) | none => true)
theorem closed_of {listed : Array Bool} (h : closedB md ops listed = true) : Closed md ops listed := by
  intro j oj hj hl e he hb
  have hjs := (Array.getElem?_eq_some_iff.1 hj).1
  have h1 := List.all_eq_true.1 h j (List.mem_range.2 hjs)
  simp only [hl, Bool.not_true, Bool.false_or, hj] at h1
  have h2 := Array.all_eq_true'.1 h1 e he
  simpa [hb] using h2
theorem Closed.set {listed : Array Bool} {i : Nat} (h : Closed md ops listed) (hi : i ∈ Region.ready md ops listed) : Closed md ops (listed.setIfInBounds i true) := by
  obtain ⟨_, oi, hoi, hall⟩ := mem_ready.1 hi
  intro j oj hj hl e he hb
  by_cases hij : i = j
  · subst hij
    have : oj = oi := Option.some.inj (hj.symm.trans hoi)
    subst this
    exact getD_set_true (hall e he hb)
  · rw [getD_set_ne false hij] at hl
    exact getD_set_true (h j oj hj hl e he hb)
theorem waits_not {listed : Array Bool} {i : Nat} (hc : Closed md ops listed) (hun : listed.getD i false = false) : ∀ n, ∀ t ∈ waitsL md ops i n, listed.getD t false = false ∧ t ∉ Region.ready md ops listed
  | 0, t, ht => by simp [waitsL] at ht
  | n + 1, t, ht => by
    unfold waitsL at ht
    split at ht
    · rename_i hw
      rcases List.mem_cons.1 ht with e | e
      · subst e
        unfold waitB at hw
        split at hw
        · rename_i o ho
          obtain ⟨e, he, hb⟩ := Array.any_eq_true'.1 hw
          simp only [Bool.and_eq_true, Bool.or_eq_true, beq_iff_eq] at hb
          have hno : listed.getD e.on false = false := by
            rcases hb.2 with h | h
            · rw [h]; exact hun
            · exact (waits_not hc hun t e.on (by simpa using h)).1
          refine ⟨?_, fun hr => ?_⟩
          · cases hl : listed.getD t false with
            | false => rfl
            | true => have := hc t o ho hl e he hb.1; rw [hno] at this; cases this
          · obtain ⟨_, o', ho', hall⟩ := mem_ready.1 hr
            have : o' = o := Option.some.inj (ho'.symm.trans ho)
            subst this
            have := hall e he hb.1
            rw [hno] at this; cases this
        · cases hw
      · exact waits_not hc hun n t e
    · exact waits_not hc hun n t ht
theorem wpAnyT_first {i : Nat} {oi : Oper} {v : Value} (hi : ops[i]? = some oi) (hsel : ∀ (j : Nat) (o : Oper) cs b, ops[j]? = some o → o.op ≠ .select cs b)
    (hQ : ∀ c a w, Q (.panic c) (a.put oi.dst v) w → Q (.panic c) a w) (htl : ∀ t ∈ tl, t ∈ waitsL md ops i ops.size) :
    ∀ (fuel : Nat) (listed : Array Bool) (a : Act) (w : World), Closed md ops listed →
      (∀ j oj, ops[j]? = some oj → j ≠ i → listed.getD j true = false → (∀ e ∈ oj.after, Region.binds md e = true → e.on ≠ i) → oi.apart ops oj = true) →
      i ∈ Region.ready md ops listed → YieldsIf P ops S oi v a → S w →
      wpAnyT P md ops Q S tl fuel (listed.setIfInBounds i true) (a.put oi.dst v) w → wpAnyT P md ops Q S tl (fuel + 1) listed a w := by
  intro fuel
  induction fuel with
  | zero =>
    intro listed a w hcl _ hr hy hS H
    refine ⟨fun h => (by rw [h] at hr; cases hr), fun j hj => ?_⟩
    by_cases hji : j = i
    · subst hji; exact hy.wpOp hi hS ⟨fun _ => hS, H⟩
    · have := ready_mono hj hji
      rw [H.1] at this
      cases this
  | succ fuel ih =>
    intro listed a w hcl hfree hr hy hS H
    refine ⟨fun h => (by rw [h] at hr; cases hr), fun j hj => ?_⟩
    by_cases hji : j = i
    · subst hji; exact hy.wpOp hi hS ⟨fun _ => hS, H⟩
    · have h1 := H.2 j (ready_mono hj hji)
      obtain ⟨hjun, oj, hoj, hall⟩ := mem_ready.1 hj
      have hun : listed.getD i false = false := getD_both (mem_ready.1 hr).1
      have hntl : tl.contains j = false := by
        cases h : tl.contains j with
        | false => rfl
        | true => exact absurd hj (waits_not hcl hun _ j (htl j (by simpa using h))).2
      have hnot : ∀ e ∈ oj.after, Region.binds md e = true → e.on ≠ i := fun e he hb heq => by
        have h1 := hall e he hb
        rw [heq, hun] at h1
        cases h1
      have h2 := wpOp_putIf hoj (hfree j oj hoj hji hjun hnot) (fun cs b => hsel i oi cs b hi) (fun cs b => hsel j oj cs b hoj) hQ hy h1
      have hfree' : ∀ k ok, ops[k]? = some ok → k ≠ i → (listed.setIfInBounds j true).getD k true = false →
          (∀ e ∈ ok.after, Region.binds md e = true → e.on ≠ i) → oi.apart ops ok = true := fun k ok hk hki hun hno => by
        refine hfree k ok hk hki ?_ hno
        by_cases hjk : j = k
        · subst hjk; exact hjun
        · rw [getD_set_ne true hjk] at hun; exact hun
      refine wpOp_mono (fun a' w' h3 => ⟨h3.2.1, ih (listed.setIfInBounds j true) a' w' (hcl.set hj) hfree' (ready_mono hr (Ne.symm hji)) h3.1 (h3.2.1 hntl) ?_⟩) h2
      rw [Array.setIfInBounds_comm _ _ hji]
      exact h3.2.2
/-- number 'i' first -/
theorem wpAnyT_take {i : Nat} {oi : Oper} {v : Value} {fuel : Nat} {listed : Array Bool} {a : Act} {w : World} (hi : ops[i]? = some oi)
    (hB : (Region.noSelect ops && Region.free md ops listed i && (Region.ready md ops listed).contains i && closedB md ops listed && tl.all (fun t => (waitsL md ops i ops.size).contains t)) = true)
    (hQ : ∀ c a w, Q (.panic c) (a.put oi.dst v) w → Q (.panic c) a w) (hy : YieldsIf P ops S oi v a) (hS : S w)
    (h : wpAnyT P md ops Q S tl fuel (listed.setIfInBounds i true) (a.put oi.dst v) w) : wpAnyT P md ops Q S tl (fuel + 1) listed a w := by
  simp only [Bool.and_eq_true] at hB
  obtain ⟨⟨⟨⟨h1, h2⟩, h3⟩, h4⟩, h5⟩ := hB
  exact wpAnyT_first hi (Region.noSelect_spec h1) hQ (fun t ht => by simpa using List.all_eq_true.1 h5 t ht) fuel listed a w (closed_of h4) (Region.free_spec hi h2) (by simpa using h3) hy hS h
def AllReadyT (P : Program) (md : Region.Mode) (ops : Array Oper) (Q : Exit → Act → World → Prop) (S : World → Prop) (tl : List Nat) (fuel : Nat) (listed : Array Bool) (a : Act) (w : World) (rs : List Nat) : Prop :=
  ∀ i ∈ rs, wpOp P ops Q i (fun a' w' => (tl.contains i = false → S w') ∧ wpAnyT P md ops Q S tl fuel (listed.setIfInBounds i true) a' w') a w
theorem AllReadyT.nil {fuel : Nat} {listed : Array Bool} {a : Act} {w : World} : AllReadyT P md ops Q S tl fuel listed a w [] := fun _ h => by cases h
theorem AllReadyT.cons {fuel : Nat} {listed : Array Bool} {a : Act} {w : World} {i : Nat} {o : Oper} {rs : List Nat} (ho : ops[i]? = some o)
    (h : ∀ K' : Act → World → Prop, Hid (∀ a w, (tl.contains i = false → S w) → ((tl.contains i = false → S w) → wpAnyT P md ops Q S tl fuel (listed.setIfInBounds i true) a w) → K' a w) → if Region.wanted o (yielded ops a.tmps) = true then Oper.wp P o a w K' Q else K' (a.put o.dst undef) w)
    (hs : AllReadyT P md ops Q S tl fuel listed a w rs) : AllReadyT P md ops Q S tl fuel listed a w (i :: rs) := fun j hj => by
  rcases List.mem_cons.1 hj with rfl | hj
  · exact wpOp_step ho (fun K' hK => h K' (fun a w hS hW => hK a w ⟨hS, hW hS⟩))
  · exact hs j hj
theorem wpAnyT_ready {rs : List Nat} {fuel : Nat} {listed : Array Bool} {a : Act} {w : World} (hr : Region.ready md ops listed = rs) (hne : rs ≠ [])
    (h : AllReadyT P md ops Q S tl fuel listed a w rs) : wpAnyT P md ops Q S tl (fuel + 1) listed a w :=
  ⟨fun h0 => absurd (hr ▸ h0) hne, hr ▸ h⟩
theorem wpAnyT_done {listed : Array Bool} {a : Act} {w : World} (hr : Region.ready md ops listed = []) (h : Q .normal a w) : ∀ fuel, wpAnyT P md ops Q S tl fuel listed a w
  | 0 => ⟨hr, h⟩
  | _ + 1 => ⟨fun _ => h, by rw [hr]; simp⟩
theorem wp_region_T {id : Nat} {a : Act} {w : World} (S : World → Prop) (tl : List Nat) (hm : P.follows .mixedOrders = true) (h : wpAnyT P .any ops Q S tl ops.size (Array.replicate ops.size false) a w.drew) : (Code.region id ops true).wp P Q a w :=
  wp_region_any hm (wpAny_of_T _ _ _ _ h)
end
end Go.Pol
namespace Go.Pol
open Go Go.RowKit
/-- a walk that cannot panic -/
def noPanic (Q : Exit → Act → World → Prop) (e : Exit) (a : Act) (w : World) : Prop := match e with | .panic _ => False | e => Q e a w
theorem noPanic_normal {Q : Exit → Act → World → Prop} {a : Act} {w : World} (h : Q .normal a w) : noPanic Q .normal a w := h
theorem wp_noPanic {P : Program} {c : Code} {Q : Exit → Act → World → Prop} {a : Act} {w : World} (h : c.wp P (noPanic Q) a w) : c.wp P Q a w :=
  (wpIn_wide (n := 0)).1 (wpIn_mono (wpIn_wide.2 h) fun e a w hq => by
    cases e with
    | panic c => exact hq.elim
    | _ => exact hq)
/-- what the region behind the loop of 'gaps' reads -/
def GapS (s : Nat) (p q nx : Int) (v : Value) (w : Go.World) : Prop :=
  w.cell? ⟨s, 0, none⟩ = some (.int .i64 p) ∧ w.cell? ⟨s, 1, none⟩ = some (.int .i64 q) ∧ w.cell? ⟨s + 2, 0, none⟩ = some (.int .i64 nx) ∧ w.cell? ⟨s + 1, 0, none⟩ = some v
theorem GapS.later {s : Nat} {p q nx : Int} {v : Value} {w w' : Go.World} {B : Nat} (h : GapS s p q nx v w) (hb : Below B w w') (hB : s + 2 < B) : GapS s p q nx v w' :=
  ⟨(hb.cell (p := ⟨s, 0, none⟩) (by show s < B; omega)).trans h.1, (hb.cell (p := ⟨s, 1, none⟩) (by show s < B; omega)).trans h.2.1, (hb.cell (p := ⟨s + 2, 0, none⟩) hB).trans h.2.2.1, (hb.cell (p := ⟨s + 1, 0, none⟩) (by show s + 1 < B; omega)).trans h.2.2.2⟩
end Go.Pol
namespace Go.Proofs.YtpabnbhbcphfiaaGreat
open Go Go.Proofs Go.RowKit Go.Pol Go.Shelf
attribute [local go_sem] Oper.semAt_some Go.Pol.wide_fn Go.Pol.wide_depth Go.Pol.wide_fn' Go.Pol.wide_depth'

/-- what hands back a slice of spans of its own and an error -/
def SpansOwn (w : World) (us : List Sp) (er : Int) (e : Ending) (w' : World) : Prop :=
  ∃ (A : Option Addr) (cap : Nat), e = .returned (.tuple #[.slice A us.length cap, .int .i64 er]) ∧ RU w' w'.heap.size A us ∧ us.length ≤ cap ∧ cap ≤ maxLen ∧ (∀ b o, A = some ⟨b, o, none⟩ → w.heap.size ≤ b) ∧ Below w.heap.size w w' ∧ (A = none → cap = 0)
end Go.Proofs.YtpabnbhbcphfiaaGreat
namespace Go.Pol
open Go

def sumS (l : List Sp) : Int := (l.map (·.2)).sum
def pagesOf (l : List Sp) : List Int := l.flatMap fun x => (List.range x.2.toNat).map fun (k : Nat) => x.1 + (k : Int)
end Go.Pol
namespace Go.Pol
def badHit (a m : Int) : Prop := a < 0 ∨ 65536 < a ∨ m < 1 ∨ 65536 - a < m
instance badHitDec (a m : Int) : Decidable (badHit a m) := by unfold badHit; infer_instance
end Go.Pol
namespace Go.Pol
def badLeast (u f b ev : Int) : Prop := u < 1 ∨ 1024 < u ∨ wrongG f b ev = true
instance badLeastDec (u f b ev : Int) : Decidable (badLeast u f b ev) := by unfold badLeast; infer_instance
theorem tab_size : Lib.len8tab.size = 256 := by decide +kernel
theorem tab_fin : ∀ i : Fin 256, ((Lib.len8tab[i.val]?).map UInt8.toNat).getD 0 = Lib.bitLen i.val := by decide +kernel
theorem tab_get (i : Nat) (h : i < Lib.len8tab.size) : (Lib.len8tab[i]'h).toNat = Lib.bitLen i := by
  have h2 : i < 256 := by rw [← tab_size]; exact h
  have := tab_fin ⟨i, h2⟩
  simpa [getElem?_pos Lib.len8tab i h] using this
end Go.Pol
namespace Go.Proofs.YtpabnbhbcphfiaaGreat
open Go Go.Proofs Go.RowKit Go.Pol

set_option maxHeartbeats 4000000 in
set_option maxRecDepth 100000 in
theorem len64_any (x : Int) (w : World) (h0 : 0 ≤ x) (h1 : x ≤ 4000) :
    Calls Tryz.prog 182 #[.int .u64 x] w fun e w' => e = .returned (.int .i64 (Lib.bitLen x.toNat : Nat)) ∧ w = w' := by
  have q1 : decide (4294967296 ≤ x) = false := by simp; omega
  have q2 : decide (65536 ≤ x) = false := by simp; omega
  obtain ⟨L, hL⟩ : ∃ L : Int, ((Lib.bitLen x.toNat : Nat) : Int) = L := ⟨_, rfl⟩
  rw [hL]
  have hL' := Lib.hid hL
  clear hL
  by_cases hx : 256 ≤ x
  · have q3 : decide (256 ≤ x) = true := by simpa using hx
    have hsz : (x / 256).toNat < Lib.len8tab.size := by rw [tab_size]; omega
    have hb := Lib.bitLen_le8' (x / 256) (by omega) (by omega)
    have hs := Lib.hid (Lib.bitLen_shift8 x.toNat (by omega) (by omega))
    have ht := Lib.hid (show (x / 256).toNat = x.toNat / 256 by omega)
    have hg := Lib.hid (tab_get (x / 256).toNat hsz)
    go_enter Tryz.func182, Tryz.ntmps182
    go_wp2
    go_ret
    simp only [Array.getD, List.size_toArray, List.length_cons, List.length_nil]
    refine ⟨?_, by first | trivial | rfl⟩
    simp
    rw [hg.out, ← hL'.out, hs.out, ← ht.out]
    simp only [wrap64]
    omega
  · have q3 : decide (256 ≤ x) = false := by simpa using hx
    have hsz : x.toNat < Lib.len8tab.size := by rw [tab_size]; omega
    have hb := Lib.bitLen_le8' x (by omega) (by omega)
    have hg := Lib.hid (tab_get x.toNat hsz)
    go_enter Tryz.func182, Tryz.ntmps182
    go_wp2
    go_ret
    refine ⟨?_, by first | trivial | rfl⟩
    simp
    rw [hg.out, ← hL'.out]
    simp only [wrap64]
    omega

theorem len_any (x : Int) (w : World) (h0 : 0 ≤ x) (h1 : x ≤ 4000) :
    Calls Tryz.prog 124 #[.int .u64 x] w fun e w' => e = .returned (.int .i64 (Lib.bitLen x.toNat : Nat)) ∧ w = w' := by
  have HL := Lib.hid (fun W => len64_any x W h0 h1)
  generalize (Lib.bitLen x.toNat : Nat) = L at *
  go_enter Tryz.func124, Tryz.ntmps124
  go_wp2_with (go_at_call 182; refine (HL.out _).mono ?_; rintro e w' ⟨rfl, rfl⟩)
  go_ret
  exact ⟨rfl, rfl⟩

end Go.Proofs.YtpabnbhbcphfiaaGreat
namespace Go.Pol
open Go Go.RowKit
theorem RU.on {w w' : World} {A : Option Addr} {us : List Sp} (h : RU w w.heap.size A us) (hb : Below w.heap.size w w') : RU w' w'.heap.size A us := (h.below hb).more hb.size
end Go.Pol
namespace Go.Proofs.YtpabnbhbcphfiaaGreat
open Go Go.Proofs Go.RowKit Go.Pol
theorem sameT_any (A B : Option Addr) (n cap cap' : Nat) (xs ys : List Sp) (w : World) (hn : xs.length = n) (hm : n ≤ maxLen) (he : ys = xs) (hr : RU w w.heap.size A xs) (hs : RU w w.heap.size B ys) :
    Calls Tryz.prog 14 #[.slice A n cap, .slice B n cap'] w fun e w' => e = .returned (.bool true) ∧ Below w.heap.size w w' := by
  have h := same_any A B n n cap cap' xs ys w hn hm (by rw [he]; exact hn) hm hr hs
  rw [decide_eq_true he.symm] at h
  exact h
end Go.Proofs.YtpabnbhbcphfiaaGreat
namespace Go.Proofs.YtpabnbhbcphfiaaGreat
open Go Go.Proofs Go.RowKit Go.Pol

theorem ru_lt {w : World} {B : Nat} {A : Option Addr} {us : List Sp} (h : RU w B A us) (h0 : us ≠ []) {b o : Nat} (e : A = some ⟨b, o, none⟩) : b < B := by
  obtain ⟨b', o', e', hb, _⟩ := RU.at_' h (k := 0) (by cases us with | nil => exact absurd rfl h0 | cons => simp)
  rw [e] at e'
  cases e'
  exact hb

end Go.Proofs.YtpabnbhbcphfiaaGreat
namespace Go.Pol
open Go Go.RowKit
/-- an array of marks reads as a function -/
structure MarksAre (cs : Array Value) (f : Nat → Bool) : Prop where
  size : cs.size = 1024
  at_ : ∀ k, k < 1024 → cs[k]? = some (.bool (f k))
theorem form_len2 : ∀ (s : List Sp) (e : Int) (m : Int), (∀ x ∈ s, 1 ≤ x.2 ∧ x.1 + x.2 ≤ m) → formOk e s = true → e ≤ m → (s.length : Int) ≤ m - e
  | [], e, m, _, _, h => by simp; omega
  | x :: r, e, m, hw, hf, _ => by
    have hf' := formOk_cons.1 hf
    have hx := hw x (by simp)
    have := form_len2 r (x.1 + x.2) m (fun y hy => hw y (by simp [hy])) hf'.2 hx.2
    simp only [List.length_cons]
    omega
theorem spCells_set (r : List Sp) (x : Sp) (y : Int) : (spCells (r ++ [x])).set (r.length * 2 + 1) (.int .i64 y) = spCells (r ++ [(x.1, y)]) := by
  rw [spCells_snoc, spCells_snoc]
  have : r.length * 2 + 1 = (spCells r).length + 1 := by rw [spCells_len]
  rw [this, List.set_append_right _ _ (by omega)]
  simp
end Go.Pol
namespace Go.Proofs.YtpabnbhbcphfiaaGreat
open Go Go.Proofs Go.RowKit Go.Pol

/-- what hands back a slice of spans -/
def SpansO (w : World) (us : List Sp) (e : Ending) (w' : World) : Prop :=
  ∃ (A : Option Addr) (cap : Nat), e = .returned (.slice A us.length cap) ∧ RU w' w'.heap.size A us ∧ us.length ≤ cap ∧ cap ≤ maxLen ∧ (∀ b o, A = some ⟨b, o, none⟩ → w.heap.size ≤ b) ∧ Below w.heap.size w w'

set_option maxRecDepth 100000 in
set_option maxHeartbeats 1600000 in
theorem refSet_any (cs : Array Value) (f : Nat → Bool) (w : World) (hm : MarksAre cs f) :
    Calls Tryz.prog 101 #[.agg cs] w (SpansO w (setA f)) := by
  obtain ⟨i0, hi, hz0, hz1, hz2⟩ := infoSp_parts
  have hb0 := (Below.refl w.heap.size w).alloc (Nat.le_refl _) (.cells cs 186)
  have kM := Blk.new w 186 cs
  have hcs := Lib.hid hm.at_
  have hcz := hm.size
  have hok := Lib.hid (fun p => setF_ok f p)
  have hA : Hid (setA f = setF f 1024) := Lib.hid rfl
  obtain ⟨SA, hSA⟩ : ∃ S, setA f = S := ⟨_, rfl⟩
  rw [hSA]
  have hSA' := Lib.hid hSA
  clear hSA hm
  go_enter Tryz.func101, Tryz.ntmps101
  go_wp2_with fail
  go_loopw [3, 4] (fun v i wr => ∃ k : Nat, k ≤ 1024 ∧ i = .int .i64 k ∧ wr.ownsRow (w.heap.size + 1) 115 2 v (setF f k).length (spCells (setF f k)) ∧ Blk wr w.heap.size 186 cs ∧ Below w.heap.size w wr) (fun _ i _ => 1024 - (intOf i).toNat)
  case atStart => exact ⟨0, by omega, rfl, World.ownsRow_nil _ _ _ _, kM, hb0⟩
  case round =>
    obtain ⟨k, hk, rfl, hrow, kW, hB⟩ := hrel
    have hBs := hB.size
    have hwl := kW.lt
    by_cases hlt : k < 1024
    · have hlt' : decide ((k : Int) < 1024) = true := by simp; omega
      have hck : wr.cell? ⟨w.heap.size, k, none⟩ = some (.bool (f k)) := by rw [kW.cell]; exact hcs.out k hlt
      have hstep := Lib.hid (show setF f (k + 1) = _ from rfl)
      have hl512 : (setF f k).length ≤ 1024 := by
        have := (hok.out k)
        have h := form_len2 (setF f k) (-1) k (fun x hx => ⟨(this.wid x hx).2.1, (this.wid x hx).2.2⟩) this.form (by omega)
        omega
      cases hfk : f k with
      | false =>
        rw [hfk] at hck
        have hS : Hid (setF f (k + 1) = setF f k) := Lib.hid (by rw [setF, if_neg (by simp [hfk])])
        go_wp2_with fail
        go_roundw
        case rel => exact ⟨k + 1, by omega, by simp, by rw [hS.out]; exact hrow, kW, hB⟩
        case measure => simp [intOf]; omega
      | true =>
        rw [hfk] at hck
        by_cases hk0 : 0 < k
        case neg =>
          have hk0' : decide (0 < (k : Int)) = false := by simp; omega
          have hk0n : decide (0 < k) = false := by simp; omega
          have hS : Hid (setF f (k + 1) = setF f k ++ [((k : Int), 1)]) := Lib.hid (by rw [setF, if_pos hfk, if_neg (by simp; omega)])
          have kN := Blk.new wr 115 #[.int .i64 (k : Int), .int .i64 1]
          go_wp2_with (refine wpList_append_own _ rfl (.tmp 9) (.tmp 12) 22 rfl (w.heap.size + 1) 115 i0 (.agg #[.int .i64 0, .int .i64 0]) 2 16 Tryz.underlying22 hi hz0 hz1 hz2 rfl (by decide) _ (setF f k).length (spCells (setF f k)) rfl (hrow.alloc _) ⟨wr.heap.size, 0, none⟩ 1 1 [.int .i64 (k : Int), .int .i64 1] rfl rfl (news_two kN) news_one2 (by unfold maxLen; omega) (by omega) (by simp; omega) ?_; intro v' w1 hown' hgrow _; rw [← spCells_snoc (setF f k) ((k : Int), 1), ← hS.out] at hown')
          have hne1 := (hrow.alloc (.cells #[.int .i64 (k : Int), .int .i64 1] 115)).lt
          go_roundw
          case rel => exact ⟨k + 1, by omega, by simp, by rw [show (setF f (k + 1)).length = (setF f k).length + 1 by rw [hS.out]; simp]; exact hown', (kW.alloc _).grown hgrow (fun e => by have := (hrow.lt _ e.symm).1; omega), (hB.alloc hBs _).grown hgrow (by simp; omega) (fun j hj => by have := (hrow.lt j hj).1; omega)⟩
          case measure => simp [intOf]; omega
        case pos =>
          have hk0' : decide (0 < (k : Int)) = true := by simp; omega
          have hk0n : decide (0 < k) = true := by simp; omega
          have hkp : wr.cell? ⟨w.heap.size, k - 1, none⟩ = some (.bool (f (k - 1))) := by rw [kW.cell]; exact hcs.out (k - 1) (by omega)
          cases hfp : f (k - 1) with
          | false =>
            rw [hfp] at hkp
            have hS : Hid (setF f (k + 1) = setF f k ++ [((k : Int), 1)]) := Lib.hid (by rw [setF, if_pos hfk, if_neg (by simp [hfp])])
            have kN := Blk.new wr 115 #[.int .i64 (k : Int), .int .i64 1]
            go_wp2_with (refine wpList_append_own _ rfl (.tmp 9) (.tmp 12) 22 rfl (w.heap.size + 1) 115 i0 (.agg #[.int .i64 0, .int .i64 0]) 2 16 Tryz.underlying22 hi hz0 hz1 hz2 rfl (by decide) _ (setF f k).length (spCells (setF f k)) rfl (hrow.alloc _) ⟨wr.heap.size, 0, none⟩ 1 1 [.int .i64 (k : Int), .int .i64 1] rfl rfl (news_two kN) news_one2 (by unfold maxLen; omega) (by omega) (by simp; omega) ?_; intro v' w1 hown' hgrow _; rw [← spCells_snoc (setF f k) ((k : Int), 1), ← hS.out] at hown')
            have hne1 := (hrow.alloc (.cells #[.int .i64 (k : Int), .int .i64 1] 115)).lt
            go_roundw
            case rel => exact ⟨k + 1, by omega, by simp, by rw [show (setF f (k + 1)).length = (setF f k).length + 1 by rw [hS.out]; simp]; exact hown', (kW.alloc _).grown hgrow (fun e => by have := (hrow.lt _ e.symm).1; omega), (hB.alloc hBs _).grown hgrow (by simp; omega) (fun j hj => by have := (hrow.lt j hj).1; omega)⟩
            case measure => simp [intOf]; omega
          | true =>
            rw [hfp] at hkp
            obtain ⟨r, x, hrx, hxe⟩ := (hok.out k).last hk0 hfp
            have hwx := (hok.out k).wid x (by rw [hrx]; simp)
            have hS : Hid (setF f (k + 1) = r ++ [(x.1, x.2 + 1)]) := Lib.hid (by rw [setF, if_pos hfk, if_pos (by simp [hfp]; omega), hrx, bump_snoc])
            rw [hrx] at hrow hl512
            clear hrx hstep
            obtain ⟨xa, xb⟩ := x
            dsimp only at hwx hxe
            rw [List.length_append, List.length_singleton] at hrow hl512
            obtain ⟨g, cap, rfl⟩ := ownsRow_succ hrow
            have hgb := (hrow.lt g rfl).1
            have hcx : wr.cell? ⟨g, r.length * 2 + 1, none⟩ = some (.int .i64 xb) := by
              rw [hrow.cellAt _ (by omega), spCells_snoc, List.getElem?_append_right (by rw [spCells_len]; omega), spCells_len]
              simp
            have hfx := hrow.frozenAt (r.length * 2 + 1)
            obtain ⟨hst, hgr⟩ := hrow.stored (r.length * 2 + 1) (.int .i64 (xb + 1))
            rw [spCells_set] at hst
            obtain ⟨rl, hrl⟩ : ∃ rl, r.length = rl := ⟨_, rfl⟩
            rw [hrl] at hcx hfx hst hgr hl512 ⊢
            have hrl' := Lib.hid hrl
            clear hrl hrow
            go_wp2_with fail
            go_roundw
            case rel => exact ⟨k + 1, by omega, by simp, by rw [hS.out]; simpa [hrl'.out] using hst, kW.grown hgr (fun e => by cases e; omega), hB.grown hgr hBs (fun j hj => by cases hj; omega)⟩
            case measure => simp [intOf]; omega
    · obtain rfl : k = 1024 := by omega
      obtain ⟨A, cap, rfl, hru, h1, h2, h3, _⟩ := own_RU hrow rfl
      have hE : Hid (SA = setF f 1024) := Lib.hid (by rw [← hSA'.out]; rfl)
      go_wp2_with fail
      go_ret
      rw [hE.out]
      exact ⟨A, cap, rfl, hru, h1, h2, fun b o e => by have := h3 b o e; omega, hB⟩
end Go.Proofs.YtpabnbhbcphfiaaGreat
namespace Go.Proofs.YtpabnbhbcphfiaaGreat
open Go Go.Proofs Go.RowKit Go.Pol

theorem isNaN_any (x : Int) (w : World) : Calls Tryz.prog 171 #[.int .i64 x] w fun e w' => e = .returned (.bool false) ∧ w' = w := by
  go_enter Tryz.func171, Tryz.ntmps171
  go_wp2
  go_ret
  exact ⟨by simp, rfl⟩

def cmpI (x y : Int) : Int := if x < y then -1 else if y < x then 1 else 0
theorem compare_any (x y : Int) (w : World) : Calls Tryz.prog 111 #[.int .i64 x, .int .i64 y] w fun e w' => e = .returned (.int .i64 (cmpI x y)) ∧ w' = w := by
  obtain ⟨R, hR0⟩ : ∃ R, cmpI x y = R := ⟨_, rfl⟩
  rw [hR0]
  have hR := Lib.hid hR0
  clear hR0
  by_cases h1 : x < y
  · have h1' : decide (x < y) = true := by simpa using h1
    have hE : Hid (R = -1) := Lib.hid (by rw [← hR.out, cmpI, if_pos h1])
    clear h1
    go_enter Tryz.func111, Tryz.ntmps111
    go_wp2_with (go_at_call 171; refine (isNaN_any _ _).mono ?_; rintro e w' ⟨rfl, rfl⟩)
    go_ret
    exact ⟨ret_int hE.out.symm, rfl⟩
  · have h1' : decide (x < y) = false := by simpa using h1
    by_cases h2 : y < x
    · have h2' : decide (y < x) = true := by simpa using h2
      have hE : Hid (R = 1) := Lib.hid (by rw [← hR.out, cmpI, if_neg h1, if_pos h2])
      clear h1 h2
      go_enter Tryz.func111, Tryz.ntmps111
      go_wp2_with (go_at_call 171; refine (isNaN_any _ _).mono ?_; rintro e w' ⟨rfl, rfl⟩)
      go_ret
      exact ⟨ret_int hE.out.symm, rfl⟩
    · have h2' : decide (y < x) = false := by simpa using h2
      have hE : Hid (R = 0) := Lib.hid (by rw [← hR.out, cmpI, if_neg h1, if_neg h2])
      clear h1 h2
      go_enter Tryz.func111, Tryz.ntmps111
      go_wp2_with (go_at_call 171; refine (isNaN_any _ _).mono ?_; rintro e w' ⟨rfl, rfl⟩)
      go_ret
      exact ⟨ret_int hE.out.symm, rfl⟩

theorem of1_any (x y : Sp) (w : World) : Calls Tryz.prog 218 #[.agg #[.int .i64 x.1, .int .i64 x.2], .agg #[.int .i64 y.1, .int .i64 y.2]] w fun e w' => e = .returned (.int .i64 (cmpI x.1 y.1)) ∧
    w' = (w.alloc (.cells #[.int .i64 x.1, .int .i64 x.2] 115)).alloc (.cells #[.int .i64 y.1, .int .i64 y.2] 115) := by
  have HC := Lib.hid (fun W => compare_any x.1 y.1 W)
  generalize cmpI x.1 y.1 = R at *
  go_enter Tryz.func218, Tryz.ntmps218
  go_wp2_with (go_at_call 111; refine (HC.out _).mono ?_; rintro e w' ⟨rfl, rfl⟩)
  go_ret
  exact ⟨rfl, rfl⟩

/-- a span behind sorted ones: joined to the last one where they touch -/
def joinF (xs : List Sp) (x : Sp) : List Sp :=
  match xs.getLast? with
  | none => [x]
  | some l => if x.1 ≤ l.1 + l.2 then xs.dropLast ++ [(l.1, max (l.1 + l.2) (x.1 + x.2) - l.1)] else xs ++ [x]
theorem joinF_nil (x : Sp) : joinF [] x = [x] := rfl
theorem joinF_snoc (pre : List Sp) (l x : Sp) : joinF (pre ++ [l]) x = if x.1 ≤ l.1 + l.2 then pre ++ [(l.1, max (l.1 + l.2) (x.1 + x.2) - l.1)] else pre ++ [l] ++ [x] := by simp [joinF]
set_option maxRecDepth 100000 in
set_option maxHeartbeats 1600000 in
theorem join_any (base : Nat) (v : Value) (xs : List Sp) (x : Sp) (w : World) (hx : (-100000 ≤ x.1 ∧ x.1 ≤ 50000) ∧ -100000 ≤ x.2 ∧ x.2 ≤ 50000) (hxs : ∀ y ∈ xs, (-100000 ≤ y.1 ∧ y.1 ≤ 50000) ∧ -100000 ≤ y.2 ∧ y.2 ≤ 50000) (hlen : xs.length ≤ 100000) (hbase : base ≤ w.heap.size)
    (hrow : w.ownsRow base 115 2 v xs.length (spCells xs)) :
    Calls Tryz.prog 219 #[v, .agg #[.int .i64 x.1, .int .i64 x.2]] w fun e w' => ∃ v', e = .returned v' ∧ w'.ownsRow base 115 2 v' (joinF xs x).length (spCells (joinF xs x)) ∧ Below base w w' := by
  obtain ⟨i0, hi, hz0, hz1, hz2⟩ := infoSp_parts
  obtain ⟨xa, xb⟩ := x
  simp only at hx ⊢
  have hb0 := (Below.refl w.heap.size w).alloc (Nat.le_refl _) (.cells #[.int .i64 xa, .int .i64 xb] 115)
  have k0 := Blk.new w 115 #[.int .i64 xa, .int .i64 xb]
  have c0 := k0.cell
  rcases List.eq_nil_or_concat xs with rfl | ⟨pre, l, rfl⟩
  · obtain ⟨A, cap, rfl⟩ := own_nil_iff hrow rfl
    rw [joinF_nil]
    go_enter Tryz.func219, Tryz.ntmps219
    go_upto_region 2 with fail
    refine region_ext (by kernel_rfl) (by kernel_rfl) ?_
    repeat (go_big_quiet_step (fail))
    refine wpQuiet_nil ?_
    rintro w1 ⟨⟨_, hw1⟩, rfl⟩
    have B1 := hb0.trans (hw1.mono hb0.size)
    have k1 := k0.call hw1
    have c1 := k1.cell
    have kN := Blk.new w1 115 #[.int .i64 xa, .int .i64 xb]
    have hrow1 : w1.ownsRow base 115 2 (.slice A 0 cap) ([] : List Sp).length (spCells ([] : List Sp)) := ownsRow_call hrow B1
    go_wp2_with (refine wpList_append_own _ rfl (.tmp 43) (.tmp 45) 22 rfl base 115 i0 (.agg #[.int .i64 0, .int .i64 0]) 2 16 Tryz.underlying22 hi hz0 hz1 hz2 rfl (by decide) _ 0 (spCells ([] : List Sp)) rfl (hrow1.alloc _) ⟨w1.heap.size, 0, none⟩ 1 1 [.int .i64 xa, .int .i64 xb] rfl rfl (news_two kN) news_one2 (by unfold maxLen; omega) (by omega) (by have := B1.size; simp; omega) ?_; intro v' w3 hown' hgrow _)
    go_ret
    exact ⟨v', rfl, by simpa [spCells] using hown', ((B1.mono hbase).alloc (by have := B1.size; omega) _).grown hgrow (by have := B1.size; simp; omega) (fun j hj => (hrow1.lt j hj).1)⟩
  · rw [List.concat_eq_append] at *
    rw [joinF_snoc]
    have hlx := hxs l (by simp)
    clear hxs
    obtain ⟨la, lb⟩ := l
    simp only at hlx ⊢
    rw [List.length_append, List.length_singleton] at hrow hlen
    have hrow0 := ownsRow_call hrow hb0
    obtain ⟨g, cap, rfl⟩ := ownsRow_succ hrow
    have hgb := hrow0.lt g rfl
    have hca : (w.alloc (.cells #[.int .i64 xa, .int .i64 xb] 115)).cell? ⟨g, pre.length * 2, none⟩ = some (.int .i64 la) := by
      rw [hrow0.cellAt _ (by omega), spCells_snoc, List.getElem?_append_right (by rw [spCells_len]; exact Nat.le_refl _), spCells_len]
      simp
    have hcb : (w.alloc (.cells #[.int .i64 xa, .int .i64 xb] 115)).cell? ⟨g, pre.length * 2 + 1, none⟩ = some (.int .i64 lb) := by
      rw [hrow0.cellAt _ (by omega), spCells_snoc, List.getElem?_append_right (by rw [spCells_len]; omega), spCells_len]
      simp
    obtain ⟨k, hk⟩ : ∃ k, pre.length = k := ⟨_, rfl⟩
    rw [hk] at hca hcb hlen ⊢
    have hk' := Lib.hid hk
    have hrow' := Lib.hid hrow
    clear hk hrow
    have q1 := fun z : Ext (w.alloc (.cells #[.int .i64 xa, .int .i64 xb] 115)) => z.cell hca
    have q2 := fun z : Ext (w.alloc (.cells #[.int .i64 xa, .int .i64 xb] 115)) => z.cell hcb
    have q3 := fun z : Ext (w.alloc (.cells #[.int .i64 xa, .int .i64 xb] 115)) => (z.blk k0).cell
    have C1 : Hid (∀ z : Ext (w.alloc (.cells #[.int .i64 xa, .int .i64 xb] 115)), Calls Tryz.prog 207 #[.agg #[.int .i64 la, .int .i64 lb]] z.w fun e w'' => e = .returned (.int .i64 (la + lb)) ∧ ∃ y : Ext (w.alloc (.cells #[.int .i64 xa, .int .i64 xb] 115)), w'' = y.w) := Lib.hid (fun z => Ext.call (end_any la lb _ (by omega) (by omega)))
    by_cases hle : xa ≤ la + lb
    · have hle' : decide (xa ≤ la + lb) = true := by simpa using hle
      rw [if_pos hle]
      go_enter Tryz.func219, Tryz.ntmps219
      go_upto_region 2 with fail
      refine region_ext (by kernel_rfl) (by kernel_rfl) ?_
      repeat (go_big_quiet_step ((go_at_call 207; exact C1.out _)))
      refine wpQuiet_nil ?_
      rintro w1 ⟨⟨_, hw1⟩, rfl⟩
      have B1 := hb0.trans (hw1.mono hb0.size)
      have k1 := k0.call hw1
      have hg0 : g < (w.alloc (.cells #[.int .i64 xa, .int .i64 xb] 115)).heap.size := hgb.2
      have hca1 := (hw1.cell (p := ⟨g, k * 2, none⟩) hg0).trans hca
      have hcb1 := (hw1.cell (p := ⟨g, k * 2 + 1, none⟩) hg0).trans hcb
      clear q1 q2 q3 C1
      have q1 := fun z : Ext w1 => z.cell hca1
      have q2 := fun z : Ext w1 => z.cell hcb1
      have q3 := fun z : Ext w1 => (z.blk k1).cell
      have C1 : Hid (∀ z : Ext w1, Calls Tryz.prog 207 #[.agg #[.int .i64 la, .int .i64 lb]] z.w fun e w'' => e = .returned (.int .i64 (la + lb)) ∧ ∃ y : Ext w1, w'' = y.w) := Lib.hid (fun z => Ext.call (end_any la lb _ (by omega) (by omega)))
      have C2 : Hid (∀ z : Ext w1, Calls Tryz.prog 207 #[.agg #[.int .i64 xa, .int .i64 xb]] z.w fun e w'' => e = .returned (.int .i64 (xa + xb)) ∧ ∃ y : Ext w1, w'' = y.w) := Lib.hid (fun z => Ext.call (end_any xa xb _ (by omega) (by omega)))
      have hmx : -200000 ≤ max (la + lb) (xa + xb) ∧ max (la + lb) (xa + xb) ≤ 200000 := by omega
      go_upto_region 3 with fail
      refine region_ext_tail 19 (by kernel_rfl) (by kernel_rfl) ?_
      simp only [List.take_succ_cons, List.take_zero, List.drop_succ_cons, List.drop_zero]
      iterate 9 go_big_quiet_step ((go_at_call 207; exact C1.out _))
      repeat (go_big_quiet_step ((go_at_call 207; exact C2.out _)))
      refine wpQuiet_nil ?_
      intro z
      have hrz := ownsRow_call hrow'.out (B1.trans (z.le.mono B1.size))
      have hfz := hrz.frozenAt (k * 2 + 1)
      have hcz := z.cell hcb1
      obtain ⟨hst, hgr⟩ := hrz.stored (k * 2 + 1) (.int .i64 (max (la + lb) (xa + xb) - la))
      rw [← hk'.out, spCells_set, hk'.out] at hst
      go_wp2_with fail
      go_ret
      exact ⟨_, rfl, by simpa [hk'.out] using hst, ((B1.trans (z.le.mono B1.size)).mono hbase).grown hgr (by have := B1.size; have := z.le.size; omega) (fun j hj => by cases hj; exact hgb.1)⟩
    · have hle' : decide (xa ≤ la + lb) = false := by simpa using hle
      rw [if_neg hle]
      go_enter Tryz.func219, Tryz.ntmps219
      go_upto_region 2 with fail
      refine region_ext (by kernel_rfl) (by kernel_rfl) ?_
      repeat (go_big_quiet_step ((go_at_call 207; exact C1.out _)))
      refine wpQuiet_nil ?_
      rintro w1 ⟨⟨_, hw1⟩, rfl⟩
      have B1 := hb0.trans (hw1.mono hb0.size)
      have k1 := k0.call hw1
      have c1 := k1.cell
      have kN := Blk.new w1 115 #[.int .i64 xa, .int .i64 xb]
      have hrow1 := ownsRow_call hrow'.out B1
      clear q1 q2 q3 C1
      go_wp2_with (refine wpList_append_own _ rfl (.tmp 43) (.tmp 45) 22 rfl base 115 i0 (.agg #[.int .i64 0, .int .i64 0]) 2 16 Tryz.underlying22 hi hz0 hz1 hz2 rfl (by decide) _ (k + 1) (spCells (pre ++ [(la, lb)])) rfl (by rw [← hk'.out]; exact hrow1.alloc _) ⟨w1.heap.size, 0, none⟩ 1 1 [.int .i64 xa, .int .i64 xb] rfl rfl (news_two kN) news_one2 (by unfold maxLen; omega) (by omega) (by have := B1.size; simp; omega) ?_; intro v' w3 hown' hgrow _)
      go_ret
      rw [← spCells_snoc (pre ++ [(la, lb)]) (xa, xb)] at hown'
      exact ⟨v', rfl, by simpa [hk'.out] using hown', ((B1.mono hbase).alloc (by have := B1.size; omega) _).grown hgrow (by have := B1.size; simp; omega) (fun j hj => (hrow1.lt j hj).1)⟩
end Go.Proofs.YtpabnbhbcphfiaaGreat
namespace Go.Pol
open Go Go.RowKit
def pagesX (x : Sp) (j : Nat) : List Int := (List.range j).map fun (k : Nat) => x.1 + (k : Int)
theorem pagesOf_cons (x : Sp) (r : List Sp) : pagesOf (x :: r) = pagesX x x.2.toNat ++ pagesOf r := by simp [pagesOf, pagesX]
theorem take_snoc (us : List Sp) (k : Nat) (hk : k < us.length) : us.take (k + 1) = us.take k ++ [us.getD k (0,0)] := by
  rw [List.take_add_one, List.getElem?_eq_getElem hk]
  simp [List.getD_eq_getElem?_getD, hk]
theorem ints_one {a : Int} : ∀ u ∈ [Value.int .i64 a], u.oneCell' = true := by
  intro u hu; simp only [List.mem_cons, List.not_mem_nil, or_false] at hu; subst hu; rfl
theorem news_i {w : World} {g : Nat} {t : TypeId} {a : Int} (h : Blk w g t #[.int .i64 a]) : ∀ (j : Nat) (u : Value), [Value.int .i64 a][j]? = some u → w.cell? ((⟨g, 0, none⟩ : Addr).add j) = some u := by
  intro j u hu
  rw [addr_add0, Nat.zero_add, h.cell]
  simpa using hu
/-- what a call of the own made reads as a list -/
theorem own_RIx {w : World} {base : Nat} {e : TypeId} {v : Value} {n : Nat} {xs : List Int} (h : w.ownsRow base e 1 v n (xs.map (Value.int .i64))) (hn : xs.length = n) : ∃ (A : Option Addr) (cap : Nat), v = .slice A n cap ∧ RI w w.heap.size A xs := by
  have hv := h
  rcases h.2 with ⟨rfl, h0⟩ | ⟨g, cap, cur, rfl, hg, hk, _⟩
  · subst h0
    obtain rfl : xs = [] := List.eq_nil_of_length_eq_zero hn
    exact ⟨none, 0, rfl, RI.nil⟩
  · refine ⟨_, cap, rfl, fun k hk' => ?_⟩
    have hk2 : k < xs.length := by simpa using hk'
    have hc := hv.cellAt k (by omega)
    refine ⟨g, 0, rfl, Blk.lt hk, ?_⟩
    rw [Nat.zero_add, hc]
    exact List.getElem?_eq_getElem hk'
end Go.Pol
namespace Go.Proofs.YtpabnbhbcphfiaaGreat
open Go Go.Proofs Go.RowKit Go.Pol
theorem infoIn : (Tryz.prog.info? 3).map (fun i => (i.zero, i.size, i.bytes)) = some (some (.int .i64 0), 1, 8) := by kernel_rfl

end Go.Proofs.YtpabnbhbcphfiaaGreat
namespace Go.Proofs.YtpabnbhbcphfiaaGreat
open Go Go.Proofs Go.RowKit Go.Pol

def ofF (us : List Sp) : List Sp := us.foldl joinF []
theorem joinF_vld {xs : List Sp} {x : Sp} (hxs : ∀ y ∈ xs, vld y = true) (hx : vld x = true) : ∀ y ∈ joinF xs x, vld y = true := by
  rcases List.eq_nil_or_concat xs with rfl | ⟨pre, l, rfl⟩
  · rw [joinF_nil]; simpa using hx
  · rw [List.concat_eq_append] at *
    rw [joinF_snoc]
    have hl := vld_iff.1 (hxs l (by simp))
    have hx' := vld_iff.1 hx
    split
    · intro y hy
      rcases List.mem_append.1 hy with h | h
      · exact hxs y (by simp [h])
      · simp only [List.mem_singleton] at h
        subst h
        exact vld_iff.2 (by simp only; omega)
    · intro y hy
      rcases List.mem_append.1 hy with h | h
      · exact hxs y h
      · simp only [List.mem_singleton] at h
        subst h
        exact hx
theorem joinF_len (xs : List Sp) (x : Sp) : (joinF xs x).length ≤ xs.length + 1 := by
  rcases List.eq_nil_or_concat xs with rfl | ⟨pre, l, rfl⟩
  · simp [joinF_nil]
  · rw [List.concat_eq_append, joinF_snoc]
    split <;> simp
theorem ofF_snoc (us : List Sp) (x : Sp) : ofF (us ++ [x]) = joinF (ofF us) x := by simp [ofF]

set_option maxRecDepth 100000 in
set_option maxHeartbeats 1600000 in
theorem of_any (base : Nat) (v : Value) (us : List Sp) (w : World) (hv : ∀ y ∈ us, vld y = true) (hlen : us.length ≤ 100000) (hbase : base ≤ w.heap.size)
    (HS : Calls Tryz.prog 217 #[v, .func (.func 218) #[] #[]] w fun e w' => e = .returned (.tuple #[]) ∧ ∃ us' : List Sp, us'.Perm us ∧ us'.Pairwise (fun a b => a.1 ≤ b.1) ∧ w'.ownsRow base 115 2 v us.length (spCells us') ∧ Below base w w') 
    (hrow : w.ownsRow base 115 2 v us.length (spCells us)) :
    Calls Tryz.prog 174 #[v] w fun e w' => ∃ (us' : List Sp) (v' : Value), us'.Perm us ∧ us'.Pairwise (fun a b => a.1 ≤ b.1) ∧ e = .returned v' ∧ w'.ownsRow w.heap.size 115 2 v' (ofF us').length (spCells (ofF us')) ∧ Below base w w' := by
  obtain ⟨A, cap, rfl⟩ := own_nil_iff hrow rfl
  go_enter Tryz.func174, Tryz.ntmps174
  go_wp2_with fail
  refine HS.mono ?_
  rintro e w1 ⟨rfl, us', hp, hs, hrow1, hb1⟩
  have hv' : ∀ y ∈ us', vld y = true := fun y hy => hv y (hp.mem_iff.1 hy)
  have hn := hp.length_eq
  obtain ⟨n, hn0⟩ : ∃ n, us.length = n := ⟨_, rfl⟩
  rw [hn0] at hrow1 hn hlen ⊢
  have hn' := Lib.hid hn
  clear hn hn0 HS hrow hv
  have hws := hb1.size
  have hb1s := hb1.size
  go_wp2_with fail
  go_loopw [3, 10] (fun v i wr => ∃ k : Nat, k ≤ n ∧ i = .int .i64 k ∧ wr.ownsRow w1.heap.size 115 2 v (ofF (us'.take k)).length (spCells (ofF (us'.take k))) ∧ Below w1.heap.size w1 wr ∧ Hid ((∀ y ∈ ofF (us'.take k), vld y = true) ∧ (ofF (us'.take k)).length ≤ k)) (fun _ i _ => n - (intOf i).toNat)
  case atStart => exact ⟨0, by omega, rfl, by simpa [ofF, spCells] using World.ownsRow_nil _ _ _ _, Below.refl _ _, Lib.hid ⟨by simp [ofF], by simp [ofF]⟩⟩
  case round =>
    obtain ⟨k, hk, rfl, hrow2, hB, hH⟩ := hrel
    by_cases hlt : k < n
    · have hlt' : decide ((k : Int) < (n : Int)) = true := by simpa using hlt
      have hr := ownsRow_call hrow1 hB
      obtain ⟨g, cap', e, _⟩ := hr.form (by omega)
      cases e
      have hg := hrow1.lt g rfl
      have hca := hr.cellAt (k * 2) (by omega)
      have hcb := hr.cellAt (k * 2 + 1) (by omega)
      have hat := spCells_at us' k (by have := hn'.out; omega)
      rw [hat.1] at hca
      rw [hat.2] at hcb
      have hvx := hv' (us'.getD k (0,0)) (by rw [List.getD_eq_getElem?_getD, List.getElem?_eq_getElem (by have := hn'.out; omega)]; simp)
      have htk := Lib.hid (take_snoc us' k (by have := hn'.out; omega))
      clear hat hr
      generalize us'.getD k (0,0) = x at *
      have hxb := vld_iff.1 hvx
      have hstep : Hid (ofF (us'.take (k + 1)) = joinF (ofF (us'.take k)) x) := Lib.hid (by rw [htk.out, ofF_snoc])
      have hH2 : Hid ((∀ y ∈ joinF (ofF (us'.take k)) x, vld y = true) ∧ (joinF (ofF (us'.take k)) x).length ≤ k + 1) := Lib.hid ⟨joinF_vld hH.out.1 hvx, by have := joinF_len (ofF (us'.take k)) x; have := hH.out.2; omega⟩
      have HJ := Lib.hid (fun (W : World) (v : Value) (hW : w1.heap.size ≤ W.heap.size) (h : W.ownsRow w1.heap.size 115 2 v (ofF (us'.take k)).length (spCells (ofF (us'.take k)))) => join_any w1.heap.size v (ofF (us'.take k)) x W (by omega) (fun y hy => by have := vld_iff.1 (hH.out.1 y hy); omega) (by have := hH.out.2; omega) hW h)
      generalize ofF (us'.take k) = L at *
      obtain ⟨xa, xb⟩ := x
      dsimp only at hca hcb HJ
      clear htk hvx hxb hH
      have hBs := hB.size
      go_wp2_with fail
      refine (HJ.out _ _ (by simp; omega) (hrow2.alloc _)).mono ?_
      rintro e w2 ⟨v', rfl, hrow3, hb3⟩
      go_wp2_with fail
      go_roundw
      case rel => exact ⟨k + 1, by omega, by go_num, by rw [hstep.out]; exact hrow3, (hB.alloc hBs _).trans hb3, by rw [hstep.out]; exact hH2⟩
      case measure => simp [intOf]; omega
    · obtain rfl : k = n := by omega
      have hlt' : decide ((k : Int) < (k : Int)) = false := by simp
      have hT : us'.take k = us' := List.take_of_length_le (by have := hn'.out; omega)
      rw [hT] at hrow2
      obtain ⟨A', cap', rfl⟩ := own_nil_iff hrow2 rfl
      go_wp2_with fail
      go_ret
      exact ⟨us', _, hp, hs, rfl, ownsRow_base hrow2 hws, hb1.trans (hB.mono (Nat.le_trans hbase hws))⟩
end Go.Proofs.YtpabnbhbcphfiaaGreat
namespace Go.Proofs.YtpabnbhbcphfiaaGreat
open Go Go.Proofs Go.RowKit Go.Pol

theorem joinF_law {L us : List Sp} {x : Sp} (hC : Go.Pol.Can L) (hm : ∀ q, mem q L = true ↔ mem q us = true) (hf : ∀ y ∈ L, ∃ u ∈ us, y.1 = u.1) (hx : vld x = true) (hle : ∀ u ∈ us, u.1 ≤ x.1) :
    Go.Pol.Can (joinF L x) ∧ (∀ q, mem q (joinF L x) = true ↔ mem q (us ++ [x]) = true) ∧ (∀ y ∈ joinF L x, ∃ u ∈ us ++ [x], y.1 = u.1) := by
  have hvx := vld_iff.1 hx
  rcases List.eq_nil_or_concat L with rfl | ⟨pre, l, rfl⟩
  · rw [joinF_nil]
    refine ⟨Go.Pol.Can.one hx, fun q => ?_, fun y hy => ⟨x, by simp, by simp only [List.mem_singleton] at hy; rw [hy]⟩⟩
    rw [mem_one, mem_snoc, ← hm q, mem_nil]; simp
  · rw [List.concat_eq_append] at *
    rw [joinF_snoc]
    obtain ⟨u, hu, hlu⟩ := hf l (by simp)
    have hlx := hle u hu
    have hvl := vld_iff.1 (hC.1 l (by simp))
    have hfo := (formOk_snoc _ _ _).1 hC.2
    by_cases h : x.1 ≤ l.1 + l.2
    · rw [if_pos h]
      refine ⟨⟨?_, (formOk_snoc _ _ _).2 hfo⟩, fun q => ?_, fun y hy => ?_⟩
      · intro y hy
        rcases List.mem_append.1 hy with h1 | h1
        · exact hC.1 y (by simp [h1])
        · simp only [List.mem_singleton] at h1
          subst h1
          exact vld_iff.2 (by simp only; omega)
      · rw [mem_snoc, mem_snoc, ← hm q, mem_snoc]
        simp only
        constructor
        · rintro (h1 | h1)
          · exact .inl (.inl h1)
          · by_cases h2 : q < l.1 + l.2
            · exact .inl (.inr (by omega))
            · exact .inr (by omega)
        · rintro ((h1 | h1) | h1)
          · exact .inl h1
          · exact .inr (by omega)
          · exact .inr (by omega)
      · rcases List.mem_append.1 hy with h1 | h1
        · obtain ⟨u', hu', e⟩ := hf y (by simp [h1])
          exact ⟨u', by simp [hu'], e⟩
        · simp only [List.mem_singleton] at h1
          subst h1
          exact ⟨u, by simp [hu], hlu⟩
    · rw [if_neg h]
      refine ⟨⟨?_, (formOk_snoc _ _ _).2 ⟨hC.2, ?_⟩⟩, fun q => ?_, fun y hy => ?_⟩
      · intro y hy
        rcases List.mem_append.1 hy with h1 | h1
        · exact hC.1 y h1
        · simp only [List.mem_singleton] at h1
          subst h1; exact hx
      · rw [lastE_snoc]; omega
      · rw [mem_snoc, mem_snoc (l := us), ← hm q]
      · rcases List.mem_append.1 hy with h1 | h1
        · obtain ⟨u', hu', e⟩ := hf y h1
          exact ⟨u', by simp [hu'], e⟩
        · simp only [List.mem_singleton] at h1
          subst h1
          exact ⟨y, by simp, rfl⟩
theorem foldl_law : ∀ (us L done : List Sp), Go.Pol.Can L → (∀ q, mem q L = true ↔ mem q done = true) → (∀ y ∈ L, ∃ u ∈ done, y.1 = u.1) → (∀ y ∈ us, vld y = true) → (∀ a ∈ done, ∀ b ∈ us, a.1 ≤ b.1) → us.Pairwise (fun a b => a.1 ≤ b.1) →
    Go.Pol.Can (us.foldl joinF L) ∧ ∀ q, mem q (us.foldl joinF L) = true ↔ mem q (done ++ us) = true
  | [], L, done, hC, hm, _, _, _, _ => ⟨hC, fun q => by simpa using hm q⟩
  | x :: us, L, done, hC, hm, hf, hv, hle, hp => by
    obtain ⟨h1, h2, h3⟩ := joinF_law hC hm hf (hv x (by simp)) (fun u hu => hle u hu x (by simp))
    have hp' := List.pairwise_cons.1 hp
    have h := foldl_law us (joinF L x) (done ++ [x]) h1 h2 h3 (fun y hy => hv y (by simp [hy])) (fun a ha b hb => by
      rcases List.mem_append.1 ha with h | h
      · exact hle a h b (by simp [hb])
      · simp only [List.mem_singleton] at h
        subst h; exact hp'.1 b hb) hp'.2
    refine ⟨h.1, fun q => ?_⟩
    rw [List.foldl_cons, h.2 q, List.append_assoc]; rfl
/-- of spans sorted by their first pages: the set of their pages -/
theorem ofF_law {us : List Sp} (hv : ∀ y ∈ us, vld y = true) (hp : us.Pairwise (fun a b => a.1 ≤ b.1)) : Go.Pol.Can (ofF us) ∧ ∀ q, mem q (ofF us) = true ↔ mem q us = true := by
  have h := foldl_law us [] [] ⟨by simp, rfl⟩ (fun q => Iff.rfl) (by simp) hv (by simp) hp
  exact ⟨h.1, fun q => by have := h.2 q; simpa [ofF] using this⟩
theorem mem_perm {us vs : List Sp} (h : us.Perm vs) (q : Int) : mem q us = mem q vs := by
  rw [Bool.eq_iff_iff]; simp only [mem, List.any_eq_true]
  exact ⟨fun ⟨x, hx, e⟩ => ⟨x, h.mem_iff.1 hx, e⟩, fun ⟨x, hx, e⟩ => ⟨x, h.mem_iff.2 hx, e⟩⟩
/-- which permutation it was that the sort laid makes no difference -/
theorem ofF_set {us us' s : List Sp} (hv : ∀ y ∈ us, vld y = true) (hp : us'.Perm us) (hs : us'.Pairwise (fun a b => a.1 ≤ b.1)) (hC : Go.Pol.Can s) (hm : ∀ q, mem q s = true ↔ mem q us = true) : ofF us' = s := by
  have h := ofF_law (fun y hy => hv y (hp.mem_iff.1 hy)) hs
  exact h.1.eq hC fun q => by rw [Bool.eq_iff_iff, h.2 q, hm q, mem_perm hp]
end Go.Proofs.YtpabnbhbcphfiaaGreat
namespace Go.Pol
open Go
/-- what is wrong with a list of spans -/
def ofE (us : List Sp) : Int := if 2000 < us.length then 3 else if us.all vld = true then 0 else 7
/-- the set of the pages of some spans -/
def setOf (us : List Sp) : List Sp := setA fun k => mem (k : Int) us
theorem setOf_can (us : List Sp) : Can (setOf us) := setA_can _
theorem vld_mem {us : List Sp} (hv : ∀ x ∈ us, vld x = true) {q : Int} (h : mem q us = true) : 0 ≤ q ∧ q < 1024 := by
  obtain ⟨x, hx, hh⟩ := List.any_eq_true.1 h
  have := vld_iff.1 (hv x hx)
  simp at hh
  omega
theorem mem_setOf {us : List Sp} (hv : ∀ x ∈ us, vld x = true) (q : Int) : mem q (setOf us) = true ↔ mem q us = true := by
  unfold setOf
  rw [mem_setA]
  constructor
  · rintro ⟨h1, h2⟩
    rwa [show ((q.toNat : Nat) : Int) = q by omega] at h2
  · intro h
    have := vld_mem hv h
    exact ⟨this, by rwa [show ((q.toNat : Nat) : Int) = q by omega]⟩
theorem ofE_zero {us : List Sp} (h : ofE us = 0) : us.length ≤ 2000 ∧ ∀ x ∈ us, vld x = true := by
  unfold ofE at h
  split at h
  · cases h
  · split at h
    · rename_i h1 h2
      exact ⟨by omega, List.all_eq_true.1 h2⟩
    · cases h
end Go.Pol
namespace Go.Proofs.YtpabnbhbcphfiaaGreat
open Go Go.Proofs Go.RowKit Go.Pol
theorem ofF_setOf {us us' : List Sp} (hv : ∀ y ∈ us, vld y = true) (h : us'.Perm us) (hs : us'.Pairwise (fun a b => a.1 ≤ b.1)) : ofF us' = setOf us :=
  ofF_set hv h hs (setOf_can us) (fun q => mem_setOf hv q)
end Go.Proofs.YtpabnbhbcphfiaaGreat
