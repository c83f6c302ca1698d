/- Merged texts. Words for memory that all walks of this seat share: a slice that reads as a list of integers or of structs of integers; how such readings are carried into worlds that have grown. Opening the arguments of the laws of this seat (a table, a usage, numbers), and closing their rows: all that a law's contract has to say is that it returns true and turns nothing that lay there. A range over a function value whose function keeps its state in cells: what it may write (T), what the loop's body must leave (K), what the loop carries (I); the contract of such a function value, and the statement's own law at the widest fence. A range over a function value whose function keeps cells of its own that it makes while it runs (X: what of all blocks is the function's); a region of such a function whose last operations hand a value to the loop. Plain functions and laws on spans of pages: what a set is, that two sets with the same pages are equal, the common pages and the gaps of sets, the set of marked pages. Slices of spans that a call has made itself: as cells, as readings, across steps. A slice of its own that a loop over a function value appends to, while the function makes blocks of its own: the slice's block is none of those. Words for slices of structs: their cells as one flat list. Plain words for refusals: rules, plans, which calls are refused. A region that draws its order: what reads cells that nobody writes ahead of it is taken first, however the others change the world; a condition on the world is asked only behind operations that may come ahead of it. -/
import Derived.Below
import Derived.Laws.OwnMore
import Derived.Laws.MakeOwn
import Derived.Laws.CopyOwn
import Derived.Deep.RegionLaw
import Derived.Deep.AppendLies
import Derived.Deep.Draws
import Derived.Deep.QuietTactic
import Derived.BigQuiet
import Derived.Lib.Hide
import Derived.WalkKit
import Derived.WalkSpells
import Derived.WalkLawsBesides
import Derived.Maps.AppendAt
import Derived.StillTailTactics
import Derived.Deep.RegionHeld3
import Derived.Deep.DeepCutAuto
import Derived.Deep.DeepFit
import Derived.ChangeSame
import Derived.Deep.Slices
import Derived.Deep.Fields
import Derived.Lib.SmallJoins
import Derived.OpenShut
import Derived.ProofKit
import Derived.OpenVars
import Derived.JoinedOf
import Derived.Test.YtdepkmpilipolaaGreatRows
import Derived.Carry
import Derived.ChangeSlices
import Derived.RowKit2
import Derived.RowKit3
import Derived.JoinedAt
import Derived.RangeFuncNested
import Derived.RangeFuncBound
import Derived.RangeFuncCalls
import Derived.RangeFuncLeaves
import Derived.OwnWalkIn
import Derived.TacticsInMore
import Derived.LoopNIn
import Derived.LoopIn
import Derived.OrdersIn
import Derived.Laws.AppendOwn
import Derived.OrdersHeld
namespace Go.Pol
open Go Go.RowKit

/-- The cells from 'A' on hold the list 'xs' (one cell each), in a block below 'B'. -/
def Rd (w : World) (B : Nat) (A : Option Addr) (xs : List Value) : Prop :=
  ∀ k (h : k < xs.length), ∃ b o, A = some ⟨b, o, none⟩ ∧ b < B ∧ w.cell? ⟨b, o + k, none⟩ = some xs[k]

section
variable {w w' : World} {B B' : Nat} {A : Option Addr} {xs : List Value}
theorem Rd.keep (h : Rd w B A xs) (hk : ∀ p : Addr, p.block < B → w'.cell? p = w.cell? p) : Rd w' B A xs := fun k hl => by
  obtain ⟨b, o, e, hb, hc⟩ := h k hl
  exact ⟨b, o, e, hb, (hk _ hb).trans hc⟩
theorem Rd.more (h : Rd w B A xs) (hB : B ≤ B') : Rd w B' A xs := fun k hl => by
  obtain ⟨b, o, e, hb, hc⟩ := h k hl
  exact ⟨b, o, e, by omega, hc⟩
theorem Rd.below (h : Rd w B A xs) (hb : Below B w w') : Rd w' B A xs := h.keep fun _ hp => hb.cell hp
theorem Rd.nil : Rd w B A [] := fun k h => absurd h (by simp)
end

/-- A slice of integers. -/
def RI (w : World) (B : Nat) (A : Option Addr) (xs : List Int) : Prop := Rd w B A (xs.map (Value.int .i64))
section
variable {w w' : World} {B B' : Nat} {A : Option Addr} {xs : List Int}
theorem RI.at_ (h : RI w B A xs) {k : Nat} (hk : k < xs.length) :
    ∃ b o, A = some ⟨b, o, none⟩ ∧ b < B ∧ w.cell? ⟨b, o + k, none⟩ = some (.int .i64 (xs.getD k 0)) := by
  obtain ⟨b, o, e, hb, hc⟩ := h k (by simpa using hk)
  refine ⟨b, o, e, hb, hc.trans ?_⟩
  simp [List.getD_eq_getElem?_getD, hk]
theorem RI.below (h : RI w B A xs) (hb : Below B w w') : RI w' B A xs := Rd.below h hb
theorem RI.more (h : RI w B A xs) (hB : B ≤ B') : RI w B' A xs := Rd.more h hB
theorem RI.nil : RI w B A [] := Rd.nil
end
/-- A slice of pairs of integers (a struct with two fields, a cell each). -/
def RU (w : World) (B : Nat) (A : Option Addr) (us : List (Int × Int)) : Prop :=
  ∀ k, k < us.length → ∃ b o, A = some ⟨b, o, none⟩ ∧ b < B ∧ w.cell? ⟨b, o + k * 2, none⟩ = some (.int .i64 (us.getD k (0,0)).1) ∧ w.cell? ⟨b, o + k * 2 + 1, none⟩ = some (.int .i64 (us.getD k (0,0)).2)
section
variable {w w' : World} {B B' : Nat} {A : Option Addr} {us : List (Int × Int)}
theorem RU.keep (h : RU w B A us) (hk : ∀ p : Addr, p.block < B → w'.cell? p = w.cell? p) : RU w' B A us := fun k hl => by
  obtain ⟨b, o, e, hb, hc, hd⟩ := h k hl
  exact ⟨b, o, e, hb, (hk _ hb).trans hc, (hk _ hb).trans hd⟩
theorem RU.below (h : RU w B A us) (hb : Below B w w') : RU w' B A us := h.keep fun _ hp => hb.cell hp
theorem RU.more (h : RU w B A us) (hB : B ≤ B') : RU w B' A us := fun k hl => by
  obtain ⟨b, o, e, hb, hc⟩ := h k hl
  exact ⟨b, o, e, by omega, hc⟩
theorem RU.at_' (h : RU w B A us) {k : Nat} (hk : k < us.length) : ∃ b o, A = some ⟨b, o, none⟩ ∧ b < B ∧ w.cell? ⟨b, o + k * 2, none⟩ = some (.int .i64 (us.getD k (0,0)).1) ∧ w.cell? ⟨b, o + k * 2 + 1, none⟩ = some (.int .i64 (us.getD k (0,0)).2) := h k hk
theorem RU.nil : RU w B A [] := fun k h => absurd h (by simp)
end

/-- Block 'g' is just the cells 'cs', of element type 't', none of them frozen. -/
def Blk (w : World) (g : Nat) (t : TypeId) (cs : Array Value) : Prop := w.heap[g]? = some (.cells cs t (0, 0))
section
variable {w w' : World} {g : Nat} {t : TypeId} {cs : Array Value}
theorem Blk.lt (h : Blk w g t cs) : g < w.heap.size := by
  by_cases hlt : g < w.heap.size
  · exact hlt
  · unfold Blk at h; rw [Array.getElem?_eq_none (by omega)] at h; cases h
theorem Blk.cell (h : Blk w g t cs) (i : Nat) : w.cell? ⟨g, i, none⟩ = cs[i]? := cell_of_row w g i cs t (0, 0) h
theorem Blk.frozen (h : Blk w g t cs) (i : Nat) : w.frozen? ⟨g, i, none⟩ = false := by
  unfold Blk at h
  simp [World.frozen?, h]
theorem Blk.new (w : World) (t : TypeId) (cs : Array Value) : Blk (w.alloc (.cells cs t)) w.heap.size t cs := heap_alloc_new w _
theorem Blk.drew (h : Blk w g t cs) : Blk w.drew g t cs := h
theorem Blk.alloc (h : Blk w g t cs) (o : Obj) : Blk (w.alloc o) g t cs := (Below.heap_alloc w o g h.lt).trans h
theorem Blk.set_ (h : Blk w g t cs) (i : Nat) (u : Value) : Blk (w.setCell ⟨g, i, none⟩ u) g t (cs.setIfInBounds i u) := by
  unfold Blk at h ⊢
  simp [World.setCell, Array.getElem?_modify, h]
theorem Blk.far (h : Blk w g t cs) {p : Addr} (hp : g ≠ p.block) (u : Value) : Blk (w.setCell p u) g t cs := (Below.heap_setCell w p u g hp).trans h
theorem Blk.below {B : Nat} (h : Blk w g t cs) (hb : Below B w w') (hg : g < B) : Blk w' g t cs := (hb.block g hg).trans h
theorem Blk.call (h : Blk w g t cs) (hb : Below w.heap.size w w') : Blk w' g t cs := (hb.block g h.lt).trans h
theorem Blk.ne_ {g' : Nat} {t' : TypeId} {cs' : Array Value} (h : Blk w g t cs) (h' : Blk w g' t' cs') (hne : t ≠ t') : g ≠ g' := by
  rintro rfl
  unfold Blk at h h'
  rw [h] at h'
  injection h' with h'
  injection h' with _ ht
  exact hne ht
theorem Blk.grown {row : Option Nat} (h : Blk w g t cs) (hb : w.grownBy w' row) (hg : some g ≠ row) : Blk w' g t cs := (hb.block g h.lt hg).trans h
end

theorem addr_add0 (b o j : Nat) : (⟨b, o, none⟩ : Addr).add j = ⟨b, o + j, none⟩ := by
  unfold Addr.add
  by_cases h : j = 0 <;> simp [h]

/-- A later world: what lay below the heap's size lies as it lay. -/
structure Ext (W : World) where
  w : World
  le : Below W.heap.size W w
theorem Ext.cell {W : World} (x : Ext W) {p : Addr} {v : Value} (h : W.cell? p = some v) : x.w.cell? p = some v := by
  have hb : p.block < W.heap.size := by
    by_cases hp : p.block < W.heap.size
    · exact hp
    · have : W.heap[p.block]? = none := Array.getElem?_eq_none (by omega)
      simp [World.cell?, this] at h
  exact (x.le.cell hb).trans h
theorem Ext.blk {W : World} (x : Ext W) {g : Nat} {t : TypeId} {cs : Array Value} (h : Blk W g t cs) : Blk x.w g t cs := h.call x.le
instance extNonempty (W : World) : Nonempty (Ext W) := ⟨⟨W, Below.refl _ _⟩⟩
def Later (W w' : World) : Prop := ∃ x : Ext W, w' = x.w
theorem Later.all {W : World} {p : World → Prop} (h : ∀ x : Ext W, p x.w) : ∀ w', Later W w' → p w' := fun _ ⟨x, e⟩ => e ▸ h x
theorem Ext.call {P : Program} {f : FuncId} {args : Array Value} {W : World} {x : Ext W} {v : Value}
    (h : Calls P f args x.w fun e w' => e = .returned v ∧ Below x.w.heap.size x.w w') : Calls P f args x.w fun e w'' => e = .returned v ∧ ∃ y : Ext W, w'' = y.w :=
  h.mono fun _ w'' ⟨he, hb⟩ => ⟨he, ⟨w'', x.le.trans (hb.mono x.le.size)⟩, rfl⟩
theorem Ext.same {P : Program} {f : FuncId} {args : Array Value} {W : World} {x : Ext W} {v : Value}
    (h : Calls P f args x.w fun e w' => e = .returned v ∧ x.w = w') : Calls P f args x.w fun e w'' => e = .returned v ∧ ∃ y : Ext W, w'' = y.w :=
  h.mono fun _ _ ⟨he, hb⟩ => ⟨he, x, hb.symm⟩
/-- A region that draws its order, whose operations read and call functions that turn nothing that lay there: one walk in the order of the text. -/
theorem region_ext {P : Program} {id : Nat} {Q : Exit → Act → World → Prop} {a : Act} {w : World} {l : List Oper} (hm : P.follows .mixedOrders = true) (hB : Region.lexB .any l.toArray = true)
    (h : wpQuiet P l.toArray (fun w' => ∃ x : Ext w, w' = x.w) (fun a' => ∀ w', (∃ x : Ext w, w' = x.w) → Q .normal a' w') l a) : (Code.region id l.toArray true).wp P Q a w :=
  wp_region_quiet (C := fun w' => ∃ x : Ext w, w' = x.w) hm hB ⟨⟨_, (Below.refl _ w).drew⟩, rfl⟩ (by simpa using h)

theorem run_makeI {P : Program} (t e : TypeId) (i : TypeInfo) (z : Value) (ht : P.underlying t = some (.slice e)) (hi : P.info? e = some i) (hz : i.zero = some z) (hz1 : z.cells = #[z]) (hs : i.size = 1)
    (kl kc : IntKind) (n : Nat) (hbytes : i.bytes * n ≤ 281474976710656) (h63 : n ≤ 9223372036854775807) (w : World) :
    (Instr.makeSlice t (.int kl (n : Int)) (.int kc (n : Int))).run P w = .ok (.slice (some ⟨w.heap.size, 0, none⟩) n n) (w.alloc (.cells (Array.replicate n z) e)) := by
  have hb : (i.bytes : Int) * (n : Int) ≤ 281474976710656 := by
    have h : ((i.bytes * n : Nat) : Int) ≤ 281474976710656 := by omega
    rwa [Int.natCast_mul] at h
  have hr := run_make (P := P) w t e i z ht hi hz kl kc n n (by omega) (by omega) hb (by omega)
  simp only [Int.toNat_natCast] at hr
  rw [hr, hz1, hs, Nat.mul_one]
  congr 3
  apply Array.toList_inj.1
  rw [toList_madeCells_one, Array.toList_replicate]
theorem ret_int {k : IntKind} {a b : Int} (h : a = b) : Ending.returned (.int k a) = .returned (.int k b) := by rw [h]

/-! A region whose last operations come one behind the other, behind all others: the others read (or call what turns nothing), in whatever order; the last ones are walked one by one, in any later world. -/
section
variable {P : Program} {ops : Array Oper} {md : Region.Mode} {C : World → Prop}
def headQ (P : Program) (md : Region.Mode) (ops : Array Oper) (C : World → Prop) (n : Nat) (L : Array Bool → Act → Prop) : Nat → Array Bool → Act → Prop
  | 0, listed, a => L listed a
  | f + 1, listed, a => Region.ready md ops listed ≠ [] ∧ ∀ i ∈ Region.ready md ops listed, i < n ∧ qOp P ops C i (headQ P md ops C n L f (listed.setIfInBounds i true)) a

theorem wpAny_of_headQ {n g : Nat} {L : Array Bool → Act → Prop} {Q' : Exit → Act → World → Prop} (hL : ∀ listed a w, C w → L listed a → wpAny P md ops Q' g listed a w) :
    ∀ (f : Nat) (listed : Array Bool) (a : Act) (w : World), C w → headQ P md ops C n L f listed a → wpAny P md ops Q' (f + g) listed a w
  | 0, listed, a, w, hw, h => by rw [Nat.zero_add]; exact hL _ _ _ hw h
  | f + 1, listed, a, w, hw, h => by
    rw [show f + 1 + g = (f + g) + 1 by omega]
    exact ⟨fun h0 => absurd h0 h.1, fun i hi => wpOp_of_qOp hw (fun a' w' hw' h' => wpAny_of_headQ hL f _ a' w' hw' h') (h.2 i hi).2⟩

theorem headQ_first {n i : Nat} {oi : Oper} {v : Value} {L : Array Bool → Act → Prop} (hi : ops[i]? = some oi) (hsel : ∀ (j : Nat) (o : Oper) cs b, ops[j]? = some o → o.op ≠ .select cs b)
    (hs : Region.sinkB md ops n = true) (hc : Region.chainB md ops n = true) (hn : n < ops.size) (hin : i < n) (hdone : ∀ listed a, L listed a → ∀ j ∈ Region.ready md ops listed, n ≤ j) :
    ∀ (f : Nat) (listed : Array Bool) (a : Act), HeadInv md ops n listed →
      (∀ j oj, ops[j]? = some oj → j ≠ i → listed.getD j true = false → (∀ e ∈ oj.after, Region.binds md e = true → e.on ≠ i) → oi.apart ops oj = true) →
      i ∈ Region.ready md ops listed → YieldsIn P ops C oi v a →
      headQ P md ops C n L f (listed.setIfInBounds i true) (a.put oi.dst v) → headQ P md ops C n L (f + 1) listed a := by
  intro f
  induction f with
  | zero =>
    intro listed a inv _ hr hy H
    have hun := (mem_ready.1 hr).1
    refine ⟨fun h => (by rw [h] at hr; cases hr), fun j hj => ?_⟩
    have hjn : j < n := by
      by_cases h : j < n
      · exact h
      · exact absurd hj (tail_waits hs hc hn inv _ i rfl hin hun j (by omega))
    refine ⟨hjn, ?_⟩
    by_cases hji : j = i
    · subst hji; exact hy.qOp hi H
    · have := hdone _ _ H j (ready_mono hj hji)
      omega
  | succ f ih =>
    intro listed a inv hfree hr hy H
    have hun := (mem_ready.1 hr).1
    refine ⟨fun h => (by rw [h] at hr; cases hr), fun j hj => ?_⟩
    have hjn : j < n := by
      by_cases h : j < n
      · exact h
      · exact absurd hj (tail_waits hs hc hn inv _ i rfl hin hun j (by omega))
    refine ⟨hjn, ?_⟩
    by_cases hji : j = i
    · subst hji; exact hy.qOp hi H
    · have h1 := (H.2 j (ready_mono hj hji)).2
      obtain ⟨hjun, oj, hoj, hall⟩ := mem_ready.1 hj
      have hnot : ∀ e ∈ oj.after, Region.binds md e = true → e.on ≠ i := fun e he hb heq => by
        have h1 := hall e he hb
        rw [heq, getD_both hun] at h1
        cases h1
      have h2 := qOp_put hoj (hfree j oj hoj hji hjun hnot) (fun cs b => hsel i oi cs b hi) (fun cs b => hsel j oj cs b hoj) hy h1
      have hfree' : ∀ k ok, ops[k]? = some ok → k ≠ i → (listed.setIfInBounds j true).getD k true = false →
          (∀ e ∈ ok.after, Region.binds md e = true → e.on ≠ i) → oi.apart ops ok = true := fun k ok hk hki hu hno => by
        refine hfree k ok hk hki ?_ hno
        by_cases hjk : j = k
        · subst hjk; exact hjun
        · rw [getD_set_ne true hjk] at hu; exact hu
      refine qOp_mono (fun a' h3 => ih (listed.setIfInBounds j true) a' (inv.set hj hjn) hfree' (ready_mono hr (Ne.symm hji)) h3.1 ?_) h2
      rw [Array.setIfInBounds_comm _ _ hji]
      exact h3.2

theorem headQ_lex {n g : Nat} {Lq : Act → Prop} (hsel : Region.noSelect ops = true) (hs : Region.sinkB md ops n = true) (hc : Region.chainB md ops n = true) (hn : n < ops.size) :
    ∀ (l : List Oper) (k : Nat) (listed : Array Bool) (a : Act), (∀ j, j < l.length → l[j]? = ops[k + j]?) → k + l.length = n → HeadInv md ops n listed →
    Region.lexHead md ops g l.length k listed = true → wpQuiet P ops C Lq l a →
    headQ P md ops C n (fun listed' a' => Region.seqB md ops g n listed' = true ∧ Lq a') l.length listed a
  | [], k, listed, a, _, hk, _, hB, h => by
    obtain rfl : k = n := by simpa using hk
    exact ⟨by simpa [Region.lexHead] using hB, h⟩
  | o :: l, k, listed, a, hl, hk, inv, hB, h => by
    have h0 : ops[k]? = some o := by simpa using (hl 0 (by simp)).symm
    simp only [List.length_cons, Region.lexHead, Bool.and_eq_true] at hB
    obtain ⟨⟨hr, hf⟩, hB'⟩ := hB
    have hkn : k < n := by simp only [List.length_cons] at hk; omega
    have hr' : k ∈ Region.ready md ops listed := by simpa using hr
    have hst : qOp P ops C k (wpQuiet P ops C Lq l) a := by unfold qOp; simp only [h0]; exact h
    obtain ⟨v, hy, hK⟩ := yieldsIn_of_qOp h0 hst
    exact headQ_first h0 (Region.noSelect_spec hsel) hs hc hn hkn (fun listed' a' hL => seqB_ready hL.1) l.length listed a inv (Region.free_spec h0 hf) hr' hy
      (headQ_lex hsel hs hc hn l (k + 1) _ _ (fun j hj => by have := hl (j + 1) (by simp; omega); simpa [Nat.add_assoc, Nat.add_comm 1 j] using this) (by simp only [List.length_cons] at hk; omega) (inv.set hr' hkn) hB' hK)

theorem region_ext_tail {id : Nat} {Q : Exit → Act → World → Prop} {a : Act} {w : World} {l : List Oper} (n : Nat) (hm : P.follows .mixedOrders = true) (hB : Region.lexTailB .any l.toArray n = true)
    (h : wpQuiet P l.toArray (fun w' => ∃ x : Ext w, w' = x.w) (fun a' => ∀ x : Ext w, wpList P l.toArray Q (l.drop n) a' x.w) (l.take n) a) : (Code.region id l.toArray true).wp P Q a w := by
  simp only [Region.lexTailB, Bool.and_eq_true, decide_eq_true_eq] at hB
  obtain ⟨⟨⟨⟨hsel, hn⟩, hs⟩, hc⟩, hlex⟩ := hB
  have hn' : n < l.length := by simpa using hn
  have htl : (l.take n).length = n := by simp; omega
  have hdl : (l.drop n).length = l.toArray.size - n := by simp
  have inv0 : HeadInv .any l.toArray n (Array.replicate l.toArray.size false) :=
    ⟨by simp, fun j oj _ hl => (by rw [getD_replicate_false] at hl; cases hl), fun t _ ht => getD_in (by simpa using ht) (getD_replicate_false _ _)⟩
  have H := headQ_lex (md := .any) (g := l.toArray.size - n) hsel hs hc hn (l.take n) 0 _ a (fun j hj => by
    have hj' : j < n := by rw [htl] at hj; exact hj
    simp [hj']) (by simpa using htl) inv0 (by rw [htl]; exact hlex) h
  refine wp_region_any hm ?_
  have := wpAny_of_headQ (Q' := Q) (g := l.toArray.size - n) (fun listed a' w' hw' hL => by
    obtain ⟨x, rfl⟩ := hw'
    have := wpAny_of_seq (md := .any) (Q' := Q) (l.drop n) n listed a' x.w (fun j => by simp [List.getElem?_drop]) (by rw [hdl]; exact hL.1) (hL.2 x)
    rwa [hdl] at this) _ _ _ _ (⟨⟨_, (Below.refl _ w).drew⟩, rfl⟩ : ∃ x : Ext w, ({ w with drawn := w.drawn + 1 } : World) = x.w) H
  rw [htl, show n + (l.toArray.size - n) = l.toArray.size by omega] at this
  exact this
end
theorem Ext.frozen {W : World} (x : Ext W) {p : Addr} {v : Value} (h : W.cell? p = some v) (hf : W.frozen? p = false) : x.w.frozen? p = false := by
  have hb : p.block < W.heap.size := by
    by_cases hp : p.block < W.heap.size
    · exact hp
    · have : W.heap[p.block]? = none := Array.getElem?_eq_none (by omega)
      simp [World.cell?, this] at h
  exact (x.le.frozen hb).trans hf

theorem ret_bool {a b : Bool} (h : a = b) : Ending.returned (.bool a) = .returned (.bool b) := by rw [h]
theorem drop_cons {α : Type} (d : α) (xs : List α) (k : Nat) (h : k < xs.length) : xs.drop k = xs.getD k d :: xs.drop (k+1) := by
  rw [List.drop_eq_getElem_cons h]; simp [List.getD_eq_getElem?_getD, h]
/-! A region whose operations are taken one by one in whatever order: an invariant that speaks of what has been done. -/
section
variable {P : Program} {Q : Exit → Act → World → Prop}
def StepAll (P : Program) (ops : Array Oper) (Q : Exit → Act → World → Prop) (Inv : (Nat → Bool) → Act → World → Prop) : List Oper → Nat → Prop
  | [], _ => True
  | o :: r, k => (∀ (D : Nat → Bool) (a : Act) (w : World), Inv D a w → D k = false → (∀ e ∈ o.after, Region.binds .any e = true → D e.on = true) →
      (if Region.wanted o (yielded ops a.tmps) then o.wp P a w (fun a' w' => Inv (fun j => j == k || D j) a' w') Q else Inv (fun j => j == k || D j) (a.put o.dst undef) w)) ∧ StepAll P ops Q Inv r (k + 1)

def edgesDown : List Oper → Nat → Bool
  | [], _ => true
  | o :: r, k => o.after.all (fun e => !Region.binds .any e || decide (e.on < k)) && edgesDown r (k + 1)

theorem edgesDown_at : ∀ (l : List Oper) (k : Nat), edgesDown l k = true → ∀ i o, l[i]? = some o → ∀ e ∈ o.after, Region.binds .any e = true → e.on < k + i
  | [], _, _, _, _, h => by simp at h
  | o :: r, k, h, i, o', hi => by
    simp only [edgesDown, Bool.and_eq_true] at h
    cases i with
    | zero =>
      simp at hi; subst hi
      intro e he hb
      have := Array.all_eq_true'.1 h.1 e he
      simpa [hb] using this
    | succ i =>
      intro e he hb
      have := edgesDown_at r (k + 1) h.2 i o' (by simpa using hi) e he hb
      omega

theorem StepAll.at_ {ops : Array Oper} {Inv : (Nat → Bool) → Act → World → Prop} : ∀ (l : List Oper) (k : Nat), StepAll P ops Q Inv l k → ∀ i o, l[i]? = some o →
    ∀ (D : Nat → Bool) (a : Act) (w : World), Inv D a w → D (k + i) = false → (∀ e ∈ o.after, Region.binds .any e = true → D e.on = true) →
      (if Region.wanted o (yielded ops a.tmps) then o.wp P a w (fun a' w' => Inv (fun j => j == (k + i) || D j) a' w') Q else Inv (fun j => j == (k + i) || D j) (a.put o.dst undef) w)
  | [], _, _, i, o, hi => by simp at hi
  | o :: r, k, h, i, o', hi => by
    cases i with
    | zero => simp at hi; subst hi; exact h.1
    | succ i =>
      have := StepAll.at_ r (k + 1) h.2 i o' (by simpa using hi)
      rw [show k + 1 + i = k + (i + 1) by omega] at this
      exact this

theorem wpAny_of_inv {l : List Oper} {Inv : (Nat → Bool) → Act → World → Prop} (hB : edgesDown l 0 = true) (hs : StepAll P l.toArray Q Inv l 0)
    (hext : ∀ D D' a w, (∀ i, i < l.length → D i = D' i) → Inv D a w → Inv D' a w)
    (he : ∀ a w, Inv (fun _ => true) a w → Q .normal a w) : ∀ (fuel : Nat) (listed : Array Bool) (a : Act) (w : World), listed.size = l.length → (l.length ≤ fuel + (listed.toList.filter id).length) →
      Inv (fun i => listed.getD i true) a w → wpAny P .any l.toArray Q fuel listed a w := by
  have hnil : ∀ (listed : Array Bool) (a : Act) (w : World), listed.size = l.length → Inv (fun i => listed.getD i true) a w → Region.ready .any l.toArray listed = [] → Q .normal a w := by
    intro listed a w hsz hi hr
    refine he a w (hext _ _ a w (fun i hil => ?_) hi)
    -- the least place that is not listed would be ready
    have hmin : ∀ i, i < l.length → listed.getD i true = true := by
      intro i
      induction i using Nat.strongRecOn with
      | _ i ih =>
        intro hil
        cases hb : listed.getD i true with
        | true => rfl
        | false =>
          exfalso
          obtain ⟨o, ho⟩ : ∃ o, l[i]? = some o := ⟨l[i], List.getElem?_eq_getElem hil⟩
          have : i ∈ Region.ready .any l.toArray listed := mem_ready.2 ⟨hb, o, by simpa using ho, fun e hem hbind => by
            have hlt := edgesDown_at l 0 hB i o ho e hem hbind
            have h1 := ih e.on (by omega) (by omega)
            have h2 : e.on < listed.size := by omega
            simp [h2] at h1 ⊢
            exact h1⟩
          rw [hr] at this
          cases this
    exact hmin i hil
  intro fuel
  induction fuel with
  | zero =>
    intro listed a w hsz hf hi
    have hall : Region.ready .any l.toArray listed = [] := by
      cases hr : Region.ready .any l.toArray listed with
      | nil => rfl
      | cons i rs =>
        exfalso
        have hmem : i ∈ Region.ready .any l.toArray listed := by rw [hr]; simp
        obtain ⟨hun, o, ho, _⟩ := mem_ready.1 hmem
        have hil : i < l.length := by have := (Array.getElem?_eq_some_iff.1 ho).1; simpa using this
        have hlen := List.length_filter_lt_length_iff_exists (p := (id : Bool → Bool)) (l := listed.toList) |>.2 ⟨listed.getD i true, by
          have : i < listed.size := by omega
          simp [this], by simp [hun]⟩
        have : listed.toList.length = l.length := by simpa using hsz
        omega
    exact ⟨hall, hnil listed a w hsz hi hall⟩
  | succ fuel ih =>
    intro listed a w hsz hf hi
    refine ⟨hnil listed a w hsz hi, fun i hmem => ?_⟩
    obtain ⟨hun, o, ho, hall⟩ := mem_ready.1 hmem
    have hil : i < l.length := by have := (Array.getElem?_eq_some_iff.1 ho).1; simpa using this
    have hst := StepAll.at_ l 0 hs i o (by simpa using ho) (fun i => listed.getD i true) a w hi (by simpa using hun) (fun e hem hbind => by
      have h1 := hall e hem hbind
      have h2 : e.on < listed.size := by have := edgesDown_at l 0 hB i o (by simpa using ho) e hem hbind; omega
      simp [h2] at h1 ⊢
      exact h1)
    rw [Nat.zero_add] at hst
    have hnext : ∀ a' w', Inv (fun j => j == i || listed.getD j true) a' w' → wpAny P .any l.toArray Q fuel (listed.setIfInBounds i true) a' w' := by
      intro a' w' h'
      refine ih _ a' w' (by simpa using hsz) ?_ (hext _ _ a' w' (fun j hj => ?_) h')
      · have hc : ((listed.setIfInBounds i true).toList.filter id).length = (listed.toList.filter id).length + 1 := by
          have hi' : i < listed.toList.length := by simp; omega
          have hf' : listed.toList[i] = false := by
            have : i < listed.size := by omega
            simp [this] at hun; simpa using hun
          rw [Array.toList_setIfInBounds]
          have e1 := List.take_append_drop i listed.toList
          have e2 : listed.toList.drop i = false :: listed.toList.drop (i + 1) := by rw [List.drop_eq_getElem_cons hi', hf']
          have e3 : listed.toList.set i true = listed.toList.take i ++ true :: listed.toList.drop (i + 1) := by
            rw [List.set_eq_take_append_cons_drop, if_pos hi']
          rw [e3]
          conv => rhs; rw [← e1, e2]
          simp
          omega
        omega
      · by_cases hji : j = i
        · subst hji
          have : j < listed.size := by omega
          simp [this]
        · have : j < listed.size := by omega
          simp [hji, this, Ne.symm hji]
    unfold wpOp
    rw [ho]
    show if Region.wanted o (yielded l.toArray a.tmps) = true then _ else _
    split
    · rename_i hw
      rw [if_pos hw] at hst
      exact .inl (Oper.wp_mono hnext hst)
    · rename_i hw
      rw [if_neg hw] at hst
      exact hnext _ _ hst

theorem region_inv {id : Nat} {a : Act} {w : World} {l : List Oper} (Inv : (Nat → Bool) → Act → World → Prop) (hm : P.follows .mixedOrders = true) (hB : edgesDown l 0 = true)
    (hext : ∀ D D' a w, (∀ i, i < l.length → D i = D' i) → Inv D a w → Inv D' a w)
    (h0 : ∀ D, (∀ i, i < l.length → D i = false) → Inv D a { w with drawn := w.drawn + 1 }) (hs : StepAll P l.toArray Q Inv l 0) (he : ∀ a w, Inv (fun _ => true) a w → Q .normal a w) : (Code.region id l.toArray true).wp P Q a w := by
  refine wp_region_any hm (wpAny_of_inv hB hs hext he _ _ _ _ (by simp) (by simp) (h0 _ (fun i hi => ?_)))
  have : i < (Array.replicate l.toArray.size false).size := by simpa using hi
  simp [hi]
end

end Go.Pol
namespace Go.Pol
open Go Go.RowKit Go.ChangeShapes Go.WideShapes Go.Deep
section
variable {H : Type} {enc : TypeId × Value → H} {P : Program}
/-- The row's last step where the call turned nothing that lay there. -/
theorem post_of_below {f : Func} {s : ChangeSpec} {apart fresh handsOn again : Bool} {W W' : World} {args : Array Value} {v : Value} {ds gs : List (DataW H)} {before pa pv : List MemPlace}
    (hW : DataW.Whole enc P f.params.toList s.vars apart W args.toList ds gs before)
    (hres : ∀ (b : Nat) (sp : Nat → Bool) (hd : Bool), DataW.TrodAll enc P W' b sp hd f.resultTypes.toList (v.resultList f.resultTypes.size) (s.fn H (ds ++ gs)).results [])
    (hargs : ∀ sp : Nat → Bool, (∀ p ∈ before, sp p.block = true) → DataW.TrodAll enc P W' 0 sp true f.params.toList args.toList (s.fn H (ds ++ gs)).args pa)
    (hvars : ∀ sp : Nat → Bool, (∀ p ∈ before, sp p.block = true) → DataW.TrodVars enc P W' sp s.vars (s.fn H (ds ++ gs)).vars pv)
    (hps : before = pa ++ pv) (hb : Below W.heap.size W W')
    (hok : ∀ (j : Nat) (t : TypeId) (r : Value), f.resultTypes[j]? = some t → (v.resultList f.resultTypes.size)[j]? = some r → Value.okWide P W' .any 0 t r) :
    s.post enc P f apart fresh handsOn again W args v W' := by
  have hlt : ∀ p ∈ before, p.block < W.heap.size := fun p hp => hW.lt p hp
  have hold : ∀ p ∈ before, (fun b => decide (b < W.heap.size)) p.block = true := fun p hp => by simpa using hlt p hp
  refine ⟨ds, gs, before, [], pa, pv, hW, hres _ _ _, hargs _ hold, hvars _ hold, World.keptBut_mono (fun p hp => ⟨hp, ?_⟩) (hb.frame (· ∈ before)), fun _ => ?_⟩
  · rw [hps, List.mem_append] at hp
    exact Or.inr hp
  · obtain ⟨_, _, _, _, _, hz, hn⟩ := hW
    refine ⟨hok, _, _, ([] ++ pa) ++ pv, ⟨[] ++ pa, pv, trodAll_append (hargs _ (fun _ _ => rfl)) (hres _ _ _), hvars _ (fun _ _ => rfl), rfl, ?_, ?_⟩, ?_⟩
    · intro b off hp
      have hin : MemPlace.cell b off ∈ before := by rw [hps]; simpa using hp
      rw [hb.frozen (hlt _ hin)]
      exact hz b off hin
    · intro ha
      have := hn ha
      rw [hps] at this
      simpa using this
    · intro p hp _
      rw [hps]
      simpa using hp
end
section
variable {H : Type} {enc : TypeId × Value → H} {P : Program} {w : World} {base : Nat} {spare : Nat → Bool} {held : Bool}
theorem open_slice_fields {t e : TypeId} {fs : Array Field} {fuel : Nat} {cs : List Value} {x : DataW H × List MemPlace} (ht : P.underlying t = some (.slice e)) (he : P.underlying e = some (.struct fs))
    (hone : oneCellFields P fs = true) (hC : P.cellsOf e = fs.size) (h : DataW.trod enc P w base spare held fuel t cs = some x) :
    (cs = [.slice none 0 0] ∧ x = (.nil, [])) ∨
    ∃ (a : Addr) (len cap m : Nat) (D : Nat → DataW H) (Pl : Nat → List MemPlace), cs = [.slice (some a) len cap] ∧ base ≤ a.block ∧ len ≤ cap ∧ cap ≤ maxLen ∧ m = (if spare a.block then cap else len) ∧
      x = (.slice ((List.range len).map D) ((List.range (m - len)).map fun j => D (len + j)), MemPlace.row a (m * fs.size) ++ (List.range m).flatMap Pl) ∧
      ∀ i, i < m → ∃ (ys : List (DataW H × List MemPlace)) (n : Nat), D i = .agg (ys.map (·.1)) ∧ Pl i = ys.flatMap (·.2) ∧ ys.length = fs.size ∧
        ∀ (j : Nat) (f : Field), fs[j]? = some f → ∃ (v : Value) (y : DataW H × List MemPlace), w.cell? (a.add (i * fs.size + j)) = some v ∧ ys[j]? = some y ∧ DataW.trod enc P w base spare held n f.type [v] = some y := by
  rcases open_slice ht h with h0 | ⟨a, len, cap, m, n, D, Pl, hcs, hb, hl, hm, hmm, hx, hi⟩
  · exact .inl h0
  · refine .inr ⟨a, len, cap, m, D, Pl, hcs, hb, hl, hm, hmm, by rw [hC] at hx; exact hx, fun i him => ?_⟩
    obtain ⟨cs', hc, ht'⟩ := hi i him
    rw [hC] at hc
    obtain ⟨ys, n', hn', hy, hlen, hyl, hf⟩ := DataW.trod_struct he ht'
    obtain ⟨_, hcl, hat⟩ := World.cells?_some hc
    simp only [Prod.mk.injEq] at hy
    refine ⟨ys, n', hy.1, hy.2, hyl, fun j f hj => ?_⟩
    obtain ⟨ho, hk⟩ := hone_of hone j f hj
    have hjl : j < fs.size := (Array.getElem?_eq_some_iff.1 hj).1
    have hcell := hat j hjl
    have hv : cs'[j]? = some (cs'[j]'(by omega)) := List.getElem?_eq_getElem (by omega)
    have h1 := hf j f hj
    rw [ho, hk] at h1
    have hone' : (cs'.drop j).take 1 = [cs'[j]'(by omega)] := by
      rw [List.drop_eq_getElem_cons (by omega)]
      rfl
    rw [hone'] at h1
    have hys : ys[j]? = some (ys[j]'(by omega)) := List.getElem?_eq_getElem (by omega)
    refine ⟨_, _, ?_, hys, h1.trans hys⟩
    rw [← Go.Deep.add_add, hcell, hv]
/-- A slice of pairs of integers that came in reads as a list. -/
theorem openU {t e : TypeId} {f0 f1 : Field} {fuel : Nat} {v : Value} {x : DataW H × List MemPlace} (ht : P.underlying t = some (.slice e)) (he : P.underlying e = some (.struct #[f0, f1])) (hone : oneCellFields P #[f0, f1] = true) (hC : P.cellsOf e = 2)
    (h0 : P.underlying f0.type = some (.int .i64)) (h1 : P.underlying f1.type = some (.int .i64))
    (h : DataW.trod enc P w base (fun _ => true) held fuel t [v] = some x) : ∃ (A : Option Addr) (n cap : Nat) (us : List (Int × Int)), v = .slice A n cap ∧ us.length = n ∧ n ≤ maxLen ∧ RU w w.heap.size A us := by
  rcases open_slice_fields ht he hone hC h with ⟨hcs, _⟩ | ⟨a, len, cap, m, D, Pl, hcs, _, hl, hm, hmm, _, hi⟩
  · simp only [List.cons.injEq, and_true] at hcs
    exact ⟨none, 0, 0, [], hcs, rfl, by unfold maxLen; omega, RU.nil⟩
  · simp only [List.cons.injEq, and_true] at hcs
    simp only [if_true] at hmm
    have each : ∀ i, i < len → ∃ p q : Int, w.cell? (a.add (i * 2)) = some (.int .i64 p) ∧ w.cell? (a.add (i * 2 + 1)) = some (.int .i64 q) := by
      intro i hil
      obtain ⟨ys, n, _, _, _, hf⟩ := hi i (by omega)
      obtain ⟨v0, y0, c0, _, t0⟩ := hf 0 f0 rfl
      obtain ⟨v1, y1, c1, _, t1⟩ := hf 1 f1 rfl
      obtain ⟨p, e0, _⟩ := DataW.trod_int h0 t0
      obtain ⟨q, e1, _⟩ := DataW.trod_int h1 t1
      simp only [List.cons.injEq, and_true] at e0 e1
      subst e0; subst e1
      exact ⟨p, q, c0, c1⟩
    obtain ⟨f, hf⟩ := Classical.axiomOfChoice (r := fun (i : Nat) (pq : Int × Int) => i < len → w.cell? (a.add (i * 2)) = some (.int .i64 pq.1) ∧ w.cell? (a.add (i * 2 + 1)) = some (.int .i64 pq.2)) (fun i => by
      by_cases hil : i < len
      · obtain ⟨p, q, c0, c1⟩ := each i hil
        exact ⟨(p, q), fun _ => ⟨c0, c1⟩⟩
      · exact ⟨(0, 0), fun h => absurd h hil⟩)
    refine ⟨some a, len, cap, (List.range len).map f, hcs, by simp, by omega, ?_⟩
    intro k hk
    have hk' : k < len := by simpa using hk
    obtain ⟨c0, c1⟩ := hf k hk'
    obtain ⟨b, off, spot⟩ := a
    have hspot : spot = none := by
      obtain ⟨c0', _⟩ := hf 0 (by omega)
      simpa [Addr.add] using World.cell?_spot c0'
    subst hspot
    rw [add_plain] at c0 c1
    have e : ((List.range len).map f).getD k (0, 0) = f k := by simp [List.getD_eq_getElem?_getD, hk']
    refine ⟨b, off, rfl, World.block_lt_of_cell? _ _ c0, ?_, ?_⟩
    · rw [e]; exact c0
    · rw [e, Nat.add_assoc]; exact c1
end
end Go.Pol
namespace Go.Pol
open Go Go.RowKit

/-- B differs from A at blocks of T alone; it may have more blocks. -/
structure Far (T : Nat → Prop) (A B : World) : Prop where
  os : B.os = A.os
  tape : B.tape = A.tape
  output : B.output = A.output
  size : A.heap.size ≤ B.heap.size
  block : ∀ k, k < A.heap.size → ¬ T k → B.heap[k]? = A.heap[k]?
section
variable {T T' : Nat → Prop} {A B C : World}
theorem Far.refl (T : Nat → Prop) (A : World) : Far T A A := ⟨rfl, rfl, rfl, Nat.le_refl _, fun _ _ _ => rfl⟩
theorem Far.trans (h : Far T A B) (k : Far T B C) : Far T A C :=
  ⟨k.os.trans h.os, k.tape.trans h.tape, k.output.trans h.output, Nat.le_trans h.size k.size, fun i hi hT => (k.block i (Nat.lt_of_lt_of_le hi h.size) hT).trans (h.block i hi hT)⟩
theorem Far.mono (h : Far T A B) (hT : ∀ k, k < A.heap.size → T k → T' k) : Far T' A B := ⟨h.os, h.tape, h.output, h.size, fun k hk hn => h.block k hk (fun ht => hn (hT k hk ht))⟩
/-- the first world's own blocks -/
theorem Far.trans' (h : Far T A B) (k : Far T' B C) (hT : ∀ i, i < A.heap.size → T' i → T i) : Far T A C :=
  ⟨k.os.trans h.os, k.tape.trans h.tape, k.output.trans h.output, Nat.le_trans h.size k.size, fun i hi hn => (k.block i (Nat.lt_of_lt_of_le hi h.size) (fun ht => hn (hT i hi ht))).trans (h.block i hi hn)⟩
theorem Far.of_below (h : Below A.heap.size A B) : Far T A B := ⟨h.os, h.tape, h.output, h.size, fun k hk _ => h.block k hk⟩
theorem Far.below {n : Nat} (h : Far T A B) (hn : n ≤ A.heap.size) (hT : ∀ k, k < n → ¬ T k) : Below n A B := ⟨h.os, h.tape, h.output, h.size, fun k hk => h.block k (by omega) (hT k hk)⟩
theorem Far.alloc (h : Far T A B) (o : Obj) : Far T A (B.alloc o) := h.trans (.of_below ((Below.refl _ _).alloc (Nat.le_refl _) o))
theorem Far.drew (h : Far T A B) : Far T A B.drew := h.trans (.of_below ((Below.refl _ _).drew))
theorem Far.setCell (h : Far T A B) {p : Addr} (hp : p.block < A.heap.size → T p.block) (v : Value) : Far T A (B.setCell p v) := by
  refine ⟨h.os, h.tape, h.output, Nat.le_trans h.size (KeepsWalks.setCell B p v).size, fun k hk hT => (Below.heap_setCell B p v k (fun e => ?_)).trans (h.block k hk hT)⟩
  exact hT (by rw [e]; exact hp (by rw [← e]; exact hk))
theorem Far.putObj (h : Far T A B) {l : Nat} (hl : l < A.heap.size → T l) (o : Obj) : Far T A (B.putObj l o) :=
  ⟨h.os, h.tape, h.output, by rw [World.putObj_size]; exact h.size, fun k hk hT => (World.putObj_heap_other (fun e => hT (by rw [e]; exact hl (by rw [← e]; exact hk)))).trans (h.block k hk hT)⟩
theorem Far.call (h : Far T A B) (hb : Below B.heap.size B C) : Far T A C := h.trans (.of_below hb)
theorem Far.blk {g : Nat} {t : TypeId} {cs : Array Value} (h : Far T A B) (hg : Blk A g t cs) (hT : ¬ T g) : Blk B g t cs := (h.block g hg.lt hT).trans hg
theorem Far.same {l : Nat} {o : Obj} (h : Far T A B) (hl : A.heap[l]? = some o) (hT : ¬ T l) : B.heap[l]? = some o := (h.block l (Array.getElem?_eq_some_iff.1 hl).1 hT).trans hl
theorem Far.cell {p : Addr} {v : Value} (h : Far T A B) (hc : A.cell? p = some v) (hT : ¬ T p.block) : B.cell? p = some v := by
  have hb : p.block < A.heap.size := World.block_lt_of_cell? _ _ hc
  have := h.block p.block hb hT
  simp only [World.cell?] at hc ⊢
  rw [this]; exact hc
theorem Far.frozen {p : Addr} {v : Value} (h : Far T A B) (hc : A.cell? p = some v) (hf : A.frozen? p = false) (hT : ¬ T p.block) : B.frozen? p = false := by
  have hb : p.block < A.heap.size := World.block_lt_of_cell? _ _ hc
  have := h.block p.block hb hT
  simp only [World.frozen?] at hf ⊢
  rw [this]; exact hf
theorem Far.ru {Bn : Nat} {Ad : Option Addr} {us : List (Int × Int)} (h : Far T A B) (hr : RU A Bn Ad us) (hT : ∀ b o, Ad = some ⟨b, o, none⟩ → ¬ T b) : RU B Bn Ad us := fun k hl => by
  obtain ⟨b, o, e, hb, hc, hd⟩ := hr k hl
  exact ⟨b, o, e, hb, h.cell hc (hT b o e), h.cell hd (hT b o e)⟩
theorem Far.ri {Bn : Nat} {Ad : Option Addr} {us : List Int} (h : Far T A B) (hr : RI A Bn Ad us) (hT : ∀ b o, Ad = some ⟨b, o, none⟩ → ¬ T b) : RI B Bn Ad us := fun k hl => by
  obtain ⟨b, o, e, hb, hc⟩ := hr k hl
  exact ⟨b, o, e, hb, h.cell hc (hT b o e)⟩
end

/-- the contract of a function value that is ranged over: it goes through just 'xs' -/
def SeqF {α : Type} (P : Program) (g : Nat) (lb : Array Value) (encs : α → Array Value) (T K : Nat → Prop) (xs : List α) (w : World) : Prop :=
  ∀ (n l : Nat) (J Jx : List α → World → Prop) (W : World), Far (fun k => ¬ K k) w W →
    (∀ pre A B, J pre A → Far T A B → J pre B) → (∀ pre A B, Jx pre A → Far T A B → Jx pre B) →
    (∀ m pre x W1, J pre W1 → pre ++ [x] <+: xs → YieldAt Fence.wide m P l (encs x) W1 fun e W' =>
      (e = .returned (.bool true) ∧ J (pre ++ [x]) W' ∧ Far (fun k => ¬ K k) W1 W') ∨ (e = .returned (.bool false) ∧ Jx (pre ++ [x]) W')) →
    J [] W →
    CallsIn Fence.wide n P g (#[.func (.yield l) #[] #[]] ++ lb) W fun e W' => (∃ v, e = .returned v) ∧ (J xs W' ∨ ∃ pre, pre <+: xs ∧ Jx pre W')

theorem SeqF.later {α : Type} {P : Program} {g : Nat} {lb : Array Value} {encs : α → Array Value} {T K : Nat → Prop} {xs : List α} {w w' : World}
    (h : SeqF P g lb encs T K xs w) (hw : Far (fun k => ¬ K k) w w') : SeqF P g lb encs T K xs w' :=
  fun n l J Jx W hW => h n l J Jx W (hw.trans hW)

/-- how a round's body may be left -/
def fPost {α : Type} (D : Nat) (K : Nat → Prop) (I : List α → World → Prop) (Ix : Code → List α → World → Prop) (xs : List α) (W : World) : Exit → Act → World → Prop
  | .normal, _, W' => Far (fun k => ¬ (K k ∨ k = D ∨ k = D + 1)) W W' ∧ I xs W'
  | .ret, _, W' => Far (fun k => ¬ (k = D ∨ k = D + 1)) W W' ∧ Ix .ret xs W'
  | .exit id, _, W' => Far (fun k => ¬ (k = D ∨ k = D + 1)) W W' ∧ Ix (.exit id) xs W'
  | .goto t, _, W' => Far (fun k => ¬ (k = D ∨ k = D + 1)) W W' ∧ Ix (.goto t) xs W'
  | .panic _, _, _ => False
  | .outgrown, _, _ => False

/-- the mark that the statement leaves among the activation's deferred calls -/
abbrev markOf (D : Nat) : Deferred := { target := .collected D, args := #[] }

theorem rangeF {α : Type} {P : Program} {g : Operand} {ps : Array Tmp} {assign body : Code} {Q : Exit → Act → World → Prop} {a : Act} {w : World}
    {gf : Nat} {lb : Array Value} (hg : a.eval g = .func (.func gf) #[] lb) (eg : ∀ args w, (callFunc gf args).run P w = .ok (.enter gf args) w)
    {encs : α → Array Value} {T K : Nat → Prop} {xs : List α} (hseq : SeqF P gf lb encs T K xs w) (hps : ∀ x, (encs x).size = ps.size)
    (hT : ∀ k, T k → k < w.heap.size) (hK : ∀ k, K k → k < w.heap.size)
    (I : List α → World → Prop) (Ix : Code → List α → World → Prop)
    (hI : ∀ pre A B, I pre A → Far (fun k => T k ∨ k = w.heap.size ∨ k = w.heap.size + 1) A B → I pre B)
    (hIx : ∀ c pre A B, Ix c pre A → Far (fun k => T k ∨ k = w.heap.size ∨ k = w.heap.size + 1) A B → Ix c pre B)
    (h0 : I [] w) (Ax : Nat → α → Act → World → Prop) (hAx : ∀ N x a' A B, Ax N x a' A → Far (fun k => k = w.heap.size + 1) A B → Ax N x a' B)
    (hassign : ∀ (m l : Nat) (x : α) (W : World) (C : Act → World → Prop), w.heap.size + 2 ≤ W.heap.size → (∀ a' W', Far (fun _ => False) W W' → Ax W.heap.size x a' W' → C a' W') →
      assign.wpIn (Fence.wide.inRound l) m P (Exit.then C (fun _ _ _ => False)) { tmps := (ps.zip (encs x)).foldl (fun t (p, v) => t.setIfInBounds p v) a.tmps, defers := [] } W)
    (hbody : ∀ (m l : Nat) (pre : List α) (x : α) (a' : Act) (Wa W : World), w.heap.size + 2 ≤ W.heap.size → I pre W → Ax Wa.heap.size x a' W → pre ++ [x] <+: xs → I pre Wa → Far (fun k => k = w.heap.size + 1) Wa W →
      body.wpIn (Fence.wide.inRound l) m P (fPost w.heap.size K I Ix (pre ++ [x]) W) a' W)
    (hdone : ∀ (W : World), w.heap.size + 2 ≤ W.heap.size → I xs W → W.heap[w.heap.size]? = some (.deferred (some [])) → Q .normal { a with defers := markOf w.heap.size :: a.defers } W)
    (hstop : ∀ (c : Code) (pre : List α) (W : World), w.heap.size + 2 ≤ W.heap.size → pre <+: xs → Ix c pre W → W.heap[w.heap.size]? = some (.deferred (some [])) → c.wp P Q { a with defers := markOf w.heap.size :: a.defers } W) :
    (Code.rangeFunc g ps assign body).wp P Q a w := by
  refine (wpIn_wide (n := 0)).1 (wpIn_rangeFunc fun fn _ => ?_)
  obtain ⟨D, hD⟩ : ∃ D, w.heap.size = D := ⟨_, rfl⟩
  -- the loop's record, in its three states
  obtain ⟨rec, hrec⟩ : ∃ rec : LoopState → Option Code → Loop, rec = fun s p => { state := s, pending := p, fn, tmps := a.tmps, params := ps, assign, body, defers := D } := ⟨_, rfl⟩
  obtain ⟨W1, hW1⟩ : ∃ W1, (w.alloc (.deferred (some []))).alloc (.loop (rec .ready none)) = W1 := ⟨_, rfl⟩
  have hent : (Instr.enterLoop fn a.tmps ps assign body none).run P w = .ok (D + 1, [markOf D]) W1 := by
    rw [← hW1, hrec, ← hD]; exact run_enterLoop_outer _ _ _ _ _
  have hfar : Far (fun _ => False) w W1 := by rw [← hW1]; exact ((Far.refl _ w).alloc _).alloc _
  have hl1 : W1.heap[D + 1]? = some (.loop (rec .ready none)) := by
    rw [← hW1, ← hD]
    have := World.alloc_heap_new (w.alloc (.deferred (some []))) (.loop (rec .ready none))
    rwa [World.size_alloc] at this
  have hd1 : W1.heap[D]? = some (.deferred (some [])) := by
    rw [← hW1, ← hD]; exact (Below.heap_alloc _ _ _ (by simp)).trans (World.alloc_heap_new w _)
  rw [hD] at hT hK hI hIx hAx hassign hbody hdone hstop
  refine ⟨D + 1, [markOf D], W1, { target := .fn (.func gf) lb, args := #[.func (.yield (D + 1)) #[] #[]] }, W1, gf, #[.func (.yield (D + 1)) #[] #[]] ++ lb, W1, hent, ?_, fun _ _ => trivial, ?_, fun h => (by cases h), ?_⟩
  · simp only [resolve, hg]
    simp [go_sem]
  · simp [invoke, go_sem, eg]
  -- what the iterator carries: the loop's invariant, the record, the block for deferred calls
  let J : List α → World → Prop := fun pre W => I pre W ∧ W.heap[D + 1]? = some (.loop (rec .ready none)) ∧ W.heap[D]? = some (.deferred (some []))
  let Jx : List α → World → Prop := fun pre W => ∃ c, Ix c pre W ∧ W.heap[D + 1]? = some (.loop (rec .done (some c))) ∧ W.heap[D]? = some (.deferred (some []))
  have hnT : ∀ k, T k → k ≠ D ∧ k ≠ D + 1 := fun k hk => by have := hT k hk; omega
  have hnK : ∀ k, K k → k ≠ D ∧ k ≠ D + 1 := fun k hk => by have := hK k hk; omega
  refine (hseq _ (D + 1) J Jx W1 (hfar.mono (fun _ _ h => h.elim)) (fun pre A B h hf => ⟨hI pre A B h.1 (hf.mono fun _ _ ht => .inl ht), hf.same h.2.1 (fun h => (hnT _ h).2 rfl), hf.same h.2.2 (fun h => (hnT _ h).1 rfl)⟩)
    (fun pre A B h hf => by
      obtain ⟨c, h1, h2, h3⟩ := h
      exact ⟨c, hIx c pre A B h1 (hf.mono fun _ _ ht => .inl ht), hf.same h2 (fun h => (hnT _ h).2 rfl), hf.same h3 (fun h => (hnT _ h).1 rfl)⟩)
    ?_ ⟨hI [] w W1 h0 (hfar.mono fun _ _ h => h.elim), hl1, hd1⟩).mono ?_
  · -- a round
    rintro m pre x Wa ⟨hi, hl, hd⟩ hpre
    have hlt : D + 1 < Wa.heap.size := (Array.getElem?_eq_some_iff.1 hl).1
    have hy := run_yield (P := P) (args := encs x) hl (by rw [hrec]; exact hps x)
    rw [hrec] at hy
    refine ⟨fn, _, assign, body, hy, roundIn_of_wpIn trivial (hassign m (D + 1) x Wa _ (by omega) fun a' Wb hab hax => ?_)⟩
    have hlb := hab.same hl id
    have hdb := hab.same hd id
    have hib := hI pre Wa Wb hi (hab.mono fun _ _ h => h.elim)
    have hltb : D + 1 < Wb.heap.size := (Array.getElem?_eq_some_iff.1 hlb).1
    refine ⟨_, run_beginRound hlb (by rw [hrec]), ?_⟩
    obtain ⟨Wc, hWc⟩ : ∃ Wc, Wb.putObj (D + 1) (.loop { rec .ready none with state := .busy }) = Wc := ⟨_, rfl⟩
    rw [hWc]
    have hbc : Far (fun k => k = D + 1) Wb Wc := by rw [← hWc]; exact Far.putObj (T := fun k => k = D + 1) (Far.refl _ Wb) (fun _ => rfl) _
    have hlc : Wc.heap[D + 1]? = some (.loop { rec .ready none with state := .busy }) := by rw [← hWc]; exact World.putObj_heap_same hltb
    have hdc : Wc.heap[D]? = some (.deferred (some [])) := hbc.same hdb (by omega)
    have hltc : D + 1 < Wc.heap.size := (Array.getElem?_eq_some_iff.1 hlc).1
    refine wpIn_mono (hbody m (D + 1) pre x a' Wa Wc (by omega) (hI pre Wb Wc hib (hbc.mono fun _ _ h => .inr (.inr h))) (hAx _ x a' Wb Wc hax hbc) hpre hi ((hab.mono fun _ _ h => h.elim : Far (fun k => k = D + 1) Wa Wb).trans hbc)) ?_
    -- what 'endRound' makes of it
    have fin : ∀ (j : Option Code) (Wd : World), Far (fun k => ¬ (k = D ∨ k = D + 1)) Wc Wd →
        (Instr.endRound (D + 1) j).run P Wd = .ok (.bool j.isNone) (Wd.putObj (D + 1) (.loop (rec (if j.isNone then .ready else .done) j))) ∧
        (Wd.putObj (D + 1) (.loop (rec (if j.isNone then .ready else .done) j))).heap[D + 1]? = some (.loop (rec (if j.isNone then .ready else .done) j)) ∧
        (Wd.putObj (D + 1) (.loop (rec (if j.isNone then .ready else .done) j))).heap[D]? = some (.deferred (some [])) := fun j Wd hcd => by
      have hld := hcd.same hlc (fun h => h (.inr rfl))
      have he := run_endRound (P := P) j hld
      rw [hrec] at he ⊢
      exact ⟨he, World.putObj_heap_same (Array.getElem?_eq_some_iff.1 hld).1, (World.putObj_heap_other (by omega)).trans (hcd.same hdc (fun h => h (.inl rfl)))⟩
    have back : ∀ (o : Obj) (Wd : World), Far (fun k => T k ∨ k = D ∨ k = D + 1) Wd (Wd.putObj (D + 1) o) := fun o Wd => (Far.refl _ Wd).putObj (fun _ => .inr (.inr rfl)) o
    intro e a3 Wd hp
    cases e with
    | normal =>
      obtain ⟨hcd, hid⟩ := hp
      obtain ⟨h1, h2, h3⟩ := fin none Wd (hcd.mono fun k _ h h' => h (.inr h'))
      refine ⟨_, _, h1, .inl ⟨rfl, ⟨hI _ _ _ hid (back _ Wd), h2, h3⟩, ?_⟩⟩
      refine (((hab.mono fun _ _ h => h.elim : Far (fun k => ¬ K k) Wa Wb).trans (hbc.mono fun k _ h hk => (hnK k hk).2 h)).trans (hcd.mono fun k _ h hk => h (.inl hk))).putObj (fun _ hk => (hnK _ hk).2 rfl) _
    | ret =>
      obtain ⟨hcd, hid⟩ := hp
      obtain ⟨h1, h2, h3⟩ := fin (some .ret) Wd hcd
      exact ⟨_, _, h1, .inr ⟨rfl, .ret, hIx _ _ _ _ hid (back _ Wd), h2, h3⟩⟩
    | exit id =>
      obtain ⟨hcd, hid⟩ := hp
      obtain ⟨h1, h2, h3⟩ := fin (some (.exit id)) Wd hcd
      exact ⟨_, _, h1, .inr ⟨rfl, .exit id, hIx _ _ _ _ hid (back _ Wd), h2, h3⟩⟩
    | goto t =>
      obtain ⟨hcd, hid⟩ := hp
      obtain ⟨h1, h2, h3⟩ := fin (some (.goto t)) Wd hcd
      exact ⟨_, _, h1, .inr ⟨rfl, .goto t, hIx _ _ _ _ hid (back _ Wd), h2, h3⟩⟩
    | panic ch => exact hp.elim
    | outgrown => exact hp.elim
  · -- behind the iterator
    have back : ∀ (o : Obj) (Wd : World), Far (fun k => T k ∨ k = D ∨ k = D + 1) Wd (Wd.putObj (D + 1) o) := fun o Wd => (Far.refl _ Wd).putObj (fun _ => .inr (.inr rfl)) o
    rintro e W2 ⟨⟨v, rfl⟩, h2⟩
    rcases h2 with ⟨hi, hl, hd⟩ | ⟨pre, hpre, c, hi, hl, hd⟩
    · have he := run_endLoop (P := P) hl (by rw [hrec]; simp)
      rw [hrec] at he
      have hlt : D + 1 < W2.heap.size := (Array.getElem?_eq_some_iff.1 hl).1
      exact ⟨none, _, he, hdone _ (by rw [World.putObj_size]; omega) (hI _ _ _ hi (back _ W2)) ((World.putObj_heap_other (by omega)).trans hd)⟩
    · have he := run_endLoop (P := P) hl (by rw [hrec]; simp)
      rw [hrec] at he
      have hlt : D + 1 < W2.heap.size := (Array.getElem?_eq_some_iff.1 hl).1
      exact ⟨some c, _, he, (wpIn_wide (n := 0)).2 (hstop c pre _ (by rw [World.putObj_size]; omega) hpre (hIx _ _ _ _ hi (back _ W2)) ((World.putObj_heap_other (by omega)).trans hd))⟩

/-- a function whose body holds such a statement is entered -/
theorem calls_of_marks {P : Program} {f : FuncId} {fn : Func} {c : Code} {args : Array Value} {w : World} {R : Ending → World → Prop}
    (hf : P.funcs[f]? = some fn) (hb : fn.body = some c) (h : c.wp P (bodyPostM Fence.wide 0 P fn R) { tmps := args ++ Array.replicate (fn.ntmps - args.size) undef, defers := [] } w) : Calls P f args w R :=
  (callsIn_wide (n := 0)).1 (callsIn_of_wp_marks hf hb trivial (wpIn_wide.2 h))
/-- it returns behind the statement -/
theorem leave_mark {P : Program} {fn : Func} {tmps : Array Value} {w : World} {R : Ending → World → Prop} {D : Nat} {v : Value} (hd : w.heap[D]? = some (.deferred (some [])))
    (hres : (results fn tmps).run P (w.putObj D (.deferred none)) = .ok v (w.putObj D (.deferred none))) (hR : R (.returned v) (w.putObj D (.deferred none))) :
    bodyPostM Fence.wide 0 P fn R .ret { tmps := tmps, defers := [markOf D] } w :=
  ⟨by simp, .inl ⟨_, _, rfl, run_takeDeferred hd, v, hres, hR⟩⟩
/-- it returns ahead of the statement -/
theorem leave_none {P : Program} {fn : Func} {tmps : Array Value} {w : World} {R : Ending → World → Prop} {v : Value}
    (hres : (results fn tmps).run P w = .ok v w) (hR : R (.returned v) w) : bodyPostM Fence.wide 0 P fn R .ret { tmps := tmps, defers := [] } w := ⟨v, hres, hR⟩
theorem wide_fn (k : Nat) : Fence.wide.fn k = True := rfl
theorem wide_depth : Fence.wide.depth = none := rfl
theorem wide_fn' (k l : Nat) : (Fence.wide.inRound l).fn k = True := rfl
theorem wide_depth' (l : Nat) : (Fence.wide.inRound l).depth = none := rfl
end Go.Pol
namespace Go.Pol
open Go Go.RowKit

/-- the contract of a function value that is ranged over, and that makes blocks of its own (X): it goes through just 'xs' -/
def SeqX {α : Type} (P : Program) (g : Nat) (lb : Array Value) (encs : α → Array Value) (T K : Nat → Prop) (xs : List α) (w : World) : Prop :=
  ∀ (n l : Nat) (J Jx : (Nat → Prop) → List α → World → Prop) (W : World), Far (fun k => ¬ K k) w W →
    (∀ X pre A B, J X pre A → Far (fun k => T k ∨ X k) A B → J X pre B) → (∀ X pre A B, Jx X pre A → Far (fun k => T k ∨ X k) A B → Jx X pre B) →
    (∀ X X' pre A, J X pre A → (∀ k, X' k → X k ∨ A.heap.size ≤ k) → J X' pre A) →
    (∀ m X pre x W1, J X pre W1 → (∀ k, X k → k < W1.heap.size) → pre ++ [x] <+: xs → YieldAt Fence.wide m P l (encs x) W1 fun e W' =>
      (e = .returned (.bool true) ∧ J X (pre ++ [x]) W' ∧ Far (fun k => ¬ (K k ∨ X k)) W1 W') ∨ (e = .returned (.bool false) ∧ Jx X (pre ++ [x]) W')) →
    J (fun _ => False) [] W →
    CallsIn Fence.wide n P g (#[.func (.yield l) #[] #[]] ++ lb) W fun e W' => (∃ v, e = .returned v) ∧ ((∃ X, J X xs W') ∨ ∃ X pre, pre <+: xs ∧ Jx X pre W')

theorem SeqX.later {α : Type} {P : Program} {g : Nat} {lb : Array Value} {encs : α → Array Value} {T K : Nat → Prop} {xs : List α} {w w' : World}
    (h : SeqX P g lb encs T K xs w) (hw : Far (fun k => ¬ K k) w w') : SeqX P g lb encs T K xs w' :=
  fun n l J Jx W hW => h n l J Jx W (hw.trans hW)
/-- how a round's body may be left -/
def xPost {α : Type} (D : Nat) (K X : Nat → Prop) (I : (Nat → Prop) → List α → World → Prop) (Ix : Code → (Nat → Prop) → List α → World → Prop) (xs : List α) (W : World) : Exit → Act → World → Prop
  | .normal, _, W' => Far (fun k => ¬ (K k ∨ X k ∨ k = D ∨ k = D + 1)) W W' ∧ I X xs W'
  | .ret, _, W' => Far (fun k => ¬ (k = D ∨ k = D + 1)) W W' ∧ Ix .ret X xs W'
  | .exit id, _, W' => Far (fun k => ¬ (k = D ∨ k = D + 1)) W W' ∧ Ix (.exit id) X xs W'
  | .goto t, _, W' => Far (fun k => ¬ (k = D ∨ k = D + 1)) W W' ∧ Ix (.goto t) X xs W'
  | .panic _, _, _ => False
  | .outgrown, _, _ => False

theorem rangeX {α : Type} {P : Program} {g : Operand} {ps : Array Tmp} {assign body : Code} {Q : Exit → Act → World → Prop} {a : Act} {w : World}
    {gf : Nat} {lb : Array Value} (hg : a.eval g = .func (.func gf) #[] lb) (eg : ∀ args w, (callFunc gf args).run P w = .ok (.enter gf args) w)
    {encs : α → Array Value} {T K : Nat → Prop} {xs : List α} (hseq : SeqX P gf lb encs T K xs w) (hps : ∀ x, (encs x).size = ps.size)
    (hT : ∀ k, T k → k < w.heap.size) (hK : ∀ k, K k → k < w.heap.size)
    (I : (Nat → Prop) → List α → World → Prop) (Ix : Code → (Nat → Prop) → List α → World → Prop)
    (hI : ∀ X pre A B, I X pre A → Far (fun k => T k ∨ X k ∨ k = w.heap.size ∨ k = w.heap.size + 1) A B → I X pre B)
    (hIx : ∀ c X pre A B, Ix c X pre A → Far (fun k => T k ∨ X k ∨ k = w.heap.size ∨ k = w.heap.size + 1) A B → Ix c X pre B)
    (hnew : ∀ X X' pre A, I X pre A → (∀ k, X' k → X k ∨ A.heap.size ≤ k) → I X' pre A)
    (h0 : I (fun _ => False) [] w) (Ax : Nat → α → Act → World → Prop) (hAx : ∀ N x a' A B, Ax N x a' A → Far (fun k => k = w.heap.size + 1) A B → Ax N x a' B)
    (hassign : ∀ (m l : Nat) (x : α) (W : World) (C : Act → World → Prop), w.heap.size + 2 ≤ W.heap.size → (∀ a' W', Far (fun _ => False) W W' → Ax W.heap.size x a' W' → C a' W') →
      assign.wpIn (Fence.wide.inRound l) m P (Exit.then C (fun _ _ _ => False)) { tmps := (ps.zip (encs x)).foldl (fun t (p, v) => t.setIfInBounds p v) a.tmps, defers := [] } W)
    (hbody : ∀ (m l : Nat) (X : Nat → Prop) (pre : List α) (x : α) (a' : Act) (Wa W : World), w.heap.size + 2 ≤ W.heap.size → (∀ k, X k → k < Wa.heap.size ∧ k ≠ w.heap.size ∧ k ≠ w.heap.size + 1) → I X pre W → Ax Wa.heap.size x a' W → pre ++ [x] <+: xs → I X pre Wa → Far (fun k => k = w.heap.size + 1) Wa W →
      body.wpIn (Fence.wide.inRound l) m P (xPost w.heap.size K X I Ix (pre ++ [x]) W) a' W)
    (hdone : ∀ (X : Nat → Prop) (W : World), w.heap.size + 2 ≤ W.heap.size → I X xs W → W.heap[w.heap.size]? = some (.deferred (some [])) → Q .normal { a with defers := markOf w.heap.size :: a.defers } W)
    (hstop : ∀ (c : Code) (X : Nat → Prop) (pre : List α) (W : World), w.heap.size + 2 ≤ W.heap.size → pre <+: xs → Ix c X pre W → W.heap[w.heap.size]? = some (.deferred (some [])) → c.wp P Q { a with defers := markOf w.heap.size :: a.defers } W) :
    (Code.rangeFunc g ps assign body).wp P Q a w := by
  refine (wpIn_wide (n := 0)).1 (wpIn_rangeFunc fun fn _ => ?_)
  obtain ⟨D, hD⟩ : ∃ D, w.heap.size = D := ⟨_, rfl⟩
  -- the loop's record, in its three states
  obtain ⟨rec, hrec⟩ : ∃ rec : LoopState → Option Code → Loop, rec = fun s p => { state := s, pending := p, fn, tmps := a.tmps, params := ps, assign, body, defers := D } := ⟨_, rfl⟩
  obtain ⟨W1, hW1⟩ : ∃ W1, (w.alloc (.deferred (some []))).alloc (.loop (rec .ready none)) = W1 := ⟨_, rfl⟩
  have hent : (Instr.enterLoop fn a.tmps ps assign body none).run P w = .ok (D + 1, [markOf D]) W1 := by
    rw [← hW1, hrec, ← hD]; exact run_enterLoop_outer _ _ _ _ _
  have hfar : Far (fun _ => False) w W1 := by rw [← hW1]; exact ((Far.refl _ w).alloc _).alloc _
  have hl1 : W1.heap[D + 1]? = some (.loop (rec .ready none)) := by
    rw [← hW1, ← hD]
    have := World.alloc_heap_new (w.alloc (.deferred (some []))) (.loop (rec .ready none))
    rwa [World.size_alloc] at this
  have hd1 : W1.heap[D]? = some (.deferred (some [])) := by
    rw [← hW1, ← hD]; exact (Below.heap_alloc _ _ _ (by simp)).trans (World.alloc_heap_new w _)
  rw [hD] at hT hK hI hIx hAx hassign hbody hdone hstop
  refine ⟨D + 1, [markOf D], W1, { target := .fn (.func gf) lb, args := #[.func (.yield (D + 1)) #[] #[]] }, W1, gf, #[.func (.yield (D + 1)) #[] #[]] ++ lb, W1, hent, ?_, fun _ _ => trivial, ?_, fun h => (by cases h), ?_⟩
  · simp only [resolve, hg]
    simp [go_sem]
  · simp [invoke, go_sem, eg]
  -- what the iterator carries: the loop's invariant, the record, the block for deferred calls
  let J : (Nat → Prop) → List α → World → Prop := fun X pre W => I X pre W ∧ W.heap[D + 1]? = some (.loop (rec .ready none)) ∧ W.heap[D]? = some (.deferred (some [])) ∧ ¬ X D ∧ ¬ X (D + 1)
  let Jx : (Nat → Prop) → List α → World → Prop := fun X pre W => ∃ c, Ix c X pre W ∧ W.heap[D + 1]? = some (.loop (rec .done (some c))) ∧ W.heap[D]? = some (.deferred (some [])) ∧ ¬ X D ∧ ¬ X (D + 1)
  have hnT : ∀ k, T k → k ≠ D ∧ k ≠ D + 1 := fun k hk => by have := hT k hk; omega
  have hnK : ∀ k, K k → k ≠ D ∧ k ≠ D + 1 := fun k hk => by have := hK k hk; omega
  have up : ∀ {X : Nat → Prop} {k : Nat}, T k ∨ X k → T k ∨ X k ∨ k = D ∨ k = D + 1 := fun h => h.elim .inl (fun h => .inr (.inl h))
  refine (hseq _ (D + 1) J Jx W1 (hfar.mono (fun _ _ h => h.elim))
    (fun X pre A B h hf => ⟨hI X pre A B h.1 (hf.mono fun _ _ ht => up ht), hf.same h.2.1 (fun h' => h'.elim (fun h => (hnT _ h).2 rfl) h.2.2.2.2), hf.same h.2.2.1 (fun h' => h'.elim (fun h => (hnT _ h).1 rfl) h.2.2.2.1), h.2.2.2⟩)
    (fun X pre A B h hf => by
      obtain ⟨c, h1, h2, h3, h4, h5⟩ := h
      exact ⟨c, hIx c X pre A B h1 (hf.mono fun _ _ ht => up ht), hf.same h2 (fun h' => h'.elim (fun h => (hnT _ h).2 rfl) h5), hf.same h3 (fun h' => h'.elim (fun h => (hnT _ h).1 rfl) h4), h4, h5⟩)
    (fun X X' pre A h hX => by
      have l1 : D < A.heap.size := (Array.getElem?_eq_some_iff.1 h.2.2.1).1
      have l2 : D + 1 < A.heap.size := (Array.getElem?_eq_some_iff.1 h.2.1).1
      exact ⟨hnew X X' pre A h.1 hX, h.2.1, h.2.2.1, fun hd => (hX _ hd).elim h.2.2.2.1 (fun h => by omega), fun hd => (hX _ hd).elim h.2.2.2.2 (fun h => by omega)⟩)
    ?_ ⟨hI _ [] w W1 h0 (hfar.mono fun _ _ h => h.elim), hl1, hd1, id, id⟩).mono ?_
  · -- a round
    rintro m X pre x Wa ⟨hi, hl, hd, hXD, hXE⟩ hXlt hpre
    have hlt : D + 1 < Wa.heap.size := (Array.getElem?_eq_some_iff.1 hl).1
    have hy := run_yield (P := P) (args := encs x) hl (by rw [hrec]; exact hps x)
    rw [hrec] at hy
    refine ⟨fn, _, assign, body, hy, roundIn_of_wpIn trivial (hassign m (D + 1) x Wa _ (by omega) fun a' Wb hab hax => ?_)⟩
    have hlb := hab.same hl id
    have hdb := hab.same hd id
    have hib := hI X pre Wa Wb hi (hab.mono fun _ _ h => h.elim)
    have hltb : D + 1 < Wb.heap.size := (Array.getElem?_eq_some_iff.1 hlb).1
    refine ⟨_, run_beginRound hlb (by rw [hrec]), ?_⟩
    obtain ⟨Wc, hWc⟩ : ∃ Wc, Wb.putObj (D + 1) (.loop { rec .ready none with state := .busy }) = Wc := ⟨_, rfl⟩
    rw [hWc]
    have hbc : Far (fun k => k = D + 1) Wb Wc := by rw [← hWc]; exact Far.putObj (T := fun k => k = D + 1) (Far.refl _ Wb) (fun _ => rfl) _
    have hlc : Wc.heap[D + 1]? = some (.loop { rec .ready none with state := .busy }) := by rw [← hWc]; exact World.putObj_heap_same hltb
    have hdc : Wc.heap[D]? = some (.deferred (some [])) := hbc.same hdb (by omega)
    have hltc : D + 1 < Wc.heap.size := (Array.getElem?_eq_some_iff.1 hlc).1
    refine wpIn_mono (hbody m (D + 1) X pre x a' Wa Wc (by omega) (fun k hk => ⟨hXlt k hk, fun h => hXD (h ▸ hk), fun h => hXE (h ▸ hk)⟩) (hI X pre Wb Wc hib (hbc.mono fun _ _ h => .inr (.inr (.inr h)))) (hAx _ x a' Wb Wc hax hbc) hpre hi ((hab.mono fun _ _ h => h.elim : Far (fun k => k = D + 1) Wa Wb).trans hbc)) ?_
    -- what 'endRound' makes of it
    have fin : ∀ (j : Option Code) (Wd : World), Far (fun k => ¬ (k = D ∨ k = D + 1)) Wc Wd →
        (Instr.endRound (D + 1) j).run P Wd = .ok (.bool j.isNone) (Wd.putObj (D + 1) (.loop (rec (if j.isNone then .ready else .done) j))) ∧
        (Wd.putObj (D + 1) (.loop (rec (if j.isNone then .ready else .done) j))).heap[D + 1]? = some (.loop (rec (if j.isNone then .ready else .done) j)) ∧
        (Wd.putObj (D + 1) (.loop (rec (if j.isNone then .ready else .done) j))).heap[D]? = some (.deferred (some [])) := fun j Wd hcd => by
      have hld := hcd.same hlc (fun h => h (.inr rfl))
      have he := run_endRound (P := P) j hld
      rw [hrec] at he ⊢
      exact ⟨he, World.putObj_heap_same (Array.getElem?_eq_some_iff.1 hld).1, (World.putObj_heap_other (by omega)).trans (hcd.same hdc (fun h => h (.inl rfl)))⟩
    have back : ∀ (Y : Nat → Prop) (o : Obj) (Wd : World), Far (fun k => T k ∨ Y k ∨ k = D ∨ k = D + 1) Wd (Wd.putObj (D + 1) o) := fun Y o Wd => (Far.refl _ Wd).putObj (fun _ => .inr (.inr (.inr rfl))) o
    intro e a3 Wd hp
    cases e with
    | normal =>
      obtain ⟨hcd, hid⟩ := hp
      obtain ⟨h1, h2, h3⟩ := fin none Wd (hcd.mono fun k _ h h' => h (.inr (.inr h')))
      refine ⟨_, _, h1, .inl ⟨rfl, ⟨hI _ _ _ _ hid (back _ _ Wd), h2, h3, hXD, hXE⟩, ?_⟩⟩
      refine (((hab.mono fun _ _ h => h.elim : Far (fun k => ¬ (K k ∨ X k)) Wa Wb).trans (hbc.mono fun k _ h hk => hk.elim (fun hk => (hnK k hk).2 h) (fun hk => hXE (h ▸ hk)))).trans (hcd.mono fun k _ h hk => h (hk.elim .inl (fun h => .inr (.inl h))))).putObj (fun _ hk => hk.elim (fun hk => (hnK _ hk).2 rfl) hXE) _
    | ret =>
      obtain ⟨hcd, hid⟩ := hp
      obtain ⟨h1, h2, h3⟩ := fin (some .ret) Wd hcd
      exact ⟨_, _, h1, .inr ⟨rfl, .ret, hIx _ _ _ _ _ hid (back _ _ Wd), h2, h3, hXD, hXE⟩⟩
    | exit id =>
      obtain ⟨hcd, hid⟩ := hp
      obtain ⟨h1, h2, h3⟩ := fin (some (.exit id)) Wd hcd
      exact ⟨_, _, h1, .inr ⟨rfl, .exit id, hIx _ _ _ _ _ hid (back _ _ Wd), h2, h3, hXD, hXE⟩⟩
    | goto t =>
      obtain ⟨hcd, hid⟩ := hp
      obtain ⟨h1, h2, h3⟩ := fin (some (.goto t)) Wd hcd
      exact ⟨_, _, h1, .inr ⟨rfl, .goto t, hIx _ _ _ _ _ hid (back _ _ Wd), h2, h3, hXD, hXE⟩⟩
    | panic ch => exact hp.elim
    | outgrown => exact hp.elim
  · -- behind the iterator
    have back : ∀ (Y : Nat → Prop) (o : Obj) (Wd : World), Far (fun k => T k ∨ Y k ∨ k = D ∨ k = D + 1) Wd (Wd.putObj (D + 1) o) := fun Y o Wd => (Far.refl _ Wd).putObj (fun _ => .inr (.inr (.inr rfl))) o
    rintro e W2 ⟨⟨v, rfl⟩, h2⟩
    rcases h2 with ⟨X, hi, hl, hd, _⟩ | ⟨X, pre, hpre, c, hi, hl, hd, _⟩
    · have he := run_endLoop (P := P) hl (by rw [hrec]; simp)
      rw [hrec] at he
      have hlt : D + 1 < W2.heap.size := (Array.getElem?_eq_some_iff.1 hl).1
      exact ⟨none, _, he, hdone _ _ (by rw [World.putObj_size]; omega) (hI _ _ _ _ hi (back _ _ W2)) ((World.putObj_heap_other (by omega)).trans hd)⟩
    · have he := run_endLoop (P := P) hl (by rw [hrec]; simp)
      rw [hrec] at he
      have hlt : D + 1 < W2.heap.size := (Array.getElem?_eq_some_iff.1 hl).1
      exact ⟨some c, _, he, (wpIn_wide (n := 0)).2 (hstop c _ pre _ (by rw [World.putObj_size]; omega) hpre (hIx _ _ _ _ _ hi (back _ _ W2)) ((World.putObj_heap_other (by omega)).trans hd))⟩


/-! a region of the function itself whose last operations come one behind the other, behind all others -/
end Go.Pol
namespace Go.Pol
abbrev Sp := Int × Int

def vld (x : Sp) : Bool := decide (0 ≤ x.1) && decide (x.1 < 1024) && decide (1 ≤ x.2) && decide (x.2 ≤ 1024 - x.1)
theorem vld_iff {x : Sp} : vld x = true ↔ 0 ≤ x.1 ∧ x.1 < 1024 ∧ 1 ≤ x.2 ∧ x.2 ≤ 1024 - x.1 := by simp [vld, and_assoc]
def formOk : Int → List Sp → Bool
  | _, [] => true
  | e, x :: r => decide (e < x.1) && formOk (x.1 + x.2) r
def chkS (s : List Sp) : Int := if 512 < s.length then 3 else if s.all vld = false then 7 else if formOk (-1) s then 0 else 6
def mem (p : Int) (s : List Sp) : Bool := s.any fun x => decide (x.1 ≤ p) && decide (p < x.1 + x.2)
def Can (s : List Sp) : Prop := (∀ x ∈ s, vld x = true) ∧ formOk (-1) s = true

theorem mem_nil {p : Int} : mem p [] = false := rfl
theorem mem_cons {p : Int} {x : Sp} {s : List Sp} : mem p (x :: s) = ((decide (x.1 ≤ p) && decide (p < x.1 + x.2)) || mem p s) := rfl
theorem mem_append {p : Int} {s t : List Sp} : mem p (s ++ t) = (mem p s || mem p t) := by simp [mem]
theorem mem_cons' {p : Int} {x : Sp} {s : List Sp} : mem p (x :: s) = true ↔ (x.1 ≤ p ∧ p < x.1 + x.2) ∨ mem p s = true := by simp [mem_cons]
theorem formOk_cons {e : Int} {x : Sp} {s : List Sp} : formOk e (x :: s) = true ↔ e < x.1 ∧ formOk (x.1 + x.2) s = true := by simp [formOk]
theorem formOk_le {e e' : Int} {s : List Sp} (h : formOk e s = true) (he : e' ≤ e) : formOk e' s = true := by
  cases s with
  | nil => rfl
  | cons x s => rw [formOk_cons] at h ⊢; exact ⟨by omega, h.2⟩
theorem mem_lt {p : Int} : ∀ {s : List Sp} {e : Int}, formOk e s = true → (∀ x ∈ s, 0 ≤ x.2) → mem p s = true → e < p
  | [], _, _, _, h => by simp [mem_nil] at h
  | x :: s, e, hf, hw, h => by
    rw [formOk_cons] at hf
    have := hw x (by simp)
    rcases mem_cons'.1 h with h | h
    · omega
    · have := mem_lt hf.2 (fun y hy => hw y (by simp [hy])) h
      omega
theorem uniq : ∀ (s t : List Sp) (e : Int), (∀ x ∈ s, 1 ≤ x.2) → (∀ x ∈ t, 1 ≤ x.2) → formOk e s = true → formOk e t = true → (∀ p : Int, mem p s = mem p t) → s = t
  | [], [], _, _, _, _, _, _ => rfl
  | [], y :: t, _, _, ht, _, _, h => by
    have := h y.1
    have h1 := ht y (by simp)
    rw [mem_nil, mem_cons] at this
    simp at this
    omega
  | x :: s, [], _, hs, _, _, _, h => by
    have := h x.1
    have h1 := hs x (by simp)
    rw [mem_nil, mem_cons] at this
    simp at this
    omega
  | x :: s, y :: t, e, hs, ht, fs, ft, h => by
    have hx := hs x (by simp)
    have hy := ht y (by simp)
    rw [formOk_cons] at fs ft
    have hs' : ∀ z ∈ s, 1 ≤ z.2 := fun z hz => hs z (by simp [hz])
    have ht' : ∀ z ∈ t, 1 ≤ z.2 := fun z hz => ht z (by simp [hz])
    have low : ∀ p, mem p s = true → x.1 + x.2 < p := fun p hp => mem_lt fs.2 (fun z hz => by have := hs' z hz; omega) hp
    have low' : ∀ p, mem p t = true → y.1 + y.2 < p := fun p hp => mem_lt ft.2 (fun z hz => by have := ht' z hz; omega) hp
    have e1 : x.1 = y.1 := by
      have a := h x.1
      have b := h y.1
      have a1 : mem x.1 (x :: s) = true := mem_cons'.2 (.inl (by omega))
      have b1 : mem y.1 (y :: t) = true := mem_cons'.2 (.inl (by omega))
      rw [a1] at a; rw [b1] at b
      rcases mem_cons'.1 a.symm with h1 | h1 <;> rcases mem_cons'.1 b with h2 | h2
      · omega
      · have := low _ h2; omega
      · have := low' _ h1; omega
      · have := low _ h2; have := low' _ h1; omega
    have e2 : x.2 = y.2 := by
      have a := h (x.1 + x.2)
      have b := h (y.1 + y.2)
      have a1 : mem (x.1 + x.2) (x :: s) = false := by
        rw [Bool.eq_false_iff]; intro hh
        rcases mem_cons'.1 hh with h1 | h1
        · omega
        · have := low _ h1; omega
      have b1 : mem (y.1 + y.2) (y :: t) = false := by
        rw [Bool.eq_false_iff]; intro hh
        rcases mem_cons'.1 hh with h1 | h1
        · omega
        · have := low' _ h1; omega
      rw [a1] at a; rw [b1] at b
      have a2 : ¬ (y.1 ≤ x.1 + x.2 ∧ x.1 + x.2 < y.1 + y.2) := fun hh => by
        have : mem (x.1 + x.2) (y :: t) = true := mem_cons'.2 (.inl hh)
        rw [← a] at this; cases this
      have b2 : ¬ (x.1 ≤ y.1 + y.2 ∧ y.1 + y.2 < x.1 + x.2) := fun hh => by
        have : mem (y.1 + y.2) (x :: s) = true := mem_cons'.2 (.inl hh)
        rw [b] at this; cases this
      omega
    have exy : x = y := Prod.ext e1 e2
    subst exy
    congr 1
    refine uniq s t (x.1 + x.2) hs' ht' fs.2 ft.2 fun p => ?_
    have hp := h p
    rw [mem_cons, mem_cons] at hp
    by_cases hin : x.1 ≤ p ∧ p < x.1 + x.2
    · have z1 : mem p s = false := by rw [Bool.eq_false_iff]; intro hh; have := low _ hh; omega
      have z2 : mem p t = false := by rw [Bool.eq_false_iff]; intro hh; have := low' _ hh; omega
      rw [z1, z2]
    · have : (decide (x.1 ≤ p) && decide (p < x.1 + x.2)) = false := by simp; omega
      simpa [this] using hp
theorem Can.eq {s t : List Sp} (hs : Can s) (ht : Can t) (h : ∀ p : Int, mem p s = mem p t) : s = t :=
  uniq s t (-1) (fun x hx => (vld_iff.1 (hs.1 x hx)).2.2.1) (fun x hx => (vld_iff.1 (ht.1 x hx)).2.2.1) hs.2 ht.2 h
theorem form_len : ∀ (s : List Sp) (e : Int), e < 1024 → (∀ x ∈ s, vld x = true) → formOk e s = true → 2 * (s.length : Int) ≤ 1024 - e
  | [], e, he, _, _ => by simp; omega
  | x :: s, e, _, hv, hf => by
    rw [formOk_cons] at hf
    have hx := vld_iff.1 (hv x (by simp))
    cases s with
    | nil => simp; omega
    | cons y r =>
      have hf2 := formOk_cons.1 hf.2
      have hy := vld_iff.1 (hv y (by simp))
      have := (form_len (y :: r) (x.1 + x.2) (by omega) (fun z hz => hv z (List.mem_cons_of_mem _ hz)) hf.2)
      simp only [List.length_cons] at this ⊢
      omega
theorem Can.len {s : List Sp} (h : Can s) : s.length ≤ 512 := by
  have := form_len s (-1) (by omega) h.1 h.2
  omega
theorem chkS_zero {s : List Sp} : chkS s = 0 ↔ Can s := by
  unfold chkS
  constructor
  · intro h
    split at h
    · cases h
    · split at h
      · cases h
      · split at h
        · rename_i h1 h2 h3
          exact ⟨fun x hx => by simpa using List.all_eq_true.1 (by simpa using h2 : s.all vld = true) x hx, h3⟩
        · cases h
  · intro h
    rw [if_neg (by have := h.len; omega), if_neg (by rw [Bool.not_eq_false]; exact List.all_eq_true.2 h.1), if_pos h.2]
/-! the common pages -/
def commonN : Nat → List Sp → List Sp → List Sp
  | 0, _, _ => []
  | _ + 1, [], _ => []
  | _ + 1, _ :: _, [] => []
  | k + 1, x :: a, y :: b =>
    (if max x.1 y.1 < min (x.1 + x.2) (y.1 + y.2) then [(max x.1 y.1, min (x.1 + x.2) (y.1 + y.2) - max x.1 y.1)] else []) ++
      (if x.1 + x.2 < y.1 + y.2 then commonN k a (y :: b) else commonN k (x :: a) b)
def commonF (a b : List Sp) : List Sp := commonN (a.length + b.length) a b
theorem commonN_nil {k : Nat} {b : List Sp} : commonN k [] b = [] := by cases k <;> rfl
theorem commonN_nil' {k : Nat} {a : List Sp} : commonN k a [] = [] := by cases k <;> cases a <;> rfl
theorem commonF_cons (x y : Sp) (a b : List Sp) : commonF (x :: a) (y :: b) =
    (if max x.1 y.1 < min (x.1 + x.2) (y.1 + y.2) then [(max x.1 y.1, min (x.1 + x.2) (y.1 + y.2) - max x.1 y.1)] else []) ++
      (if x.1 + x.2 < y.1 + y.2 then commonF a (y :: b) else commonF (x :: a) b) := by
  unfold commonF
  rw [show (x :: a).length + (y :: b).length = (a.length + (y :: b).length) + 1 by simp; omega]
  rw [commonN]
  rw [show (x :: a).length + b.length = a.length + (y :: b).length by simp; omega]
theorem commonF_nil {b : List Sp} : commonF [] b = [] := commonN_nil
theorem commonF_nil' {a : List Sp} : commonF a [] = [] := commonN_nil'
theorem common_form : ∀ (k : Nat) (a b : List Sp) (ea eb e : Int), (∀ x ∈ a, 0 ≤ x.2) → (∀ x ∈ b, 0 ≤ x.2) → formOk ea a = true → formOk eb b = true → (e ≤ ea ∨ e ≤ eb) → formOk e (commonN k a b) = true
  | 0, _, _, _, _, _, _, _, _, _, _ => rfl
  | _ + 1, [], _, _, _, _, _, _, _, _, _ => rfl
  | _ + 1, _ :: _, [], _, _, _, _, _, _, _, _ => rfl
  | k + 1, x :: a, y :: b, ea, eb, e, ha, hb, fa, fb, he => by
    have fa' := formOk_cons.1 fa
    have fb' := formOk_cons.1 fb
    have hx := ha x (by simp)
    have hy := hb y (by simp)
    have ha' : ∀ z ∈ a, 0 ≤ z.2 := fun z hz => ha z (by simp [hz])
    have hb' : ∀ z ∈ b, 0 ≤ z.2 := fun z hz => hb z (by simp [hz])
    rw [commonN]
    by_cases hlt : max x.1 y.1 < min (x.1 + x.2) (y.1 + y.2)
    · rw [if_pos hlt, List.singleton_append, formOk_cons]
      refine ⟨by simp only; omega, ?_⟩
      simp only
      split
      · exact common_form k a (y :: b) (x.1 + x.2) eb _ ha' hb fa'.2 fb (by omega)
      · exact common_form k (x :: a) b ea (y.1 + y.2) _ ha hb' fa fb'.2 (by omega)
    · rw [if_neg hlt, List.nil_append]
      split
      · exact common_form k a (y :: b) (x.1 + x.2) eb _ ha' hb fa'.2 fb (by omega)
      · exact common_form k (x :: a) b ea (y.1 + y.2) _ ha hb' fa fb'.2 (by omega)
theorem common_vld : ∀ (k : Nat) (a b : List Sp), (∀ x ∈ a, vld x = true) → (∀ x ∈ b, vld x = true) → ∀ x ∈ commonN k a b, vld x = true
  | 0, _, _, _, _ => by simp [commonN]
  | _ + 1, [], _, _, _ => by simp [commonN]
  | _ + 1, _ :: _, [], _, _ => by simp [commonN]
  | k + 1, x :: a, y :: b, ha, hb => by
    have hx := vld_iff.1 (ha x (by simp))
    have hy := vld_iff.1 (hb y (by simp))
    have ha' : ∀ z ∈ a, vld z = true := fun z hz => ha z (by simp [hz])
    have hb' : ∀ z ∈ b, vld z = true := fun z hz => hb z (by simp [hz])
    intro z hz
    rw [commonN, List.mem_append] at hz
    rcases hz with hz | hz
    · split at hz
      · simp only [List.mem_singleton] at hz
        subst hz
        rw [vld_iff]
        simp only
        omega
      · simp at hz
    · split at hz
      · exact common_vld k a (y :: b) ha' hb z hz
      · exact common_vld k (x :: a) b ha hb' z hz
theorem mem_common (p : Int) : ∀ (k : Nat) (a b : List Sp) (ea eb : Int), a.length + b.length ≤ k → (∀ x ∈ a, 0 ≤ x.2) → (∀ x ∈ b, 0 ≤ x.2) → formOk ea a = true → formOk eb b = true → mem p (commonN k a b) = (mem p a && mem p b)
  | 0, [], _, _, _, _, _, _, _, _ => rfl
  | _ + 1, [], _, _, _, _, _, _, _, _ => rfl
  | 0, _ :: _, _, _, _, h, _, _, _, _ => by simp at h
  | _ + 1, _ :: _, [], _, _, _, _, _, _, _ => by simp [commonN, mem_nil]
  | k + 1, x :: a, y :: b, ea, eb, hk, ha, hb, fa, fb => by
    have fa' := formOk_cons.1 fa
    have fb' := formOk_cons.1 fb
    have hx := ha x (by simp)
    have hy := hb y (by simp)
    have ha' : ∀ z ∈ a, 0 ≤ z.2 := fun z hz => ha z (by simp [hz])
    have hb' : ∀ z ∈ b, 0 ≤ z.2 := fun z hz => hb z (by simp [hz])
    have lowa : mem p a = true → x.1 + x.2 < p := fun hp => mem_lt fa'.2 ha' hp
    have lowb : mem p b = true → y.1 + y.2 < p := fun hp => mem_lt fb'.2 hb' hp
    simp only [List.length_cons] at hk
    have hpc : mem p (if max x.1 y.1 < min (x.1 + x.2) (y.1 + y.2) then [(max x.1 y.1, min (x.1 + x.2) (y.1 + y.2) - max x.1 y.1)] else []) = true ↔ (x.1 ≤ p ∧ p < x.1 + x.2) ∧ (y.1 ≤ p ∧ p < y.1 + y.2) := by
      split
      · rw [mem_cons']; simp only [mem_nil]; simp; omega
      · simp only [mem_nil]; simp; omega
    rw [commonN, mem_append, Bool.eq_iff_iff, Bool.or_eq_true, hpc, Bool.and_eq_true, mem_cons', mem_cons']
    by_cases hlt : x.1 + x.2 < y.1 + y.2
    · rw [if_pos hlt, mem_common p k a (y :: b) (x.1 + x.2) eb (by simp; omega) ha' hb fa'.2 fb, Bool.and_eq_true, mem_cons']
      constructor
      · rintro (⟨h1, h2⟩ | ⟨h1, h2⟩)
        · exact ⟨.inl h1, .inl h2⟩
        · exact ⟨.inr h1, h2⟩
      · rintro ⟨h1 | h1, h2⟩
        · rcases h2 with h2 | h2
          · exact .inl ⟨h1, h2⟩
          · have := lowb h2; omega
        · exact .inr ⟨h1, h2⟩
    · rw [if_neg hlt, mem_common p k (x :: a) b ea (y.1 + y.2) (by simp; omega) ha hb' fa fb'.2, Bool.and_eq_true, mem_cons']
      constructor
      · rintro (⟨h1, h2⟩ | ⟨h1, h2⟩)
        · exact ⟨.inl h1, .inl h2⟩
        · exact ⟨h1, .inr h2⟩
      · rintro ⟨h1, h2 | h2⟩
        · rcases h1 with h1 | h1
          · exact .inl ⟨h1, h2⟩
          · have := lowa h1; omega
        · exact .inr ⟨h1, h2⟩
theorem Can.common {a b : List Sp} (ha : Can a) (hb : Can b) : Can (commonF a b) :=
  ⟨common_vld _ a b ha.1 hb.1, common_form _ a b (-1) (-1) (-1) (fun x hx => by have := (vld_iff.1 (ha.1 x hx)).2.2.1; omega) (fun x hx => by have := (vld_iff.1 (hb.1 x hx)).2.2.1; omega) ha.2 hb.2 (.inl (by omega))⟩
theorem Can.mem_common {a b : List Sp} (ha : Can a) (hb : Can b) (p : Int) : mem p (commonF a b) = (mem p a && mem p b) :=
  Go.Pol.mem_common p _ a b (-1) (-1) (Nat.le_refl _) (fun x hx => by have := (vld_iff.1 (ha.1 x hx)).2.2.1; omega) (fun x hx => by have := (vld_iff.1 (hb.1 x hx)).2.2.1; omega) ha.2 hb.2
theorem Can.one {x : Sp} (h : vld x = true) : Can [x] := ⟨by simpa using h, by rw [formOk_cons]; have := (vld_iff.1 h).1; exact ⟨by omega, rfl⟩⟩
theorem mem_one {p : Int} {x : Sp} : mem p [x] = true ↔ x.1 ≤ p ∧ p < x.1 + x.2 := by simp [mem]
/-! the gaps -/
def gapsL : Int → Int → List Sp → List Sp
  | n, e, [] => if n < e then [(n, e - n)] else []
  | n, e, x :: r => (if n < x.1 then [(n, x.1 - n)] else []) ++ gapsL (x.1 + x.2) e r
def gapsF (s : List Sp) (i : Sp) : List Sp := gapsL i.1 (i.1 + i.2) (commonF s [i])
theorem gaps_form : ∀ (l : List Sp) (n e n' : Int), n' < n → (∀ x ∈ l, 1 ≤ x.2) → formOk (n - 1) l = true → formOk n' (gapsL n e l) = true
  | [], n, e, n', h, _, _ => by
    rw [gapsL]; split
    · rw [formOk_cons]; exact ⟨h, rfl⟩
    · rfl
  | x :: r, n, e, n', h, hw, hf => by
    have hf' := formOk_cons.1 hf
    have hx := hw x (by simp)
    have hw' : ∀ z ∈ r, 1 ≤ z.2 := fun z hz => hw z (by simp [hz])
    rw [gapsL]; split
    · rw [List.singleton_append, formOk_cons]
      exact ⟨h, gaps_form r (x.1 + x.2) e _ (by simp only; omega) hw' (formOk_le hf'.2 (by omega))⟩
    · rw [List.nil_append]
      exact gaps_form r (x.1 + x.2) e _ (by omega) hw' (formOk_le hf'.2 (by omega))
theorem gaps_vld : ∀ (l : List Sp) (n e : Int), 0 ≤ n → e ≤ 1024 → (∀ x ∈ l, vld x = true) → ∀ x ∈ gapsL n e l, vld x = true
  | [], n, e, h0, h1, _ => by
    rw [gapsL]; intro x hx
    split at hx
    · simp only [List.mem_singleton] at hx; subst hx; rw [vld_iff]; simp only; omega
    · simp at hx
  | x :: r, n, e, h0, h1, hv => by
    have hx := vld_iff.1 (hv x (by simp))
    rw [gapsL]; intro y hy
    rw [List.mem_append] at hy
    rcases hy with hy | hy
    · split at hy
      · simp only [List.mem_singleton] at hy; subst hy; rw [vld_iff]; simp only; omega
      · simp at hy
    · exact gaps_vld r _ e (by omega) h1 (fun z hz => hv z (by simp [hz])) y hy
theorem mem_gaps (p : Int) : ∀ (l : List Sp) (n e : Int), n ≤ e → (∀ x ∈ l, 1 ≤ x.2 ∧ x.1 + x.2 ≤ e) → formOk (n - 1) l = true → (mem p (gapsL n e l) = true ↔ (n ≤ p ∧ p < e) ∧ mem p l = false)
  | [], n, e, _, _, _ => by
    rw [gapsL]; split
    · rw [mem_cons']; simp [mem_nil]; omega
    · simp [mem_nil]; omega
  | x :: r, n, e, hne, hw, hf => by
    have hf' := formOk_cons.1 hf
    have hx := hw x (by simp)
    have hw' : ∀ z ∈ r, 1 ≤ z.2 ∧ z.1 + z.2 ≤ e := fun z hz => hw z (by simp [hz])
    have low : mem p r = true → x.1 + x.2 < p := fun hp => mem_lt hf'.2 (fun z hz => by have := hw' z hz; omega) hp
    have ih := mem_gaps p r (x.1 + x.2) e (by omega) hw' (formOk_le hf'.2 (by omega))
    have h1 : mem p (if n < x.1 then [(n, x.1 - n)] else []) = true ↔ n ≤ p ∧ p < x.1 := by
      split
      · rw [mem_cons']; simp [mem_nil]; omega
      · simp [mem_nil]; omega
    have h2 : mem p (x :: r) = false ↔ ¬ (x.1 ≤ p ∧ p < x.1 + x.2) ∧ mem p r = false := by rw [mem_cons]; simp
    rw [gapsL, mem_append, Bool.or_eq_true, h1, ih, h2]
    constructor
    · rintro (h | ⟨h, hr⟩)
      · refine ⟨by omega, by omega, ?_⟩
        rw [Bool.eq_false_iff]; intro hh; have := low hh; omega
      · exact ⟨by omega, by omega, hr⟩
    · rintro ⟨h, hn, hr⟩
      by_cases hp : p < x.1
      · exact .inl (by omega)
      · exact .inr ⟨by omega, hr⟩
theorem Can.gaps {s : List Sp} {i : Sp} (hs : Can s) (hi : vld i = true) : Can (gapsF s i) ∧ ∀ p, mem p (gapsF s i) = true ↔ (i.1 ≤ p ∧ p < i.1 + i.2) ∧ mem p s = false := by
  have hi' := vld_iff.1 hi
  have hc := hs.common (Can.one hi)
  have hm := hs.mem_common (Can.one hi)
  have hin : ∀ x ∈ commonF s [i], i.1 ≤ x.1 ∧ x.1 + x.2 ≤ i.1 + i.2 := fun x hx => by
    have hv := vld_iff.1 (hc.1 x hx)
    have hx1 : mem x.1 (commonF s [i]) = true := List.any_eq_true.2 ⟨x, hx, by simp; omega⟩
    have hx2 : mem (x.1 + x.2 - 1) (commonF s [i]) = true := List.any_eq_true.2 ⟨x, hx, by simp; omega⟩
    rw [hm, Bool.and_eq_true, mem_one] at hx1 hx2
    omega
  have hf : formOk (i.1 - 1) (commonF s [i]) = true := by
    have := hc.2
    cases hl : commonF s [i] with
    | nil => rfl
    | cons x r =>
      rw [hl] at this hin
      rw [formOk_cons] at this ⊢
      have hh := this
      have := hin x (by simp)
      exact ⟨by omega, hh.2⟩
  refine ⟨⟨gaps_vld _ _ _ hi'.1 (by omega) hc.1, gaps_form _ _ _ _ (by omega) (fun x hx => (vld_iff.1 (hc.1 x hx)).2.2.1) hf⟩, fun p => ?_⟩
  unfold gapsF
  rw [mem_gaps p _ _ _ (by omega) (fun x hx => ⟨(vld_iff.1 (hc.1 x hx)).2.2.1, (hin x hx).2⟩) hf, hm]
  constructor
  · rintro ⟨h1, h2⟩
    have : mem p [i] = true := mem_one.2 h1
    rw [this, Bool.and_true] at h2
    exact ⟨h1, h2⟩
  · rintro ⟨h1, h2⟩
    exact ⟨h1, by rw [h2]; rfl⟩

/-! the set of the pages that are marked -/
def bump (l : List Sp) : List Sp := match l.reverse with | [] => [] | x :: r => r.reverse ++ [(x.1, x.2 + 1)]
theorem bump_snoc (l : List Sp) (x : Sp) : bump (l ++ [x]) = l ++ [(x.1, x.2 + 1)] := by simp [bump]
def setF (f : Nat → Bool) : Nat → List Sp
  | 0 => []
  | p + 1 => if f p then (if decide (0 < p) && f (p - 1) then bump (setF f p) else setF f p ++ [((p : Int), 1)]) else setF f p
def lastE : Int → List Sp → Int
  | e, [] => e
  | _, x :: r => lastE (x.1 + x.2) r
theorem lastE_snoc (e : Int) : ∀ (l : List Sp) (x : Sp), lastE e (l ++ [x]) = x.1 + x.2
  | [], _ => rfl
  | y :: r, x => lastE_snoc (y.1 + y.2) r x
theorem formOk_snoc : ∀ (l : List Sp) (e : Int) (x : Sp), formOk e (l ++ [x]) = true ↔ formOk e l = true ∧ lastE e l < x.1
  | [], e, x => by simp [formOk, lastE]
  | y :: r, e, x => by rw [List.cons_append, formOk_cons, formOk_cons, formOk_snoc r, lastE]; simp only [and_assoc]
theorem mem_snoc {p : Int} {l : List Sp} {x : Sp} : mem p (l ++ [x]) = true ↔ mem p l = true ∨ (x.1 ≤ p ∧ p < x.1 + x.2) := by rw [mem_append, Bool.or_eq_true, mem_one]
structure SetOk (f : Nat → Bool) (p : Nat) (l : List Sp) : Prop where
  wid : ∀ x ∈ l, 0 ≤ x.1 ∧ 1 ≤ x.2 ∧ x.1 + x.2 ≤ p
  form : formOk (-1) l = true
  mem : ∀ q : Int, mem q l = true ↔ (0 ≤ q ∧ q < p) ∧ f q.toNat = true
  last : 0 < p → f (p - 1) = true → ∃ (r : List Sp) (x : Sp), l = r ++ [x] ∧ x.1 + x.2 = (p : Int)
  open_ : (0 < p → f (p - 1) = false) → lastE (-1) l < p
theorem setF_ok (f : Nat → Bool) : ∀ p, SetOk f p (setF f p)
  | 0 => ⟨by simp [setF], rfl, fun q => by simp [setF, mem_nil]; omega, fun h => absurd h (by omega), fun _ => by simp [setF, lastE]⟩
  | p + 1 => by
    have ih := setF_ok f p
    rw [setF]
    by_cases hp : f p = true
    · rw [if_pos hp]
      by_cases hq : 0 < p ∧ f (p - 1) = true
      · rw [if_pos (by simp [hq])]
        obtain ⟨r, x, hl, hx⟩ := ih.last hq.1 hq.2
        have hw := ih.wid
        have hf := ih.form
        have hm := ih.mem
        rw [hl] at hw hf hm ⊢
        rw [bump_snoc]
        refine ⟨fun y hy => ?_, ?_, fun q => ?_, fun _ _ => ⟨r, _, rfl, by simp only; omega⟩, fun h => ?_⟩
        · rw [List.mem_append, List.mem_singleton] at hy
          rcases hy with hy | rfl
          · have := hw y (by simp [hy]); omega
          · have := hw x (by simp); simp only; omega
        · rw [formOk_snoc] at hf ⊢; exact hf
        · have h1 := hm q
          rw [mem_snoc] at h1 ⊢
          simp only
          have hx' := hw x (by simp)
          by_cases hqp : q = (p : Int)
          · constructor
            · intro _; exact ⟨by omega, by rw [hqp]; simpa using hp⟩
            · intro _; right; omega
          · constructor
            · rintro (h | h)
              · have := h1.1 (.inl h)
                exact ⟨by omega, this.2⟩
              · have := h1.1 (.inr (by omega))
                exact ⟨by omega, this.2⟩
            · rintro ⟨h2, h3⟩
              rcases h1.2 ⟨by omega, h3⟩ with h | h
              · exact .inl h
              · exact .inr (by omega)
        · rw [Nat.add_sub_cancel] at h
          have := h (by omega)
          rw [hp] at this; cases this
      · rw [if_neg (by simpa using hq)]
        have hop := ih.open_ (fun h0 => by
          cases h : f (p - 1) with
          | false => rfl
          | true => exact absurd ⟨h0, h⟩ hq)
        refine ⟨fun y hy => ?_, ?_, fun q => ?_, fun _ _ => ⟨_, _, rfl, by simp only; omega⟩, fun h => ?_⟩
        · rw [List.mem_append, List.mem_singleton] at hy
          rcases hy with hy | rfl
          · have := ih.wid y hy; omega
          · simp only; omega
        · rw [formOk_snoc]; exact ⟨ih.form, hop⟩
        · rw [mem_snoc, ih.mem q]
          simp only
          by_cases hqp : q = p
          · subst hqp
            constructor
            · intro _; exact ⟨by omega, by simpa using hp⟩
            · intro _; right; omega
          · constructor
            · rintro (⟨h, h2⟩ | h)
              · exact ⟨by omega, h2⟩
              · omega
            · rintro ⟨h, h2⟩; exact .inl ⟨by omega, h2⟩
        · rw [Nat.add_sub_cancel] at h
          have := h (by omega)
          rw [hp] at this; cases this
    · rw [if_neg hp]
      have hp' : f p = false := by simpa using hp
      refine ⟨fun y hy => by have := ih.wid y hy; omega, ih.form, fun q => ?_, fun _ h => ?_, fun _ => ?_⟩
      · rw [ih.mem q]
        constructor
        · rintro ⟨h1, h2⟩; exact ⟨by omega, h2⟩
        · rintro ⟨h1, h2⟩
          refine ⟨?_, h2⟩
          by_cases hqp : q = p
          · subst hqp; rw [Int.toNat_natCast, hp'] at h2; cases h2
          · omega
      · rw [Nat.add_sub_cancel, hp'] at h; cases h
      · by_cases hq : 0 < p ∧ f (p - 1) = true
        · obtain ⟨r, x, hl, hx⟩ := ih.last hq.1 hq.2
          rw [hl, lastE_snoc, hx]; omega
        · have := ih.open_ (fun h0 => by
            cases h : f (p - 1) with
            | false => rfl
            | true => exact absurd ⟨h0, h⟩ hq)
          omega
def setA (f : Nat → Bool) : List Sp := setF f 1024
theorem setA_can (f : Nat → Bool) : Can (setA f) := ⟨fun x hx => by have := (setF_ok f 1024).wid x hx; rw [vld_iff]; omega, (setF_ok f 1024).form⟩
theorem mem_setA (f : Nat → Bool) (q : Int) : mem q (setA f) = true ↔ (0 ≤ q ∧ q < 1024) ∧ f q.toNat = true := (setF_ok f 1024).mem q
theorem Can.range {s : List Sp} (h : Can s) {p : Int} (hp : mem p s = true) : 0 ≤ p ∧ p < 1024 := by
  obtain ⟨x, hx, hh⟩ := List.any_eq_true.1 hp
  have := vld_iff.1 (h.1 x hx)
  simp at hh
  omega
/-- a set is what the marks of its pages give -/
theorem Can.eq_setA {s : List Sp} (h : Can s) (f : Nat → Bool) (hf : ∀ p : Nat, p < 1024 → f p = mem p s) : s = setA f := by
  refine h.eq (setA_can f) fun p => ?_
  rw [Bool.eq_iff_iff, mem_setA]
  constructor
  · intro hp
    have := h.range hp
    refine ⟨this, ?_⟩
    rw [hf _ (by omega), Int.toNat_of_nonneg this.1]; exact hp
  · rintro ⟨h1, h2⟩
    rw [hf _ (by omega), Int.toNat_of_nonneg h1.1] at h2; exact h2
end Go.Pol
namespace Go.Pol
open Go Go.RowKit
def spCells (us : List Sp) : List Value := us.flatMap fun x => [.int .i64 x.1, .int .i64 x.2]
theorem spCells_len (us : List Sp) : (spCells us).length = us.length * 2 := by
  induction us with
  | nil => rfl
  | cons x r ih => simp only [spCells, List.flatMap_cons, List.length_append, List.length_cons, List.length_nil] at ih ⊢; omega
theorem spCells_snoc (us : List Sp) (x : Sp) : spCells (us ++ [x]) = spCells us ++ [.int .i64 x.1, .int .i64 x.2] := by simp [spCells]
theorem spCells_at : ∀ (us : List Sp) (k : Nat), k < us.length → (spCells us)[k * 2]? = some (.int .i64 (us.getD k (0,0)).1) ∧ (spCells us)[k * 2 + 1]? = some (.int .i64 (us.getD k (0,0)).2)
  | [], k, h => by simp at h
  | x :: r, 0, _ => by simp [spCells]
  | x :: r, k + 1, h => by
    have ih := spCells_at r k (by simpa using h)
    have e : spCells (x :: r) = .int .i64 x.1 :: .int .i64 x.2 :: spCells r := by simp [spCells]
    rw [e, show (k + 1) * 2 = k * 2 + 1 + 1 by omega]
    simpa using ih
section
variable {T : Nat → Prop} {w w' : World} {base : Nat} {e : TypeId} {size : Nat} {v : Value} {n : Nat} {xs : List Value} {us : List Sp}
theorem ownsRow_far (h : w.ownsRow base e size v n xs) (hf : Far T w w') (hT : ∀ g, v.ownBlock = some g → ¬ T g) : w'.ownsRow base e size v n xs := by
  refine ⟨h.1, ?_⟩
  rcases h.2 with hn | ⟨g, cap, cur, rfl, hb, hg, rest⟩
  · exact .inl hn
  · exact .inr ⟨g, cap, cur, rfl, hb, hf.same hg (hT g rfl), rest⟩
theorem ownsRow_call (h : w.ownsRow base e size v n xs) (hf : Below w.heap.size w w') : w'.ownsRow base e size v n xs := ownsRow_far (T := fun _ => False) h (.of_below hf) (fun _ _ h => h)
theorem ownsRow_base {base' : Nat} (h : w.ownsRow base e size v n xs) (hb : base' ≤ base) : w.ownsRow base' e size v n xs := by
  refine ⟨h.1, ?_⟩
  rcases h.2 with hn | ⟨g, cap, cur, rfl, hb', rest⟩
  · exact .inl hn
  · exact .inr ⟨g, cap, cur, rfl, by omega, rest⟩
theorem Far.grown {A B C : World} {row : Option Nat} (h : Far T A B) (hg : B.grownBy C row) (hr : ∀ r, row = some r → r < A.heap.size → T r) : Far T A C :=
  ⟨hg.os.trans h.os, hg.tape.trans h.tape, hg.output.trans h.output, Nat.le_trans h.size hg.size, fun k hk hT => (hg.block k (Nat.lt_of_lt_of_le hk h.size) (fun e => hT (hr k e.symm hk))).trans (h.block k hk hT)⟩
/-- what a call of the own made reads as a list -/
theorem own_RU (h : w.ownsRow base e 2 v n (spCells us)) (hn : us.length = n) : ∃ (A : Option Addr) (cap : Nat), v = .slice A n cap ∧ RU w w.heap.size A us ∧ n ≤ cap ∧ cap ≤ maxLen ∧ (∀ b o, A = some ⟨b, o, none⟩ → base ≤ b) ∧ (us = [] ∨ A ≠ none) := by
  have hv := h
  rcases h.2 with ⟨rfl, h0⟩ | ⟨g, cap, cur, rfl, hg, hk, hnc, hcm, _⟩
  · subst h0
    obtain rfl : us = [] := List.eq_nil_of_length_eq_zero hn
    exact ⟨none, 0, rfl, RU.nil, Nat.le_refl _, by unfold maxLen; omega, fun b o e => (by cases e), .inl rfl⟩
  · refine ⟨_, cap, rfl, fun k hk' => ?_, hnc, hcm, fun b o e => by cases e; exact hg, .inr (by simp)⟩
    have h2 := spCells_at us k hk'
    have h0 := hv.cellAt (k * 2) (by omega)
    have h1 := hv.cellAt (k * 2 + 1) (by omega)
    refine ⟨g, 0, rfl, Blk.lt hk, ?_, ?_⟩
    · rw [Nat.zero_add, h0]; exact h2.1
    · rw [Nat.zero_add, h1]; exact h2.2
theorem own_cap {A : Option Addr} {cap m : Nat} (h : w.ownsRow base e size (.slice A n cap) m xs) (hA : A = none) : cap = 0 := by
  rcases h.2 with ⟨h0, _⟩ | ⟨g, cap', cur, h0, _⟩
  · cases h0; rfl
  · cases h0; cases hA
theorem own_nil_iff (h : w.ownsRow base e 2 v n (spCells us)) (hn : us.length = n) : ∃ (A : Option Addr) (cap : Nat), v = .slice A n cap := by
  obtain ⟨A, cap, hv, _⟩ := own_RU h hn
  exact ⟨A, cap, hv⟩
/-- a box is not a slice's own row -/
theorem Blk.not_row {g : Nat} {t : TypeId} {cs : Array Value} (h : Blk w g t cs) (hr : w.ownsRow base e size v n xs) (hte : t ≠ e) : v.ownBlock ≠ some g := by
  rcases hr.2 with ⟨rfl, _⟩ | ⟨g', cap, cur, rfl, _, hgb, _⟩
  · simp [Value.ownBlock]
  · intro e'
    obtain rfl : g' = g := by simpa [Value.ownBlock] using e'
    unfold Blk at h
    rw [h] at hgb
    simp at hgb
    exact hte hgb.2
theorem news_two {g : Nat} {t : TypeId} {a b : Int} (h : Blk w g t #[.int .i64 a, .int .i64 b]) : ∀ (j : Nat) (u : Value), [Value.int .i64 a, Value.int .i64 b][j]? = some u → w.cell? ((⟨g, 0, none⟩ : Addr).add j) = some u := by
  intro j u hu
  rw [addr_add0, Nat.zero_add]
  rw [h.cell]
  simpa using hu
theorem news_one2 {a b : Int} : ∀ u ∈ [Value.int .i64 a, Value.int .i64 b], u.oneCell' = true := by
  intro u hu
  simp only [List.mem_cons, List.not_mem_nil, or_false] at hu
  rcases hu with rfl | rfl <;> rfl
end
/-- the box of a slice of spans, and the row that the slice owns beyond 'base' -/
structure BoxS (w : World) (B : Nat) (tb te : TypeId) (base : Nat) (us : List Sp) : Prop where
  ex : ∃ v, Blk w B tb #[v] ∧ w.ownsRow base te 2 v us.length (spCells us) ∧ (v = .slice none 0 0 ↔ us = [])
theorem BoxS.far {T : Nat → Prop} {w w' : World} {B : Nat} {tb te : TypeId} {base : Nat} {us : List Sp} (h : BoxS w B tb te base us) (hf : Far T w w') (hB : ¬ T B) (hT : ∀ g, base ≤ g → ¬ T g) : BoxS w' B tb te base us := by
  obtain ⟨v, h1, h2, h3⟩ := h.ex
  exact ⟨v, hf.blk h1 hB, ownsRow_far h2 hf (fun g hg => hT g (h2.lt g hg).1), h3⟩
/-- 'out = append(out, x)': what lies behind it -/
theorem BoxS.appended {w w1 : World} {B : Nat} {tb te : TypeId} {base : Nat} {us us' : List Sp} {v v' : Value} {tmp : Obj} {m : Nat} (hv : Blk w B tb #[v]) (hte : tb ≠ te) (hrow : w.ownsRow base te 2 v us.length (spCells us))
    (hown : w1.ownsRow base te 2 v' m (spCells us')) (hm : m = us'.length) (hne : us' ≠ []) (hg : (w.alloc tmp).grownBy w1 v.ownBlock) :
    Blk w1 B tb #[v] ∧ BoxS (w1.setCell ⟨B, 0, none⟩ v') B tb te base us' ∧ ∀ (T : Nat → Prop), T B → (∀ g, v.ownBlock = some g → T g) → Far T w (w1.setCell ⟨B, 0, none⟩ v') := by
  subst hm
  have hv1 : Blk w1 B tb #[v] := (hv.alloc tmp).grown hg (fun e => hv.not_row hrow hte e.symm)
  refine ⟨hv1, ⟨v', by simpa using hv1.set_ 0 v', ?_, ?_⟩, fun T hTB hT => ?_⟩
  · have hfar : Far (fun k => k = B) w1 (w1.setCell ⟨B, 0, none⟩ v') := Far.setCell (T := fun k => k = B) (p := ⟨B, 0, none⟩) (Far.refl _ _) (fun _ => rfl) v'
    exact ownsRow_far hown hfar (fun g hg' e => by subst e; exact hv1.not_row hown hte hg')
  · constructor
    · intro e
      subst e
      rcases hown.2 with ⟨_, h0⟩ | ⟨g, cap, cur, e, _⟩
      · exact List.eq_nil_of_length_eq_zero h0
      · cases e
    · intro e; exact absurd e hne
  · have h1 : Far T w (w.alloc tmp) := (Far.refl T w).alloc tmp
    refine (h1.grown hg (fun r e hr => ?_)).setCell (p := ⟨B, 0, none⟩) (fun _ => hTB) v'
    exact hT r e

/-- two variables in boxes are stored into -/
theorem two_set {W : World} {p q : Nat} {t t' : TypeId} {x y : Value} (hpq : p ≠ q) (k1 : Blk W p t #[x]) (k2 : Blk W q t' #[y]) (a b : Value) :
    Blk ((W.setCell ⟨p, 0, none⟩ a).setCell ⟨q, 0, none⟩ b) p t #[a] ∧ Blk ((W.setCell ⟨p, 0, none⟩ a).setCell ⟨q, 0, none⟩ b) q t' #[b] ∧
      Far (fun k => k = p ∨ k = q) W ((W.setCell ⟨p, 0, none⟩ a).setCell ⟨q, 0, none⟩ b) := by
  have h1 : Blk (W.setCell ⟨p, 0, none⟩ a) p t #[a] := k1.set_ 0 a
  have h2 : Blk (W.setCell ⟨p, 0, none⟩ a) q t' #[y] := k2.far (p := ⟨p, 0, none⟩) (Ne.symm hpq) a
  exact ⟨h1.far (p := ⟨q, 0, none⟩) hpq b, h2.set_ 0 b, Far.setCell (T := fun k => k = p ∨ k = q) (p := ⟨q, 0, none⟩) (Far.setCell (T := fun k => k = p ∨ k = q) (p := ⟨p, 0, none⟩) (Far.refl _ _) (fun _ => .inl rfl) a) (fun _ => .inr rfl) b⟩
/-- the values that a loop over spans is handed -/
abbrev spA (x : Sp) : Array Value := #[.agg #[.int .i64 x.1, .int .i64 x.2]]
/-- a loop over spans whose variable lies in a box -/
theorem rangeFB {P : Program} {g : Operand} {ps : Array Tmp} {assign body : Code} {Q : Exit → Act → World → Prop} {a : Act} {w : World} (ib pb : Nat) (tE : TypeId)
    {gf : Nat} {lb : Array Value} (hg : a.eval g = .func (.func gf) #[] lb) (eg : ∀ args w, (callFunc gf args).run P w = .ok (.enter gf args) w)
    {T K : Nat → Prop} {xs : List Sp} (hseq : SeqF P gf lb spA T K xs w) (hps : ps = #[pb])
    (hT : ∀ k, T k → k < w.heap.size) (hK : ∀ k, K k → k < w.heap.size)
    (I : List Sp → World → Prop) (Ix : Code → List Sp → World → Prop)
    (hI : ∀ pre A B, I pre A → Far (fun k => T k ∨ k = w.heap.size ∨ k = w.heap.size + 1) A B → I pre B)
    (hIx : ∀ c pre A B, Ix c pre A → Far (fun k => T k ∨ k = w.heap.size ∨ k = w.heap.size + 1) A B → Ix c pre B)
    (h0 : I [] w)
    (hassign : ∀ (m l : Nat) (x : Sp) (W : World) (C : Act → World → Prop),
      C { tmps := (a.tmps.setIfInBounds pb (.agg #[.int .i64 x.1, .int .i64 x.2])).setIfInBounds ib (.pointer (some ⟨W.heap.size, 0, none⟩)), defers := [] } (W.alloc (.cells #[.int .i64 x.1, .int .i64 x.2] tE)) →
      assign.wpIn (Fence.wide.inRound l) m P (Exit.then C (fun _ _ _ => False)) { tmps := a.tmps.setIfInBounds pb (.agg #[.int .i64 x.1, .int .i64 x.2]), defers := [] } W)
    (hbody : ∀ (m l : Nat) (pre : List Sp) (x : Sp) (Bx : Nat) (Wa W : World), w.heap.size + 2 ≤ W.heap.size → I pre W → pre ++ [x] <+: xs → w.heap.size + 2 ≤ Bx → Blk W Bx tE #[.int .i64 x.1, .int .i64 x.2] → Wa.heap.size ≤ Bx → I pre Wa → Far (fun k => k = w.heap.size + 1) Wa W →
      body.wpIn (Fence.wide.inRound l) m P (fPost w.heap.size K I Ix (pre ++ [x]) W) { tmps := (a.tmps.setIfInBounds pb (.agg #[.int .i64 x.1, .int .i64 x.2])).setIfInBounds ib (.pointer (some ⟨Bx, 0, none⟩)), defers := [] } W)
    (hdone : ∀ (W : World), w.heap.size + 2 ≤ W.heap.size → I xs W → W.heap[w.heap.size]? = some (.deferred (some [])) → Q .normal { a with defers := markOf w.heap.size :: a.defers } W)
    (hstop : ∀ (c : Code) (pre : List Sp) (W : World), w.heap.size + 2 ≤ W.heap.size → pre <+: xs → Ix c pre W → W.heap[w.heap.size]? = some (.deferred (some [])) → c.wp P Q { a with defers := markOf w.heap.size :: a.defers } W) :
    (Code.rangeFunc g ps assign body).wp P Q a w := by
  subst hps
  refine rangeF hg eg hseq (fun _ => rfl) hT hK I Ix hI hIx h0
    (fun N x a' W => ∃ Bx, N ≤ Bx ∧ w.heap.size + 2 ≤ Bx ∧ Blk W Bx tE #[.int .i64 x.1, .int .i64 x.2] ∧ a' = { tmps := (a.tmps.setIfInBounds pb (.agg #[.int .i64 x.1, .int .i64 x.2])).setIfInBounds ib (.pointer (some ⟨Bx, 0, none⟩)), defers := [] })
    (fun N x a' A B ⟨Bx, h0, h1, h2, h3⟩ hf => ⟨Bx, h0, h1, hf.blk h2 (by omega), h3⟩) ?_ ?_ hdone hstop
  · intro m l x W C hs hC
    have e : (#[pb].zip (spA x)).foldl (fun t (p, v) => t.setIfInBounds p v) a.tmps = a.tmps.setIfInBounds pb (.agg #[.int .i64 x.1, .int .i64 x.2]) := by simp [spA]
    rw [e]
    exact hassign m l x W C (hC _ _ ((Far.refl _ W).alloc _) ⟨W.heap.size, Nat.le_refl _, hs, Blk.new _ _ _, rfl⟩)
  · rintro m l pre x a' Wa W hs hi ⟨Bx, h0, h1, h2, rfl⟩ hpre hia hfa
    exact hbody m l pre x Bx Wa W hs hi hpre h1 h2 h0 hia hfa
end Go.Pol
namespace Go.Pol
open Go Go.RowKit

section
variable {P : Program} (w : World)
theorem append_block (base : Nat) (t ty e : TypeId) (i : TypeInfo) (z : Value) (size bytes : Nat) (ht : P.underlying t = some (.slice e)) (hi : P.info? e = some i) (hz : i.zero = some z)
    (hsize : i.size = size) (hby : i.bytes = bytes) (hzs : z.cells.size = size) (hsz : 0 < size)
    (v : Value) (n : Nat) (xs : List Value) (hown : w.ownsRow base e size v n xs)
    (a : Addr) (m c : Nat) (news : List Value) (hl : news.length = m * size) (hnews : ∀ j u, news[j]? = some u → w.cell? (a.add j) = some u) (h1 : ∀ u ∈ news, u.oneCell' = true)
    (h63 : n + m ≤ maxLen) (hbytes : (n + m) * bytes ≤ 140737488355328) (hbase : base ≤ w.heap.size) :
    ∃ v' w', (Builtin.append_ #[t, t] ty #[v, .slice (some a) m c]).run P w = .ok v' w' ∧ w'.ownsRow base e size v' (n + m) (xs ++ news) ∧ w.grownBy w' v.ownBlock ∧
      ∀ g, v'.ownBlock = some g → v.ownBlock = some g ∨ w.heap.size ≤ g := by
  obtain ⟨v', w', hr, r1, r2, _⟩ := run_append_own (P := P) w base t ty e i z size bytes ht hi hz hsize hby hzs hsz v n xs hown a m c news hl hnews h1 h63 hbytes hbase
  refine ⟨v', w', hr, r1, r2, fun g' hg' => ?_⟩
  have hsmall : n + m ≤ 9223372036854775807 := by simp only [maxLen] at h63; omega
  rcases hown.2 with ⟨hv, h0⟩ | ⟨g, cap, cur, hv, hbg, hg, hnc, hcm, hcs, htake⟩
  · subst h0
    have hx : xs = [] := List.eq_nil_of_length_eq_zero (by simpa using hown.1)
    have hown2 : w.ownsRow w.heap.size e size v 0 xs := by rw [hv, hx]; exact World.ownsRow_nil _ _ _ _
    obtain ⟨v2, w2, hr2, s1, _, _⟩ := run_append_own (P := P) w w.heap.size t ty e i z size bytes ht hi hz hsize hby hzs hsz v 0 xs hown2 a m c news hl hnews h1 h63 hbytes (Nat.le_refl _)
    rw [hr] at hr2
    injection hr2 with e1 e2
    subst e1; subst e2
    exact .inr (s1.lt g' hg').1
  · subst hsize
    subst hby
    subst hv
    by_cases hroom : n + m ≤ cap
    · have hfit : n * i.size + news.length ≤ cur.size := by rw [hl, hcs, ← Nat.add_mul]; exact Nat.mul_le_mul_right _ hroom
      have hr2 := run_append_room (P := P) w t ty e i ht hi g n cap cur hg a m c news hl hnews h1 hroom hfit
      rw [hr] at hr2
      injection hr2 with e1 e2
      subst e1
      exact .inl hg'
    · have holds : ∀ j u, xs[j]? = some u → w.cell? ((⟨g, 0, none⟩ : Addr).add j) = some u := hown.cells (g := g) rfl
      have hr2 := run_append_grow (P := P) w t ty e i z ht hi hz ⟨g, 0, none⟩ n cap xs hown.1 holds a m c news hl hnews (by omega) (by omega) (growslice_fits (by omega) hbytes)
      rw [hr] at hr2
      injection hr2 with e1 e2
      subst e1
      simp only [Value.ownBlock, Option.some.injEq] at hg'
      exact .inr (by omega)
end

theorem wpListIn_append_x {F : Fence} {n : Nat} {P : Program} (w : World) {ops : Array Oper} {rest : List Oper} {o : Oper} {a : Act} {Q : Exit → Act → World → Prop}
    (hg : o.guard = none) (s x : Operand) (t : TypeId) (hop : o.op = Op.call { callee := Callee.builtin Builtin.append, args := #[s, x], argTypes := #[t, t] })
    (base : Nat) (e : TypeId) (i : TypeInfo) (z : Value) (size bytes : Nat) (h1 : P.underlying t = some (.slice e)) (h2 : P.info? e = some i) (h3 : i.zero = some z) (h4 : i.size = size) (h5 : i.bytes = bytes) (h6 : z.cells.size = size) (h7 : 0 < size)
    (v : Value) (k : Nat) (xs : List Value) (hs : a.eval s = v) (hown : w.ownsRow base e size v k xs) (ad : Addr) (m c : Nat) (news : List Value) (hx : a.eval x = .slice (some ad) m c) (hn : news.length = m * size)
    (hc : ∀ j u, news[j]? = some u → w.cell? (ad.add j) = some u) (h1c : ∀ u ∈ news, u.oneCell' = true) (b1 : k + m ≤ maxLen) (b2 : (k + m) * bytes ≤ 140737488355328) (b3 : base ≤ w.heap.size)
    (hK : ∀ v' w', w'.ownsRow base e size v' (k + m) (xs ++ news) → w.grownBy w' v.ownBlock → (∀ g, v'.ownBlock = some g → v.ownBlock = some g ∨ w.heap.size ≤ g) → wpListIn F n P ops Q rest (a.put o.dst v') w') :
    wpListIn F n P ops Q (o :: rest) a w := by
  refine wpListIn_plain hg fun K hK' => ?_
  obtain ⟨v', w', hrun, r1, r2, r3⟩ := append_block (P := P) w base t o.type e i z size bytes h1 h2 h3 h4 h5 h6 h7 v k xs hown ad m c news hn hc h1c b1 b2 b3
  unfold Oper.wpIn
  refine ⟨?_, ?_⟩
  · simp [Oper.about, hop, resolve, Target.leads, Sem.run_pure]
  · rw [Oper.semAt_plain F _ _ (by rw [hop]; intro c hc'; cases hc')]
    simp [execOp, hop, resolve, invoke, builtin, hs, hx, hrun, Result.andThen]
    exact hK' _ _ (hK v' w' r1 r2 r3)

/-- the box of a slice, and the row that the slice owns beyond 'base'; neither is a block of X -/
structure BoxX (X : Nat → Prop) (w : World) (B : Nat) (tb te : TypeId) (base size n : Nat) (cs : List Value) : Prop where
  ex : ∃ v, Blk w B tb #[v] ∧ w.ownsRow base te size v n cs ∧ ¬ X B ∧ ∀ g, v.ownBlock = some g → ¬ X g
section
variable {X X' T : Nat → Prop} {w w' w1 : World} {B : Nat} {tb te : TypeId} {base size n : Nat} {cs cs' : List Value} {v v' : Value}
theorem BoxX.far (h : BoxX X w B tb te base size n cs) (hf : Far T w w') (hB : T B → X B) (hT : ∀ g, base ≤ g → T g → X g) : BoxX X w' B tb te base size n cs := by
  obtain ⟨v, h1, h2, h3, h4⟩ := h.ex
  exact ⟨v, hf.blk h1 (fun h => h3 (hB h)), ownsRow_far h2 hf (fun g hg h => h4 g hg (hT g (h2.lt g hg).1 h)), h3, h4⟩
theorem BoxX.new (h : BoxX X w B tb te base size n cs) (hX : ∀ k, X' k → X k ∨ w.heap.size ≤ k) : BoxX X' w B tb te base size n cs := by
  obtain ⟨v, h1, h2, h3, h4⟩ := h.ex
  refine ⟨v, h1, h2, fun h => (hX _ h).elim h3 (fun h => by have := h1.lt; omega), fun g hg h => (hX _ h).elim (h4 g hg) (fun h => by have := (h2.lt g hg).2; omega)⟩
/-- 'out = append(out, x)': what lies behind it -/
theorem BoxX.appended {tmp : Obj} {m : Nat} (hv : Blk w B tb #[v]) (hte : tb ≠ te) (hrow : w.ownsRow base te size v n cs) (hXB : ¬ X B) (hXg : ∀ g, v.ownBlock = some g → ¬ X g)
    (hown : w1.ownsRow base te size v' m cs') (hg : (w.alloc tmp).grownBy w1 v.ownBlock) (hblk : ∀ g, v'.ownBlock = some g → v.ownBlock = some g ∨ (w.alloc tmp).heap.size ≤ g) (hXlt : ∀ k, X k → k < w.heap.size) :
    Blk w1 B tb #[v] ∧ BoxX X (w1.setCell ⟨B, 0, none⟩ v') B tb te base size m cs' ∧ ∀ (T : Nat → Prop), T B → (∀ g, v.ownBlock = some g → T g) → Far T w (w1.setCell ⟨B, 0, none⟩ v') := by
  have hv1 : Blk w1 B tb #[v] := (hv.alloc tmp).grown hg (fun e => hv.not_row hrow hte e.symm)
  refine ⟨hv1, ⟨v', by simpa using hv1.set_ 0 v', ?_, hXB, fun g hg' hx => ?_⟩, fun T hTB hT => ?_⟩
  · have hfar : Far (fun k => k = B) w1 (w1.setCell ⟨B, 0, none⟩ v') := Far.setCell (T := fun k => k = B) (p := ⟨B, 0, none⟩) (Far.refl _ _) (fun _ => rfl) v'
    exact ownsRow_far hown hfar (fun g hg' e => by subst e; exact hv1.not_row hown hte hg')
  · rcases hblk g hg' with h | h
    · exact hXg g h hx
    · have := hXlt g hx
      simp at h; omega
  · have h1 : Far T w (w.alloc tmp) := (Far.refl T w).alloc tmp
    refine (h1.grown hg (fun r e hr => ?_)).setCell (p := ⟨B, 0, none⟩) (fun _ => hTB) v'
    exact hT r e
end

end Go.Pol
namespace Go.Pol
open Go Go.RowKit
/-- the cells of a list of elements -/
def fl {α : Type} (enc : α → List Value) (us : List α) : List Value := us.flatMap enc
section
variable {α : Type} {enc : α → List Value} {sz : Nat}
theorem fl_cons (x : α) (r : List α) : fl enc (x :: r) = enc x ++ fl enc r := by simp [fl]
theorem fl_append (a b : List α) : fl enc (a ++ b) = fl enc a ++ fl enc b := by simp [fl]
theorem fl_len (h : ∀ x, (enc x).length = sz) : ∀ us : List α, (fl enc us).length = us.length * sz
  | [] => by simp [fl]
  | x :: r => by rw [fl_cons, List.length_append, h x, fl_len h r, List.length_cons, Nat.succ_mul, Nat.add_comm]
theorem fl_at (h : ∀ x, (enc x).length = sz) (d : α) : ∀ (us : List α) (k : Nat), k < us.length → ∀ j, j < sz → (fl enc us)[k * sz + j]? = (enc (us.getD k d))[j]?
  | [], k, hk, _, _ => by simp at hk
  | x :: r, 0, _, j, hj => by
    rw [fl_cons, Nat.zero_mul, Nat.zero_add, List.getElem?_append_left (by rw [h x]; exact hj)]
    rfl
  | x :: r, k + 1, hk, j, hj => by
    have ih := fl_at h d r k (by simpa using hk) j hj
    rw [fl_cons, List.getElem?_append_right (by rw [h x, Nat.succ_mul]; omega), h x, show (k + 1) * sz + j - sz = k * sz + j by rw [Nat.succ_mul]; omega, ih]
    rfl
end
section
variable {w w' : World} {B : Nat} {A : Option Addr} {xs : List Value}
theorem Rd.on_ (h : Rd w w.heap.size A xs) (hb : Below w.heap.size w w') : Rd w' w'.heap.size A xs := (h.below hb).more hb.size
/-- the cells of one element -/
theorem Rd.elem {α : Type} {enc : α → List Value} {sz : Nat} {us : List α} (hr : Rd w B A (fl enc us)) (h : ∀ x, (enc x).length = sz) (h0 : 0 < sz) (d : α) {k : Nat} (hk : k < us.length) :
    ∃ b o, A = some ⟨b, o, none⟩ ∧ b < B ∧ ∀ (j : Nat) (v : Value), (enc (us.getD k d))[j]? = some v → w.cell? ⟨b, o + k * sz + j, none⟩ = some v := by
  have hl := fl_len h us
  have hkz : k * sz + sz ≤ us.length * sz := by rw [← Nat.succ_mul]; exact Nat.mul_le_mul_right sz hk
  obtain ⟨b, o, e, hb, _⟩ := hr (k * sz) (by omega)
  refine ⟨b, o, e, hb, fun j v hj => ?_⟩
  have hjz : j < sz := by rw [← h (us.getD k d)]; exact (List.getElem?_eq_some_iff.1 hj).1
  obtain ⟨b', o', e', _, hc⟩ := hr (k * sz + j) (by omega)
  rw [e] at e'; cases e'
  rw [Nat.add_assoc, hc]
  have := fl_at h d us k hk j hjz
  rw [hj, List.getElem?_eq_getElem (by omega)] at this
  exact this
theorem Rd.src (h : Rd w w.heap.size A xs) (ad : Addr) (hA : A = some ad) : ∀ (j : Nat) (u : Value), xs[j]? = some u → w.cell? (ad.add j) = some u := fun j u hj => by
  obtain ⟨hlt, e⟩ := List.getElem?_eq_some_iff.1 hj
  obtain ⟨b, o, e', _, hc⟩ := h j hlt
  rw [hA] at e'; cases e'
  rw [addr_add0, hc, e]
/-- what a call of the own made reads as a list -/
theorem own_Rd {base n sz : Nat} {e : TypeId} {v : Value} (h : w.ownsRow base e sz v n xs) : ∃ (A : Option Addr) (cap : Nat), v = .slice A n cap ∧ Rd w w.heap.size A xs ∧ n ≤ cap ∧ cap ≤ maxLen ∧ (∀ b o, A = some ⟨b, o, none⟩ → base ≤ b) ∧ (A = none → cap = 0) := by
  have hv := h
  rcases h.2 with ⟨rfl, h0⟩ | ⟨g, cap, cur, rfl, hg, hk, hnc, hcm, _⟩
  · subst h0
    have : xs = [] := List.eq_nil_of_length_eq_zero (by rw [h.1]; simp)
    subst this
    exact ⟨none, 0, rfl, fun k hk => absurd hk (by simp), Nat.le_refl _, by unfold maxLen; omega, fun b o e => (by cases e), fun _ => rfl⟩
  · refine ⟨_, cap, rfl, fun k hk' => ?_, hnc, hcm, fun b o e => by cases e; exact hg, fun e => by cases e⟩
    have c0 := hv.cellAt k (by rw [← h.1]; exact hk')
    refine ⟨g, 0, rfl, Blk.lt hk, ?_⟩
    rw [Nat.zero_add, c0, List.getElem?_eq_getElem hk']
/-- the same, with the type of the block -/
theorem own_Rdt {base n sz : Nat} {e : TypeId} {v : Value} (h : w.ownsRow base e sz v n xs) : ∃ (A : Option Addr) (cap : Nat), v = .slice A n cap ∧ Rd w w.heap.size A xs ∧ n ≤ cap ∧ cap ≤ maxLen ∧ (∀ b o, A = some ⟨b, o, none⟩ → base ≤ b) ∧ (A = none → cap = 0) ∧ ∀ b o, A = some ⟨b, o, none⟩ → ∃ cs, Blk w b e cs := by
  obtain ⟨A, cap, h1, h2, h3, h4, h5, h6⟩ := own_Rd h
  refine ⟨A, cap, h1, h2, h3, h4, h5, h6, fun b o hA => ?_⟩
  rcases h.2 with ⟨hv, _⟩ | ⟨g, cap', cur, hv, _, hk, _⟩
  · rw [h1, hA] at hv; cases hv
  · rw [h1, hA] at hv; cases hv; exact ⟨cur, hk⟩
/-- a row of one type is no block of another -/
theorem own_other {base n sz g : Nat} {e t : TypeId} {v : Value} {cs : Array Value} (h : w.ownsRow base e sz v n xs) (hv : v.ownBlock = some g) (hc : Blk w g t cs) (hne : e ≠ t) : False := by
  rcases h.2 with ⟨rfl, _⟩ | ⟨g', cap', cur, rfl, _, hk, _⟩
  · cases hv
  · have e' : g' = g := by injection hv
    subst e'
    exact Blk.ne_ (g := g') hk hc hne rfl
end
theorem z_there {w : World} {g : Nat} {t : TypeId} {cs : Array Value} (h : Blk w g t cs) (o n : Nat) (hn : o + n ≤ cs.size) : w.there g o n := fun j hj => by
  exact ⟨by rw [h.cell]; simp; omega, h.frozen _⟩
/-- cells of a block from a place on -/
def putA (cs : Array Value) : Nat → List Value → Array Value
  | _, [] => cs
  | o, v :: vs => putA (cs.setIfInBounds o v) (o + 1) vs
theorem putA_size (cs : Array Value) : ∀ (o : Nat) (vs : List Value), (putA cs o vs).size = cs.size
  | _, [] => rfl
  | o, v :: vs => by rw [putA, putA_size (cs.setIfInBounds o v) (o + 1) vs]; simp
theorem putA_get : ∀ (vs : List Value) (cs : Array Value) (o : Nat), o + vs.length ≤ cs.size → ∀ i, (putA cs o vs)[i]? = if o ≤ i ∧ i < o + vs.length then vs[i - o]? else cs[i]?
  | [], cs, o, _, i => by rw [putA, if_neg (by simp only [List.length_nil]; omega)]
  | v :: vs, cs, o, h, i => by
    rw [List.length_cons] at h
    rw [putA, putA_get vs _ _ (by simp; omega) i]
    by_cases h1 : i = o
    · subst h1
      rw [if_neg (by omega), if_pos (by simp), Nat.sub_self, Array.getElem?_setIfInBounds_self_of_lt (by omega)]; rfl
    · by_cases h2 : o + 1 ≤ i ∧ i < o + 1 + vs.length
      · rw [if_pos h2, if_pos (by simp; omega), show i - o = (i - (o + 1)) + 1 by omega, List.getElem?_cons_succ]
      · rw [if_neg h2, if_neg (by simp; omega), Array.getElem?_setIfInBounds, if_neg (by omega)]
theorem Blk.puts {w : World} {g : Nat} {t : TypeId} {cs : Array Value} : ∀ (vs : List Value) (o : Nat) (w : World) (cs : Array Value), Blk w g t cs → Blk (w.setCells g o vs) g t (putA cs o vs)
  | [], _, _, _, h => h
  | v :: vs, o, _, _, h => Blk.puts (cs := cs) (w := w) vs (o + 1) _ _ (h.set_ o v)
theorem putA_all {cs : Array Value} {vs : List Value} (h : cs.size = vs.length) : putA cs 0 vs = vs.toArray := by
  apply Array.ext_getElem?
  intro i
  rw [putA_get vs cs 0 (by omega) i]
  by_cases hi : i < vs.length
  · rw [if_pos (by omega)]; simp
  · rw [if_neg (by omega), Array.getElem?_eq_none (by omega), Array.getElem?_eq_none (by simpa using hi)]
theorem Far.puts {T : Nat → Prop} {g : Nat} (hT : T g) : ∀ (vs : List Value) (o : Nat) (A B : World), Far T A B → Far T A (B.setCells g o vs)
  | [], _, _, _, h => h
  | v :: vs, o, _, _, h => Far.puts hT vs (o + 1) _ _ (h.setCell (p := ⟨g, o, none⟩) (fun _ => hT) v)
end Go.Pol
namespace Go.Pol
open Go
/-- a rule: kind, first, every, times -/
abbrev Ru := Int × Int × Int × Int
def ru0 : Ru := (0, 0, 0, 0)
def ruC (x : Ru) : List Value := [.int .i64 x.1, .int .i64 x.2.1, .int .i64 x.2.2.1, .int .i64 x.2.2.2]
theorem ruC_len (x : Ru) : (ruC x).length = 4 := rfl
abbrev ruV (x : Ru) : Value := .agg #[.int .i64 x.1, .int .i64 x.2.1, .int .i64 x.2.2.1, .int .i64 x.2.2.2]
theorem ruC_one (us : List Ru) : ∀ u ∈ fl ruC us, u.oneCell' = true := by
  intro u hu
  simp only [fl, List.mem_flatMap, ruC, List.mem_cons, List.not_mem_nil, or_false] at hu
  obtain ⟨x, _, rfl | rfl | rfl | rfl⟩ := hu <;> rfl
/-- what is wrong with a rule -/
def ruleE (x : Ru) : Int :=
  if x.1 < 0 ∨ 7 ≤ x.1 then 2 else if x.2.1 < 1 ∨ 10000 < x.2.1 ∨ x.2.2.1 < 0 ∨ 12 < x.2.2.1 ∨ x.2.2.2 < 0 ∨ 1000 < x.2.2.2 then 7 else if x.2.2.1 = 0 ∧ x.2.2.2 ≠ 1 then 6 else 0
/-- the first wrong rule -/
def badF : Nat → List Ru → Int × Int
  | _, [] => (0, 0)
  | i, x :: r => if ruleE x ≠ 0 then ((i : Int), ruleE x) else badF (i + 1) r
def chkR (l : List Ru) : Int × Int := if 50 < l.length then (0, 3) else badF 0 l
theorem badF_zero : ∀ (l : List Ru) (i : Nat), (badF i l).2 = 0 ↔ ∀ x ∈ l, ruleE x = 0
  | [], i => by simp [badF]
  | x :: r, i => by
    rw [badF]
    by_cases h : ruleE x = 0
    · rw [if_neg (by simp [h]), badF_zero r (i + 1)]; simp [h]
    · rw [if_pos h]; simp [h]
theorem chkR_zero {l : List Ru} : (chkR l).2 = 0 ↔ l.length ≤ 50 ∧ ∀ x ∈ l, ruleE x = 0 := by
  unfold chkR
  by_cases h : 50 < l.length
  · rw [if_pos h]; simp; omega
  · rw [if_neg h, badF_zero]; simp; omega
theorem ruleE_zero {x : Ru} : ruleE x = 0 ↔ (0 ≤ x.1 ∧ x.1 < 7) ∧ (1 ≤ x.2.1 ∧ x.2.1 ≤ 10000) ∧ (0 ≤ x.2.2.1 ∧ x.2.2.1 ≤ 12) ∧ (0 ≤ x.2.2.2 ∧ x.2.2.2 ≤ 1000) ∧ (x.2.2.1 = 0 → x.2.2.2 = 1) := by
  unfold ruleE
  by_cases h1 : x.1 < 0 ∨ 7 ≤ x.1
  · rw [if_pos h1]; simp; omega
  · rw [if_neg h1]
    by_cases h2 : x.2.1 < 1 ∨ 10000 < x.2.1 ∨ x.2.2.1 < 0 ∨ 12 < x.2.2.1 ∨ x.2.2.2 < 0 ∨ 1000 < x.2.2.2
    · rw [if_pos h2]; simp; omega
    · rw [if_neg h2]
      by_cases h3 : x.2.2.1 = 0 ∧ x.2.2.2 ≠ 1
      · rw [if_pos h3]; simp; omega
      · rw [if_neg h3]; simp; omega
/-- is a call refused by a rule? -/
def rfu (x : Ru) (n : Int) : Bool := decide (x.2.1 ≤ n) && (if x.2.2.1 = 0 then decide (n = x.2.1) else decide ((n - x.2.1) % x.2.2.1 = 0) && (decide (x.2.2.2 = 0) || decide ((n - x.2.1) / x.2.2.1 < x.2.2.2)))
/-- is a call of a kind refused by a plan? -/
def rfd (l : List Ru) (k n : Int) : Bool := l.any fun x => x.1 == k && rfu x n
/-- how many of the first calls are refused -/
def hitN (l : List Ru) (k : Int) : Nat → Int
  | 0 => 0
  | n + 1 => hitN l k n + if rfd l k ((n : Int) + 1) = true then 1 else 0
/-- the first call of a rule after one -/
def nxt (x : Ru) (n : Int) : Int :=
  if n < x.2.1 then x.2.1 else if x.2.2.1 = 0 then 0 else
  if 0 < x.2.2.2 ∧ x.2.2.2 ≤ (n - x.2.1) / x.2.2.1 + 1 then 0 else x.2.1 + ((n - x.2.1) / x.2.2.1 + 1) * x.2.2.1
theorem nxt_rfu {x : Ru} (h : ruleE x = 0) {n : Int} (hn : 1 ≤ n) : (nxt x (n - 1) == n) = rfu x n := by
  obtain ⟨_, h1, h2, h3, h4⟩ := ruleE_zero.1 h
  obtain ⟨k, f, e, t⟩ := x
  simp only at h1 h2 h3 h4
  unfold nxt rfu
  simp only
  rw [Bool.eq_iff_iff, beq_iff_eq]
  by_cases c1 : n - 1 < f
  · rw [if_pos c1]
    constructor
    · rintro rfl
      by_cases c2 : e = 0
      · simp [c2]
      · have : 0 < t ∨ t = 0 := by omega
        rw [if_neg c2]
        simp
        omega
    · intro h
      by_cases c2 : e = 0
      · rw [if_pos c2] at h; simp at h; omega
      · simp at h; omega
  · rw [if_neg c1]
    have hfn : f ≤ n := by omega
    by_cases c2 : e = 0
    · rw [if_pos c2, if_pos c2]; simp; omega
    · rw [if_neg c2, if_neg c2]
      have he : 0 < e := by omega
      obtain ⟨q, hq⟩ : ∃ q, (n - 1 - f) / e = q := ⟨_, rfl⟩
      obtain ⟨r, hr⟩ : ∃ r, (n - 1 - f) % e = r := ⟨_, rfl⟩
      have hd := Int.emod_add_mul_ediv (n - 1 - f) e
      have hr0 := Int.emod_nonneg (n - 1 - f) c2
      have hr1 := Int.emod_lt_of_pos (n - 1 - f) he
      rw [hq, hr] at hd
      rw [hr] at hr0 hr1
      rw [hq]
      by_cases c3 : r + 1 = e
      · have e1 : n - f = e * (q + 1) := by rw [Int.mul_add]; omega
        have e2 : (n - f) % e = 0 := by rw [e1]; exact Int.mul_emod_right e (q + 1)
        have e3 : (n - f) / e = q + 1 := by rw [e1]; exact Int.mul_ediv_cancel_left (q + 1) c2
        have e4 : (q + 1) * e = n - f := by rw [e1, Int.mul_comm]
        rw [e2, e3]
        by_cases c4 : 0 < t ∧ t ≤ q + 1
        · rw [if_pos c4]
          simp
          omega
        · rw [if_neg c4, e4]
          simp
          omega
      · have e1 : n - f = (r + 1) + e * q := by omega
        have e2 : (n - f) % e = r + 1 := by
          rw [e1, Int.add_mul_emod_self_left, Int.emod_eq_of_lt (by omega) (by omega)]
        have e4 : (q + 1) * e = e * q + e := by rw [Int.add_mul, Int.one_mul, Int.mul_comm]
        rw [e2]
        constructor
        · intro h
          by_cases c4 : 0 < t ∧ t ≤ q + 1
          · rw [if_pos c4] at h; omega
          · rw [if_neg c4, e4] at h; omega
        · intro h
          simp at h
          omega
theorem rfu_pos {x : Ru} (h : ruleE x = 0) {n : Int} (hr : rfu x n = true) : 1 ≤ n := by
  obtain ⟨_, h1, _⟩ := ruleE_zero.1 h
  unfold rfu at hr
  simp at hr
  omega
/-- the calls that a rule refuses, up to a limit, from the i-th on -/
def callsF (x : Ru) (lim : Int) : Nat → Nat → List Int
  | 0, _ => []
  | d + 1, i => if x.2.1 + (i : Int) * x.2.2.1 ≤ lim ∧ (x.2.2.2 = 0 ∨ (i : Int) < x.2.2.2) then (x.2.1 + (i : Int) * x.2.2.1) :: callsF x lim d (i + 1) else []
def callsL (x : Ru) (lim : Int) : List Int := callsF x lim (lim.toNat + 2) 0
theorem mul_mono' {i j : Nat} {e : Int} (he : 0 ≤ e) (h : i ≤ j) : (i : Int) * e ≤ (j : Int) * e := Int.mul_le_mul_of_nonneg_right (by omega) he
theorem mul_ge {i : Nat} {e : Int} (he : 1 ≤ e) : (i : Int) ≤ (i : Int) * e := by
  have := Int.mul_le_mul_of_nonneg_left he (show (0 : Int) ≤ i by omega)
  rw [Int.mul_one] at this; exact this
theorem mem_callsF {x : Ru} (h : ruleE x = 0) (lim : Int) : ∀ (d i : Nat), lim + 2 ≤ (d : Int) + i → ∀ m, m ∈ callsF x lim d i ↔ ∃ j : Nat, i ≤ j ∧ m = x.2.1 + (j : Int) * x.2.2.1 ∧ m ≤ lim ∧ (x.2.2.2 = 0 ∨ (j : Int) < x.2.2.2)
  | 0, i, hd, m => by
    obtain ⟨_, h1, h2, h3, h4⟩ := ruleE_zero.1 h
    constructor
    · intro hm; cases hm
    · rintro ⟨j, hij, rfl, hl, ht⟩
      by_cases he : x.2.2.1 = 0
      · have := h4 he
        rw [he, Int.mul_zero] at hl
        omega
      · have := mul_ge (i := j) (e := x.2.2.1) (by omega)
        omega
  | d + 1, i, hd, m => by
    obtain ⟨_, h1, h2, h3, h4⟩ := ruleE_zero.1 h
    rw [callsF]
    by_cases hc : x.2.1 + (i : Int) * x.2.2.1 ≤ lim ∧ (x.2.2.2 = 0 ∨ (i : Int) < x.2.2.2)
    · rw [if_pos hc, List.mem_cons, mem_callsF h lim d (i + 1) (by omega) m]
      constructor
      · rintro (rfl | ⟨j, h5, h6⟩)
        · exact ⟨i, Nat.le_refl _, rfl, hc.1, hc.2⟩
        · exact ⟨j, by omega, h6⟩
      · rintro ⟨j, h5, h6, h7⟩
        by_cases e : j = i
        · subst e; exact .inl h6
        · exact .inr ⟨j, by omega, h6, h7⟩
    · rw [if_neg hc]
      constructor
      · intro hm; cases hm
      · rintro ⟨j, hij, rfl, hl, ht⟩
        refine absurd ⟨?_, ?_⟩ hc
        · have := mul_mono' (e := x.2.2.1) h2.1 hij; omega
        · omega
theorem mem_callsL {x : Ru} (h : ruleE x = 0) {lim : Int} (hl : 0 ≤ lim) (m : Int) : m ∈ callsL x lim ↔ m ≤ lim ∧ rfu x m = true := by
  obtain ⟨_, h1, h2, h3, h4⟩ := ruleE_zero.1 h
  unfold callsL
  rw [mem_callsF h lim _ 0 (by omega) m]
  unfold rfu
  constructor
  · rintro ⟨j, _, rfl, hl, ht⟩
    refine ⟨hl, ?_⟩
    have h5 := mul_mono' (e := x.2.2.1) h2.1 (Nat.zero_le j)
    have e1 : x.2.1 + (j : Int) * x.2.2.1 - x.2.1 = (j : Int) * x.2.2.1 := by omega
    rw [e1]
    by_cases he : x.2.2.1 = 0
    · rw [if_pos he, he]; simp
    · rw [if_neg he, Int.mul_emod_left, Int.mul_ediv_cancel _ he]
      simp
      omega
  · rintro ⟨hm, hr⟩
    rw [Bool.and_eq_true, decide_eq_true_eq] at hr
    obtain ⟨hr1, hr2⟩ := hr
    by_cases he : x.2.2.1 = 0
    · rw [if_pos he, decide_eq_true_eq] at hr2
      have := h4 he
      refine ⟨0, Nat.le_refl _, ?_, hm, ?_⟩
      · rw [he]; omega
      · omega
    · rw [if_neg he, Bool.and_eq_true, decide_eq_true_eq, Bool.or_eq_true, decide_eq_true_eq, decide_eq_true_eq] at hr2
      have hq := Int.ediv_nonneg (a := m - x.2.1) (b := x.2.2.1) (by omega) (by omega)
      have hd := Int.emod_add_mul_ediv (m - x.2.1) x.2.2.1
      rw [hr2.1, Int.mul_comm] at hd
      refine ⟨((m - x.2.1) / x.2.2.1).toNat, Nat.zero_le _, ?_, hm, ?_⟩
      · rw [Int.toNat_of_nonneg hq]; omega
      · rw [Int.toNat_of_nonneg hq]; exact hr2.2
/-- one round of the loop over the calls -/
theorem callsF_go {x : Ru} (h : ruleE x = 0) {lim : Int} {d i : Nat} (hd : lim + 2 ≤ (d : Int) + i) (h1 : x.2.1 + (i : Int) * x.2.2.1 ≤ lim) (h2 : x.2.2.2 = 0 ∨ (i : Int) < x.2.2.2) :
    0 < d ∧ callsF x lim d i = (x.2.1 + (i : Int) * x.2.2.1) :: callsF x lim (d - 1) (i + 1) ∧ (x.2.1 + (i : Int) * x.2.2.1) + x.2.2.1 = x.2.1 + ((i + 1 : Nat) : Int) * x.2.2.1 ∧ (i : Int) ≤ lim := by
  obtain ⟨_, k1, k2, k3, k4⟩ := ruleE_zero.1 h
  have hil : (i : Int) ≤ lim := by
    by_cases he : x.2.2.1 = 0
    · have := k4 he
      rw [he, Int.mul_zero] at h1
      omega
    · have := mul_ge (i := i) (e := x.2.2.1) (by omega)
      omega
  have hd0 : 0 < d := by omega
  refine ⟨hd0, ?_, ?_, hil⟩
  · obtain ⟨d', rfl⟩ : ∃ d', d = d' + 1 := ⟨d - 1, by omega⟩
    rw [callsF, if_pos ⟨h1, h2⟩]; rfl
  · rw [show ((i + 1 : Nat) : Int) = (i : Int) + 1 by omega, Int.add_mul, Int.one_mul]; omega
theorem callsF_end {x : Ru} {lim : Int} {d i : Nat} (h : ¬ (x.2.1 + (i : Int) * x.2.2.1 ≤ lim ∧ (x.2.2.2 = 0 ∨ (i : Int) < x.2.2.2))) : callsF x lim d i = [] := by
  cases d with
  | zero => rfl
  | succ d => rw [callsF, if_neg h]
/-- is a call refused, and a mark of it? -/
theorem rfd_snoc (l : List Ru) (x : Ru) (k n : Int) : rfd (l ++ [x]) k n = (rfd l k n || (x.1 == k && rfu x n)) := by simp [rfd]
theorem hitN_bound (l : List Ru) (k : Int) : ∀ n, 0 ≤ hitN l k n ∧ hitN l k n ≤ n
  | 0 => by simp [hitN]
  | n + 1 => by
    have := hitN_bound l k n
    rw [hitN]
    split <;> omega
/-- a state of refusals -/
structure Rf where
  rules : List Ru
  calls : Nat → Int
  hits : Nat → Int
def upN (f : Nat → Int) (k : Nat) (v : Int) (q : Nat) : Int := if q = k then v else f q
end Go.Pol
namespace Go.Pol
open Go Go.RowKit
section
variable {P : Program} {ops : Array Oper} {Q : Exit → Act → World → Prop} {md : Region.Mode} {S : World → Prop} {tl : List Nat}
def wpAnyT (P : Program) (md : Region.Mode) (ops : Array Oper) (Q : Exit → Act → World → Prop) (S : World → Prop) (tl : List Nat) : Nat → Array Bool → Act → World → Prop
  | 0, listed, a, w => Region.ready md ops listed = [] ∧ Q .normal a w
  | fuel + 1, listed, a, w =>
    (Region.ready md ops listed = [] → Q .normal a w) ∧
    ∀ i ∈ Region.ready md ops listed, wpOp P ops Q i (fun a' w' => (tl.contains i = false → S w') ∧ wpAnyT P md ops Q S tl fuel (listed.setIfInBounds i true) a' w') a w
theorem wpAny_of_T : ∀ (fuel : Nat) (listed : Array Bool) (a : Act) (w : World), wpAnyT P md ops Q S tl fuel listed a w → wpAny P md ops Q fuel listed a w
  | 0, _, _, _, h => h
  | fuel + 1, _, _, _, h => ⟨h.1, fun i hi => wpOp_mono (fun a' w' h' => wpAny_of_T fuel _ a' w' h'.2) (h.2 i hi)⟩
/-- the operations below number n that wait for number i, at first or at second hand -/
def waitB (md : Region.Mode) (ops : Array Oper) (i n : Nat) (l : List Nat) : Bool :=
  match ops[n]? with
  | some o => o.after.any (fun e => Region.binds md e && (e.on == i || l.contains e.on))
  | none => false
def waitsL (md : Region.Mode) (ops : Array Oper) (i : Nat) : Nat → List Nat
  | 0 => []
  | n + 1 => if waitB md ops i n (waitsL md ops i n) = true then n :: waitsL md ops i n else waitsL md ops i n
def Closed (md : Region.Mode) (ops : Array Oper) (listed : Array Bool) : Prop :=
  ∀ j oj, ops[j]? = some oj → listed.getD j false = true → ∀ e ∈ oj.after, Region.binds md e = true → listed.getD e.on false = true
def closedB (md : Region.Mode) (ops : Array Oper) (listed : Array Bool) : Bool :=
  (List.range ops.size).all fun j => !listed.getD j false || (match ops[j]? with | some oj => oj.after.all (fun e => !Region.binds md e || listed.getD e.on false) | none => true)
theorem closed_of {listed : Array Bool} (h : closedB md ops listed = true) : Closed md ops listed := by
  intro j oj hj hl e he hb
  have hjs := (Array.getElem?_eq_some_iff.1 hj).1
  have h1 := List.all_eq_true.1 h j (List.mem_range.2 hjs)
  simp only [hl, Bool.not_true, Bool.false_or, hj] at h1
  have h2 := Array.all_eq_true'.1 h1 e he
  simpa [hb] using h2
theorem Closed.set {listed : Array Bool} {i : Nat} (h : Closed md ops listed) (hi : i ∈ Region.ready md ops listed) : Closed md ops (listed.setIfInBounds i true) := by
  obtain ⟨_, oi, hoi, hall⟩ := mem_ready.1 hi
  intro j oj hj hl e he hb
  by_cases hij : i = j
  · subst hij
    have : oj = oi := Option.some.inj (hj.symm.trans hoi)
    subst this
    exact getD_set_true (hall e he hb)
  · rw [getD_set_ne false hij] at hl
    exact getD_set_true (h j oj hj hl e he hb)
theorem waits_not {listed : Array Bool} {i : Nat} (hc : Closed md ops listed) (hun : listed.getD i false = false) : ∀ n, ∀ t ∈ waitsL md ops i n, listed.getD t false = false ∧ t ∉ Region.ready md ops listed
  | 0, t, ht => by simp [waitsL] at ht
  | n + 1, t, ht => by
    unfold waitsL at ht
    split at ht
    · rename_i hw
      rcases List.mem_cons.1 ht with e | e
      · subst e
        unfold waitB at hw
        split at hw
        · rename_i o ho
          obtain ⟨e, he, hb⟩ := Array.any_eq_true'.1 hw
          simp only [Bool.and_eq_true, Bool.or_eq_true, beq_iff_eq] at hb
          have hno : listed.getD e.on false = false := by
            rcases hb.2 with h | h
            · rw [h]; exact hun
            · exact (waits_not hc hun t e.on (by simpa using h)).1
          refine ⟨?_, fun hr => ?_⟩
          · cases hl : listed.getD t false with
            | false => rfl
            | true => have := hc t o ho hl e he hb.1; rw [hno] at this; cases this
          · obtain ⟨_, o', ho', hall⟩ := mem_ready.1 hr
            have : o' = o := Option.some.inj (ho'.symm.trans ho)
            subst this
            have := hall e he hb.1
            rw [hno] at this; cases this
        · cases hw
      · exact waits_not hc hun n t e
    · exact waits_not hc hun n t ht
theorem wpAnyT_first {i : Nat} {oi : Oper} {v : Value} (hi : ops[i]? = some oi) (hsel : ∀ (j : Nat) (o : Oper) cs b, ops[j]? = some o → o.op ≠ .select cs b)
    (hQ : ∀ c a w, Q (.panic c) (a.put oi.dst v) w → Q (.panic c) a w) (htl : ∀ t ∈ tl, t ∈ waitsL md ops i ops.size) :
    ∀ (fuel : Nat) (listed : Array Bool) (a : Act) (w : World), Closed md ops listed →
      (∀ j oj, ops[j]? = some oj → j ≠ i → listed.getD j true = false → (∀ e ∈ oj.after, Region.binds md e = true → e.on ≠ i) → oi.apart ops oj = true) →
      i ∈ Region.ready md ops listed → YieldsIf P ops S oi v a → S w →
      wpAnyT P md ops Q S tl fuel (listed.setIfInBounds i true) (a.put oi.dst v) w → wpAnyT P md ops Q S tl (fuel + 1) listed a w := by
  intro fuel
  induction fuel with
  | zero =>
    intro listed a w hcl _ hr hy hS H
    refine ⟨fun h => (by rw [h] at hr; cases hr), fun j hj => ?_⟩
    by_cases hji : j = i
    · subst hji; exact hy.wpOp hi hS ⟨fun _ => hS, H⟩
    · have := ready_mono hj hji
      rw [H.1] at this
      cases this
  | succ fuel ih =>
    intro listed a w hcl hfree hr hy hS H
    refine ⟨fun h => (by rw [h] at hr; cases hr), fun j hj => ?_⟩
    by_cases hji : j = i
    · subst hji; exact hy.wpOp hi hS ⟨fun _ => hS, H⟩
    · have h1 := H.2 j (ready_mono hj hji)
      obtain ⟨hjun, oj, hoj, hall⟩ := mem_ready.1 hj
      have hun : listed.getD i false = false := getD_both (mem_ready.1 hr).1
      have hntl : tl.contains j = false := by
        cases h : tl.contains j with
        | false => rfl
        | true => exact absurd hj (waits_not hcl hun _ j (htl j (by simpa using h))).2
      have hnot : ∀ e ∈ oj.after, Region.binds md e = true → e.on ≠ i := fun e he hb heq => by
        have h1 := hall e he hb
        rw [heq, hun] at h1
        cases h1
      have h2 := wpOp_putIf hoj (hfree j oj hoj hji hjun hnot) (fun cs b => hsel i oi cs b hi) (fun cs b => hsel j oj cs b hoj) hQ hy h1
      have hfree' : ∀ k ok, ops[k]? = some ok → k ≠ i → (listed.setIfInBounds j true).getD k true = false →
          (∀ e ∈ ok.after, Region.binds md e = true → e.on ≠ i) → oi.apart ops ok = true := fun k ok hk hki hun hno => by
        refine hfree k ok hk hki ?_ hno
        by_cases hjk : j = k
        · subst hjk; exact hjun
        · rw [getD_set_ne true hjk] at hun; exact hun
      refine wpOp_mono (fun a' w' h3 => ⟨h3.2.1, ih (listed.setIfInBounds j true) a' w' (hcl.set hj) hfree' (ready_mono hr (Ne.symm hji)) h3.1 (h3.2.1 hntl) ?_⟩) h2
      rw [Array.setIfInBounds_comm _ _ hji]
      exact h3.2.2
/-- number 'i' first -/
theorem wpAnyT_take {i : Nat} {oi : Oper} {v : Value} {fuel : Nat} {listed : Array Bool} {a : Act} {w : World} (hi : ops[i]? = some oi)
    (hB : (Region.noSelect ops && Region.free md ops listed i && (Region.ready md ops listed).contains i && closedB md ops listed && tl.all (fun t => (waitsL md ops i ops.size).contains t)) = true)
    (hQ : ∀ c a w, Q (.panic c) (a.put oi.dst v) w → Q (.panic c) a w) (hy : YieldsIf P ops S oi v a) (hS : S w)
    (h : wpAnyT P md ops Q S tl fuel (listed.setIfInBounds i true) (a.put oi.dst v) w) : wpAnyT P md ops Q S tl (fuel + 1) listed a w := by
  simp only [Bool.and_eq_true] at hB
  obtain ⟨⟨⟨⟨h1, h2⟩, h3⟩, h4⟩, h5⟩ := hB
  exact wpAnyT_first hi (Region.noSelect_spec h1) hQ (fun t ht => by simpa using List.all_eq_true.1 h5 t ht) fuel listed a w (closed_of h4) (Region.free_spec hi h2) (by simpa using h3) hy hS h
def AllReadyT (P : Program) (md : Region.Mode) (ops : Array Oper) (Q : Exit → Act → World → Prop) (S : World → Prop) (tl : List Nat) (fuel : Nat) (listed : Array Bool) (a : Act) (w : World) (rs : List Nat) : Prop :=
  ∀ i ∈ rs, wpOp P ops Q i (fun a' w' => (tl.contains i = false → S w') ∧ wpAnyT P md ops Q S tl fuel (listed.setIfInBounds i true) a' w') a w
theorem AllReadyT.nil {fuel : Nat} {listed : Array Bool} {a : Act} {w : World} : AllReadyT P md ops Q S tl fuel listed a w [] := fun _ h => by cases h
theorem AllReadyT.cons {fuel : Nat} {listed : Array Bool} {a : Act} {w : World} {i : Nat} {o : Oper} {rs : List Nat} (ho : ops[i]? = some o)
    (h : ∀ K' : Act → World → Prop, Hid (∀ a w, (tl.contains i = false → S w) → ((tl.contains i = false → S w) → wpAnyT P md ops Q S tl fuel (listed.setIfInBounds i true) a w) → K' a w) → if Region.wanted o (yielded ops a.tmps) = true then Oper.wp P o a w K' Q else K' (a.put o.dst undef) w)
    (hs : AllReadyT P md ops Q S tl fuel listed a w rs) : AllReadyT P md ops Q S tl fuel listed a w (i :: rs) := fun j hj => by
  rcases List.mem_cons.1 hj with rfl | hj
  · exact wpOp_step ho (fun K' hK => h K' (fun a w hS hW => hK a w ⟨hS, hW hS⟩))
  · exact hs j hj
theorem wpAnyT_ready {rs : List Nat} {fuel : Nat} {listed : Array Bool} {a : Act} {w : World} (hr : Region.ready md ops listed = rs) (hne : rs ≠ [])
    (h : AllReadyT P md ops Q S tl fuel listed a w rs) : wpAnyT P md ops Q S tl (fuel + 1) listed a w :=
  ⟨fun h0 => absurd (hr ▸ h0) hne, hr ▸ h⟩
theorem wpAnyT_done {listed : Array Bool} {a : Act} {w : World} (hr : Region.ready md ops listed = []) (h : Q .normal a w) : ∀ fuel, wpAnyT P md ops Q S tl fuel listed a w
  | 0 => ⟨hr, h⟩
  | _ + 1 => ⟨fun _ => h, by rw [hr]; simp⟩
theorem wp_region_T {id : Nat} {a : Act} {w : World} (S : World → Prop) (tl : List Nat) (hm : P.follows .mixedOrders = true) (h : wpAnyT P .any ops Q S tl ops.size (Array.replicate ops.size false) a w.drew) : (Code.region id ops true).wp P Q a w :=
  wp_region_any hm (wpAny_of_T _ _ _ _ h)
end
end Go.Pol
