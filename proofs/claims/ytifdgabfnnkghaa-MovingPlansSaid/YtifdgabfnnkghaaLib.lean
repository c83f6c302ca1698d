/- Words for memory that all walks of this seat share: a slice that reads as a list of integers or of structs of integers; how such readings are carried into worlds that have grown. -/
import Derived.Below
import Derived.Laws.OwnMore
import Derived.Laws.MakeOwn
import Derived.Laws.CopyOwn
import Derived.Deep.RegionLaw
import Derived.Deep.AppendLies
import Derived.Deep.Draws
import Derived.Deep.QuietTactic
import Derived.BigQuiet
import Derived.Lib.Hide
import Derived.WalkKit
import Derived.WalkSpells
import Derived.WalkLawsBesides
import Derived.Maps.AppendAt
import Derived.StillTailTactics
import Derived.Deep.RegionHeld3
import Derived.Deep.DeepCutAuto
import Derived.Deep.DeepFit
import Derived.ChangeSame
import Derived.Deep.Slices
import Derived.Deep.Fields
import Derived.Lib.SmallJoins
import Derived.OpenShut
import Derived.ProofKit
import Derived.OpenVars
import Derived.JoinedOf
namespace Go.Pol
open Go Go.RowKit

theorem block_of_add (a : Addr) (n : Nat) : (a.add n).block = a.block := by unfold Addr.add; split <;> rfl
theorem add_of_add (a : Addr) (i j : Nat) : (a.add i).add j = a.add (i + j) := by
  unfold Addr.add
  by_cases hi : i = 0 <;> by_cases hj : j = 0 <;> simp [hi, hj, Nat.add_assoc]

/-- The cells from 'A' on hold the list 'xs' (one cell each), in a block below 'B'. -/
def Rd (w : World) (B : Nat) (A : Option Addr) (xs : List Value) : Prop :=
  ∀ k (h : k < xs.length), ∃ b o, A = some ⟨b, o, none⟩ ∧ b < B ∧ w.cell? ⟨b, o + k, none⟩ = some xs[k]

section
variable {w w' : World} {B B' : Nat} {A : Option Addr} {xs : List Value}
theorem Rd.keep (h : Rd w B A xs) (hk : ∀ p : Addr, p.block < B → w'.cell? p = w.cell? p) : Rd w' B A xs := fun k hl => by
  obtain ⟨b, o, e, hb, hc⟩ := h k hl
  exact ⟨b, o, e, hb, (hk _ hb).trans hc⟩
theorem Rd.more (h : Rd w B A xs) (hB : B ≤ B') : Rd w B' A xs := fun k hl => by
  obtain ⟨b, o, e, hb, hc⟩ := h k hl
  exact ⟨b, o, e, by omega, hc⟩
theorem Rd.below (h : Rd w B A xs) (hb : Below B w w') : Rd w' B A xs := h.keep fun _ hp => hb.cell hp
theorem Rd.nil : Rd w B A [] := fun k h => absurd h (by simp)
end

/-- A slice of integers. -/
def RI (w : World) (B : Nat) (A : Option Addr) (xs : List Int) : Prop := Rd w B A (xs.map (Value.int .i64))
section
variable {w w' : World} {B B' : Nat} {A : Option Addr} {xs : List Int}
theorem RI.at_ (h : RI w B A xs) {k : Nat} (hk : k < xs.length) :
    ∃ b o, A = some ⟨b, o, none⟩ ∧ b < B ∧ w.cell? ⟨b, o + k, none⟩ = some (.int .i64 (xs.getD k 0)) := by
  obtain ⟨b, o, e, hb, hc⟩ := h k (by simpa using hk)
  refine ⟨b, o, e, hb, hc.trans ?_⟩
  simp [List.getD_eq_getElem?_getD, hk]
theorem RI.below (h : RI w B A xs) (hb : Below B w w') : RI w' B A xs := Rd.below h hb
theorem RI.more (h : RI w B A xs) (hB : B ≤ B') : RI w B' A xs := Rd.more h hB
theorem RI.nil : RI w B A [] := Rd.nil
end
/-- A slice of pairs of integers (a struct with two fields, a cell each). -/
def RU (w : World) (B : Nat) (A : Option Addr) (us : List (Int × Int)) : Prop :=
  ∀ k, k < us.length → ∃ b o, A = some ⟨b, o, none⟩ ∧ b < B ∧ w.cell? ⟨b, o + k * 2, none⟩ = some (.int .i64 (us.getD k (0,0)).1) ∧ w.cell? ⟨b, o + k * 2 + 1, none⟩ = some (.int .i64 (us.getD k (0,0)).2)
section
variable {w w' : World} {B B' : Nat} {A : Option Addr} {us : List (Int × Int)}
theorem RU.keep (h : RU w B A us) (hk : ∀ p : Addr, p.block < B → w'.cell? p = w.cell? p) : RU w' B A us := fun k hl => by
  obtain ⟨b, o, e, hb, hc, hd⟩ := h k hl
  exact ⟨b, o, e, hb, (hk _ hb).trans hc, (hk _ hb).trans hd⟩
theorem RU.below (h : RU w B A us) (hb : Below B w w') : RU w' B A us := h.keep fun _ hp => hb.cell hp
theorem RU.more (h : RU w B A us) (hB : B ≤ B') : RU w B' A us := fun k hl => by
  obtain ⟨b, o, e, hb, hc⟩ := h k hl
  exact ⟨b, o, e, by omega, hc⟩
theorem RU.at_' (h : RU w B A us) {k : Nat} (hk : k < us.length) : ∃ b o, A = some ⟨b, o, none⟩ ∧ b < B ∧ w.cell? ⟨b, o + k * 2, none⟩ = some (.int .i64 (us.getD k (0,0)).1) ∧ w.cell? ⟨b, o + k * 2 + 1, none⟩ = some (.int .i64 (us.getD k (0,0)).2) := h k hk
theorem RU.nil : RU w B A [] := fun k h => absurd h (by simp)
end

theorem below_drewN {B : Nat} {a w : World} (h : Below B a w) (n : Nat) : Below B a (w.drewN n) := ⟨h.os, h.tape, h.output, h.size, h.block⟩

/-- Block 'g' is just the cells 'cs', of element type 't', none of them frozen. -/
def Blk (w : World) (g : Nat) (t : TypeId) (cs : Array Value) : Prop := w.heap[g]? = some (.cells cs t (0, 0))
section
variable {w w' : World} {g : Nat} {t : TypeId} {cs : Array Value}
theorem Blk.lt (h : Blk w g t cs) : g < w.heap.size := by
  by_cases hlt : g < w.heap.size
  · exact hlt
  · unfold Blk at h; rw [Array.getElem?_eq_none (by omega)] at h; cases h
theorem Blk.cell (h : Blk w g t cs) (i : Nat) : w.cell? ⟨g, i, none⟩ = cs[i]? := cell_of_row w g i cs t (0, 0) h
theorem Blk.frozen (h : Blk w g t cs) (i : Nat) : w.frozen? ⟨g, i, none⟩ = false := by
  unfold Blk at h
  simp [World.frozen?, h]
theorem Blk.new (w : World) (t : TypeId) (cs : Array Value) : Blk (w.alloc (.cells cs t)) w.heap.size t cs := heap_alloc_new w _
theorem Blk.drewN (h : Blk w g t cs) (n : Nat) : Blk (w.drewN n) g t cs := h
theorem Blk.drew (h : Blk w g t cs) : Blk w.drew g t cs := h
theorem Blk.alloc (h : Blk w g t cs) (o : Obj) : Blk (w.alloc o) g t cs := (Below.heap_alloc w o g h.lt).trans h
theorem Blk.set_ (h : Blk w g t cs) (i : Nat) (u : Value) : Blk (w.setCell ⟨g, i, none⟩ u) g t (cs.setIfInBounds i u) := by
  unfold Blk at h ⊢
  simp [World.setCell, Array.getElem?_modify, h]
theorem Blk.far (h : Blk w g t cs) {p : Addr} (hp : g ≠ p.block) (u : Value) : Blk (w.setCell p u) g t cs := (Below.heap_setCell w p u g hp).trans h
theorem Blk.below {B : Nat} (h : Blk w g t cs) (hb : Below B w w') (hg : g < B) : Blk w' g t cs := (hb.block g hg).trans h
theorem Blk.call (h : Blk w g t cs) (hb : Below w.heap.size w w') : Blk w' g t cs := (hb.block g h.lt).trans h
theorem Blk.ne_ {g' : Nat} {t' : TypeId} {cs' : Array Value} (h : Blk w g t cs) (h' : Blk w g' t' cs') (hne : t ≠ t') : g ≠ g' := by
  rintro rfl
  unfold Blk at h h'
  rw [h] at h'
  injection h' with h'
  injection h' with _ ht
  exact hne ht
theorem Blk.grown {row : Option Nat} (h : Blk w g t cs) (hb : w.grownBy w' row) (hg : some g ≠ row) : Blk w' g t cs := (hb.block g h.lt hg).trans h
end

theorem addr_add0 (b o j : Nat) : (⟨b, o, none⟩ : Addr).add j = ⟨b, o + j, none⟩ := by
  unfold Addr.add
  by_cases h : j = 0 <;> simp [h]

/-- A later world: what lay below the heap's size lies as it lay. -/
structure Ext (W : World) where
  w : World
  le : Below W.heap.size W w
theorem Ext.cell {W : World} (x : Ext W) {p : Addr} {v : Value} (h : W.cell? p = some v) : x.w.cell? p = some v := by
  have hb : p.block < W.heap.size := by
    by_cases hp : p.block < W.heap.size
    · exact hp
    · have : W.heap[p.block]? = none := Array.getElem?_eq_none (by omega)
      simp [World.cell?, this] at h
  exact (x.le.cell hb).trans h
theorem Ext.blk {W : World} (x : Ext W) {g : Nat} {t : TypeId} {cs : Array Value} (h : Blk W g t cs) : Blk x.w g t cs := h.call x.le
instance extNonempty (W : World) : Nonempty (Ext W) := ⟨⟨W, Below.refl _ _⟩⟩
def Later (W w' : World) : Prop := ∃ x : Ext W, w' = x.w
theorem Later.all {W : World} {p : World → Prop} (h : ∀ x : Ext W, p x.w) : ∀ w', Later W w' → p w' := fun _ ⟨x, e⟩ => e ▸ h x
theorem Ext.call {P : Program} {f : FuncId} {args : Array Value} {W : World} {x : Ext W} {v : Value}
    (h : Calls P f args x.w fun e w' => e = .returned v ∧ Below x.w.heap.size x.w w') : Calls P f args x.w fun e w'' => e = .returned v ∧ ∃ y : Ext W, w'' = y.w :=
  h.mono fun _ w'' ⟨he, hb⟩ => ⟨he, ⟨w'', x.le.trans (hb.mono x.le.size)⟩, rfl⟩
theorem Ext.draws {P : Program} {f : FuncId} {args : Array Value} {W : World} {x : Ext W} {v : Value}
    (h : Calls P f args x.w fun e w' => e = .returned v ∧ ∃ q, w' = x.w.drewN q) : Calls P f args x.w fun e w'' => e = .returned v ∧ ∃ y : Ext W, w'' = y.w :=
  h.mono fun _ w'' ⟨he, q, hb⟩ => ⟨he, ⟨w'', by rw [hb]; exact below_drewN x.le q⟩, rfl⟩
theorem Ext.same {P : Program} {f : FuncId} {args : Array Value} {W : World} {x : Ext W} {v : Value}
    (h : Calls P f args x.w fun e w' => e = .returned v ∧ x.w = w') : Calls P f args x.w fun e w'' => e = .returned v ∧ ∃ y : Ext W, w'' = y.w :=
  h.mono fun _ _ ⟨he, hb⟩ => ⟨he, x, hb.symm⟩
/-- A region that draws its order, whose operations read and call functions that turn nothing that lay there: one walk in the order of the text. -/
theorem region_ext {P : Program} {id : Nat} {Q : Exit → Act → World → Prop} {a : Act} {w : World} {l : List Oper} (hm : P.follows .mixedOrders = true) (hB : Region.lexB .any l.toArray = true)
    (h : wpQuiet P l.toArray (fun w' => ∃ x : Ext w, w' = x.w) (fun a' => ∀ w', (∃ x : Ext w, w' = x.w) → Q .normal a' w') l a) : (Code.region id l.toArray true).wp P Q a w :=
  wp_region_quiet (C := fun w' => ∃ x : Ext w, w' = x.w) hm hB ⟨⟨_, (Below.refl _ w).drew⟩, rfl⟩ (by simpa using h)

theorem results_tmp4 {fn : Func} {t u v x : Tmp} (h : fn.results = #[.tmp t, .tmp u, .tmp v, .tmp x]) (tmps : Array Value) (P : Program) (w : World) :
    (results fn tmps).run P w = .ok (.tuple #[tmps.getD t undef, tmps.getD u undef, tmps.getD v undef, tmps.getD x undef]) w := by simp [results, h]
/-- a list of integers as cells -/
def ints (xs : List Int) : Array Value := (xs.map (Value.int .i64)).toArray
theorem run_makeI {P : Program} (t e : TypeId) (i : TypeInfo) (z : Value) (ht : P.underlying t = some (.slice e)) (hi : P.info? e = some i) (hz : i.zero = some z) (hz1 : z.cells = #[z]) (hs : i.size = 1)
    (kl kc : IntKind) (n : Nat) (hbytes : i.bytes * n ≤ 281474976710656) (h63 : n ≤ 9223372036854775807) (w : World) :
    (Instr.makeSlice t (.int kl (n : Int)) (.int kc (n : Int))).run P w = .ok (.slice (some ⟨w.heap.size, 0, none⟩) n n) (w.alloc (.cells (Array.replicate n z) e)) := by
  have hb : (i.bytes : Int) * (n : Int) ≤ 281474976710656 := by
    have h : ((i.bytes * n : Nat) : Int) ≤ 281474976710656 := by omega
    rwa [Int.natCast_mul] at h
  have hr := run_make (P := P) w t e i z ht hi hz kl kc n n (by omega) (by omega) hb (by omega)
  simp only [Int.toNat_natCast] at hr
  rw [hr, hz1, hs, Nat.mul_one]
  congr 3
  apply Array.toList_inj.1
  rw [toList_madeCells_one, Array.toList_replicate]
theorem ret_int {k : IntKind} {a b : Int} (h : a = b) : Ending.returned (.int k a) = .returned (.int k b) := by rw [h]

/-! A region whose last operations come one behind the other, behind all others: the others read (or call what turns nothing), in whatever order; the last ones are walked one by one, in any later world. -/
section
variable {P : Program} {ops : Array Oper} {md : Region.Mode} {C : World → Prop}
def headQ (P : Program) (md : Region.Mode) (ops : Array Oper) (C : World → Prop) (n : Nat) (L : Array Bool → Act → Prop) : Nat → Array Bool → Act → Prop
  | 0, listed, a => L listed a
  | f + 1, listed, a => Region.ready md ops listed ≠ [] ∧ ∀ i ∈ Region.ready md ops listed, i < n ∧ qOp P ops C i (headQ P md ops C n L f (listed.setIfInBounds i true)) a

theorem wpAny_of_headQ {n g : Nat} {L : Array Bool → Act → Prop} {Q' : Exit → Act → World → Prop} (hL : ∀ listed a w, C w → L listed a → wpAny P md ops Q' g listed a w) :
    ∀ (f : Nat) (listed : Array Bool) (a : Act) (w : World), C w → headQ P md ops C n L f listed a → wpAny P md ops Q' (f + g) listed a w
  | 0, listed, a, w, hw, h => by rw [Nat.zero_add]; exact hL _ _ _ hw h
  | f + 1, listed, a, w, hw, h => by
    rw [show f + 1 + g = (f + g) + 1 by omega]
    exact ⟨fun h0 => absurd h0 h.1, fun i hi => wpOp_of_qOp hw (fun a' w' hw' h' => wpAny_of_headQ hL f _ a' w' hw' h') (h.2 i hi).2⟩

theorem headQ_first {n i : Nat} {oi : Oper} {v : Value} {L : Array Bool → Act → Prop} (hi : ops[i]? = some oi) (hsel : ∀ (j : Nat) (o : Oper) cs b, ops[j]? = some o → o.op ≠ .select cs b)
    (hs : Region.sinkB md ops n = true) (hc : Region.chainB md ops n = true) (hn : n < ops.size) (hin : i < n) (hdone : ∀ listed a, L listed a → ∀ j ∈ Region.ready md ops listed, n ≤ j) :
    ∀ (f : Nat) (listed : Array Bool) (a : Act), HeadInv md ops n listed →
      (∀ j oj, ops[j]? = some oj → j ≠ i → listed.getD j true = false → (∀ e ∈ oj.after, Region.binds md e = true → e.on ≠ i) → oi.apart ops oj = true) →
      i ∈ Region.ready md ops listed → YieldsIn P ops C oi v a →
      headQ P md ops C n L f (listed.setIfInBounds i true) (a.put oi.dst v) → headQ P md ops C n L (f + 1) listed a := by
  intro f
  induction f with
  | zero =>
    intro listed a inv _ hr hy H
    have hun := (mem_ready.1 hr).1
    refine ⟨fun h => (by rw [h] at hr; cases hr), fun j hj => ?_⟩
    have hjn : j < n := by
      by_cases h : j < n
      · exact h
      · exact absurd hj (tail_waits hs hc hn inv _ i rfl hin hun j (by omega))
    refine ⟨hjn, ?_⟩
    by_cases hji : j = i
    · subst hji; exact hy.qOp hi H
    · have := hdone _ _ H j (ready_mono hj hji)
      omega
  | succ f ih =>
    intro listed a inv hfree hr hy H
    have hun := (mem_ready.1 hr).1
    refine ⟨fun h => (by rw [h] at hr; cases hr), fun j hj => ?_⟩
    have hjn : j < n := by
      by_cases h : j < n
      · exact h
      · exact absurd hj (tail_waits hs hc hn inv _ i rfl hin hun j (by omega))
    refine ⟨hjn, ?_⟩
    by_cases hji : j = i
    · subst hji; exact hy.qOp hi H
    · have h1 := (H.2 j (ready_mono hj hji)).2
      obtain ⟨hjun, oj, hoj, hall⟩ := mem_ready.1 hj
      have hnot : ∀ e ∈ oj.after, Region.binds md e = true → e.on ≠ i := fun e he hb heq => by
        have h1 := hall e he hb
        rw [heq, getD_both hun] at h1
        cases h1
      have h2 := qOp_put hoj (hfree j oj hoj hji hjun hnot) (fun cs b => hsel i oi cs b hi) (fun cs b => hsel j oj cs b hoj) hy h1
      have hfree' : ∀ k ok, ops[k]? = some ok → k ≠ i → (listed.setIfInBounds j true).getD k true = false →
          (∀ e ∈ ok.after, Region.binds md e = true → e.on ≠ i) → oi.apart ops ok = true := fun k ok hk hki hu hno => by
        refine hfree k ok hk hki ?_ hno
        by_cases hjk : j = k
        · subst hjk; exact hjun
        · rw [getD_set_ne true hjk] at hu; exact hu
      refine qOp_mono (fun a' h3 => ih (listed.setIfInBounds j true) a' (inv.set hj hjn) hfree' (ready_mono hr (Ne.symm hji)) h3.1 ?_) h2
      rw [Array.setIfInBounds_comm _ _ hji]
      exact h3.2

theorem headQ_lex {n g : Nat} {Lq : Act → Prop} (hsel : Region.noSelect ops = true) (hs : Region.sinkB md ops n = true) (hc : Region.chainB md ops n = true) (hn : n < ops.size) :
    ∀ (l : List Oper) (k : Nat) (listed : Array Bool) (a : Act), (∀ j, j < l.length → l[j]? = ops[k + j]?) → k + l.length = n → HeadInv md ops n listed →
    Region.lexHead md ops g l.length k listed = true → wpQuiet P ops C Lq l a →
    headQ P md ops C n (fun listed' a' => Region.seqB md ops g n listed' = true ∧ Lq a') l.length listed a
  | [], k, listed, a, _, hk, _, hB, h => by
    obtain rfl : k = n := by simpa using hk
    exact ⟨by simpa [Region.lexHead] using hB, h⟩
  | o :: l, k, listed, a, hl, hk, inv, hB, h => by
    have h0 : ops[k]? = some o := by simpa using (hl 0 (by simp)).symm
    simp only [List.length_cons, Region.lexHead, Bool.and_eq_true] at hB
    obtain ⟨⟨hr, hf⟩, hB'⟩ := hB
    have hkn : k < n := by simp only [List.length_cons] at hk; omega
    have hr' : k ∈ Region.ready md ops listed := by simpa using hr
    have hst : qOp P ops C k (wpQuiet P ops C Lq l) a := by unfold qOp; simp only [h0]; exact h
    obtain ⟨v, hy, hK⟩ := yieldsIn_of_qOp h0 hst
    exact headQ_first h0 (Region.noSelect_spec hsel) hs hc hn hkn (fun listed' a' hL => seqB_ready hL.1) l.length listed a inv (Region.free_spec h0 hf) hr' hy
      (headQ_lex hsel hs hc hn l (k + 1) _ _ (fun j hj => by have := hl (j + 1) (by simp; omega); simpa [Nat.add_assoc, Nat.add_comm 1 j] using this) (by simp only [List.length_cons] at hk; omega) (inv.set hr' hkn) hB' hK)

theorem region_ext_tail {id : Nat} {Q : Exit → Act → World → Prop} {a : Act} {w : World} {l : List Oper} (n : Nat) (hm : P.follows .mixedOrders = true) (hB : Region.lexTailB .any l.toArray n = true)
    (h : wpQuiet P l.toArray (fun w' => ∃ x : Ext w, w' = x.w) (fun a' => ∀ x : Ext w, wpList P l.toArray Q (l.drop n) a' x.w) (l.take n) a) : (Code.region id l.toArray true).wp P Q a w := by
  simp only [Region.lexTailB, Bool.and_eq_true, decide_eq_true_eq] at hB
  obtain ⟨⟨⟨⟨hsel, hn⟩, hs⟩, hc⟩, hlex⟩ := hB
  have hn' : n < l.length := by simpa using hn
  have htl : (l.take n).length = n := by simp; omega
  have hdl : (l.drop n).length = l.toArray.size - n := by simp
  have inv0 : HeadInv .any l.toArray n (Array.replicate l.toArray.size false) :=
    ⟨by simp, fun j oj _ hl => (by rw [getD_replicate_false] at hl; cases hl), fun t _ ht => getD_in (by simpa using ht) (getD_replicate_false _ _)⟩
  have H := headQ_lex (md := .any) (g := l.toArray.size - n) hsel hs hc hn (l.take n) 0 _ a (fun j hj => by
    have hj' : j < n := by rw [htl] at hj; exact hj
    simp [hj']) (by simpa using htl) inv0 (by rw [htl]; exact hlex) h
  refine wp_region_any hm ?_
  have := wpAny_of_headQ (Q' := Q) (g := l.toArray.size - n) (fun listed a' w' hw' hL => by
    obtain ⟨x, rfl⟩ := hw'
    have := wpAny_of_seq (md := .any) (Q' := Q) (l.drop n) n listed a' x.w (fun j => by simp [List.getElem?_drop]) (by rw [hdl]; exact hL.1) (hL.2 x)
    rwa [hdl] at this) _ _ _ _ (⟨⟨_, (Below.refl _ w).drew⟩, rfl⟩ : ∃ x : Ext w, ({ w with drawn := w.drawn + 1 } : World) = x.w) H
  rw [htl, show n + (l.toArray.size - n) = l.toArray.size by omega] at this
  exact this
end
theorem Ext.frozen {W : World} (x : Ext W) {p : Addr} {v : Value} (h : W.cell? p = some v) (hf : W.frozen? p = false) : x.w.frozen? p = false := by
  have hb : p.block < W.heap.size := by
    by_cases hp : p.block < W.heap.size
    · exact hp
    · have : W.heap[p.block]? = none := Array.getElem?_eq_none (by omega)
      simp [World.cell?, this] at h
  exact (x.le.frozen hb).trans hf

theorem mul_abs (a d : Int) (s t : Nat) (ha : -s ≤ a ∧ a ≤ s) (hd : -t ≤ d ∧ d ≤ t) : -((s * t : Nat) : Int) ≤ a * d ∧ a * d ≤ ((s * t : Nat) : Int) := by
  have h : (a * d).natAbs ≤ s * t := by rw [Int.natAbs_mul]; exact Nat.mul_le_mul (by omega) (by omega)
  omega
theorem mul_wrap (a d : Int) (ha : -10000 ≤ a ∧ a ≤ 10000) (hd : -10000 ≤ d ∧ d ≤ 10000) : IntKind.i64.wrap (a * d) = a * d := by
  have := mul_abs a d 10000 10000 (by omega) (by omega)
  exact IntWalk.i64_in _ (by omega)
theorem mul_wrap64 (a d : Int) (ha : -10000 ≤ a ∧ a ≤ 10000) (hd : -10000 ≤ d ∧ d ≤ 10000) : wrap64 (a * d) = a * d := by
  have := mul_abs a d 10000 10000 (by omega) (by omega)
  exact IntWalk.wrap64_in _ (by omega)
theorem ret_bool {a b : Bool} (h : a = b) : Ending.returned (.bool a) = .returned (.bool b) := by rw [h]
theorem drop_cons {α : Type} (d : α) (xs : List α) (k : Nat) (h : k < xs.length) : xs.drop k = xs.getD k d :: xs.drop (k+1) := by
  rw [List.drop_eq_getElem_cons h]; simp [List.getD_eq_getElem?_getD, h]
/-! A region whose operations are taken one by one in whatever order: an invariant that speaks of what has been done. -/
section
variable {P : Program} {Q : Exit → Act → World → Prop}
def StepAll (P : Program) (ops : Array Oper) (Q : Exit → Act → World → Prop) (Inv : (Nat → Bool) → Act → World → Prop) : List Oper → Nat → Prop
  | [], _ => True
  | o :: r, k => (∀ (D : Nat → Bool) (a : Act) (w : World), Inv D a w → D k = false → (∀ e ∈ o.after, Region.binds .any e = true → D e.on = true) →
      (if Region.wanted o (yielded ops a.tmps) then o.wp P a w (fun a' w' => Inv (fun j => j == k || D j) a' w') Q else Inv (fun j => j == k || D j) (a.put o.dst undef) w)) ∧ StepAll P ops Q Inv r (k + 1)

def edgesDown : List Oper → Nat → Bool
  | [], _ => true
  | o :: r, k => o.after.all (fun e => !Region.binds .any e || decide (e.on < k)) && edgesDown r (k + 1)

theorem edgesDown_at : ∀ (l : List Oper) (k : Nat), edgesDown l k = true → ∀ i o, l[i]? = some o → ∀ e ∈ o.after, Region.binds .any e = true → e.on < k + i
  | [], _, _, _, _, h => by simp at h
  | o :: r, k, h, i, o', hi => by
    simp only [edgesDown, Bool.and_eq_true] at h
    cases i with
    | zero =>
      simp at hi; subst hi
      intro e he hb
      have := Array.all_eq_true'.1 h.1 e he
      simpa [hb] using this
    | succ i =>
      intro e he hb
      have := edgesDown_at r (k + 1) h.2 i o' (by simpa using hi) e he hb
      omega

theorem StepAll.at_ {ops : Array Oper} {Inv : (Nat → Bool) → Act → World → Prop} : ∀ (l : List Oper) (k : Nat), StepAll P ops Q Inv l k → ∀ i o, l[i]? = some o →
    ∀ (D : Nat → Bool) (a : Act) (w : World), Inv D a w → D (k + i) = false → (∀ e ∈ o.after, Region.binds .any e = true → D e.on = true) →
      (if Region.wanted o (yielded ops a.tmps) then o.wp P a w (fun a' w' => Inv (fun j => j == (k + i) || D j) a' w') Q else Inv (fun j => j == (k + i) || D j) (a.put o.dst undef) w)
  | [], _, _, i, o, hi => by simp at hi
  | o :: r, k, h, i, o', hi => by
    cases i with
    | zero => simp at hi; subst hi; exact h.1
    | succ i =>
      have := StepAll.at_ r (k + 1) h.2 i o' (by simpa using hi)
      rw [show k + 1 + i = k + (i + 1) by omega] at this
      exact this

theorem wpAny_of_inv {l : List Oper} {Inv : (Nat → Bool) → Act → World → Prop} (hB : edgesDown l 0 = true) (hs : StepAll P l.toArray Q Inv l 0)
    (hext : ∀ D D' a w, (∀ i, i < l.length → D i = D' i) → Inv D a w → Inv D' a w)
    (he : ∀ a w, Inv (fun _ => true) a w → Q .normal a w) : ∀ (fuel : Nat) (listed : Array Bool) (a : Act) (w : World), listed.size = l.length → (l.length ≤ fuel + (listed.toList.filter id).length) →
      Inv (fun i => listed.getD i true) a w → wpAny P .any l.toArray Q fuel listed a w := by
  have hnil : ∀ (listed : Array Bool) (a : Act) (w : World), listed.size = l.length → Inv (fun i => listed.getD i true) a w → Region.ready .any l.toArray listed = [] → Q .normal a w := by
    intro listed a w hsz hi hr
    refine he a w (hext _ _ a w (fun i hil => ?_) hi)
    -- the least place that is not listed would be ready
    have hmin : ∀ i, i < l.length → listed.getD i true = true := by
      intro i
      induction i using Nat.strongRecOn with
      | _ i ih =>
        intro hil
        cases hb : listed.getD i true with
        | true => rfl
        | false =>
          exfalso
          obtain ⟨o, ho⟩ : ∃ o, l[i]? = some o := ⟨l[i], List.getElem?_eq_getElem hil⟩
          have : i ∈ Region.ready .any l.toArray listed := mem_ready.2 ⟨hb, o, by simpa using ho, fun e hem hbind => by
            have hlt := edgesDown_at l 0 hB i o ho e hem hbind
            have h1 := ih e.on (by omega) (by omega)
            have h2 : e.on < listed.size := by omega
            simp [h2] at h1 ⊢
            exact h1⟩
          rw [hr] at this
          cases this
    exact hmin i hil
  intro fuel
  induction fuel with
  | zero =>
    intro listed a w hsz hf hi
    have hall : Region.ready .any l.toArray listed = [] := by
      cases hr : Region.ready .any l.toArray listed with
      | nil => rfl
      | cons i rs =>
        exfalso
        have hmem : i ∈ Region.ready .any l.toArray listed := by rw [hr]; simp
        obtain ⟨hun, o, ho, _⟩ := mem_ready.1 hmem
        have hil : i < l.length := by have := (Array.getElem?_eq_some_iff.1 ho).1; simpa using this
        have hlen := List.length_filter_lt_length_iff_exists (p := (id : Bool → Bool)) (l := listed.toList) |>.2 ⟨listed.getD i true, by
          have : i < listed.size := by omega
          simp [this], by simp [hun]⟩
        have : listed.toList.length = l.length := by simpa using hsz
        omega
    exact ⟨hall, hnil listed a w hsz hi hall⟩
  | succ fuel ih =>
    intro listed a w hsz hf hi
    refine ⟨hnil listed a w hsz hi, fun i hmem => ?_⟩
    obtain ⟨hun, o, ho, hall⟩ := mem_ready.1 hmem
    have hil : i < l.length := by have := (Array.getElem?_eq_some_iff.1 ho).1; simpa using this
    have hst := StepAll.at_ l 0 hs i o (by simpa using ho) (fun i => listed.getD i true) a w hi (by simpa using hun) (fun e hem hbind => by
      have h1 := hall e hem hbind
      have h2 : e.on < listed.size := by have := edgesDown_at l 0 hB i o (by simpa using ho) e hem hbind; omega
      simp [h2] at h1 ⊢
      exact h1)
    rw [Nat.zero_add] at hst
    have hnext : ∀ a' w', Inv (fun j => j == i || listed.getD j true) a' w' → wpAny P .any l.toArray Q fuel (listed.setIfInBounds i true) a' w' := by
      intro a' w' h'
      refine ih _ a' w' (by simpa using hsz) ?_ (hext _ _ a' w' (fun j hj => ?_) h')
      · have hc : ((listed.setIfInBounds i true).toList.filter id).length = (listed.toList.filter id).length + 1 := by
          have hi' : i < listed.toList.length := by simp; omega
          have hf' : listed.toList[i] = false := by
            have : i < listed.size := by omega
            simp [this] at hun; simpa using hun
          rw [Array.toList_setIfInBounds]
          have e1 := List.take_append_drop i listed.toList
          have e2 : listed.toList.drop i = false :: listed.toList.drop (i + 1) := by rw [List.drop_eq_getElem_cons hi', hf']
          have e3 : listed.toList.set i true = listed.toList.take i ++ true :: listed.toList.drop (i + 1) := by
            rw [List.set_eq_take_append_cons_drop, if_pos hi']
          rw [e3]
          conv => rhs; rw [← e1, e2]
          simp
          omega
        omega
      · by_cases hji : j = i
        · subst hji
          have : j < listed.size := by omega
          simp [this]
        · have : j < listed.size := by omega
          simp [hji, this, Ne.symm hji]
    unfold wpOp
    rw [ho]
    show if Region.wanted o (yielded l.toArray a.tmps) = true then _ else _
    split
    · rename_i hw
      rw [if_pos hw] at hst
      exact .inl (Oper.wp_mono hnext hst)
    · rename_i hw
      rw [if_neg hw] at hst
      exact hnext _ _ hst

theorem region_inv {id : Nat} {a : Act} {w : World} {l : List Oper} (Inv : (Nat → Bool) → Act → World → Prop) (hm : P.follows .mixedOrders = true) (hB : edgesDown l 0 = true)
    (hext : ∀ D D' a w, (∀ i, i < l.length → D i = D' i) → Inv D a w → Inv D' a w)
    (h0 : ∀ D, (∀ i, i < l.length → D i = false) → Inv D a { w with drawn := w.drawn + 1 }) (hs : StepAll P l.toArray Q Inv l 0) (he : ∀ a w, Inv (fun _ => true) a w → Q .normal a w) : (Code.region id l.toArray true).wp P Q a w := by
  refine wp_region_any hm (wpAny_of_inv hB hs hext he _ _ _ _ (by simp) (by simp) (h0 _ (fun i hi => ?_)))
  have : i < (Array.replicate l.toArray.size false).size := by simpa using hi
  simp [hi]
end

end Go.Pol
