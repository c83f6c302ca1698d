/- A range over a function value whose function keeps its state in cells: what it may write (T), what the loop's body must leave (K), what the loop carries (I); the contract of such a function value, and the statement's own law at the widest fence. -/
import Derived.Test.YtifdgabfnnkghaaLib
import Derived.RangeFuncNested
import Derived.RangeFuncBound
import Derived.RangeFuncCalls
import Derived.RangeFuncLeaves
import Derived.OwnWalkIn
import Derived.TacticsInMore
import Derived.LoopNIn
import Derived.LoopIn
namespace Go.Pol
open Go Go.RowKit

/-- B differs from A at blocks of T alone; it may have more blocks. -/
structure Far (T : Nat → Prop) (A B : World) : Prop where
  os : B.os = A.os
  tape : B.tape = A.tape
  output : B.output = A.output
  size : A.heap.size ≤ B.heap.size
  block : ∀ k, k < A.heap.size → ¬ T k → B.heap[k]? = A.heap[k]?
section
variable {T T' : Nat → Prop} {A B C : World}
theorem Far.refl (T : Nat → Prop) (A : World) : Far T A A := ⟨rfl, rfl, rfl, Nat.le_refl _, fun _ _ _ => rfl⟩
theorem Far.trans (h : Far T A B) (k : Far T B C) : Far T A C :=
  ⟨k.os.trans h.os, k.tape.trans h.tape, k.output.trans h.output, Nat.le_trans h.size k.size, fun i hi hT => (k.block i (Nat.lt_of_lt_of_le hi h.size) hT).trans (h.block i hi hT)⟩
theorem Far.mono (h : Far T A B) (hT : ∀ k, k < A.heap.size → T k → T' k) : Far T' A B := ⟨h.os, h.tape, h.output, h.size, fun k hk hn => h.block k hk (fun ht => hn (hT k hk ht))⟩
/-- the first world's own blocks -/
theorem Far.trans' (h : Far T A B) (k : Far T' B C) (hT : ∀ i, i < A.heap.size → T' i → T i) : Far T A C :=
  ⟨k.os.trans h.os, k.tape.trans h.tape, k.output.trans h.output, Nat.le_trans h.size k.size, fun i hi hn => (k.block i (Nat.lt_of_lt_of_le hi h.size) (fun ht => hn (hT i hi ht))).trans (h.block i hi hn)⟩
theorem Far.of_below (h : Below A.heap.size A B) : Far T A B := ⟨h.os, h.tape, h.output, h.size, fun k hk _ => h.block k hk⟩
theorem Far.below {n : Nat} (h : Far T A B) (hn : n ≤ A.heap.size) (hT : ∀ k, k < n → ¬ T k) : Below n A B := ⟨h.os, h.tape, h.output, h.size, fun k hk => h.block k (by omega) (hT k hk)⟩
theorem Far.alloc (h : Far T A B) (o : Obj) : Far T A (B.alloc o) := h.trans (.of_below ((Below.refl _ _).alloc (Nat.le_refl _) o))
theorem Far.drew (h : Far T A B) : Far T A B.drew := h.trans (.of_below ((Below.refl _ _).drew))
theorem Far.setCell (h : Far T A B) {p : Addr} (hp : p.block < A.heap.size → T p.block) (v : Value) : Far T A (B.setCell p v) := by
  refine ⟨h.os, h.tape, h.output, Nat.le_trans h.size (KeepsWalks.setCell B p v).size, fun k hk hT => (Below.heap_setCell B p v k (fun e => ?_)).trans (h.block k hk hT)⟩
  exact hT (by rw [e]; exact hp (by rw [← e]; exact hk))
theorem Far.putObj (h : Far T A B) {l : Nat} (hl : l < A.heap.size → T l) (o : Obj) : Far T A (B.putObj l o) :=
  ⟨h.os, h.tape, h.output, by rw [World.putObj_size]; exact h.size, fun k hk hT => (World.putObj_heap_other (fun e => hT (by rw [e]; exact hl (by rw [← e]; exact hk)))).trans (h.block k hk hT)⟩
theorem Far.call (h : Far T A B) (hb : Below B.heap.size B C) : Far T A C := h.trans (.of_below hb)
theorem Far.blk {g : Nat} {t : TypeId} {cs : Array Value} (h : Far T A B) (hg : Blk A g t cs) (hT : ¬ T g) : Blk B g t cs := (h.block g hg.lt hT).trans hg
theorem Far.same {l : Nat} {o : Obj} (h : Far T A B) (hl : A.heap[l]? = some o) (hT : ¬ T l) : B.heap[l]? = some o := (h.block l (Array.getElem?_eq_some_iff.1 hl).1 hT).trans hl
theorem Far.cell {p : Addr} {v : Value} (h : Far T A B) (hc : A.cell? p = some v) (hT : ¬ T p.block) : B.cell? p = some v := by
  have hb : p.block < A.heap.size := World.block_lt_of_cell? _ _ hc
  have := h.block p.block hb hT
  simp only [World.cell?] at hc ⊢
  rw [this]; exact hc
theorem Far.frozen {p : Addr} {v : Value} (h : Far T A B) (hc : A.cell? p = some v) (hf : A.frozen? p = false) (hT : ¬ T p.block) : B.frozen? p = false := by
  have hb : p.block < A.heap.size := World.block_lt_of_cell? _ _ hc
  have := h.block p.block hb hT
  simp only [World.frozen?] at hf ⊢
  rw [this]; exact hf
theorem Far.ru {Bn : Nat} {Ad : Option Addr} {us : List (Int × Int)} (h : Far T A B) (hr : RU A Bn Ad us) (hT : ∀ b o, Ad = some ⟨b, o, none⟩ → ¬ T b) : RU B Bn Ad us := fun k hl => by
  obtain ⟨b, o, e, hb, hc, hd⟩ := hr k hl
  exact ⟨b, o, e, hb, h.cell hc (hT b o e), h.cell hd (hT b o e)⟩
theorem Far.ri {Bn : Nat} {Ad : Option Addr} {us : List Int} (h : Far T A B) (hr : RI A Bn Ad us) (hT : ∀ b o, Ad = some ⟨b, o, none⟩ → ¬ T b) : RI B Bn Ad us := fun k hl => by
  obtain ⟨b, o, e, hb, hc⟩ := hr k hl
  exact ⟨b, o, e, hb, h.cell hc (hT b o e)⟩
end

/-- the contract of a function value that is ranged over: it goes through just 'xs' -/
def SeqF {α : Type} (P : Program) (g : Nat) (lb : Array Value) (encs : α → Array Value) (T K : Nat → Prop) (xs : List α) (w : World) : Prop :=
  ∀ (n l : Nat) (J Jx : List α → World → Prop) (W : World), Far (fun k => ¬ K k) w W →
    (∀ pre A B, J pre A → Far T A B → J pre B) → (∀ pre A B, Jx pre A → Far T A B → Jx pre B) →
    (∀ m pre x W1, J pre W1 → pre ++ [x] <+: xs → YieldAt Fence.wide m P l (encs x) W1 fun e W' =>
      (e = .returned (.bool true) ∧ J (pre ++ [x]) W' ∧ Far (fun k => ¬ K k) W1 W') ∨ (e = .returned (.bool false) ∧ Jx (pre ++ [x]) W')) →
    J [] W →
    CallsIn Fence.wide n P g (#[.func (.yield l) #[] #[]] ++ lb) W fun e W' => (∃ v, e = .returned v) ∧ (J xs W' ∨ ∃ pre, pre <+: xs ∧ Jx pre W')

theorem SeqF.later {α : Type} {P : Program} {g : Nat} {lb : Array Value} {encs : α → Array Value} {T K : Nat → Prop} {xs : List α} {w w' : World}
    (h : SeqF P g lb encs T K xs w) (hw : Far (fun k => ¬ K k) w w') : SeqF P g lb encs T K xs w' :=
  fun n l J Jx W hW => h n l J Jx W (hw.trans hW)

/-- how a round's body may be left -/
def fPost {α : Type} (D : Nat) (K : Nat → Prop) (I : List α → World → Prop) (Ix : Code → List α → World → Prop) (xs : List α) (W : World) : Exit → Act → World → Prop
  | .normal, _, W' => Far (fun k => ¬ (K k ∨ k = D ∨ k = D + 1)) W W' ∧ I xs W'
  | .ret, _, W' => Far (fun k => ¬ (k = D ∨ k = D + 1)) W W' ∧ Ix .ret xs W'
  | .exit id, _, W' => Far (fun k => ¬ (k = D ∨ k = D + 1)) W W' ∧ Ix (.exit id) xs W'
  | .goto t, _, W' => Far (fun k => ¬ (k = D ∨ k = D + 1)) W W' ∧ Ix (.goto t) xs W'
  | .panic _, _, _ => False
  | .outgrown, _, _ => False

/-- the mark that the statement leaves among the activation's deferred calls -/
abbrev markOf (D : Nat) : Deferred := { target := .collected D, args := #[] }

theorem rangeF {α : Type} {P : Program} {g : Operand} {ps : Array Tmp} {assign body : Code} {Q : Exit → Act → World → Prop} {a : Act} {w : World}
    {gf : Nat} {lb : Array Value} (hg : a.eval g = .func (.func gf) #[] lb) (eg : ∀ args w, (callFunc gf args).run P w = .ok (.enter gf args) w)
    {encs : α → Array Value} {T K : Nat → Prop} {xs : List α} (hseq : SeqF P gf lb encs T K xs w) (hps : ∀ x, (encs x).size = ps.size)
    (hT : ∀ k, T k → k < w.heap.size) (hK : ∀ k, K k → k < w.heap.size)
    (I : List α → World → Prop) (Ix : Code → List α → World → Prop)
    (hI : ∀ pre A B, I pre A → Far (fun k => T k ∨ k = w.heap.size ∨ k = w.heap.size + 1) A B → I pre B)
    (hIx : ∀ c pre A B, Ix c pre A → Far (fun k => T k ∨ k = w.heap.size ∨ k = w.heap.size + 1) A B → Ix c pre B)
    (h0 : I [] w) (Ax : Nat → α → Act → World → Prop) (hAx : ∀ N x a' A B, Ax N x a' A → Far (fun k => k = w.heap.size + 1) A B → Ax N x a' B)
    (hassign : ∀ (m l : Nat) (x : α) (W : World) (C : Act → World → Prop), w.heap.size + 2 ≤ W.heap.size → (∀ a' W', Far (fun _ => False) W W' → Ax W.heap.size x a' W' → C a' W') →
      assign.wpIn (Fence.wide.inRound l) m P (Exit.then C (fun _ _ _ => False)) { tmps := (ps.zip (encs x)).foldl (fun t (p, v) => t.setIfInBounds p v) a.tmps, defers := [] } W)
    (hbody : ∀ (m l : Nat) (pre : List α) (x : α) (a' : Act) (Wa W : World), w.heap.size + 2 ≤ W.heap.size → I pre W → Ax Wa.heap.size x a' W → pre ++ [x] <+: xs → I pre Wa → Far (fun k => k = w.heap.size + 1) Wa W →
      body.wpIn (Fence.wide.inRound l) m P (fPost w.heap.size K I Ix (pre ++ [x]) W) a' W)
    (hdone : ∀ (W : World), w.heap.size + 2 ≤ W.heap.size → I xs W → W.heap[w.heap.size]? = some (.deferred (some [])) → Q .normal { a with defers := markOf w.heap.size :: a.defers } W)
    (hstop : ∀ (c : Code) (pre : List α) (W : World), w.heap.size + 2 ≤ W.heap.size → pre <+: xs → Ix c pre W → W.heap[w.heap.size]? = some (.deferred (some [])) → c.wp P Q { a with defers := markOf w.heap.size :: a.defers } W) :
    (Code.rangeFunc g ps assign body).wp P Q a w := by
  refine (wpIn_wide (n := 0)).1 (wpIn_rangeFunc fun fn _ => ?_)
  obtain ⟨D, hD⟩ : ∃ D, w.heap.size = D := ⟨_, rfl⟩
  -- the loop's record, in its three states
  obtain ⟨rec, hrec⟩ : ∃ rec : LoopState → Option Code → Loop, rec = fun s p => { state := s, pending := p, fn, tmps := a.tmps, params := ps, assign, body, defers := D } := ⟨_, rfl⟩
  obtain ⟨W1, hW1⟩ : ∃ W1, (w.alloc (.deferred (some []))).alloc (.loop (rec .ready none)) = W1 := ⟨_, rfl⟩
  have hent : (Instr.enterLoop fn a.tmps ps assign body none).run P w = .ok (D + 1, [markOf D]) W1 := by
    rw [← hW1, hrec, ← hD]; exact run_enterLoop_outer _ _ _ _ _
  have hfar : Far (fun _ => False) w W1 := by rw [← hW1]; exact ((Far.refl _ w).alloc _).alloc _
  have hl1 : W1.heap[D + 1]? = some (.loop (rec .ready none)) := by
    rw [← hW1, ← hD]
    have := World.alloc_heap_new (w.alloc (.deferred (some []))) (.loop (rec .ready none))
    rwa [World.size_alloc] at this
  have hd1 : W1.heap[D]? = some (.deferred (some [])) := by
    rw [← hW1, ← hD]; exact (Below.heap_alloc _ _ _ (by simp)).trans (World.alloc_heap_new w _)
  rw [hD] at hT hK hI hIx hAx hassign hbody hdone hstop
  refine ⟨D + 1, [markOf D], W1, { target := .fn (.func gf) lb, args := #[.func (.yield (D + 1)) #[] #[]] }, W1, gf, #[.func (.yield (D + 1)) #[] #[]] ++ lb, W1, hent, ?_, fun _ _ => trivial, ?_, fun h => (by cases h), ?_⟩
  · simp only [resolve, hg]
    simp [go_sem]
  · simp [invoke, go_sem, eg]
  -- what the iterator carries: the loop's invariant, the record, the block for deferred calls
  let J : List α → World → Prop := fun pre W => I pre W ∧ W.heap[D + 1]? = some (.loop (rec .ready none)) ∧ W.heap[D]? = some (.deferred (some []))
  let Jx : List α → World → Prop := fun pre W => ∃ c, Ix c pre W ∧ W.heap[D + 1]? = some (.loop (rec .done (some c))) ∧ W.heap[D]? = some (.deferred (some []))
  have hnT : ∀ k, T k → k ≠ D ∧ k ≠ D + 1 := fun k hk => by have := hT k hk; omega
  have hnK : ∀ k, K k → k ≠ D ∧ k ≠ D + 1 := fun k hk => by have := hK k hk; omega
  refine (hseq _ (D + 1) J Jx W1 (hfar.mono (fun _ _ h => h.elim)) (fun pre A B h hf => ⟨hI pre A B h.1 (hf.mono fun _ _ ht => .inl ht), hf.same h.2.1 (fun h => (hnT _ h).2 rfl), hf.same h.2.2 (fun h => (hnT _ h).1 rfl)⟩)
    (fun pre A B h hf => by
      obtain ⟨c, h1, h2, h3⟩ := h
      exact ⟨c, hIx c pre A B h1 (hf.mono fun _ _ ht => .inl ht), hf.same h2 (fun h => (hnT _ h).2 rfl), hf.same h3 (fun h => (hnT _ h).1 rfl)⟩)
    ?_ ⟨hI [] w W1 h0 (hfar.mono fun _ _ h => h.elim), hl1, hd1⟩).mono ?_
  · -- a round
    rintro m pre x Wa ⟨hi, hl, hd⟩ hpre
    have hlt : D + 1 < Wa.heap.size := (Array.getElem?_eq_some_iff.1 hl).1
    have hy := run_yield (P := P) (args := encs x) hl (by rw [hrec]; exact hps x)
    rw [hrec] at hy
    refine ⟨fn, _, assign, body, hy, roundIn_of_wpIn trivial (hassign m (D + 1) x Wa _ (by omega) fun a' Wb hab hax => ?_)⟩
    have hlb := hab.same hl id
    have hdb := hab.same hd id
    have hib := hI pre Wa Wb hi (hab.mono fun _ _ h => h.elim)
    have hltb : D + 1 < Wb.heap.size := (Array.getElem?_eq_some_iff.1 hlb).1
    refine ⟨_, run_beginRound hlb (by rw [hrec]), ?_⟩
    obtain ⟨Wc, hWc⟩ : ∃ Wc, Wb.putObj (D + 1) (.loop { rec .ready none with state := .busy }) = Wc := ⟨_, rfl⟩
    rw [hWc]
    have hbc : Far (fun k => k = D + 1) Wb Wc := by rw [← hWc]; exact Far.putObj (T := fun k => k = D + 1) (Far.refl _ Wb) (fun _ => rfl) _
    have hlc : Wc.heap[D + 1]? = some (.loop { rec .ready none with state := .busy }) := by rw [← hWc]; exact World.putObj_heap_same hltb
    have hdc : Wc.heap[D]? = some (.deferred (some [])) := hbc.same hdb (by omega)
    have hltc : D + 1 < Wc.heap.size := (Array.getElem?_eq_some_iff.1 hlc).1
    refine wpIn_mono (hbody m (D + 1) pre x a' Wa Wc (by omega) (hI pre Wb Wc hib (hbc.mono fun _ _ h => .inr (.inr h))) (hAx _ x a' Wb Wc hax hbc) hpre hi ((hab.mono fun _ _ h => h.elim : Far (fun k => k = D + 1) Wa Wb).trans hbc)) ?_
    -- what 'endRound' makes of it
    have fin : ∀ (j : Option Code) (Wd : World), Far (fun k => ¬ (k = D ∨ k = D + 1)) Wc Wd →
        (Instr.endRound (D + 1) j).run P Wd = .ok (.bool j.isNone) (Wd.putObj (D + 1) (.loop (rec (if j.isNone then .ready else .done) j))) ∧
        (Wd.putObj (D + 1) (.loop (rec (if j.isNone then .ready else .done) j))).heap[D + 1]? = some (.loop (rec (if j.isNone then .ready else .done) j)) ∧
        (Wd.putObj (D + 1) (.loop (rec (if j.isNone then .ready else .done) j))).heap[D]? = some (.deferred (some [])) := fun j Wd hcd => by
      have hld := hcd.same hlc (fun h => h (.inr rfl))
      have he := run_endRound (P := P) j hld
      rw [hrec] at he ⊢
      exact ⟨he, World.putObj_heap_same (Array.getElem?_eq_some_iff.1 hld).1, (World.putObj_heap_other (by omega)).trans (hcd.same hdc (fun h => h (.inl rfl)))⟩
    have back : ∀ (o : Obj) (Wd : World), Far (fun k => T k ∨ k = D ∨ k = D + 1) Wd (Wd.putObj (D + 1) o) := fun o Wd => (Far.refl _ Wd).putObj (fun _ => .inr (.inr rfl)) o
    intro e a3 Wd hp
    cases e with
    | normal =>
      obtain ⟨hcd, hid⟩ := hp
      obtain ⟨h1, h2, h3⟩ := fin none Wd (hcd.mono fun k _ h h' => h (.inr h'))
      refine ⟨_, _, h1, .inl ⟨rfl, ⟨hI _ _ _ hid (back _ Wd), h2, h3⟩, ?_⟩⟩
      refine (((hab.mono fun _ _ h => h.elim : Far (fun k => ¬ K k) Wa Wb).trans (hbc.mono fun k _ h hk => (hnK k hk).2 h)).trans (hcd.mono fun k _ h hk => h (.inl hk))).putObj (fun _ hk => (hnK _ hk).2 rfl) _
    | ret =>
      obtain ⟨hcd, hid⟩ := hp
      obtain ⟨h1, h2, h3⟩ := fin (some .ret) Wd hcd
      exact ⟨_, _, h1, .inr ⟨rfl, .ret, hIx _ _ _ _ hid (back _ Wd), h2, h3⟩⟩
    | exit id =>
      obtain ⟨hcd, hid⟩ := hp
      obtain ⟨h1, h2, h3⟩ := fin (some (.exit id)) Wd hcd
      exact ⟨_, _, h1, .inr ⟨rfl, .exit id, hIx _ _ _ _ hid (back _ Wd), h2, h3⟩⟩
    | goto t =>
      obtain ⟨hcd, hid⟩ := hp
      obtain ⟨h1, h2, h3⟩ := fin (some (.goto t)) Wd hcd
      exact ⟨_, _, h1, .inr ⟨rfl, .goto t, hIx _ _ _ _ hid (back _ Wd), h2, h3⟩⟩
    | panic ch => exact hp.elim
    | outgrown => exact hp.elim
  · -- behind the iterator
    have back : ∀ (o : Obj) (Wd : World), Far (fun k => T k ∨ k = D ∨ k = D + 1) Wd (Wd.putObj (D + 1) o) := fun o Wd => (Far.refl _ Wd).putObj (fun _ => .inr (.inr rfl)) o
    rintro e W2 ⟨⟨v, rfl⟩, h2⟩
    rcases h2 with ⟨hi, hl, hd⟩ | ⟨pre, hpre, c, hi, hl, hd⟩
    · have he := run_endLoop (P := P) hl (by rw [hrec]; simp)
      rw [hrec] at he
      have hlt : D + 1 < W2.heap.size := (Array.getElem?_eq_some_iff.1 hl).1
      exact ⟨none, _, he, hdone _ (by rw [World.putObj_size]; omega) (hI _ _ _ hi (back _ W2)) ((World.putObj_heap_other (by omega)).trans hd)⟩
    · have he := run_endLoop (P := P) hl (by rw [hrec]; simp)
      rw [hrec] at he
      have hlt : D + 1 < W2.heap.size := (Array.getElem?_eq_some_iff.1 hl).1
      exact ⟨some c, _, he, (wpIn_wide (n := 0)).2 (hstop c pre _ (by rw [World.putObj_size]; omega) hpre (hIx _ _ _ _ hi (back _ W2)) ((World.putObj_heap_other (by omega)).trans hd))⟩

/-- a function whose body holds such a statement is entered -/
theorem calls_of_marks {P : Program} {f : FuncId} {fn : Func} {c : Code} {args : Array Value} {w : World} {R : Ending → World → Prop}
    (hf : P.funcs[f]? = some fn) (hb : fn.body = some c) (h : c.wp P (bodyPostM Fence.wide 0 P fn R) { tmps := args ++ Array.replicate (fn.ntmps - args.size) undef, defers := [] } w) : Calls P f args w R :=
  (callsIn_wide (n := 0)).1 (callsIn_of_wp_marks hf hb trivial (wpIn_wide.2 h))
/-- it returns behind the statement -/
theorem leave_mark {P : Program} {fn : Func} {tmps : Array Value} {w : World} {R : Ending → World → Prop} {D : Nat} {v : Value} (hd : w.heap[D]? = some (.deferred (some [])))
    (hres : (results fn tmps).run P (w.putObj D (.deferred none)) = .ok v (w.putObj D (.deferred none))) (hR : R (.returned v) (w.putObj D (.deferred none))) :
    bodyPostM Fence.wide 0 P fn R .ret { tmps := tmps, defers := [markOf D] } w :=
  ⟨by simp, .inl ⟨_, _, rfl, run_takeDeferred hd, v, hres, hR⟩⟩
/-- it returns ahead of the statement -/
theorem leave_none {P : Program} {fn : Func} {tmps : Array Value} {w : World} {R : Ending → World → Prop} {v : Value}
    (hres : (results fn tmps).run P w = .ok v w) (hR : R (.returned v) w) : bodyPostM Fence.wide 0 P fn R .ret { tmps := tmps, defers := [] } w := ⟨v, hres, hR⟩
theorem far_leave {w W : World} {D : Nat} (h : Below w.heap.size w W) (hD : w.heap.size ≤ D) (o : Obj) : Below w.heap.size w (W.putObj D o) :=
  ⟨h.os, h.tape, h.output, by rw [World.putObj_size]; exact h.size, fun k hk => (World.putObj_heap_other (by omega)).trans (h.block k hk)⟩
theorem wide_fn (k : Nat) : Fence.wide.fn k = True := rfl
theorem wide_depth : Fence.wide.depth = none := rfl
theorem wide_fn' (k l : Nat) : (Fence.wide.inRound l).fn k = True := rfl
theorem wide_depth' (l : Nat) : (Fence.wide.inRound l).depth = none := rfl
end Go.Pol
