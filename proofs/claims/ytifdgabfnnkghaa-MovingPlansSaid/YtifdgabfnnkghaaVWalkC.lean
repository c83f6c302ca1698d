/- Walks: slices.Values of blocks as a function value; slices.Collect over it. -/
import Derived.Test.YtifdgabfnnkghaaVWalkB
import Derived.Test.YtifdgabfnnkghaaGLibX
import Derived.Test.YtifdgabfnnkghaaGLibY
import Derived.Maps.AppendAt
import Derived.Shelf.Abstract
namespace Go.Pol
open Go Go.RowKit
/-- the values that a loop over blocks is handed -/
abbrev tA (x : B3) : Array Value := #[bV x]
/-- a loop over values of one parameter whose variable lies in a box -/
theorem rangeXT {P : Program} {g : Operand} {ps : Array Tmp} {assign body : Code} {Q : Exit → Act → World → Prop} {a : Act} {w : World} (ib pb : Nat) (tE : TypeId)
    {gf : Nat} {lb : Array Value} (hg : a.eval g = .func (.func gf) #[] lb) (eg : ∀ args w, (callFunc gf args).run P w = .ok (.enter gf args) w)
    {T K : Nat → Prop} {xs : List B3} (hseq : SeqX P gf lb tA T K xs w) (hps : ps = #[pb])
    (hT : ∀ k, T k → k < w.heap.size) (hK : ∀ k, K k → k < w.heap.size)
    (I : (Nat → Prop) → List B3 → World → Prop) (Ix : Code → (Nat → Prop) → List B3 → World → Prop)
    (hI : ∀ X pre A B, I X pre A → Far (fun k => T k ∨ X k ∨ k = w.heap.size ∨ k = w.heap.size + 1) A B → I X pre B)
    (hIx : ∀ c X pre A B, Ix c X pre A → Far (fun k => T k ∨ X k ∨ k = w.heap.size ∨ k = w.heap.size + 1) A B → Ix c X pre B)
    (hnew : ∀ X X' pre A, I X pre A → (∀ k, X' k → X k ∨ A.heap.size ≤ k) → I X' pre A)
    (h0 : I (fun _ => False) [] w)
    (hassign : ∀ (m l : Nat) (x : B3) (W : World) (C : Act → World → Prop),
      C { tmps := (a.tmps.setIfInBounds pb (bV x)).setIfInBounds ib (.pointer (some ⟨W.heap.size, 0, none⟩)), defers := [] } (W.alloc (.cells #[.int .i64 x.1, .int .i64 x.2.1, .bool x.2.2] tE)) →
      assign.wpIn (Fence.wide.inRound l) m P (Exit.then C (fun _ _ _ => False)) { tmps := a.tmps.setIfInBounds pb (bV x), defers := [] } W)
    (hbody : ∀ (m l : Nat) (X : Nat → Prop) (pre : List B3) (x : B3) (Bx : Nat) (Wa W : World), w.heap.size + 2 ≤ W.heap.size → (∀ k, X k → k < Wa.heap.size ∧ k ≠ w.heap.size ∧ k ≠ w.heap.size + 1) → I X pre W → pre ++ [x] <+: xs → w.heap.size + 2 ≤ Bx → Blk W Bx tE #[.int .i64 x.1, .int .i64 x.2.1, .bool x.2.2] → Wa.heap.size ≤ Bx →
      body.wpIn (Fence.wide.inRound l) m P (xPost w.heap.size K X I Ix (pre ++ [x]) W) { tmps := (a.tmps.setIfInBounds pb (bV x)).setIfInBounds ib (.pointer (some ⟨Bx, 0, none⟩)), defers := [] } W)
    (hdone : ∀ (X : Nat → Prop) (W : World), w.heap.size + 2 ≤ W.heap.size → I X xs W → W.heap[w.heap.size]? = some (.deferred (some [])) → Q .normal { a with defers := markOf w.heap.size :: a.defers } W)
    (hstop : ∀ (c : Code) (X : Nat → Prop) (pre : List B3) (W : World), w.heap.size + 2 ≤ W.heap.size → pre <+: xs → Ix c X pre W → W.heap[w.heap.size]? = some (.deferred (some [])) → c.wp P Q { a with defers := markOf w.heap.size :: a.defers } W) :
    (Code.rangeFunc g ps assign body).wp P Q a w := by
  subst hps
  refine rangeX hg eg hseq (fun _ => rfl) hT hK I Ix hI hIx hnew h0
    (fun N x a' W => ∃ Bx, N ≤ Bx ∧ w.heap.size + 2 ≤ Bx ∧ Blk W Bx tE #[.int .i64 x.1, .int .i64 x.2.1, .bool x.2.2] ∧ a' = { tmps := (a.tmps.setIfInBounds pb (bV x)).setIfInBounds ib (.pointer (some ⟨Bx, 0, none⟩)), defers := [] })
    (fun N x a' A B ⟨Bx, h0, h1, h2, h3⟩ hf => ⟨Bx, h0, h1, hf.blk h2 (by omega), h3⟩) ?_ ?_ hdone hstop
  · intro m l x W C hs hC
    have e : (#[pb].zip (tA x)).foldl (fun t (p, v) => t.setIfInBounds p v) a.tmps = a.tmps.setIfInBounds pb (bV x) := by simp [tA]
    rw [e]
    exact hassign m l x W C (hC _ _ ((Far.refl _ W).alloc _) ⟨W.heap.size, Nat.le_refl _, hs, Blk.new _ _ _, rfl⟩)
  · rintro m l X pre x a' Wa W hs hX hi ⟨Bx, h0, h1, h2, rfl⟩ hpre _ _
    exact hbody m l X pre x Bx Wa W hs hX hi hpre h1 h2 h0

theorem Far.rt {T : Nat → Prop} {w w' : World} {B : Nat} {A : Option Addr} {bs : List B3} (h : RT w B A bs) (hf : Far T w w') (hT : ∀ b o, A = some ⟨b, o, none⟩ → ¬ T b) : RT w' B A bs := fun k hk => by
  obtain ⟨b, o, e, hb, h1, h2, h3⟩ := h k hk
  exact ⟨b, o, e, hb, hf.cell h1 (hT b o e), hf.cell h2 (hT b o e), hf.cell h3 (hT b o e)⟩
end Go.Pol
namespace Go.Proofs.Ytifdgabfnnkghaa
open Go Go.Proofs Go.RowKit Go.Pol Go.Shelf
attribute [local go_sem] Oper.semAt_some Go.Pol.wide_fn Go.Pol.wide_depth Go.Pol.wide_fn' Go.Pol.wide_depth'

theorem values_any (A : Option Addr) (n cap : Nat) (w : World) :
    Calls Try.prog 36 #[.slice A n cap] w fun e w' => e = .returned (.func (.func 53) #[] #[.pointer (some ⟨w.heap.size, 0, none⟩)]) ∧ w' = w.alloc (.cells #[.slice A n cap] 22) := by
  go_enter Try.func36, Try.ntmps36
  go_wp2
  go_ret
  exact ⟨rfl, rfl⟩
theorem values_enters : ∀ args w, (callFunc 53 args).run Try.prog w = .ok (.enter 53 args) w := enters_of Try.func53 (by kernel_rfl) rfl
theorem take_snocB (bs : List B3) (k : Nat) (h : k < bs.length) : bs.take (k + 1) = bs.take k ++ [bs.getD k b0] := by
  rw [List.take_add_one, List.getElem?_eq_getElem h, List.getD_eq_getElem?_getD, List.getElem?_eq_getElem h]; rfl

set_option maxRecDepth 100000 in
set_option maxHeartbeats 1600000 in
theorem values1_seq (A : Option Addr) (n cap : Nat) (bs : List B3) (B1 : Nat) (K : Nat → Prop) (w : World) (hK1 : K B1)
    (k1 : Blk w B1 22 #[.slice A n cap]) (hn : bs.length = n) (hm : n ≤ maxLen) (hr : RT w w.heap.size A bs) (hown : bs ≠ [] → ∀ b o, A = some ⟨b, o, none⟩ → K b) :
    SeqX Try.prog 53 #[.pointer (some ⟨B1, 0, none⟩)] tA (fun _ => False) K bs w := by
  intro m l J Jx W hW hJ hJx hnew hY h0
  unfold maxLen at hm
  have kB1 := hW.blk k1 (by simpa using hK1)
  have far_rt : ∀ {W1 W2 : World} {N : Nat} {T : Nat → Prop}, RT W1 N A bs → Far T W1 W2 → (∀ k, K k → ¬ T k) → RT W2 N A bs := fun h hf hT => by
    by_cases h0 : bs = []
    · subst h0; exact RT.nil
    · exact Far.rt h hf (fun b o e => hT b (hown h0 b o e))
  have hrW : RT W W.heap.size A bs := (far_rt hr hW (fun k hk h => h hk)).more hW.size
  refine callsIn_of_wp Try.func53 rfl trivial ?_ rfl
  simp only [Try.ntmps53, List.size_toArray, List.length_cons, List.length_nil, Nat.reduceAdd, Nat.reduceSub, Array.replicate_succ, Array.replicate_zero, List.push_toArray, List.append_toArray, List.nil_append, List.cons_append]
  have c1 := kB1.cell
  have hn' := Lib.hid hn
  clear hn hr hW k1
  gi_wp2_with fail
  gi_loopw [7] (fun i wr => ∃ (k : Nat) (X : Nat → Prop), k ≤ n ∧ i = .int .i64 k ∧ W.heap.size ≤ wr.heap.size ∧ J X (bs.take k) wr ∧ RT wr W.heap.size A bs) (fun i _ => n - (intOf i).toNat)
  case atStart => exact ⟨0, _, by omega, rfl, Nat.le_refl _, by simpa using h0, hrW⟩
  case round =>
    clear h0 hrW kB1 c1
    obtain ⟨k, X, hk, rfl, hwz, hJs, hru⟩ := hrel
    by_cases hlt : k < n
    · have hlt' : decide ((k : Int) < (n : Int)) = true := by simpa using hlt
      obtain ⟨b, o, rfl, hbl, hc, hd, he⟩ := hru.at_ (k := k) (by have := hn'.out; omega)
      have hts := Lib.hid (take_snocB bs k (by have := hn'.out; omega))
      generalize bs.getD k b0 = x at *
      obtain ⟨xa, xo, xc⟩ := x
      dsimp only at hc hd he
      have kX := Blk.new wr 44 #[.int .i64 xa, .int .i64 xo, .bool xc]
      have hfa : Far (fun _ => False) wr (wr.alloc (.cells #[.int .i64 xa, .int .i64 xo, .bool xc] 44)) := (Far.refl _ wr).alloc _
      have hJ2 := hJ _ _ _ _ (hnew _ (fun k => k = wr.heap.size) _ wr hJs (fun j hj => .inr (by omega))) (hfa.mono fun _ _ h => h.elim)
      have hrub := far_rt hru hfa (fun _ _ h => h)
      have hszb : W.heap.size ≤ (wr.alloc (.cells #[.int .i64 xa, .int .i64 xo, .bool xc] 44)).heap.size := by simp; omega
      have hbx0 : wr.heap.size < (wr.alloc (.cells #[.int .i64 xa, .int .i64 xo, .bool xc] 44)).heap.size := by simp
      have hpre : Hid (bs.take k ++ [(xa, xo, xc)] <+: bs) := Lib.hid (by rw [← hts.out]; exact List.take_prefix _ _)
      obtain ⟨fn, tmps, assign, body, hy, hRd⟩ := hY (m - 1) (fun j => j = wr.heap.size) (bs.take k) (xa, xo, xc) _ hJ2 (fun j hj => by rw [hj]; exact hbx0) hpre.out
      clear hY
      gi_wp2_with fail
      refine hRd.mono ?_
      rintro e W4 (⟨rfl, hJ4, hF4⟩ | ⟨rfl, hJx4⟩)
      · gi_wp2_with fail
        go_roundw
        case rel => exact ⟨k + 1, _, by omega, by go_num, Nat.le_trans hszb hF4.size, by rw [hts.out]; exact hJ4, far_rt hrub hF4 (fun j hj h => h (.inl hj))⟩
        case measure => simp [intOf]; omega
      · gi_wp2_with fail
        refine bodyPost_ret (results_none rfl _ _ _) rfl ?_
        exact ⟨⟨_, rfl⟩, .inr ⟨_, bs.take k ++ [(xa, xo, xc)], hpre.out, hJx4⟩⟩
    · have hlt' : decide ((k : Int) < (n : Int)) = false := by simp; omega
      have hE : Hid (bs.take k = bs) := Lib.hid (List.take_of_length_le (by have := hn'.out; omega))
      gi_wp2_with fail
      go_end0
      exact ⟨⟨_, rfl⟩, .inl ⟨_, by rw [hE.out] at hJs; exact hJs⟩⟩
end Go.Proofs.Ytifdgabfnnkghaa
