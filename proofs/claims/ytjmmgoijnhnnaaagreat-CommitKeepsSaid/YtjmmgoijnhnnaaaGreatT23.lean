/- Walks: what Pages hands back; the law's list of what such a function value goes through. -/
import Derived.Test.YtjmmgoijnhnnaaaGreatT22
namespace Go.Pol
open Go Go.RowKit
theorem rangeYI {P : Program} {g : Operand} {ps : Array Tmp} {assign body : Code} {Q : Exit → Act → World → Prop} {a : Act} {w : World} (ia pb : Nat)
  {gf : Nat} {lb : Array Value} (hg : a.eval g = .func (.func gf) #[] lb) (eg : ∀ args w, (callFunc gf args).run P w = .ok (.enter gf args) w)
  {T K : Nat → Prop} {xs : List Int} (hseq : SeqY P gf lb inA T K xs w) (hps : ps = #[pb])
  (hT : ∀ k, T k → k < w.heap.size) (hK : ∀ k, K k → k < w.heap.size)
  (I : (Nat → Prop) → List Int → World → Prop) (Ix : Code → (Nat → Prop) → List Int → World → Prop)
  (hI : ∀ X pre A B, I X pre A → Far (fun k => T k ∨ X k ∨ k = w.heap.size ∨ k = w.heap.size + 1) A B → I X pre B)
  (hIx : ∀ c X pre A B, Ix c X pre A → Far (fun k => T k ∨ X k ∨ k = w.heap.size ∨ k = w.heap.size + 1) A B → Ix c X pre B)
  (hnew : ∀ X X' pre A, I X pre A → (∀ k, X' k → X k ∨ A.heap.size ≤ k) → I X' pre A)
  (h0 : I (fun _ => False) [] w)
  (hassign : ∀ (m l : Nat) (x : Int) (W : World) (C : Act → World → Prop),
   C { tmps := (a.tmps.setIfInBounds pb (.int .i64 x)).setIfInBounds ia (.int .i64 x), defers := [] } W →
   assign.wpIn (Fence.wide.inRound l) m P (Exit.then C (fun _ _ _ => False)) { tmps := a.tmps.setIfInBounds pb (.int .i64 x), defers := [] } W)
  (hbody : ∀ (m l : Nat) (X : Nat → Prop) (pre : List Int) (x : Int) (Wa W : World), w.heap.size + 2 ≤ W.heap.size → (∀ k, X k → k < Wa.heap.size ∧ k ≠ w.heap.size ∧ k ≠ w.heap.size + 1) → I X pre W → pre ++ [x] <+: xs → Wa.heap.size ≤ W.heap.size →
   body.wpIn (Fence.wide.inRound l) m P (yPost w.heap.size K X I Ix (pre ++ [x]) W) { tmps := (a.tmps.setIfInBounds pb (.int .i64 x)).setIfInBounds ia (.int .i64 x), defers := [] } W)
  (hdone : ∀ (X : Nat → Prop) (W : World), w.heap.size + 2 ≤ W.heap.size → I X xs W → W.heap[w.heap.size]? = some (.deferred (some [])) → Q .normal { a with defers := markOf w.heap.size :: a.defers } W)
  (hstop : ∀ (c : Code) (X : Nat → Prop) (pre : List Int) (W : World), w.heap.size + 2 ≤ W.heap.size → pre <+: xs → Ix c X pre W → W.heap[w.heap.size]? = some (.deferred (some [])) → c.wp P Q { a with defers := markOf w.heap.size :: a.defers } W) :
  (Code.rangeFunc g ps assign body).wp P Q a w := by
 subst hps
 refine rangeY hg eg hseq (fun _ => rfl) hT hK I Ix hI hIx hnew h0
  (fun _ x a' _ => a' = { tmps := (a.tmps.setIfInBounds pb (.int .i64 x)).setIfInBounds ia (.int .i64 x), defers := [] })
  (fun _ _ _ _ _ h _ => h) ?_ ?_ hdone hstop
 ·intro m l x W C hs hC
  have e : (#[pb].zip (inA x)).foldl (fun t (p, v) => t.setIfInBounds p v) a.tmps = a.tmps.setIfInBounds pb (.int .i64 x) := by simp [inA]
  rw [e]
  exact hassign m l x W C (hC _ _ (Far.refl _ W) rfl)
 ·rintro m l X pre x a' Wa W hs hX hi rfl hpre _ hfa
  exact hbody m l X pre x Wa W hs hX hi hpre hfa.size
end Go.Pol
namespace Go.Proofs.YtjmmgoijnhnnaaaGreat
open Go Go.Proofs Go.RowKit Go.Pol Go.Shelf
attribute [local go_sem] Oper.semAt_some Go.Pol.wide_fn Go.Pol.wide_depth Go.Pol.wide_fn' Go.Pol.wide_depth'
theorem pages_enters : ∀ args w, (callFunc 132 args).run Tryz.prog w = .ok (.enter 132 args) w := enters_of Tryz.func132 (by kernel_rfl) rfl
set_option maxHeartbeats 800000 in
theorem pagesTop_any (A : Option Addr) (n cap : Nat) (us : List Sp) (w : World) (hn : us.length = n) (hm : n ≤ 1000000) (hr : RU w w.heap.size A us) :
  Calls Tryz.prog 71 #[.slice A n cap] w fun e w' => ∃ (lb : Array Value) (K : Nat → Prop), e = .returned (.func (.func 132) #[] lb) ∧
   SeqY Tryz.prog 132 lb inA (fun _ => False) K (fsts (piecesF us 1)) w' ∧ (∀ k, K k → w.heap.size ≤ k ∧ k < w'.heap.size) ∧ Below w.heap.size w w' := by
 have hb0 := (Below.refl w.heap.size w).alloc (Nat.le_refl _) (.cells #[.slice A n cap] 41)
 have k1 := Blk.new w 41 #[.slice A n cap]
 have r0 : RU (w.alloc (.cells #[.slice A n cap] 41)) _ A us := hr.on hb0
 have HK := Lib.hid (clone_any A n cap us _ hn hm r0)
 have z1 := k1.cell
 have hsz : (w.alloc (.cells #[.slice A n cap] 41)).heap.size = w.heap.size + 1 := by simp
 go_enter Tryz.func71, Tryz.ntmps71
 go_wp2_with fail
 refine HK.out.mono ?_
 rintro e w1 ⟨v, rfl, hrow, hb1⟩
 have B1 := hb0.trans (hb1.mono hb0.size)
 have k1b := k1.call hb1
 have f1 := k1b.frozen
 have z1b := k1b.cell
 have hs1 := B1.size
 clear HK
 obtain ⟨A2, cap2, rfl⟩ := own_nil_iff hrow hn
 go_wp2_with fail
 go_ret
 have k1c := k1b.set_ 0 (.slice A2 n cap2)
 have hfar : Far (fun k => k = w.heap.size) w1 (w1.setCell ⟨w.heap.size, 0, none⟩ (.slice A2 n cap2)) := Far.setCell (T := fun k => k = w.heap.size) (p := ⟨w.heap.size, 0, none⟩) (Far.refl _ _) (fun _ => rfl) _
 have hrow2 := ownsRow_far hrow hfar (fun g hg e => by have := (hrow.lt g hg).1; omega)
 have B2 := B1.trans (hfar.below hs1 (fun k hk h => by omega))
 generalize w1.setCell ⟨w.heap.size, 0, none⟩ (.slice A2 n cap2) = w2 at *
 obtain ⟨A3, cap3, he, hru, h1, h2, h3, _⟩ := own_RU hrow2 hn
 cases he
 refine ⟨_, fun k => k = w.heap.size ∨ (us ≠ [] ∧ ∃ o, A2 = some ⟨k, o, none⟩), rfl, pages1_seq A2 n cap2 us w.heap.size _ w2 (.inl rfl) (by simpa using k1c) hn hm hru (fun h b o e => .inr ⟨h, o, e⟩), ?_, B2⟩
 rintro k (rfl | ⟨h, o, e⟩)
 ·exact ⟨Nat.le_refl _, k1c.lt⟩
 ·exact ⟨by have := h3 k o e; omega, ru_lt hru h e⟩
end Go.Proofs.YtjmmgoijnhnnaaaGreat
