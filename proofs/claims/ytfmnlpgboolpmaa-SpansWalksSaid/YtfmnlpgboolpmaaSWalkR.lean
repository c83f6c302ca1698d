/- Walks: what Pages hands back; the law's list of what such a function value goes through. -/
import Derived.Test.YtfmnlpgboolpmaaSWalkQ
import Derived.Test.YtfmnlpgboolpmaaGWalkL
namespace Go.Pol
open Go Go.RowKit
/-- a loop over numbers whose variable is a temporary -/
theorem rangeYI {P : Program} {g : Operand} {ps : Array Tmp} {assign body : Code} {Q : Exit → Act → World → Prop} {a : Act} {w : World} (ia pb : Nat)
    {gf : Nat} {lb : Array Value} (hg : a.eval g = .func (.func gf) #[] lb) (eg : ∀ args w, (callFunc gf args).run P w = .ok (.enter gf args) w)
    {T K : Nat → Prop} {xs : List Int} (hseq : SeqY P gf lb inA T K xs w) (hps : ps = #[pb])
    (hT : ∀ k, T k → k < w.heap.size) (hK : ∀ k, K k → k < w.heap.size)
    (I : (Nat → Prop) → List Int → World → Prop) (Ix : Code → (Nat → Prop) → List Int → World → Prop)
    (hI : ∀ X pre A B, I X pre A → Far (fun k => T k ∨ X k ∨ k = w.heap.size ∨ k = w.heap.size + 1) A B → I X pre B)
    (hIx : ∀ c X pre A B, Ix c X pre A → Far (fun k => T k ∨ X k ∨ k = w.heap.size ∨ k = w.heap.size + 1) A B → Ix c X pre B)
    (hnew : ∀ X X' pre A, I X pre A → (∀ k, X' k → X k ∨ A.heap.size ≤ k) → I X' pre A)
    (h0 : I (fun _ => False) [] w)
    (hassign : ∀ (m l : Nat) (x : Int) (W : World) (C : Act → World → Prop),
      C { tmps := (a.tmps.setIfInBounds pb (.int .i64 x)).setIfInBounds ia (.int .i64 x), defers := [] } W →
      assign.wpIn (Fence.wide.inRound l) m P (Exit.then C (fun _ _ _ => False)) { tmps := a.tmps.setIfInBounds pb (.int .i64 x), defers := [] } W)
    (hbody : ∀ (m l : Nat) (X : Nat → Prop) (pre : List Int) (x : Int) (Wa W : World), w.heap.size + 2 ≤ W.heap.size → (∀ k, X k → k < Wa.heap.size ∧ k ≠ w.heap.size ∧ k ≠ w.heap.size + 1) → I X pre W → pre ++ [x] <+: xs → Wa.heap.size ≤ W.heap.size →
      body.wpIn (Fence.wide.inRound l) m P (yPost w.heap.size K X I Ix (pre ++ [x]) W) { tmps := (a.tmps.setIfInBounds pb (.int .i64 x)).setIfInBounds ia (.int .i64 x), defers := [] } W)
    (hdone : ∀ (X : Nat → Prop) (W : World), w.heap.size + 2 ≤ W.heap.size → I X xs W → W.heap[w.heap.size]? = some (.deferred (some [])) → Q .normal { a with defers := markOf w.heap.size :: a.defers } W)
    (hstop : ∀ (c : Code) (X : Nat → Prop) (pre : List Int) (W : World), w.heap.size + 2 ≤ W.heap.size → pre <+: xs → Ix c X pre W → W.heap[w.heap.size]? = some (.deferred (some [])) → c.wp P Q { a with defers := markOf w.heap.size :: a.defers } W) :
    (Code.rangeFunc g ps assign body).wp P Q a w := by
  subst hps
  refine rangeY hg eg hseq (fun _ => rfl) hT hK I Ix hI hIx hnew h0
    (fun _ x a' _ => a' = { tmps := (a.tmps.setIfInBounds pb (.int .i64 x)).setIfInBounds ia (.int .i64 x), defers := [] })
    (fun _ _ _ _ _ h _ => h) ?_ ?_ hdone hstop
  · intro m l x W C hs hC
    have e : (#[pb].zip (inA x)).foldl (fun t (p, v) => t.setIfInBounds p v) a.tmps = a.tmps.setIfInBounds pb (.int .i64 x) := by simp [inA]
    rw [e]
    exact hassign m l x W C (hC _ _ (Far.refl _ W) rfl)
  · rintro m l X pre x a' Wa W hs hX hi rfl hpre _ hfa
    exact hbody m l X pre x Wa W hs hX hi hpre hfa.size
end Go.Pol
namespace Go.Proofs.Ytfmnlpgboolpmaa
open Go Go.Proofs Go.RowKit Go.Pol Go.Shelf
attribute [local go_sem] Oper.semAt_some Go.Pol.wide_fn Go.Pol.wide_depth Go.Pol.wide_fn' Go.Pol.wide_depth'

theorem pages_enters : ∀ args w, (callFunc 94 args).run Try.prog w = .ok (.enter 94 args) w := enters_of Try.func94 (by kernel_rfl) rfl

set_option maxHeartbeats 800000 in
theorem pagesTop_any (A : Option Addr) (n cap : Nat) (us : List Sp) (w : World) (hn : us.length = n) (hm : n ≤ 1000000) (hr : RU w w.heap.size A us) :
    Calls Try.prog 44 #[.slice A n cap] w fun e w' => ∃ (lb : Array Value) (K : Nat → Prop), e = .returned (.func (.func 94) #[] lb) ∧
      SeqY Try.prog 94 lb inA (fun _ => False) K (fsts (piecesF us 1)) w' ∧ (∀ k, K k → w.heap.size ≤ k ∧ k < w'.heap.size) ∧ Below w.heap.size w w' := by
  have hb0 := (Below.refl w.heap.size w).alloc (Nat.le_refl _) (.cells #[.slice A n cap] 36)
  have k1 := Blk.new w 36 #[.slice A n cap]
  have r0 : RU (w.alloc (.cells #[.slice A n cap] 36)) _ A us := hr.on hb0
  have HK := Lib.hid (clone_any A n cap us _ hn hm r0)
  have z1 := k1.cell
  have hsz : (w.alloc (.cells #[.slice A n cap] 36)).heap.size = w.heap.size + 1 := by simp
  go_enter Try.func44, Try.ntmps44
  go_wp2_with fail
  refine HK.out.mono ?_
  rintro e w1 ⟨v, rfl, hrow, hb1⟩
  have B1 := hb0.trans (hb1.mono hb0.size)
  have k1b := k1.call hb1
  have f1 := k1b.frozen
  have z1b := k1b.cell
  have hs1 := B1.size
  clear HK
  obtain ⟨A2, cap2, rfl⟩ := own_nil_iff hrow hn
  go_wp2_with fail
  go_ret
  have k1c := k1b.set_ 0 (.slice A2 n cap2)
  have hfar : Far (fun k => k = w.heap.size) w1 (w1.setCell ⟨w.heap.size, 0, none⟩ (.slice A2 n cap2)) := Far.setCell (T := fun k => k = w.heap.size) (p := ⟨w.heap.size, 0, none⟩) (Far.refl _ _) (fun _ => rfl) _
  have hrow2 := ownsRow_far hrow hfar (fun g hg e => by have := (hrow.lt g hg).1; omega)
  have B2 := B1.trans (hfar.below hs1 (fun k hk h => by omega))
  generalize w1.setCell ⟨w.heap.size, 0, none⟩ (.slice A2 n cap2) = w2 at *
  obtain ⟨A3, cap3, he, hru, h1, h2, h3, _⟩ := own_RU hrow2 hn
  cases he
  refine ⟨_, fun k => k = w.heap.size ∨ (us ≠ [] ∧ ∃ o, A2 = some ⟨k, o, none⟩), rfl, pages1_seq A2 n cap2 us w.heap.size _ w2 (.inl rfl) (by simpa using k1c) hn hm hru (fun h b o e => .inr ⟨h, o, e⟩), ?_, B2⟩
  rintro k (rfl | ⟨h, o, e⟩)
  · exact ⟨Nat.le_refl _, k1c.lt⟩
  · exact ⟨by have := h3 k o e; omega, ru_lt hru h e⟩

theorem eql_seqI (f : Fn) (c lb : Array Value) (w : World) : (binOp .eql 54 (.func f c lb) .nilFunc).run Try.prog w = .ok (.bool false) w := by
  simp only [binOp]
  simp [Op.equal, Op.maxDepth, run_equalIn_func_nil w 9999 _ f c lb Try.underlying54]

set_option maxRecDepth 100000 in
set_option maxHeartbeats 1600000 in
theorem lawPages_any (g : Nat) (lb : Array Value) (K : Nat → Prop) (xs : List Int) (most : Nat) (w : World) (hxs : xs.length ≤ most) (hmost : most ≤ 1000000) (hseq : SeqY Try.prog g lb inA (fun _ => False) K xs w)
    (eg : ∀ args w, (callFunc g args).run Try.prog w = .ok (.enter g args) w) (hK : ∀ k, K k → k < w.heap.size) :
    Calls Try.prog 46 #[.func (.func g) #[] lb, .int .i64 most] w fun e w' => ∃ (A : Option Addr) (cap : Nat), e = .returned (.tuple #[.slice A xs.length cap, .bool true]) ∧ RI w' w'.heap.size A xs ∧ Below w.heap.size w w' := by
  obtain ⟨i0, hi, hz0, hz1, hz2⟩ := info_parts infoIn
  obtain ⟨s, hs⟩ : ∃ s, w.heap.size = s := ⟨_, rfl⟩
  obtain ⟨W0, hW0⟩ : ∃ W0, (((w.alloc (.cells #[.int .i64 most] 3)).alloc (.cells #[.slice none 0 0] 59)).alloc (.cells #[.bool false] 4)).alloc (.cells #[.slice none 0 0] 59) = W0 := ⟨_, rfl⟩
  have hs0 : W0.heap.size = s + 4 := by rw [← hW0, ← hs]; simp
  have hb0 : Below s w W0 := by rw [← hW0, ← hs]; exact ((((Below.refl w.heap.size w).alloc (Nat.le_refl _) _).alloc (by simp) _).alloc (by simp; omega) _).alloc (by simp; omega) _
  have kM : Blk W0 s 3 #[.int .i64 most] := by rw [← hW0, ← hs]; exact (((Blk.new _ _ _).alloc _).alloc _).alloc _
  have kR : Blk W0 (s + 1) 59 #[.slice none 0 0] := by
    rw [← hW0, ← hs]; have := Blk.new (w.alloc (.cells #[.int .i64 most] 3)) 59 #[.slice none 0 0]
    rw [World.size_alloc] at this; exact (this.alloc _).alloc _
  have kE : Blk W0 (s + 2) 4 #[.bool false] := by
    rw [← hW0, ← hs]; have := Blk.new ((w.alloc (.cells #[.int .i64 most] 3)).alloc (.cells #[.slice none 0 0] 59)) 4 #[.bool false]
    simp only [World.size_alloc] at this; exact this.alloc _
  have kO : Blk W0 (s + 3) 59 #[.slice none 0 0] := by
    rw [← hW0, ← hs]; have := Blk.new (((w.alloc (.cells #[.int .i64 most] 3)).alloc (.cells #[.slice none 0 0] 59)).alloc (.cells #[.bool false] 4)) 59 #[.slice none 0 0]
    simp only [World.size_alloc] at this; exact this
  have hF0 : Far (fun _ => False) w W0 := .of_below (by rw [hs]; exact hb0)
  have hW1 := Lib.hid hW0
  clear hW0
  refine calls_of_marks Try.func46 rfl ?_
  simp only [Try.ntmps46, List.size_toArray, List.length_cons, List.length_nil, Nat.reduceAdd, Nat.reduceSub, Array.replicate_succ, Array.replicate_zero, List.push_toArray, List.append_toArray, List.nil_append, List.cons_append]
  go_upto_region 2 with fail
  simp only [Nat.add_assoc, Nat.reduceAdd]
  rw [hW1.out]
  clear hW1
  have heq := eql_seqI
  go_wp2_with fail
  have ls1 := kO.lt
  have hOne : ∀ (pre : List Int) (x : Int), pre ++ [x] <+: xs → pre.length < most := fun pre x h => by
    have := h.length_le
    simp at this
    omega
  refine rangeYI 7 11 (gf := g) (lb := lb) rfl eg (hseq.later (hF0.mono fun _ _ h => h.elim)) rfl (fun _ h => h.elim) (fun k h => by have := hK k h; omega)
    (fun X pre W => BoxX X W (s + 3) 59 3 (s + 6) 1 pre.length (pre.map (Value.int .i64)) ∧ Blk W s 3 #[.int .i64 most] ∧ ¬ X s ∧ Blk W (s + 1) 59 #[.slice none 0 0] ∧ ¬ X (s + 1) ∧ Blk W (s + 2) 4 #[.bool false] ∧ ¬ X (s + 2) ∧ Below s w W ∧ ∀ k, X k → s ≤ k)
    (fun _ _ _ _ => False)
    (fun X pre A B h hf => ⟨h.1.far hf (by rintro (h | h | h | h) <;> first | exact h | exact h.elim | omega) (fun g hg => by rintro (h | h | h | h) <;> first | exact h | exact h.elim | omega),
      hf.blk h.2.1 (by rintro (h' | h' | h' | h') <;> first | exact h' | exact h.2.2.1 h' | omega), h.2.2.1,
      hf.blk h.2.2.2.1 (by rintro (h' | h' | h' | h') <;> first | exact h' | exact h.2.2.2.2.1 h' | omega), h.2.2.2.2.1,
      hf.blk h.2.2.2.2.2.1 (by rintro (h' | h' | h' | h') <;> first | exact h' | exact h.2.2.2.2.2.2.1 h' | omega), h.2.2.2.2.2.2.1,
      h.2.2.2.2.2.2.2.1.trans (hf.below (Nat.le_trans (by omega) h.2.2.2.2.2.2.2.1.size) (fun k hk => by rintro (h' | h' | h' | h'); exact h'; have := h.2.2.2.2.2.2.2.2 k h'; omega; omega; omega)), h.2.2.2.2.2.2.2.2⟩)
    (fun _ _ _ _ _ h _ => h.elim)
    (fun X X' pre A h hX => ⟨h.1.new hX, h.2.1, fun h' => (hX _ h').elim h.2.2.1 (fun h' => by have := h.2.1.lt; omega), h.2.2.2.1, fun h' => (hX _ h').elim h.2.2.2.2.1 (fun h' => by have := h.2.2.2.1.lt; omega), h.2.2.2.2.2.1, fun h' => (hX _ h').elim h.2.2.2.2.2.2.1 (fun h' => by have := h.2.2.2.2.2.1.lt; omega), h.2.2.2.2.2.2.2.1,
      fun k hk => (hX _ hk).elim (h.2.2.2.2.2.2.2.2 k) (fun h' => by have := h.2.1.lt; omega)⟩)
    ⟨⟨_, kO, World.ownsRow_nil _ _ _ _, id, fun _ _ => id⟩, kM, id, kR, id, kE, id, hb0, fun _ h => h.elim⟩ ?assign ?body ?done (fun _ _ _ _ _ _ h _ => h.elim)
  case assign =>
    intro m l x W C hC
    simp only [List.setIfInBounds_toArray, List.set_cons_succ, List.set_cons_zero] at hC ⊢
    gi_wp2
    exact hC
  case body =>
    rintro m l X pre xa Wa W hsz hXlt ⟨hbox, kM, nM, kR, nR, kE, nE, hB, hXs⟩ hpre hBa
    simp only [List.setIfInBounds_toArray, List.set_cons_succ, List.set_cons_zero]
    have hlt := hOne pre xa hpre
    obtain ⟨v, hv, hrow, hXB, hXg⟩ := hbox.ex
    obtain ⟨A', cap', rfl, _⟩ := own_RIx hrow rfl
    obtain ⟨pl, hpl⟩ : ∃ pl, pre.length = pl := ⟨_, rfl⟩
    have hne : ((pl : Int) == most) = false := by simp; omega
    have cv := hv.cell
    have fv := hv.frozen
    have cM := kM.cell
    have kN := Blk.new W 3 #[.int .i64 xa]
    have hXl2 : ∀ k, X k → k < W.heap.size := fun k hk => by have := (hXlt k hk).1; omega
    rw [hpl] at hrow hv cv hlt hXg
    gi_wp2_with (gi_at_builtin; refine wpListIn_append_x _ rfl (.tmp 16) (.tmp 18) 59 rfl (s + 6) 3 i0 (.int .i64 0) 1 8 Try.underlying59 hi hz0 hz1 hz2 rfl (by decide) _ pl (pre.map (Value.int .i64)) rfl (hrow.alloc _) ⟨W.heap.size, 0, none⟩ 1 1 [.int .i64 xa] rfl rfl (news_i kN) ints_one (by unfold maxLen; omega) (by omega) (by simp; omega) ?_; intro v' w1 hown' hgrow hblk; rw [show pre.map (Value.int .i64) ++ [Value.int .i64 xa] = (pre ++ [xa]).map (Value.int .i64) by simp] at hown'; obtain ⟨hv1, hb2, hf2⟩ := BoxX.appended hv (by decide) hrow hXB hXg hown' hgrow hblk hXl2; obtain ⟨A2, cap2, rfl, _⟩ := own_RIx hown' (by simp; omega); have cv1 := hv1.cell; have fv1 := hv1.frozen)
    have hgx : ∀ g, (Value.slice A' pl cap').ownBlock = some g → s + 6 ≤ g ∧ ¬ X g := fun g hg => ⟨(hrow.lt g hg).1, hXg g hg⟩
    have hf3 := hf2 (fun k => k = s + 3 ∨ (Value.slice A' pl cap').ownBlock = some k) (.inl rfl) (fun g hg => .inr hg)
    refine ⟨hf3.mono fun k _ h => ?_, ?_, hf3.blk kM ?_, nM, hf3.blk kR ?_, nR, hf3.blk kE ?_, nE, hB.trans (hf3.below (by have := hB.size; omega) fun k hk => ?_), hXs⟩
    · rintro (h' | h' | h' | h')
      · have := hK k h'
        rcases h with h | h
        · omega
        · have := hgx k h; omega
      · rcases h with h | h
        · exact hXB (h ▸ h')
        · exact (hgx k h).2 h'
      · rcases h with h | h
        · omega
        · have := hgx k h; omega
      · rcases h with h | h
        · omega
        · have := hgx k h; omega
    · rw [List.length_append, List.length_singleton, hpl]; exact hb2
    all_goals (rintro (h | h); omega; have := hgx _ h; omega)
  case done =>
    rintro X W hsz ⟨hbox, kM, nM, kR, nR, kE, nE, hB, hXs⟩ hd
    obtain ⟨v, hv, hrow, hXB, hXg⟩ := hbox.ex
    obtain ⟨A', cap', rfl, _⟩ := own_RIx hrow rfl
    have cv := hv.cell
    have cR := kR.cell
    have fR := kR.frozen
    have cE := kE.cell
    have fE := kE.frozen
    rw [hs0] at hd hsz
    go_wp2_with fail
    obtain ⟨k2, k3, hf2⟩ := two_set (by omega) kR kE (.slice A' xs.length cap') (.bool true)
    have hd2 := hf2.same hd (by omega)
    have hB2 := hB.trans (hf2.below (by have := hB.size; omega) (fun k hk => by omega))
    have hrow2 := ownsRow_far hrow hf2 (fun g hg h => by have := (hrow.lt g hg).1; omega)
    generalize ((W.setCell ⟨s + 1, 0, none⟩ (.slice A' xs.length cap')).setCell ⟨s + 2, 0, none⟩ (.bool true)) = w5 at *
    rw [hs0]
    have hfp : Far (fun k => k = s + 4) w5 (w5.putObj (s + 4) (.deferred none)) := Far.putObj (T := fun k => k = s + 4) (Far.refl _ _) (fun _ => rfl) _
    have hrow3 := ownsRow_far hrow2 hfp (fun g hg h => by have := (hrow2.lt g hg).1; omega)
    have c6 := (hfp.blk k2 (by omega)).cell
    have c7 := (hfp.blk k3 (by omega)).cell
    obtain ⟨A2, cap2, he, hru⟩ := own_RIx hrow3 rfl
    cases he
    exact leave_mark (v := .tuple #[.slice A' xs.length cap', .bool true]) hd2 (by simp [results, Try.results46, go_sem, c6, c7]) ⟨A', cap', rfl, hru, by rw [hs]; exact hB2.trans (hfp.below (by have := hB2.size; omega) (fun k hk => by omega))⟩
end Go.Proofs.Ytfmnlpgboolpmaa
