/- Walks: the program's Meets; the law SpansAsks. -/
import Derived.Test.YtfmnlpgboolpmaaSWalkH
import Derived.Test.YtfmnlpgboolpmaaSWalkG
namespace Go.Pol
open Go Go.RowKit
/-- a loop over spans that keeps no variable -/
theorem rangeFS {P : Program} {g : Operand} {ps : Array Tmp} {assign body : Code} {Q : Exit → Act → World → Prop} {a : Act} {w : World} (pb : Nat)
    {gf : Nat} {lb : Array Value} (hg : a.eval g = .func (.func gf) #[] lb) (eg : ∀ args w, (callFunc gf args).run P w = .ok (.enter gf args) w)
    {T K : Nat → Prop} {xs : List Sp} (hseq : SeqF P gf lb spA T K xs w) (hps : ps = #[pb])
    (hT : ∀ k, T k → k < w.heap.size) (hK : ∀ k, K k → k < w.heap.size)
    (I : List Sp → World → Prop) (Ix : Code → List Sp → World → Prop)
    (hI : ∀ pre A B, I pre A → Far (fun k => T k ∨ k = w.heap.size ∨ k = w.heap.size + 1) A B → I pre B)
    (hIx : ∀ c pre A B, Ix c pre A → Far (fun k => T k ∨ k = w.heap.size ∨ k = w.heap.size + 1) A B → Ix c pre B)
    (h0 : I [] w)
    (hassign : ∀ (m l : Nat) (x : Sp) (W : World) (C : Act → World → Prop),
      C { tmps := a.tmps.setIfInBounds pb (.agg #[.int .i64 x.1, .int .i64 x.2]), defers := [] } W →
      assign.wpIn (Fence.wide.inRound l) m P (Exit.then C (fun _ _ _ => False)) { tmps := a.tmps.setIfInBounds pb (.agg #[.int .i64 x.1, .int .i64 x.2]), defers := [] } W)
    (hbody : ∀ (m l : Nat) (pre : List Sp) (x : Sp) (W : World), w.heap.size + 2 ≤ W.heap.size → I pre W → pre ++ [x] <+: xs →
      body.wpIn (Fence.wide.inRound l) m P (fPost w.heap.size K I Ix (pre ++ [x]) W) { tmps := a.tmps.setIfInBounds pb (.agg #[.int .i64 x.1, .int .i64 x.2]), defers := [] } W)
    (hdone : ∀ (W : World), w.heap.size + 2 ≤ W.heap.size → I xs W → W.heap[w.heap.size]? = some (.deferred (some [])) → Q .normal { a with defers := markOf w.heap.size :: a.defers } W)
    (hstop : ∀ (c : Code) (pre : List Sp) (W : World), w.heap.size + 2 ≤ W.heap.size → pre <+: xs → Ix c pre W → W.heap[w.heap.size]? = some (.deferred (some [])) → c.wp P Q { a with defers := markOf w.heap.size :: a.defers } W) :
    (Code.rangeFunc g ps assign body).wp P Q a w := by
  subst hps
  refine rangeF hg eg hseq (fun _ => rfl) hT hK I Ix hI hIx h0
    (fun _ x a' _ => a' = { tmps := a.tmps.setIfInBounds pb (.agg #[.int .i64 x.1, .int .i64 x.2]), defers := [] })
    (fun _ _ _ _ _ h _ => h) ?_ ?_ hdone hstop
  · intro m l x W C hs hC
    have e : (#[pb].zip (spA x)).foldl (fun t (p, v) => t.setIfInBounds p v) a.tmps = a.tmps.setIfInBounds pb (.agg #[.int .i64 x.1, .int .i64 x.2]) := by simp [spA]
    rw [e]
    exact hassign m l x W C (hC _ _ (Far.refl _ W) rfl)
  · rintro m l pre x a' Wa W hs hi rfl hpre _ _
    exact hbody m l pre x W hs hi hpre
end Go.Pol
namespace Go.Proofs.Ytfmnlpgboolpmaa
open Go Go.Proofs Go.RowKit Go.Pol Go.Shelf
attribute [local go_sem] Oper.semAt_some Go.Pol.wide_fn Go.Pol.wide_depth Go.Pol.wide_fn' Go.Pol.wide_depth'

set_option maxRecDepth 100000 in
set_option maxHeartbeats 1600000 in
theorem meets_any (A : Option Addr) (n cap : Nat) (us : List Sp) (p q : Int) (w : World) (hn : us.length = n) (hm : n ≤ cap) (hc : cap ≤ maxLen) (hr : RU w w.heap.size A us) :
    Calls Try.prog 53 #[.slice A n cap, .agg #[.int .i64 p, .int .i64 q]] w fun e w' => e = .returned (.tuple #[.bool (decide (askS us (p, q) = 0) && !(commonF us [(p, q)]).isEmpty), .int .i64 (askS us (p, q))]) ∧ Below w.heap.size w w' := by
  obtain ⟨s, hs⟩ : ∃ s, w.heap.size = s := ⟨_, rfl⟩
  obtain ⟨W0, hW0⟩ : ∃ W0, ((w.alloc (.cells #[.int .i64 p, .int .i64 q] 40)).alloc (.cells #[.bool false] 4)).alloc (.cells #[.int .i64 0] 26) = W0 := ⟨_, rfl⟩
  have hb0 : Below s w W0 := by rw [← hW0, ← hs]; exact (((Below.refl w.heap.size w).alloc (Nat.le_refl _) _).alloc (by simp) _).alloc (by simp; omega) _
  have kX : Blk W0 s 40 #[.int .i64 p, .int .i64 q] := by rw [← hW0, ← hs]; exact ((Blk.new _ _ _).alloc _).alloc _
  have kO : Blk W0 (s + 1) 4 #[.bool false] := by
    rw [← hW0, ← hs]; have := Blk.new (w.alloc (.cells #[.int .i64 p, .int .i64 q] 40)) 4 #[.bool false]
    rw [World.size_alloc] at this; exact this.alloc _
  have kE : Blk W0 (s + 2) 26 #[.int .i64 0] := by
    rw [← hW0, ← hs]; have := Blk.new ((w.alloc (.cells #[.int .i64 p, .int .i64 q] 40)).alloc (.cells #[.bool false] 4)) 26 #[.int .i64 0]
    simp only [World.size_alloc] at this; exact this
  have hW1 := Lib.hid hW0
  have r0 : RU W0 W0.heap.size A us := hr.on (by rw [hs]; exact hb0)
  have HA := Lib.hid (ask_any A n cap us p q W0 hn (Nat.le_trans hm hc) r0)
  have hlt0 : us ≠ [] → ∀ b o, A = some ⟨b, o, none⟩ → b < s := fun h b o e => by rw [← hs]; exact ru_lt hr h e
  rw [hs] at hr
  clear hW0
  obtain ⟨R, hR⟩ : ∃ R, (decide (askS us (p, q) = 0) && !(commonF us [(p, q)]).isEmpty) = R := ⟨_, rfl⟩
  rw [hR]
  have hR' := Lib.hid hR
  clear hR
  have zX := kX.cell
  by_cases h0 : askS us (p, q) = 0
  case neg =>
    have hE : Hid (R = false) := Lib.hid (by rw [← hR'.out, decide_eq_false h0]; rfl)
    generalize askS us (p, q) = er at *
    have hc' : (er != 0) = true := by simpa using h0
    clear hR' h0
    refine calls_of_marks Try.func53 rfl ?_
    simp only [Try.ntmps53, List.size_toArray, List.length_cons, List.length_nil, Nat.reduceAdd, Nat.reduceSub, Array.replicate_succ, Array.replicate_zero, List.push_toArray, List.append_toArray, List.nil_append, List.cons_append]
    go_upto_region 1 with fail
    try simp only [Nat.add_assoc, Nat.reduceAdd]
    rw [hW1.out]
    go_wp2_with (go_at_call 84; refine (HA.out).mono ?_; rintro e w1 ⟨rfl, hq⟩; have kO1 := kO.call hq; have kE1 := kE.call hq; have cO1 := kO1.cell; have fO1 := kO1.frozen; have cE1 := kE1.cell; have fE1 := kE1.frozen; have hb1 := hb0.trans (hq.mono (by have := hb0.size; omega)))
    obtain ⟨k2, k3, hf2⟩ := two_set (by omega) kO1 kE1 (.bool false) (.int .i64 er)
    have c2 := k2.cell
    have c3 := k3.cell
    exact leave_none (v := .tuple #[.bool false, .int .i64 er]) (by simp [results, Try.results53, go_sem, c2, c3]) ⟨by rw [hE.out], by rw [hs]; exact hb1.trans (hf2.below (by have := hb1.size; omega) (fun k hk => by omega))⟩
  case pos =>
    obtain ⟨hu, hv⟩ := askS_zero h0
    have hE : Hid (R = !(commonF us [(p, q)]).isEmpty) := Lib.hid (by rw [← hR'.out, decide_eq_true h0]; rfl)
    rw [h0] at HA ⊢
    clear hR' h0
    refine calls_of_marks Try.func53 rfl ?_
    simp only [Try.ntmps53, List.size_toArray, List.length_cons, List.length_nil, Nat.reduceAdd, Nat.reduceSub, Array.replicate_succ, Array.replicate_zero, List.push_toArray, List.append_toArray, List.nil_append, List.cons_append]
    go_upto_region 1 with fail
    try simp only [Nat.add_assoc, Nat.reduceAdd]
    rw [hW1.out]
    go_wp2_with (first
      | (go_at_call 84; refine (HA.out).mono ?_; rintro e w1 ⟨rfl, hq⟩; have kX1 := kX.call hq; have kO1 := kO.call hq; have kE1 := kE.call hq; have zX1 := kX1.cell; have hb1 := hb0.trans (hq.mono (by have := hb0.size; omega)))
      | (go_at_call 81; refine (common_any _ _ _ _ _ _ _).mono ?_; rintro e w2 ⟨rfl, rfl⟩))
    obtain ⟨g, hg⟩ : ∃ g, w1.heap.size = g := ⟨_, rfl⟩
    obtain ⟨W2, hW2⟩ : ∃ W2, ((w1.alloc (.cells #[.int .i64 p, .int .i64 q] 40)).alloc (.cells #[.slice A n cap] 36)).alloc (.cells #[.slice (some ⟨w1.heap.size, 0, none⟩) 1 1] 36) = W2 := ⟨_, rfl⟩
    have hF2 : Far (fun _ => False) w1 W2 := by rw [← hW2]; exact (((Far.refl _ w1).alloc _).alloc _).alloc _
    have hsz2 : W2.heap.size = g + 3 := by rw [← hW2, ← hg]; simp
    have kN : Blk W2 g 40 #[.int .i64 p, .int .i64 q] := by rw [← hW2, ← hg]; exact ((Blk.new _ _ _).alloc _).alloc _
    have kB1 : Blk W2 (g + 1) 36 #[.slice A n cap] := by
      rw [← hW2, ← hg]; have := Blk.new (w1.alloc (.cells #[.int .i64 p, .int .i64 q] 40)) 36 #[.slice A n cap]
      rw [World.size_alloc] at this; exact this.alloc _
    have kB2 : Blk W2 (g + 2) 36 #[.slice (some ⟨g, 0, none⟩) 1 1] := by
      rw [← hW2, ← hg]; have := Blk.new ((w1.alloc (.cells #[.int .i64 p, .int .i64 q] 40)).alloc (.cells #[.slice A n cap] 36)) 36 #[.slice (some ⟨w1.heap.size, 0, none⟩) 1 1]
      simp only [World.size_alloc] at this; exact this
    simp only [hg] at hW2 ⊢
    simp only [Nat.add_assoc, Nat.reduceAdd] at hW2 ⊢
    rw [hW2]
    clear hW2
    have hgs : s + 3 ≤ g := by rw [← hg]; have := hb1.size; have := kE1.lt; omega
    have r2 : RU W2 (g + 3) A us := by
      have h1 := (hr.below hb1)
      have h2 := hF2.ru h1 (fun _ _ _ h => h)
      exact h2.more (by omega)
    have rN : RU W2 (g + 3) (some ⟨g, 0, none⟩) [(p, q)] := by have := ru_blkL (us := [(p, q)]) kN rfl; rw [hsz2] at this; exact this
    have kO2 := hF2.blk kO1 id
    have kE2 := hF2.blk kE1 id
    have hB2 := hb1.trans (hF2.below (by have := hb1.size; omega) (fun _ _ h => h))
    have hseq := common1_seq A (some ⟨g, 0, none⟩) n cap 1 1 us [(p, q)] (g + 1) (g + 2) (g + 3) (fun k => k < g + 3 ∧ k ≠ s + 1 ∧ k ≠ s + 2) W2 (by omega) (by omega) (by omega) kB1 kB2
      ⟨hn, hm, by unfold maxLen at hc; omega, r2, fun h b o e => by have := hlt0 h b o e; exact ⟨by omega, by omega, by omega⟩, hu.1⟩
      ⟨rfl, by omega, by omega, rN, fun h b o e => by cases e; exact ⟨by omega, by omega, by omega⟩, (Go.Pol.Can.one hv).1⟩
    generalize commonF us [(p, q)] = L at *
    clear kX kO kE kX1 kO1 kE1 hb1 hb0 hW1 HA kN kB1 kB2 r2 rN r0 hr hF2
    refine rangeFS 17 (gf := 106) (lb := #[.pointer (some ⟨g + 1, 0, none⟩), .pointer (some ⟨g + 2, 0, none⟩)]) rfl common_enters hseq rfl (fun k h => by rw [hsz2]; omega) (fun k h => by rw [hsz2]; omega)
      (fun pre W => pre = [] ∧ Blk W (s + 1) 4 #[.bool false] ∧ Blk W (s + 2) 26 #[.int .i64 0] ∧ Below s w W)
      (fun c _ W => c = .ret ∧ Blk W (s + 1) 4 #[.bool true] ∧ Blk W (s + 2) 26 #[.int .i64 0] ∧ Below s w W ∧ Hid (R = true))
      (fun pre A B h hf => ⟨h.1, hf.blk h.2.1 (by rw [hsz2]; omega), hf.blk h.2.2.1 (by rw [hsz2]; omega), h.2.2.2.trans (hf.below (by have := h.2.2.2.size; omega) (fun k hk => by rw [hsz2]; omega))⟩)
      (fun c pre A B h hf => ⟨h.1, hf.blk h.2.1 (by rw [hsz2]; omega), hf.blk h.2.2.1 (by rw [hsz2]; omega), h.2.2.2.1.trans (hf.below (by have := h.2.2.2.1.size; omega) (fun k hk => by rw [hsz2]; omega)), h.2.2.2.2⟩)
      ⟨rfl, kO2, kE2, hB2⟩ ?assign ?body ?done ?stop
    case assign =>
      intro m l x W C hC
      simp only [List.setIfInBounds_toArray, List.set_cons_succ, List.set_cons_zero] at hC ⊢
      gi_wp2
      exact hC
    case body =>
      rintro m l pre x W hsz ⟨rfl, kO, kE, hB⟩ hpre
      simp only [List.setIfInBounds_toArray, List.set_cons_succ, List.set_cons_zero]
      have hRx : Hid (R = true) := Lib.hid (by
        obtain ⟨r, hr⟩ := hpre
        rw [hE.out, ← hr]; rfl)
      have cO := kO.cell
      have fO := kO.frozen
      have cE := kE.cell
      have fE := kE.frozen
      gi_wp2_with fail
      obtain ⟨k2, k3, hf2⟩ := two_set (by omega) kO kE (.bool true) (.int .i64 0)
      exact ⟨hf2.mono fun k _ h => by rw [hsz2]; omega, rfl, k2, k3, hB.trans (hf2.below (by have := hB.size; omega) (fun k hk => by omega)), hRx⟩
    case done =>
      rintro W hsz ⟨hL, kO, kE, hB⟩ hd
      have hRx : Hid (R = false) := Lib.hid (by rw [hE.out, hL]; rfl)
      have cO := kO.cell
      have fO := kO.frozen
      have cE := kE.cell
      have fE := kE.frozen
      rw [hsz2] at hd hsz
      go_wp2_with fail
      obtain ⟨k2, k3, hf2⟩ := two_set (by omega) kO kE (.bool false) (.int .i64 0)
      have hd2 := hf2.same hd (by omega)
      have hB2 := hB.trans (hf2.below (by have := hB.size; omega) (fun k hk => by omega))
      generalize ((W.setCell ⟨s + 1, 0, none⟩ (.bool false)).setCell ⟨s + 2, 0, none⟩ (.int .i64 0)) = w5 at *
      rw [hsz2]
      have hfp : Far (fun k => k = g + 3) w5 (w5.putObj (g + 3) (.deferred none)) := Far.putObj (T := fun k => k = g + 3) (Far.refl _ _) (fun _ => rfl) _
      have c6 := (hfp.blk k2 (by omega)).cell
      have c7 := (hfp.blk k3 (by omega)).cell
      exact leave_mark (v := .tuple #[.bool false, .int .i64 0]) hd2 (by simp [results, Try.results53, go_sem, c6, c7]) ⟨by rw [hRx.out], by rw [hs]; exact hB2.trans (hfp.below (by have := hB2.size; omega) (fun k hk => by omega))⟩
    case stop =>
      rintro c pre W hsz hpre ⟨rfl, kO, kE, hB, hRx⟩ hd
      rw [hsz2] at hd hsz
      go_wp2_with fail
      rw [hsz2]
      have hfp : Far (fun k => k = g + 3) W (W.putObj (g + 3) (.deferred none)) := Far.putObj (T := fun k => k = g + 3) (Far.refl _ _) (fun _ => rfl) _
      have c6 := (hfp.blk kO (by omega)).cell
      have c7 := (hfp.blk kE (by omega)).cell
      exact leave_mark (v := .tuple #[.bool true, .int .i64 0]) hd (by simp [results, Try.results53, go_sem, c6, c7]) ⟨by rw [hRx.out], by rw [hs]; exact hB.trans (hfp.below (by have := hB.size; omega) (fun k hk => by omega))⟩

theorem has_eq (us : List Sp) (x : Sp) : (decide (askS us x = 0) && (gapsF us x).isEmpty) = (decide (askS us x = 0) && (cntF us x == x.2)) := by
  by_cases h : askS us x = 0
  · obtain ⟨hu, hv⟩ := askS_zero h
    rw [has_law hu hv]
  · rw [decide_eq_false h]; rfl
theorem meets_eq (us : List Sp) (x : Sp) : (decide (askS us x = 0) && !(commonF us [x]).isEmpty) = (decide (askS us x = 0) && decide (0 < cntF us x)) := by
  by_cases h : askS us x = 0
  · obtain ⟨hu, hv⟩ := askS_zero h
    rw [meets_law hu hv]
    congr 1
    have := (cntN_bound (fun q => mem q us) x.2.toNat x.1).1
    change 0 ≤ cntF us x at this
    by_cases h0 : cntF us x = 0
    · rw [h0]; rfl
    · have e1 : (cntF us x == 0) = false := by simpa using h0
      rw [e1, decide_eq_true (by omega)]; rfl
  · rw [decide_eq_false h]; rfl

set_option maxRecDepth 100000 in
set_option maxHeartbeats 1600000 in
theorem asksLaw_any (A : Option Addr) (n cap : Nat) (us : List Sp) (p q : Int) (w : World) (hn : us.length = n) (hm : n ≤ cap) (hc : cap ≤ maxLen) (hr : RU w w.heap.size A us) :
    Calls Try.prog 12 #[.slice A n cap, .agg #[.int .i64 p, .int .i64 q]] w fun e w' => e = .returned (.bool true) ∧ Below w.heap.size w w' := by
  have HL := Lib.hid (fun W => long_any A n cap W (Nat.le_trans hm hc))
  have hb0 := (Below.refl w.heap.size w).alloc (Nat.le_refl _) (.cells #[.int .i64 p, .int .i64 q] 40)
  have k0 := Blk.new w 40 #[.int .i64 p, .int .i64 q]
  have r0 := hr.on hb0
  have z0 := k0.cell
  by_cases hlen : 2100 < n
  · rw [decide_eq_true hlen] at HL
    go_enter Try.func12, Try.ntmps12
    go_wp2_with fail
    refine (HL.out _).mono ?_
    rintro e w1 ⟨rfl, rfl⟩
    go_wp2_with fail
    refine (awake3_any _).mono ?_
    rintro e w2 ⟨rfl, hb2⟩
    go_wp2_with fail
    go_ret
    exact ⟨rfl, hb0.trans (hb2.mono hb0.size)⟩
  rw [decide_eq_false hlen] at HL
  have H1 := Lib.hid (fun W h => has_any A n cap us p q W hn hm hc h)
  have H2 := Lib.hid (fun W h => rHas_any A n cap us p q W hn (Nat.le_trans hm hc) h)
  have H3 := Lib.hid (fun W h => meets_any A n cap us p q W hn hm hc h)
  have H4 := Lib.hid (fun W h => rMeets_any A n cap us p q W hn (Nat.le_trans hm hc) h)
  have H5 := Lib.hid (fun W h => countS_any A n cap us W hn (Nat.le_trans hm hc) h)
  have H6 := Lib.hid (fun W h => rCount_any A n cap us W hn (Nat.le_trans hm hc) h)
  rw [has_eq] at H1
  rw [meets_eq] at H3
  generalize (decide (askS us (p, q) = 0) && (cntF us (p, q) == (p, q).2)) = b1 at *
  generalize (decide (askS us (p, q) = 0) && decide (0 < cntF us (p, q))) = b2 at *
  generalize askS us (p, q) = e1 at *
  generalize (if chkS us = 0 then sumS us else 0) = c1 at *
  generalize chkS us = e2 at *
  have x1 : (b1 == b1) = true := by simp
  have x2 : (e1 == e1) = true := by simp
  have x3 : (b2 == b2) = true := by simp
  have x4 : (c1 == c1) = true := by simp
  have x5 : (e2 == e2) = true := by simp
  clear hn hlen
  go_enter Try.func12, Try.ntmps12
  go_wp2_with fail
  refine (HL.out _).mono ?_
  rintro e w0 ⟨rfl, rfl⟩
  go_wp2_with fail
  refine (H1.out _ r0).mono ?_
  rintro e w1 ⟨rfl, hb1⟩
  have B1 := hb0.trans (hb1.mono hb0.size)
  have k1 := k0.call hb1
  have z1 := k1.cell
  have r1 := r0.on hb1
  clear H1 hb0 k0 z0 r0 hb1
  go_wp2_with fail
  refine (H2.out _ r1).mono ?_
  rintro e w2 ⟨rfl, hb2⟩
  have B2 := B1.trans (hb2.mono B1.size)
  have k2 := k1.call hb2
  have z2 := k2.cell
  have r2 := r1.on hb2
  clear H2 B1 k1 z1 r1 hb2
  go_wp2_with fail
  refine (H3.out _ r2).mono ?_
  rintro e w3 ⟨rfl, hb3⟩
  have B3 := B2.trans (hb3.mono B2.size)
  have k3 := k2.call hb3
  have z3 := k3.cell
  have r3 := r2.on hb3
  clear H3 B2 k2 z2 r2 hb3
  go_wp2_with fail
  refine (H4.out _ r3).mono ?_
  rintro e w4 ⟨rfl, hb4⟩
  have B4 := B3.trans (hb4.mono B3.size)
  have r4 := r3.on hb4
  clear H4 B3 k3 z3 r3 hb4
  go_wp2_with fail
  refine (H5.out _ r4).mono ?_
  rintro e w5 ⟨rfl, hb5⟩
  have B5 := B4.trans (hb5.mono B4.size)
  have r5 := r4.on hb5
  clear H5 B4 r4 hb5
  go_wp2_with fail
  refine (H6.out _ r5).mono ?_
  rintro e w6 ⟨rfl, hb6⟩
  have B6 := B5.trans (hb6.mono B5.size)
  clear H6 B5 r5 hb6
  go_wp2_with fail
  refine (awake3_any _).mono ?_
  rintro e w7 ⟨rfl, hb7⟩
  go_wp2_with fail
  go_ret
  exact ⟨rfl, B6.trans (hb7.mono B6.size)⟩
end Go.Proofs.Ytfmnlpgboolpmaa
