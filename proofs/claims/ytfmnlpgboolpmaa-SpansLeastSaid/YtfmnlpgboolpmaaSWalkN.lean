/- Walks: Best. -/
import Derived.Test.YtfmnlpgboolpmaaSWalkE
import Derived.Test.YtfmnlpgboolpmaaLibT
namespace Go.Pol
open Go Go.RowKit
/-- one place more for Best -/
def stB (s : Int × Int) (x : Int × Sp) : Int × Int := if x.2.2 < s.2 then (x.1, x.2.2) else s
def bestG (l : List (Int × Sp)) : Int × Int := l.foldl stB (-1, 1025)
def endB (s : Int × Int) : Int × Int := if s.1 < 0 then (0, 4) else (s.1, 0)
/-- what Best answers -/
def bestF (us : List Sp) (pages align : Int) : Int × Int := if placeE us pages align = 0 then endB (bestG (placesF us pages align)) else (0, placeE us pages align)
/-- a region in a loop's body that draws its order and makes no call: as in a function's own code -/
theorem wpOpIn_round {P : Program} {ops : Array Oper} {Q : Exit → Act → World → Prop} {l m i : Nat} {K : Act → World → Prop} {a : Act} {w : World} (hd : ∀ o : Oper, ops[i]? = some o → ∀ c, o.op ≠ .defer c) (hno : ¬ LetsOut Q)
    (h : wpOp P ops Q i K a w) : wpOpIn (Fence.wide.inRound l) m P ops Q i K a w := by
  unfold wpOp at h
  unfold wpOpIn
  split
  · rename_i ho; simpa only [ho] using h
  · rename_i o ho
    simp only [ho] at h
    split
    · rename_i hw
      simp only [hw, if_true] at h
      rcases h with h | ⟨_, h⟩
      · unfold Oper.wpIn
        refine ⟨fun _ _ => trivial, ?_⟩
        rw [Fence.inRound_round, Oper.semAt_some l _ _ (hd o ho)]
        unfold Oper.wp at h
        generalize (execOp a.eval o).run P w = r at *
        cases r with
        | ok x w' =>
          cases x <;> simp only [Oper.upon, Oper.uponIn] at h ⊢ <;> first
            | exact h
            | exact ⟨fun h0 => (by cases h0), (CallsIn.inRound l (callsIn_wide.2 h)).mono fun e w'' he => by cases e <;> exact he⟩
            | exact ⟨fun h0 => (by cases h0), fun c cs _ => let ⟨v, w'', r, s⟩ := h c cs; ⟨v, w'', r, stepsIn_wide.2 s⟩⟩
        | halt x w' => cases x <;> simp only [Oper.upon, Oper.uponIn] at h ⊢ <;> exact h
      · exact absurd h hno
    · rename_i hw
      simp only [hw] at h
      exact ⟨fun _ _ => trivial, h⟩
theorem wpAnyIn_round {P : Program} {ops : Array Oper} {Q : Exit → Act → World → Prop} {md : Region.Mode} {l m : Nat} (hd : ∀ (i : Nat) (o : Oper), ops[i]? = some o → ∀ c, o.op ≠ .defer c) (hno : ¬ LetsOut Q) :
    ∀ (fuel : Nat) (listed : Array Bool) (a : Act) (w : World), wpAny P md ops Q fuel listed a w → wpAnyIn (Fence.wide.inRound l) m P md ops Q fuel listed a w
  | 0, _, _, _, h => h
  | fuel + 1, _, _, _, h => ⟨h.1, fun i hi => wpOpIn_mono (fun a w h => wpAnyIn_round hd hno fuel _ a w h) (wpOpIn_round (hd i) hno (h.2 i hi))⟩
def noDefer (ops : Array Oper) : Bool := ops.all fun o => match o.op with
  | .defer _ => false
  | _ => true
theorem noDefer_spec {ops : Array Oper} (h : noDefer ops = true) (i : Nat) (o : Oper) (ho : ops[i]? = some o) (c : Call) : o.op ≠ .defer c := fun e => by
  have := (Array.all_eq_true_iff_forall_mem.1 h) o (Array.mem_of_getElem? ho)
  rw [e] at this
  cases this
theorem wpIn_region_T {P : Program} {ops : Array Oper} {Q : Exit → Act → World → Prop} {id l m : Nat} {a : Act} {w : World} (S : World → Prop) (tl : List Nat) (hm : P.follows .mixedOrders = true) (hd : noDefer ops = true) (hno : ¬ LetsOut Q)
    (h : wpAnyT P .any ops Q S tl ops.size (Array.replicate ops.size false) a w.drew) : (Code.region id ops true).wpIn (Fence.wide.inRound l) m P Q a w :=
  wpIn_region_any hm (wpAnyIn_round (noDefer_spec hd) hno _ _ _ _ (wpAny_of_T _ _ _ _ h))
theorem wpIn_noPanic {F : Fence} {m : Nat} {P : Program} {c : Code} {Q : Exit → Act → World → Prop} {a : Act} {w : World} (h : c.wpIn F m P (noPanic Q) a w) : c.wpIn F m P Q a w :=
  wpIn_mono h (fun e a w h => by cases e <;> first | exact h.elim | exact h)
/-- what the region in the loop of 'Best' reads -/
def BestS (Bx : Nat) (xb : Int) (w : Go.World) : Prop := w.cell? ⟨Bx, 1, none⟩ = some (.int .i64 xb) ∧ True
theorem bestG_snoc (l : List (Int × Sp)) (x : Int × Sp) : bestG (l ++ [x]) = stB (bestG l) x := by simp [bestG]
end Go.Pol
namespace Go.Proofs.Ytfmnlpgboolpmaa
open Go Go.Proofs Go.RowKit Go.Pol Go.Shelf
attribute [local go_sem] Oper.semAt_some Go.Pol.wide_fn Go.Pol.wide_depth Go.Pol.wide_fn' Go.Pol.wide_depth'

set_option maxRecDepth 100000 in
set_option maxHeartbeats 1600000 in
theorem best_any (A : Option Addr) (n cap : Nat) (us : List Sp) (pages align : Int) (w : World) (hn : us.length = n) (hm : n ≤ maxLen) (hr : RU w w.heap.size A us) :
    Calls Try.prog 58 #[.slice A n cap, .int .i64 pages, .int .i64 align] w fun e w' => e = .returned (.tuple #[.int .i64 (bestF us pages align).1, .int .i64 (bestF us pages align).2]) ∧ Below w.heap.size w w' := by
  have HP := Lib.hid (place_any A n cap us pages align w hn hm hr)
  have hAlt : Hid (us ≠ [] → ∀ k o, A = some ⟨k, o, none⟩ → k < w.heap.size) := Lib.hid (fun h k o e => ru_lt hr h e)
  have HT := Lib.hid (fun W h => placesTop_any A n cap us pages align W hn h)
  obtain ⟨R, hR⟩ : ∃ R, bestF us pages align = R := ⟨_, rfl⟩
  rw [hR]
  have hR' := Lib.hid hR
  clear hR hn
  by_cases hc : placeE us pages align = 0
  case neg =>
    have hE : Hid (R = (0, placeE us pages align)) := Lib.hid (by rw [← hR'.out, bestF, if_neg hc])
    generalize placeE us pages align = er at *
    have hc' : (er != 0) = true := by simpa using hc
    clear hR' hc
    refine calls_of_marks Try.func58 rfl ?_
    simp only [Try.ntmps58, List.size_toArray, List.length_cons, List.length_nil, Nat.reduceAdd, Nat.reduceSub, Array.replicate_succ, Array.replicate_zero, List.push_toArray, List.append_toArray, List.nil_append, List.cons_append]
    go_wp2_with (go_at_call 98; refine (HP.out).mono ?_; rintro e w1 ⟨rfl, hq⟩)
    exact leave_none (v := .tuple #[.int .i64 0, .int .i64 er]) (by simp [results, Try.results58, go_sem]) ⟨by rw [hE.out], hq⟩
  case pos =>
    have hE : Hid (R = endB (bestG (placesF us pages align))) := Lib.hid (by rw [← hR'.out, bestF, if_pos hc])
    have HT2 := Lib.hid (fun W h => HT.out W h hc)
    rw [hc] at HP
    clear hc hR' HT
    obtain ⟨s0, hs0⟩ : ∃ s0, w.heap.size = s0 := ⟨_, rfl⟩
    refine calls_of_marks Try.func58 rfl ?_
    simp only [Try.ntmps58, List.size_toArray, List.length_cons, List.length_nil, Nat.reduceAdd, Nat.reduceSub, Array.replicate_succ, Array.replicate_zero, List.push_toArray, List.append_toArray, List.nil_append, List.cons_append]
    go_wp2_with fail
    refine HP.out.mono ?_
    rintro e w1 ⟨rfl, hq1⟩
    obtain ⟨s, hs⟩ : ∃ s, w1.heap.size = s := ⟨_, rfl⟩
    obtain ⟨W0, hW0⟩ : ∃ W0, (w1.alloc (.cells #[.int .i64 (-1)] 3)).alloc (.cells #[.int .i64 1025] 3) = W0 := ⟨_, rfl⟩
    have hbx : Below s w1 W0 := by rw [← hW0, ← hs]; exact ((Below.refl w1.heap.size w1).alloc (Nat.le_refl _) _).alloc (by simp) _
    have kO : Blk W0 s 3 #[.int .i64 (-1)] := by rw [← hW0, ← hs]; exact (Blk.new _ _ _).alloc _
    have kE : Blk W0 (s + 1) 3 #[.int .i64 1025] := by
      rw [← hW0, ← hs]; have := Blk.new (w1.alloc (.cells #[.int .i64 (-1)] 3)) 3 #[.int .i64 1025]
      rw [World.size_alloc] at this; exact this
    have hb1 : Below s0 w W0 := by rw [hs0] at hq1; exact hq1.trans (hbx.mono (by rw [← hs]; have := hq1.size; omega))
    have r1 : RU W0 W0.heap.size A us := (hr.on hq1).on (by rw [hs]; exact hbx)
    have hss : s0 ≤ s := by rw [← hs, ← hs0]; exact hq1.size
    have hW1 := Lib.hid hW0
    clear hW0 hbx hq1 HP hr
    go_upto_region 5 with fail
    try simp only [hs]
    try simp only [Nat.add_assoc, Nat.reduceAdd]
    rw [hW1.out]
    clear hW1
    go_wp2_with fail
    refine (HT2.out _ r1).mono ?_
    rintro e w2 ⟨lb, K, rfl, hseq, hK, hq2⟩
    have kO2 := kO.call hq2
    have kE2 := kE.call hq2
    have hb2 := hb1.trans (hq2.mono (by have := hb1.size; omega))
    have hE1 := kE.lt
    have hKs : Hid (∀ k, K k → k ≠ s ∧ k ≠ s + 1) := Lib.hid (fun k hk => by
      rcases (hK k hk).2 with h | ⟨h, o, e⟩
      · omega
      · have := hAlt.out h k o e; omega)
    clear kO kE hb1 hq2 r1 HT2
    generalize placesF us pages align = L at *
    go_wp2_with fail
    have ls2 := kE2.lt
    have far_I : ∀ {X : Nat → Prop} {A B : World} {u v : Value}, (Blk A s 3 #[u] ∧ ¬ X s ∧ Blk A (s + 1) 3 #[v] ∧ ¬ X (s + 1) ∧ Below s0 w A ∧ ∀ k, X k → s0 ≤ k) → Far (fun k => False ∨ X k ∨ k = w2.heap.size ∨ k = w2.heap.size + 1) A B →
        (Blk B s 3 #[u] ∧ ¬ X s ∧ Blk B (s + 1) 3 #[v] ∧ ¬ X (s + 1) ∧ Below s0 w B ∧ ∀ k, X k → s0 ≤ k) := fun {X A B u v} h hf =>
      ⟨hf.blk h.1 (by rintro (h' | h' | h' | h'); exact h'; exact h.2.1 h'; omega; omega), h.2.1, hf.blk h.2.2.1 (by rintro (h' | h' | h' | h'); exact h'; exact h.2.2.2.1 h'; omega; omega), h.2.2.2.1,
        h.2.2.2.2.1.trans (hf.below (by have := h.2.2.2.2.1.size; omega) (fun k hk => by rintro (h' | h' | h' | h'); exact h'; have := h.2.2.2.2.2 k h'; omega; omega; omega)), h.2.2.2.2.2⟩
    refine rangeXP2 11 12 24 25 40 (gf := 114) (lb := lb) rfl places_enters hseq rfl (fun _ h => h.elim) (fun k h => (hK k h).1)
      (fun X pre W => Blk W s 3 #[.int .i64 (bestG pre).1] ∧ ¬ X s ∧ Blk W (s + 1) 3 #[.int .i64 (bestG pre).2] ∧ ¬ X (s + 1) ∧ Below s0 w W ∧ ∀ k, X k → s0 ≤ k)
      (fun _ _ _ _ => False)
      (fun X pre A B h hf => far_I h hf) (fun _ _ _ _ _ h _ => h.elim)
      (fun X X' pre A h hX => ⟨h.1, fun h' => (hX _ h').elim h.2.1 (fun h' => by have := h.1.lt; omega), h.2.2.1, fun h' => (hX _ h').elim h.2.2.2.1 (fun h' => by have := h.2.2.1.lt; omega), h.2.2.2.2.1, fun k hk => (hX _ hk).elim (h.2.2.2.2.2 k) (fun h' => by have := h.1.lt; omega)⟩)
      ⟨kO2, id, kE2, id, hb2, fun _ h => h.elim⟩ ?assign ?body ?done (fun _ _ _ _ _ _ h _ => h.elim)
    case assign =>
      intro m l x W C hC
      simp only [List.setIfInBounds_toArray, List.set_cons_succ, List.set_cons_zero] at hC ⊢
      gi_wp2
      exact hC
    case body =>
      rintro m l X pre x Bx Wa W hsz hXlt ⟨kO, nO, kE, nE, hB, hXs⟩ hpre hBx kx hBa
      simp only [List.setIfInBounds_toArray, List.set_cons_succ, List.set_cons_zero]
      have hsn := Lib.hid (bestG_snoc pre x)
      obtain ⟨xp, xa, xb⟩ := x
      generalize bestG pre = bp at *
      obtain ⟨v1, v2⟩ := bp
      dsimp only at kx hsn kO kE
      have cx := kx.cell
      have cO := kO.cell
      have fO := kO.frozen
      have cE := kE.cell
      have fE := kE.frozen
      by_cases hlt : xb < v2
      · have hlt' : decide (xb < v2) = true := by simpa using hlt
        have hS' : Hid (bestG (pre ++ [(xp, xa, xb)]) = (xp, xb)) := Lib.hid (by rw [hsn.out]; show (if xb < v2 then (xp, xb) else (v1, v2)) = _; rw [if_pos hlt])
        gi_upto_region 9 with fail
        refine wpIn_noPanic ?_
        refine wpIn_region_T (BestS Bx xb) [] (by kernel_rfl) (by kernel_rfl) ?hlo ?_
        case hlo => rintro ⟨a, w, h⟩; exact h
        have hS : BestS Bx xb W.drew := ⟨cx 1, trivial⟩
        refine' wpAnyT_take (i := 0) (v := _) ?hiT0 (by kernel_rfl) ?hQT0 (Or.inl ⟨?hwT0, ?hyT0⟩) hS ?reT0
        case hiT0 => (simp only [List.getElem?_toArray, List.getElem?_cons_zero]; rfl)
        case hQT0 => exact fun _ _ _ h => h
        case hwT0 => rfl
        case hyT0 => (intro wS hSw; obtain ⟨_, _⟩ := hSw; go_simp; (try with_reducible rfl))
        try simp only [Act.put, List.setIfInBounds_toArray, List.set_cons_zero, List.set_cons_succ]
        refine' wpAnyT_take (i := 1) (v := _) ?hiT1 (by kernel_rfl) ?hQT1 (Or.inl ⟨?hwT1, ?hyT1⟩) hS ?reT1
        case hiT1 => (simp only [List.getElem?_toArray, List.getElem?_cons_succ, List.getElem?_cons_zero]; rfl)
        case hQT1 => exact fun _ _ _ h => h
        case hwT1 => rfl
        case hyT1 => (intro wS hSw; obtain ⟨_, _⟩ := hSw; go_simp; (try with_reducible rfl))
        try simp only [Act.put, List.setIfInBounds_toArray, List.set_cons_zero, List.set_cons_succ]
        refine' wpAnyT_take (i := 2) (v := _) ?hiT2 (by kernel_rfl) ?hQT2 (Or.inl ⟨?hwT2, ?hyT2⟩) hS ?reT2
        case hiT2 => (simp only [List.getElem?_toArray, List.getElem?_cons_succ, List.getElem?_cons_zero]; rfl)
        case hQT2 => exact fun _ _ _ h => h
        case hwT2 => rfl
        case hyT2 => (intro wS hSw; obtain ⟨_, _⟩ := hSw; go_simp; (try with_reducible rfl))
        try simp only [Act.put, List.setIfInBounds_toArray, List.set_cons_zero, List.set_cons_succ]
        refine wpAnyT_ready (rs := [3]) (by kernel_rfl) (by simp) ?_
        refine' AllReadyT.cons ?hi3 (fun K hK => ?st3) AllReadyT.nil
        case hi3 => (simp only [List.getElem?_toArray, List.getElem?_cons_succ, List.getElem?_cons_zero]; rfl)
        have kOd := kO.drew
        have cOd := kOd.cell
        have fOd := kOd.frozen
        go_simp
        have hf5 : Far (fun k => k = s) W (W.setCell ⟨s, 0, none⟩ (.int .i64 xp)).drew := (Far.setCell (T := fun k => k = s) (p := ⟨s, 0, none⟩) (Far.refl _ _) (fun _ => rfl) _).drew
        have kO5 : Blk (W.setCell ⟨s, 0, none⟩ (.int .i64 xp)).drew s 3 #[.int .i64 xp] := (kO.set_ 0 (.int .i64 xp)).drew
        have kE5 := hf5.blk kE (by omega)
        have kx5 := hf5.blk kx (by omega)
        have cx5 := kx5.cell 1
        refine hK.out _ _ (fun _ => ⟨cx5, trivial⟩) (fun hS => ?_)
        clear hK K
        replace hS := hS rfl
        generalize (W.setCell ⟨s, 0, none⟩ (.int .i64 xp)).drew = w5 at *
        try simp only [Act.put, List.setIfInBounds_toArray, List.set_cons_zero, List.set_cons_succ]
        refine wpAnyT_ready (rs := [4]) (by kernel_rfl) (by simp) ?_
        refine' AllReadyT.cons ?hi4 (fun K hK => ?st4) AllReadyT.nil
        case hi4 => (simp only [List.getElem?_toArray, List.getElem?_cons_succ, List.getElem?_cons_zero]; rfl)
        have cE5 := kE5.cell
        have fE5 := kE5.frozen
        go_simp
        have hf6 : Far (fun k => k = s + 1) w5 (w5.setCell ⟨s + 1, 0, none⟩ (.int .i64 xb)) := Far.setCell (T := fun k => k = s + 1) (p := ⟨s + 1, 0, none⟩) (Far.refl _ _) (fun _ => rfl) _
        have kE6 : Blk (w5.setCell ⟨s + 1, 0, none⟩ (.int .i64 xb)) (s + 1) 3 #[.int .i64 xb] := kE5.set_ 0 (.int .i64 xb)
        have kO6 := hf6.blk kO5 (by omega)
        have kx6 := hf6.blk kx5 (by omega)
        refine hK.out _ _ (fun _ => ⟨kx6.cell 1, trivial⟩) (fun _ => ?_)
        clear hK K
        generalize w5.setCell ⟨s + 1, 0, none⟩ (.int .i64 xb) = w6 at *
        refine wpAnyT_done (by kernel_rfl) ?_ _
        refine noPanic_normal ?_
        have hf := (hf5.mono (T' := fun k => k = s ∨ k = s + 1) fun _ _ h => .inl h).trans (hf6.mono fun _ _ h => .inr h)
        show Far _ _ _ ∧ (Blk _ _ _ #[.int .i64 (bestG (pre ++ [(xp, xa, xb)])).1] ∧ _ ∧ Blk _ _ _ #[.int .i64 (bestG (pre ++ [(xp, xa, xb)])).2] ∧ _)
        rw [hS'.out]
        exact ⟨hf.mono fun k hk h => by
          rintro (h' | h' | h' | h')
          · have := hKs.out k h'; omega
          · rcases h with h | h
            · exact nO (h ▸ h')
            · exact nE (h ▸ h')
          · omega
          · omega, kO6, nO, kE6, nE, hB.trans (hf.below (by have := hB.size; omega) (fun k hk => by omega)), hXs⟩
      · have hlt' : decide (xb < v2) = false := by simpa using hlt
        have hS : Hid (bestG (pre ++ [(xp, xa, xb)]) = (v1, v2)) := Lib.hid (by rw [hsn.out]; show (if xb < v2 then (xp, xb) else (v1, v2)) = _; rw [if_neg hlt])
        gi_wp2_with fail
        show Far _ _ _ ∧ (Blk _ _ _ #[.int .i64 (bestG (pre ++ [(xp, xa, xb)])).1] ∧ _ ∧ Blk _ _ _ #[.int .i64 (bestG (pre ++ [(xp, xa, xb)])).2] ∧ _)
        rw [hS.out]
        exact ⟨Far.refl _ _, kO, nO, kE, nE, hB, hXs⟩
    case done =>
      rintro X W hsz ⟨kO, nO, kE, nE, hB, hXs⟩ hd
      generalize bestG L = bp at *
      obtain ⟨v1, v2⟩ := bp
      dsimp only at kO kE
      have cO := kO.cell
      have fO := kO.frozen
      have hfp : Far (fun k => k = w2.heap.size) W (W.putObj w2.heap.size (.deferred none)) := Far.putObj (T := fun k => k = w2.heap.size) (Far.refl _ _) (fun _ => rfl) _
      have hB9 := hB.trans (hfp.below (by have := hB.size; omega) (fun k hk => by omega))
      by_cases hneg : v1 < 0
      · have hneg' : decide (v1 < 0) = true := by simpa using hneg
        have hRx : Hid (R = (0, 4)) := Lib.hid (by rw [hE.out, endB, if_pos hneg])
        go_wp2_with fail
        exact leave_mark (v := .tuple #[.int .i64 0, .int .i64 4]) hd (by simp [results, Try.results58, go_sem]) ⟨by rw [hRx.out], by first | exact hB9 | (rw [hs0]; exact hB9)⟩
      · have hneg' : decide (v1 < 0) = false := by simpa using hneg
        have hRx : Hid (R = (v1, 0)) := Lib.hid (by rw [hE.out, endB, if_neg hneg])
        go_wp2_with fail
        exact leave_mark (v := .tuple #[.int .i64 v1, .int .i64 0]) hd (by simp [results, Try.results58, go_sem]) ⟨by rw [hRx.out], by first | exact hB9 | (rw [hs0]; exact hB9)⟩
end Go.Proofs.Ytfmnlpgboolpmaa
