/- Walks: places; First. -/
import Derived.Test.YtfmnlpgboolpmaaSWalkD
namespace Go.Pol
open Go Go.RowKit
/-- what First answers -/
def headP (l : List (Int × Sp)) : Int × Int := match l with
  | [] => (0, 4)
  | x :: _ => (x.1, 0)
def firstF (us : List Sp) (pages align : Int) : Int × Int := if placeE us pages align = 0 then headP (placesF us pages align) else (0, placeE us pages align)
abbrev plA (x : Int × Sp) : Array Value := #[.int .i64 x.1, .agg #[.int .i64 x.2.1, .int .i64 x.2.2]]
/-- a loop over pairs whose first goes into a temporary -/
theorem rangeXP1 {P : Program} {g : Operand} {ps : Array Tmp} {assign body : Code} {Q : Exit → Act → World → Prop} {a : Act} {w : World} (ia pa pb : Nat)
    {gf : Nat} {lb : Array Value} (hg : a.eval g = .func (.func gf) #[] lb) (eg : ∀ args w, (callFunc gf args).run P w = .ok (.enter gf args) w)
    {T K : Nat → Prop} {xs : List (Int × Sp)} (hseq : SeqX P gf lb plA T K xs w) (hps : ps = #[pa, pb])
    (hT : ∀ k, T k → k < w.heap.size) (hK : ∀ k, K k → k < w.heap.size)
    (I : (Nat → Prop) → List (Int × Sp) → World → Prop) (Ix : Code → (Nat → Prop) → List (Int × Sp) → World → Prop)
    (hI : ∀ X pre A B, I X pre A → Far (fun k => T k ∨ X k ∨ k = w.heap.size ∨ k = w.heap.size + 1) A B → I X pre B)
    (hIx : ∀ c X pre A B, Ix c X pre A → Far (fun k => T k ∨ X k ∨ k = w.heap.size ∨ k = w.heap.size + 1) A B → Ix c X pre B)
    (hnew : ∀ X X' pre A, I X pre A → (∀ k, X' k → X k ∨ A.heap.size ≤ k) → I X' pre A)
    (h0 : I (fun _ => False) [] w)
    (hassign : ∀ (m l : Nat) (x : Int × Sp) (W : World) (C : Act → World → Prop),
      C { tmps := ((a.tmps.setIfInBounds pa (.int .i64 x.1)).setIfInBounds pb (.agg #[.int .i64 x.2.1, .int .i64 x.2.2])).setIfInBounds ia (.int .i64 x.1), defers := [] } W →
      assign.wpIn (Fence.wide.inRound l) m P (Exit.then C (fun _ _ _ => False)) { tmps := ((a.tmps.setIfInBounds pa (.int .i64 x.1)).setIfInBounds pb (.agg #[.int .i64 x.2.1, .int .i64 x.2.2])), defers := [] } W)
    (hbody : ∀ (m l : Nat) (X : Nat → Prop) (pre : List (Int × Sp)) (x : Int × Sp) (Wa W : World), w.heap.size + 2 ≤ W.heap.size → (∀ k, X k → k < Wa.heap.size ∧ k ≠ w.heap.size ∧ k ≠ w.heap.size + 1) → I X pre W → pre ++ [x] <+: xs →
      body.wpIn (Fence.wide.inRound l) m P (xPost w.heap.size K X I Ix (pre ++ [x]) W) { tmps := ((a.tmps.setIfInBounds pa (.int .i64 x.1)).setIfInBounds pb (.agg #[.int .i64 x.2.1, .int .i64 x.2.2])).setIfInBounds ia (.int .i64 x.1), defers := [] } W)
    (hdone : ∀ (X : Nat → Prop) (W : World), w.heap.size + 2 ≤ W.heap.size → I X xs W → W.heap[w.heap.size]? = some (.deferred (some [])) → Q .normal { a with defers := markOf w.heap.size :: a.defers } W)
    (hstop : ∀ (c : Code) (X : Nat → Prop) (pre : List (Int × Sp)) (W : World), w.heap.size + 2 ≤ W.heap.size → pre <+: xs → Ix c X pre W → W.heap[w.heap.size]? = some (.deferred (some [])) → c.wp P Q { a with defers := markOf w.heap.size :: a.defers } W) :
    (Code.rangeFunc g ps assign body).wp P Q a w := by
  subst hps
  refine rangeX hg eg hseq (fun _ => rfl) hT hK I Ix hI hIx hnew h0
    (fun _ x a' _ => a' = { tmps := ((a.tmps.setIfInBounds pa (.int .i64 x.1)).setIfInBounds pb (.agg #[.int .i64 x.2.1, .int .i64 x.2.2])).setIfInBounds ia (.int .i64 x.1), defers := [] })
    (fun _ _ _ _ _ h _ => h) ?_ ?_ hdone hstop
  · intro m l x W C hs hC
    have e : (#[pa, pb].zip (plA x)).foldl (fun t (p, v) => t.setIfInBounds p v) a.tmps = ((a.tmps.setIfInBounds pa (.int .i64 x.1)).setIfInBounds pb (.agg #[.int .i64 x.2.1, .int .i64 x.2.2])) := by simp [plA]
    rw [e]
    exact hassign m l x W C (hC _ _ (Far.refl _ W) rfl)
  · rintro m l X pre x a' Wa W hs hX hi rfl hpre _ _
    exact hbody m l X pre x Wa W hs hX hi hpre
/-- a loop over pairs whose first goes into a temporary, and whose second lies in a box -/
theorem rangeXP2 {P : Program} {g : Operand} {ps : Array Tmp} {assign body : Code} {Q : Exit → Act → World → Prop} {a : Act} {w : World} (ia ib pa pb : Nat) (tE : TypeId)
    {gf : Nat} {lb : Array Value} (hg : a.eval g = .func (.func gf) #[] lb) (eg : ∀ args w, (callFunc gf args).run P w = .ok (.enter gf args) w)
    {T K : Nat → Prop} {xs : List (Int × Sp)} (hseq : SeqX P gf lb plA T K xs w) (hps : ps = #[pa, pb])
    (hT : ∀ k, T k → k < w.heap.size) (hK : ∀ k, K k → k < w.heap.size)
    (I : (Nat → Prop) → List (Int × Sp) → World → Prop) (Ix : Code → (Nat → Prop) → List (Int × Sp) → World → Prop)
    (hI : ∀ X pre A B, I X pre A → Far (fun k => T k ∨ X k ∨ k = w.heap.size ∨ k = w.heap.size + 1) A B → I X pre B)
    (hIx : ∀ c X pre A B, Ix c X pre A → Far (fun k => T k ∨ X k ∨ k = w.heap.size ∨ k = w.heap.size + 1) A B → Ix c X pre B)
    (hnew : ∀ X X' pre A, I X pre A → (∀ k, X' k → X k ∨ A.heap.size ≤ k) → I X' pre A)
    (h0 : I (fun _ => False) [] w)
    (hassign : ∀ (m l : Nat) (x : Int × Sp) (W : World) (C : Act → World → Prop),
      C { tmps := (((a.tmps.setIfInBounds pa (.int .i64 x.1)).setIfInBounds pb (.agg #[.int .i64 x.2.1, .int .i64 x.2.2])).setIfInBounds ia (.int .i64 x.1)).setIfInBounds ib (.pointer (some ⟨W.heap.size, 0, none⟩)), defers := [] } (W.alloc (.cells #[.int .i64 x.2.1, .int .i64 x.2.2] tE)) →
      assign.wpIn (Fence.wide.inRound l) m P (Exit.then C (fun _ _ _ => False)) { tmps := ((a.tmps.setIfInBounds pa (.int .i64 x.1)).setIfInBounds pb (.agg #[.int .i64 x.2.1, .int .i64 x.2.2])), defers := [] } W)
    (hbody : ∀ (m l : Nat) (X : Nat → Prop) (pre : List (Int × Sp)) (x : Int × Sp) (Bx : Nat) (Wa W : World), w.heap.size + 2 ≤ W.heap.size → (∀ k, X k → k < Wa.heap.size ∧ k ≠ w.heap.size ∧ k ≠ w.heap.size + 1) → I X pre W → pre ++ [x] <+: xs → w.heap.size + 2 ≤ Bx → Blk W Bx tE #[.int .i64 x.2.1, .int .i64 x.2.2] → Wa.heap.size ≤ Bx →
      body.wpIn (Fence.wide.inRound l) m P (xPost w.heap.size K X I Ix (pre ++ [x]) W) { tmps := (((a.tmps.setIfInBounds pa (.int .i64 x.1)).setIfInBounds pb (.agg #[.int .i64 x.2.1, .int .i64 x.2.2])).setIfInBounds ia (.int .i64 x.1)).setIfInBounds ib (.pointer (some ⟨Bx, 0, none⟩)), defers := [] } W)
    (hdone : ∀ (X : Nat → Prop) (W : World), w.heap.size + 2 ≤ W.heap.size → I X xs W → W.heap[w.heap.size]? = some (.deferred (some [])) → Q .normal { a with defers := markOf w.heap.size :: a.defers } W)
    (hstop : ∀ (c : Code) (X : Nat → Prop) (pre : List (Int × Sp)) (W : World), w.heap.size + 2 ≤ W.heap.size → pre <+: xs → Ix c X pre W → W.heap[w.heap.size]? = some (.deferred (some [])) → c.wp P Q { a with defers := markOf w.heap.size :: a.defers } W) :
    (Code.rangeFunc g ps assign body).wp P Q a w := by
  subst hps
  refine rangeX hg eg hseq (fun _ => rfl) hT hK I Ix hI hIx hnew h0
    (fun N x a' W => ∃ Bx, N ≤ Bx ∧ w.heap.size + 2 ≤ Bx ∧ Blk W Bx tE #[.int .i64 x.2.1, .int .i64 x.2.2] ∧ a' = { tmps := (((a.tmps.setIfInBounds pa (.int .i64 x.1)).setIfInBounds pb (.agg #[.int .i64 x.2.1, .int .i64 x.2.2])).setIfInBounds ia (.int .i64 x.1)).setIfInBounds ib (.pointer (some ⟨Bx, 0, none⟩)), defers := [] })
    (fun N x a' A B ⟨Bx, h0, h1, h2, h3⟩ hf => ⟨Bx, h0, h1, hf.blk h2 (by omega), h3⟩) ?_ ?_ hdone hstop
  · intro m l x W C hs hC
    have e : (#[pa, pb].zip (plA x)).foldl (fun t (p, v) => t.setIfInBounds p v) a.tmps = ((a.tmps.setIfInBounds pa (.int .i64 x.1)).setIfInBounds pb (.agg #[.int .i64 x.2.1, .int .i64 x.2.2])) := by simp [plA]
    rw [e]
    exact hassign m l x W C (hC _ _ ((Far.refl _ W).alloc _) ⟨W.heap.size, Nat.le_refl _, hs, Blk.new _ _ _, rfl⟩)
  · rintro m l X pre x a' Wa W hs hX hi ⟨Bx, h0, h1, h2, rfl⟩ hpre _ _
    exact hbody m l X pre x Bx Wa W hs hX hi hpre h1 h2 h0
end Go.Pol
namespace Go.Proofs.Ytfmnlpgboolpmaa
open Go Go.Proofs Go.RowKit Go.Pol Go.Shelf
attribute [local go_sem] Oper.semAt_some Go.Pol.wide_fn Go.Pol.wide_depth Go.Pol.wide_fn' Go.Pol.wide_depth'

theorem places_enters : ∀ args w, (callFunc 114 args).run Try.prog w = .ok (.enter 114 args) w := enters_of Try.func114 (by kernel_rfl) rfl

set_option maxHeartbeats 800000 in
theorem placesTop_any (A : Option Addr) (n cap : Nat) (us : List Sp) (pages align : Int) (w : World) (hn : us.length = n) (hr : RU w w.heap.size A us) (h0 : placeE us pages align = 0) :
    Calls Try.prog 99 #[.slice A n cap, .int .i64 pages, .int .i64 align] w fun e w' => ∃ (lb : Array Value) (K : Nat → Prop), e = .returned (.func (.func 114) #[] lb) ∧
      SeqX Try.prog 114 lb plV (fun _ => False) K (placesF us pages align) w' ∧ (∀ k, K k → k < w'.heap.size ∧ (w.heap.size ≤ k ∨ (us ≠ [] ∧ ∃ o, A = some ⟨k, o, none⟩))) ∧ Below w.heap.size w w' := by
  obtain ⟨hu, hp0, hp1, ha0, ha1, _⟩ := placeE_zero h0
  have hb0 := (((Below.refl w.heap.size w).alloc (Nat.le_refl _) (.cells #[.slice A n cap] 36)).alloc (by simp) (.cells #[.int .i64 pages] 3)).alloc (by simp; omega) (.cells #[.int .i64 align] 3)
  have k1 := ((Blk.new w 36 #[.slice A n cap]).alloc (.cells #[.int .i64 pages] 3)).alloc (.cells #[.int .i64 align] 3)
  have k2 := (Blk.new (w.alloc (.cells #[.slice A n cap] 36)) 3 #[.int .i64 pages]).alloc (.cells #[.int .i64 align] 3)
  have k3 := Blk.new ((w.alloc (.cells #[.slice A n cap] 36)).alloc (.cells #[.int .i64 pages] 3)) 3 #[.int .i64 align]
  simp only [World.size_alloc] at k2 k3
  have r0 := hr.on hb0
  go_enter Try.func99, Try.ntmps99
  go_wp2_with fail
  go_ret
  refine ⟨_, fun k => k = w.heap.size ∨ k = w.heap.size + 1 ∨ k = w.heap.size + 1 + 1 ∨ (us ≠ [] ∧ ∃ o, A = some ⟨k, o, none⟩), rfl, places1_seq A n cap us pages align w.heap.size (w.heap.size + 1 + 1) (w.heap.size + 1) _ _ (.inl rfl) (.inr (.inr (.inl rfl))) (.inr (.inl rfl)) k1 k3 k2 hn r0 (fun h b o e => .inr (.inr (.inr ⟨h, o, e⟩))) hu ⟨hp0, hp1⟩ ⟨ha0, ha1⟩, ?_, hb0⟩
  rintro k (rfl | rfl | rfl | ⟨h, o, e⟩)
  · exact ⟨k1.lt, .inl (Nat.le_refl _)⟩
  · exact ⟨k2.lt, .inl (by omega)⟩
  · exact ⟨k3.lt, .inl (by omega)⟩
  · exact ⟨ru_lt r0 h e, .inr ⟨h, o, e⟩⟩

set_option maxRecDepth 100000 in
set_option maxHeartbeats 1600000 in
theorem first_any (A : Option Addr) (n cap : Nat) (us : List Sp) (pages align : Int) (w : World) (hn : us.length = n) (hm : n ≤ maxLen) (hr : RU w w.heap.size A us) :
    Calls Try.prog 56 #[.slice A n cap, .int .i64 pages, .int .i64 align] w fun e w' => e = .returned (.tuple #[.int .i64 (firstF us pages align).1, .int .i64 (firstF us pages align).2]) ∧ Below w.heap.size w w' := by
  obtain ⟨s, hs⟩ : ∃ s, w.heap.size = s := ⟨_, rfl⟩
  obtain ⟨W0, hW0⟩ : ∃ W0, (w.alloc (.cells #[.int .i64 0] 3)).alloc (.cells #[.int .i64 0] 26) = W0 := ⟨_, rfl⟩
  have hs0 : W0.heap.size = s + 2 := by rw [← hW0, ← hs]; simp
  have hb0 : Below s w W0 := by rw [← hW0, ← hs]; exact ((Below.refl w.heap.size w).alloc (Nat.le_refl _) _).alloc (by simp) _
  have kO : Blk W0 s 3 #[.int .i64 0] := by rw [← hW0, ← hs]; exact (Blk.new _ _ _).alloc _
  have kE : Blk W0 (s + 1) 26 #[.int .i64 0] := by
    rw [← hW0, ← hs]; have := Blk.new (w.alloc (.cells #[.int .i64 0] 3)) 26 #[.int .i64 0]
    rw [World.size_alloc] at this; exact this
  have hW1 := Lib.hid hW0
  have r0 : RU W0 W0.heap.size A us := hr.on (by rw [hs]; exact hb0)
  have HP := Lib.hid (place_any A n cap us pages align W0 hn hm r0)
  have HT := Lib.hid (fun W h => placesTop_any A n cap us pages align W hn h)
  clear hW0 hn hr
  obtain ⟨R, hR⟩ : ∃ R, firstF us pages align = R := ⟨_, rfl⟩
  rw [hR]
  have hR' := Lib.hid hR
  clear hR
  by_cases hc : placeE us pages align = 0
  case neg =>
    have hE : Hid (R = (0, placeE us pages align)) := Lib.hid (by rw [← hR'.out, firstF, if_neg hc])
    generalize placeE us pages align = er at *
    have hc' : (er != 0) = true := by simpa using hc
    clear hR' hc
    refine calls_of_marks Try.func56 rfl ?_
    simp only [Try.ntmps56, List.size_toArray, List.length_cons, List.length_nil, Nat.reduceAdd, Nat.reduceSub, Array.replicate_succ, Array.replicate_zero, List.push_toArray, List.append_toArray, List.nil_append, List.cons_append]
    go_upto_region 1 with fail
    try simp only [Nat.add_assoc, Nat.reduceAdd]
    rw [hW1.out]
    go_wp2_with (go_at_call 98; refine (HP.out).mono ?_; rintro e w1 ⟨rfl, hq⟩; have kO1 := kO.call hq; have kE1 := kE.call hq; have cO1 := kO1.cell; have fO1 := kO1.frozen; have cE1 := kE1.cell; have fE1 := kE1.frozen; have hb1 := hb0.trans (hq.mono (by have := hb0.size; omega)))
    obtain ⟨k2, k3, hf2⟩ := two_set (by omega) kO1 kE1 (.int .i64 0) (.int .i64 er)
    have c2 := k2.cell
    have c3 := k3.cell
    exact leave_none (v := .tuple #[.int .i64 0, .int .i64 er]) (by simp [results, Try.results56, go_sem, c2, c3]) ⟨by rw [hE.out], by rw [hs]; exact hb1.trans (hf2.below (by have := hb1.size; omega) (fun k hk => by omega))⟩
  case pos =>
    have hE : Hid (R = headP (placesF us pages align)) := Lib.hid (by rw [← hR'.out, firstF, if_pos hc])
    have HT2 := Lib.hid (fun W h => HT.out W h hc)
    rw [hc] at HP
    clear hc hR' HT
    refine calls_of_marks Try.func56 rfl ?_
    simp only [Try.ntmps56, List.size_toArray, List.length_cons, List.length_nil, Nat.reduceAdd, Nat.reduceSub, Array.replicate_succ, Array.replicate_zero, List.push_toArray, List.append_toArray, List.nil_append, List.cons_append]
    go_upto_region 1 with fail
    try simp only [Nat.add_assoc, Nat.reduceAdd]
    rw [hW1.out]
    go_wp2_with fail
    refine HP.out.mono ?_
    rintro e w1 ⟨rfl, hq1⟩
    have kO1 := kO.call hq1
    have kE1 := kE.call hq1
    have hb1 := hb0.trans (hq1.mono (by have := hb0.size; omega))
    go_wp2_with fail
    refine (HT2.out _ (r0.on hq1)).mono ?_
    rintro e w2 ⟨lb, K, rfl, hseq, hK, hq2⟩
    have kO2 := kO1.call hq2
    have kE2 := kE1.call hq2
    have hb2 := hb1.trans (hq2.mono (by have := hb1.size; omega))
    generalize placesF us pages align = L at *
    go_wp2_with fail
    have ls2 := kE2.lt
    have far_I : ∀ {X : Nat → Prop} {A B : World} {u v : Value}, (Blk A s 3 #[u] ∧ ¬ X s ∧ Blk A (s + 1) 26 #[v] ∧ ¬ X (s + 1) ∧ Below s w A ∧ ∀ k, X k → s ≤ k) → Far (fun k => False ∨ X k ∨ k = w2.heap.size ∨ k = w2.heap.size + 1) A B →
        (Blk B s 3 #[u] ∧ ¬ X s ∧ Blk B (s + 1) 26 #[v] ∧ ¬ X (s + 1) ∧ Below s w B ∧ ∀ k, X k → s ≤ k) := fun {X A B u v} h hf =>
      ⟨hf.blk h.1 (by rintro (h' | h' | h' | h'); exact h'; exact h.2.1 h'; omega; omega), h.2.1, hf.blk h.2.2.1 (by rintro (h' | h' | h' | h'); exact h'; exact h.2.2.2.1 h'; omega; omega), h.2.2.2.1,
        h.2.2.2.2.1.trans (hf.below (by have := h.2.2.2.2.1.size; omega) (fun k hk => by rintro (h' | h' | h' | h'); exact h'; have := h.2.2.2.2.2 k h'; omega; omega; omega)), h.2.2.2.2.2⟩
    refine rangeXP1 9 21 22 (gf := 114) (lb := lb) rfl places_enters hseq rfl (fun _ h => h.elim) (fun k h => (hK k h).1)
      (fun X pre W => pre = [] ∧ (Blk W s 3 #[.int .i64 0] ∧ ¬ X s ∧ Blk W (s + 1) 26 #[.int .i64 0] ∧ ¬ X (s + 1) ∧ Below s w W ∧ ∀ k, X k → s ≤ k))
      (fun c X _ W => c = .ret ∧ (Blk W s 3 #[.int .i64 R.1] ∧ ¬ X s ∧ Blk W (s + 1) 26 #[.int .i64 R.2] ∧ ¬ X (s + 1) ∧ Below s w W ∧ ∀ k, X k → s ≤ k))
      (fun X pre A B h hf => ⟨h.1, far_I h.2 hf⟩) (fun c X pre A B h hf => ⟨h.1, far_I h.2 hf⟩)
      (fun X X' pre A h hX => ⟨h.1, h.2.1, fun h' => (hX _ h').elim h.2.2.1 (fun h' => by have := h.2.1.lt; omega), h.2.2.2.1, fun h' => (hX _ h').elim h.2.2.2.2.1 (fun h' => by have := h.2.2.2.1.lt; omega), h.2.2.2.2.2.1, fun k hk => (hX _ hk).elim (h.2.2.2.2.2.2 k) (fun h' => by have := h.2.1.lt; omega)⟩)
      ⟨rfl, kO2, id, kE2, id, hb2, fun _ h => h.elim⟩ ?assign ?body ?done ?stop
    case assign =>
      intro m l x W C hC
      simp only [List.setIfInBounds_toArray, List.set_cons_succ, List.set_cons_zero] at hC ⊢
      gi_wp2
      exact hC
    case body =>
      rintro m l X pre x Wa W hsz hXlt ⟨rfl, kO, nO, kE, nE, hB, hXs⟩ hpre
      simp only [List.setIfInBounds_toArray, List.set_cons_succ, List.set_cons_zero]
      have hRx : Hid (R = (x.1, 0)) := Lib.hid (by
        obtain ⟨r, hr⟩ := hpre
        rw [hE.out, ← hr]; rfl)
      obtain ⟨xp, xa, xb⟩ := x
      dsimp only at hRx
      have cO := kO.cell
      have fO := kO.frozen
      have cE := kE.cell
      have fE := kE.frozen
      gi_wp2_with fail
      obtain ⟨k2, k3, hf2⟩ := two_set (by omega) kO kE (.int .i64 xp) (.int .i64 0)
      exact ⟨hf2.mono fun k _ h => by omega, rfl, by rw [hRx.out]; exact k2, nO, by rw [hRx.out]; exact k3, nE, hB.trans (hf2.below (by have := hB.size; omega) (fun k hk => by omega)), hXs⟩
    case done =>
      rintro X W hsz ⟨hL, kO, nO, kE, nE, hB, hXs⟩ hd
      have hRx : Hid (R = (0, 4)) := Lib.hid (by rw [hE.out, hL]; rfl)
      have cO := kO.cell
      have fO := kO.frozen
      have cE := kE.cell
      have fE := kE.frozen
      go_wp2_with fail
      obtain ⟨k2, k3, hf2⟩ := two_set (by omega) kO kE (.int .i64 0) (.int .i64 4)
      have hd2 := hf2.same hd (by omega)
      have hB2 := hB.trans (hf2.below (by have := hB.size; omega) (fun k hk => by omega))
      generalize ((W.setCell ⟨s, 0, none⟩ (.int .i64 0)).setCell ⟨s + 1, 0, none⟩ (.int .i64 4)) = w5 at *
      have hfp : Far (fun k => k = w2.heap.size) w5 (w5.putObj w2.heap.size (.deferred none)) := Far.putObj (T := fun k => k = w2.heap.size) (Far.refl _ _) (fun _ => rfl) _
      have c6 := (hfp.blk k2 (by omega)).cell
      have c7 := (hfp.blk k3 (by omega)).cell
      exact leave_mark (v := .tuple #[.int .i64 0, .int .i64 4]) hd2 (by simp [results, Try.results56, go_sem, c6, c7]) ⟨by rw [hRx.out], by rw [hs]; exact hB2.trans (hfp.below (by have := hB2.size; omega) (fun k hk => by omega))⟩
    case stop =>
      rintro c X pre W hsz hpre ⟨rfl, kO, nO, kE, nE, hB, hXs⟩ hd
      go_wp2_with fail
      have hfp : Far (fun k => k = w2.heap.size) W (W.putObj w2.heap.size (.deferred none)) := Far.putObj (T := fun k => k = w2.heap.size) (Far.refl _ _) (fun _ => rfl) _
      have c6 := (hfp.blk kO (by omega)).cell
      have c7 := (hfp.blk kE (by omega)).cell
      exact leave_mark (v := .tuple #[.int .i64 R.1, .int .i64 R.2]) hd (by simp [results, Try.results56, go_sem, c6, c7]) ⟨rfl, by rw [hs]; exact hB.trans (hfp.below (by have := hB.size; omega) (fun k hk => by omega))⟩
end Go.Proofs.Ytfmnlpgboolpmaa
