/- Merged texts. Walk: 'open' of layer 13. Plain laws for layer 13: Groups, Score and Split, of the program and of the reference. Walks of layer 13: Check; the groups of one kind as a function value that is ranged over. Words for slices of structs: their cells as one flat list. Walks of layer 13: Check, Groups. Walk of layer 13: Score. Plain words for Choose of layer 13. A contract of the library's sort family, laid at this program in plain words (written by the kit's lay-plain; numbers of this seat). Words for lists of groups: as cells, as readings, across steps. -/
import Derived.Deep.MidRow
import Derived.Shelf.SlSortCmp.WholeK
import Derived.Ground.SlsfProg
import Derived.Test.YtpabnbhbcphfiaaGreatProg
import Derived.Test.YtpabnbhbcphfiaaGreatS2
namespace Go.Pol
open Go Go.RowKit
/-- strips 2^d values 'false' off a list -/
def strip : Nat → List Value → Option (List Value)
  | 0, .bool false :: r => some r
  | 0, _ => none
  | d + 1, l => match strip d l with
    | some r => strip d r
    | none => none
theorem strip_spec : ∀ (d : Nat) (l r : List Value), strip d l = some r → l = List.replicate (2 ^ d) (.bool false) ++ r
  | 0, l, r, h => by
    unfold strip at h
    split at h
    · cases h; rfl
    · cases h
    · rename_i h2 _ _; omega
  | d + 1, l, r, h => by
    rw [strip] at h
    split at h
    · rename_i r' h'
      have h1 := strip_spec d l r' h'
      have h2 := strip_spec d r' r h
      rw [h1, h2, ← List.append_assoc, List.replicate_append_replicate]
      rw [show 2 ^ d + 2 ^ d = 2 ^ (d + 1) by rw [Nat.pow_succ]; omega]
    · cases h
section
variable {P : Program}
/-- a region in a loop's body that draws its order: operations that read come first, and then stores in their order -/
theorem region_tail_round {id lr m : Nat} {Q : Exit → Act → World → Prop} {a : Act} {w : World} {l : List Oper} (n : Nat) (hm : P.follows .mixedOrders = true) (hd : noDefer l.toArray = true) (hno : ¬ LetsOut Q) (hB : Region.lexTailB .any l.toArray n = true)
    (h : wpQuiet P l.toArray (fun w' => ∃ x : Ext w, w' = x.w) (fun a' => ∀ x : Ext w, wpList P l.toArray Q (l.drop n) a' x.w) (l.take n) a) : (Code.region id l.toArray true).wpIn (Fence.wide.inRound lr) m P Q a w := by
  simp only [Region.lexTailB, Bool.and_eq_true, decide_eq_true_eq] at hB
  obtain ⟨⟨⟨⟨hsel, hn⟩, hs⟩, hc⟩, hlex⟩ := hB
  have hn' : n < l.length := by simpa using hn
  have htl : (l.take n).length = n := by simp; omega
  have hdl : (l.drop n).length = l.toArray.size - n := by simp
  have inv0 : HeadInv .any l.toArray n (Array.replicate l.toArray.size false) :=
    ⟨by simp, fun j oj _ hl => (by rw [getD_replicate_false] at hl; cases hl), fun t _ ht => getD_in (by simpa using ht) (getD_replicate_false _ _)⟩
  have H := headQ_lex (md := .any) (g := l.toArray.size - n) hsel hs hc hn (l.take n) 0 _ a (fun j hj => by
    have hj' : j < n := by rw [htl] at hj; exact hj
    simp [hj']) (by simpa using htl) inv0 (by rw [htl]; exact hlex) h
  refine wpIn_region_any hm (wpAnyIn_round (noDefer_spec hd) hno _ _ _ _ ?_)
  have := wpAny_of_headQ (Q' := Q) (g := l.toArray.size - n) (fun listed a' w' hw' hL => by
    obtain ⟨x, rfl⟩ := hw'
    have := wpAny_of_seq (md := .any) (Q' := Q) (l.drop n) n listed a' x.w (fun j => by simp [List.getElem?_drop]) (by rw [hdl]; exact hL.1) (hL.2 x)
    rwa [hdl] at this) _ _ _ _ (⟨⟨_, (Below.refl _ w).drew⟩, rfl⟩ : ∃ x : Ext w, ({ w with drawn := w.drawn + 1 } : World) = x.w) H
  rw [htl, show n + (l.toArray.size - n) = l.toArray.size by omega] at this
  exact this
end
theorem RI.on {w w' : World} {A : Option Addr} {us : List Int} (h : RI w w.heap.size A us) (hb : Below w.heap.size w w')   : RI w' w'.heap.size A us := (h.below hb).more hb.size
end Go.Pol
namespace Go.Proofs.YtpabnbhbcphfiaaGreat
open Go Go.Proofs Go.RowKit Go.Pol Go.Shelf
attribute [local go_sem] Oper.semAt_some Go.Pol.wide_fn Go.Pol.wide_depth Go.Pol.wide_fn' Go.Pol.wide_depth'

/-- what 'open' hands back -/
def OpenR (w : World) (C L : List Sp) (H : List Int) (e : Ending) (w' : World) : Prop :=
  Below w.heap.size w w' ∧ (chkH C L H ≠ 0 → e = .returned (.tuple #[.pointer none, .int .i64 (chkH C L H)])) ∧
    (chkH C L H = 0 → ∃ b cs, e = .returned (.tuple #[.pointer (some ⟨b, 0, none⟩), .int .i64 0]) ∧ w.heap.size ≤ b ∧ Blk w' b 201 cs ∧
      LookIs cs (fun p => mem (p : Int) C) (fun p => mem (p : Int) L) (fun g => (g : Int)) (fun g => grpF C g) (fun g => grpF L g) (fun g => decide ((g : Int) ∈ H)))

theorem chkH_1 {C L : List Sp} {H : List Int} (h : chkS C ≠ 0) : chkH C L H = chkS C := by rw [chkH, if_pos h]
theorem chkH_2 {C L : List Sp} {H : List Int} (h : chkS C = 0) (h2 : chkS L ≠ 0) : chkH C L H = chkS L := by rw [chkH, if_neg (by simp [h]), if_pos h2]
theorem chkH_3 {C L : List Sp} {H : List Int} (h : chkS C = 0) (h2 : chkS L = 0) (h3 : H.all inG = false) : chkH C L H = 7 := by
  rw [chkH, if_neg (by simp [h]), if_neg (by simp [h2]), if_pos h3]
theorem chkH_4 {C L : List Sp} {H : List Int} (h : chkS C = 0) (h2 : chkS L = 0) (h3 : H.all inG = true) (h4 : subF L C = false) : chkH C L H = 6 := by
  rw [chkH, if_neg (by simp [h]), if_neg (by simp [h2]), if_neg (by simp [h3]), if_pos h4]
theorem chkH_5 {C L : List Sp} {H : List Int} (h : chkS C = 0) (h2 : chkS L = 0) (h3 : H.all inG = true) (h4 : subF L C = true) (h5 : hugOk C (-1) H = false) : chkH C L H = 6 := by
  rw [chkH, if_neg (by simp [h]), if_neg (by simp [h2]), if_neg (by simp [h3]), if_neg (by simp [h4]), if_pos h5]
theorem OpenR.err {w w' : World} {C L : List Sp} {H : List Int} {er : Int} (hb : Below w.heap.size w w') (h : chkH C L H = er) (he : er ≠ 0) :
    OpenR w C L H (.returned (.tuple #[.pointer none, .int .i64 er])) w' := ⟨hb, fun _ => by rw [h], fun h0 => absurd (h.symm.trans h0) he⟩
/-- it returns behind two statements -/
theorem leave_mark2 {P : Program} {fn : Func} {tmps : Array Value} {w : World} {R : Ending → World → Prop} {D E : Nat} {v : Value} (hne : D ≠ E) (hd : w.heap[D]? = some (.deferred (some [])))
    (he : w.heap[E]? = some (.deferred (some [])))
    (hres : (results fn tmps).run P ((w.putObj E (.deferred none)).putObj D (.deferred none)) = .ok v ((w.putObj E (.deferred none)).putObj D (.deferred none))) (hR : R (.returned v) ((w.putObj E (.deferred none)).putObj D (.deferred none))) :
    bodyPostM Fence.wide 0 P fn R .ret { tmps := tmps, defers := [markOf E, markOf D] } w :=
  ⟨by simp, .inl ⟨_, _, rfl, run_takeDeferred he, by simp, .inl ⟨_, _, rfl, run_takeDeferred ((World.putObj_heap_other hne).trans hd), v, hres, hR⟩⟩⟩

theorem zeroStrip : strip 11 Tryz.zeroCells201.toList = some (List.replicate 64 [Value.int .i64 0, .int .i64 0, .int .i64 0, .bool false]).flatten := by kernel_rfl
theorem flat4_get {a b c d : Value} : ∀ (n g r : Nat), g < n → r < 4 → (List.replicate n [a, b, c, d]).flatten[g * 4 + r]? = [a, b, c, d][r]?
  | 0, g, _, h, _ => by omega
  | n + 1, 0, r, _, hr => by
    rw [List.replicate_succ, List.flatten_cons, List.getElem?_append_left (by simp; omega)]; simp
  | n + 1, g + 1, r, h, hr => by
    rw [List.replicate_succ, List.flatten_cons, List.getElem?_append_right (by simp; omega)]
    rw [show (g + 1) * 4 + r - [a, b, c, d].length = g * 4 + r by simp; omega]
    exact flat4_get n g r (by omega) hr
theorem flat4_len {a b c d : Value} : ∀ (n : Nat), (List.replicate n [a, b, c, d]).flatten.length = n * 4
  | 0 => rfl
  | n + 1 => by rw [List.replicate_succ, List.flatten_cons, List.length_append, flat4_len n]; simp; omega
theorem zeroLook : LookIs Tryz.zeroCells201 (fun _ => false) (fun _ => false) (fun _ => 0) (fun _ => 0) (fun _ => 0) (fun _ => false) := by
  have e := strip_spec _ _ _ zeroStrip
  obtain ⟨zc, hzc⟩ : ∃ zc, Tryz.zeroCells201 = zc := ⟨_, rfl⟩
  rw [hzc] at e ⊢
  clear hzc
  have hl : (List.replicate (2 ^ 11) (Value.bool false)).length = 2048 := by rw [List.length_replicate]
  have hlow : ∀ q, q < 2048 → zc[q]? = some (.bool false) := fun q hq => by
    rw [← Array.getElem?_toList, e, List.getElem?_append_left (by rw [hl]; exact hq), List.getElem?_replicate, if_pos hq]
  have hhigh : ∀ g r, g < 64 → r < 4 → zc[2048 + g * 4 + r]? = [Value.int .i64 0, .int .i64 0, .int .i64 0, .bool false][r]? := fun g r hg hr => by
    rw [← Array.getElem?_toList, e, List.getElem?_append_right (by rw [hl]; omega), hl, show 2048 + g * 4 + r - 2048 = g * 4 + r by omega]
    exact flat4_get 64 g r hg hr
  exact ⟨by rw [← Array.length_toList, e, List.length_append, hl, flat4_len], fun q hq => hlow _ (by omega), fun q hq => hlow _ (by omega), fun q hq => hhigh q 0 hq (by omega),
    fun q hq => hhigh q 1 hq (by omega), fun q hq => hhigh q 2 hq (by omega), fun q hq => hhigh q 3 hq (by omega)⟩

theorem page_nat {C : List Sp} (h : Go.Pol.Can C) {pre : List Int} {xa : Int} (hp : pre ++ [xa] <+: pagesOf C) : ∃ x : Nat, xa = (x : Int) ∧ x < 1024 := by
  have hm : xa ∈ pagesOf C := hp.subset (by simp)
  obtain ⟨h0, h1⟩ := h.range (mem_pagesOf.1 hm)
  exact ⟨xa.toNat, by omega, by omega⟩
theorem cntP_bound (pre : List Int) (g : Int) : 0 ≤ cntP pre g ∧ cntP pre g ≤ pre.length := by
  unfold cntP
  have := List.countP_le_length (p := fun p : Int => p / 16 == g) (l := pre)
  omega
theorem pre_len {C : List Sp} (h : Go.Pol.Can C) {pre : List Int} {xa : Int} (hp : pre ++ [xa] <+: pagesOf C) : pre.length < 1024 := by
  have h1 := hp.length_le
  have h2 := pieces_most (us := C) (size := 1)
  rw [← pieces_one h, List.length_map] at h1
  simp at h1
  omega
theorem take_snocI (us : List Int) (k : Nat) (h : k < us.length) : us.take (k + 1) = us.take k ++ [us.getD k 0] := by
  rw [List.take_add_one, List.getElem?_eq_getElem h, List.getD_eq_getElem?_getD, List.getElem?_eq_getElem h]; simp
theorem upd_mem (pre : List Int) (x : Nat) : upd (fun p : Nat => decide ((p : Int) ∈ pre)) x true = fun p : Nat => decide ((p : Int) ∈ pre ++ [(x : Int)]) := by
  funext p
  unfold upd
  by_cases h : p = x
  · subst h; simp
  · rw [if_neg h]
    have : ¬ ((p : Int) = (x : Int)) := by omega
    simp [this]
theorem upd_take (pre : List Int) (x : Nat) : upd (fun g : Nat => decide ((g : Int) ∈ pre)) x true = fun g : Nat => decide ((g : Int) ∈ pre ++ [(x : Int)]) := upd_mem pre x
theorem upd_num (q : Nat) : upd (fun g : Nat => if g < q then (g : Int) else 0) q (q : Int) = fun g : Nat => if g < q + 1 then (g : Int) else 0 := by
  funext g
  unfold upd
  by_cases h : g = q
  · subst h; rw [if_pos rfl, if_pos (by omega)]
  · rw [if_neg h]
    dsimp only
    by_cases h2 : g < q
    · rw [if_pos h2, if_pos (by omega)]
    · rw [if_neg h2, if_neg (by omega)]
theorem _root_.Go.Pol.LookIs.congr_nm {cs : Array Value} {cm lv : Nat → Bool} {nm gc gl f : Nat → Int} {gh : Nat → Bool} (h : LookIs cs cm lv nm gc gl gh) (hf : ∀ g, g < 64 → nm g = f g) : LookIs cs cm lv f gc gl gh :=
  ⟨h.size, h.cm, h.lv, fun q hq => by rw [h.nm q hq, hf q hq], h.gc, h.gl, h.gh⟩
/-- the huge group ahead of number k -/
def prevH (H : List Int) (k : Nat) : Int := if k = 0 then -1 else H.getD (k - 1) 0
theorem upd_cnt {pre : List Int} {x q : Nat} (h : x / 16 = q) : upd (fun g : Nat => cntP pre (g : Int)) q (cntP pre (q : Int) + 1) = fun g : Nat => cntP (pre ++ [(x : Int)]) (g : Int) := by
  funext g
  unfold upd
  rw [cntP_snoc]
  by_cases hg : g = q
  · subst hg; rw [if_pos rfl, if_pos (by omega)]
  · rw [if_neg hg, if_neg (by omega), Int.add_zero]
theorem farI {D bk : Nat} {w4 A B : World} {X : Nat → Prop} {cm lv : Nat → Bool} {nm gc gl : Nat → Int} {gh : Nat → Bool} (hb : bk < D) (hD : w4.heap.size = D)
    (h : (∀ k, X k → D ≤ k) ∧ Far (fun k => k = bk) w4 A ∧ ∃ cs, Blk A bk 201 cs ∧ LookIs cs cm lv nm gc gl gh)
    (hf : Far (fun k => False ∨ X k ∨ k = w4.heap.size ∨ k = w4.heap.size + 1) A B) :
    (∀ k, X k → D ≤ k) ∧ Far (fun k => k = bk) w4 B ∧ ∃ cs, Blk B bk 201 cs ∧ LookIs cs cm lv nm gc gl gh := by
  obtain ⟨h1, h2, cs, h3, h4⟩ := h
  refine ⟨h1, h2.trans' hf (fun i hi h' => ?_), cs, hf.blk h3 ?_, h4⟩
  · rcases h' with h' | h' | h' | h'
    · exact h'.elim
    · have := h1 _ h'; omega
    · omega
    · omega
  · rintro (h' | h' | h' | h')
    · exact h'
    · have := h1 _ h'; omega
    · omega
    · omega

theorem newCell2 (w : World) (t : TypeId) (v u : Value) : Blk (w.alloc (.cells #[v, u] t)) w.heap.size t #[v, u] ∧ Below w.heap.size w (w.alloc (.cells #[v, u] t)) :=
  ⟨Blk.new w t #[v, u], (Below.refl w.heap.size w).alloc (Nat.le_refl _) _⟩
set_option maxRecDepth 100000 in
set_option maxHeartbeats 3200000 in
theorem open_any (A1 A2 A3 : Option Addr) (n1 c1 n2 c2 n3 c3 : Nat) (C L : List Sp) (H : List Int) (w : World) (hn1 : C.length = n1) (hm1 : n1 ≤ maxLen) (hr1 : RU w w.heap.size A1 C)
    (hn2 : L.length = n2) (hm2 : n2 ≤ maxLen) (hr2 : RU w w.heap.size A2 L) (hn3 : H.length = n3) (hm3 : n3 ≤ maxLen) (hr3 : RI w w.heap.size A3 H) :
    Calls Tryz.prog 106 #[.agg #[.slice A1 n1 c1, .slice A2 n2 c2, .slice A3 n3 c3]] w (OpenR w C L H) := by
  obtain ⟨s, hs⟩ : ∃ s, w.heap.size = s := ⟨_, rfl⟩
  obtain ⟨W0, hW0⟩ : ∃ W0, ((w.alloc (.cells #[.slice A1 n1 c1, .slice A2 n2 c2, .slice A3 n3 c3] 94)).alloc (.cells #[.pointer none] 191)).alloc (.cells #[.int .i64 0] 35) = W0 := ⟨_, rfl⟩
  have hs0 : W0.heap.size = s + 3 := by rw [← hW0, ← hs]; simp
  have hb0 : Below s w W0 := by rw [← hW0, ← hs]; exact (((Below.refl w.heap.size w).alloc (Nat.le_refl _) _).alloc (by simp) _).alloc (by simp; omega) _
  have kH : Blk W0 s 94 #[.slice A1 n1 c1, .slice A2 n2 c2, .slice A3 n3 c3] := by rw [← hW0, ← hs]; exact ((Blk.new _ _ _).alloc _).alloc _
  have kR : Blk W0 (s + 1) 191 #[.pointer none] := by
    rw [← hW0, ← hs]; have := Blk.new (w.alloc (.cells #[.slice A1 n1 c1, .slice A2 n2 c2, .slice A3 n3 c3] 94)) 191 #[.pointer none]
    rw [World.size_alloc] at this; exact this.alloc _
  have kE : Blk W0 (s + 2) 35 #[.int .i64 0] := by
    rw [← hW0, ← hs]; have := Blk.new ((w.alloc (.cells #[.slice A1 n1 c1, .slice A2 n2 c2, .slice A3 n3 c3] 94)).alloc (.cells #[.pointer none] 191)) 35 #[.int .i64 0]
    simp only [World.size_alloc] at this; exact this
  have r1 : RU W0 W0.heap.size A1 C := hr1.on (by rw [hs]; exact hb0)
  have r2 : RU W0 W0.heap.size A2 L := hr2.on (by rw [hs]; exact hb0)
  have r3 : RI W0 W0.heap.size A3 H := (hr3.below (by rw [hs]; exact hb0)).more (by omega)
  have hW1 := Lib.hid hW0
  have cH := kH.cell
  clear hW0 hr1
  refine calls_of_marks Tryz.func106 rfl ?_
  simp only [Tryz.ntmps106, List.size_toArray, List.length_cons, List.length_nil, Nat.reduceAdd, Nat.reduceSub, Array.replicate_succ, Array.replicate_zero, List.push_toArray, List.append_toArray, List.nil_append, List.cons_append]
  go_upto_region 1 with fail
  simp only [Nat.add_assoc, Nat.reduceAdd]
  rw [hW1.out]
  clear hW1
  go_wp2_with fail
  have hbs := (newCell2 W0 22 (.slice A1 n1 c1) (.slice A2 n2 c2))
  obtain ⟨kS, hbS⟩ := hbs
  have hsS : (W0.alloc (.cells #[.slice A1 n1 c1, .slice A2 n2 c2] 22)).heap.size = s + 4 := by rw [World.size_alloc, hs0]
  generalize W0.alloc (.cells #[.slice A1 n1 c1, .slice A2 n2 c2] 22) = W1 at *
  rw [hs0] at kS
  have kH1 := kH.call hbS
  have kR1 := kR.call hbS
  have kE1 := kE.call hbS
  have r11 := r1.on hbS
  have r21 := r2.on hbS
  have r31 := (r3.below hbS).more hbS.size
  have B1 : Below s w W1 := hb0.trans (hbS.mono (by omega))
  clear kH kR kE r1 r2 r3 hbS hb0 hs0 cH
  go_loopw [19] (fun i wr => ∃ k : Nat, k ≤ 2 ∧ i = .int .i64 k ∧ Below W1.heap.size W1 wr ∧ (1 ≤ k → chkS C = 0) ∧ (2 ≤ k → chkS L = 0)) (fun i _ => 2 - (intOf i).toNat)
  case atStart => exact ⟨0, by omega, rfl, Below.refl _ _, by omega, by omega⟩
  case round =>
    obtain ⟨k, hk, rfl, hB, hC0, hL0⟩ := hrel
    have kSr := kS.call hB
    have cS := kSr.cell
    have hB1 := B1.trans (hB.mono (by omega))
    have hsz := hB.size
    have kRr := kR1.call hB
    have kEr := kE1.call hB
    have hCC := Lib.hid (fun W h => spCheck_any A1 n1 c1 C W hn1 hm1 h)
    have hLL := Lib.hid (fun W h => spCheck_any A2 n2 c2 L W hn2 hm2 h)
    by_cases hk0 : k = 0
    · subst hk0
      by_cases hz : chkS C = 0
      · as_aux_lemma =>
          rw [hz] at hCC
          have hz' := Lib.hid hz
          clear hz
          go_wp2_with fail
          refine (hCC.out _ (r11.on hB)).mono ?_
          rintro e w2 ⟨rfl, hb2⟩
          go_wp2_with fail
          go_roundw
          case rel => exact ⟨1, by omega, rfl, hB.trans (hb2.mono hB.size), fun _ => hz'.out, by omega⟩
          case measure => simp [intOf]
      · as_aux_lemma =>
          have hE := Lib.hid (chkH_1 (L := L) (H := H) hz)
          have hz' : (chkS C != 0) = true := by simpa using hz
          have hz2 := Lib.hid hz
          clear hz
          generalize chkS C = er at *
          go_wp2_with fail
          refine (hCC.out _ (r11.on hB)).mono ?_
          rintro e w2 ⟨rfl, hb2⟩
          have cR2 := (kRr.call hb2).cell
          have cE2 := (kEr.call hb2).cell
          have fR2 := (kRr.call hb2).frozen
          have fE2 := (kEr.call hb2).frozen
          go_wp2_with fail
          obtain ⟨k2, k3, hf2⟩ := two_set (by omega) (kRr.call hb2) (kEr.call hb2) (.pointer none) (.int .i64 er)
          have hB2 := (hB1.trans (hb2.mono (by have := hB1.size; omega))).trans (hf2.below (by have := hb2.size; omega) (fun k hk => by omega))
          have c6 := k2.cell
          have c7 := k3.cell
          exact leave_none (v := .tuple #[.pointer none, .int .i64 er]) (by simp [results, Tryz.results106, go_sem, c6, c7]) (OpenR.err (by rw [hs]; exact hB2) hE.out hz2.out)
    · by_cases hk1 : k = 1
      · subst hk1
        by_cases hz : chkS L = 0
        · as_aux_lemma =>
            rw [hz] at hLL
            have hz' := Lib.hid hz
            clear hz
            go_wp2_with fail
            refine (hLL.out _ (r21.on hB)).mono ?_
            rintro e w2 ⟨rfl, hb2⟩
            go_wp2_with fail
            go_roundw
            case rel => exact ⟨2, by omega, rfl, hB.trans (hb2.mono hB.size), fun _ => hC0 (by omega), fun _ => hz'.out⟩
            case measure => simp [intOf]
        · as_aux_lemma =>
            have hE := Lib.hid (chkH_2 (H := H) (hC0 (by omega)) hz)
            have hz' : (chkS L != 0) = true := by simpa using hz
            have hz2 := Lib.hid hz
            clear hz
            generalize chkS L = er at *
            go_wp2_with fail
            refine (hLL.out _ (r21.on hB)).mono ?_
            rintro e w2 ⟨rfl, hb2⟩
            have cR2 := (kRr.call hb2).cell
            have cE2 := (kEr.call hb2).cell
            have fR2 := (kRr.call hb2).frozen
            have fE2 := (kEr.call hb2).frozen
            go_wp2_with fail
            obtain ⟨k2, k3, hf2⟩ := two_set (by omega) (kRr.call hb2) (kEr.call hb2) (.pointer none) (.int .i64 er)
            have hB2 := (hB1.trans (hb2.mono (by have := hB1.size; omega))).trans (hf2.below (by have := hb2.size; omega) (fun k hk => by omega))
            have c6 := k2.cell
            have c7 := k3.cell
            exact leave_none (v := .tuple #[.pointer none, .int .i64 er]) (by simp [results, Tryz.results106, go_sem, c6, c7]) (OpenR.err (by rw [hs]; exact hB2) hE.out hz2.out)
      · obtain rfl : k = 2 := by omega
        have hC := Lib.hid (hC0 (by omega))
        have hL := Lib.hid (hL0 (by omega))
        clear hC0 hL0 hCC hLL kSr cS hk0 hk1 hk
        have kHr := kH1.call hB
        have cHr := kHr.cell
        have HI := Lib.hid (containsI_any (fun x => !inG x) 167 #[] A3 n3 c3 H wr hn3 hm3 ((r31.below hB).more hB.size) (enters_of Tryz.func167 (by kernel_rfl) rfl) (fun x _ W _ => (open1_any x W).mono (fun e W' h => ⟨h.1, by rw [h.2]; exact Below.refl _ _⟩)))
        by_cases hG : (H.any fun x => !inG x) = true
        · as_aux_lemma =>
            have hE := Lib.hid (chkH_3 (H := H) hC.out hL.out (by rw [← Bool.not_eq_true, List.all_eq_true]; intro h; obtain ⟨x, hx, h2⟩ := List.any_eq_true.1 hG; rw [h x hx] at h2; cases h2))
            have hz2 := Lib.hid (show (7 : Int) ≠ 0 by decide)
            rw [hG] at HI
            clear hG
            go_wp2_with fail
            refine HI.out.mono ?_
            rintro e w2 ⟨rfl, hb2⟩
            have cR2 := (kRr.call hb2).cell
            have cE2 := (kEr.call hb2).cell
            have fR2 := (kRr.call hb2).frozen
            have fE2 := (kEr.call hb2).frozen
            go_wp2_with fail
            obtain ⟨k2, k3, hf2⟩ := two_set (by omega) (kRr.call hb2) (kEr.call hb2) (.pointer none) (.int .i64 7)
            have hB2 := (hB1.trans (hb2.mono (by have := hB1.size; omega))).trans (hf2.below (by have := hb2.size; omega) (fun k hk => by omega))
            have c6 := k2.cell
            have c7 := k3.cell
            exact leave_none (v := .tuple #[.pointer none, .int .i64 7]) (by simp [results, Tryz.results106, go_sem, c6, c7]) (OpenR.err (by rw [hs]; exact hB2) hE.out hz2.out)
        have hG2 := Lib.hid (show H.all inG = true by rw [List.all_eq_true]; intro x hx; cases h : inG x with | true => rfl | false => exact absurd (List.any_eq_true.2 ⟨x, hx, by rw [h]; rfl⟩) hG)
        rw [show (H.any fun x => !inG x) = false by simpa using hG] at HI
        clear hG
        go_wp2_with fail
        refine HI.out.mono ?_
        rintro e w2 ⟨rfl, hb2⟩
        have B2 := hB1.trans (hb2.mono (by have := hB1.size; omega))
        have kR2 := kRr.call hb2
        have kE2 := kEr.call hb2
        have kH2 := kHr.call hb2
        have x1 := (r11.on hB).on hb2
        obtain ⟨bk, hbk⟩ : ∃ bk, w2.heap.size = bk := ⟨_, rfl⟩
        obtain ⟨W3, hW3⟩ : ∃ W3, (w2.alloc (.cells Tryz.zeroCells201 201)).alloc (.cells #[.pointer (some ⟨w2.heap.size, 0, none⟩)] 191) = W3 := ⟨_, rfl⟩
        have hb3 : Below w2.heap.size w2 W3 := by rw [← hW3]; exact ((Below.refl _ _).alloc (Nat.le_refl _) _).alloc (by simp) _
        have hs3 : W3.heap.size = bk + 2 := by rw [← hW3, ← hbk]; simp
        have kL3 : ∃ cs, Blk W3 bk 201 cs ∧ LookIs cs (fun _ => false) (fun _ => false) (fun _ => 0) (fun _ => 0) (fun _ => 0) (fun _ => false) := ⟨_, by rw [← hW3, ← hbk]; exact (Blk.new _ _ _).alloc _, zeroLook⟩
        have kP3 : Blk W3 (bk + 1) 191 #[.pointer (some ⟨bk, 0, none⟩)] := by
          rw [← hW3, ← hbk]; have := Blk.new (w2.alloc (.cells Tryz.zeroCells201 201)) 191 #[.pointer (some ⟨w2.heap.size, 0, none⟩)]
          rw [World.size_alloc] at this; exact this
        have B3 := B2.trans (hb3.mono (by have := B2.size; omega))
        have kR3 := kR2.call hb3
        have kE3 := kE2.call hb3
        have kH3 := kH2.call hb3
        have y1 := x1.on hb3
        have cH3 := kH3.cell
        have hW3' := Lib.hid hW3
        have hsb : s + 4 ≤ bk := by have := hb2.size; omega
        clear kR2 kE2 kH2 x1 hb3 B2 kRr kEr kHr HI hsz hB1 hB hW3 r11 r21 r31 cHr kH1 kR1 kE1 kS hsS
        go_upto_region 11 with fail
        have hW4 := hW3'.out
        rw [hbk] at hW4
        rw [hW4]
        clear hW3' hW4 hbk
        have canC := chkS_zero.1 hC.out
        have canL := chkS_zero.1 hL.out
        have T1 := Lib.hid (pagesTop_any A1 n1 c1 C W3 hn1 (by have := canC.len; omega) y1)
        rw [show fsts (piecesF C 1) = pagesOf C from pieces_one canC] at T1
        go_wp2_with fail
        refine T1.out.mono ?_
        rintro e w4 ⟨lb, K4, rfl, hsq, hK4, hb4⟩
        have hs4 := hb4.size
        have B4 := B3.trans (hb4.mono (by omega))
        have kL4 : ∃ cs, Blk w4 bk 201 cs ∧ LookIs cs (fun _ => false) (fun _ => false) (fun _ => 0) (fun _ => 0) (fun _ => 0) (fun _ => false) := by
          obtain ⟨cs, h1, h2⟩ := kL3; exact ⟨cs, h1.call hb4, h2⟩
        have kP4 := kP3.call hb4
        have kR4 := kR3.call hb4
        have kE4 := kE3.call hb4
        have kH4 := kH3.call hb4
        have hKs : ∀ k, K4 k → bk + 2 ≤ k ∧ k < w4.heap.size := fun k h => by have := hK4 k h; omega
        clear T1 hb4 kL3 kP3 kR3 kE3 kH3 y1 hK4 B3 cH3
        obtain ⟨D, hD⟩ : ∃ D, w4.heap.size = D := ⟨_, rfl⟩
        rw [hD] at hKs hs4
        go_wp2_with fail
        refine rangeYI 8 37 (gf := 208) (lb := lb) rfl pages_enters hsq rfl (fun _ h => h.elim) (fun k h => by have := hKs k h; omega)
          (fun X pre W => (∀ k, X k → D ≤ k) ∧ Far (fun k => k = bk) w4 W ∧ ∃ cs, Blk W bk 201 cs ∧ LookIs cs (fun p => decide ((p : Int) ∈ pre)) (fun _ => false) (fun _ => 0) (fun g => cntP pre (g : Int)) (fun _ => 0) (fun _ => false))
          (fun _ _ _ _ => False)
          (fun X pre A B h hf => farI (by omega) hD h hf) (fun _ _ _ _ _ h _ => h.elim)
          (fun X X' pre A h hX => ⟨fun k hk => (hX k hk).elim (h.1 k) (fun h' => by have := h.2.1.size; omega), h.2⟩)
          ⟨fun _ h => h.elim, Far.refl _ _, by obtain ⟨cs, h1, h2⟩ := kL4; exact ⟨cs, h1, by simpa [cntP] using h2⟩⟩ ?assign ?body ?done (fun _ _ _ _ _ _ h _ => h.elim)
        case assign =>
          intro m l x W C hC
          simp only [List.setIfInBounds_toArray, List.set_cons_succ, List.set_cons_zero] at hC ⊢
          gi_wp2
          exact hC
        case body =>
          as_aux_lemma =>
            rintro m l X pre xa Wa W hsz hXlt ⟨hX, hF, cs, kL, hcs⟩ hpre hBa
            simp only [List.setIfInBounds_toArray, List.set_cons_succ, List.set_cons_zero]
            obtain ⟨x, rfl, hx⟩ := page_nat canC hpre
            have hcb := cntP_bound pre ((x / 16 : Nat) : Int)
            have hpl := pre_len canC hpre
            have kPw := hF.blk kP4 (by omega)
            have cP := kPw.cell
            have fL := kL.frozen
            have c0 := (kL.cell (x * 2)).trans (hcs.cm x hx)
            gi_upto_region 14 with fail
            have hf1 : Far (fun k => k = bk) W (W.setCell ⟨bk, x * 2, none⟩ (.bool true)) := Far.setCell (T := fun k => k = bk) (p := ⟨bk, x * 2, none⟩) (Far.refl _ _) (fun _ => rfl) _
            have kL5 : Blk (W.setCell ⟨bk, x * 2, none⟩ (.bool true)) bk 201 _ := kL.set_ (x * 2) (.bool true)
            have hcs5 := hcs.cm_ hx true
            have kP5 := hf1.blk kPw (by omega)
            clear cP fL c0 kL kPw hcs
            generalize W.setCell ⟨bk, x * 2, none⟩ (.bool true) = W5 at *
            generalize cs.setIfInBounds (x * 2) (.bool true) = cs5 at *
            have hq1 : x / 16 < 64 := by omega
            obtain ⟨q, hq⟩ : ∃ q, x / 16 = q := ⟨_, rfl⟩
            have hq' : ((x : Int) / 16) = (q : Int) := by omega
            rw [hq] at hcb hq1
            have hgc := hcs5.gc q hq1
            obtain ⟨v, hv⟩ : ∃ v, cntP pre (q : Int) = v := ⟨_, rfl⟩
            rw [hv] at hcb
            have hcell : ∀ z : Ext W5, z.w.cell? ⟨bk, 2048 + q * 4 + 1, none⟩ = some (.int .i64 v) := fun z => by rw [← hv]; exact ((z.blk kL5).cell _).trans hgc
            have hptr : ∀ z : Ext W5, _ := fun z => (z.blk kP5).cell
            refine region_tail_round 13 (by kernel_rfl) (by kernel_rfl) ?hlo1 (by kernel_rfl) ?_
            case hlo1 => rintro ⟨a, w, h⟩; exact h
            simp only [List.take_succ_cons, List.take_zero, List.drop_succ_cons, List.drop_zero]
            repeat (go_big_quiet_step (fail))
            refine wpQuiet_nil ?_
            intro z
            have kLz := z.blk kL5
            have fz := kLz.frozen
            have cz := hcell z
            clear hcell hptr
            go_wp2_with fail
            have hf2 : Far (fun k => k = bk) W5 (z.w.setCell ⟨bk, 2048 + q * 4 + 1, none⟩ (.int .i64 (v + 1))) := Far.setCell (T := fun k => k = bk) (p := ⟨bk, 2048 + q * 4 + 1, none⟩) (.of_below z.le) (fun _ => rfl) _
            have hf := hf1.trans hf2
            refine ⟨hf.mono fun k _ h => ?_, hX, hF.trans hf, _, kLz.set_ (2048 + q * 4 + 1) (.int .i64 (v + 1)), ?_⟩
            · rintro (h' | h' | h' | h')
              · have := hKs k h'; omega
              · have := hX k h'; omega
              · omega
              · omega
            · have := hcs5.gc_ hq1 (v + 1)
              rw [upd_mem, ← hv, upd_cnt hq] at this
              rw [← hv]; exact this
        case done =>
          as_aux_lemma =>
            rintro X W hsz ⟨hX, hF, cs, kL, hcs⟩ hd
            rw [hD] at hd hsz
            have hcs2 : LookIs cs (fun p => mem (p : Int) C) (fun _ => false) (fun _ => 0) (fun g => grpF C (g : Int)) (fun _ => 0) (fun _ => false) := by
              have e1 : (fun p : Nat => decide ((p : Int) ∈ pagesOf C)) = fun p : Nat => mem (p : Int) C := by
                funext p; rw [Bool.eq_iff_iff]; simp [mem_pagesOf]
              have e2 : (fun g : Nat => cntP (pagesOf C) (g : Int)) = fun g : Nat => grpF C (g : Int) := by funext g; exact cntP_pages canC _
              rw [← e1, ← e2]; exact hcs
            have kP5 := hF.blk kP4 (by omega)
            have kR5 := hF.blk kR4 (by omega)
            have kE5 := hF.blk kE4 (by omega)
            have kH5 := hF.blk kH4 (by omega)
            have B5 := B4.trans (hF.below (by omega) (fun k hk => by omega))
            have cH5 := kH5.cell
            have T2 := Lib.hid (pagesTop_any A2 n2 c2 L W hn2 (by have := canL.len; omega) (hr2.on (by rw [hs]; exact B5)))
            rw [show fsts (piecesF L 1) = pagesOf L from pieces_one canL] at T2
            clear kP4 kR4 kE4 kH4 hsq kL4 hcs hF B4 hX hKs
            rw [hD]
            clear hD
            go_wp2_with fail
            refine T2.out.mono ?_
            rintro e w6 ⟨lb2, K6, rfl, hsq, hK6, hb6⟩
            have hs6 := hb6.size
            have B6 := B5.trans (hb6.mono (by omega))
            have kL6 := kL.call hb6
            have kP6 := kP5.call hb6
            have kR6 := kR5.call hb6
            have kE6 := kE5.call hb6
            have kH6 := kH5.call hb6
            have d6 := (hb6.block D (by omega)).trans hd
            obtain ⟨E, hE⟩ : ∃ E, w6.heap.size = E := ⟨_, rfl⟩
            have hKs : ∀ k, K6 k → D + 2 ≤ k ∧ k < E := fun k h => by have := hK6 k h; omega
            have hDE : D + 2 ≤ E := by omega
            clear T2 hb6 kL kP5 kR5 kE5 kH5 hd cH5 hK6 B5
            go_wp2_with fail
            refine rangeYI 9 60 (gf := 208) (lb := lb2) rfl pages_enters hsq rfl (fun _ h => h.elim) (fun k h => by have := hKs k h; omega)
              (fun X pre W => (∀ p ∈ pre, mem p C = true) ∧ (∀ k, X k → E ≤ k) ∧ Far (fun k => k = bk) w6 W ∧ ∃ cs, Blk W bk 201 cs ∧ LookIs cs (fun p => mem (p : Int) C) (fun p => decide ((p : Int) ∈ pre)) (fun _ => 0) (fun g => grpF C (g : Int)) (fun g => cntP pre (g : Int)) (fun _ => false))
              (fun c X pre W => (∀ k, X k → E ≤ k) ∧ c = .ret ∧ subF L C = false ∧ Blk W (s + 1) 191 #[.pointer none] ∧ Blk W (s + 2) 35 #[.int .i64 6] ∧ Far (fun k => k = bk ∨ k = s + 1 ∨ k = s + 2) w6 W)
              (fun X pre A B h hf => ⟨h.1, farI (by omega) hE h.2 hf⟩)
              (fun c X pre A B h hf => by
                obtain ⟨h1, h2, h3, h4, h5, h6⟩ := h
                refine ⟨h1, h2, h3, hf.blk h4 ?_, hf.blk h5 ?_, h6.trans' hf (fun i hi h' => ?_)⟩
                · rintro (h' | h' | h' | h')
                  · exact h'
                  · have := h1 _ h'; omega
                  · omega
                  · omega
                · rintro (h' | h' | h' | h')
                  · exact h'
                  · have := h1 _ h'; omega
                  · omega
                  · omega
                · rcases h' with h' | h' | h' | h'
                  · exact h'.elim
                  · have := h1 _ h'; omega
                  · omega
                  · omega)
              (fun X X' pre A h hX => ⟨h.1, fun k hk => (hX k hk).elim (h.2.1 k) (fun h' => by have := h.2.2.1.size; omega), h.2.2⟩)
              ⟨fun _ h => (by simp at h), fun _ h => h.elim, Far.refl _ _, cs, kL6, by simpa [cntP] using hcs2⟩ ?assign2 ?body2 ?done2 ?stop2
            case assign2 =>
              intro m l x W C hC
              simp only [List.setIfInBounds_toArray, List.set_cons_succ, List.set_cons_zero] at hC ⊢
              gi_wp2
              exact hC
            case body2 =>
              rintro m l X pre xa Wa W hsz hXlt ⟨hm, hX, hF, cs, kL, hcs⟩ hpre hBa
              simp only [List.setIfInBounds_toArray, List.set_cons_succ, List.set_cons_zero]
              obtain ⟨x, rfl, hx⟩ := page_nat canL hpre
              have hxm : (x : Int) ∈ pagesOf L := hpre.subset (by simp)
              have kPw := hF.blk kP6 (by omega)
              have cP := kPw.cell
              have c0 := (kL.cell (x * 2)).trans (hcs.cm x hx)
              by_cases hmc : mem (x : Int) C = true
              case neg =>
                as_aux_lemma =>
                  have hmc' : mem (x : Int) C = false := by simpa using hmc
                  have hsub : subF L C = false := by
                    cases h : subF L C with
                    | false => rfl
                    | true => exact absurd ((subF_iff canL).1 h _ hxm) hmc
                  rw [hmc'] at c0
                  have kRw := hF.blk kR6 (by omega)
                  have kEw := hF.blk kE6 (by omega)
                  have cR := kRw.cell
                  have cE := kEw.cell
                  have fR := kRw.frozen
                  have fE := kEw.frozen
                  clear hmc hmc'
                  gi_wp2_with fail
                  obtain ⟨k2, k3, hf2⟩ := two_set (by omega) kRw kEw (.pointer none) (.int .i64 6)
                  refine ⟨hf2.mono fun k _ h => ?_, hX, rfl, hsub, k2, k3, (hF.mono fun _ _ h => .inl h).trans (hf2.mono fun _ _ h => .inr h)⟩
                  rintro (h' | h' | h' | h')
                  · have := hKs k h'; omega
                  · have := hX k h'; omega
                  · omega
                  · omega
              case pos =>
                as_aux_lemma =>
                  rw [hmc] at c0
                  have hcb := cntP_bound pre ((x / 16 : Nat) : Int)
                  have hpl := pre_len canL hpre
                  have fL := kL.frozen
                  have c1 := (kL.cell (x * 2 + 1)).trans (hcs.lv x hx)
                  gi_upto_region 20 with fail
                  have hf1 : Far (fun k => k = bk) W (W.setCell ⟨bk, x * 2 + 1, none⟩ (.bool true)) := Far.setCell (T := fun k => k = bk) (p := ⟨bk, x * 2 + 1, none⟩) (Far.refl _ _) (fun _ => rfl) _
                  have kL5 : Blk (W.setCell ⟨bk, x * 2 + 1, none⟩ (.bool true)) bk 201 _ := kL.set_ (x * 2 + 1) (.bool true)
                  have hcs5 := hcs.lv_ hx true
                  have kP5 := hf1.blk kPw (by omega)
                  clear cP fL c0 c1 kL kPw hcs
                  generalize W.setCell ⟨bk, x * 2 + 1, none⟩ (.bool true) = W5 at *
                  generalize cs.setIfInBounds (x * 2 + 1) (.bool true) = cs5 at *
                  have hq1 : x / 16 < 64 := by omega
                  obtain ⟨q, hq⟩ : ∃ q, x / 16 = q := ⟨_, rfl⟩
                  have hq' : ((x : Int) / 16) = (q : Int) := by omega
                  rw [hq] at hcb hq1
                  have hgc := hcs5.gl q hq1
                  obtain ⟨v, hv⟩ : ∃ v, cntP pre (q : Int) = v := ⟨_, rfl⟩
                  rw [hv] at hcb
                  have hcell : ∀ z : Ext W5, z.w.cell? ⟨bk, 2048 + q * 4 + 2, none⟩ = some (.int .i64 v) := fun z => by rw [← hv]; exact ((z.blk kL5).cell _).trans hgc
                  have hptr : ∀ z : Ext W5, _ := fun z => (z.blk kP5).cell
                  refine region_tail_round 13 (by kernel_rfl) (by kernel_rfl) ?hlo2 (by kernel_rfl) ?_
                  case hlo2 => rintro ⟨a, w, h⟩; exact h
                  simp only [List.take_succ_cons, List.take_zero, List.drop_succ_cons, List.drop_zero]
                  repeat (go_big_quiet_step (fail))
                  refine wpQuiet_nil ?_
                  intro z
                  have kLz := z.blk kL5
                  have fz := kLz.frozen
                  have cz := hcell z
                  clear hcell hptr
                  go_wp2_with fail
                  have hf2 : Far (fun k => k = bk) W5 (z.w.setCell ⟨bk, 2048 + q * 4 + 2, none⟩ (.int .i64 (v + 1))) := Far.setCell (T := fun k => k = bk) (p := ⟨bk, 2048 + q * 4 + 2, none⟩) (.of_below z.le) (fun _ => rfl) _
                  have hf := hf1.trans hf2
                  refine ⟨hf.mono fun k _ h => ?_, ?_, hX, hF.trans hf, _, kLz.set_ (2048 + q * 4 + 2) (.int .i64 (v + 1)), ?_⟩
                  · rintro (h' | h' | h' | h')
                    · have := hKs k h'; omega
                    · have := hX k h'; omega
                    · omega
                    · omega
                  · intro p hp
                    rcases List.mem_append.1 hp with h | h
                    · exact hm p h
                    · rw [List.mem_singleton.1 h]; exact hmc
                  · have := hcs5.gl_ hq1 (v + 1)
                    rw [upd_mem, ← hv, upd_cnt hq] at this
                    rw [← hv]; exact this
            case done2 =>
              as_aux_lemma =>
                rintro X W hsz ⟨hm, hX, hF, cs, kL, hcs⟩ hd
                rw [hE] at hd hsz
                have dD := hF.same d6 (by omega)
                have hsub := Lib.hid ((subF_iff canL).2 hm)
                have hcs3 := Lib.hid (show LookIs cs (fun p => mem (p : Int) C) (fun p => mem (p : Int) L) (fun _ => 0) (fun g => grpF C (g : Int)) (fun g => grpF L (g : Int)) (fun _ => false) by
                  have e1 : (fun p : Nat => decide ((p : Int) ∈ pagesOf L)) = fun p : Nat => mem (p : Int) L := by
                    funext p; rw [Bool.eq_iff_iff]; simp [mem_pagesOf]
                  have e2 : (fun g : Nat => cntP (pagesOf L) (g : Int)) = fun g : Nat => grpF L (g : Int) := by funext g; exact cntP_pages canL _
                  rw [← e1, ← e2]; exact hcs)
                have kP7 := hF.blk kP6 (by omega)
                have kR7 := hF.blk kR6 (by omega)
                have kE7 := hF.blk kE6 (by omega)
                have kH7 := hF.blk kH6 (by omega)
                have B7 := B6.trans (hF.below (by omega) (fun k hk => by omega))
                have cH7 := kH7.cell
                have r7 := RI.on hr3 (by rw [hs]; exact B7)
                clear kP6 kR6 kE6 kH6 d6 hsq hcs hF B6 hX hKs hm hsz hs6 hcs2 kL6
                rw [hE]
                clear hE
                have hst0 : Hid (hugOk C (-1) H = hugOk C (prevH H 0) (H.drop 0)) := Lib.hid rfl
                have hbE : bk < E := by omega
                have hbD : bk < D := by omega
                clear hs4
                have hm9 := hm3
                unfold maxLen at hm9
                go_wp2_with fail
                go_loopw [91] (fun i wr => ∃ (k : Nat) (ds : Array Value), k ≤ n3 ∧ i = .int .i64 k ∧ Far (fun k => k = bk) W wr ∧ Blk wr bk 201 ds ∧ Hid (LookIs ds (fun p => mem (p : Int) C) (fun p => mem (p : Int) L) (fun _ => 0) (fun g => grpF C (g : Int)) (fun g => grpF L (g : Int)) (fun g => decide ((g : Int) ∈ H.take k))) ∧ Hid (hugOk C (-1) H = hugOk C (prevH H k) (H.drop k))) (fun i _ => n3 - (intOf i).toNat)
                case atStart => exact ⟨0, cs, by omega, rfl, Far.refl _ _, kL, Lib.hid (by simpa using hcs3.out), hst0⟩
                case round =>
                  clear hst0 hcs3 kL
                  obtain ⟨k, ds, hk, rfl, hF, kL, hL3, hst⟩ := hrel
                  have kPr := hF.blk kP7 (by omega)
                  have kRr := hF.blk kR7 (by omega)
                  have kEr := hF.blk kE7 (by omega)
                  have kHr := hF.blk kH7 (by omega)
                  have dDr := hF.same dD (by omega)
                  have dEr := hF.same hd (by omega)
                  have Br := B7.trans (hF.below (by have := B7.size; omega) (fun k hk => by omega))
                  have cP := kPr.cell
                  have cH := kHr.cell
                  by_cases hlt : k < n3
                  · have hlt' : decide ((k : Int) < (n3 : Int)) = true := by simpa using hlt
                    have hst1 := hst.out
                    rw [Go.Pol.drop_cons 0 H k (by omega)] at hst1
                    have hin : inG (H.getD k 0) = true := List.all_eq_true.1 hG2.out _ (getD_memI (by omega))
                    have hpk : 0 < k → prevH H k = H.getD (k - 1) 0 := fun h => by rw [prevH, if_neg (by omega)]
                    have hp0 : k = 0 → prevH H k = -1 := fun h => by rw [prevH, if_pos h]
                    have hpn : prevH H (k + 1) = H.getD k 0 := by rw [prevH, if_neg (by omega)]; rfl
                    have htk : H.take (k + 1) = H.take k ++ [H.getD k 0] := take_snocI H k (by omega)
                    have r8 := RI.on hr3 (by rw [hs]; exact Br)
                    obtain ⟨b3, o3, e3, _, c3⟩ := r8.at_ (k := k) (by omega)
                    generalize H.getD k 0 = g at *
                    obtain ⟨gn, rfl⟩ : ∃ gn : Nat, g = (gn : Int) := ⟨g.toNat, by have := (inG_iff.1 hin).1; omega⟩
                    have hg64 : gn < 64 := by have := (inG_iff.1 hin).2; omega
                    have c4 := (kL.cell (2048 + gn * 4 + 1)).trans (hL3.out.gc gn hg64)
                    have hgb := grpF_bound C (gn : Int)
                    generalize hgv : grpF C (gn : Int) = gv at *
                    have hgv' := Lib.hid hgv
                    clear hgv
                    by_cases h16 : gv < 16
                    · as_aux_lemma =>
                        have h16' : decide (gv < 16) = true := by simpa using h16
                        have hbad := Lib.hid (chkH_5 hC.out hL.out hG2.out hsub.out (by rw [hst1, hugOk, hgv'.out, decide_eq_false (show ¬ (16 ≤ gv) by omega)]; rfl))
                        subst e3
                        clear h16
                        have cR := kRr.cell
                        have cE := kEr.cell
                        have fR := kRr.frozen
                        have fE := kEr.frozen
                        clear hst hst1 hL3 hpk hp0 hpn htk hin
                        go_wp2_with fail
                        obtain ⟨k2, k3, hf2⟩ := two_set (by omega) kRr kEr (.pointer none) (.int .i64 6)
                        have dD2 := hf2.same dDr (by omega)
                        have dE2 := hf2.same dEr (by omega)
                        have B8 := Br.trans (hf2.below (by have := Br.size; omega) (fun k hk => by omega))
                        generalize ((wr.setCell ⟨s + 1, 0, none⟩ (.pointer none)).setCell ⟨s + 2, 0, none⟩ (.int .i64 6)) = w9 at *
                        have hfp : Far (fun k => k = D ∨ k = E) w9 (World.putObj (World.putObj w9 E (.deferred none)) D (.deferred none)) := Far.putObj (T := fun k => k = D ∨ k = E) (Far.putObj (T := fun k => k = D ∨ k = E) (Far.refl _ _) (fun _ => .inr rfl) _) (fun _ => .inl rfl) _
                        have hB9 := (B8).trans (hfp.below (by have := (B8).size; omega) (fun k hk => by omega))
                        have c6 := (hfp.blk k2 (by omega)).cell
                        have c7 := (hfp.blk k3 (by omega)).cell
                        refine leave_mark2 (v := .tuple #[.pointer none, .int .i64 6]) (by omega) dD2 dE2 (by simp [results, Tryz.results106, go_sem, c6, c7]) ?_
                        exact OpenR.err (by rw [hs]; exact hB9) hbad.out (by decide)
                    have h16' : decide (gv < 16) = false := by simpa using h16
                    by_cases hk0 : k = 0
                    · as_aux_lemma =>
                        subst hk0
                        rw [Nat.add_zero] at c3
                        have hst2 := Lib.hid (show hugOk C (-1) H = hugOk C (prevH H (0 + 1)) (H.drop (0 + 1)) by
                          rw [hst1, hpn, hp0 rfl, hugOk, hgv'.out, decide_eq_true (show 16 ≤ gv by omega), decide_eq_true (show (-1 : Int) < (gn : Int) by omega)]; rfl)
                        have hset := hL3.out.gh_ hg64 true
                        rw [upd_take] at hset
                        rw [← htk] at hset
                        have hset' := Lib.hid hset
                        have c5 := (kL.cell (2048 + gn * 4 + 3)).trans (hL3.out.gh gn hg64)
                        have fL := kL.frozen
                        clear hst hst1 hL3 hpk hp0 hpn htk hin h16 hset
                        subst e3
                        go_wp2_with fail
                        have hf4 : Far (fun k => k = bk) wr (wr.setCell ⟨bk, 2048 + gn * 4 + 3, none⟩ (.bool true)) := Far.setCell (T := fun k => k = bk) (p := ⟨bk, 2048 + gn * 4 + 3, none⟩) (Far.refl _ _) (fun _ => rfl) _
                        go_roundw
                        case rel => exact ⟨1, _, by omega, by go_num, hF.trans hf4, kL.set_ (2048 + gn * 4 + 3) (.bool true), hset', hst2⟩
                        case measure => simp [intOf]; omega
                    · obtain ⟨j, hj⟩ : ∃ j, k - 1 = j := ⟨_, rfl⟩
                      obtain ⟨b4, o4, e4, _, c6⟩ := r8.at_ (k := j) (by omega)
                      rw [e3] at e4
                      cases e4
                      have hpk' := Lib.hid (hpk (by omega))
                      rw [hj] at hpk'
                      generalize H.getD j 0 = pr at *
                      have hwj : wrap64 ((k : Int) - 1) = (j : Int) := by
                        unfold wrap64
                        omega
                      have hjn : j < n3 := by omega
                      have hkd : decide (0 < (k : Int)) = true := by rw [decide_eq_true_eq]; omega
                      have hkd2 : decide (0 < k) = true := by rw [decide_eq_true_eq]; omega
                      have h1k : (1 : Int) ≤ (k : Int) := by omega
                      have h2k : 1 ≤ k := by omega
                      have h3k : (k : Int) - 1 < (n3 : Int) := by omega
                      have h4k : 0 < k := by omega
                      have h5k : (0 : Int) ≤ (k : Int) - 1 := by omega
                      have c9 := c6
                      rw [← hj] at c9
                      clear hj c6
                      by_cases hle : (gn : Int) ≤ pr
                      · as_aux_lemma =>
                          have hle' : decide ((gn : Int) ≤ pr) = true := by simpa using hle
                          have hbad := Lib.hid (chkH_5 hC.out hL.out hG2.out hsub.out (by rw [hst1, hugOk, hpk'.out, decide_eq_false (show ¬ (pr < (gn : Int)) by omega), Bool.and_false]; rfl))
                          clear h16 hle hk0
                          subst e3
                          have cR := kRr.cell
                          have cE := kEr.cell
                          have fR := kRr.frozen
                          have fE := kEr.frozen
                          clear hst hst1 hL3 hpk hp0 hpn htk hin
                          go_wp2_with fail
                          obtain ⟨k2, k3, hf2⟩ := two_set (by omega) kRr kEr (.pointer none) (.int .i64 6)
                          have dD2 := hf2.same dDr (by omega)
                          have dE2 := hf2.same dEr (by omega)
                          have B8 := Br.trans (hf2.below (by have := Br.size; omega) (fun k hk => by omega))
                          generalize ((wr.setCell ⟨s + 1, 0, none⟩ (.pointer none)).setCell ⟨s + 2, 0, none⟩ (.int .i64 6)) = w9 at *
                          have hfp : Far (fun k => k = D ∨ k = E) w9 (World.putObj (World.putObj w9 E (.deferred none)) D (.deferred none)) := Far.putObj (T := fun k => k = D ∨ k = E) (Far.putObj (T := fun k => k = D ∨ k = E) (Far.refl _ _) (fun _ => .inr rfl) _) (fun _ => .inl rfl) _
                          have hB9 := (B8).trans (hfp.below (by have := (B8).size; omega) (fun k hk => by omega))
                          have c6 := (hfp.blk k2 (by omega)).cell
                          have c7 := (hfp.blk k3 (by omega)).cell
                          refine leave_mark2 (v := .tuple #[.pointer none, .int .i64 6]) (by omega) dD2 dE2 (by simp [results, Tryz.results106, go_sem, c6, c7]) ?_
                          exact OpenR.err (by rw [hs]; exact hB9) hbad.out (by decide)
                      · as_aux_lemma =>
                          have hle' : decide ((gn : Int) ≤ pr) = false := by simpa using hle
                          have hst2 := Lib.hid (show hugOk C (-1) H = hugOk C (prevH H (k + 1)) (H.drop (k + 1)) by
                            rw [hst1, hpn, hpk'.out, hugOk, hgv'.out, decide_eq_true (show 16 ≤ gv by omega), decide_eq_true (show pr < (gn : Int) by omega)]; rfl)
                          have hset := hL3.out.gh_ hg64 true
                          rw [upd_take] at hset
                          rw [← htk] at hset
                          have hset' := Lib.hid hset
                          have c5 := (kL.cell (2048 + gn * 4 + 3)).trans (hL3.out.gh gn hg64)
                          have fL := kL.frozen
                          clear hst hst1 hL3 hpk hp0 hpn htk hin h16 hset hk0 hle hpk'
                          subst e3
                          go_wp2_with fail
                          have hf4 : Far (fun k => k = bk) wr (wr.setCell ⟨bk, 2048 + gn * 4 + 3, none⟩ (.bool true)) := Far.setCell (T := fun k => k = bk) (p := ⟨bk, 2048 + gn * 4 + 3, none⟩) (Far.refl _ _) (fun _ => rfl) _
                          go_roundw
                          case rel => exact ⟨k + 1, _, by omega, by go_num, hF.trans hf4, kL.set_ (2048 + gn * 4 + 3) (.bool true), hset', hst2⟩
                          case measure => simp [intOf]; omega
                  · obtain rfl : k = n3 := by omega
                    have hlt' : decide ((k : Int) < (k : Int)) = false := by simp
                    have hok := Lib.hid (show hugOk C (-1) H = true by rw [hst.out, List.drop_of_length_le (by omega)]; rfl)
                    have hL4 := Lib.hid (show LookIs ds (fun p => mem (p : Int) C) (fun p => mem (p : Int) L) (fun g => if g < 0 then (g : Int) else 0) (fun g => grpF C (g : Int)) (fun g => grpF L (g : Int)) (fun g => decide ((g : Int) ∈ H)) by
                      have := hL3.out
                      rw [List.take_of_length_le (by omega)] at this
                      simpa using this)
                    clear hst hL3 cH kHr hlt
                    go_wp2_with fail
                    go_loopw [125] (fun i wq => ∃ (q : Nat) (es : Array Value), q ≤ 64 ∧ i = .int .i64 q ∧ Far (fun k => k = bk) W wq ∧ Blk wq bk 201 es ∧ Hid (LookIs es (fun p => mem (p : Int) C) (fun p => mem (p : Int) L) (fun g => if g < q then (g : Int) else 0) (fun g => grpF C (g : Int)) (fun g => grpF L (g : Int)) (fun g => decide ((g : Int) ∈ H)))) (fun i _ => 64 - (intOf i).toNat)
                    case atStart => exact ⟨0, ds, by omega, rfl, hF, kL, hL4⟩
                    case round =>
                      clear hL4 kL hF
                      obtain ⟨q, es, hq, rfl, hFq, kL, hL5⟩ := hrel
                      have cP := (hFq.blk kP7 (by omega)).cell
                      by_cases hlt : q < 64
                      · as_aux_lemma =>
                          have hlt' : decide ((q : Int) < 64) = true := by rw [decide_eq_true_eq]; omega
                          have c5 := (kL.cell (2048 + q * 4)).trans (hL5.out.nm q hlt)
                          have fL := kL.frozen
                          have hset := hL5.out.nm_ hlt (q : Int)
                          rw [upd_num] at hset
                          have hset' := Lib.hid hset
                          generalize (if q < q then (q : Int) else 0) = vq at c5
                          clear hset hL5
                          go_wp2_with fail
                          have hf4 : Far (fun k => k = bk) wr (wr.setCell ⟨bk, 2048 + q * 4, none⟩ (.int .i64 (q : Int))) := Far.setCell (T := fun k => k = bk) (p := ⟨bk, 2048 + q * 4, none⟩) (Far.refl _ _) (fun _ => rfl) _
                          go_roundw
                          case rel => exact ⟨q + 1, _, by omega, by go_num, hFq.trans hf4, kL.set_ (2048 + q * 4) (.int .i64 (q : Int)), hset'⟩
                          case measure => simp [intOf]; omega
                      · as_aux_lemma =>
                          obtain rfl : q = 64 := by omega
                          have hlt' : decide (((64 : Nat) : Int) < 64) = false := by decide
                          have kRq := hFq.blk kR7 (by omega)
                          have kEq := hFq.blk kE7 (by omega)
                          have dDq := hFq.same dD (by omega)
                          have dEq := hFq.same hd (by omega)
                          have Bq := B7.trans (hFq.below (by have := B7.size; omega) (fun k hk => by omega))
                          have cR := kRq.cell
                          have cE := kEq.cell
                          have fR := kRq.frozen
                          have fE := kEq.frozen
                          have hfin := Lib.hid (hL5.out.congr_nm (f := fun g => (g : Int)) (fun g hg => by rw [if_pos hg]))
                          clear hL5
                          go_wp2_with fail
                          obtain ⟨k2, k3, hf2⟩ := two_set (by omega) kRq kEq (.pointer (some ⟨bk, 0, none⟩)) (.int .i64 0)
                          have dD2 := hf2.same dDq (by omega)
                          have dE2 := hf2.same dEq (by omega)
                          have kL2 := hf2.blk kL (by omega)
                          have B8 := Bq.trans (hf2.below (by have := Bq.size; omega) (fun k hk => by omega))
                          generalize ((wr.setCell ⟨s + 1, 0, none⟩ (.pointer (some ⟨bk, 0, none⟩))).setCell ⟨s + 2, 0, none⟩ (.int .i64 0)) = w9 at *
                          have hfp : Far (fun k => k = D ∨ k = E) w9 (World.putObj (World.putObj w9 E (.deferred none)) D (.deferred none)) := Far.putObj (T := fun k => k = D ∨ k = E) (Far.putObj (T := fun k => k = D ∨ k = E) (Far.refl _ _) (fun _ => .inr rfl) _) (fun _ => .inl rfl) _
                          have hB9 := (B8).trans (hfp.below (by have := (B8).size; omega) (fun k hk => by omega))
                          have c6 := (hfp.blk k2 (by omega)).cell
                          have c7 := (hfp.blk k3 (by omega)).cell
                          refine leave_mark2 (v := .tuple #[.pointer (some ⟨bk, 0, none⟩), .int .i64 0]) (by omega) dD2 dE2 (by simp [results, Tryz.results106, go_sem, c6, c7]) ?_
                          refine ⟨by rw [hs]; exact hB9, fun h => absurd (chkH_zero.2 ⟨canC, canL, List.all_eq_true.1 hG2.out, hsub.out, hok.out⟩) h, fun _ => ⟨bk, es, rfl, by omega, hfp.blk kL2 (by omega), hfin.out⟩⟩
            case stop2 =>
              as_aux_lemma =>
                rintro c X pre W hsz hpre ⟨hX, rfl, hsub, kR, kE, hF⟩ hd
                rw [hE] at hd hsz
                have dD := hF.same d6 (by omega)
                have B7 := B6.trans (hF.below (by omega) (fun k hk => by omega))
                rw [hE]
                go_wp2_with fail
                have hfp : Far (fun k => k = D ∨ k = E) W (World.putObj (World.putObj W E (.deferred none)) D (.deferred none)) := Far.putObj (T := fun k => k = D ∨ k = E) (Far.putObj (T := fun k => k = D ∨ k = E) (Far.refl _ _) (fun _ => .inr rfl) _) (fun _ => .inl rfl) _
                have hB9 := (B7).trans (hfp.below (by have := (B7).size; omega) (fun k hk => by omega))
                have c6 := (hfp.blk kR (by omega)).cell
                have c7 := (hfp.blk kE (by omega)).cell
                refine leave_mark2 (v := .tuple #[.pointer none, .int .i64 6]) (by omega) dD hd (by simp [results, Tryz.results106, go_sem, c6, c7]) ?_
                exact OpenR.err (by rw [hs]; exact hB9) (chkH_4 hC.out hL.out hG2.out hsub) (by decide)
end Go.Proofs.YtpabnbhbcphfiaaGreat
namespace Go.Pol

def grps : List Int := (List.range 64).map fun (k : Nat) => (k : Int)
/-- the groups that may be joined -/
def wholeF (C : List Sp) (H : List Int) : List Int := grps.filter fun g => !decide (g ∈ H) && (grpF C g == 16)
def groupsF (C L : List Sp) (H : List Int) (least : Int) : List Int := (wholeF C H).filter fun g => decide (least ≤ grpF L g)
def idleF (L : List Sp) (H : List Int) : Int := (H.map fun g => 16 - grpF L g).sum
theorem mem_grps {g : Int} : g ∈ grps ↔ 0 ≤ g ∧ g < 64 := by
  unfold grps
  simp only [List.mem_map, List.mem_range]
  constructor
  · rintro ⟨k, hk, rfl⟩; omega
  · intro h; exact ⟨g.toNat, by omega, by omega⟩
theorem grps_lt : grps.Pairwise (· < ·) := by
  unfold grps
  rw [List.pairwise_map]
  exact List.pairwise_lt_range.imp (fun h => by omega)
theorem hugOk_lt {C : List Sp} : ∀ {H : List Int} {e : Int}, hugOk C e H = true → H.Pairwise (· < ·)
  | [], _, _ => .nil
  | g :: r, e, h => by
    obtain ⟨_, _, h3⟩ := hugOk_cons.1 h
    exact .cons (fun x hx => (hugOk_mem h3 x hx).1) (hugOk_lt h3)
/-- two ascending lists of the same members are one -/
theorem asc_eq : ∀ {a b : List Int}, a.Pairwise (· < ·) → b.Pairwise (· < ·) → (∀ x, x ∈ a ↔ x ∈ b) → a = b
  | [], [], _, _, _ => rfl
  | [], y :: b, _, _, h => absurd ((h y).2 (by simp)) (by simp)
  | x :: a, [], _, _, h => absurd ((h x).1 (by simp)) (by simp)
  | x :: a, y :: b, ha, hb, h => by
    obtain ⟨ha1, ha2⟩ := List.pairwise_cons.1 ha
    obtain ⟨hb1, hb2⟩ := List.pairwise_cons.1 hb
    have hxy : x = y := by
      rcases List.mem_cons.1 ((h x).1 (by simp)) with e | e
      · exact e
      · rcases List.mem_cons.1 ((h y).2 (by simp)) with e' | e'
        · exact e'.symm
        · have := hb1 x e; have := ha1 y e'; omega
    subst hxy
    rw [asc_eq ha2 hb2 fun z => ?_]
    constructor
    · intro hz
      rcases List.mem_cons.1 ((h z).1 (by simp [hz])) with e | e
      · have := ha1 z hz; omega
      · exact e
    · intro hz
      rcases List.mem_cons.1 ((h z).2 (by simp [hz])) with e | e
      · have := hb1 z hz; omega
      · exact e
/-- the huge groups, as they are met among all groups -/
theorem huge_grps {C : List Sp} {H : List Int} (hi : ∀ g ∈ H, inG g = true) (h : hugOk C (-1) H = true) : grps.filter (fun g => decide (g ∈ H)) = H :=
  asc_eq (grps_lt.filter _) (hugOk_lt h) fun x => by
    rw [List.mem_filter, mem_grps]
    constructor
    · rintro ⟨_, h⟩; simpa using h
    · intro hx; exact ⟨inG_iff.1 (hi x hx), by simpa using hx⟩
end Go.Pol
namespace Go.Pol
open Go Go.RowKit
theorem wpListIn_load_mid {F : Fence} {n : Nat} {P : Program} {ops : Array Oper} {rest : List Oper} {op : Oper} {a : Act} {w : World} {Q : Exit → Act → World → Prop} (hgd : op.guard = none) (ty : TypeId) (x : Operand) (ho : op.op = .load ty x)
    (b o : Nat) (hx : a.eval x = .pointer (some ⟨b, o, none⟩)) (cs : List Value) (d : TypeDesc) (hc : w.rangeAt b o cs)
    (hu : P.underlying ty = some d) (hd : d.isRow = true) (hi : (P.info? ty).map (·.size) = some cs.length)
    (h : wpListIn F n P ops Q rest (a.put op.dst (.agg cs.toArray)) w) : wpListIn F n P ops Q (op :: rest) a w := by
  refine wpListIn_plain hgd fun K hK => ?_
  unfold Oper.wpIn
  refine ⟨?_, ?_⟩
  · simp [Oper.about, ho]
  · rw [Oper.semAt_plain F _ _ (by rw [ho]; intro c hc'; cases hc')]
    unfold execOp
    simp only [ho, hx, Instr.loadAt, Instr.sureAddr, Sem.run_bind, Sem.run_pure, Result.andThen_ok, run_loadVar_mid w b o ty cs d hc hu hd hi]
    exact hK _ _ h
/-- a group: number, committed, live, huge -/
abbrev Gp := Int × Int × Int × Bool
def gp0 : Gp := (0, 0, 0, false)
def gV (g : Gp) : Value := .agg #[.int .i64 g.1, .int .i64 g.2.1, .int .i64 g.2.2.1, .bool g.2.2.2]
abbrev gA (g : Gp) : Array Value := #[gV g]
/-- the cells of all groups -/
structure GrpAre (cs : Array Value) (gs : List Gp) : Prop where
  len : gs.length = 64
  size : cs.size = 256
  at_ : ∀ k, k < 64 → cs[k * 4]? = some (.int .i64 (gs.getD k gp0).1) ∧ cs[k * 4 + 1]? = some (.int .i64 (gs.getD k gp0).2.1) ∧ cs[k * 4 + 2]? = some (.int .i64 (gs.getD k gp0).2.2.1) ∧ cs[k * 4 + 3]? = some (.bool (gs.getD k gp0).2.2.2)
def gpsOf (nm gc gl : Nat → Int) (gh : Nat → Bool) : List Gp := (List.range 64).map fun k => (nm k, gc k, gl k, gh k)
theorem gpsOf_len {nm gc gl : Nat → Int} {gh : Nat → Bool} : (gpsOf nm gc gl gh).length = 64 := by simp [gpsOf]
theorem gpsOf_get {nm gc gl : Nat → Int} {gh : Nat → Bool} {k : Nat} (h : k < 64) : (gpsOf nm gc gl gh).getD k gp0 = (nm k, gc k, gl k, gh k) := by
  rw [List.getD_eq_getElem?_getD, gpsOf, List.getElem?_map, List.getElem?_range h]; rfl
theorem ext_get {cs : Array Value} {s e j : Nat} (h : j < min e cs.size - s) : (cs.extract s e)[j]? = cs[s + j]? := by
  rw [Array.getElem?_extract_of_lt h]; exact (Array.getElem?_eq_getElem _).symm
theorem LookIs.groups {cs : Array Value} {cm lv : Nat → Bool} {nm gc gl : Nat → Int} {gh : Nat → Bool} (h : LookIs cs cm lv nm gc gl gh) : GrpAre (cs.extract 2048 2304) (gpsOf nm gc gl gh) := by
  have hx : ∀ j, j < 256 → (cs.extract 2048 2304)[j]? = cs[2048 + j]? := fun j hj => by
    rw [ext_get (by rw [h.size]; omega)]
  refine ⟨gpsOf_len, by simp [h.size], fun k hk => ?_⟩
  rw [gpsOf_get hk, hx _ (by omega), hx _ (by omega), hx _ (by omega), hx _ (by omega)]
  exact ⟨h.nm k hk, h.gc k hk, h.gl k hk, h.gh k hk⟩
theorem LookIs.rangeAt {w : World} {b : Nat} {t : TypeId} {cs : Array Value} {cm lv : Nat → Bool} {nm gc gl : Nat → Int} {gh : Nat → Bool} (h : LookIs cs cm lv nm gc gl gh) (hb : Blk w b t cs) :
    w.rangeAt b 2048 (cs.extract 2048 2304).toList := fun j v hj => by
  rw [Array.getElem?_toList] at hj
  have hlt : j < 256 := by
    have := (Array.getElem?_eq_some_iff.1 hj).1
    simp [h.size] at this
    exact this
  rw [hb.cell, ← hj, ext_get (by rw [h.size]; omega)]
theorem extract4 {cs : Array Value} {k : Nat} {a b c d : Value} (h0 : cs[k * 4]? = some a) (h1 : cs[k * 4 + 1]? = some b) (h2 : cs[k * 4 + 2]? = some c) (h3 : cs[k * 4 + 3]? = some d) : cs.extract (k * 4) (k * 4 + 4) = #[a, b, c, d] := by
  have hs := (Array.getElem?_eq_some_iff.1 h3).1
  apply Array.ext_getElem?
  intro i
  by_cases hi : i < 4
  · rw [ext_get (by omega)]
    rcases (show i = 0 ∨ i = 1 ∨ i = 2 ∨ i = 3 by omega) with rfl | rfl | rfl | rfl
    · exact h0
    · exact h1
    · exact h2
    · exact h3
  · rw [Array.getElem?_eq_none (by simp; omega), Array.getElem?_eq_none (by simp; omega)]
theorem take_snocG (gs : List Gp) (k : Nat) (h : k < gs.length) : gs.take (k + 1) = gs.take k ++ [gs.getD k gp0] := by
  rw [List.take_add_one, List.getElem?_eq_getElem h, List.getD_eq_getElem?_getD, List.getElem?_eq_getElem h]; rfl
/-- a loop over groups whose variable lies in a box -/
theorem rangeXG {P : Program} {g : Operand} {ps : Array Tmp} {assign body : Code} {Q : Exit → Act → World → Prop} {a : Act} {w : World} (ib pb : Nat) (tE : TypeId)
    {gf : Nat} {lb : Array Value} (hg : a.eval g = .func (.func gf) #[] lb) (eg : ∀ args w, (callFunc gf args).run P w = .ok (.enter gf args) w)
    {T K : Nat → Prop} {xs : List Gp} (hseq : SeqX P gf lb gA T K xs w) (hps : ps = #[pb])
    (hT : ∀ k, T k → k < w.heap.size) (hK : ∀ k, K k → k < w.heap.size)
    (I : (Nat → Prop) → List Gp → World → Prop) (Ix : Code → (Nat → Prop) → List Gp → World → Prop)
    (hI : ∀ X pre A B, I X pre A → Far (fun k => T k ∨ X k ∨ k = w.heap.size ∨ k = w.heap.size + 1) A B → I X pre B)
    (hIx : ∀ c X pre A B, Ix c X pre A → Far (fun k => T k ∨ X k ∨ k = w.heap.size ∨ k = w.heap.size + 1) A B → Ix c X pre B)
    (hnew : ∀ X X' pre A, I X pre A → (∀ k, X' k → X k ∨ A.heap.size ≤ k) → I X' pre A)
    (h0 : I (fun _ => False) [] w)
    (hassign : ∀ (m l : Nat) (x : Gp) (W : World) (C : Act → World → Prop),
      C { tmps := (a.tmps.setIfInBounds pb (gV x)).setIfInBounds ib (.pointer (some ⟨W.heap.size, 0, none⟩)), defers := [] } (W.alloc (.cells #[.int .i64 x.1, .int .i64 x.2.1, .int .i64 x.2.2.1, .bool x.2.2.2] tE)) →
      assign.wpIn (Fence.wide.inRound l) m P (Exit.then C (fun _ _ _ => False)) { tmps := a.tmps.setIfInBounds pb (gV x), defers := [] } W)
    (hbody : ∀ (m l : Nat) (X : Nat → Prop) (pre : List Gp) (x : Gp) (Bx : Nat) (Wa W : World), w.heap.size + 2 ≤ W.heap.size → (∀ k, X k → k < Wa.heap.size ∧ k ≠ w.heap.size ∧ k ≠ w.heap.size + 1) → I X pre W → pre ++ [x] <+: xs → w.heap.size + 2 ≤ Bx → Blk W Bx tE #[.int .i64 x.1, .int .i64 x.2.1, .int .i64 x.2.2.1, .bool x.2.2.2] → Wa.heap.size ≤ Bx →
      body.wpIn (Fence.wide.inRound l) m P (xPost w.heap.size K X I Ix (pre ++ [x]) W) { tmps := (a.tmps.setIfInBounds pb (gV x)).setIfInBounds ib (.pointer (some ⟨Bx, 0, none⟩)), defers := [] } W)
    (hdone : ∀ (X : Nat → Prop) (W : World), w.heap.size + 2 ≤ W.heap.size → I X xs W → W.heap[w.heap.size]? = some (.deferred (some [])) → Q .normal { a with defers := markOf w.heap.size :: a.defers } W)
    (hstop : ∀ (c : Code) (X : Nat → Prop) (pre : List Gp) (W : World), w.heap.size + 2 ≤ W.heap.size → pre <+: xs → Ix c X pre W → W.heap[w.heap.size]? = some (.deferred (some [])) → c.wp P Q { a with defers := markOf w.heap.size :: a.defers } W) :
    (Code.rangeFunc g ps assign body).wp P Q a w := by
  subst hps
  refine rangeX hg eg hseq (fun _ => rfl) hT hK I Ix hI hIx hnew h0
    (fun N x a' W => ∃ Bx, N ≤ Bx ∧ w.heap.size + 2 ≤ Bx ∧ Blk W Bx tE #[.int .i64 x.1, .int .i64 x.2.1, .int .i64 x.2.2.1, .bool x.2.2.2] ∧ a' = { tmps := (a.tmps.setIfInBounds pb (gV x)).setIfInBounds ib (.pointer (some ⟨Bx, 0, none⟩)), defers := [] })
    (fun N x a' A B ⟨Bx, h0, h1, h2, h3⟩ hf => ⟨Bx, h0, h1, hf.blk h2 (by omega), h3⟩) ?_ ?_ hdone hstop
  · intro m l x W C hs hC
    have e : (#[pb].zip (gA x)).foldl (fun t (p, v) => t.setIfInBounds p v) a.tmps = a.tmps.setIfInBounds pb (gV x) := by simp [gA]
    rw [e]
    exact hassign m l x W C (hC _ _ ((Far.refl _ W).alloc _) ⟨W.heap.size, Nat.le_refl _, hs, Blk.new _ _ _, rfl⟩)
  · rintro m l X pre x a' Wa W hs hX hi ⟨Bx, h0, h1, h2, rfl⟩ hpre _ _
    exact hbody m l X pre x Bx Wa W hs hX hi hpre h1 h2 h0
end Go.Pol
namespace Go.Proofs.YtpabnbhbcphfiaaGreat
open Go Go.Proofs Go.RowKit Go.Pol Go.Shelf
attribute [local go_sem] Oper.semAt_some Go.Pol.wide_fn Go.Pol.wide_depth Go.Pol.wide_fn' Go.Pol.wide_depth'

theorem idx_grp (cs : Array Value) (gs : List Gp) (h : GrpAre cs gs) (k : Nat) (hk : k < 64) (W : World) : (Instr.index 199 (.agg cs) (.int .i64 k)).run Tryz.prog W = .ok (gV (gs.getD k gp0)) W := by
  have u := Tryz.underlying199
  have a3 := Tryz.isAgg198
  have z3 := Tryz.sizeOf198
  obtain ⟨h0, h1, h2, h3⟩ := h.at_ k hk
  have he := extract4 h0 h1 h2 h3
  have hb : 0 ≤ (k : Int) ∧ (k : Int) < 64 := by omega
  unfold Instr.index
  simp only [Sem.run_bind, run_underlying u, Result.andThen_ok]
  simp [part, asIntOf, a3, z3, Result.andThen, hb, he, gV]
theorem some_any (b g : Nat) (w : World) :
    Calls Tryz.prog 108 #[.pointer (some ⟨b, 0, none⟩), .func (.func g) #[] #[]] w fun e w' => e = .returned (.func (.func 170) #[] #[.pointer (some ⟨w.heap.size, 0, none⟩), .pointer (some ⟨w.heap.size + 1, 0, none⟩)]) ∧
      w' = (w.alloc (.cells #[.pointer (some ⟨b, 0, none⟩)] 191)).alloc (.cells #[.func (.func g) #[] #[]] 207) := by
  go_enter Tryz.func108, Tryz.ntmps108
  go_wp2
  go_ret
  exact ⟨by simp, rfl⟩
theorem some1_enters : ∀ args w, (callFunc 170 args).run Tryz.prog w = .ok (.enter 170 args) w := enters_of Tryz.func170 (by kernel_rfl) rfl
set_option maxRecDepth 100000 in
set_option maxHeartbeats 1600000 in
theorem some1_seq (p : Gp → Bool) (g b B1 B2 : Nat) (cs : Array Value) (gs : List Gp) (cm lv : Nat → Bool) (nm gc gl : Nat → Int) (gh : Nat → Bool) (K : Nat → Prop) (w : World) (hKb : K b) (hK1 : K B1) (hK2 : K B2)
    (kb : Blk w b 201 cs) (k1 : Blk w B1 191 #[.pointer (some ⟨b, 0, none⟩)]) (k2 : Blk w B2 207 #[.func (.func g) #[] #[]])
    (hcs : LookIs cs cm lv nm gc gl gh) (hgs : gpsOf nm gc gl gh = gs)
    (eg : ∀ args w, (callFunc g args).run Tryz.prog w = .ok (.enter g args) w)
    (hp : ∀ x W, Calls Tryz.prog g #[gV x] W fun e W' => e = .returned (.bool (p x)) ∧ Below W.heap.size W W') :
    SeqX Tryz.prog 170 #[.pointer (some ⟨B1, 0, none⟩), .pointer (some ⟨B2, 0, none⟩)] gA (fun _ => False) K (gs.filter p) w := by
  intro m l J Jx W hW hJ hJx hnew hY h0
  have hG := hcs.groups
  rw [hgs] at hG
  have kbW := hW.blk kb (by simpa using hKb)
  have k1W := hW.blk k1 (by simpa using hK1)
  have k2W := hW.blk k2 (by simpa using hK2)
  have hra := hcs.rangeAt kbW
  have hlen := hG.len
  have hsz := hG.size
  generalize cs.extract 2048 2304 = ds at *
  refine callsIn_of_wp Tryz.func170 rfl trivial ?_ rfl
  simp only [Tryz.ntmps170, List.size_toArray, List.length_cons, List.length_nil, Nat.reduceAdd, Nat.reduceSub, Array.replicate_succ, Array.replicate_zero, List.push_toArray, List.append_toArray, List.nil_append, List.cons_append]
  have c1 := k1W.cell
  have hidx := Lib.hid (fun k hk W => idx_grp ds gs hG k hk W)
  clear hG hW k1 kb k2 hcs hgs
  gi_wp2_with (refine wpListIn_load_mid rfl 199 (.tmp 8) rfl b 2048 rfl ds.toList _ hra Tryz.underlying199 rfl (by rw [Array.length_toList, hsz]; kernel_rfl) ?_; rw [Array.toArray_toList])
  clear hra c1 k1W
  gi_loopw [10] (fun i wr => ∃ (k : Nat) (X : Nat → Prop), k ≤ 64 ∧ i = .int .i64 k ∧ W.heap.size ≤ wr.heap.size ∧ Hid (J X ((gs.take k).filter p) wr) ∧ Blk wr B2 207 #[.func (.func g) #[] #[]] ∧ B2 < W.heap.size) (fun i _ => 64 - (intOf i).toNat)
  case atStart => exact ⟨0, _, by omega, rfl, Nat.le_refl _, Lib.hid (by simpa using h0), k2W, k2W.lt⟩
  case round =>
    clear h0 kbW k2W
    obtain ⟨k, X, hk, rfl, hwz, hJs, k2, hBl⟩ := hrel
    by_cases hlt : k < 64
    · have hlt' : decide ((k : Int) < 64) = true := by rw [decide_eq_true_eq]; omega
      have hts := Lib.hid (take_snocG gs k (by omega))
      have hix := fun W => hidx.out k hlt W
      generalize gs.getD k gp0 = x at *
      have hpx := Lib.hid (fun W => hp x W)
      have hfs := Lib.hid (show (gs.take (k + 1)).filter p = (gs.take k).filter p ++ if p x then [x] else [] by
        rw [hts.out, List.filter_append]; congr 1; cases h : p x <;> simp [h])
      obtain ⟨xn, xc, xl, xh⟩ := x
      unfold gV at hix
      dsimp only at hix
      have kX := Blk.new wr 198 #[.int .i64 xn, .int .i64 xc, .int .i64 xl, .bool xh]
      have hfa : Far (fun _ => False) wr (wr.alloc (.cells #[.int .i64 xn, .int .i64 xc, .int .i64 xl, .bool xh] 198)) := (Far.refl _ wr).alloc _
      have k2a := hfa.blk k2 id
      have c2 := k2a.cell
      have hJ2 := fun (z : Ext (wr.alloc (.cells #[.int .i64 xn, .int .i64 xc, .int .i64 xl, .bool xh] 198))) => hJ _ _ _ z.w (hnew X (fun k => k = wr.heap.size) _ wr hJs.out (fun j hj => .inr (by omega))) ((hfa.mono fun _ _ h => h.elim).trans (.of_below z.le))
      have hszb : wr.heap.size < (wr.alloc (.cells #[.int .i64 xn, .int .i64 xc, .int .i64 xl, .bool xh] 198)).heap.size := by simp
      gi_upto_region 3 with fail
      generalize (wr.alloc (.cells #[.int .i64 xn, .int .i64 xc, .int .i64 xl, .bool xh] 198)) = w2 at *
      have cX := kX.cell
      unfold gV at hpx
      cases hq : p (xn, xc, xl, xh) with
      | true =>
        have hpre : Hid ((gs.take k).filter p ++ [(xn, xc, xl, xh)] <+: gs.filter p) := Lib.hid (by
          have := (List.take_prefix (k + 1) gs).filter p
          rw [hfs.out, hq] at this; exact this)
        rw [hq] at hpx hfs
        clear hq
        gi_wp2_with fail
        refine (callsIn_wide.2 (hpx.out _)).mono ?_
        rintro e w3 ⟨rfl, hb3⟩
        have kX3 := kX.call hb3
        have cX3 := kX3.cell
        have k23 := k2a.call hb3
        have hs3 := hb3.size
        obtain ⟨fn, tmps, assign, body, hy, hRd⟩ := hY (m - 1) (fun k => k = wr.heap.size) _ (xn, xc, xl, xh) w3 (hJ2 ⟨w3, hb3⟩) (fun j hj => by rw [hj]; omega) hpre.out
        simp only [gA, gV] at hy
        clear hY hJ2 kX k2a c2 cX
        gi_wp2_with fail
        refine hRd.mono ?_
        rintro e W4 (⟨rfl, hJ4, hF4⟩ | ⟨rfl, hJx4⟩)
        · have hs4 := hF4.size
          have k24 := hF4.blk k23 (fun h => h (.inl hK2))
          gi_wp2_with fail
          go_roundw
          case rel => exact ⟨k + 1, _, by omega, by go_num, by omega, Lib.hid (by rw [hfs.out]; exact hJ4), k24, hBl⟩
          case measure => simp [intOf]; omega
        · gi_wp2_with fail
          refine bodyPost_ret (results_none rfl _ _ _) rfl ?_
          exact ⟨⟨_, rfl⟩, .inr ⟨_, _, hpre.out, hJx4⟩⟩
      | false =>
        rw [hq] at hpx hfs
        clear hq
        gi_wp2_with fail
        refine (callsIn_wide.2 (hpx.out _)).mono ?_
        rintro e w3 ⟨rfl, hb3⟩
        have k23 := k2a.call hb3
        have hJ3 := hJ2 ⟨w3, hb3⟩
        have hs3 := hb3.size
        gi_wp2_with fail
        go_roundw
        case rel => exact ⟨k + 1, _, by omega, by go_num, by omega, Lib.hid (by rw [hfs.out]; simpa using hJ3), k23, hBl⟩
        case measure => simp [intOf]; omega
    · have hlt' : decide ((k : Int) < 64) = false := by rw [decide_eq_false_iff_not]; omega
      have hE : Hid (gs.take k = gs) := Lib.hid (List.take_of_length_le (by omega))
      gi_wp2_with fail
      go_end0
      exact ⟨⟨_, rfl⟩, .inl ⟨_, by have := hJs.out; rw [hE.out] at this; exact this⟩⟩
theorem whole_any (g : Gp) (w : World) : Calls Tryz.prog 160 #[gV g] w fun e w' => e = .returned (.bool (!g.2.2.2 && (g.2.1 == 16))) ∧ Below w.heap.size w w' := by
  obtain ⟨n, c, l, h⟩ := g
  unfold gV
  dsimp only
  have k0 := Blk.new w 198 #[.int .i64 n, .int .i64 c, .int .i64 l, .bool h]
  have hb0 := (Below.refl w.heap.size w).alloc (Nat.le_refl _) (.cells #[.int .i64 n, .int .i64 c, .int .i64 l, .bool h] 198)
  have c0 := k0.cell
  cases h with
  | true =>
    go_enter Tryz.func160, Tryz.ntmps160
    go_wp2_with fail
    go_ret
    exact ⟨rfl, hb0⟩
  | false =>
    go_enter Tryz.func160, Tryz.ntmps160
    go_wp2_with fail
    go_ret
    exact ⟨by simp, hb0⟩
theorem huge_any (g : Gp) (w : World) : Calls Tryz.prog 109 #[gV g] w fun e w' => e = .returned (.bool g.2.2.2) ∧ Below w.heap.size w w' := by
  obtain ⟨n, c, l, h⟩ := g
  unfold gV
  dsimp only
  have k0 := Blk.new w 198 #[.int .i64 n, .int .i64 c, .int .i64 l, .bool h]
  have hb0 := (Below.refl w.heap.size w).alloc (Nat.le_refl _) (.cells #[.int .i64 n, .int .i64 c, .int .i64 l, .bool h] 198)
  have c0 := k0.cell
  go_enter Tryz.func109, Tryz.ntmps109
  go_wp2_with fail
  go_ret
  exact ⟨rfl, hb0⟩
end Go.Proofs.YtpabnbhbcphfiaaGreat
namespace Go.Pol
open Go Go.RowKit
/-- the cells of a list of elements -/
def fl {α : Type} (enc : α → List Value) (us : List α) : List Value := us.flatMap enc
section
variable {α : Type} {enc : α → List Value} {sz : Nat}
theorem fl_cons (x : α) (r : List α) : fl enc (x :: r) = enc x ++ fl enc r := by simp [fl]
theorem fl_append (a b : List α) : fl enc (a ++ b) = fl enc a ++ fl enc b := by simp [fl]
theorem fl_len (h : ∀ x, (enc x).length = sz) : ∀ us : List α, (fl enc us).length = us.length * sz
  | [] => by simp [fl]
  | x :: r => by rw [fl_cons, List.length_append, h x, fl_len h r, List.length_cons, Nat.succ_mul, Nat.add_comm]
theorem fl_at (h : ∀ x, (enc x).length = sz) (d : α) : ∀ (us : List α) (k : Nat), k < us.length → ∀ j, j < sz → (fl enc us)[k * sz + j]? = (enc (us.getD k d))[j]?
  | [], k, hk, _, _ => by simp at hk
  | x :: r, 0, _, j, hj => by
    rw [fl_cons, Nat.zero_mul, Nat.zero_add, List.getElem?_append_left (by rw [h x]; exact hj)]
    rfl
  | x :: r, k + 1, hk, j, hj => by
    have ih := fl_at h d r k (by simpa using hk) j hj
    rw [fl_cons, List.getElem?_append_right (by rw [h x, Nat.succ_mul]; omega), h x, show (k + 1) * sz + j - sz = k * sz + j by rw [Nat.succ_mul]; omega, ih]
    rfl
end
section
variable {w w' : World} {B : Nat} {A : Option Addr} {xs : List Value}
theorem Rd.on_ (h : Rd w w.heap.size A xs) (hb : Below w.heap.size w w') : Rd w' w'.heap.size A xs := (h.below hb).more hb.size
/-- the cells of one element -/
theorem Rd.elem {α : Type} {enc : α → List Value} {sz : Nat} {us : List α} (hr : Rd w B A (fl enc us)) (h : ∀ x, (enc x).length = sz) (h0 : 0 < sz) (d : α) {k : Nat} (hk : k < us.length) :
    ∃ b o, A = some ⟨b, o, none⟩ ∧ b < B ∧ ∀ (j : Nat) (v : Value), (enc (us.getD k d))[j]? = some v → w.cell? ⟨b, o + k * sz + j, none⟩ = some v := by
  have hl := fl_len h us
  have hkz : k * sz + sz ≤ us.length * sz := by rw [← Nat.succ_mul]; exact Nat.mul_le_mul_right sz hk
  obtain ⟨b, o, e, hb, _⟩ := hr (k * sz) (by omega)
  refine ⟨b, o, e, hb, fun j v hj => ?_⟩
  have hjz : j < sz := by rw [← h (us.getD k d)]; exact (List.getElem?_eq_some_iff.1 hj).1
  obtain ⟨b', o', e', _, hc⟩ := hr (k * sz + j) (by omega)
  rw [e] at e'; cases e'
  rw [Nat.add_assoc, hc]
  have := fl_at h d us k hk j hjz
  rw [hj, List.getElem?_eq_getElem (by omega)] at this
  exact this
theorem Rd.src (h : Rd w w.heap.size A xs) (ad : Addr) (hA : A = some ad) : ∀ (j : Nat) (u : Value), xs[j]? = some u → w.cell? (ad.add j) = some u := fun j u hj => by
  obtain ⟨hlt, e⟩ := List.getElem?_eq_some_iff.1 hj
  obtain ⟨b, o, e', _, hc⟩ := h j hlt
  rw [hA] at e'; cases e'
  rw [addr_add0, hc, e]
/-- what a call of the own made reads as a list -/
theorem own_Rd {base n sz : Nat} {e : TypeId} {v : Value} (h : w.ownsRow base e sz v n xs) : ∃ (A : Option Addr) (cap : Nat), v = .slice A n cap ∧ Rd w w.heap.size A xs ∧ n ≤ cap ∧ cap ≤ maxLen ∧ (∀ b o, A = some ⟨b, o, none⟩ → base ≤ b) ∧ (A = none → cap = 0) := by
  have hv := h
  rcases h.2 with ⟨rfl, h0⟩ | ⟨g, cap, cur, rfl, hg, hk, hnc, hcm, _⟩
  · subst h0
    have : xs = [] := List.eq_nil_of_length_eq_zero (by rw [h.1]; simp)
    subst this
    exact ⟨none, 0, rfl, fun k hk => absurd hk (by simp), Nat.le_refl _, by unfold maxLen; omega, fun b o e => (by cases e), fun _ => rfl⟩
  · refine ⟨_, cap, rfl, fun k hk' => ?_, hnc, hcm, fun b o e => by cases e; exact hg, fun e => by cases e⟩
    have c0 := hv.cellAt k (by rw [← h.1]; exact hk')
    refine ⟨g, 0, rfl, Blk.lt hk, ?_⟩
    rw [Nat.zero_add, c0, List.getElem?_eq_getElem hk']
/-- the same, with the type of the block -/
theorem own_Rdt {base n sz : Nat} {e : TypeId} {v : Value} (h : w.ownsRow base e sz v n xs) : ∃ (A : Option Addr) (cap : Nat), v = .slice A n cap ∧ Rd w w.heap.size A xs ∧ n ≤ cap ∧ cap ≤ maxLen ∧ (∀ b o, A = some ⟨b, o, none⟩ → base ≤ b) ∧ (A = none → cap = 0) ∧ ∀ b o, A = some ⟨b, o, none⟩ → ∃ cs, Blk w b e cs := by
  obtain ⟨A, cap, h1, h2, h3, h4, h5, h6⟩ := own_Rd h
  refine ⟨A, cap, h1, h2, h3, h4, h5, h6, fun b o hA => ?_⟩
  rcases h.2 with ⟨hv, _⟩ | ⟨g, cap', cur, hv, _, hk, _⟩
  · rw [h1, hA] at hv; cases hv
  · rw [h1, hA] at hv; cases hv; exact ⟨cur, hk⟩
/-- a row of one type is no block of another -/
theorem own_other {base n sz g : Nat} {e t : TypeId} {v : Value} {cs : Array Value} (h : w.ownsRow base e sz v n xs) (hv : v.ownBlock = some g) (hc : Blk w g t cs) (hne : e ≠ t) : False := by
  rcases h.2 with ⟨rfl, _⟩ | ⟨g', cap', cur, rfl, _, hk, _⟩
  · cases hv
  · have e' : g' = g := by injection hv
    subst e'
    exact Blk.ne_ (g := g') hk hc hne rfl
end
theorem z_there {w : World} {g : Nat} {t : TypeId} {cs : Array Value} (h : Blk w g t cs) (o n : Nat) (hn : o + n ≤ cs.size) : w.there g o n := fun j hj => by
  exact ⟨by rw [h.cell]; simp; omega, h.frozen _⟩
/-- cells of a block from a place on -/
def putA (cs : Array Value) : Nat → List Value → Array Value
  | _, [] => cs
  | o, v :: vs => putA (cs.setIfInBounds o v) (o + 1) vs
theorem putA_size (cs : Array Value) : ∀ (o : Nat) (vs : List Value), (putA cs o vs).size = cs.size
  | _, [] => rfl
  | o, v :: vs => by rw [putA, putA_size (cs.setIfInBounds o v) (o + 1) vs]; simp
theorem putA_get : ∀ (vs : List Value) (cs : Array Value) (o : Nat), o + vs.length ≤ cs.size → ∀ i, (putA cs o vs)[i]? = if o ≤ i ∧ i < o + vs.length then vs[i - o]? else cs[i]?
  | [], cs, o, _, i => by rw [putA, if_neg (by simp only [List.length_nil]; omega)]
  | v :: vs, cs, o, h, i => by
    rw [List.length_cons] at h
    rw [putA, putA_get vs _ _ (by simp; omega) i]
    by_cases h1 : i = o
    · subst h1
      rw [if_neg (by omega), if_pos (by simp), Nat.sub_self, Array.getElem?_setIfInBounds_self_of_lt (by omega)]; rfl
    · by_cases h2 : o + 1 ≤ i ∧ i < o + 1 + vs.length
      · rw [if_pos h2, if_pos (by simp; omega), show i - o = (i - (o + 1)) + 1 by omega, List.getElem?_cons_succ]
      · rw [if_neg h2, if_neg (by simp; omega), Array.getElem?_setIfInBounds, if_neg (by omega)]
theorem Blk.puts {w : World} {g : Nat} {t : TypeId} {cs : Array Value} : ∀ (vs : List Value) (o : Nat) (w : World) (cs : Array Value), Blk w g t cs → Blk (w.setCells g o vs) g t (putA cs o vs)
  | [], _, _, _, h => h
  | v :: vs, o, _, _, h => Blk.puts (cs := cs) (w := w) vs (o + 1) _ _ (h.set_ o v)
theorem putA_all {cs : Array Value} {vs : List Value} (h : cs.size = vs.length) : putA cs 0 vs = vs.toArray := by
  apply Array.ext_getElem?
  intro i
  rw [putA_get vs cs 0 (by omega) i]
  by_cases hi : i < vs.length
  · rw [if_pos (by omega)]; simp
  · rw [if_neg (by omega), Array.getElem?_eq_none (by omega), Array.getElem?_eq_none (by simpa using hi)]
theorem Far.puts {T : Nat → Prop} {g : Nat} (hT : T g) : ∀ (vs : List Value) (o : Nat) (A B : World), Far T A B → Far T A (B.setCells g o vs)
  | [], _, _, _, h => h
  | v :: vs, o, _, _, h => Far.puts hT vs (o + 1) _ _ (h.setCell (p := ⟨g, o, none⟩) (fun _ => hT) v)
end Go.Pol
namespace Go.Pol
open Go Go.RowKit
/-- the groups as 'open' sees them -/
def gsH (C L : List Sp) (H : List Int) : List Gp := gpsOf (fun g => (g : Int)) (fun g => grpF C (g : Int)) (fun g => grpF L (g : Int)) (fun g => decide ((g : Int) ∈ H))
def wholeP (g : Gp) : Bool := !g.2.2.2 && (g.2.1 == 16)
def hugeP (g : Gp) : Bool := g.2.2.2
/-- the numbers of those with enough live pages -/
def outG (least : Int) (l : List Gp) : List Int := (l.filter fun g => decide (least ≤ g.2.2.1)).map (·.1)
theorem gsH_map (C L : List Sp) (H : List Int) : gsH C L H = grps.map fun g => (g, grpF C g, grpF L g, decide (g ∈ H)) := by
  unfold gsH gpsOf grps
  rw [List.map_map]; rfl
theorem outG_whole (C L : List Sp) (H : List Int) (least : Int) : outG least ((gsH C L H).filter wholeP) = groupsF C L H least := by
  unfold outG groupsF wholeF
  rw [gsH_map, List.filter_map, List.filter_map, List.map_map]
  rw [show ((fun x : Gp => x.1) ∘ fun g => (g, grpF C g, grpF L g, decide (g ∈ H))) = id from rfl, List.map_id]
  rfl
theorem outG_snoc (least : Int) (l : List Gp) (x : Gp) : outG least (l ++ [x]) = outG least l ++ if decide (least ≤ x.2.2.1) = true then [x.1] else [] := by
  unfold outG
  rw [List.filter_append, List.map_append]
  congr 1
  cases h : decide (least ≤ x.2.2.1) <;> simp_all
theorem filter_len_grps (C L : List Sp) (H : List Int) (p : Gp → Bool) : ((gsH C L H).filter p).length ≤ 64 := by
  refine Nat.le_trans (List.length_filter_le _ _) ?_
  rw [gsH, gpsOf_len]; exact Nat.le_refl _
/-- what Groups answers -/
def groupsA (C L : List Sp) (H : List Int) (least : Int) : List Int × Int :=
  if chkH C L H ≠ 0 then ([], chkH C L H) else if least < 0 ∨ 16 < least then ([], 2) else (groupsF C L H least, 0)
end Go.Pol
namespace Go.Proofs.YtpabnbhbcphfiaaGreat
open Go Go.Proofs Go.RowKit Go.Pol Go.Shelf
attribute [local go_sem] Oper.semAt_some Go.Pol.wide_fn Go.Pol.wide_depth Go.Pol.wide_fn' Go.Pol.wide_depth'

/-- the value of a state, and what its slices hold -/
structure StIs (w : World) (S : Value) (C L : List Sp) (H : List Int) : Prop where
  ex : ∃ (A1 A2 A3 : Option Addr) (n1 c1 n2 c2 n3 c3 : Nat), S = .agg #[.slice A1 n1 c1, .slice A2 n2 c2, .slice A3 n3 c3] ∧ C.length = n1 ∧ n1 ≤ maxLen ∧ RU w w.heap.size A1 C ∧
    L.length = n2 ∧ n2 ≤ maxLen ∧ RU w w.heap.size A2 L ∧ H.length = n3 ∧ n3 ≤ maxLen ∧ RI w w.heap.size A3 H
theorem StIs.on {w w' : World} {S : Value} {C L : List Sp} {H : List Int} (h : StIs w S C L H) (hb : Below w.heap.size w w') : StIs w' S C L H := by
  obtain ⟨A1, A2, A3, n1, c1, n2, c2, n3, c3, h0, h1, h2, h3, h4, h5, h6, h7, h8, h9⟩ := h.ex
  exact ⟨A1, A2, A3, n1, c1, n2, c2, n3, c3, h0, h1, h2, h3.on hb, h4, h5, h6.on hb, h7, h8, RI.on h9 hb⟩
theorem heap_two (w : World) (t1 t2 : TypeId) (v1 v2 : Value) : Blk ((w.alloc (.cells #[v1] t1)).alloc (.cells #[v2] t2)) w.heap.size t1 #[v1] ∧ Blk ((w.alloc (.cells #[v1] t1)).alloc (.cells #[v2] t2)) (w.heap.size + 1) t2 #[v2] ∧
    Below w.heap.size w ((w.alloc (.cells #[v1] t1)).alloc (.cells #[v2] t2)) ∧ ((w.alloc (.cells #[v1] t1)).alloc (.cells #[v2] t2)).heap.size = w.heap.size + 2 := by
  refine ⟨(Blk.new _ _ _).alloc _, ?_, ((Below.refl _ _).alloc (Nat.le_refl _) _).alloc (by simp) _, by simp⟩
  have := Blk.new (w.alloc (.cells #[v1] t1)) t2 #[v2]
  rw [World.size_alloc] at this; exact this
/-- what a list of numbers and an error look like that are handed back -/
def IntsE (r : List Int × Int) (w : World) (e : Ending) (w' : World) : Prop := ∃ (A : Option Addr) (cap : Nat), e = .returned (.tuple #[.slice A r.1.length cap, .int .i64 r.2]) ∧ RI w' w'.heap.size A r.1 ∧ Below w.heap.size w w'
theorem IntsE.err {w w' : World} {c : Int} (hb : Below w.heap.size w w') : IntsE ([], c) w (.returned (.tuple #[.slice none 0 0, .int .i64 c])) w' := ⟨none, 0, rfl, RI.nil, hb⟩
/-- such a list in memory of its own -/
def IntsN (r : List Int × Int) (w : World) (e : Ending) (w' : World) : Prop := ∃ (A : Option Addr) (cap : Nat), e = .returned (.tuple #[.slice A r.1.length cap, .int .i64 r.2]) ∧ RI w' w'.heap.size A r.1 ∧ (∀ b o, A = some ⟨b, o, none⟩ → w.heap.size ≤ b) ∧ Below w.heap.size w w'
theorem IntsN.err {w w' : World} {c : Int} (hb : Below w.heap.size w w') : IntsN ([], c) w (.returned (.tuple #[.slice none 0 0, .int .i64 c])) w' := ⟨none, 0, rfl, RI.nil, fun _ _ h => (by cases h), hb⟩
theorem IntsN.e {r : List Int × Int} {w : World} {e : Ending} {w' : World} (h : IntsN r w e w') : IntsE r w e w' := by
  obtain ⟨A, cap, h1, h2, _, h4⟩ := h
  exact ⟨A, cap, h1, h2, h4⟩
set_option maxRecDepth 100000 in
set_option maxHeartbeats 3200000 in
theorem groupsN_any (S : Value) (C L : List Sp) (H : List Int) (least : Int) (w : World) (hS : StIs w S C L H) :
    Calls Tryz.prog 96 #[S, .int .i64 least] w (IntsN (groupsA C L H least) w) := by
  obtain ⟨A1, A2, A3, n1, c1, n2, c2, n3, c3, rfl, h1, h2, h3, h4, h5, h6, h7, h8, h9⟩ := hS.ex
  obtain ⟨i0, hi, hz0, hz1, hz2⟩ := info_parts infoIn
  obtain ⟨s, hs⟩ : ∃ s, w.heap.size = s := ⟨_, rfl⟩
  obtain ⟨W0, hW0⟩ : ∃ W0, (w.alloc (.cells #[.slice A1 n1 c1, .slice A2 n2 c2, .slice A3 n3 c3] 94)).alloc (.cells #[.int .i64 least] 3) = W0 := ⟨_, rfl⟩
  have hs0 : W0.heap.size = s + 2 := by rw [← hW0, ← hs]; simp
  have hb0 : Below s w W0 := by rw [← hW0, ← hs]; exact ((Below.refl w.heap.size w).alloc (Nat.le_refl _) _).alloc (by simp) _
  have kH : Blk W0 s 94 #[.slice A1 n1 c1, .slice A2 n2 c2, .slice A3 n3 c3] := by rw [← hW0, ← hs]; exact (Blk.new _ _ _).alloc _
  have kB : Blk W0 (s + 1) 3 #[.int .i64 least] := by
    rw [← hW0, ← hs]; have := Blk.new (w.alloc (.cells #[.slice A1 n1 c1, .slice A2 n2 c2, .slice A3 n3 c3] 94)) 3 #[.int .i64 least]
    rw [World.size_alloc] at this; exact this
  have hbb : Below w.heap.size w W0 := by rw [hs]; exact hb0
  have HO := Lib.hid (open_any A1 A2 A3 n1 c1 n2 c2 n3 c3 C L H W0 h1 h2 (h3.on hbb) h4 h5 (h6.on hbb) h7 h8 (RI.on h9 hbb))
  have hout := Lib.hid (outG_whole C L H least)
  have hlen := Lib.hid (filter_len_grps C L H wholeP)
  have hA := Lib.hid (show groupsA C L H least = if chkH C L H ≠ 0 then ([], chkH C L H) else if least < 0 ∨ 16 < least then ([], 2) else (groupsF C L H least, 0) from rfl)
  have hgs := Lib.hid (show gpsOf (fun g => (g : Int)) (fun g => grpF C (g : Int)) (fun g => grpF L (g : Int)) (fun g => decide ((g : Int) ∈ H)) = gsH C L H from rfl)
  have hGF : Hid (groupsF C L H least = groupsF C L H least) := Lib.hid rfl
  generalize groupsA C L H least = R at *
  generalize groupsF C L H least = G at *
  generalize hER : chkH C L H = er at *
  have hER' := Lib.hid hER
  have cH := kH.cell
  have hW1 := Lib.hid hW0
  clear hW0 h1 h2 h3 h4 h5 h6 h7 h8 h9 hS hbb hER hGF
  refine calls_of_marks Tryz.func96 rfl ?_
  simp only [Tryz.ntmps96, List.size_toArray, List.length_cons, List.length_nil, Nat.reduceAdd, Nat.reduceSub, Array.replicate_succ, Array.replicate_zero, List.push_toArray, List.append_toArray, List.nil_append, List.cons_append]
  go_upto_region 1 with fail
  try simp only [Nat.add_assoc, Nat.reduceAdd]
  rw [hW1.out]
  clear hW1
  go_wp2_with fail
  refine HO.out.mono ?_
  rintro e w1 ⟨hb1, he, hz⟩
  have B1 := hb0.trans (hb1.mono (by omega))
  rw [hER'.out] at he hz
  by_cases h0 : er = 0
  case neg =>
    obtain rfl := he h0
    have h0' : (er != 0) = true := by simpa using h0
    have hA' : Hid (R = ([], er)) := Lib.hid (by rw [hA.out, if_pos h0])
    clear hA h0 he hz
    go_wp2_with fail
    exact leave_none (v := .tuple #[.slice none 0 0, .int .i64 er]) (by simp [results, Tryz.results96, go_sem]) (by rw [hA'.out]; exact IntsN.err (by rw [hs]; exact B1))
  case pos =>
    obtain ⟨b, cs, rfl, hbs, kL, hcs⟩ := hz h0
    have hA1 : Hid (R = if least < 0 ∨ 16 < least then ([], 2) else (G, 0)) := Lib.hid (by rw [hA.out, if_neg (by simp [h0])])
    have kB1 := kB.call hb1
    have cB1 := kB1.cell
    clear hA he hz h0
    by_cases hl0 : least < 0
    · have hl0' : decide (least < 0) = true := by simpa using hl0
      have hA2 : Hid (R = ([], 2)) := Lib.hid (by rw [hA1.out, if_pos (.inl hl0)])
      clear hA1 hl0
      go_wp2_with fail
      exact leave_none (v := .tuple #[.slice none 0 0, .int .i64 2]) (by simp [results, Tryz.results96, go_sem]) (by rw [hA2.out]; exact IntsN.err (by rw [hs]; exact B1))
    have hl0' : decide (least < 0) = false := by simpa using hl0
    by_cases hl1 : 16 < least
    · have hl1' : decide (16 < least) = true := by simpa using hl1
      have hA2 : Hid (R = ([], 2)) := Lib.hid (by rw [hA1.out, if_pos (.inr hl1)])
      clear hA1 hl0 hl1
      go_wp2_with fail
      exact leave_none (v := .tuple #[.slice none 0 0, .int .i64 2]) (by simp [results, Tryz.results96, go_sem]) (by rw [hA2.out]; exact IntsN.err (by rw [hs]; exact B1))
    have hl1' : decide (16 < least) = false := by simpa using hl1
    have hA2 : Hid (R = (G, 0)) := Lib.hid (by rw [hA1.out, if_neg (by omega)])
    clear hA1 hl0 hl1
    go_upto_region 7 with fail
    obtain ⟨Bo, hBo⟩ : ∃ Bo, w1.heap.size = Bo := ⟨_, rfl⟩
    have hb2 := (Below.refl w1.heap.size w1).alloc (Nat.le_refl _) (.cells #[.slice none 0 0] 47)
    have kO2 := Blk.new w1 47 #[.slice none 0 0]
    have hs2 : (w1.alloc (.cells #[.slice none 0 0] 47)).heap.size = Bo + 1 := by rw [World.size_alloc, hBo]
    rw [hBo] at kO2
    have kL2 := kL.call hb2
    have kB2 := kB1.call hb2
    have hs1 := hb1.size
    have B2 := B1.trans (hb2.mono (by have := B1.size; omega))
    generalize w1.alloc (.cells #[.slice none 0 0] 47) = w2 at *
    have HS := Lib.hid (some_any b 160 w2)
    have kQ := heap_two w2 191 207 (.pointer (some ⟨b, 0, none⟩)) (.func (.func 160) #[] #[])
    rw [hs2] at kQ HS
    try simp only [hBo]
    go_wp2_with fail
    refine HS.out.mono ?_
    rintro e w3 ⟨rfl, hw3⟩
    obtain ⟨q1, q2, q3, q4⟩ := kQ
    rw [← hw3] at q1 q2 q3 q4
    rw [← hs2] at q3
    clear hw3 HS
    have kL3 := kL2.call q3
    have kO3 := kO2.call q3
    have kB3 := kB2.call q3
    have B3 := B2.trans (q3.mono (by omega))
    have hsq := some1_seq wholeP 160 b (Bo + 1) (Bo + 1 + 1) cs (gsH C L H) _ _ _ _ _ _ (fun k => k = b ∨ k = Bo + 1 ∨ k = Bo + 1 + 1) w3 (.inl rfl) (.inr (.inl rfl)) (.inr (.inr rfl)) kL3 q1 q2 hcs hgs.out (enters_of Tryz.func160 (by kernel_rfl) rfl) (fun x W => whole_any x W)
    have hbB := kL.lt
    generalize (gsH C L H).filter wholeP = xs at *
    obtain ⟨D, hD⟩ : ∃ D, w3.heap.size = D := ⟨_, rfl⟩
    have hBs : s + 2 ≤ Bo := by rw [← hBo]; omega
    clear hb1 hb2 q1 q2 kL kB1 kL2 kB2 kO2 cB1 kL3 hcs hgs kH cH hbs
    go_wp2_with fail
    refine rangeXG 9 26 198 (gf := 170) rfl some1_enters hsq rfl (fun _ h => h.elim) (fun k h => by omega)
      (fun X pre W => BoxX X W Bo 47 3 (D + 2) 1 (outG least pre).length ((outG least pre).map (Value.int .i64)) ∧ Blk W (s + 1) 3 #[.int .i64 least] ∧ Below s w W ∧ D ≤ W.heap.size ∧ ∀ k, X k → D ≤ k)
      (fun _ _ _ _ => False)
      (fun X pre A B h hf => ⟨h.1.far hf (by rintro (h | h | h | h) <;> first | exact h | exact h.elim | omega) (fun g hg => by rintro (h | h | h | h) <;> first | exact h | exact h.elim | omega),
        hf.blk h.2.1 (by rintro (h' | h' | h' | h'); exact h'; have := h.2.2.2.2 _ h'; omega; omega; omega),
        h.2.2.1.trans (hf.below (by have := h.2.2.1.size; omega) (fun k hk => by rintro (h' | h' | h' | h'); exact h'; have := h.2.2.2.2 k h'; omega; omega; omega)), Nat.le_trans h.2.2.2.1 hf.size, h.2.2.2.2⟩)
      (fun _ _ _ _ _ h _ => h.elim)
      (fun X X' pre A h hX => ⟨h.1.new hX, h.2.1, h.2.2.1, h.2.2.2.1, fun k hk => (hX k hk).elim (h.2.2.2.2 k) (fun h' => by have := h.2.2.2.1; omega)⟩)
      ⟨⟨_, kO3, World.ownsRow_nil _ _ _ _, id, fun _ _ => id⟩, kB3, B3, by omega, fun _ h => h.elim⟩ ?assign ?body ?done (fun _ _ _ _ _ _ h _ => h.elim)
    case assign =>
      intro m l x W C hC
      obtain ⟨xn, xc, xl, xh⟩ := x
      simp only [gV, List.setIfInBounds_toArray, List.set_cons_succ, List.set_cons_zero] at hC ⊢
      gi_wp2
      exact hC
    case body =>
      rintro m l X pre x Bx Wa W hsz hXlt ⟨hbox, kB, hB, hDW, hXs⟩ hpre hBx kx hBa
      simp only [List.setIfInBounds_toArray, List.set_cons_succ, List.set_cons_zero]
      have hsn := Lib.hid (outG_snoc least pre x)
      have hpl : (outG least pre).length < 64 := by
        have h1 := hpre.length_le
        have h2 := hlen.out
        have h3 : (outG least pre).length ≤ pre.length := by unfold outG; rw [List.length_map]; exact List.length_filter_le _ _
        simp at h1
        omega
      obtain ⟨xn, xc, xl, xh⟩ := x
      dsimp only at kx hsn
      have cx := kx.cell
      have cB := kB.cell
      obtain ⟨v, hv, hrow, hXB, hXg⟩ := hbox.ex
      obtain ⟨A', cap', rfl, _⟩ := own_RIx hrow rfl
      generalize hO : outG least pre = O at *
      have hO' := Lib.hid hO
      clear hO hbox
      obtain ⟨pl, hpl2⟩ : ∃ pl, O.length = pl := ⟨_, rfl⟩
      have cv := hv.cell
      have fv := hv.frozen
      rw [hpl2] at hrow hv cv hpl hXg
      by_cases hge : least ≤ xl
      · have hge' : decide (least ≤ xl) = true := by simpa using hge
        have hsn2 : Hid (outG least (pre ++ [(xn, xc, xl, xh)]) = O ++ [xn]) := Lib.hid (by rw [hsn.out, if_pos hge'])
        have kN := Blk.new W 3 #[.int .i64 xn]
        have hXl2 : ∀ k, X k → k < W.heap.size := fun k hk => by have := (hXlt k hk).1; have := kx.lt; omega
        clear hsn hge
        gi_wp2_with (gi_at_builtin; refine wpListIn_append_x _ rfl (.tmp 31) (.tmp 34) 47 rfl (D + 2) 3 i0 (.int .i64 0) 1 8 Tryz.underlying47 hi hz0 hz1 hz2 rfl (by decide) _ pl (O.map (Value.int .i64)) rfl (hrow.alloc _) ⟨W.heap.size, 0, none⟩ 1 1 [.int .i64 xn] rfl rfl (news_i kN) ints_one (by unfold maxLen; omega) (by omega) (by simp; omega) ?_; intro v' w1 hown' hgrow hblk; rw [show O.map (Value.int .i64) ++ [Value.int .i64 xn] = (O ++ [xn]).map (Value.int .i64) by simp] at hown'; obtain ⟨hv1, hb2, hf2⟩ := BoxX.appended hv (by decide) hrow hXB hXg hown' hgrow hblk hXl2; obtain ⟨A2, cap2, rfl, _⟩ := own_RIx hown' (by simp; omega); have cv1 := hv1.cell; have fv1 := hv1.frozen)
        have hgx : ∀ g, (Value.slice A' pl cap').ownBlock = some g → D + 2 ≤ g ∧ ¬ X g := fun g hg => ⟨(hrow.lt g hg).1, hXg g hg⟩
        have hf3 := hf2 (fun k => k = Bo ∨ (Value.slice A' pl cap').ownBlock = some k) (.inl rfl) (fun g hg => .inr hg)
        refine ⟨hf3.mono fun k _ h => ?_, ?_, hf3.blk kB ?_, hB.trans (hf3.below (by have := hB.size; omega) fun k hk => ?_), Nat.le_trans hDW hf3.size, hXs⟩
        · rintro (h' | h' | h' | h')
          · rcases h with h | h
            · omega
            · have := hgx k h; omega
          · rcases h with h | h
            · exact hXB (h ▸ h')
            · exact (hgx k h).2 h'
          · rcases h with h | h
            · omega
            · have := hgx k h; omega
          · rcases h with h | h
            · omega
            · have := hgx k h; omega
        · rw [hsn2.out, List.length_append, List.length_singleton, hpl2]; exact hb2
        all_goals (rintro (h | h); omega; have := hgx _ h; omega)
      · have hge' : decide (least ≤ xl) = false := by simpa using hge
        have hsn2 : Hid (outG least (pre ++ [(xn, xc, xl, xh)]) = O) := Lib.hid (by rw [hsn.out, if_neg (by simp [hge']), List.append_nil])
        clear hsn hge
        gi_wp2_with fail
        exact ⟨Far.refl _ _, by rw [hsn2.out, hpl2]; exact ⟨_, hv, hrow, hXB, hXg⟩, kB, hB, hDW, hXs⟩
    case done =>
      rintro X W hsz ⟨hbox, kB, hB, hDW, hXs⟩ hd
      rw [hout.out] at hbox
      obtain ⟨v, hv, hrow, hXB, hXg⟩ := hbox.ex
      obtain ⟨A', cap', rfl, hru⟩ := own_RIx hrow rfl
      have cv := hv.cell
      have hfp : Far (fun k => k = D) W (W.putObj D (.deferred none)) := Far.putObj (T := fun k => k = D) (Far.refl _ _) (fun _ => rfl) _
      have hrow3 := ownsRow_far hrow hfp (fun g hg h => by have := (hrow.lt g hg).1; omega)
      obtain ⟨A2, cap2, he, hru, _, _, hfr, _⟩ := own_Rd hrow3
      cases he
      rw [hD] at hd ⊢
      go_wp2_with fail
      exact leave_mark (v := .tuple #[.slice A' G.length cap', .int .i64 0]) hd (by simp [results, Tryz.results96, go_sem]) (by rw [hA2.out]; exact ⟨A', cap', rfl, hru, fun b o h => by have := hfr b o h; omega, by rw [hs]; exact hB.trans (hfp.below (by have := hB.size; omega) (fun k hk => by omega))⟩)
theorem groups_any (S : Value) (C L : List Sp) (H : List Int) (least : Int) (w : World) (hS : StIs w S C L H) :
    Calls Tryz.prog 96 #[S, .int .i64 least] w (IntsE (groupsA C L H least) w) :=
  (groupsN_any S C L H least w hS).mono (fun _ _ h => h.e)
end Go.Proofs.YtpabnbhbcphfiaaGreat
namespace Go.Pol
open Go Go.RowKit
def idleG (l : List Gp) : Int := (l.map fun g => 16 - g.2.2.1).sum
theorem idleG_snoc (l : List Gp) (x : Gp) : idleG (l ++ [x]) = idleG l + (16 - x.2.2.1) := by simp [idleG]
theorem gsH_huge {C L : List Sp} {H : List Int} (h : chkH C L H = 0) : (gsH C L H).filter hugeP = H.map fun g => (g, grpF C g, grpF L g, true) := by
  obtain ⟨_, _, h3, _, h5⟩ := chkH_zero.1 h
  rw [gsH_map, List.filter_map]
  rw [show (hugeP ∘ fun g => (g, grpF C g, grpF L g, decide (g ∈ H))) = fun g => decide (g ∈ H) from rfl, huge_grps h3 h5]
  refine List.map_congr_left fun g hg => ?_
  rw [decide_eq_true hg]
theorem gsH_whole (C L : List Sp) (H : List Int) : ((gsH C L H).filter wholeP).length = (wholeF C H).length := by
  rw [gsH_map, List.filter_map, List.length_map]; rfl
theorem gsH_live {C L : List Sp} {H : List Int} {x : Gp} (h : x ∈ gsH C L H) : 0 ≤ x.2.2.1 ∧ x.2.2.1 ≤ 16 := by
  rw [gsH_map] at h
  obtain ⟨g, _, rfl⟩ := List.mem_map.1 h
  exact grpF_bound L g
theorem idleG_bound : ∀ (l : List Gp), (∀ x ∈ l, 0 ≤ x.2.2.1 ∧ x.2.2.1 ≤ 16) → 0 ≤ idleG l ∧ idleG l ≤ 16 * l.length
  | [], _ => by simp [idleG]
  | x :: r, h => by
    have h1 := h x (by simp)
    have h2 := idleG_bound r (fun y hy => h y (by simp [hy]))
    simp only [idleG, List.map_cons, List.sum_cons, List.length_cons] at h2 ⊢
    omega
theorem idleG_huge {C L : List Sp} {H : List Int} (h : chkH C L H = 0) : idleG ((gsH C L H).filter hugeP) = idleF L H := by
  rw [gsH_huge h, idleG, idleF, List.map_map]; rfl
/-- what Score answers -/
def scoreA (C L : List Sp) (H : List Int) : Int × Int × Int × Int :=
  if chkH C L H ≠ 0 then (0, 0, 0, chkH C L H) else (H.length, (wholeF C H).length, idleF L H, 0)
/-- a loop over groups that looks at none of them -/
theorem rangeXS {P : Program} {g : Operand} {ps : Array Tmp} {body : Code} {Q : Exit → Act → World → Prop} {a : Act} {w : World} (pb : Nat)
    {gf : Nat} {lb : Array Value} (hg : a.eval g = .func (.func gf) #[] lb) (eg : ∀ args w, (callFunc gf args).run P w = .ok (.enter gf args) w)
    {T K : Nat → Prop} {xs : List Gp} (hseq : SeqX P gf lb gA T K xs w) (hps : ps = #[pb])
    (hT : ∀ k, T k → k < w.heap.size) (hK : ∀ k, K k → k < w.heap.size)
    (I : (Nat → Prop) → List Gp → World → Prop) (Ix : Code → (Nat → Prop) → List Gp → World → Prop)
    (hI : ∀ X pre A B, I X pre A → Far (fun k => T k ∨ X k ∨ k = w.heap.size ∨ k = w.heap.size + 1) A B → I X pre B)
    (hIx : ∀ c X pre A B, Ix c X pre A → Far (fun k => T k ∨ X k ∨ k = w.heap.size ∨ k = w.heap.size + 1) A B → Ix c X pre B)
    (hnew : ∀ X X' pre A, I X pre A → (∀ k, X' k → X k ∨ A.heap.size ≤ k) → I X' pre A)
    (h0 : I (fun _ => False) [] w)
    (hbody : ∀ (m l : Nat) (X : Nat → Prop) (pre : List Gp) (x : Gp) (W : World), w.heap.size + 2 ≤ W.heap.size → (∀ k, X k → k < W.heap.size ∧ k ≠ w.heap.size ∧ k ≠ w.heap.size + 1) → I X pre W → pre ++ [x] <+: xs →
      body.wpIn (Fence.wide.inRound l) m P (xPost w.heap.size K X I Ix (pre ++ [x]) W) { tmps := a.tmps.setIfInBounds pb (gV x), defers := [] } W)
    (hdone : ∀ (X : Nat → Prop) (W : World), w.heap.size + 2 ≤ W.heap.size → I X xs W → W.heap[w.heap.size]? = some (.deferred (some [])) → Q .normal { a with defers := markOf w.heap.size :: a.defers } W)
    (hstop : ∀ (c : Code) (X : Nat → Prop) (pre : List Gp) (W : World), w.heap.size + 2 ≤ W.heap.size → pre <+: xs → Ix c X pre W → W.heap[w.heap.size]? = some (.deferred (some [])) → c.wp P Q { a with defers := markOf w.heap.size :: a.defers } W) :
    (Code.rangeFunc g ps .skip body).wp P Q a w := by
  subst hps
  refine rangeX hg eg hseq (fun _ => rfl) hT hK I Ix hI hIx hnew h0
    (fun _ x a' _ => a' = { tmps := a.tmps.setIfInBounds pb (gV x), defers := [] })
    (fun _ _ _ _ _ h _ => h) ?_ ?_ hdone hstop
  · intro m l x W C hs hC
    have e : (#[pb].zip (gA x)).foldl (fun t (p, v) => t.setIfInBounds p v) a.tmps = a.tmps.setIfInBounds pb (gV x) := by simp [gA]
    rw [e]
    refine wpIn_skip ?_
    exact hC _ _ (Far.refl _ W) rfl
  · rintro m l X pre x a' Wa W hs hX hi rfl hpre _ hfa
    exact hbody m l X pre x W hs (fun k hk => ⟨by have := hX k hk; have := hfa.size; omega, (hX k hk).2⟩) hi hpre
end Go.Pol
namespace Go.Proofs.YtpabnbhbcphfiaaGreat
open Go Go.Proofs Go.RowKit Go.Pol Go.Shelf
attribute [local go_sem] Oper.semAt_some Go.Pol.wide_fn Go.Pol.wide_depth Go.Pol.wide_fn' Go.Pol.wide_depth'

theorem three_set {W : World} {p q r : Nat} {t t' t'' : TypeId} {x y z : Value} (hpq : p ≠ q) (hpr : p ≠ r) (hqr : q ≠ r) (k1 : Blk W p t #[x]) (k2 : Blk W q t' #[y]) (k3 : Blk W r t'' #[z]) (a b c : Value) :
    Blk (((W.setCell ⟨p, 0, none⟩ a).setCell ⟨q, 0, none⟩ b).setCell ⟨r, 0, none⟩ c) p t #[a] ∧ Blk (((W.setCell ⟨p, 0, none⟩ a).setCell ⟨q, 0, none⟩ b).setCell ⟨r, 0, none⟩ c) q t' #[b] ∧ Blk (((W.setCell ⟨p, 0, none⟩ a).setCell ⟨q, 0, none⟩ b).setCell ⟨r, 0, none⟩ c) r t'' #[c] ∧
      Far (fun k => k = p ∨ k = q ∨ k = r) W (((W.setCell ⟨p, 0, none⟩ a).setCell ⟨q, 0, none⟩ b).setCell ⟨r, 0, none⟩ c) := by
  obtain ⟨h1, h2, h3⟩ := two_set hpq k1 k2 a b
  have h4 := h3.blk k3 (by omega)
  exact ⟨h1.far (p := ⟨r, 0, none⟩) hpr c, h2.far (p := ⟨r, 0, none⟩) hqr c, h4.set_ 0 c, Far.setCell (T := fun k => k = p ∨ k = q ∨ k = r) (p := ⟨r, 0, none⟩) (h3.mono fun _ _ h => h.elim .inl (fun h => .inr (.inl h))) (fun _ => .inr (.inr rfl)) c⟩
def ScoreS (s : Nat) (a b c : Int) (w : Go.World) : Prop := w.cell? ⟨s + 1, 0, none⟩ = some (.int .i64 a) ∧ w.cell? ⟨s + 2, 0, none⟩ = some (.int .i64 b) ∧ w.cell? ⟨s + 3, 0, none⟩ = some (.int .i64 c)
/-- the three counts -/
structure Cnt3 (w W : World) (s D : Nat) (X : Nat → Prop) (a b c : Int) : Prop where
  k1 : Blk W (s + 1) 3 #[.int .i64 a]
  k2 : Blk W (s + 2) 3 #[.int .i64 b]
  k3 : Blk W (s + 3) 3 #[.int .i64 c]
  below : Below s w W
  size : D ≤ W.heap.size
  own : ∀ k, X k → D ≤ k
theorem Cnt3.far {w A B : World} {s D D0 : Nat} {X : Nat → Prop} {a b c : Int} (h : Cnt3 w A s D X a b c) (hf : Far (fun k => False ∨ X k ∨ k = D0 ∨ k = D0 + 1) A B) (hD : s + 4 ≤ D) (h0 : D ≤ D0) : Cnt3 w B s D X a b c := by
  have hn : ∀ k, k < D → ¬ (False ∨ X k ∨ k = D0 ∨ k = D0 + 1) := by
    rintro k hk (h' | h' | h' | h')
    · exact h'
    · have := h.own k h'; omega
    · omega
    · omega
  exact ⟨hf.blk h.k1 (hn _ (by omega)), hf.blk h.k2 (hn _ (by omega)), hf.blk h.k3 (hn _ (by omega)), h.below.trans (hf.below (by have := h.size; omega) (fun k hk => hn k (by omega))), Nat.le_trans h.size hf.size, h.own⟩
theorem Cnt3.new {w W : World} {s D : Nat} {X X' : Nat → Prop} {a b c : Int} (h : Cnt3 w W s D X a b c) (hX : ∀ k, X' k → X k ∨ W.heap.size ≤ k) : Cnt3 w W s D X' a b c :=
  ⟨h.k1, h.k2, h.k3, h.below, h.size, fun k hk => (hX k hk).elim (h.own k) (fun h' => by have := h.size; omega)⟩
theorem Cnt3.later {w A B : World} {s D D2 : Nat} {X : Nat → Prop} {a b c : Int} (h : Cnt3 w A s D X a b c) (hb : Below A.heap.size A B) (hD : D2 ≤ B.heap.size) (hs4 : s + 4 ≤ D) : Cnt3 w B s D2 (fun _ => False) a b c :=
  ⟨h.k1.call hb, h.k2.call hb, h.k3.call hb, h.below.trans (hb.mono (by have := h.size; omega)), hD, fun _ h => h.elim⟩

set_option maxRecDepth 100000 in
set_option maxHeartbeats 3200000 in
theorem score_any (S : Value) (C L : List Sp) (H : List Int) (w : World) (hS : StIs w S C L H) :
    Calls Tryz.prog 98 #[S] w fun e w' => e = .returned (.tuple #[.int .i64 (scoreA C L H).1, .int .i64 (scoreA C L H).2.1, .int .i64 (scoreA C L H).2.2.1, .int .i64 (scoreA C L H).2.2.2]) ∧ Below w.heap.size w w' := by
  obtain ⟨A1, A2, A3, n1, c1, n2, c2, n3, c3, rfl, h1, h2, h3, h4, h5, h6, h7, h8, h9⟩ := hS.ex
  obtain ⟨s, hs⟩ : ∃ s, w.heap.size = s := ⟨_, rfl⟩
  obtain ⟨W0, hW0⟩ : ∃ W0, (((w.alloc (.cells #[.slice A1 n1 c1, .slice A2 n2 c2, .slice A3 n3 c3] 94)).alloc (.cells #[.int .i64 0] 3)).alloc (.cells #[.int .i64 0] 3)).alloc (.cells #[.int .i64 0] 3) = W0 := ⟨_, rfl⟩
  have hs0 : W0.heap.size = s + 4 := by rw [← hW0, ← hs]; simp
  have hb0 : Below s w W0 := by rw [← hW0, ← hs]; exact ((((Below.refl w.heap.size w).alloc (Nat.le_refl _) _).alloc (by simp) _).alloc (by simp; omega) _).alloc (by simp; omega) _
  have kH : Blk W0 s 94 #[.slice A1 n1 c1, .slice A2 n2 c2, .slice A3 n3 c3] := by rw [← hW0, ← hs]; exact (((Blk.new _ _ _).alloc _).alloc _).alloc _
  have k1 : Blk W0 (s + 1) 3 #[.int .i64 0] := by
    rw [← hW0, ← hs]; have := Blk.new (w.alloc (.cells #[.slice A1 n1 c1, .slice A2 n2 c2, .slice A3 n3 c3] 94)) 3 #[.int .i64 0]
    rw [World.size_alloc] at this; exact (this.alloc _).alloc _
  have k2 : Blk W0 (s + 2) 3 #[.int .i64 0] := by
    rw [← hW0, ← hs]; have := Blk.new ((w.alloc (.cells #[.slice A1 n1 c1, .slice A2 n2 c2, .slice A3 n3 c3] 94)).alloc (.cells #[.int .i64 0] 3)) 3 #[.int .i64 0]
    simp only [World.size_alloc] at this; exact this.alloc _
  have k3 : Blk W0 (s + 3) 3 #[.int .i64 0] := by
    rw [← hW0, ← hs]; have := Blk.new (((w.alloc (.cells #[.slice A1 n1 c1, .slice A2 n2 c2, .slice A3 n3 c3] 94)).alloc (.cells #[.int .i64 0] 3)).alloc (.cells #[.int .i64 0] 3)) 3 #[.int .i64 0]
    simp only [World.size_alloc] at this; exact this
  have hbb : Below w.heap.size w W0 := by rw [hs]; exact hb0
  have HO := Lib.hid (open_any A1 A2 A3 n1 c1 n2 c2 n3 c3 C L H W0 h1 h2 (h3.on hbb) h4 h5 (h6.on hbb) h7 h8 (RI.on h9 hbb))
  have hA := Lib.hid (show scoreA C L H = if chkH C L H ≠ 0 then (0, 0, 0, chkH C L H) else ((H.length : Int), ((wholeF C H).length : Int), idleF L H, 0) from rfl)
  have hgs := Lib.hid (show gpsOf (fun g => (g : Int)) (fun g => grpF C (g : Int)) (fun g => grpF L (g : Int)) (fun g => decide ((g : Int) ∈ H)) = gsH C L H from rfl)
  have hlv := Lib.hid (fun x (h : x ∈ gsH C L H) => gsH_live h)
  have hl1 := filter_len_grps C L H hugeP
  have hl2 := filter_len_grps C L H wholeP
  have hwl := Lib.hid (gsH_whole C L H)
  have hhl := Lib.hid (fun h : chkH C L H = 0 => (⟨by rw [gsH_huge h, List.length_map], idleG_huge h⟩ : ((gsH C L H).filter hugeP).length = H.length ∧ idleG ((gsH C L H).filter hugeP) = idleF L H))
  generalize scoreA C L H = R at *
  generalize hER : chkH C L H = er at *
  have hER' := Lib.hid hER
  have cH := kH.cell
  have hW1 := Lib.hid hW0
  clear hW0 h1 h2 h3 h4 h5 h6 h7 h8 h9 hS hbb hER
  refine calls_of_marks Tryz.func98 rfl ?_
  simp only [Tryz.ntmps98, List.size_toArray, List.length_cons, List.length_nil, Nat.reduceAdd, Nat.reduceSub, Array.replicate_succ, Array.replicate_zero, List.push_toArray, List.append_toArray, List.nil_append, List.cons_append]
  go_upto_region 1 with fail
  try simp only [Nat.add_assoc, Nat.reduceAdd]
  rw [hW1.out]
  clear hW1
  go_wp2_with fail
  refine HO.out.mono ?_
  rintro e w1 ⟨hb1, he, hz⟩
  have B1 := hb0.trans (hb1.mono (by omega))
  rw [hER'.out] at he hz
  have k11 := k1.call hb1
  have k21 := k2.call hb1
  have k31 := k3.call hb1
  by_cases h0 : er = 0
  case neg =>
    obtain rfl := he h0
    have h0' : (er != 0) = true := by simpa using h0
    have hA' : Hid (R = (0, 0, 0, er)) := Lib.hid (by rw [hA.out, if_pos h0])
    clear hA h0 he hz
    have z1 := k11.cell
    have z2 := k21.cell
    have z3 := k31.cell
    have y1 := k11.frozen
    have y2 := k21.frozen
    have y3 := k31.frozen
    go_wp2_with fail
    obtain ⟨k4, k5, k6, hf⟩ := three_set (by omega) (by omega) (by omega) k11 k21 k31 (.int .i64 0) (.int .i64 0) (.int .i64 0)
    have x1 := k4.cell
    have x2 := k5.cell
    have x3 := k6.cell
    exact leave_none (v := .tuple #[.int .i64 0, .int .i64 0, .int .i64 0, .int .i64 er]) (by simp [results, Tryz.results98, go_sem, x1, x2, x3]) ⟨by rw [hA'.out], by rw [hs]; exact B1.trans (hf.below (by have := B1.size; omega) (fun k hk => by omega))⟩
  case pos =>
    subst h0
    obtain ⟨b, cs, rfl, hbs, kL, hcs⟩ := hz rfl
    obtain ⟨e1, e2⟩ := hhl.out rfl
    have hA2 : Hid (R = ((((gsH C L H).filter hugeP).length : Int), (((gsH C L H).filter wholeP).length : Int), idleG ((gsH C L H).filter hugeP), 0)) := Lib.hid (by rw [hA.out, if_neg (by simp), e1, e2, hwl.out])
    have hs1 := hb1.size
    have hbB := kL.lt
    have HS := Lib.hid (some_any b 109 w1)
    have kQ := heap_two w1 191 207 (.pointer (some ⟨b, 0, none⟩)) (.func (.func 109) #[] #[])
    obtain ⟨Bo, hBo⟩ : ∃ Bo, w1.heap.size = Bo := ⟨_, rfl⟩
    rw [hBo] at kQ HS hbB hs1
    clear hA he hz hhl hwl e1 e2 kH cH k1 k2 k3
    go_wp2_with fail
    refine HS.out.mono ?_
    rintro e w3 ⟨rfl, hw3⟩
    obtain ⟨q1, q2, q3, q4⟩ := kQ
    rw [← hw3] at q1 q2 q3 q4
    rw [← hBo] at q3
    clear hw3 HS
    have kL3 := kL.call q3
    have hsq := some1_seq hugeP 109 b Bo (Bo + 1) cs (gsH C L H) _ _ _ _ _ _ (fun k => k = b ∨ k = Bo ∨ k = Bo + 1) w3 (.inl rfl) (.inr (.inl rfl)) (.inr (.inr rfl)) kL3 q1 q2 hcs hgs.out (enters_of Tryz.func109 (by kernel_rfl) rfl) (fun x W => huge_any x W)
    have hc0 : Cnt3 w w3 s w3.heap.size (fun _ => False) 0 0 0 := ⟨k11.call q3, k21.call q3, k31.call q3, B1.trans (q3.mono (by have := B1.size; omega)), Nat.le_refl _, fun _ h => h.elim⟩
    have hxs := Lib.hid (fun x (h : x ∈ (gsH C L H).filter hugeP) => hlv.out x (List.mem_filter.1 h).1)
    generalize (gsH C L H).filter hugeP = xs at *
    obtain ⟨D, hD⟩ : ∃ D, w3.heap.size = D := ⟨_, rfl⟩
    rw [hD] at hc0
    clear hb1 q1 q2 kL k11 k21 k31 B1 q3
    go_wp2_with fail
    refine rangeXG 7 18 198 (gf := 170) rfl some1_enters hsq rfl (fun _ h => h.elim) (fun k h => by omega)
      (fun X pre W => Cnt3 w W s D X (pre.length : Int) 0 (idleG pre) ∧ Blk W b 201 cs)
      (fun _ _ _ _ => False)
      (fun X pre A B h hf => ⟨h.1.far hf (by omega) (by omega), hf.blk h.2 (by rintro (h' | h' | h' | h'); exact h'; have := h.1.own _ h'; omega; omega; omega)⟩)
      (fun _ _ _ _ _ h _ => h.elim)
      (fun X X' pre A h hX => ⟨h.1.new hX, h.2⟩)
      ⟨hc0, kL3⟩ ?assign ?body ?done (fun _ _ _ _ _ _ h _ => h.elim)
    case assign =>
      intro m l x W C hC
      obtain ⟨xn, xc, xl, xh⟩ := x
      simp only [gV, List.setIfInBounds_toArray, List.set_cons_succ, List.set_cons_zero] at hC ⊢
      gi_wp2
      exact hC
    case body =>
      rintro m l X pre x Bx Wa W hsz hXlt ⟨hC, kL⟩ hpre hBx kx hBa
      simp only [List.setIfInBounds_toArray, List.set_cons_succ, List.set_cons_zero]
      have hsn := Lib.hid (idleG_snoc pre x)
      have hpl : pre.length < 64 := by
        have h1 := hpre.length_le
        simp at h1
        omega
      have hib := idleG_bound pre (fun y hy => hxs.out y (hpre.subset (by simp [hy])))
      have hxl := hxs.out x (hpre.subset (by simp))
      obtain ⟨xn, xc, xl, xh⟩ := x
      dsimp only at kx hsn hxl
      have hln : (pre ++ [(xn, xc, xl, xh)]).length = pre.length + 1 := by simp
      generalize idleG pre = ig at *
      obtain ⟨pl, hpl2⟩ : ∃ pl, pre.length = pl := ⟨_, rfl⟩
      rw [hpl2] at hC hpl hib
      have cx := kx.cell
      have z1 := hC.k1.cell
      have z2 := hC.k2.cell
      have z3 := hC.k3.cell
      have y1 := hC.k1.frozen
      have y3 := hC.k3.frozen
      gi_wp2_with fail
      obtain ⟨k4, k6, hf⟩ := two_set (by omega) hC.k1 hC.k3 (.int .i64 ((pl : Int) + 1)) (.int .i64 (ig + (16 - xl)))
      refine ⟨hf.mono fun k _ h => ?_, ⟨by rw [hln, hpl2]; exact k4, hf.blk hC.k2 (by omega), by rw [hsn.out]; exact k6, hC.below.trans (hf.below (by have := hC.below.size; omega) (fun k hk => by omega)), Nat.le_trans hC.size hf.size, hC.own⟩, hf.blk kL (by omega)⟩
      rintro (h' | h' | h' | h')
      · omega
      · have := hC.own k h'; omega
      · omega
      · omega
    case done =>
      rintro X W hsz ⟨hC, kL⟩ hd
      rw [hD] at hd hsz
      have HS := Lib.hid (some_any b 160 W)
      have kQ := heap_two W 191 207 (.pointer (some ⟨b, 0, none⟩)) (.func (.func 160) #[] #[])
      obtain ⟨Bp, hBp⟩ : ∃ Bp, W.heap.size = Bp := ⟨_, rfl⟩
      rw [hBp] at kQ HS hsz
      have hib := idleG_bound xs hxs.out
      obtain ⟨xl, hxl⟩ : ∃ xl, xs.length = xl := ⟨_, rfl⟩
      obtain ⟨ig, hig⟩ : ∃ ig, idleG xs = ig := ⟨_, rfl⟩
      rw [hxl, hig] at hC hA2
      rw [hD]
      clear hsq hxs hib hig hxl kL3 hc0
      go_wp2_with fail
      refine HS.out.mono ?_
      rintro e w5 ⟨rfl, hw3⟩
      obtain ⟨q1, q2, q3, q4⟩ := kQ
      rw [← hw3] at q1 q2 q3 q4
      rw [← hBp] at q3
      clear hw3 HS
      have d5 := (q3.block D (by omega)).trans hd
      have kL5 := kL.call q3
      have hsq := some1_seq wholeP 160 b Bp (Bp + 1) cs (gsH C L H) _ _ _ _ _ _ (fun k => k = b ∨ k = Bp ∨ k = Bp + 1) w5 (.inl rfl) (.inr (.inl rfl)) (.inr (.inr rfl)) kL5 q1 q2 hcs hgs.out (enters_of Tryz.func160 (by kernel_rfl) rfl) (fun x W => whole_any x W)
      have hc5 := hC.later (D2 := w5.heap.size) q3 (Nat.le_refl _) (by omega)
      generalize (gsH C L H).filter wholeP = ys at *
      obtain ⟨E, hE⟩ : ∃ E, w5.heap.size = E := ⟨_, rfl⟩
      rw [hE] at hc5
      clear q1 q2 kL q3 hC hd hcs hlv
      go_wp2_with fail
      refine rangeXS 28 (gf := 170) rfl some1_enters hsq rfl (fun _ h => h.elim) (fun k h => by omega)
        (fun X pre W => Cnt3 w W s E X (xl : Int) (pre.length : Int) ig ∧ W.heap[D]? = some (.deferred (some [])) )
        (fun _ _ _ _ => False)
        (fun X pre A B h hf => ⟨h.1.far hf (by omega) (by omega), hf.same h.2 (by rintro (h' | h' | h' | h'); exact h'; have := h.1.own _ h'; omega; omega; omega)⟩)
        (fun _ _ _ _ _ h _ => h.elim)
        (fun X X' pre A h hX => ⟨h.1.new hX, h.2⟩)
        ⟨hc5, d5⟩ ?body2 ?done2 (fun _ _ _ _ _ _ h _ => h.elim)
      case body2 =>
        rintro m l X pre x W2 hsz2 hXlt ⟨hC, hd2⟩ hpre
        simp only [List.setIfInBounds_toArray, List.set_cons_succ, List.set_cons_zero]
        have hpl : pre.length < 64 := by
          have h1 := hpre.length_le
          simp at h1
          omega
        have hln : (pre ++ [x]).length = pre.length + 1 := by simp
        obtain ⟨pl, hpl2⟩ : ∃ pl, pre.length = pl := ⟨_, rfl⟩
        rw [hpl2] at hC hpl
        have z2 := hC.k2.cell
        have y2 := hC.k2.frozen
        gi_wp2_with fail
        have hf4 : Far (fun k => k = s + 2) W2 (W2.setCell ⟨s + 2, 0, none⟩ (.int .i64 ((pl : Int) + 1))) := Far.setCell (T := fun k => k = s + 2) (p := ⟨s + 2, 0, none⟩) (Far.refl _ _) (fun _ => rfl) _
        refine ⟨hf4.mono fun k _ h => ?_, ⟨hf4.blk hC.k1 (by omega), by rw [hln, hpl2]; exact hC.k2.set_ 0 _, hf4.blk hC.k3 (by omega), hC.below.trans (hf4.below (by have := hC.below.size; omega) (fun k hk => by omega)), Nat.le_trans hC.size hf4.size, hC.own⟩, hf4.same hd2 (by omega)⟩
        rintro (h' | h' | h' | h')
        · omega
        · have := hC.own k h'; omega
        · omega
        · omega
      case done2 =>
        rintro X W2 hsz2 ⟨hC, hd2⟩ he2
        rw [hE] at he2 hsz2 ⊢
        obtain ⟨yl, hyl⟩ : ∃ yl, ys.length = yl := ⟨_, rfl⟩
        rw [hyl] at hC hA2
        clear hsq hyl
        go_upto_region 10 with fail
        refine wp_noPanic ?_
        refine wp_region_T (ScoreS s xl yl ig) [] (by kernel_rfl) ?_
        have hS : ScoreS s xl yl ig W2.drew := ⟨hC.k1.cell 0, hC.k2.cell 0, hC.k3.cell 0⟩
        refine' wpAnyT_take (i := 0) (v := _) ?hiT0 (by kernel_rfl) ?hQT0 (Or.inl ⟨?hwT0, ?hyT0⟩) hS ?reT0
        case hiT0 => (simp only [List.getElem?_toArray, List.getElem?_cons_zero]; rfl)
        case hQT0 => exact fun _ _ _ h => h
        case hwT0 => rfl
        case hyT0 => (intro wS hSw; obtain ⟨_, _, _⟩ := hSw; go_simp; (try with_reducible rfl))
        try simp only [Act.put, List.setIfInBounds_toArray, List.set_cons_zero, List.set_cons_succ]
        refine' wpAnyT_take (i := 1) (v := _) ?hiT1 (by kernel_rfl) ?hQT1 (Or.inl ⟨?hwT1, ?hyT1⟩) hS ?reT1
        case hiT1 => (simp only [List.getElem?_toArray, List.getElem?_cons_succ, List.getElem?_cons_zero]; rfl)
        case hQT1 => exact fun _ _ _ h => h
        case hwT1 => rfl
        case hyT1 => (intro wS hSw; obtain ⟨_, _, _⟩ := hSw; go_simp; (try with_reducible rfl))
        try simp only [Act.put, List.setIfInBounds_toArray, List.set_cons_zero, List.set_cons_succ]
        refine' wpAnyT_take (i := 2) (v := _) ?hiT2 (by kernel_rfl) ?hQT2 (Or.inl ⟨?hwT2, ?hyT2⟩) hS ?reT2
        case hiT2 => (simp only [List.getElem?_toArray, List.getElem?_cons_succ, List.getElem?_cons_zero]; rfl)
        case hQT2 => exact fun _ _ _ h => h
        case hwT2 => rfl
        case hyT2 => (intro wS hSw; obtain ⟨_, _, _⟩ := hSw; go_simp; (try with_reducible rfl))
        try simp only [Act.put, List.setIfInBounds_toArray, List.set_cons_zero, List.set_cons_succ]
        have hdD := (show W2.drew.heap[D]? = some (.deferred (some [])) from hd2)
        have hdE := (show W2.drew.heap[E]? = some (.deferred (some [])) from he2)
        have k1d := hC.k1.drew
        have k2d := hC.k2.drew
        have k3d := hC.k3.drew
        have Bd := hC.below.trans ((Below.refl W2.heap.size W2).drew.mono (by have := hC.below.size; omega))
        have hszd : W2.drew.heap.size = W2.heap.size := rfl
        generalize W2.drew = w6 at *
        clear hC hd2 he2
        refine wpAnyT_ready (rs := [3]) (by kernel_rfl) (by simp) ?_
        refine' AllReadyT.cons ?hi3 (fun K hK => ?st3) AllReadyT.nil
        case hi3 => (simp only [List.getElem?_toArray, List.getElem?_cons_succ, List.getElem?_cons_zero]; rfl)
        have z1 := k1d.cell
        have y1 := k1d.frozen
        go_simp
        have hf5 : Far (fun k => k = s + 1) w6 (w6.setCell ⟨s + 1, 0, none⟩ (.int .i64 xl)) := Far.setCell (T := fun k => k = s + 1) (p := ⟨s + 1, 0, none⟩) (Far.refl _ _) (fun _ => rfl) _
        have k15 : Blk (w6.setCell ⟨s + 1, 0, none⟩ (.int .i64 xl)) (s + 1) 3 #[.int .i64 xl] := k1d.set_ 0 (.int .i64 xl)
        have k25 := hf5.blk k2d (by omega)
        have k35 := hf5.blk k3d (by omega)
        refine hK.out _ _ (fun _ => ⟨k15.cell 0, k25.cell 0, k35.cell 0⟩) (fun hS => ?_)
        clear hK K
        replace hS := hS rfl
        have hdD5 := hf5.same hdD (by omega)
        have hdE5 := hf5.same hdE (by omega)
        have B5 := Bd.trans (hf5.below (by have := Bd.size; omega) (fun k hk => by omega))
        have hs5 := hf5.size
        clear z1 y1 hf5 k1d k2d k3d hdD hdE
        generalize (w6.setCell ⟨s + 1, 0, none⟩ (.int .i64 xl)) = w7 at *
        try simp only [Act.put, List.setIfInBounds_toArray, List.set_cons_zero, List.set_cons_succ]
        refine wpAnyT_ready (rs := [4]) (by kernel_rfl) (by simp) ?_
        refine' AllReadyT.cons ?hi4 (fun K hK => ?st4) AllReadyT.nil
        case hi4 => (simp only [List.getElem?_toArray, List.getElem?_cons_succ, List.getElem?_cons_zero]; rfl)
        have z2 := k25.cell
        have y2 := k25.frozen
        go_simp
        have hf6 : Far (fun k => k = s + 2) w7 (w7.setCell ⟨s + 2, 0, none⟩ (.int .i64 yl)) := Far.setCell (T := fun k => k = s + 2) (p := ⟨s + 2, 0, none⟩) (Far.refl _ _) (fun _ => rfl) _
        have k26 : Blk (w7.setCell ⟨s + 2, 0, none⟩ (.int .i64 yl)) (s + 2) 3 #[.int .i64 yl] := k25.set_ 0 (.int .i64 yl)
        have k16 := hf6.blk k15 (by omega)
        have k36 := hf6.blk k35 (by omega)
        refine hK.out _ _ (fun _ => ⟨k16.cell 0, k26.cell 0, k36.cell 0⟩) (fun hS => ?_)
        clear hK K
        replace hS := hS rfl
        have hdD6 := hf6.same hdD5 (by omega)
        have hdE6 := hf6.same hdE5 (by omega)
        have B6 := B5.trans (hf6.below (by have := B5.size; omega) (fun k hk => by omega))
        have hs6 := hf6.size
        clear z2 y2 hf6 k15 k25 k35 hdD5 hdE5
        generalize (w7.setCell ⟨s + 2, 0, none⟩ (.int .i64 yl)) = w8 at *
        try simp only [Act.put, List.setIfInBounds_toArray, List.set_cons_zero, List.set_cons_succ]
        refine wpAnyT_ready (rs := [5]) (by kernel_rfl) (by simp) ?_
        refine' AllReadyT.cons ?hi5 (fun K hK => ?st5) AllReadyT.nil
        case hi5 => (simp only [List.getElem?_toArray, List.getElem?_cons_succ, List.getElem?_cons_zero]; rfl)
        have z3 := k36.cell
        have y3 := k36.frozen
        go_simp
        have hf7 : Far (fun k => k = s + 3) w8 (w8.setCell ⟨s + 3, 0, none⟩ (.int .i64 ig)) := Far.setCell (T := fun k => k = s + 3) (p := ⟨s + 3, 0, none⟩) (Far.refl _ _) (fun _ => rfl) _
        have k37 : Blk (w8.setCell ⟨s + 3, 0, none⟩ (.int .i64 ig)) (s + 3) 3 #[.int .i64 ig] := k36.set_ 0 (.int .i64 ig)
        have k17 := hf7.blk k16 (by omega)
        have k27 := hf7.blk k26 (by omega)
        refine hK.out _ _ (fun _ => ⟨k17.cell 0, k27.cell 0, k37.cell 0⟩) (fun hS => ?_)
        clear hK K
        replace hS := hS rfl
        have hdD7 := hf7.same hdD6 (by omega)
        have hdE7 := hf7.same hdE6 (by omega)
        have B7 := B6.trans (hf7.below (by have := B6.size; omega) (fun k hk => by omega))
        have hs7 := hf7.size
        clear z3 y3 hf7 k16 k26 k36 hdD6 hdE6
        generalize (w8.setCell ⟨s + 3, 0, none⟩ (.int .i64 ig)) = w9 at *
        try simp only [Act.put, List.setIfInBounds_toArray, List.set_cons_zero, List.set_cons_succ]
        refine' wpAnyT_take (i := 6) (v := _) ?hiT6 (by kernel_rfl) ?hQT6 (Or.inl ⟨?hwT6, ?hyT6⟩) hS ?reT6
        case hiT6 => (simp only [List.getElem?_toArray, List.getElem?_cons_succ, List.getElem?_cons_zero]; rfl)
        case hQT6 => exact fun _ _ _ h => h
        case hwT6 => rfl
        case hyT6 => (intro wS hSw; obtain ⟨_, _, _⟩ := hSw; go_simp; (try with_reducible rfl))
        try simp only [Act.put, List.setIfInBounds_toArray, List.set_cons_zero, List.set_cons_succ]
        refine wpAnyT_done (by kernel_rfl) ?_ _
        refine noPanic_normal ?_
        go_wp2_with fail
        have hfp : Far (fun k => k = D ∨ k = E) w9 (World.putObj (World.putObj w9 E (.deferred none)) D (.deferred none)) := Far.putObj (T := fun k => k = D ∨ k = E) (Far.putObj (T := fun k => k = D ∨ k = E) (Far.refl _ _) (fun _ => .inr rfl) _) (fun _ => .inl rfl) _
        have hB9 := B7.trans (hfp.below (by have := B7.size; omega) (fun k hk => by omega))
        have x1 := (hfp.blk k17 (by omega)).cell
        have x2 := (hfp.blk k27 (by omega)).cell
        have x3 := (hfp.blk k37 (by omega)).cell
        exact leave_mark2 (v := .tuple #[.int .i64 xl, .int .i64 yl, .int .i64 ig, .int .i64 0]) (by omega) hdD7 hdE7 (by simp [results, Tryz.results98, go_sem, x1, x2, x3]) ⟨by rw [hA2.out], by rw [hs]; exact hB9⟩
end Go.Proofs.YtpabnbhbcphfiaaGreat
namespace Go.Pol
open Go
/-- the idle pages of groups that are not huge -/
def haveF (gs : List Gp) : Int := (gs.map fun g => if g.2.2.2 then 0 else g.2.1 - g.2.2.1).sum
/-- the groups whose pages are needed too -/
def cutH (n : Int) : Int → List Gp → List Gp
  | _, [] => []
  | h, g :: r => if n ≤ h then [] else g :: cutH n (h + (16 - g.2.2.1)) r
def numsF (l : List Gp) : List Int := l.map (·.1)
/-- is a page idle, and in no group that stays huge? -/
def freeP (C L : List Sp) (H T : List Int) (p : Nat) : Bool := mem (p : Int) C && !mem (p : Int) L && !(decide ((p : Int) / 16 ∈ H) && !decide ((p : Int) / 16 ∈ T))
def firH (n : Int) (C L : List Sp) (H T : List Int) (k : Nat) : List Nat := ((List.range k).filter (freeP C L H T)).take n.toNat
def onesF (l : List Nat) : List Sp := l.map fun (p : Nat) => ((p : Int), (1 : Int))
/-- what Choose answers, with the huge groups in the order in which they are taken -/
def chooseA (C L : List Sp) (H : List Int) (n : Int) (ord : List Gp) : List Sp × Int :=
  if chkH C L H ≠ 0 then ([], chkH C L H) else if n < 0 ∨ 1024 < n then ([], 2) else
  if haveF (gsH C L H) + idleG (cutH n (haveF (gsH C L H)) ord) < n then ([], 4)
  else (setOf (onesF (firH n C L H (numsF (cutH n (haveF (gsH C L H)) ord)) 1024)), 0)
theorem onesF_snoc (l : List Nat) (k : Nat) : onesF (l ++ [k]) = onesF l ++ [((k : Int), (1 : Int))] := by simp [onesF]
theorem haveF_snoc (l : List Gp) (g : Gp) : haveF (l ++ [g]) = haveF l + if g.2.2.2 then 0 else g.2.1 - g.2.2.1 := by simp [haveF]
theorem haveF_bound : ∀ (l : List Gp), (∀ x ∈ l, 0 ≤ x.2.1 ∧ x.2.1 ≤ 16 ∧ 0 ≤ x.2.2.1 ∧ x.2.2.1 ≤ 16) → -16 * (l.length : Int) ≤ haveF l ∧ haveF l ≤ 16 * l.length
  | [], _ => by simp [haveF]
  | x :: r, h => by
    have h1 := h x (by simp)
    have h2 := haveF_bound r (fun y hy => h y (by simp [hy]))
    have e : haveF (x :: r) = (if x.2.2.2 then 0 else x.2.1 - x.2.2.1) + haveF r := by simp [haveF]
    rw [e, List.length_cons]
    split
    · omega
    · omega
theorem gsH_bounds {C L : List Sp} {H : List Int} {x : Gp} (h : x ∈ gsH C L H) : 0 ≤ x.2.1 ∧ x.2.1 ≤ 16 ∧ 0 ≤ x.2.2.1 ∧ x.2.2.1 ≤ 16 := by
  rw [gsH_map] at h
  obtain ⟨g, _, rfl⟩ := List.mem_map.1 h
  have h1 := grpF_bound C g
  have h2 := grpF_bound L g
  exact ⟨h1.1, h1.2, h2.1, h2.2⟩
theorem gsH_num {C L : List Sp} {H : List Int} {x : Gp} (h : x ∈ gsH C L H) : 0 ≤ x.1 ∧ x.1 < 64 := by
  rw [gsH_map] at h
  obtain ⟨g, hg, rfl⟩ := List.mem_map.1 h
  exact mem_grps.1 hg
/-- one page more -/
theorem firH_succ (n : Int) (hn : 0 ≤ n) (C L : List Sp) (H T : List Int) (k : Nat) : firH n C L H T (k + 1) = if (decide ((firH n C L H T k).length < n) && freeP C L H T k) = true then firH n C L H T k ++ [k] else firH n C L H T k := by
  have hlen : (firH n C L H T k).length = min n.toNat ((List.range k).filter (freeP C L H T)).length := by unfold firH; rw [List.length_take]
  unfold firH at hlen ⊢
  rw [List.range_succ, List.filter_append]
  cases hf : freeP C L H T k with
  | false => simp [hf]
  | true =>
    rw [show [k].filter (freeP C L H T) = [k] by simp [hf]]
    by_cases hlt : ((List.range k).filter (freeP C L H T)).length < n.toNat
    · rw [if_pos (by rw [hlen, Bool.and_true, decide_eq_true_eq]; omega), List.take_of_length_le (by simp; omega), List.take_of_length_le (by omega)]
    · rw [if_neg (by rw [hlen, Bool.and_true, decide_eq_true_eq]; omega), List.take_append_of_le_length (by omega)]
theorem firH_len (n : Int) (C L : List Sp) (H T : List Int) (k : Nat) : (firH n C L H T k).length ≤ k := by
  unfold firH
  rw [List.length_take]
  have := List.length_filter_le (freeP C L H T) (List.range k)
  rw [List.length_range] at this
  omega
theorem firH_lt {n : Int} {C L : List Sp} {H T : List Int} {k p : Nat} (h : p ∈ firH n C L H T k) : p < k := by
  unfold firH at h
  have := List.mem_filter.1 (List.mem_of_mem_take h)
  simpa using this.1
theorem ones_ok {n : Int} {C L : List Sp} {H T : List Int} : ofE (onesF (firH n C L H T 1024)) = 0 := by
  unfold ofE onesF
  have := firH_len n C L H T 1024
  rw [if_neg (by rw [List.length_map]; omega), if_pos ?_]
  rw [List.all_eq_true]
  intro x hx
  obtain ⟨p, hp, rfl⟩ := List.mem_map.1 hx
  have := firH_lt hp
  rw [vld_iff]
  simp only
  omega
end Go.Pol
namespace Go.Proofs.YtpabnbhbcphfiaaGreat
open Go Go.Proofs Go.Shelf
def insG_ren : Go.Shelf.Ren := ⟨fun | 20 => 237 | n => n, fun | 24 => 198 | 22 => 202 | 3 => 3 | 25 => 209 | 4 => 4 | 0 => 0 | n => n, fun | n => n⟩
theorem insG : Go.Proofs.SlLaysF0.n20 Tryz.prog insG_ren := {
  mixed := by kernel_rfl
  f20 := ⟨Tryz.f237.name, by decide, Tryz.func237.trans (congrArg some (by kernel_rfl))⟩
  t0 := Tryz.underlying0
  a0 := Tryz.isAgg0
  z0 := Tryz.sizeOf0
  v0 := Tryz.zeroValue0
  t3 := Tryz.underlying3
  a3 := Tryz.isAgg3
  z3 := Tryz.sizeOf3
  v3 := Tryz.zeroValue3
  t4 := Tryz.underlying4
  a4 := Tryz.isAgg4
  z4 := Tryz.sizeOf4
  v4 := Tryz.zeroValue4
  t22 := Tryz.underlying202
  a22 := Tryz.isAgg202
  z22 := Tryz.sizeOf202
  v22 := Tryz.zeroValue202
  t25 := Tryz.underlying209
  a25 := Tryz.isAgg209
  z25 := Tryz.sizeOf209
  v25 := Tryz.zeroValue209 }
end Go.Proofs.YtpabnbhbcphfiaaGreat
namespace Go.Pol
open Go Go.RowKit
/-- a slice of groups -/
def RG (w : World) (B : Nat) (A : Option Addr) (bs : List Gp) : Prop :=
  ∀ k, k < bs.length → ∃ b o, A = some ⟨b, o, none⟩ ∧ b < B ∧ w.cell? ⟨b, o + k * 4, none⟩ = some (.int .i64 (bs.getD k gp0).1) ∧ w.cell? ⟨b, o + k * 4 + 1, none⟩ = some (.int .i64 (bs.getD k gp0).2.1) ∧ w.cell? ⟨b, o + k * 4 + 2, none⟩ = some (.int .i64 (bs.getD k gp0).2.2.1) ∧ w.cell? ⟨b, o + k * 4 + 3, none⟩ = some (.bool (bs.getD k gp0).2.2.2)
def gCells (bs : List Gp) : List Value := bs.flatMap fun x => [.int .i64 x.1, .int .i64 x.2.1, .int .i64 x.2.2.1, .bool x.2.2.2]
theorem gCells_len (bs : List Gp) : (gCells bs).length = bs.length * 4 := by
  induction bs with
  | nil => rfl
  | cons x r ih => simp only [gCells, List.flatMap_cons, List.length_append, List.length_cons, List.length_nil] at ih ⊢; omega
theorem gCells_snoc (bs : List Gp) (x : Gp) : gCells (bs ++ [x]) = gCells bs ++ [.int .i64 x.1, .int .i64 x.2.1, .int .i64 x.2.2.1, .bool x.2.2.2] := by simp [gCells]
theorem gCells_at : ∀ (bs : List Gp) (k : Nat), k < bs.length → (gCells bs)[k * 4]? = some (.int .i64 (bs.getD k gp0).1) ∧ (gCells bs)[k * 4 + 1]? = some (.int .i64 (bs.getD k gp0).2.1) ∧ (gCells bs)[k * 4 + 2]? = some (.int .i64 (bs.getD k gp0).2.2.1) ∧ (gCells bs)[k * 4 + 3]? = some (.bool (bs.getD k gp0).2.2.2)
  | [], k, h => by simp at h
  | x :: r, 0, _ => by simp [gCells]
  | x :: r, k + 1, h => by
    have ih := gCells_at r k (by simpa using h)
    have e : gCells (x :: r) = .int .i64 x.1 :: .int .i64 x.2.1 :: .int .i64 x.2.2.1 :: .bool x.2.2.2 :: gCells r := by simp [gCells]
    rw [e, show (k + 1) * 4 = k * 4 + 1 + 1 + 1 + 1 by omega]
    simpa using ih
section
variable {w w' : World} {B B' : Nat} {A : Option Addr} {bs : List Gp}
theorem RG.keep (h : RG w B A bs) (hk : ∀ p : Addr, p.block < B → w'.cell? p = w.cell? p) : RG w' B A bs := fun k hl => by
  obtain ⟨b, o, e, hb, hc, hd, hf, hg⟩ := h k hl
  exact ⟨b, o, e, hb, (hk _ hb).trans hc, (hk _ hb).trans hd, (hk _ hb).trans hf, (hk _ hb).trans hg⟩
theorem RG.below (h : RG w B A bs) (hb : Below B w w') : RG w' B A bs := h.keep fun _ hp => hb.cell hp
theorem RG.more (h : RG w B A bs) (hB : B ≤ B') : RG w B' A bs := fun k hl => by
  obtain ⟨b, o, e, hb, hc⟩ := h k hl
  exact ⟨b, o, e, by omega, hc⟩
theorem RG.on (h : RG w w.heap.size A bs) (hb : Below w.heap.size w w') : RG w' w'.heap.size A bs := (h.below hb).more hb.size
theorem RG.nil : RG w B A [] := fun k h => absurd h (by simp)
/-- what a call of the own made reads as a list -/
theorem own_RG {base n : Nat} {e : TypeId} {v : Value} (h : w.ownsRow base e 4 v n (gCells bs)) (hn : bs.length = n) : ∃ (A : Option Addr) (cap : Nat), v = .slice A n cap ∧ RG w w.heap.size A bs ∧ ∀ b o, A = some ⟨b, o, none⟩ → base ≤ b := by
  have hv := h
  rcases h.2 with ⟨rfl, h0⟩ | ⟨g, cap, cur, rfl, hg, hk, hnc, hcm, _⟩
  · subst h0
    obtain rfl : bs = [] := List.eq_nil_of_length_eq_zero hn
    exact ⟨none, 0, rfl, RG.nil, fun b o e => (by cases e)⟩
  · refine ⟨_, cap, rfl, fun k hk' => ?_, fun b o e => by cases e; exact hg⟩
    have h2 := gCells_at bs k hk'
    have c0 := hv.cellAt (k * 4) (by omega)
    have c1 := hv.cellAt (k * 4 + 1) (by omega)
    have c2 := hv.cellAt (k * 4 + 2) (by omega)
    have c3 := hv.cellAt (k * 4 + 3) (by omega)
    refine ⟨g, 0, rfl, Blk.lt hk, ?_, ?_, ?_, ?_⟩
    · rw [Nat.zero_add, c0]; exact h2.1
    · rw [Nat.zero_add, c1]; exact h2.2.1
    · rw [Nat.zero_add, c2]; exact h2.2.2.1
    · rw [Nat.zero_add, c3]; exact h2.2.2.2
theorem own_nilG {base n : Nat} {e : TypeId} {v : Value} (h : w.ownsRow base e 4 v n (gCells bs)) (hn : bs.length = n) : ∃ (A : Option Addr) (cap : Nat), v = .slice A n cap := by
  obtain ⟨A, cap, hv, _⟩ := own_RG h hn
  exact ⟨A, cap, hv⟩
theorem news_four {g : Nat} {t : TypeId} {a b c : Int} {d : Bool} (h : Blk w g t #[.int .i64 a, .int .i64 b, .int .i64 c, .bool d]) : ∀ (j : Nat) (u : Value), [Value.int .i64 a, Value.int .i64 b, Value.int .i64 c, Value.bool d][j]? = some u → w.cell? ((⟨g, 0, none⟩ : Addr).add j) = some u := by
  intro j u hu
  rw [addr_add0, Nat.zero_add]
  rw [h.cell]
  simpa using hu
theorem news_one4 {a b c : Int} {d : Bool} : ∀ u ∈ [Value.int .i64 a, Value.int .i64 b, Value.int .i64 c, Value.bool d], u.oneCell' = true := by
  intro u hu
  simp only [List.mem_cons, List.not_mem_nil, or_false] at hu
  rcases hu with rfl | rfl | rfl | rfl <;> rfl
end
end Go.Pol
