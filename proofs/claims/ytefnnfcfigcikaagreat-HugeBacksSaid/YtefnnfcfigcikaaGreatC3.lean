/- Merged texts. Walks: Pages as a function value that is ranged over: it ranges over the pieces of one page, and hands each to the loop. Walks: what Pages hands back; the law's list of what such a function value goes through. Walks: slices.IndexFunc and slices.ContainsFunc over ints; open$1. What the struct 'look' of layer 13 holds, as cells; what a store into it makes of that. Plain laws for layer 13: what the loops over pages count. Plain functions: places of some pages in spans, at multiples of a power of two. Walks: bits.OnesCount; what is wrong with what is looked for; the function value that goes through places. Walks: places; First. Walks: Best. Walk: 'open' of layer 13. Plain laws for layer 13: Groups, Score and Split, of the program and of the reference. Walks of layer 13: Check; the groups of one kind as a function value that is ranged over. Words for slices of structs: their cells as one flat list. Walks of layer 13: Check, Groups. -/
import Derived.Deep.MidRow
import Derived.Test.YtefnnfcfigcikaaGreatC2
namespace Go.Pol
open Go Go.RowKit
theorem roundIn_in {F : Fence} {n : Nat} {P : Program} {l l' : Nat} {f : FuncId} {tmps : Array Value} {assign body : Code} {w : World} {R : Ending → World → Prop} (h : RoundIn F n P l f tmps assign body w R) : RoundIn (F.inRound l') n P l f tmps assign body w R := h
def fsts (l : List Sp) : List Int := l.map (·.1)
theorem fsts_snoc (l : List Sp) (x : Sp) : fsts (l ++ [x]) = fsts l ++ [x.1] := by simp [fsts]
theorem fsts_pre {a b : List Sp} (h : a <+: b) : fsts a <+: fsts b := by
  obtain ⟨r, rfl⟩ := h
  exact ⟨fsts r, by simp [fsts]⟩
abbrev inA (p : Int) : Array Value := #[.int .i64 p]
end Go.Pol
namespace Go.Proofs.YtefnnfcfigcikaaGreat
open Go Go.Proofs Go.RowKit Go.Pol Go.Shelf
attribute [local go_sem] Oper.semAt_some Go.Pol.wide_fn Go.Pol.wide_depth Go.Pol.wide_fn' Go.Pol.wide_depth'

set_option maxRecDepth 100000 in
set_option maxHeartbeats 1600000 in
theorem pages1_seq (A : Option Addr) (n cap : Nat) (us : List Sp) (B1 : Nat) (K : Nat → Prop) (w : World) (hK1 : K B1)
    (k1 : Blk w B1 42 #[.slice A n cap]) (hn : us.length = n) (hm : n ≤ 1000000) (hr : RU w w.heap.size A us) (hown : us ≠ [] → ∀ b o, A = some ⟨b, o, none⟩ → K b) :
    SeqY Tryz.prog 167 #[.pointer (some ⟨B1, 0, none⟩)] inA (fun _ => False) K (fsts (piecesF us 1)) w := by
  intro n0 l0 J Jx W hW hJ hJx hnew hY h0
  have kB1 := hW.blk k1 (by simpa using hK1)
  have hrW : RU W W.heap.size A us := by
    by_cases h : us = []
    · subst h; exact RU.nil
    · exact (hW.ru hr (fun b o e h' => h' (hown h b o e))).more hW.size
  obtain ⟨s, hs⟩ : ∃ s, W.heap.size = s := ⟨_, rfl⟩
  obtain ⟨Wb, hWb⟩ : ∃ Wb, W.alloc (.cells #[.func (.yield l0) #[] #[]] 94) = Wb := ⟨_, rfl⟩
  refine callsIn_wide.2 ?_
  refine calls_of_marks Tryz.func167 rfl ?_
  simp only [Tryz.ntmps167, List.size_toArray, List.length_cons, List.length_nil, Nat.reduceAdd, Nat.reduceSub, Array.replicate_succ, Array.replicate_zero, List.push_toArray, List.append_toArray, List.nil_append, List.cons_append]
  go_upto_region 1 with fail
  have hFb : Far (fun _ => False) W Wb := by rw [← hWb]; exact (Far.refl _ W).alloc _
  have hszb : Wb.heap.size = s + 1 := by rw [← hWb, ← hs]; simp
  have kY : Blk Wb s 94 #[.func (.yield l0) #[] #[]] := by rw [← hWb, ← hs]; exact Blk.new _ _ _
  have kB1b := hFb.blk kB1 id
  have hrb : RU Wb Wb.heap.size A us := hrW.on (by rw [← hWb]; exact (Below.refl W.heap.size W).alloc (Nat.le_refl _) _)
  have zB := kB1b.cell
  clear hWb kB1 hrW
  have HT := Lib.hid (piecesTop_own A n cap us 1 Wb hn hm hrb)
  go_wp2_with fail
  refine HT.out.mono ?_
  rintro e w2 ⟨lb, Kin, rfl, hseq, hK, hq2⟩
  have kY2 := kY.call hq2
  have hF2 : Far (fun _ => False) W w2 := hFb.trans (.of_below hq2)
  have hs2 : s + 1 ≤ w2.heap.size := by rw [← hszb]; exact hq2.size
  clear HT hrb hq2 hn hr
  have HJ0 : J (fun k => Kin k ∨ False ∨ k = s ∨ k = w2.heap.size ∨ k = w2.heap.size + 1) [] w2 :=
    hJ _ _ W w2 (hnew _ _ _ W h0 (fun k hk => by
      right
      rcases hk with h | h | h | h | h
      · have := (hK k h).1; omega
      · exact h.elim
      · omega
      · omega
      · omega)) (hF2.mono fun _ _ h => h.elim)
  go_wp2_with fail
  refine rangeXB 3 6 134 (gf := 193) (lb := lb) rfl pieces_enters hseq rfl (fun _ h => h.elim) (fun k h => (hK k h).2)
    (fun X pre W => J (fun k => Kin k ∨ X k ∨ k = s ∨ k = w2.heap.size ∨ k = w2.heap.size + 1) (fsts pre) W ∧ Blk W s 94 #[.func (.yield l0) #[] #[]] ∧ ¬ X s ∧ w2.heap.size ≤ W.heap.size)
    (fun c X pre W => c = .ret ∧ pre <+: piecesF us 1 ∧ Jx (fun k => Kin k ∨ X k ∨ k = s ∨ k = w2.heap.size ∨ k = w2.heap.size + 1) (fsts pre) W)
    (fun X pre A B h hf => ⟨hJ _ _ A B h.1 (hf.mono fun k _ h => by
        rcases h with h | h | h | h
        · exact h.elim
        · exact .inr (.inr (.inl h))
        · exact .inr (.inr (.inr (.inr (.inl h))))
        · exact .inr (.inr (.inr (.inr (.inr h))))), hf.blk h.2.1 (by rintro (h' | h' | h' | h'); exact h'; exact h.2.2.1 h'; omega; omega), h.2.2.1, Nat.le_trans h.2.2.2 hf.size⟩)
    (fun c X pre A B h hf => ⟨h.1, h.2.1, hJx _ _ A B h.2.2 (hf.mono fun k _ h => by
        rcases h with h | h | h | h
        · exact h.elim
        · exact .inr (.inr (.inl h))
        · exact .inr (.inr (.inr (.inr (.inl h))))
        · exact .inr (.inr (.inr (.inr (.inr h)))))⟩)
    (fun X X' pre A h hX => ⟨hnew _ _ _ A h.1 (fun k hk => by
        rcases hk with h' | h' | h'
        · exact .inl (.inl h')
        · exact (hX k h').elim (fun h' => .inl (.inr (.inl h'))) .inr
        · exact .inl (.inr (.inr h'))), h.2.1, fun h' => (hX _ h').elim h.2.2.1 (fun h' => by have := h.2.1.lt; omega), h.2.2.2⟩)
    ⟨HJ0, kY2, id, Nat.le_refl _⟩ ?assign ?body ?done ?stop
  case assign =>
    intro m l x W C hC
    simp only [List.setIfInBounds_toArray, List.set_cons_succ, List.set_cons_zero] at hC ⊢
    gi_wp2
    exact hC
  case body =>
    rintro m l X pre x Bx Wa W hsz hXlt ⟨hJs, kY, nY, hwz⟩ hpre hBx kx hBa
    simp only [List.setIfInBounds_toArray, List.set_cons_succ, List.set_cons_zero]
    obtain ⟨xa, xb⟩ := x
    dsimp only at kx
    have cx := kx.cell
    have cY := kY.cell
    have hmap : Hid (fsts (pre ++ [(xa, xb)]) = fsts pre ++ [xa]) := Lib.hid (fsts_snoc _ _)
    have hpre2 : fsts pre ++ [xa] <+: fsts (piecesF us 1) := by
      rw [← hmap.out]
      exact fsts_pre hpre
    have hall : ∀ k, (Kin k ∨ X k ∨ k = s ∨ k = w2.heap.size ∨ k = w2.heap.size + 1) → k < W.heap.size := fun k hk => by
      rcases hk with h | h | h | h | h
      · have := (hK k h).2; omega
      · have := (hXlt k h).1; have := kx.lt; omega
      · omega
      · omega
      · omega
    obtain ⟨fn, tmps, assign, body, hy, hRd⟩ := hY (m - 1) _ (fsts pre) xa W hJs hall hpre2
    clear hY
    gi_wp2_with fail
    refine (roundIn_in hRd).mono ?_
    rintro e W4 (⟨rfl, hJ4, hF4⟩ | ⟨rfl, hJx4, hF4⟩)
    · gi_wp2_with fail
      exact ⟨hF4.mono fun k _ h h' => h (.inr (by
        rcases h' with h' | h' | h' | h'
        · exact .inl h'
        · exact .inr (.inl h')
        · exact .inr (.inr (.inr (.inl h')))
        · exact .inr (.inr (.inr (.inr h'))))), by rw [hmap.out]; exact hJ4, hF4.blk kY (fun h => h (.inr (.inr (.inr (.inl rfl))))), nY, Nat.le_trans hwz hF4.size⟩
    · gi_wp2_with fail
      exact ⟨hF4.mono fun k _ h h' => h (.inr (h'.elim (fun h' => .inr (.inr (.inr (.inl h')))) (fun h' => .inr (.inr (.inr (.inr h')))))), rfl, hpre, by rw [hmap.out]; exact hJx4⟩
  case done =>
    rintro X W5 hsz ⟨hJs, _, _, _⟩ hd
    have hfin := hJ _ _ W5 (W5.putObj w2.heap.size (.deferred none)) hJs (Far.putObj (Far.refl _ _) (fun _ => .inr (.inr (.inr (.inr (.inl rfl))))) _)
    go_wp2_with fail
    exact leave_mark (v := .tuple #[]) hd (results_none rfl _ _ _) ⟨⟨_, rfl⟩, .inl ⟨_, hfin⟩⟩
  case stop =>
    rintro c X pre W5 hsz hpre ⟨rfl, _, hJs⟩ hd
    have hfin := hJx _ _ W5 (W5.putObj w2.heap.size (.deferred none)) hJs (Far.putObj (Far.refl _ _) (fun _ => .inr (.inr (.inr (.inr (.inl rfl))))) _)
    go_wp2_with fail
    exact leave_mark (v := .tuple #[]) hd (results_none rfl _ _ _) ⟨⟨_, rfl⟩, .inr ⟨_, _, fsts_pre hpre, hfin⟩⟩
end Go.Proofs.YtefnnfcfigcikaaGreat
namespace Go.Pol
open Go Go.RowKit
/-- a loop over numbers whose variable is a temporary -/
theorem rangeYI {P : Program} {g : Operand} {ps : Array Tmp} {assign body : Code} {Q : Exit → Act → World → Prop} {a : Act} {w : World} (ia pb : Nat)
    {gf : Nat} {lb : Array Value} (hg : a.eval g = .func (.func gf) #[] lb) (eg : ∀ args w, (callFunc gf args).run P w = .ok (.enter gf args) w)
    {T K : Nat → Prop} {xs : List Int} (hseq : SeqY P gf lb inA T K xs w) (hps : ps = #[pb])
    (hT : ∀ k, T k → k < w.heap.size) (hK : ∀ k, K k → k < w.heap.size)
    (I : (Nat → Prop) → List Int → World → Prop) (Ix : Code → (Nat → Prop) → List Int → World → Prop)
    (hI : ∀ X pre A B, I X pre A → Far (fun k => T k ∨ X k ∨ k = w.heap.size ∨ k = w.heap.size + 1) A B → I X pre B)
    (hIx : ∀ c X pre A B, Ix c X pre A → Far (fun k => T k ∨ X k ∨ k = w.heap.size ∨ k = w.heap.size + 1) A B → Ix c X pre B)
    (hnew : ∀ X X' pre A, I X pre A → (∀ k, X' k → X k ∨ A.heap.size ≤ k) → I X' pre A)
    (h0 : I (fun _ => False) [] w)
    (hassign : ∀ (m l : Nat) (x : Int) (W : World) (C : Act → World → Prop),
      C { tmps := (a.tmps.setIfInBounds pb (.int .i64 x)).setIfInBounds ia (.int .i64 x), defers := [] } W →
      assign.wpIn (Fence.wide.inRound l) m P (Exit.then C (fun _ _ _ => False)) { tmps := a.tmps.setIfInBounds pb (.int .i64 x), defers := [] } W)
    (hbody : ∀ (m l : Nat) (X : Nat → Prop) (pre : List Int) (x : Int) (Wa W : World), w.heap.size + 2 ≤ W.heap.size → (∀ k, X k → k < Wa.heap.size ∧ k ≠ w.heap.size ∧ k ≠ w.heap.size + 1) → I X pre W → pre ++ [x] <+: xs → Wa.heap.size ≤ W.heap.size →
      body.wpIn (Fence.wide.inRound l) m P (yPost w.heap.size K X I Ix (pre ++ [x]) W) { tmps := (a.tmps.setIfInBounds pb (.int .i64 x)).setIfInBounds ia (.int .i64 x), defers := [] } W)
    (hdone : ∀ (X : Nat → Prop) (W : World), w.heap.size + 2 ≤ W.heap.size → I X xs W → W.heap[w.heap.size]? = some (.deferred (some [])) → Q .normal { a with defers := markOf w.heap.size :: a.defers } W)
    (hstop : ∀ (c : Code) (X : Nat → Prop) (pre : List Int) (W : World), w.heap.size + 2 ≤ W.heap.size → pre <+: xs → Ix c X pre W → W.heap[w.heap.size]? = some (.deferred (some [])) → c.wp P Q { a with defers := markOf w.heap.size :: a.defers } W) :
    (Code.rangeFunc g ps assign body).wp P Q a w := by
  subst hps
  refine rangeY hg eg hseq (fun _ => rfl) hT hK I Ix hI hIx hnew h0
    (fun _ x a' _ => a' = { tmps := (a.tmps.setIfInBounds pb (.int .i64 x)).setIfInBounds ia (.int .i64 x), defers := [] })
    (fun _ _ _ _ _ h _ => h) ?_ ?_ hdone hstop
  · intro m l x W C hs hC
    have e : (#[pb].zip (inA x)).foldl (fun t (p, v) => t.setIfInBounds p v) a.tmps = a.tmps.setIfInBounds pb (.int .i64 x) := by simp [inA]
    rw [e]
    exact hassign m l x W C (hC _ _ (Far.refl _ W) rfl)
  · rintro m l X pre x a' Wa W hs hX hi rfl hpre _ hfa
    exact hbody m l X pre x Wa W hs hX hi hpre hfa.size
end Go.Pol
namespace Go.Proofs.YtefnnfcfigcikaaGreat
open Go Go.Proofs Go.RowKit Go.Pol Go.Shelf
attribute [local go_sem] Oper.semAt_some Go.Pol.wide_fn Go.Pol.wide_depth Go.Pol.wide_fn' Go.Pol.wide_depth'

theorem pages_enters : ∀ args w, (callFunc 167 args).run Tryz.prog w = .ok (.enter 167 args) w := enters_of Tryz.func167 (by kernel_rfl) rfl

set_option maxHeartbeats 800000 in
theorem pagesTop_any (A : Option Addr) (n cap : Nat) (us : List Sp) (w : World) (hn : us.length = n) (hm : n ≤ 1000000) (hr : RU w w.heap.size A us) :
    Calls Tryz.prog 117 #[.slice A n cap] w fun e w' => ∃ (lb : Array Value) (K : Nat → Prop), e = .returned (.func (.func 167) #[] lb) ∧
      SeqY Tryz.prog 167 lb inA (fun _ => False) K (fsts (piecesF us 1)) w' ∧ (∀ k, K k → w.heap.size ≤ k ∧ k < w'.heap.size) ∧ Below w.heap.size w w' := by
  have hb0 := (Below.refl w.heap.size w).alloc (Nat.le_refl _) (.cells #[.slice A n cap] 42)
  have k1 := Blk.new w 42 #[.slice A n cap]
  have r0 : RU (w.alloc (.cells #[.slice A n cap] 42)) _ A us := hr.on hb0
  have HK := Lib.hid (clone_any A n cap us _ hn hm r0)
  have z1 := k1.cell
  have hsz : (w.alloc (.cells #[.slice A n cap] 42)).heap.size = w.heap.size + 1 := by simp
  go_enter Tryz.func117, Tryz.ntmps117
  go_wp2_with fail
  refine HK.out.mono ?_
  rintro e w1 ⟨v, rfl, hrow, hb1⟩
  have B1 := hb0.trans (hb1.mono hb0.size)
  have k1b := k1.call hb1
  have f1 := k1b.frozen
  have z1b := k1b.cell
  have hs1 := B1.size
  clear HK
  obtain ⟨A2, cap2, rfl⟩ := own_nil_iff hrow hn
  go_wp2_with fail
  go_ret
  have k1c := k1b.set_ 0 (.slice A2 n cap2)
  have hfar : Far (fun k => k = w.heap.size) w1 (w1.setCell ⟨w.heap.size, 0, none⟩ (.slice A2 n cap2)) := Far.setCell (T := fun k => k = w.heap.size) (p := ⟨w.heap.size, 0, none⟩) (Far.refl _ _) (fun _ => rfl) _
  have hrow2 := ownsRow_far hrow hfar (fun g hg e => by have := (hrow.lt g hg).1; omega)
  have B2 := B1.trans (hfar.below hs1 (fun k hk h => by omega))
  generalize w1.setCell ⟨w.heap.size, 0, none⟩ (.slice A2 n cap2) = w2 at *
  obtain ⟨A3, cap3, he, hru, h1, h2, h3, _⟩ := own_RU hrow2 hn
  cases he
  refine ⟨_, fun k => k = w.heap.size ∨ (us ≠ [] ∧ ∃ o, A2 = some ⟨k, o, none⟩), rfl, pages1_seq A2 n cap2 us w.heap.size _ w2 (.inl rfl) (by simpa using k1c) hn hm hru (fun h b o e => .inr ⟨h, o, e⟩), ?_, B2⟩
  rintro k (rfl | ⟨h, o, e⟩)
  · exact ⟨Nat.le_refl _, k1c.lt⟩
  · exact ⟨by have := h3 k o e; omega, ru_lt hru h e⟩

theorem eql_seqI (f : Fn) (c lb : Array Value) (w : World) : (binOp .eql 206 (.func f c lb) .nilFunc).run Tryz.prog w = .ok (.bool false) w := by
  simp only [binOp]
  simp [Op.equal, Op.maxDepth, run_equalIn_func_nil w 9999 _ f c lb Tryz.underlying206]

end Go.Proofs.YtefnnfcfigcikaaGreat
namespace Go.Proofs.YtefnnfcfigcikaaGreat
open Go Go.Proofs Go.RowKit Go.Pol Go.Shelf
attribute [local go_sem] Oper.semAt_some Go.Pol.wide_fn Go.Pol.wide_depth Go.Pol.wide_fn' Go.Pol.wide_depth'
theorem getD_memI {bs : List Int} {k : Nat} (h : k < bs.length) : bs.getD k 0 ∈ bs := by
  rw [List.getD_eq_getElem?_getD, List.getElem?_eq_getElem h]; exact List.getElem_mem h

/-- where the first entry is that a test holds of -/
def idxI (p : Int → Bool) : List Int → Nat → Int
  | [], _ => -1
  | x :: r, k => if p x = true then (k : Int) else idxI p r (k + 1)
theorem idxI_any (p : Int → Bool) : ∀ (bs : List Int) (k : Nat), decide (0 ≤ idxI p bs k) = bs.any p
  | [], k => by simp [idxI]
  | x :: r, k => by
    rw [idxI]
    cases h : p x with
    | true => simp [h]
    | false => simp [h, idxI_any p r (k + 1)]
theorem idxI_bound (p : Int → Bool) : ∀ (bs : List Int) (k : Nat), -1 ≤ idxI p bs k ∧ idxI p bs k < (bs.length : Int) + k
  | [], k => by simp [idxI]; omega
  | x :: r, k => by
    have := idxI_bound p r (k + 1)
    rw [idxI]
    split
    · simp only [List.length_cons]; omega
    · simp only [List.length_cons]; omega
set_option maxRecDepth 100000 in
theorem indexI_any (p : Int → Bool) (g : Nat) (lb : Array Value) (A : Option Addr) (n cap : Nat) (bs : List Int) (w : World) (hn : bs.length = n) (hm : n ≤ maxLen) (hr : RI w w.heap.size A bs)
    (eg : ∀ args w, (callFunc g args).run Tryz.prog w = .ok (.enter g args) w)
    (hp : ∀ x ∈ bs, ∀ W, Below w.heap.size w W → Calls Tryz.prog g (#[.int .i64 x] ++ lb) W fun e W' => e = .returned (.bool (p x)) ∧ Below W.heap.size W W') :
    Calls Tryz.prog 170 #[.slice A n cap, .func (.func g) #[] lb] w fun e w' => e = .returned (.int .i64 (idxI p bs 0)) ∧ Below w.heap.size w w' := by
  unfold maxLen at hm
  obtain ⟨R, hR⟩ : ∃ R, idxI p bs 0 = R := ⟨_, rfl⟩
  rw [hR]
  have hR' := Lib.hid hR
  have hn' := Lib.hid hn
  have hp' := Lib.hid hp
  clear hR hn hp
  go_enter Tryz.func170, Tryz.ntmps170
  go_wp2_with fail
  go_loopw [8] (fun i wr => ∃ k : Nat, k ≤ n ∧ i = .int .i64 k ∧ Below w.heap.size w wr ∧ Hid (idxI p (bs.drop k) k = R)) (fun i _ => n - (intOf i).toNat)
  case atStart => exact ⟨0, by omega, rfl, Below.refl _ _, by simpa using hR'⟩
  case round =>
    obtain ⟨k, hk, rfl, hB, hH⟩ := hrel
    by_cases hlt : k < n
    · have hlt' : decide ((k : Int) < (n : Int)) = true := by simpa using hlt
      obtain ⟨b, o, rfl, _, c1⟩ := ((hr.below hB).more hB.size).at_ (k := k) (by have := hn'.out; omega)
      have HP := Lib.hid (hp'.out (bs.getD k 0) (getD_memI (by have := hn'.out; omega)) wr hB)
      have hst := hH.out
      rw [Go.Pol.drop_cons 0 bs k (by have := hn'.out; omega), idxI] at hst
      generalize bs.getD k 0 = x at *
      cases hpx : p x with
      | true =>
        rw [hpx] at HP
        rw [if_pos hpx] at hst
        have hst' := Lib.hid hst
        clear hst hH hpx
        go_wp2_with fail
        refine HP.out.mono ?_
        rintro e w1 ⟨rfl, hb1⟩
        go_wp2_with fail
        go_ret
        exact ⟨ret_int hst'.out, hB.trans (hb1.mono hB.size)⟩
      | false =>
        rw [hpx] at HP
        rw [if_neg (by simp [hpx])] at hst
        have hst' := Lib.hid hst
        clear hst hH hpx
        go_wp2_with fail
        refine HP.out.mono ?_
        rintro e w1 ⟨rfl, hb1⟩
        go_wp2_with fail
        go_roundw
        case rel => exact ⟨k + 1, by omega, by go_num, hB.trans (hb1.mono hB.size), hst'⟩
        case measure => simp [intOf]; omega
    · obtain rfl : k = n := by omega
      have hlt' : decide ((k : Int) < (k : Int)) = false := by simp
      have hst := hH.out
      rw [List.drop_of_length_le (by have := hn'.out; omega)] at hst
      have hst' := Lib.hid (show -1 = R from hst)
      clear hst hH
      go_wp2_with fail
      go_ret
      exact ⟨ret_int hst'.out, hB⟩
theorem containsI_any (p : Int → Bool) (g : Nat) (lb : Array Value) (A : Option Addr) (n cap : Nat) (bs : List Int) (w : World) (hn : bs.length = n) (hm : n ≤ maxLen) (hr : RI w w.heap.size A bs)
    (eg : ∀ args w, (callFunc g args).run Tryz.prog w = .ok (.enter g args) w)
    (hp : ∀ x ∈ bs, ∀ W, Below w.heap.size w W → Calls Tryz.prog g (#[.int .i64 x] ++ lb) W fun e W' => e = .returned (.bool (p x)) ∧ Below W.heap.size W W') :
    Calls Tryz.prog 122 #[.slice A n cap, .func (.func g) #[] lb] w fun e w' => e = .returned (.bool (bs.any p)) ∧ Below w.heap.size w w' := by
  have HI := Lib.hid (indexI_any p g lb A n cap bs w hn hm hr eg hp)
  have hE := Lib.hid (idxI_any p bs 0)
  generalize idxI p bs 0 = R at *
  generalize bs.any p = S at *
  go_enter Tryz.func122, Tryz.ntmps122
  go_wp2_with fail
  refine HI.out.mono ?_
  rintro e w1 ⟨rfl, hb1⟩
  go_wp2_with fail
  go_ret
  exact ⟨ret_bool hE.out, hb1⟩
theorem open1_any (x : Int) (w : World) : Calls Tryz.prog 123 #[.int .i64 x] w fun e w' => e = .returned (.bool (!inG x)) ∧ w' = w := by
  have hR : (decide (x < 0) || decide (64 ≤ x)) = !inG x := by
    unfold inG
    by_cases h1 : x < 0 <;> by_cases h2 : 64 ≤ x <;> simp [h1, h2] <;> omega
  have hR' := Lib.hid hR
  generalize (!inG x) = R at *
  clear hR
  by_cases h1 : x < 0
  · go_enter Tryz.func123, Tryz.ntmps123
    go_wp2_with fail
    go_ret
    exact ⟨ret_bool (by have := hR'.out; simpa [h1] using this), rfl⟩
  · go_enter Tryz.func123, Tryz.ntmps123
    go_wp2_with fail
    go_ret
    exact ⟨ret_bool (by have := hR'.out; rw [decide_eq_false (show ¬ x < 0 by omega), Bool.false_or] at this; exact this), rfl⟩
end Go.Proofs.YtefnnfcfigcikaaGreat
namespace Go.Pol
open Go
def upd {β : Type} (f : Nat → β) (p : Nat) (u : β) (q : Nat) : β := if q = p then u else f q
/-- page q: committed, live; group q: number, committed, live, huge -/
structure LookIs (cs : Array Value) (cm lv : Nat → Bool) (nm gc gl : Nat → Int) (gh : Nat → Bool) : Prop where
  size : cs.size = 2304
  cm : ∀ q, q < 1024 → cs[q * 2]? = some (.bool (cm q))
  lv : ∀ q, q < 1024 → cs[q * 2 + 1]? = some (.bool (lv q))
  nm : ∀ q, q < 64 → cs[2048 + q * 4]? = some (.int .i64 (nm q))
  gc : ∀ q, q < 64 → cs[2048 + q * 4 + 1]? = some (.int .i64 (gc q))
  gl : ∀ q, q < 64 → cs[2048 + q * 4 + 2]? = some (.int .i64 (gl q))
  gh : ∀ q, q < 64 → cs[2048 + q * 4 + 3]? = some (.bool (gh q))
section
variable {cs : Array Value} {cm lv : Nat → Bool} {nm gc gl : Nat → Int} {gh : Nat → Bool}
theorem LookIs.cm_ (h : LookIs cs cm lv nm gc gl gh) {p : Nat} (hp : p < 1024) (u : Bool) : LookIs (cs.setIfInBounds (p * 2) (.bool u)) (upd cm p u) lv nm gc gl gh := by
  refine ⟨by rw [Array.size_setIfInBounds]; exact h.size, ?_, ?_, ?_, ?_, ?_, ?_⟩ <;> intro q hq <;> rw [Array.getElem?_setIfInBounds]
  · by_cases e : p = q
    · subst e; rw [if_pos rfl, if_pos (by rw [h.size]; omega), upd, if_pos rfl]
    · rw [if_neg (by omega), upd, if_neg (fun h => e h.symm)]; exact h.cm q hq
  · rw [if_neg (by omega)]; exact h.lv q hq
  · rw [if_neg (by omega)]; exact h.nm q hq
  · rw [if_neg (by omega)]; exact h.gc q hq
  · rw [if_neg (by omega)]; exact h.gl q hq
  · rw [if_neg (by omega)]; exact h.gh q hq
theorem LookIs.lv_ (h : LookIs cs cm lv nm gc gl gh) {p : Nat} (hp : p < 1024) (u : Bool) : LookIs (cs.setIfInBounds (p * 2 + 1) (.bool u)) cm (upd lv p u) nm gc gl gh := by
  refine ⟨by rw [Array.size_setIfInBounds]; exact h.size, ?_, ?_, ?_, ?_, ?_, ?_⟩ <;> intro q hq <;> rw [Array.getElem?_setIfInBounds]
  · rw [if_neg (by omega)]; exact h.cm q hq
  · by_cases e : p = q
    · subst e; rw [if_pos rfl, if_pos (by rw [h.size]; omega), upd, if_pos rfl]
    · rw [if_neg (by omega), upd, if_neg (fun h => e h.symm)]; exact h.lv q hq
  · rw [if_neg (by omega)]; exact h.nm q hq
  · rw [if_neg (by omega)]; exact h.gc q hq
  · rw [if_neg (by omega)]; exact h.gl q hq
  · rw [if_neg (by omega)]; exact h.gh q hq
theorem LookIs.nm_ (h : LookIs cs cm lv nm gc gl gh) {p : Nat} (hp : p < 64) (u : Int) : LookIs (cs.setIfInBounds (2048 + p * 4) (.int .i64 u)) cm lv (upd nm p u) gc gl gh := by
  refine ⟨by rw [Array.size_setIfInBounds]; exact h.size, ?_, ?_, ?_, ?_, ?_, ?_⟩ <;> intro q hq <;> rw [Array.getElem?_setIfInBounds]
  · rw [if_neg (by omega)]; exact h.cm q hq
  · rw [if_neg (by omega)]; exact h.lv q hq
  · by_cases e : p = q
    · subst e; rw [if_pos rfl, if_pos (by rw [h.size]; omega), upd, if_pos rfl]
    · rw [if_neg (by omega), upd, if_neg (fun h => e h.symm)]; exact h.nm q hq
  · rw [if_neg (by omega)]; exact h.gc q hq
  · rw [if_neg (by omega)]; exact h.gl q hq
  · rw [if_neg (by omega)]; exact h.gh q hq
theorem LookIs.gc_ (h : LookIs cs cm lv nm gc gl gh) {p : Nat} (hp : p < 64) (u : Int) : LookIs (cs.setIfInBounds (2048 + p * 4 + 1) (.int .i64 u)) cm lv nm (upd gc p u) gl gh := by
  refine ⟨by rw [Array.size_setIfInBounds]; exact h.size, ?_, ?_, ?_, ?_, ?_, ?_⟩ <;> intro q hq <;> rw [Array.getElem?_setIfInBounds]
  · rw [if_neg (by omega)]; exact h.cm q hq
  · rw [if_neg (by omega)]; exact h.lv q hq
  · rw [if_neg (by omega)]; exact h.nm q hq
  · by_cases e : p = q
    · subst e; rw [if_pos rfl, if_pos (by rw [h.size]; omega), upd, if_pos rfl]
    · rw [if_neg (by omega), upd, if_neg (fun h => e h.symm)]; exact h.gc q hq
  · rw [if_neg (by omega)]; exact h.gl q hq
  · rw [if_neg (by omega)]; exact h.gh q hq
theorem LookIs.gl_ (h : LookIs cs cm lv nm gc gl gh) {p : Nat} (hp : p < 64) (u : Int) : LookIs (cs.setIfInBounds (2048 + p * 4 + 2) (.int .i64 u)) cm lv nm gc (upd gl p u) gh := by
  refine ⟨by rw [Array.size_setIfInBounds]; exact h.size, ?_, ?_, ?_, ?_, ?_, ?_⟩ <;> intro q hq <;> rw [Array.getElem?_setIfInBounds]
  · rw [if_neg (by omega)]; exact h.cm q hq
  · rw [if_neg (by omega)]; exact h.lv q hq
  · rw [if_neg (by omega)]; exact h.nm q hq
  · rw [if_neg (by omega)]; exact h.gc q hq
  · by_cases e : p = q
    · subst e; rw [if_pos rfl, if_pos (by rw [h.size]; omega), upd, if_pos rfl]
    · rw [if_neg (by omega), upd, if_neg (fun h => e h.symm)]; exact h.gl q hq
  · rw [if_neg (by omega)]; exact h.gh q hq
theorem LookIs.gh_ (h : LookIs cs cm lv nm gc gl gh) {p : Nat} (hp : p < 64) (u : Bool) : LookIs (cs.setIfInBounds (2048 + p * 4 + 3) (.bool u)) cm lv nm gc gl (upd gh p u) := by
  refine ⟨by rw [Array.size_setIfInBounds]; exact h.size, ?_, ?_, ?_, ?_, ?_, ?_⟩ <;> intro q hq <;> rw [Array.getElem?_setIfInBounds]
  · rw [if_neg (by omega)]; exact h.cm q hq
  · rw [if_neg (by omega)]; exact h.lv q hq
  · rw [if_neg (by omega)]; exact h.nm q hq
  · rw [if_neg (by omega)]; exact h.gc q hq
  · rw [if_neg (by omega)]; exact h.gl q hq
  · by_cases e : p = q
    · subst e; rw [if_pos rfl, if_pos (by rw [h.size]; omega), upd, if_pos rfl]
    · rw [if_neg (by omega), upd, if_neg (fun h => e h.symm)]; exact h.gh q hq
end
end Go.Pol
namespace Go.Pol

/-- how many of some pages are in group g -/
def cntP (pre : List Int) (g : Int) : Int := (pre.countP fun p => p / 16 == g : Nat)
theorem cntP_snoc (pre : List Int) (x g : Int) : cntP (pre ++ [x]) g = cntP pre g + if x / 16 = g then 1 else 0 := by
  unfold cntP
  rw [List.countP_append]
  by_cases h : x / 16 = g
  · simp [h]
  · simp [h]
theorem cntN_eq (x : Int) : ∀ (k : Nat) (a : Int), cntN (fun q => decide (q = x)) k a = if a ≤ x ∧ x < a + k then 1 else 0
  | 0, a => by rw [cntN, if_neg (by omega)]
  | k + 1, a => by
    rw [cntN, cntN_eq x k (a + 1)]
    by_cases h : a = x
    · rw [if_pos (by simpa using h), if_neg (by omega), if_pos (by omega)]; rfl
    · rw [if_neg (by simpa using h)]
      by_cases h2 : a + 1 ≤ x ∧ x < a + 1 + k
      · rw [if_pos h2, if_pos (by omega)]; rfl
      · rw [if_neg h2, if_neg (by omega)]; rfl
theorem cntN_or {f g : Int → Bool} : ∀ (k : Nat) (a : Int), (∀ q, f q = true → g q = true → False) → cntN (fun q => f q || g q) k a = cntN f k a + cntN g k a
  | 0, _, _ => rfl
  | k + 1, a, h => by
    rw [cntN, cntN, cntN, cntN_or k (a + 1) h]
    cases hf : f a with
    | true =>
      cases hg : g a with
      | true => exact (h a hf hg).elim
      | false => simp; omega
    | false =>
      cases hg : g a with
      | true => simp; omega
      | false => simp
theorem cntP_mem (g : Int) : ∀ (l : List Int), l.Nodup → cntP l g = cntN (fun q => decide (q ∈ l)) 16 (16 * g)
  | [], _ => by rw [cntN_none]; · rfl
                · intro q _ _; simp
  | x :: r, h => by
    obtain ⟨h1, h2⟩ := List.nodup_cons.1 h
    have e : (fun q => decide (q ∈ x :: r)) = fun q => decide (q = x) || decide (q ∈ r) := by
      funext q; simp
    rw [e, cntN_or _ _ (fun q a b => h1 (by simp only [decide_eq_true_eq] at a b; exact a ▸ b)), cntN_eq, ← cntP_mem g r h2]
    unfold cntP
    rw [List.countP_cons]
    by_cases hx : x / 16 = g
    · rw [if_pos (by simpa using hx), if_pos (by omega)]; omega
    · rw [if_neg (by simpa using hx), if_neg (by omega)]; omega
theorem mem_pagesOf {p : Int} {us : List Sp} : p ∈ pagesOf us ↔ mem p us = true := by
  unfold pagesOf mem
  simp only [List.mem_flatMap, List.mem_map, List.mem_range, List.any_eq_true, Bool.and_eq_true, decide_eq_true_eq]
  constructor
  · rintro ⟨x, hx, k, hk, rfl⟩
    exact ⟨x, hx, by omega, by omega⟩
  · rintro ⟨x, hx, h1, h2⟩
    exact ⟨x, hx, (p - x.1).toNat, by omega, by omega⟩
theorem pages_lt {us : List Sp} (h : Can us) : (pagesOf us).Pairwise (· < ·) :=
  (pages_sorted us (-1) (fun x hx => (vld_iff.1 (h.1 x hx)).2.2.1) h.2).1
theorem pages_nodup {us : List Sp} (h : Can us) : (pagesOf us).Nodup := (pages_lt h).imp (fun h => by omega)
theorem cntP_pages {us : List Sp} (h : Can us) (g : Int) : cntP (pagesOf us) g = grpF us g := by
  rw [cntP_mem g _ (pages_nodup h)]
  unfold grpF cntF
  refine cntN_congr _ _ fun q _ _ => ?_
  rw [Bool.eq_iff_iff]; simp [mem_pagesOf]
theorem subF_iff {L C : List Sp} (h : Can L) : subF L C = true ↔ ∀ p ∈ pagesOf L, mem p C = true := by
  unfold subF
  simp only [List.all_eq_true, List.mem_range, Bool.or_eq_true, Bool.not_eq_true']
  constructor
  · intro hs p hp
    have hm := mem_pagesOf.1 hp
    obtain ⟨h0, h1⟩ := h.range hm
    have := hs p.toNat (by omega)
    rw [show ((p.toNat : Nat) : Int) = p by omega] at this
    rcases this with h' | h'
    · rw [hm] at h'; cases h'
    · exact h'
  · intro hs p hp
    cases hm : mem (p : Int) L with
    | false => exact .inl rfl
    | true => exact .inr (hs _ (mem_pagesOf.2 hm))
end Go.Pol
namespace Go.Pol
open Go
/-- a power of two from 1 to 1024 -/
def isPow (x : Nat) : Bool := List.elem x [1, 2, 4, 8, 16, 32, 64, 128, 256, 512, 1024]
theorem isPow_le {x : Nat} (h : isPow x = true) : 1 ≤ x ∧ x ≤ 1024 := by
  simp [isPow] at h
  omega
def badPlace (pages align : Int) : Bool := !(decide (1 ≤ pages) && decide (pages ≤ 1024) && isPow align.toNat)
def placeE (us : List Sp) (pages align : Int) : Int := if chkS us = 0 then (if badPlace pages align = true then 2 else 0) else chkS us
/-- the least multiple that is not below a page -/
def upP (align a : Int) : Int := (a + align - 1) / align * align
def placeX (pages align : Int) (x : Sp) : Option (Int × Sp) := if upP align x.1 + pages ≤ x.1 + x.2 then some (upP align x.1, x) else none
def placesF (us : List Sp) (pages align : Int) : List (Int × Sp) := us.filterMap (placeX pages align)
theorem upP_ok {align a : Int} (h : 1 ≤ align) : a ≤ upP align a ∧ upP align a ≤ a + align - 1 := by
  unfold upP
  have h1 := Int.emod_add_mul_ediv (a + align - 1) align
  have h2 := Int.emod_nonneg (a + align - 1) (show align ≠ 0 by omega)
  have h3 := Int.emod_lt_of_pos (a + align - 1) (show 0 < align by omega)
  rw [Int.mul_comm ((a + align - 1) / align) align]
  omega
theorem placeE_zero {us : List Sp} {pages align : Int} (h : placeE us pages align = 0) : Can us ∧ 1 ≤ pages ∧ pages ≤ 1024 ∧ 1 ≤ align ∧ align ≤ 1024 ∧ isPow align.toNat = true := by
  unfold placeE at h
  split at h
  · rename_i h1
    split at h
    · cases h
    · rename_i h2
      simp only [badPlace, Bool.not_eq_true', Bool.not_eq_false, Bool.and_eq_true, decide_eq_true_eq] at h2
      have := isPow_le h2.2
      exact ⟨chkS_zero.1 h1, h2.1.1, h2.1.2, by omega, by omega, h2.2⟩
  · rename_i h1; exact absurd h h1
theorem places_take (us : List Sp) (pages align : Int) (k : Nat) (hk : k < us.length) : placesF (us.take (k + 1)) pages align = placesF (us.take k) pages align ++ (placeX pages align (us.getD k (0,0))).toList := by
  have e : us.take (k + 1) = us.take k ++ [us.getD k (0,0)] := by
    rw [List.take_add_one, List.getElem?_eq_getElem hk, List.getD_eq_getElem?_getD, List.getElem?_eq_getElem hk]; rfl
  unfold placesF
  rw [e, List.filterMap_append]
  congr 1
theorem places_pre (us : List Sp) (pages align : Int) (k : Nat) : placesF (us.take k) pages align <+: placesF us pages align := by
  refine ⟨placesF (us.drop k) pages align, ?_⟩
  unfold placesF
  rw [← List.filterMap_append, List.take_append_drop]
end Go.Pol
namespace Go.Proofs.YtefnnfcfigcikaaGreat
open Go Go.Proofs Go.RowKit Go.Pol Go.Shelf
attribute [local go_sem] Oper.semAt_some Go.Pol.wide_fn Go.Pol.wide_depth Go.Pol.wide_fn' Go.Pol.wide_depth'

set_option maxRecDepth 100000 in
theorem ones64_any (x : Nat) (hx : x ≤ 1024) (w : World) : Calls Tryz.prog 183 #[.int .u64 (x : Int)] w fun e w' => ∃ r : Int, e = .returned (.int .i64 r) ∧ w' = w ∧ (r != 1) = !isPow x := by
  go_enter Tryz.func183, Tryz.ntmps183
  go_wp2_with fail
  go_ret
  refine ⟨_, rfl, rfl, ?_⟩
  clear w
  revert x
  decide +kernel
theorem ones_any (x : Nat) (hx : x ≤ 1024) (w : World) : Calls Tryz.prog 145 #[.int .u64 (x : Int)] w fun e w' => ∃ r : Int, e = .returned (.int .i64 r) ∧ w' = w ∧ (r != 1) = !isPow x := by
  have H := Lib.hid (ones64_any x hx w)
  go_enter Tryz.func145, Tryz.ntmps145
  go_wp2_with fail
  refine H.out.mono ?_
  rintro e w1 ⟨r, rfl, rfl, hr⟩
  go_wp2_with fail
  go_ret
  exact ⟨r, rfl, rfl, hr⟩

abbrev plV (x : Int × Sp) : Array Value := #[.int .i64 x.1, .agg #[.int .i64 x.2.1, .int .i64 x.2.2]]
end Go.Proofs.YtefnnfcfigcikaaGreat
namespace Go.Pol
open Go Go.RowKit
/-- what First answers -/
def headP (l : List (Int × Sp)) : Int × Int := match l with
  | [] => (0, 4)
  | x :: _ => (x.1, 0)
def firstF (us : List Sp) (pages align : Int) : Int × Int := if placeE us pages align = 0 then headP (placesF us pages align) else (0, placeE us pages align)
abbrev plA (x : Int × Sp) : Array Value := #[.int .i64 x.1, .agg #[.int .i64 x.2.1, .int .i64 x.2.2]]
/-- a loop over pairs whose first goes into a temporary -/
theorem rangeXP1 {P : Program} {g : Operand} {ps : Array Tmp} {assign body : Code} {Q : Exit → Act → World → Prop} {a : Act} {w : World} (ia pa pb : Nat)
    {gf : Nat} {lb : Array Value} (hg : a.eval g = .func (.func gf) #[] lb) (eg : ∀ args w, (callFunc gf args).run P w = .ok (.enter gf args) w)
    {T K : Nat → Prop} {xs : List (Int × Sp)} (hseq : SeqX P gf lb plA T K xs w) (hps : ps = #[pa, pb])
    (hT : ∀ k, T k → k < w.heap.size) (hK : ∀ k, K k → k < w.heap.size)
    (I : (Nat → Prop) → List (Int × Sp) → World → Prop) (Ix : Code → (Nat → Prop) → List (Int × Sp) → World → Prop)
    (hI : ∀ X pre A B, I X pre A → Far (fun k => T k ∨ X k ∨ k = w.heap.size ∨ k = w.heap.size + 1) A B → I X pre B)
    (hIx : ∀ c X pre A B, Ix c X pre A → Far (fun k => T k ∨ X k ∨ k = w.heap.size ∨ k = w.heap.size + 1) A B → Ix c X pre B)
    (hnew : ∀ X X' pre A, I X pre A → (∀ k, X' k → X k ∨ A.heap.size ≤ k) → I X' pre A)
    (h0 : I (fun _ => False) [] w)
    (hassign : ∀ (m l : Nat) (x : Int × Sp) (W : World) (C : Act → World → Prop),
      C { tmps := ((a.tmps.setIfInBounds pa (.int .i64 x.1)).setIfInBounds pb (.agg #[.int .i64 x.2.1, .int .i64 x.2.2])).setIfInBounds ia (.int .i64 x.1), defers := [] } W →
      assign.wpIn (Fence.wide.inRound l) m P (Exit.then C (fun _ _ _ => False)) { tmps := ((a.tmps.setIfInBounds pa (.int .i64 x.1)).setIfInBounds pb (.agg #[.int .i64 x.2.1, .int .i64 x.2.2])), defers := [] } W)
    (hbody : ∀ (m l : Nat) (X : Nat → Prop) (pre : List (Int × Sp)) (x : Int × Sp) (Wa W : World), w.heap.size + 2 ≤ W.heap.size → (∀ k, X k → k < Wa.heap.size ∧ k ≠ w.heap.size ∧ k ≠ w.heap.size + 1) → I X pre W → pre ++ [x] <+: xs →
      body.wpIn (Fence.wide.inRound l) m P (xPost w.heap.size K X I Ix (pre ++ [x]) W) { tmps := ((a.tmps.setIfInBounds pa (.int .i64 x.1)).setIfInBounds pb (.agg #[.int .i64 x.2.1, .int .i64 x.2.2])).setIfInBounds ia (.int .i64 x.1), defers := [] } W)
    (hdone : ∀ (X : Nat → Prop) (W : World), w.heap.size + 2 ≤ W.heap.size → I X xs W → W.heap[w.heap.size]? = some (.deferred (some [])) → Q .normal { a with defers := markOf w.heap.size :: a.defers } W)
    (hstop : ∀ (c : Code) (X : Nat → Prop) (pre : List (Int × Sp)) (W : World), w.heap.size + 2 ≤ W.heap.size → pre <+: xs → Ix c X pre W → W.heap[w.heap.size]? = some (.deferred (some [])) → c.wp P Q { a with defers := markOf w.heap.size :: a.defers } W) :
    (Code.rangeFunc g ps assign body).wp P Q a w := by
  subst hps
  refine rangeX hg eg hseq (fun _ => rfl) hT hK I Ix hI hIx hnew h0
    (fun _ x a' _ => a' = { tmps := ((a.tmps.setIfInBounds pa (.int .i64 x.1)).setIfInBounds pb (.agg #[.int .i64 x.2.1, .int .i64 x.2.2])).setIfInBounds ia (.int .i64 x.1), defers := [] })
    (fun _ _ _ _ _ h _ => h) ?_ ?_ hdone hstop
  · intro m l x W C hs hC
    have e : (#[pa, pb].zip (plA x)).foldl (fun t (p, v) => t.setIfInBounds p v) a.tmps = ((a.tmps.setIfInBounds pa (.int .i64 x.1)).setIfInBounds pb (.agg #[.int .i64 x.2.1, .int .i64 x.2.2])) := by simp [plA]
    rw [e]
    exact hassign m l x W C (hC _ _ (Far.refl _ W) rfl)
  · rintro m l X pre x a' Wa W hs hX hi rfl hpre _ _
    exact hbody m l X pre x Wa W hs hX hi hpre
/-- a loop over pairs whose first goes into a temporary, and whose second lies in a box -/
theorem rangeXP2 {P : Program} {g : Operand} {ps : Array Tmp} {assign body : Code} {Q : Exit → Act → World → Prop} {a : Act} {w : World} (ia ib pa pb : Nat) (tE : TypeId)
    {gf : Nat} {lb : Array Value} (hg : a.eval g = .func (.func gf) #[] lb) (eg : ∀ args w, (callFunc gf args).run P w = .ok (.enter gf args) w)
    {T K : Nat → Prop} {xs : List (Int × Sp)} (hseq : SeqX P gf lb plA T K xs w) (hps : ps = #[pa, pb])
    (hT : ∀ k, T k → k < w.heap.size) (hK : ∀ k, K k → k < w.heap.size)
    (I : (Nat → Prop) → List (Int × Sp) → World → Prop) (Ix : Code → (Nat → Prop) → List (Int × Sp) → World → Prop)
    (hI : ∀ X pre A B, I X pre A → Far (fun k => T k ∨ X k ∨ k = w.heap.size ∨ k = w.heap.size + 1) A B → I X pre B)
    (hIx : ∀ c X pre A B, Ix c X pre A → Far (fun k => T k ∨ X k ∨ k = w.heap.size ∨ k = w.heap.size + 1) A B → Ix c X pre B)
    (hnew : ∀ X X' pre A, I X pre A → (∀ k, X' k → X k ∨ A.heap.size ≤ k) → I X' pre A)
    (h0 : I (fun _ => False) [] w)
    (hassign : ∀ (m l : Nat) (x : Int × Sp) (W : World) (C : Act → World → Prop),
      C { tmps := (((a.tmps.setIfInBounds pa (.int .i64 x.1)).setIfInBounds pb (.agg #[.int .i64 x.2.1, .int .i64 x.2.2])).setIfInBounds ia (.int .i64 x.1)).setIfInBounds ib (.pointer (some ⟨W.heap.size, 0, none⟩)), defers := [] } (W.alloc (.cells #[.int .i64 x.2.1, .int .i64 x.2.2] tE)) →
      assign.wpIn (Fence.wide.inRound l) m P (Exit.then C (fun _ _ _ => False)) { tmps := ((a.tmps.setIfInBounds pa (.int .i64 x.1)).setIfInBounds pb (.agg #[.int .i64 x.2.1, .int .i64 x.2.2])), defers := [] } W)
    (hbody : ∀ (m l : Nat) (X : Nat → Prop) (pre : List (Int × Sp)) (x : Int × Sp) (Bx : Nat) (Wa W : World), w.heap.size + 2 ≤ W.heap.size → (∀ k, X k → k < Wa.heap.size ∧ k ≠ w.heap.size ∧ k ≠ w.heap.size + 1) → I X pre W → pre ++ [x] <+: xs → w.heap.size + 2 ≤ Bx → Blk W Bx tE #[.int .i64 x.2.1, .int .i64 x.2.2] → Wa.heap.size ≤ Bx →
      body.wpIn (Fence.wide.inRound l) m P (xPost w.heap.size K X I Ix (pre ++ [x]) W) { tmps := (((a.tmps.setIfInBounds pa (.int .i64 x.1)).setIfInBounds pb (.agg #[.int .i64 x.2.1, .int .i64 x.2.2])).setIfInBounds ia (.int .i64 x.1)).setIfInBounds ib (.pointer (some ⟨Bx, 0, none⟩)), defers := [] } W)
    (hdone : ∀ (X : Nat → Prop) (W : World), w.heap.size + 2 ≤ W.heap.size → I X xs W → W.heap[w.heap.size]? = some (.deferred (some [])) → Q .normal { a with defers := markOf w.heap.size :: a.defers } W)
    (hstop : ∀ (c : Code) (X : Nat → Prop) (pre : List (Int × Sp)) (W : World), w.heap.size + 2 ≤ W.heap.size → pre <+: xs → Ix c X pre W → W.heap[w.heap.size]? = some (.deferred (some [])) → c.wp P Q { a with defers := markOf w.heap.size :: a.defers } W) :
    (Code.rangeFunc g ps assign body).wp P Q a w := by
  subst hps
  refine rangeX hg eg hseq (fun _ => rfl) hT hK I Ix hI hIx hnew h0
    (fun N x a' W => ∃ Bx, N ≤ Bx ∧ w.heap.size + 2 ≤ Bx ∧ Blk W Bx tE #[.int .i64 x.2.1, .int .i64 x.2.2] ∧ a' = { tmps := (((a.tmps.setIfInBounds pa (.int .i64 x.1)).setIfInBounds pb (.agg #[.int .i64 x.2.1, .int .i64 x.2.2])).setIfInBounds ia (.int .i64 x.1)).setIfInBounds ib (.pointer (some ⟨Bx, 0, none⟩)), defers := [] })
    (fun N x a' A B ⟨Bx, h0, h1, h2, h3⟩ hf => ⟨Bx, h0, h1, hf.blk h2 (by omega), h3⟩) ?_ ?_ hdone hstop
  · intro m l x W C hs hC
    have e : (#[pa, pb].zip (plA x)).foldl (fun t (p, v) => t.setIfInBounds p v) a.tmps = ((a.tmps.setIfInBounds pa (.int .i64 x.1)).setIfInBounds pb (.agg #[.int .i64 x.2.1, .int .i64 x.2.2])) := by simp [plA]
    rw [e]
    exact hassign m l x W C (hC _ _ ((Far.refl _ W).alloc _) ⟨W.heap.size, Nat.le_refl _, hs, Blk.new _ _ _, rfl⟩)
  · rintro m l X pre x a' Wa W hs hX hi ⟨Bx, h0, h1, h2, rfl⟩ hpre _ _
    exact hbody m l X pre x Bx Wa W hs hX hi hpre h1 h2 h0
end Go.Pol
namespace Go.Proofs.YtefnnfcfigcikaaGreat
open Go Go.Proofs Go.RowKit Go.Pol Go.Shelf
attribute [local go_sem] Oper.semAt_some Go.Pol.wide_fn Go.Pol.wide_depth Go.Pol.wide_fn' Go.Pol.wide_depth'

end Go.Proofs.YtefnnfcfigcikaaGreat
namespace Go.Pol
open Go Go.RowKit
/-- one place more for Best -/
def stB (s : Int × Int) (x : Int × Sp) : Int × Int := if x.2.2 < s.2 then (x.1, x.2.2) else s
def bestG (l : List (Int × Sp)) : Int × Int := l.foldl stB (-1, 1025)
def endB (s : Int × Int) : Int × Int := if s.1 < 0 then (0, 4) else (s.1, 0)
/-- what Best answers -/
def bestF (us : List Sp) (pages align : Int) : Int × Int := if placeE us pages align = 0 then endB (bestG (placesF us pages align)) else (0, placeE us pages align)
/-- a region in a loop's body that draws its order and makes no call: as in a function's own code -/
theorem wpOpIn_round {P : Program} {ops : Array Oper} {Q : Exit → Act → World → Prop} {l m i : Nat} {K : Act → World → Prop} {a : Act} {w : World} (hd : ∀ o : Oper, ops[i]? = some o → ∀ c, o.op ≠ .defer c) (hno : ¬ LetsOut Q)
    (h : wpOp P ops Q i K a w) : wpOpIn (Fence.wide.inRound l) m P ops Q i K a w := by
  unfold wpOp at h
  unfold wpOpIn
  split
  · rename_i ho; simpa only [ho] using h
  · rename_i o ho
    simp only [ho] at h
    split
    · rename_i hw
      simp only [hw, if_true] at h
      rcases h with h | ⟨_, h⟩
      · unfold Oper.wpIn
        refine ⟨fun _ _ => trivial, ?_⟩
        rw [Fence.inRound_round, Oper.semAt_some l _ _ (hd o ho)]
        unfold Oper.wp at h
        generalize (execOp a.eval o).run P w = r at *
        cases r with
        | ok x w' =>
          cases x <;> simp only [Oper.upon, Oper.uponIn] at h ⊢ <;> first
            | exact h
            | exact ⟨fun h0 => (by cases h0), (CallsIn.inRound l (callsIn_wide.2 h)).mono fun e w'' he => by cases e <;> exact he⟩
            | exact ⟨fun h0 => (by cases h0), fun c cs _ => let ⟨v, w'', r, s⟩ := h c cs; ⟨v, w'', r, stepsIn_wide.2 s⟩⟩
        | halt x w' => cases x <;> simp only [Oper.upon, Oper.uponIn] at h ⊢ <;> exact h
      · exact absurd h hno
    · rename_i hw
      simp only [hw] at h
      exact ⟨fun _ _ => trivial, h⟩
theorem wpAnyIn_round {P : Program} {ops : Array Oper} {Q : Exit → Act → World → Prop} {md : Region.Mode} {l m : Nat} (hd : ∀ (i : Nat) (o : Oper), ops[i]? = some o → ∀ c, o.op ≠ .defer c) (hno : ¬ LetsOut Q) :
    ∀ (fuel : Nat) (listed : Array Bool) (a : Act) (w : World), wpAny P md ops Q fuel listed a w → wpAnyIn (Fence.wide.inRound l) m P md ops Q fuel listed a w
  | 0, _, _, _, h => h
  | fuel + 1, _, _, _, h => ⟨h.1, fun i hi => wpOpIn_mono (fun a w h => wpAnyIn_round hd hno fuel _ a w h) (wpOpIn_round (hd i) hno (h.2 i hi))⟩
def noDefer (ops : Array Oper) : Bool := ops.all fun o => match o.op with
  | .defer _ => false
  | _ => true
theorem noDefer_spec {ops : Array Oper} (h : noDefer ops = true) (i : Nat) (o : Oper) (ho : ops[i]? = some o) (c : Call) : o.op ≠ .defer c := fun e => by
  have := (Array.all_eq_true_iff_forall_mem.1 h) o (Array.mem_of_getElem? ho)
  rw [e] at this
  cases this
theorem wpIn_region_T {P : Program} {ops : Array Oper} {Q : Exit → Act → World → Prop} {id l m : Nat} {a : Act} {w : World} (S : World → Prop) (tl : List Nat) (hm : P.follows .mixedOrders = true) (hd : noDefer ops = true) (hno : ¬ LetsOut Q)
    (h : wpAnyT P .any ops Q S tl ops.size (Array.replicate ops.size false) a w.drew) : (Code.region id ops true).wpIn (Fence.wide.inRound l) m P Q a w :=
  wpIn_region_any hm (wpAnyIn_round (noDefer_spec hd) hno _ _ _ _ (wpAny_of_T _ _ _ _ h))
theorem wpIn_noPanic {F : Fence} {m : Nat} {P : Program} {c : Code} {Q : Exit → Act → World → Prop} {a : Act} {w : World} (h : c.wpIn F m P (noPanic Q) a w) : c.wpIn F m P Q a w :=
  wpIn_mono h (fun e a w h => by cases e <;> first | exact h.elim | exact h)
/-- what the region in the loop of 'Best' reads -/
def BestS (Bx : Nat) (xb : Int) (w : Go.World) : Prop := w.cell? ⟨Bx, 1, none⟩ = some (.int .i64 xb) ∧ True
theorem bestG_snoc (l : List (Int × Sp)) (x : Int × Sp) : bestG (l ++ [x]) = stB (bestG l) x := by simp [bestG]
end Go.Pol
namespace Go.Proofs.YtefnnfcfigcikaaGreat
open Go Go.Proofs Go.RowKit Go.Pol Go.Shelf
attribute [local go_sem] Oper.semAt_some Go.Pol.wide_fn Go.Pol.wide_depth Go.Pol.wide_fn' Go.Pol.wide_depth'

end Go.Proofs.YtefnnfcfigcikaaGreat
namespace Go.Pol
open Go Go.RowKit
/-- strips 2^d values 'false' off a list -/
def strip : Nat → List Value → Option (List Value)
  | 0, .bool false :: r => some r
  | 0, _ => none
  | d + 1, l => match strip d l with
    | some r => strip d r
    | none => none
theorem strip_spec : ∀ (d : Nat) (l r : List Value), strip d l = some r → l = List.replicate (2 ^ d) (.bool false) ++ r
  | 0, l, r, h => by
    unfold strip at h
    split at h
    · cases h; rfl
    · cases h
    · rename_i h2 _ _; omega
  | d + 1, l, r, h => by
    rw [strip] at h
    split at h
    · rename_i r' h'
      have h1 := strip_spec d l r' h'
      have h2 := strip_spec d r' r h
      rw [h1, h2, ← List.append_assoc, List.replicate_append_replicate]
      rw [show 2 ^ d + 2 ^ d = 2 ^ (d + 1) by rw [Nat.pow_succ]; omega]
    · cases h
section
variable {P : Program}
/-- a region in a loop's body that draws its order: operations that read come first, and then stores in their order -/
theorem region_tail_round {id lr m : Nat} {Q : Exit → Act → World → Prop} {a : Act} {w : World} {l : List Oper} (n : Nat) (hm : P.follows .mixedOrders = true) (hd : noDefer l.toArray = true) (hno : ¬ LetsOut Q) (hB : Region.lexTailB .any l.toArray n = true)
    (h : wpQuiet P l.toArray (fun w' => ∃ x : Ext w, w' = x.w) (fun a' => ∀ x : Ext w, wpList P l.toArray Q (l.drop n) a' x.w) (l.take n) a) : (Code.region id l.toArray true).wpIn (Fence.wide.inRound lr) m P Q a w := by
  simp only [Region.lexTailB, Bool.and_eq_true, decide_eq_true_eq] at hB
  obtain ⟨⟨⟨⟨hsel, hn⟩, hs⟩, hc⟩, hlex⟩ := hB
  have hn' : n < l.length := by simpa using hn
  have htl : (l.take n).length = n := by simp; omega
  have hdl : (l.drop n).length = l.toArray.size - n := by simp
  have inv0 : HeadInv .any l.toArray n (Array.replicate l.toArray.size false) :=
    ⟨by simp, fun j oj _ hl => (by rw [getD_replicate_false] at hl; cases hl), fun t _ ht => getD_in (by simpa using ht) (getD_replicate_false _ _)⟩
  have H := headQ_lex (md := .any) (g := l.toArray.size - n) hsel hs hc hn (l.take n) 0 _ a (fun j hj => by
    have hj' : j < n := by rw [htl] at hj; exact hj
    simp [hj']) (by simpa using htl) inv0 (by rw [htl]; exact hlex) h
  refine wpIn_region_any hm (wpAnyIn_round (noDefer_spec hd) hno _ _ _ _ ?_)
  have := wpAny_of_headQ (Q' := Q) (g := l.toArray.size - n) (fun listed a' w' hw' hL => by
    obtain ⟨x, rfl⟩ := hw'
    have := wpAny_of_seq (md := .any) (Q' := Q) (l.drop n) n listed a' x.w (fun j => by simp [List.getElem?_drop]) (by rw [hdl]; exact hL.1) (hL.2 x)
    rwa [hdl] at this) _ _ _ _ (⟨⟨_, (Below.refl _ w).drew⟩, rfl⟩ : ∃ x : Ext w, ({ w with drawn := w.drawn + 1 } : World) = x.w) H
  rw [htl, show n + (l.toArray.size - n) = l.toArray.size by omega] at this
  exact this
end
theorem RI.on {w w' : World} {A : Option Addr} {us : List Int} (h : RI w w.heap.size A us) (hb : Below w.heap.size w w')   : RI w' w'.heap.size A us := (h.below hb).more hb.size
end Go.Pol
namespace Go.Proofs.YtefnnfcfigcikaaGreat
open Go Go.Proofs Go.RowKit Go.Pol Go.Shelf
attribute [local go_sem] Oper.semAt_some Go.Pol.wide_fn Go.Pol.wide_depth Go.Pol.wide_fn' Go.Pol.wide_depth'

/-- what 'open' hands back -/
def OpenR (w : World) (C L : List Sp) (H : List Int) (e : Ending) (w' : World) : Prop :=
  Below w.heap.size w w' ∧ (chkH C L H ≠ 0 → e = .returned (.tuple #[.pointer none, .int .i64 (chkH C L H)])) ∧
    (chkH C L H = 0 → ∃ b cs, e = .returned (.tuple #[.pointer (some ⟨b, 0, none⟩), .int .i64 0]) ∧ w.heap.size ≤ b ∧ Blk w' b 160 cs ∧
      LookIs cs (fun p => mem (p : Int) C) (fun p => mem (p : Int) L) (fun g => (g : Int)) (fun g => grpF C g) (fun g => grpF L g) (fun g => decide ((g : Int) ∈ H)))

theorem chkH_1 {C L : List Sp} {H : List Int} (h : chkS C ≠ 0) : chkH C L H = chkS C := by rw [chkH, if_pos h]
theorem chkH_2 {C L : List Sp} {H : List Int} (h : chkS C = 0) (h2 : chkS L ≠ 0) : chkH C L H = chkS L := by rw [chkH, if_neg (by simp [h]), if_pos h2]
theorem chkH_3 {C L : List Sp} {H : List Int} (h : chkS C = 0) (h2 : chkS L = 0) (h3 : H.all inG = false) : chkH C L H = 7 := by
  rw [chkH, if_neg (by simp [h]), if_neg (by simp [h2]), if_pos h3]
theorem chkH_4 {C L : List Sp} {H : List Int} (h : chkS C = 0) (h2 : chkS L = 0) (h3 : H.all inG = true) (h4 : subF L C = false) : chkH C L H = 6 := by
  rw [chkH, if_neg (by simp [h]), if_neg (by simp [h2]), if_neg (by simp [h3]), if_pos h4]
theorem chkH_5 {C L : List Sp} {H : List Int} (h : chkS C = 0) (h2 : chkS L = 0) (h3 : H.all inG = true) (h4 : subF L C = true) (h5 : hugOk C (-1) H = false) : chkH C L H = 6 := by
  rw [chkH, if_neg (by simp [h]), if_neg (by simp [h2]), if_neg (by simp [h3]), if_neg (by simp [h4]), if_pos h5]
theorem OpenR.err {w w' : World} {C L : List Sp} {H : List Int} {er : Int} (hb : Below w.heap.size w w') (h : chkH C L H = er) (he : er ≠ 0) :
    OpenR w C L H (.returned (.tuple #[.pointer none, .int .i64 er])) w' := ⟨hb, fun _ => by rw [h], fun h0 => absurd (h.symm.trans h0) he⟩
/-- it returns behind two statements -/
theorem leave_mark2 {P : Program} {fn : Func} {tmps : Array Value} {w : World} {R : Ending → World → Prop} {D E : Nat} {v : Value} (hne : D ≠ E) (hd : w.heap[D]? = some (.deferred (some [])))
    (he : w.heap[E]? = some (.deferred (some [])))
    (hres : (results fn tmps).run P ((w.putObj E (.deferred none)).putObj D (.deferred none)) = .ok v ((w.putObj E (.deferred none)).putObj D (.deferred none))) (hR : R (.returned v) ((w.putObj E (.deferred none)).putObj D (.deferred none))) :
    bodyPostM Fence.wide 0 P fn R .ret { tmps := tmps, defers := [markOf E, markOf D] } w :=
  ⟨by simp, .inl ⟨_, _, rfl, run_takeDeferred he, by simp, .inl ⟨_, _, rfl, run_takeDeferred ((World.putObj_heap_other hne).trans hd), v, hres, hR⟩⟩⟩

theorem zeroStrip : strip 11 Tryz.zeroCells160.toList = some (List.replicate 64 [Value.int .i64 0, .int .i64 0, .int .i64 0, .bool false]).flatten := by kernel_rfl
theorem flat4_get {a b c d : Value} : ∀ (n g r : Nat), g < n → r < 4 → (List.replicate n [a, b, c, d]).flatten[g * 4 + r]? = [a, b, c, d][r]?
  | 0, g, _, h, _ => by omega
  | n + 1, 0, r, _, hr => by
    rw [List.replicate_succ, List.flatten_cons, List.getElem?_append_left (by simp; omega)]; simp
  | n + 1, g + 1, r, h, hr => by
    rw [List.replicate_succ, List.flatten_cons, List.getElem?_append_right (by simp; omega)]
    rw [show (g + 1) * 4 + r - [a, b, c, d].length = g * 4 + r by simp; omega]
    exact flat4_get n g r (by omega) hr
theorem flat4_len {a b c d : Value} : ∀ (n : Nat), (List.replicate n [a, b, c, d]).flatten.length = n * 4
  | 0 => rfl
  | n + 1 => by rw [List.replicate_succ, List.flatten_cons, List.length_append, flat4_len n]; simp; omega
theorem zeroLook : LookIs Tryz.zeroCells160 (fun _ => false) (fun _ => false) (fun _ => 0) (fun _ => 0) (fun _ => 0) (fun _ => false) := by
  have e := strip_spec _ _ _ zeroStrip
  obtain ⟨zc, hzc⟩ : ∃ zc, Tryz.zeroCells160 = zc := ⟨_, rfl⟩
  rw [hzc] at e ⊢
  clear hzc
  have hl : (List.replicate (2 ^ 11) (Value.bool false)).length = 2048 := by rw [List.length_replicate]
  have hlow : ∀ q, q < 2048 → zc[q]? = some (.bool false) := fun q hq => by
    rw [← Array.getElem?_toList, e, List.getElem?_append_left (by rw [hl]; exact hq), List.getElem?_replicate, if_pos hq]
  have hhigh : ∀ g r, g < 64 → r < 4 → zc[2048 + g * 4 + r]? = [Value.int .i64 0, .int .i64 0, .int .i64 0, .bool false][r]? := fun g r hg hr => by
    rw [← Array.getElem?_toList, e, List.getElem?_append_right (by rw [hl]; omega), hl, show 2048 + g * 4 + r - 2048 = g * 4 + r by omega]
    exact flat4_get 64 g r hg hr
  exact ⟨by rw [← Array.length_toList, e, List.length_append, hl, flat4_len], fun q hq => hlow _ (by omega), fun q hq => hlow _ (by omega), fun q hq => hhigh q 0 hq (by omega),
    fun q hq => hhigh q 1 hq (by omega), fun q hq => hhigh q 2 hq (by omega), fun q hq => hhigh q 3 hq (by omega)⟩

theorem page_nat {C : List Sp} (h : Go.Pol.Can C) {pre : List Int} {xa : Int} (hp : pre ++ [xa] <+: pagesOf C) : ∃ x : Nat, xa = (x : Int) ∧ x < 1024 := by
  have hm : xa ∈ pagesOf C := hp.subset (by simp)
  obtain ⟨h0, h1⟩ := h.range (mem_pagesOf.1 hm)
  exact ⟨xa.toNat, by omega, by omega⟩
theorem cntP_bound (pre : List Int) (g : Int) : 0 ≤ cntP pre g ∧ cntP pre g ≤ pre.length := by
  unfold cntP
  have := List.countP_le_length (p := fun p : Int => p / 16 == g) (l := pre)
  omega
theorem pre_len {C : List Sp} (h : Go.Pol.Can C) {pre : List Int} {xa : Int} (hp : pre ++ [xa] <+: pagesOf C) : pre.length < 1024 := by
  have h1 := hp.length_le
  have h2 := pieces_most (us := C) (size := 1)
  rw [← pieces_one h, List.length_map] at h1
  simp at h1
  omega
theorem take_snocI (us : List Int) (k : Nat) (h : k < us.length) : us.take (k + 1) = us.take k ++ [us.getD k 0] := by
  rw [List.take_add_one, List.getElem?_eq_getElem h, List.getD_eq_getElem?_getD, List.getElem?_eq_getElem h]; simp
theorem upd_mem (pre : List Int) (x : Nat) : upd (fun p : Nat => decide ((p : Int) ∈ pre)) x true = fun p : Nat => decide ((p : Int) ∈ pre ++ [(x : Int)]) := by
  funext p
  unfold upd
  by_cases h : p = x
  · subst h; simp
  · rw [if_neg h]
    have : ¬ ((p : Int) = (x : Int)) := by omega
    simp [this]
theorem upd_take (pre : List Int) (x : Nat) : upd (fun g : Nat => decide ((g : Int) ∈ pre)) x true = fun g : Nat => decide ((g : Int) ∈ pre ++ [(x : Int)]) := upd_mem pre x
theorem upd_num (q : Nat) : upd (fun g : Nat => if g < q then (g : Int) else 0) q (q : Int) = fun g : Nat => if g < q + 1 then (g : Int) else 0 := by
  funext g
  unfold upd
  by_cases h : g = q
  · subst h; rw [if_pos rfl, if_pos (by omega)]
  · rw [if_neg h]
    dsimp only
    by_cases h2 : g < q
    · rw [if_pos h2, if_pos (by omega)]
    · rw [if_neg h2, if_neg (by omega)]
theorem _root_.Go.Pol.LookIs.congr_nm {cs : Array Value} {cm lv : Nat → Bool} {nm gc gl f : Nat → Int} {gh : Nat → Bool} (h : LookIs cs cm lv nm gc gl gh) (hf : ∀ g, g < 64 → nm g = f g) : LookIs cs cm lv f gc gl gh :=
  ⟨h.size, h.cm, h.lv, fun q hq => by rw [h.nm q hq, hf q hq], h.gc, h.gl, h.gh⟩
/-- the huge group ahead of number k -/
def prevH (H : List Int) (k : Nat) : Int := if k = 0 then -1 else H.getD (k - 1) 0
theorem upd_cnt {pre : List Int} {x q : Nat} (h : x / 16 = q) : upd (fun g : Nat => cntP pre (g : Int)) q (cntP pre (q : Int) + 1) = fun g : Nat => cntP (pre ++ [(x : Int)]) (g : Int) := by
  funext g
  unfold upd
  rw [cntP_snoc]
  by_cases hg : g = q
  · subst hg; rw [if_pos rfl, if_pos (by omega)]
  · rw [if_neg hg, if_neg (by omega), Int.add_zero]
theorem farI {D bk : Nat} {w4 A B : World} {X : Nat → Prop} {cm lv : Nat → Bool} {nm gc gl : Nat → Int} {gh : Nat → Bool} (hb : bk < D) (hD : w4.heap.size = D)
    (h : (∀ k, X k → D ≤ k) ∧ Far (fun k => k = bk) w4 A ∧ ∃ cs, Blk A bk 160 cs ∧ LookIs cs cm lv nm gc gl gh)
    (hf : Far (fun k => False ∨ X k ∨ k = w4.heap.size ∨ k = w4.heap.size + 1) A B) :
    (∀ k, X k → D ≤ k) ∧ Far (fun k => k = bk) w4 B ∧ ∃ cs, Blk B bk 160 cs ∧ LookIs cs cm lv nm gc gl gh := by
  obtain ⟨h1, h2, cs, h3, h4⟩ := h
  refine ⟨h1, h2.trans' hf (fun i hi h' => ?_), cs, hf.blk h3 ?_, h4⟩
  · rcases h' with h' | h' | h' | h'
    · exact h'.elim
    · have := h1 _ h'; omega
    · omega
    · omega
  · rintro (h' | h' | h' | h')
    · exact h'
    · have := h1 _ h'; omega
    · omega
    · omega

theorem newCell2 (w : World) (t : TypeId) (v u : Value) : Blk (w.alloc (.cells #[v, u] t)) w.heap.size t #[v, u] ∧ Below w.heap.size w (w.alloc (.cells #[v, u] t)) :=
  ⟨Blk.new w t #[v, u], (Below.refl w.heap.size w).alloc (Nat.le_refl _) _⟩
set_option maxRecDepth 100000 in
set_option maxHeartbeats 3200000 in
theorem open_any (A1 A2 A3 : Option Addr) (n1 c1 n2 c2 n3 c3 : Nat) (C L : List Sp) (H : List Int) (w : World) (hn1 : C.length = n1) (hm1 : n1 ≤ maxLen) (hr1 : RU w w.heap.size A1 C)
    (hn2 : L.length = n2) (hm2 : n2 ≤ maxLen) (hr2 : RU w w.heap.size A2 L) (hn3 : H.length = n3) (hm3 : n3 ≤ maxLen) (hr3 : RI w w.heap.size A3 H) :
    Calls Tryz.prog 67 #[.agg #[.slice A1 n1 c1, .slice A2 n2 c2, .slice A3 n3 c3]] w (OpenR w C L H) := by
  obtain ⟨s, hs⟩ : ∃ s, w.heap.size = s := ⟨_, rfl⟩
  obtain ⟨W0, hW0⟩ : ∃ W0, ((w.alloc (.cells #[.slice A1 n1 c1, .slice A2 n2 c2, .slice A3 n3 c3] 52)).alloc (.cells #[.pointer none] 143)).alloc (.cells #[.int .i64 0] 27) = W0 := ⟨_, rfl⟩
  have hs0 : W0.heap.size = s + 3 := by rw [← hW0, ← hs]; simp
  have hb0 : Below s w W0 := by rw [← hW0, ← hs]; exact (((Below.refl w.heap.size w).alloc (Nat.le_refl _) _).alloc (by simp) _).alloc (by simp; omega) _
  have kH : Blk W0 s 52 #[.slice A1 n1 c1, .slice A2 n2 c2, .slice A3 n3 c3] := by rw [← hW0, ← hs]; exact ((Blk.new _ _ _).alloc _).alloc _
  have kR : Blk W0 (s + 1) 143 #[.pointer none] := by
    rw [← hW0, ← hs]; have := Blk.new (w.alloc (.cells #[.slice A1 n1 c1, .slice A2 n2 c2, .slice A3 n3 c3] 52)) 143 #[.pointer none]
    rw [World.size_alloc] at this; exact this.alloc _
  have kE : Blk W0 (s + 2) 27 #[.int .i64 0] := by
    rw [← hW0, ← hs]; have := Blk.new ((w.alloc (.cells #[.slice A1 n1 c1, .slice A2 n2 c2, .slice A3 n3 c3] 52)).alloc (.cells #[.pointer none] 143)) 27 #[.int .i64 0]
    simp only [World.size_alloc] at this; exact this
  have r1 : RU W0 W0.heap.size A1 C := hr1.on (by rw [hs]; exact hb0)
  have r2 : RU W0 W0.heap.size A2 L := hr2.on (by rw [hs]; exact hb0)
  have r3 : RI W0 W0.heap.size A3 H := (hr3.below (by rw [hs]; exact hb0)).more (by omega)
  have hW1 := Lib.hid hW0
  have cH := kH.cell
  clear hW0 hr1
  refine calls_of_marks Tryz.func67 rfl ?_
  simp only [Tryz.ntmps67, List.size_toArray, List.length_cons, List.length_nil, Nat.reduceAdd, Nat.reduceSub, Array.replicate_succ, Array.replicate_zero, List.push_toArray, List.append_toArray, List.nil_append, List.cons_append]
  go_upto_region 1 with fail
  simp only [Nat.add_assoc, Nat.reduceAdd]
  rw [hW1.out]
  clear hW1
  go_wp2_with fail
  have hbs := (newCell2 W0 42 (.slice A1 n1 c1) (.slice A2 n2 c2))
  obtain ⟨kS, hbS⟩ := hbs
  have hsS : (W0.alloc (.cells #[.slice A1 n1 c1, .slice A2 n2 c2] 42)).heap.size = s + 4 := by rw [World.size_alloc, hs0]
  generalize W0.alloc (.cells #[.slice A1 n1 c1, .slice A2 n2 c2] 42) = W1 at *
  rw [hs0] at kS
  have kH1 := kH.call hbS
  have kR1 := kR.call hbS
  have kE1 := kE.call hbS
  have r11 := r1.on hbS
  have r21 := r2.on hbS
  have r31 := (r3.below hbS).more hbS.size
  have B1 : Below s w W1 := hb0.trans (hbS.mono (by omega))
  clear kH kR kE r1 r2 r3 hbS hb0 hs0 cH
  go_loopw [19] (fun i wr => ∃ k : Nat, k ≤ 2 ∧ i = .int .i64 k ∧ Below W1.heap.size W1 wr ∧ (1 ≤ k → chkS C = 0) ∧ (2 ≤ k → chkS L = 0)) (fun i _ => 2 - (intOf i).toNat)
  case atStart => exact ⟨0, by omega, rfl, Below.refl _ _, by omega, by omega⟩
  case round =>
    obtain ⟨k, hk, rfl, hB, hC0, hL0⟩ := hrel
    have kSr := kS.call hB
    have cS := kSr.cell
    have hB1 := B1.trans (hB.mono (by omega))
    have hsz := hB.size
    have kRr := kR1.call hB
    have kEr := kE1.call hB
    have hCC := Lib.hid (fun W h => spCheck_any A1 n1 c1 C W hn1 hm1 h)
    have hLL := Lib.hid (fun W h => spCheck_any A2 n2 c2 L W hn2 hm2 h)
    by_cases hk0 : k = 0
    · subst hk0
      by_cases hz : chkS C = 0
      · as_aux_lemma =>
          rw [hz] at hCC
          have hz' := Lib.hid hz
          clear hz
          go_wp2_with fail
          refine (hCC.out _ (r11.on hB)).mono ?_
          rintro e w2 ⟨rfl, hb2⟩
          go_wp2_with fail
          go_roundw
          case rel => exact ⟨1, by omega, rfl, hB.trans (hb2.mono hB.size), fun _ => hz'.out, by omega⟩
          case measure => simp [intOf]
      · as_aux_lemma =>
          have hE := Lib.hid (chkH_1 (L := L) (H := H) hz)
          have hz' : (chkS C != 0) = true := by simpa using hz
          have hz2 := Lib.hid hz
          clear hz
          generalize chkS C = er at *
          go_wp2_with fail
          refine (hCC.out _ (r11.on hB)).mono ?_
          rintro e w2 ⟨rfl, hb2⟩
          have cR2 := (kRr.call hb2).cell
          have cE2 := (kEr.call hb2).cell
          have fR2 := (kRr.call hb2).frozen
          have fE2 := (kEr.call hb2).frozen
          go_wp2_with fail
          obtain ⟨k2, k3, hf2⟩ := two_set (by omega) (kRr.call hb2) (kEr.call hb2) (.pointer none) (.int .i64 er)
          have hB2 := (hB1.trans (hb2.mono (by have := hB1.size; omega))).trans (hf2.below (by have := hb2.size; omega) (fun k hk => by omega))
          have c6 := k2.cell
          have c7 := k3.cell
          exact leave_none (v := .tuple #[.pointer none, .int .i64 er]) (by simp [results, Tryz.results67, go_sem, c6, c7]) (OpenR.err (by rw [hs]; exact hB2) hE.out hz2.out)
    · by_cases hk1 : k = 1
      · subst hk1
        by_cases hz : chkS L = 0
        · as_aux_lemma =>
            rw [hz] at hLL
            have hz' := Lib.hid hz
            clear hz
            go_wp2_with fail
            refine (hLL.out _ (r21.on hB)).mono ?_
            rintro e w2 ⟨rfl, hb2⟩
            go_wp2_with fail
            go_roundw
            case rel => exact ⟨2, by omega, rfl, hB.trans (hb2.mono hB.size), fun _ => hC0 (by omega), fun _ => hz'.out⟩
            case measure => simp [intOf]
        · as_aux_lemma =>
            have hE := Lib.hid (chkH_2 (H := H) (hC0 (by omega)) hz)
            have hz' : (chkS L != 0) = true := by simpa using hz
            have hz2 := Lib.hid hz
            clear hz
            generalize chkS L = er at *
            go_wp2_with fail
            refine (hLL.out _ (r21.on hB)).mono ?_
            rintro e w2 ⟨rfl, hb2⟩
            have cR2 := (kRr.call hb2).cell
            have cE2 := (kEr.call hb2).cell
            have fR2 := (kRr.call hb2).frozen
            have fE2 := (kEr.call hb2).frozen
            go_wp2_with fail
            obtain ⟨k2, k3, hf2⟩ := two_set (by omega) (kRr.call hb2) (kEr.call hb2) (.pointer none) (.int .i64 er)
            have hB2 := (hB1.trans (hb2.mono (by have := hB1.size; omega))).trans (hf2.below (by have := hb2.size; omega) (fun k hk => by omega))
            have c6 := k2.cell
            have c7 := k3.cell
            exact leave_none (v := .tuple #[.pointer none, .int .i64 er]) (by simp [results, Tryz.results67, go_sem, c6, c7]) (OpenR.err (by rw [hs]; exact hB2) hE.out hz2.out)
      · obtain rfl : k = 2 := by omega
        have hC := Lib.hid (hC0 (by omega))
        have hL := Lib.hid (hL0 (by omega))
        clear hC0 hL0 hCC hLL kSr cS hk0 hk1 hk
        have kHr := kH1.call hB
        have cHr := kHr.cell
        have HI := Lib.hid (containsI_any (fun x => !inG x) 123 #[] A3 n3 c3 H wr hn3 hm3 ((r31.below hB).more hB.size) (enters_of Tryz.func123 (by kernel_rfl) rfl) (fun x _ W _ => (open1_any x W).mono (fun e W' h => ⟨h.1, by rw [h.2]; exact Below.refl _ _⟩)))
        by_cases hG : (H.any fun x => !inG x) = true
        · as_aux_lemma =>
            have hE := Lib.hid (chkH_3 (H := H) hC.out hL.out (by rw [← Bool.not_eq_true, List.all_eq_true]; intro h; obtain ⟨x, hx, h2⟩ := List.any_eq_true.1 hG; rw [h x hx] at h2; cases h2))
            have hz2 := Lib.hid (show (7 : Int) ≠ 0 by decide)
            rw [hG] at HI
            clear hG
            go_wp2_with fail
            refine HI.out.mono ?_
            rintro e w2 ⟨rfl, hb2⟩
            have cR2 := (kRr.call hb2).cell
            have cE2 := (kEr.call hb2).cell
            have fR2 := (kRr.call hb2).frozen
            have fE2 := (kEr.call hb2).frozen
            go_wp2_with fail
            obtain ⟨k2, k3, hf2⟩ := two_set (by omega) (kRr.call hb2) (kEr.call hb2) (.pointer none) (.int .i64 7)
            have hB2 := (hB1.trans (hb2.mono (by have := hB1.size; omega))).trans (hf2.below (by have := hb2.size; omega) (fun k hk => by omega))
            have c6 := k2.cell
            have c7 := k3.cell
            exact leave_none (v := .tuple #[.pointer none, .int .i64 7]) (by simp [results, Tryz.results67, go_sem, c6, c7]) (OpenR.err (by rw [hs]; exact hB2) hE.out hz2.out)
        have hG2 := Lib.hid (show H.all inG = true by rw [List.all_eq_true]; intro x hx; cases h : inG x with | true => rfl | false => exact absurd (List.any_eq_true.2 ⟨x, hx, by rw [h]; rfl⟩) hG)
        rw [show (H.any fun x => !inG x) = false by simpa using hG] at HI
        clear hG
        go_wp2_with fail
        refine HI.out.mono ?_
        rintro e w2 ⟨rfl, hb2⟩
        have B2 := hB1.trans (hb2.mono (by have := hB1.size; omega))
        have kR2 := kRr.call hb2
        have kE2 := kEr.call hb2
        have kH2 := kHr.call hb2
        have x1 := (r11.on hB).on hb2
        obtain ⟨bk, hbk⟩ : ∃ bk, w2.heap.size = bk := ⟨_, rfl⟩
        obtain ⟨W3, hW3⟩ : ∃ W3, (w2.alloc (.cells Tryz.zeroCells160 160)).alloc (.cells #[.pointer (some ⟨w2.heap.size, 0, none⟩)] 143) = W3 := ⟨_, rfl⟩
        have hb3 : Below w2.heap.size w2 W3 := by rw [← hW3]; exact ((Below.refl _ _).alloc (Nat.le_refl _) _).alloc (by simp) _
        have hs3 : W3.heap.size = bk + 2 := by rw [← hW3, ← hbk]; simp
        have kL3 : ∃ cs, Blk W3 bk 160 cs ∧ LookIs cs (fun _ => false) (fun _ => false) (fun _ => 0) (fun _ => 0) (fun _ => 0) (fun _ => false) := ⟨_, by rw [← hW3, ← hbk]; exact (Blk.new _ _ _).alloc _, zeroLook⟩
        have kP3 : Blk W3 (bk + 1) 143 #[.pointer (some ⟨bk, 0, none⟩)] := by
          rw [← hW3, ← hbk]; have := Blk.new (w2.alloc (.cells Tryz.zeroCells160 160)) 143 #[.pointer (some ⟨w2.heap.size, 0, none⟩)]
          rw [World.size_alloc] at this; exact this
        have B3 := B2.trans (hb3.mono (by have := B2.size; omega))
        have kR3 := kR2.call hb3
        have kE3 := kE2.call hb3
        have kH3 := kH2.call hb3
        have y1 := x1.on hb3
        have cH3 := kH3.cell
        have hW3' := Lib.hid hW3
        have hsb : s + 4 ≤ bk := by have := hb2.size; omega
        clear kR2 kE2 kH2 x1 hb3 B2 kRr kEr kHr HI hsz hB1 hB hW3 r11 r21 r31 cHr kH1 kR1 kE1 kS hsS
        go_upto_region 11 with fail
        have hW4 := hW3'.out
        rw [hbk] at hW4
        rw [hW4]
        clear hW3' hW4 hbk
        have canC := chkS_zero.1 hC.out
        have canL := chkS_zero.1 hL.out
        have T1 := Lib.hid (pagesTop_any A1 n1 c1 C W3 hn1 (by have := canC.len; omega) y1)
        rw [show fsts (piecesF C 1) = pagesOf C from pieces_one canC] at T1
        go_wp2_with fail
        refine T1.out.mono ?_
        rintro e w4 ⟨lb, K4, rfl, hsq, hK4, hb4⟩
        have hs4 := hb4.size
        have B4 := B3.trans (hb4.mono (by omega))
        have kL4 : ∃ cs, Blk w4 bk 160 cs ∧ LookIs cs (fun _ => false) (fun _ => false) (fun _ => 0) (fun _ => 0) (fun _ => 0) (fun _ => false) := by
          obtain ⟨cs, h1, h2⟩ := kL3; exact ⟨cs, h1.call hb4, h2⟩
        have kP4 := kP3.call hb4
        have kR4 := kR3.call hb4
        have kE4 := kE3.call hb4
        have kH4 := kH3.call hb4
        have hKs : ∀ k, K4 k → bk + 2 ≤ k ∧ k < w4.heap.size := fun k h => by have := hK4 k h; omega
        clear T1 hb4 kL3 kP3 kR3 kE3 kH3 y1 hK4 B3 cH3
        obtain ⟨D, hD⟩ : ∃ D, w4.heap.size = D := ⟨_, rfl⟩
        rw [hD] at hKs hs4
        go_wp2_with fail
        refine rangeYI 8 37 (gf := 167) (lb := lb) rfl pages_enters hsq rfl (fun _ h => h.elim) (fun k h => by have := hKs k h; omega)
          (fun X pre W => (∀ k, X k → D ≤ k) ∧ Far (fun k => k = bk) w4 W ∧ ∃ cs, Blk W bk 160 cs ∧ LookIs cs (fun p => decide ((p : Int) ∈ pre)) (fun _ => false) (fun _ => 0) (fun g => cntP pre (g : Int)) (fun _ => 0) (fun _ => false))
          (fun _ _ _ _ => False)
          (fun X pre A B h hf => farI (by omega) hD h hf) (fun _ _ _ _ _ h _ => h.elim)
          (fun X X' pre A h hX => ⟨fun k hk => (hX k hk).elim (h.1 k) (fun h' => by have := h.2.1.size; omega), h.2⟩)
          ⟨fun _ h => h.elim, Far.refl _ _, by obtain ⟨cs, h1, h2⟩ := kL4; exact ⟨cs, h1, by simpa [cntP] using h2⟩⟩ ?assign ?body ?done (fun _ _ _ _ _ _ h _ => h.elim)
        case assign =>
          intro m l x W C hC
          simp only [List.setIfInBounds_toArray, List.set_cons_succ, List.set_cons_zero] at hC ⊢
          gi_wp2
          exact hC
        case body =>
          as_aux_lemma =>
            rintro m l X pre xa Wa W hsz hXlt ⟨hX, hF, cs, kL, hcs⟩ hpre hBa
            simp only [List.setIfInBounds_toArray, List.set_cons_succ, List.set_cons_zero]
            obtain ⟨x, rfl, hx⟩ := page_nat canC hpre
            have hcb := cntP_bound pre ((x / 16 : Nat) : Int)
            have hpl := pre_len canC hpre
            have kPw := hF.blk kP4 (by omega)
            have cP := kPw.cell
            have fL := kL.frozen
            have c0 := (kL.cell (x * 2)).trans (hcs.cm x hx)
            gi_upto_region 14 with fail
            have hf1 : Far (fun k => k = bk) W (W.setCell ⟨bk, x * 2, none⟩ (.bool true)) := Far.setCell (T := fun k => k = bk) (p := ⟨bk, x * 2, none⟩) (Far.refl _ _) (fun _ => rfl) _
            have kL5 : Blk (W.setCell ⟨bk, x * 2, none⟩ (.bool true)) bk 160 _ := kL.set_ (x * 2) (.bool true)
            have hcs5 := hcs.cm_ hx true
            have kP5 := hf1.blk kPw (by omega)
            clear cP fL c0 kL kPw hcs
            generalize W.setCell ⟨bk, x * 2, none⟩ (.bool true) = W5 at *
            generalize cs.setIfInBounds (x * 2) (.bool true) = cs5 at *
            have hq1 : x / 16 < 64 := by omega
            obtain ⟨q, hq⟩ : ∃ q, x / 16 = q := ⟨_, rfl⟩
            have hq' : ((x : Int) / 16) = (q : Int) := by omega
            rw [hq] at hcb hq1
            have hgc := hcs5.gc q hq1
            obtain ⟨v, hv⟩ : ∃ v, cntP pre (q : Int) = v := ⟨_, rfl⟩
            rw [hv] at hcb
            have hcell : ∀ z : Ext W5, z.w.cell? ⟨bk, 2048 + q * 4 + 1, none⟩ = some (.int .i64 v) := fun z => by rw [← hv]; exact ((z.blk kL5).cell _).trans hgc
            have hptr : ∀ z : Ext W5, _ := fun z => (z.blk kP5).cell
            refine region_tail_round 13 (by kernel_rfl) (by kernel_rfl) ?hlo1 (by kernel_rfl) ?_
            case hlo1 => rintro ⟨a, w, h⟩; exact h
            simp only [List.take_succ_cons, List.take_zero, List.drop_succ_cons, List.drop_zero]
            repeat (go_big_quiet_step (fail))
            refine wpQuiet_nil ?_
            intro z
            have kLz := z.blk kL5
            have fz := kLz.frozen
            have cz := hcell z
            clear hcell hptr
            go_wp2_with fail
            have hf2 : Far (fun k => k = bk) W5 (z.w.setCell ⟨bk, 2048 + q * 4 + 1, none⟩ (.int .i64 (v + 1))) := Far.setCell (T := fun k => k = bk) (p := ⟨bk, 2048 + q * 4 + 1, none⟩) (.of_below z.le) (fun _ => rfl) _
            have hf := hf1.trans hf2
            refine ⟨hf.mono fun k _ h => ?_, hX, hF.trans hf, _, kLz.set_ (2048 + q * 4 + 1) (.int .i64 (v + 1)), ?_⟩
            · rintro (h' | h' | h' | h')
              · have := hKs k h'; omega
              · have := hX k h'; omega
              · omega
              · omega
            · have := hcs5.gc_ hq1 (v + 1)
              rw [upd_mem, ← hv, upd_cnt hq] at this
              rw [← hv]; exact this
        case done =>
          as_aux_lemma =>
            rintro X W hsz ⟨hX, hF, cs, kL, hcs⟩ hd
            rw [hD] at hd hsz
            have hcs2 : LookIs cs (fun p => mem (p : Int) C) (fun _ => false) (fun _ => 0) (fun g => grpF C (g : Int)) (fun _ => 0) (fun _ => false) := by
              have e1 : (fun p : Nat => decide ((p : Int) ∈ pagesOf C)) = fun p : Nat => mem (p : Int) C := by
                funext p; rw [Bool.eq_iff_iff]; simp [mem_pagesOf]
              have e2 : (fun g : Nat => cntP (pagesOf C) (g : Int)) = fun g : Nat => grpF C (g : Int) := by funext g; exact cntP_pages canC _
              rw [← e1, ← e2]; exact hcs
            have kP5 := hF.blk kP4 (by omega)
            have kR5 := hF.blk kR4 (by omega)
            have kE5 := hF.blk kE4 (by omega)
            have kH5 := hF.blk kH4 (by omega)
            have B5 := B4.trans (hF.below (by omega) (fun k hk => by omega))
            have cH5 := kH5.cell
            have T2 := Lib.hid (pagesTop_any A2 n2 c2 L W hn2 (by have := canL.len; omega) (hr2.on (by rw [hs]; exact B5)))
            rw [show fsts (piecesF L 1) = pagesOf L from pieces_one canL] at T2
            clear kP4 kR4 kE4 kH4 hsq kL4 hcs hF B4 hX hKs
            rw [hD]
            clear hD
            go_wp2_with fail
            refine T2.out.mono ?_
            rintro e w6 ⟨lb2, K6, rfl, hsq, hK6, hb6⟩
            have hs6 := hb6.size
            have B6 := B5.trans (hb6.mono (by omega))
            have kL6 := kL.call hb6
            have kP6 := kP5.call hb6
            have kR6 := kR5.call hb6
            have kE6 := kE5.call hb6
            have kH6 := kH5.call hb6
            have d6 := (hb6.block D (by omega)).trans hd
            obtain ⟨E, hE⟩ : ∃ E, w6.heap.size = E := ⟨_, rfl⟩
            have hKs : ∀ k, K6 k → D + 2 ≤ k ∧ k < E := fun k h => by have := hK6 k h; omega
            have hDE : D + 2 ≤ E := by omega
            clear T2 hb6 kL kP5 kR5 kE5 kH5 hd cH5 hK6 B5
            go_wp2_with fail
            refine rangeYI 9 60 (gf := 167) (lb := lb2) rfl pages_enters hsq rfl (fun _ h => h.elim) (fun k h => by have := hKs k h; omega)
              (fun X pre W => (∀ p ∈ pre, mem p C = true) ∧ (∀ k, X k → E ≤ k) ∧ Far (fun k => k = bk) w6 W ∧ ∃ cs, Blk W bk 160 cs ∧ LookIs cs (fun p => mem (p : Int) C) (fun p => decide ((p : Int) ∈ pre)) (fun _ => 0) (fun g => grpF C (g : Int)) (fun g => cntP pre (g : Int)) (fun _ => false))
              (fun c X pre W => (∀ k, X k → E ≤ k) ∧ c = .ret ∧ subF L C = false ∧ Blk W (s + 1) 143 #[.pointer none] ∧ Blk W (s + 2) 27 #[.int .i64 6] ∧ Far (fun k => k = bk ∨ k = s + 1 ∨ k = s + 2) w6 W)
              (fun X pre A B h hf => ⟨h.1, farI (by omega) hE h.2 hf⟩)
              (fun c X pre A B h hf => by
                obtain ⟨h1, h2, h3, h4, h5, h6⟩ := h
                refine ⟨h1, h2, h3, hf.blk h4 ?_, hf.blk h5 ?_, h6.trans' hf (fun i hi h' => ?_)⟩
                · rintro (h' | h' | h' | h')
                  · exact h'
                  · have := h1 _ h'; omega
                  · omega
                  · omega
                · rintro (h' | h' | h' | h')
                  · exact h'
                  · have := h1 _ h'; omega
                  · omega
                  · omega
                · rcases h' with h' | h' | h' | h'
                  · exact h'.elim
                  · have := h1 _ h'; omega
                  · omega
                  · omega)
              (fun X X' pre A h hX => ⟨h.1, fun k hk => (hX k hk).elim (h.2.1 k) (fun h' => by have := h.2.2.1.size; omega), h.2.2⟩)
              ⟨fun _ h => (by simp at h), fun _ h => h.elim, Far.refl _ _, cs, kL6, by simpa [cntP] using hcs2⟩ ?assign2 ?body2 ?done2 ?stop2
            case assign2 =>
              intro m l x W C hC
              simp only [List.setIfInBounds_toArray, List.set_cons_succ, List.set_cons_zero] at hC ⊢
              gi_wp2
              exact hC
            case body2 =>
              rintro m l X pre xa Wa W hsz hXlt ⟨hm, hX, hF, cs, kL, hcs⟩ hpre hBa
              simp only [List.setIfInBounds_toArray, List.set_cons_succ, List.set_cons_zero]
              obtain ⟨x, rfl, hx⟩ := page_nat canL hpre
              have hxm : (x : Int) ∈ pagesOf L := hpre.subset (by simp)
              have kPw := hF.blk kP6 (by omega)
              have cP := kPw.cell
              have c0 := (kL.cell (x * 2)).trans (hcs.cm x hx)
              by_cases hmc : mem (x : Int) C = true
              case neg =>
                as_aux_lemma =>
                  have hmc' : mem (x : Int) C = false := by simpa using hmc
                  have hsub : subF L C = false := by
                    cases h : subF L C with
                    | false => rfl
                    | true => exact absurd ((subF_iff canL).1 h _ hxm) hmc
                  rw [hmc'] at c0
                  have kRw := hF.blk kR6 (by omega)
                  have kEw := hF.blk kE6 (by omega)
                  have cR := kRw.cell
                  have cE := kEw.cell
                  have fR := kRw.frozen
                  have fE := kEw.frozen
                  clear hmc hmc'
                  gi_wp2_with fail
                  obtain ⟨k2, k3, hf2⟩ := two_set (by omega) kRw kEw (.pointer none) (.int .i64 6)
                  refine ⟨hf2.mono fun k _ h => ?_, hX, rfl, hsub, k2, k3, (hF.mono fun _ _ h => .inl h).trans (hf2.mono fun _ _ h => .inr h)⟩
                  rintro (h' | h' | h' | h')
                  · have := hKs k h'; omega
                  · have := hX k h'; omega
                  · omega
                  · omega
              case pos =>
                as_aux_lemma =>
                  rw [hmc] at c0
                  have hcb := cntP_bound pre ((x / 16 : Nat) : Int)
                  have hpl := pre_len canL hpre
                  have fL := kL.frozen
                  have c1 := (kL.cell (x * 2 + 1)).trans (hcs.lv x hx)
                  gi_upto_region 20 with fail
                  have hf1 : Far (fun k => k = bk) W (W.setCell ⟨bk, x * 2 + 1, none⟩ (.bool true)) := Far.setCell (T := fun k => k = bk) (p := ⟨bk, x * 2 + 1, none⟩) (Far.refl _ _) (fun _ => rfl) _
                  have kL5 : Blk (W.setCell ⟨bk, x * 2 + 1, none⟩ (.bool true)) bk 160 _ := kL.set_ (x * 2 + 1) (.bool true)
                  have hcs5 := hcs.lv_ hx true
                  have kP5 := hf1.blk kPw (by omega)
                  clear cP fL c0 c1 kL kPw hcs
                  generalize W.setCell ⟨bk, x * 2 + 1, none⟩ (.bool true) = W5 at *
                  generalize cs.setIfInBounds (x * 2 + 1) (.bool true) = cs5 at *
                  have hq1 : x / 16 < 64 := by omega
                  obtain ⟨q, hq⟩ : ∃ q, x / 16 = q := ⟨_, rfl⟩
                  have hq' : ((x : Int) / 16) = (q : Int) := by omega
                  rw [hq] at hcb hq1
                  have hgc := hcs5.gl q hq1
                  obtain ⟨v, hv⟩ : ∃ v, cntP pre (q : Int) = v := ⟨_, rfl⟩
                  rw [hv] at hcb
                  have hcell : ∀ z : Ext W5, z.w.cell? ⟨bk, 2048 + q * 4 + 2, none⟩ = some (.int .i64 v) := fun z => by rw [← hv]; exact ((z.blk kL5).cell _).trans hgc
                  have hptr : ∀ z : Ext W5, _ := fun z => (z.blk kP5).cell
                  refine region_tail_round 13 (by kernel_rfl) (by kernel_rfl) ?hlo2 (by kernel_rfl) ?_
                  case hlo2 => rintro ⟨a, w, h⟩; exact h
                  simp only [List.take_succ_cons, List.take_zero, List.drop_succ_cons, List.drop_zero]
                  repeat (go_big_quiet_step (fail))
                  refine wpQuiet_nil ?_
                  intro z
                  have kLz := z.blk kL5
                  have fz := kLz.frozen
                  have cz := hcell z
                  clear hcell hptr
                  go_wp2_with fail
                  have hf2 : Far (fun k => k = bk) W5 (z.w.setCell ⟨bk, 2048 + q * 4 + 2, none⟩ (.int .i64 (v + 1))) := Far.setCell (T := fun k => k = bk) (p := ⟨bk, 2048 + q * 4 + 2, none⟩) (.of_below z.le) (fun _ => rfl) _
                  have hf := hf1.trans hf2
                  refine ⟨hf.mono fun k _ h => ?_, ?_, hX, hF.trans hf, _, kLz.set_ (2048 + q * 4 + 2) (.int .i64 (v + 1)), ?_⟩
                  · rintro (h' | h' | h' | h')
                    · have := hKs k h'; omega
                    · have := hX k h'; omega
                    · omega
                    · omega
                  · intro p hp
                    rcases List.mem_append.1 hp with h | h
                    · exact hm p h
                    · rw [List.mem_singleton.1 h]; exact hmc
                  · have := hcs5.gl_ hq1 (v + 1)
                    rw [upd_mem, ← hv, upd_cnt hq] at this
                    rw [← hv]; exact this
            case done2 =>
              as_aux_lemma =>
                rintro X W hsz ⟨hm, hX, hF, cs, kL, hcs⟩ hd
                rw [hE] at hd hsz
                have dD := hF.same d6 (by omega)
                have hsub := Lib.hid ((subF_iff canL).2 hm)
                have hcs3 := Lib.hid (show LookIs cs (fun p => mem (p : Int) C) (fun p => mem (p : Int) L) (fun _ => 0) (fun g => grpF C (g : Int)) (fun g => grpF L (g : Int)) (fun _ => false) by
                  have e1 : (fun p : Nat => decide ((p : Int) ∈ pagesOf L)) = fun p : Nat => mem (p : Int) L := by
                    funext p; rw [Bool.eq_iff_iff]; simp [mem_pagesOf]
                  have e2 : (fun g : Nat => cntP (pagesOf L) (g : Int)) = fun g : Nat => grpF L (g : Int) := by funext g; exact cntP_pages canL _
                  rw [← e1, ← e2]; exact hcs)
                have kP7 := hF.blk kP6 (by omega)
                have kR7 := hF.blk kR6 (by omega)
                have kE7 := hF.blk kE6 (by omega)
                have kH7 := hF.blk kH6 (by omega)
                have B7 := B6.trans (hF.below (by omega) (fun k hk => by omega))
                have cH7 := kH7.cell
                have r7 := RI.on hr3 (by rw [hs]; exact B7)
                clear kP6 kR6 kE6 kH6 d6 hsq hcs hF B6 hX hKs hm hsz hs6 hcs2 kL6
                rw [hE]
                clear hE
                have hst0 : Hid (hugOk C (-1) H = hugOk C (prevH H 0) (H.drop 0)) := Lib.hid rfl
                have hbE : bk < E := by omega
                have hbD : bk < D := by omega
                clear hs4
                have hm9 := hm3
                unfold maxLen at hm9
                go_wp2_with fail
                go_loopw [91] (fun i wr => ∃ (k : Nat) (ds : Array Value), k ≤ n3 ∧ i = .int .i64 k ∧ Far (fun k => k = bk) W wr ∧ Blk wr bk 160 ds ∧ Hid (LookIs ds (fun p => mem (p : Int) C) (fun p => mem (p : Int) L) (fun _ => 0) (fun g => grpF C (g : Int)) (fun g => grpF L (g : Int)) (fun g => decide ((g : Int) ∈ H.take k))) ∧ Hid (hugOk C (-1) H = hugOk C (prevH H k) (H.drop k))) (fun i _ => n3 - (intOf i).toNat)
                case atStart => exact ⟨0, cs, by omega, rfl, Far.refl _ _, kL, Lib.hid (by simpa using hcs3.out), hst0⟩
                case round =>
                  clear hst0 hcs3 kL
                  obtain ⟨k, ds, hk, rfl, hF, kL, hL3, hst⟩ := hrel
                  have kPr := hF.blk kP7 (by omega)
                  have kRr := hF.blk kR7 (by omega)
                  have kEr := hF.blk kE7 (by omega)
                  have kHr := hF.blk kH7 (by omega)
                  have dDr := hF.same dD (by omega)
                  have dEr := hF.same hd (by omega)
                  have Br := B7.trans (hF.below (by have := B7.size; omega) (fun k hk => by omega))
                  have cP := kPr.cell
                  have cH := kHr.cell
                  by_cases hlt : k < n3
                  · have hlt' : decide ((k : Int) < (n3 : Int)) = true := by simpa using hlt
                    have hst1 := hst.out
                    rw [Go.Pol.drop_cons 0 H k (by omega)] at hst1
                    have hin : inG (H.getD k 0) = true := List.all_eq_true.1 hG2.out _ (getD_memI (by omega))
                    have hpk : 0 < k → prevH H k = H.getD (k - 1) 0 := fun h => by rw [prevH, if_neg (by omega)]
                    have hp0 : k = 0 → prevH H k = -1 := fun h => by rw [prevH, if_pos h]
                    have hpn : prevH H (k + 1) = H.getD k 0 := by rw [prevH, if_neg (by omega)]; rfl
                    have htk : H.take (k + 1) = H.take k ++ [H.getD k 0] := take_snocI H k (by omega)
                    have r8 := RI.on hr3 (by rw [hs]; exact Br)
                    obtain ⟨b3, o3, e3, _, c3⟩ := r8.at_ (k := k) (by omega)
                    generalize H.getD k 0 = g at *
                    obtain ⟨gn, rfl⟩ : ∃ gn : Nat, g = (gn : Int) := ⟨g.toNat, by have := (inG_iff.1 hin).1; omega⟩
                    have hg64 : gn < 64 := by have := (inG_iff.1 hin).2; omega
                    have c4 := (kL.cell (2048 + gn * 4 + 1)).trans (hL3.out.gc gn hg64)
                    have hgb := grpF_bound C (gn : Int)
                    generalize hgv : grpF C (gn : Int) = gv at *
                    have hgv' := Lib.hid hgv
                    clear hgv
                    by_cases h16 : gv < 16
                    · as_aux_lemma =>
                        have h16' : decide (gv < 16) = true := by simpa using h16
                        have hbad := Lib.hid (chkH_5 hC.out hL.out hG2.out hsub.out (by rw [hst1, hugOk, hgv'.out, decide_eq_false (show ¬ (16 ≤ gv) by omega)]; rfl))
                        subst e3
                        clear h16
                        have cR := kRr.cell
                        have cE := kEr.cell
                        have fR := kRr.frozen
                        have fE := kEr.frozen
                        clear hst hst1 hL3 hpk hp0 hpn htk hin
                        go_wp2_with fail
                        obtain ⟨k2, k3, hf2⟩ := two_set (by omega) kRr kEr (.pointer none) (.int .i64 6)
                        have dD2 := hf2.same dDr (by omega)
                        have dE2 := hf2.same dEr (by omega)
                        have B8 := Br.trans (hf2.below (by have := Br.size; omega) (fun k hk => by omega))
                        generalize ((wr.setCell ⟨s + 1, 0, none⟩ (.pointer none)).setCell ⟨s + 2, 0, none⟩ (.int .i64 6)) = w9 at *
                        have hfp : Far (fun k => k = D ∨ k = E) w9 (World.putObj (World.putObj w9 E (.deferred none)) D (.deferred none)) := Far.putObj (T := fun k => k = D ∨ k = E) (Far.putObj (T := fun k => k = D ∨ k = E) (Far.refl _ _) (fun _ => .inr rfl) _) (fun _ => .inl rfl) _
                        have hB9 := (B8).trans (hfp.below (by have := (B8).size; omega) (fun k hk => by omega))
                        have c6 := (hfp.blk k2 (by omega)).cell
                        have c7 := (hfp.blk k3 (by omega)).cell
                        refine leave_mark2 (v := .tuple #[.pointer none, .int .i64 6]) (by omega) dD2 dE2 (by simp [results, Tryz.results67, go_sem, c6, c7]) ?_
                        exact OpenR.err (by rw [hs]; exact hB9) hbad.out (by decide)
                    have h16' : decide (gv < 16) = false := by simpa using h16
                    by_cases hk0 : k = 0
                    · as_aux_lemma =>
                        subst hk0
                        rw [Nat.add_zero] at c3
                        have hst2 := Lib.hid (show hugOk C (-1) H = hugOk C (prevH H (0 + 1)) (H.drop (0 + 1)) by
                          rw [hst1, hpn, hp0 rfl, hugOk, hgv'.out, decide_eq_true (show 16 ≤ gv by omega), decide_eq_true (show (-1 : Int) < (gn : Int) by omega)]; rfl)
                        have hset := hL3.out.gh_ hg64 true
                        rw [upd_take] at hset
                        rw [← htk] at hset
                        have hset' := Lib.hid hset
                        have c5 := (kL.cell (2048 + gn * 4 + 3)).trans (hL3.out.gh gn hg64)
                        have fL := kL.frozen
                        clear hst hst1 hL3 hpk hp0 hpn htk hin h16 hset
                        subst e3
                        go_wp2_with fail
                        have hf4 : Far (fun k => k = bk) wr (wr.setCell ⟨bk, 2048 + gn * 4 + 3, none⟩ (.bool true)) := Far.setCell (T := fun k => k = bk) (p := ⟨bk, 2048 + gn * 4 + 3, none⟩) (Far.refl _ _) (fun _ => rfl) _
                        go_roundw
                        case rel => exact ⟨1, _, by omega, by go_num, hF.trans hf4, kL.set_ (2048 + gn * 4 + 3) (.bool true), hset', hst2⟩
                        case measure => simp [intOf]; omega
                    · obtain ⟨j, hj⟩ : ∃ j, k - 1 = j := ⟨_, rfl⟩
                      obtain ⟨b4, o4, e4, _, c6⟩ := r8.at_ (k := j) (by omega)
                      rw [e3] at e4
                      cases e4
                      have hpk' := Lib.hid (hpk (by omega))
                      rw [hj] at hpk'
                      generalize H.getD j 0 = pr at *
                      have hwj : wrap64 ((k : Int) - 1) = (j : Int) := by
                        unfold wrap64
                        omega
                      have hjn : j < n3 := by omega
                      have hkd : decide (0 < (k : Int)) = true := by rw [decide_eq_true_eq]; omega
                      have hkd2 : decide (0 < k) = true := by rw [decide_eq_true_eq]; omega
                      have h1k : (1 : Int) ≤ (k : Int) := by omega
                      have h2k : 1 ≤ k := by omega
                      have h3k : (k : Int) - 1 < (n3 : Int) := by omega
                      have h4k : 0 < k := by omega
                      have h5k : (0 : Int) ≤ (k : Int) - 1 := by omega
                      have c9 := c6
                      rw [← hj] at c9
                      clear hj c6
                      by_cases hle : (gn : Int) ≤ pr
                      · as_aux_lemma =>
                          have hle' : decide ((gn : Int) ≤ pr) = true := by simpa using hle
                          have hbad := Lib.hid (chkH_5 hC.out hL.out hG2.out hsub.out (by rw [hst1, hugOk, hpk'.out, decide_eq_false (show ¬ (pr < (gn : Int)) by omega), Bool.and_false]; rfl))
                          clear h16 hle hk0
                          subst e3
                          have cR := kRr.cell
                          have cE := kEr.cell
                          have fR := kRr.frozen
                          have fE := kEr.frozen
                          clear hst hst1 hL3 hpk hp0 hpn htk hin
                          go_wp2_with fail
                          obtain ⟨k2, k3, hf2⟩ := two_set (by omega) kRr kEr (.pointer none) (.int .i64 6)
                          have dD2 := hf2.same dDr (by omega)
                          have dE2 := hf2.same dEr (by omega)
                          have B8 := Br.trans (hf2.below (by have := Br.size; omega) (fun k hk => by omega))
                          generalize ((wr.setCell ⟨s + 1, 0, none⟩ (.pointer none)).setCell ⟨s + 2, 0, none⟩ (.int .i64 6)) = w9 at *
                          have hfp : Far (fun k => k = D ∨ k = E) w9 (World.putObj (World.putObj w9 E (.deferred none)) D (.deferred none)) := Far.putObj (T := fun k => k = D ∨ k = E) (Far.putObj (T := fun k => k = D ∨ k = E) (Far.refl _ _) (fun _ => .inr rfl) _) (fun _ => .inl rfl) _
                          have hB9 := (B8).trans (hfp.below (by have := (B8).size; omega) (fun k hk => by omega))
                          have c6 := (hfp.blk k2 (by omega)).cell
                          have c7 := (hfp.blk k3 (by omega)).cell
                          refine leave_mark2 (v := .tuple #[.pointer none, .int .i64 6]) (by omega) dD2 dE2 (by simp [results, Tryz.results67, go_sem, c6, c7]) ?_
                          exact OpenR.err (by rw [hs]; exact hB9) hbad.out (by decide)
                      · as_aux_lemma =>
                          have hle' : decide ((gn : Int) ≤ pr) = false := by simpa using hle
                          have hst2 := Lib.hid (show hugOk C (-1) H = hugOk C (prevH H (k + 1)) (H.drop (k + 1)) by
                            rw [hst1, hpn, hpk'.out, hugOk, hgv'.out, decide_eq_true (show 16 ≤ gv by omega), decide_eq_true (show pr < (gn : Int) by omega)]; rfl)
                          have hset := hL3.out.gh_ hg64 true
                          rw [upd_take] at hset
                          rw [← htk] at hset
                          have hset' := Lib.hid hset
                          have c5 := (kL.cell (2048 + gn * 4 + 3)).trans (hL3.out.gh gn hg64)
                          have fL := kL.frozen
                          clear hst hst1 hL3 hpk hp0 hpn htk hin h16 hset hk0 hle hpk'
                          subst e3
                          go_wp2_with fail
                          have hf4 : Far (fun k => k = bk) wr (wr.setCell ⟨bk, 2048 + gn * 4 + 3, none⟩ (.bool true)) := Far.setCell (T := fun k => k = bk) (p := ⟨bk, 2048 + gn * 4 + 3, none⟩) (Far.refl _ _) (fun _ => rfl) _
                          go_roundw
                          case rel => exact ⟨k + 1, _, by omega, by go_num, hF.trans hf4, kL.set_ (2048 + gn * 4 + 3) (.bool true), hset', hst2⟩
                          case measure => simp [intOf]; omega
                  · obtain rfl : k = n3 := by omega
                    have hlt' : decide ((k : Int) < (k : Int)) = false := by simp
                    have hok := Lib.hid (show hugOk C (-1) H = true by rw [hst.out, List.drop_of_length_le (by omega)]; rfl)
                    have hL4 := Lib.hid (show LookIs ds (fun p => mem (p : Int) C) (fun p => mem (p : Int) L) (fun g => if g < 0 then (g : Int) else 0) (fun g => grpF C (g : Int)) (fun g => grpF L (g : Int)) (fun g => decide ((g : Int) ∈ H)) by
                      have := hL3.out
                      rw [List.take_of_length_le (by omega)] at this
                      simpa using this)
                    clear hst hL3 cH kHr hlt
                    go_wp2_with fail
                    go_loopw [125] (fun i wq => ∃ (q : Nat) (es : Array Value), q ≤ 64 ∧ i = .int .i64 q ∧ Far (fun k => k = bk) W wq ∧ Blk wq bk 160 es ∧ Hid (LookIs es (fun p => mem (p : Int) C) (fun p => mem (p : Int) L) (fun g => if g < q then (g : Int) else 0) (fun g => grpF C (g : Int)) (fun g => grpF L (g : Int)) (fun g => decide ((g : Int) ∈ H)))) (fun i _ => 64 - (intOf i).toNat)
                    case atStart => exact ⟨0, ds, by omega, rfl, hF, kL, hL4⟩
                    case round =>
                      clear hL4 kL hF
                      obtain ⟨q, es, hq, rfl, hFq, kL, hL5⟩ := hrel
                      have cP := (hFq.blk kP7 (by omega)).cell
                      by_cases hlt : q < 64
                      · as_aux_lemma =>
                          have hlt' : decide ((q : Int) < 64) = true := by rw [decide_eq_true_eq]; omega
                          have c5 := (kL.cell (2048 + q * 4)).trans (hL5.out.nm q hlt)
                          have fL := kL.frozen
                          have hset := hL5.out.nm_ hlt (q : Int)
                          rw [upd_num] at hset
                          have hset' := Lib.hid hset
                          generalize (if q < q then (q : Int) else 0) = vq at c5
                          clear hset hL5
                          go_wp2_with fail
                          have hf4 : Far (fun k => k = bk) wr (wr.setCell ⟨bk, 2048 + q * 4, none⟩ (.int .i64 (q : Int))) := Far.setCell (T := fun k => k = bk) (p := ⟨bk, 2048 + q * 4, none⟩) (Far.refl _ _) (fun _ => rfl) _
                          go_roundw
                          case rel => exact ⟨q + 1, _, by omega, by go_num, hFq.trans hf4, kL.set_ (2048 + q * 4) (.int .i64 (q : Int)), hset'⟩
                          case measure => simp [intOf]; omega
                      · as_aux_lemma =>
                          obtain rfl : q = 64 := by omega
                          have hlt' : decide (((64 : Nat) : Int) < 64) = false := by decide
                          have kRq := hFq.blk kR7 (by omega)
                          have kEq := hFq.blk kE7 (by omega)
                          have dDq := hFq.same dD (by omega)
                          have dEq := hFq.same hd (by omega)
                          have Bq := B7.trans (hFq.below (by have := B7.size; omega) (fun k hk => by omega))
                          have cR := kRq.cell
                          have cE := kEq.cell
                          have fR := kRq.frozen
                          have fE := kEq.frozen
                          have hfin := Lib.hid (hL5.out.congr_nm (f := fun g => (g : Int)) (fun g hg => by rw [if_pos hg]))
                          clear hL5
                          go_wp2_with fail
                          obtain ⟨k2, k3, hf2⟩ := two_set (by omega) kRq kEq (.pointer (some ⟨bk, 0, none⟩)) (.int .i64 0)
                          have dD2 := hf2.same dDq (by omega)
                          have dE2 := hf2.same dEq (by omega)
                          have kL2 := hf2.blk kL (by omega)
                          have B8 := Bq.trans (hf2.below (by have := Bq.size; omega) (fun k hk => by omega))
                          generalize ((wr.setCell ⟨s + 1, 0, none⟩ (.pointer (some ⟨bk, 0, none⟩))).setCell ⟨s + 2, 0, none⟩ (.int .i64 0)) = w9 at *
                          have hfp : Far (fun k => k = D ∨ k = E) w9 (World.putObj (World.putObj w9 E (.deferred none)) D (.deferred none)) := Far.putObj (T := fun k => k = D ∨ k = E) (Far.putObj (T := fun k => k = D ∨ k = E) (Far.refl _ _) (fun _ => .inr rfl) _) (fun _ => .inl rfl) _
                          have hB9 := (B8).trans (hfp.below (by have := (B8).size; omega) (fun k hk => by omega))
                          have c6 := (hfp.blk k2 (by omega)).cell
                          have c7 := (hfp.blk k3 (by omega)).cell
                          refine leave_mark2 (v := .tuple #[.pointer (some ⟨bk, 0, none⟩), .int .i64 0]) (by omega) dD2 dE2 (by simp [results, Tryz.results67, go_sem, c6, c7]) ?_
                          refine ⟨by rw [hs]; exact hB9, fun h => absurd (chkH_zero.2 ⟨canC, canL, List.all_eq_true.1 hG2.out, hsub.out, hok.out⟩) h, fun _ => ⟨bk, es, rfl, by omega, hfp.blk kL2 (by omega), hfin.out⟩⟩
            case stop2 =>
              as_aux_lemma =>
                rintro c X pre W hsz hpre ⟨hX, rfl, hsub, kR, kE, hF⟩ hd
                rw [hE] at hd hsz
                have dD := hF.same d6 (by omega)
                have B7 := B6.trans (hF.below (by omega) (fun k hk => by omega))
                rw [hE]
                go_wp2_with fail
                have hfp : Far (fun k => k = D ∨ k = E) W (World.putObj (World.putObj W E (.deferred none)) D (.deferred none)) := Far.putObj (T := fun k => k = D ∨ k = E) (Far.putObj (T := fun k => k = D ∨ k = E) (Far.refl _ _) (fun _ => .inr rfl) _) (fun _ => .inl rfl) _
                have hB9 := (B7).trans (hfp.below (by have := (B7).size; omega) (fun k hk => by omega))
                have c6 := (hfp.blk kR (by omega)).cell
                have c7 := (hfp.blk kE (by omega)).cell
                refine leave_mark2 (v := .tuple #[.pointer none, .int .i64 6]) (by omega) dD hd (by simp [results, Tryz.results67, go_sem, c6, c7]) ?_
                exact OpenR.err (by rw [hs]; exact hB9) (chkH_4 hC.out hL.out hG2.out hsub) (by decide)
end Go.Proofs.YtefnnfcfigcikaaGreat
namespace Go.Pol

def grps : List Int := (List.range 64).map fun (k : Nat) => (k : Int)
/-- the groups that may be joined -/
def wholeF (C : List Sp) (H : List Int) : List Int := grps.filter fun g => !decide (g ∈ H) && (grpF C g == 16)
def groupsF (C L : List Sp) (H : List Int) (least : Int) : List Int := (wholeF C H).filter fun g => decide (least ≤ grpF L g)
def idleF (L : List Sp) (H : List Int) : Int := (H.map fun g => 16 - grpF L g).sum
theorem mem_grps {g : Int} : g ∈ grps ↔ 0 ≤ g ∧ g < 64 := by
  unfold grps
  simp only [List.mem_map, List.mem_range]
  constructor
  · rintro ⟨k, hk, rfl⟩; omega
  · intro h; exact ⟨g.toNat, by omega, by omega⟩
theorem grps_lt : grps.Pairwise (· < ·) := by
  unfold grps
  rw [List.pairwise_map]
  exact List.pairwise_lt_range.imp (fun h => by omega)
theorem hugOk_lt {C : List Sp} : ∀ {H : List Int} {e : Int}, hugOk C e H = true → H.Pairwise (· < ·)
  | [], _, _ => .nil
  | g :: r, e, h => by
    obtain ⟨_, _, h3⟩ := hugOk_cons.1 h
    exact .cons (fun x hx => (hugOk_mem h3 x hx).1) (hugOk_lt h3)
/-- two ascending lists of the same members are one -/
theorem asc_eq : ∀ {a b : List Int}, a.Pairwise (· < ·) → b.Pairwise (· < ·) → (∀ x, x ∈ a ↔ x ∈ b) → a = b
  | [], [], _, _, _ => rfl
  | [], y :: b, _, _, h => absurd ((h y).2 (by simp)) (by simp)
  | x :: a, [], _, _, h => absurd ((h x).1 (by simp)) (by simp)
  | x :: a, y :: b, ha, hb, h => by
    obtain ⟨ha1, ha2⟩ := List.pairwise_cons.1 ha
    obtain ⟨hb1, hb2⟩ := List.pairwise_cons.1 hb
    have hxy : x = y := by
      rcases List.mem_cons.1 ((h x).1 (by simp)) with e | e
      · exact e
      · rcases List.mem_cons.1 ((h y).2 (by simp)) with e' | e'
        · exact e'.symm
        · have := hb1 x e; have := ha1 y e'; omega
    subst hxy
    rw [asc_eq ha2 hb2 fun z => ?_]
    constructor
    · intro hz
      rcases List.mem_cons.1 ((h z).1 (by simp [hz])) with e | e
      · have := ha1 z hz; omega
      · exact e
    · intro hz
      rcases List.mem_cons.1 ((h z).2 (by simp [hz])) with e | e
      · have := hb1 z hz; omega
      · exact e
/-- the huge groups, as they are met among all groups -/
theorem huge_grps {C : List Sp} {H : List Int} (hi : ∀ g ∈ H, inG g = true) (h : hugOk C (-1) H = true) : grps.filter (fun g => decide (g ∈ H)) = H :=
  asc_eq (grps_lt.filter _) (hugOk_lt h) fun x => by
    rw [List.mem_filter, mem_grps]
    constructor
    · rintro ⟨_, h⟩; simpa using h
    · intro hx; exact ⟨inG_iff.1 (hi x hx), by simpa using hx⟩
end Go.Pol
namespace Go.Pol
open Go Go.RowKit
theorem wpListIn_load_mid {F : Fence} {n : Nat} {P : Program} {ops : Array Oper} {rest : List Oper} {op : Oper} {a : Act} {w : World} {Q : Exit → Act → World → Prop} (hgd : op.guard = none) (ty : TypeId) (x : Operand) (ho : op.op = .load ty x)
    (b o : Nat) (hx : a.eval x = .pointer (some ⟨b, o, none⟩)) (cs : List Value) (d : TypeDesc) (hc : w.rangeAt b o cs)
    (hu : P.underlying ty = some d) (hd : d.isRow = true) (hi : (P.info? ty).map (·.size) = some cs.length)
    (h : wpListIn F n P ops Q rest (a.put op.dst (.agg cs.toArray)) w) : wpListIn F n P ops Q (op :: rest) a w := by
  refine wpListIn_plain hgd fun K hK => ?_
  unfold Oper.wpIn
  refine ⟨?_, ?_⟩
  · simp [Oper.about, ho]
  · rw [Oper.semAt_plain F _ _ (by rw [ho]; intro c hc'; cases hc')]
    unfold execOp
    simp only [ho, hx, Instr.loadAt, Instr.sureAddr, Sem.run_bind, Sem.run_pure, Result.andThen_ok, run_loadVar_mid w b o ty cs d hc hu hd hi]
    exact hK _ _ h
/-- a group: number, committed, live, huge -/
abbrev Gp := Int × Int × Int × Bool
def gp0 : Gp := (0, 0, 0, false)
def gV (g : Gp) : Value := .agg #[.int .i64 g.1, .int .i64 g.2.1, .int .i64 g.2.2.1, .bool g.2.2.2]
abbrev gA (g : Gp) : Array Value := #[gV g]
/-- the cells of all groups -/
structure GrpAre (cs : Array Value) (gs : List Gp) : Prop where
  len : gs.length = 64
  size : cs.size = 256
  at_ : ∀ k, k < 64 → cs[k * 4]? = some (.int .i64 (gs.getD k gp0).1) ∧ cs[k * 4 + 1]? = some (.int .i64 (gs.getD k gp0).2.1) ∧ cs[k * 4 + 2]? = some (.int .i64 (gs.getD k gp0).2.2.1) ∧ cs[k * 4 + 3]? = some (.bool (gs.getD k gp0).2.2.2)
def gpsOf (nm gc gl : Nat → Int) (gh : Nat → Bool) : List Gp := (List.range 64).map fun k => (nm k, gc k, gl k, gh k)
theorem gpsOf_len {nm gc gl : Nat → Int} {gh : Nat → Bool} : (gpsOf nm gc gl gh).length = 64 := by simp [gpsOf]
theorem gpsOf_get {nm gc gl : Nat → Int} {gh : Nat → Bool} {k : Nat} (h : k < 64) : (gpsOf nm gc gl gh).getD k gp0 = (nm k, gc k, gl k, gh k) := by
  rw [List.getD_eq_getElem?_getD, gpsOf, List.getElem?_map, List.getElem?_range h]; rfl
theorem ext_get {cs : Array Value} {s e j : Nat} (h : j < min e cs.size - s) : (cs.extract s e)[j]? = cs[s + j]? := by
  rw [Array.getElem?_extract_of_lt h]; exact (Array.getElem?_eq_getElem _).symm
theorem LookIs.groups {cs : Array Value} {cm lv : Nat → Bool} {nm gc gl : Nat → Int} {gh : Nat → Bool} (h : LookIs cs cm lv nm gc gl gh) : GrpAre (cs.extract 2048 2304) (gpsOf nm gc gl gh) := by
  have hx : ∀ j, j < 256 → (cs.extract 2048 2304)[j]? = cs[2048 + j]? := fun j hj => by
    rw [ext_get (by rw [h.size]; omega)]
  refine ⟨gpsOf_len, by simp [h.size], fun k hk => ?_⟩
  rw [gpsOf_get hk, hx _ (by omega), hx _ (by omega), hx _ (by omega), hx _ (by omega)]
  exact ⟨h.nm k hk, h.gc k hk, h.gl k hk, h.gh k hk⟩
theorem LookIs.rangeAt {w : World} {b : Nat} {t : TypeId} {cs : Array Value} {cm lv : Nat → Bool} {nm gc gl : Nat → Int} {gh : Nat → Bool} (h : LookIs cs cm lv nm gc gl gh) (hb : Blk w b t cs) :
    w.rangeAt b 2048 (cs.extract 2048 2304).toList := fun j v hj => by
  rw [Array.getElem?_toList] at hj
  have hlt : j < 256 := by
    have := (Array.getElem?_eq_some_iff.1 hj).1
    simp [h.size] at this
    exact this
  rw [hb.cell, ← hj, ext_get (by rw [h.size]; omega)]
theorem extract4 {cs : Array Value} {k : Nat} {a b c d : Value} (h0 : cs[k * 4]? = some a) (h1 : cs[k * 4 + 1]? = some b) (h2 : cs[k * 4 + 2]? = some c) (h3 : cs[k * 4 + 3]? = some d) : cs.extract (k * 4) (k * 4 + 4) = #[a, b, c, d] := by
  have hs := (Array.getElem?_eq_some_iff.1 h3).1
  apply Array.ext_getElem?
  intro i
  by_cases hi : i < 4
  · rw [ext_get (by omega)]
    rcases (show i = 0 ∨ i = 1 ∨ i = 2 ∨ i = 3 by omega) with rfl | rfl | rfl | rfl
    · exact h0
    · exact h1
    · exact h2
    · exact h3
  · rw [Array.getElem?_eq_none (by simp; omega), Array.getElem?_eq_none (by simp; omega)]
theorem take_snocG (gs : List Gp) (k : Nat) (h : k < gs.length) : gs.take (k + 1) = gs.take k ++ [gs.getD k gp0] := by
  rw [List.take_add_one, List.getElem?_eq_getElem h, List.getD_eq_getElem?_getD, List.getElem?_eq_getElem h]; rfl
/-- a loop over groups whose variable lies in a box -/
theorem rangeXG {P : Program} {g : Operand} {ps : Array Tmp} {assign body : Code} {Q : Exit → Act → World → Prop} {a : Act} {w : World} (ib pb : Nat) (tE : TypeId)
    {gf : Nat} {lb : Array Value} (hg : a.eval g = .func (.func gf) #[] lb) (eg : ∀ args w, (callFunc gf args).run P w = .ok (.enter gf args) w)
    {T K : Nat → Prop} {xs : List Gp} (hseq : SeqX P gf lb gA T K xs w) (hps : ps = #[pb])
    (hT : ∀ k, T k → k < w.heap.size) (hK : ∀ k, K k → k < w.heap.size)
    (I : (Nat → Prop) → List Gp → World → Prop) (Ix : Code → (Nat → Prop) → List Gp → World → Prop)
    (hI : ∀ X pre A B, I X pre A → Far (fun k => T k ∨ X k ∨ k = w.heap.size ∨ k = w.heap.size + 1) A B → I X pre B)
    (hIx : ∀ c X pre A B, Ix c X pre A → Far (fun k => T k ∨ X k ∨ k = w.heap.size ∨ k = w.heap.size + 1) A B → Ix c X pre B)
    (hnew : ∀ X X' pre A, I X pre A → (∀ k, X' k → X k ∨ A.heap.size ≤ k) → I X' pre A)
    (h0 : I (fun _ => False) [] w)
    (hassign : ∀ (m l : Nat) (x : Gp) (W : World) (C : Act → World → Prop),
      C { tmps := (a.tmps.setIfInBounds pb (gV x)).setIfInBounds ib (.pointer (some ⟨W.heap.size, 0, none⟩)), defers := [] } (W.alloc (.cells #[.int .i64 x.1, .int .i64 x.2.1, .int .i64 x.2.2.1, .bool x.2.2.2] tE)) →
      assign.wpIn (Fence.wide.inRound l) m P (Exit.then C (fun _ _ _ => False)) { tmps := a.tmps.setIfInBounds pb (gV x), defers := [] } W)
    (hbody : ∀ (m l : Nat) (X : Nat → Prop) (pre : List Gp) (x : Gp) (Bx : Nat) (Wa W : World), w.heap.size + 2 ≤ W.heap.size → (∀ k, X k → k < Wa.heap.size ∧ k ≠ w.heap.size ∧ k ≠ w.heap.size + 1) → I X pre W → pre ++ [x] <+: xs → w.heap.size + 2 ≤ Bx → Blk W Bx tE #[.int .i64 x.1, .int .i64 x.2.1, .int .i64 x.2.2.1, .bool x.2.2.2] → Wa.heap.size ≤ Bx →
      body.wpIn (Fence.wide.inRound l) m P (xPost w.heap.size K X I Ix (pre ++ [x]) W) { tmps := (a.tmps.setIfInBounds pb (gV x)).setIfInBounds ib (.pointer (some ⟨Bx, 0, none⟩)), defers := [] } W)
    (hdone : ∀ (X : Nat → Prop) (W : World), w.heap.size + 2 ≤ W.heap.size → I X xs W → W.heap[w.heap.size]? = some (.deferred (some [])) → Q .normal { a with defers := markOf w.heap.size :: a.defers } W)
    (hstop : ∀ (c : Code) (X : Nat → Prop) (pre : List Gp) (W : World), w.heap.size + 2 ≤ W.heap.size → pre <+: xs → Ix c X pre W → W.heap[w.heap.size]? = some (.deferred (some [])) → c.wp P Q { a with defers := markOf w.heap.size :: a.defers } W) :
    (Code.rangeFunc g ps assign body).wp P Q a w := by
  subst hps
  refine rangeX hg eg hseq (fun _ => rfl) hT hK I Ix hI hIx hnew h0
    (fun N x a' W => ∃ Bx, N ≤ Bx ∧ w.heap.size + 2 ≤ Bx ∧ Blk W Bx tE #[.int .i64 x.1, .int .i64 x.2.1, .int .i64 x.2.2.1, .bool x.2.2.2] ∧ a' = { tmps := (a.tmps.setIfInBounds pb (gV x)).setIfInBounds ib (.pointer (some ⟨Bx, 0, none⟩)), defers := [] })
    (fun N x a' A B ⟨Bx, h0, h1, h2, h3⟩ hf => ⟨Bx, h0, h1, hf.blk h2 (by omega), h3⟩) ?_ ?_ hdone hstop
  · intro m l x W C hs hC
    have e : (#[pb].zip (gA x)).foldl (fun t (p, v) => t.setIfInBounds p v) a.tmps = a.tmps.setIfInBounds pb (gV x) := by simp [gA]
    rw [e]
    exact hassign m l x W C (hC _ _ ((Far.refl _ W).alloc _) ⟨W.heap.size, Nat.le_refl _, hs, Blk.new _ _ _, rfl⟩)
  · rintro m l X pre x a' Wa W hs hX hi ⟨Bx, h0, h1, h2, rfl⟩ hpre _ _
    exact hbody m l X pre x Bx Wa W hs hX hi hpre h1 h2 h0
end Go.Pol
namespace Go.Proofs.YtefnnfcfigcikaaGreat
open Go Go.Proofs Go.RowKit Go.Pol Go.Shelf
attribute [local go_sem] Oper.semAt_some Go.Pol.wide_fn Go.Pol.wide_depth Go.Pol.wide_fn' Go.Pol.wide_depth'

theorem idx_grp (cs : Array Value) (gs : List Gp) (h : GrpAre cs gs) (k : Nat) (hk : k < 64) (W : World) : (Instr.index 158 (.agg cs) (.int .i64 k)).run Tryz.prog W = .ok (gV (gs.getD k gp0)) W := by
  have u := Tryz.underlying158
  have a3 := Tryz.isAgg151
  have z3 := Tryz.sizeOf151
  obtain ⟨h0, h1, h2, h3⟩ := h.at_ k hk
  have he := extract4 h0 h1 h2 h3
  have hb : 0 ≤ (k : Int) ∧ (k : Int) < 64 := by omega
  unfold Instr.index
  simp only [Sem.run_bind, run_underlying u, Result.andThen_ok]
  simp [part, asIntOf, a3, z3, Result.andThen, hb, he, gV]
theorem some_any (b g : Nat) (w : World) :
    Calls Tryz.prog 68 #[.pointer (some ⟨b, 0, none⟩), .func (.func g) #[] #[]] w fun e w' => e = .returned (.func (.func 124) #[] #[.pointer (some ⟨w.heap.size, 0, none⟩), .pointer (some ⟨w.heap.size + 1, 0, none⟩)]) ∧
      w' = (w.alloc (.cells #[.pointer (some ⟨b, 0, none⟩)] 143)).alloc (.cells #[.func (.func g) #[] #[]] 149) := by
  go_enter Tryz.func68, Tryz.ntmps68
  go_wp2
  go_ret
  exact ⟨by simp, rfl⟩
theorem some1_enters : ∀ args w, (callFunc 124 args).run Tryz.prog w = .ok (.enter 124 args) w := enters_of Tryz.func124 (by kernel_rfl) rfl
set_option maxRecDepth 100000 in
set_option maxHeartbeats 1600000 in
theorem some1_seq (p : Gp → Bool) (g b B1 B2 : Nat) (cs : Array Value) (gs : List Gp) (cm lv : Nat → Bool) (nm gc gl : Nat → Int) (gh : Nat → Bool) (K : Nat → Prop) (w : World) (hKb : K b) (hK1 : K B1) (hK2 : K B2)
    (kb : Blk w b 160 cs) (k1 : Blk w B1 143 #[.pointer (some ⟨b, 0, none⟩)]) (k2 : Blk w B2 149 #[.func (.func g) #[] #[]])
    (hcs : LookIs cs cm lv nm gc gl gh) (hgs : gpsOf nm gc gl gh = gs)
    (eg : ∀ args w, (callFunc g args).run Tryz.prog w = .ok (.enter g args) w)
    (hp : ∀ x W, Calls Tryz.prog g #[gV x] W fun e W' => e = .returned (.bool (p x)) ∧ Below W.heap.size W W') :
    SeqX Tryz.prog 124 #[.pointer (some ⟨B1, 0, none⟩), .pointer (some ⟨B2, 0, none⟩)] gA (fun _ => False) K (gs.filter p) w := by
  intro m l J Jx W hW hJ hJx hnew hY h0
  have hG := hcs.groups
  rw [hgs] at hG
  have kbW := hW.blk kb (by simpa using hKb)
  have k1W := hW.blk k1 (by simpa using hK1)
  have k2W := hW.blk k2 (by simpa using hK2)
  have hra := hcs.rangeAt kbW
  have hlen := hG.len
  have hsz := hG.size
  generalize cs.extract 2048 2304 = ds at *
  refine callsIn_of_wp Tryz.func124 rfl trivial ?_ rfl
  simp only [Tryz.ntmps124, List.size_toArray, List.length_cons, List.length_nil, Nat.reduceAdd, Nat.reduceSub, Array.replicate_succ, Array.replicate_zero, List.push_toArray, List.append_toArray, List.nil_append, List.cons_append]
  have c1 := k1W.cell
  have hidx := Lib.hid (fun k hk W => idx_grp ds gs hG k hk W)
  clear hG hW k1 kb k2 hcs hgs
  gi_wp2_with (refine wpListIn_load_mid rfl 158 (.tmp 8) rfl b 2048 rfl ds.toList _ hra Tryz.underlying158 rfl (by rw [Array.length_toList, hsz]; kernel_rfl) ?_; rw [Array.toArray_toList])
  clear hra c1 k1W
  gi_loopw [10] (fun i wr => ∃ (k : Nat) (X : Nat → Prop), k ≤ 64 ∧ i = .int .i64 k ∧ W.heap.size ≤ wr.heap.size ∧ Hid (J X ((gs.take k).filter p) wr) ∧ Blk wr B2 149 #[.func (.func g) #[] #[]] ∧ B2 < W.heap.size) (fun i _ => 64 - (intOf i).toNat)
  case atStart => exact ⟨0, _, by omega, rfl, Nat.le_refl _, Lib.hid (by simpa using h0), k2W, k2W.lt⟩
  case round =>
    clear h0 kbW k2W
    obtain ⟨k, X, hk, rfl, hwz, hJs, k2, hBl⟩ := hrel
    by_cases hlt : k < 64
    · have hlt' : decide ((k : Int) < 64) = true := by rw [decide_eq_true_eq]; omega
      have hts := Lib.hid (take_snocG gs k (by omega))
      have hix := fun W => hidx.out k hlt W
      generalize gs.getD k gp0 = x at *
      have hpx := Lib.hid (fun W => hp x W)
      have hfs := Lib.hid (show (gs.take (k + 1)).filter p = (gs.take k).filter p ++ if p x then [x] else [] by
        rw [hts.out, List.filter_append]; congr 1; cases h : p x <;> simp [h])
      obtain ⟨xn, xc, xl, xh⟩ := x
      unfold gV at hix
      dsimp only at hix
      have kX := Blk.new wr 151 #[.int .i64 xn, .int .i64 xc, .int .i64 xl, .bool xh]
      have hfa : Far (fun _ => False) wr (wr.alloc (.cells #[.int .i64 xn, .int .i64 xc, .int .i64 xl, .bool xh] 151)) := (Far.refl _ wr).alloc _
      have k2a := hfa.blk k2 id
      have c2 := k2a.cell
      have hJ2 := fun (z : Ext (wr.alloc (.cells #[.int .i64 xn, .int .i64 xc, .int .i64 xl, .bool xh] 151))) => hJ _ _ _ z.w (hnew X (fun k => k = wr.heap.size) _ wr hJs.out (fun j hj => .inr (by omega))) ((hfa.mono fun _ _ h => h.elim).trans (.of_below z.le))
      have hszb : wr.heap.size < (wr.alloc (.cells #[.int .i64 xn, .int .i64 xc, .int .i64 xl, .bool xh] 151)).heap.size := by simp
      gi_upto_region 3 with fail
      generalize (wr.alloc (.cells #[.int .i64 xn, .int .i64 xc, .int .i64 xl, .bool xh] 151)) = w2 at *
      have cX := kX.cell
      unfold gV at hpx
      cases hq : p (xn, xc, xl, xh) with
      | true =>
        have hpre : Hid ((gs.take k).filter p ++ [(xn, xc, xl, xh)] <+: gs.filter p) := Lib.hid (by
          have := (List.take_prefix (k + 1) gs).filter p
          rw [hfs.out, hq] at this; exact this)
        rw [hq] at hpx hfs
        clear hq
        gi_wp2_with fail
        refine (callsIn_wide.2 (hpx.out _)).mono ?_
        rintro e w3 ⟨rfl, hb3⟩
        have kX3 := kX.call hb3
        have cX3 := kX3.cell
        have k23 := k2a.call hb3
        have hs3 := hb3.size
        obtain ⟨fn, tmps, assign, body, hy, hRd⟩ := hY (m - 1) (fun k => k = wr.heap.size) _ (xn, xc, xl, xh) w3 (hJ2 ⟨w3, hb3⟩) (fun j hj => by rw [hj]; omega) hpre.out
        simp only [gA, gV] at hy
        clear hY hJ2 kX k2a c2 cX
        gi_wp2_with fail
        refine hRd.mono ?_
        rintro e W4 (⟨rfl, hJ4, hF4⟩ | ⟨rfl, hJx4⟩)
        · have hs4 := hF4.size
          have k24 := hF4.blk k23 (fun h => h (.inl hK2))
          gi_wp2_with fail
          go_roundw
          case rel => exact ⟨k + 1, _, by omega, by go_num, by omega, Lib.hid (by rw [hfs.out]; exact hJ4), k24, hBl⟩
          case measure => simp [intOf]; omega
        · gi_wp2_with fail
          refine bodyPost_ret (results_none rfl _ _ _) rfl ?_
          exact ⟨⟨_, rfl⟩, .inr ⟨_, _, hpre.out, hJx4⟩⟩
      | false =>
        rw [hq] at hpx hfs
        clear hq
        gi_wp2_with fail
        refine (callsIn_wide.2 (hpx.out _)).mono ?_
        rintro e w3 ⟨rfl, hb3⟩
        have k23 := k2a.call hb3
        have hJ3 := hJ2 ⟨w3, hb3⟩
        have hs3 := hb3.size
        gi_wp2_with fail
        go_roundw
        case rel => exact ⟨k + 1, _, by omega, by go_num, by omega, Lib.hid (by rw [hfs.out]; simpa using hJ3), k23, hBl⟩
        case measure => simp [intOf]; omega
    · have hlt' : decide ((k : Int) < 64) = false := by rw [decide_eq_false_iff_not]; omega
      have hE : Hid (gs.take k = gs) := Lib.hid (List.take_of_length_le (by omega))
      gi_wp2_with fail
      go_end0
      exact ⟨⟨_, rfl⟩, .inl ⟨_, by have := hJs.out; rw [hE.out] at this; exact this⟩⟩
theorem whole_any (g : Gp) (w : World) : Calls Tryz.prog 69 #[gV g] w fun e w' => e = .returned (.bool (!g.2.2.2 && (g.2.1 == 16))) ∧ Below w.heap.size w w' := by
  obtain ⟨n, c, l, h⟩ := g
  unfold gV
  dsimp only
  have k0 := Blk.new w 151 #[.int .i64 n, .int .i64 c, .int .i64 l, .bool h]
  have hb0 := (Below.refl w.heap.size w).alloc (Nat.le_refl _) (.cells #[.int .i64 n, .int .i64 c, .int .i64 l, .bool h] 151)
  have c0 := k0.cell
  cases h with
  | true =>
    go_enter Tryz.func69, Tryz.ntmps69
    go_wp2_with fail
    go_ret
    exact ⟨rfl, hb0⟩
  | false =>
    go_enter Tryz.func69, Tryz.ntmps69
    go_wp2_with fail
    go_ret
    exact ⟨by simp, hb0⟩
theorem huge_any (g : Gp) (w : World) : Calls Tryz.prog 70 #[gV g] w fun e w' => e = .returned (.bool g.2.2.2) ∧ Below w.heap.size w w' := by
  obtain ⟨n, c, l, h⟩ := g
  unfold gV
  dsimp only
  have k0 := Blk.new w 151 #[.int .i64 n, .int .i64 c, .int .i64 l, .bool h]
  have hb0 := (Below.refl w.heap.size w).alloc (Nat.le_refl _) (.cells #[.int .i64 n, .int .i64 c, .int .i64 l, .bool h] 151)
  have c0 := k0.cell
  go_enter Tryz.func70, Tryz.ntmps70
  go_wp2_with fail
  go_ret
  exact ⟨rfl, hb0⟩
end Go.Proofs.YtefnnfcfigcikaaGreat
namespace Go.Pol
open Go Go.RowKit
/-- the cells of a list of elements -/
def fl {α : Type} (enc : α → List Value) (us : List α) : List Value := us.flatMap enc
section
variable {α : Type} {enc : α → List Value} {sz : Nat}
theorem fl_cons (x : α) (r : List α) : fl enc (x :: r) = enc x ++ fl enc r := by simp [fl]
theorem fl_append (a b : List α) : fl enc (a ++ b) = fl enc a ++ fl enc b := by simp [fl]
theorem fl_snoc (a : List α) (x : α) : fl enc (a ++ [x]) = fl enc a ++ enc x := by simp [fl]
theorem fl_len (h : ∀ x, (enc x).length = sz) : ∀ us : List α, (fl enc us).length = us.length * sz
  | [] => by simp [fl]
  | x :: r => by rw [fl_cons, List.length_append, h x, fl_len h r, List.length_cons, Nat.succ_mul, Nat.add_comm]
theorem fl_at (h : ∀ x, (enc x).length = sz) (d : α) : ∀ (us : List α) (k : Nat), k < us.length → ∀ j, j < sz → (fl enc us)[k * sz + j]? = (enc (us.getD k d))[j]?
  | [], k, hk, _, _ => by simp at hk
  | x :: r, 0, _, j, hj => by
    rw [fl_cons, Nat.zero_mul, Nat.zero_add, List.getElem?_append_left (by rw [h x]; exact hj)]
    rfl
  | x :: r, k + 1, hk, j, hj => by
    have ih := fl_at h d r k (by simpa using hk) j hj
    rw [fl_cons, List.getElem?_append_right (by rw [h x, Nat.succ_mul]; omega), h x, show (k + 1) * sz + j - sz = k * sz + j by rw [Nat.succ_mul]; omega, ih]
    rfl
end
section
variable {w w' : World} {B : Nat} {A : Option Addr} {xs : List Value}
theorem Rd.on_ (h : Rd w w.heap.size A xs) (hb : Below w.heap.size w w') : Rd w' w'.heap.size A xs := (h.below hb).more hb.size
theorem Rd.lt_ (h : Rd w B A xs) {b o : Nat} (hA : A = some ⟨b, o, none⟩) (h0 : 0 < xs.length) : b < B := by
  obtain ⟨b', o', e, hb, _⟩ := h 0 h0
  rw [hA] at e; cases e; exact hb
/-- the cells of one element -/
theorem Rd.elem {α : Type} {enc : α → List Value} {sz : Nat} {us : List α} (hr : Rd w B A (fl enc us)) (h : ∀ x, (enc x).length = sz) (h0 : 0 < sz) (d : α) {k : Nat} (hk : k < us.length) :
    ∃ b o, A = some ⟨b, o, none⟩ ∧ b < B ∧ ∀ (j : Nat) (v : Value), (enc (us.getD k d))[j]? = some v → w.cell? ⟨b, o + k * sz + j, none⟩ = some v := by
  have hl := fl_len h us
  have hkz : k * sz + sz ≤ us.length * sz := by rw [← Nat.succ_mul]; exact Nat.mul_le_mul_right sz hk
  obtain ⟨b, o, e, hb, _⟩ := hr (k * sz) (by omega)
  refine ⟨b, o, e, hb, fun j v hj => ?_⟩
  have hjz : j < sz := by rw [← h (us.getD k d)]; exact (List.getElem?_eq_some_iff.1 hj).1
  obtain ⟨b', o', e', _, hc⟩ := hr (k * sz + j) (by omega)
  rw [e] at e'; cases e'
  rw [Nat.add_assoc, hc]
  have := fl_at h d us k hk j hjz
  rw [hj, List.getElem?_eq_getElem (by omega)] at this
  exact this
theorem Rd.src (h : Rd w w.heap.size A xs) (ad : Addr) (hA : A = some ad) : ∀ (j : Nat) (u : Value), xs[j]? = some u → w.cell? (ad.add j) = some u := fun j u hj => by
  obtain ⟨hlt, e⟩ := List.getElem?_eq_some_iff.1 hj
  obtain ⟨b, o, e', _, hc⟩ := h j hlt
  rw [hA] at e'; cases e'
  rw [addr_add0, hc, e]
/-- what a call of the own made reads as a list -/
theorem own_Rd {base n sz : Nat} {e : TypeId} {v : Value} (h : w.ownsRow base e sz v n xs) : ∃ (A : Option Addr) (cap : Nat), v = .slice A n cap ∧ Rd w w.heap.size A xs ∧ n ≤ cap ∧ cap ≤ maxLen ∧ (∀ b o, A = some ⟨b, o, none⟩ → base ≤ b) ∧ (A = none → cap = 0) := by
  have hv := h
  rcases h.2 with ⟨rfl, h0⟩ | ⟨g, cap, cur, rfl, hg, hk, hnc, hcm, _⟩
  · subst h0
    have : xs = [] := List.eq_nil_of_length_eq_zero (by rw [h.1]; simp)
    subst this
    exact ⟨none, 0, rfl, fun k hk => absurd hk (by simp), Nat.le_refl _, by unfold maxLen; omega, fun b o e => (by cases e), fun _ => rfl⟩
  · refine ⟨_, cap, rfl, fun k hk' => ?_, hnc, hcm, fun b o e => by cases e; exact hg, fun e => by cases e⟩
    have c0 := hv.cellAt k (by rw [← h.1]; exact hk')
    refine ⟨g, 0, rfl, Blk.lt hk, ?_⟩
    rw [Nat.zero_add, c0, List.getElem?_eq_getElem hk']
/-- the same, with the type of the block -/
theorem own_Rdt {base n sz : Nat} {e : TypeId} {v : Value} (h : w.ownsRow base e sz v n xs) : ∃ (A : Option Addr) (cap : Nat), v = .slice A n cap ∧ Rd w w.heap.size A xs ∧ n ≤ cap ∧ cap ≤ maxLen ∧ (∀ b o, A = some ⟨b, o, none⟩ → base ≤ b) ∧ (A = none → cap = 0) ∧ ∀ b o, A = some ⟨b, o, none⟩ → ∃ cs, Blk w b e cs := by
  obtain ⟨A, cap, h1, h2, h3, h4, h5, h6⟩ := own_Rd h
  refine ⟨A, cap, h1, h2, h3, h4, h5, h6, fun b o hA => ?_⟩
  rcases h.2 with ⟨hv, _⟩ | ⟨g, cap', cur, hv, _, hk, _⟩
  · rw [h1, hA] at hv; cases hv
  · rw [h1, hA] at hv; cases hv; exact ⟨cur, hk⟩
/-- a row of one type is no block of another -/
theorem own_other {base n sz g : Nat} {e t : TypeId} {v : Value} {cs : Array Value} (h : w.ownsRow base e sz v n xs) (hv : v.ownBlock = some g) (hc : Blk w g t cs) (hne : e ≠ t) : False := by
  rcases h.2 with ⟨rfl, _⟩ | ⟨g', cap', cur, rfl, _, hk, _⟩
  · cases hv
  · have e' : g' = g := by injection hv
    subst e'
    exact Blk.ne_ (g := g') hk hc hne rfl
end
theorem z_below {s : Nat} {w : World} (b : Nat) (hb : s ≤ b) : ∀ (vs : List Value) (o : Nat) (W : World), Below s w W → Below s w (W.setCells b o vs)
  | [], _, _, h => h
  | v :: vs, o, _, h => z_below b hb vs (o + 1) _ (h.setCell (p := ⟨b, o, none⟩) hb v)
theorem z_there {w : World} {g : Nat} {t : TypeId} {cs : Array Value} (h : Blk w g t cs) (o n : Nat) (hn : o + n ≤ cs.size) : w.there g o n := fun j hj => by
  exact ⟨by rw [h.cell]; simp; omega, h.frozen _⟩
/-- cells of a block from a place on -/
def putA (cs : Array Value) : Nat → List Value → Array Value
  | _, [] => cs
  | o, v :: vs => putA (cs.setIfInBounds o v) (o + 1) vs
theorem putA_size (cs : Array Value) : ∀ (o : Nat) (vs : List Value), (putA cs o vs).size = cs.size
  | _, [] => rfl
  | o, v :: vs => by rw [putA, putA_size (cs.setIfInBounds o v) (o + 1) vs]; simp
theorem putA_get : ∀ (vs : List Value) (cs : Array Value) (o : Nat), o + vs.length ≤ cs.size → ∀ i, (putA cs o vs)[i]? = if o ≤ i ∧ i < o + vs.length then vs[i - o]? else cs[i]?
  | [], cs, o, _, i => by rw [putA, if_neg (by simp only [List.length_nil]; omega)]
  | v :: vs, cs, o, h, i => by
    rw [List.length_cons] at h
    rw [putA, putA_get vs _ _ (by simp; omega) i]
    by_cases h1 : i = o
    · subst h1
      rw [if_neg (by omega), if_pos (by simp), Nat.sub_self, Array.getElem?_setIfInBounds_self_of_lt (by omega)]; rfl
    · by_cases h2 : o + 1 ≤ i ∧ i < o + 1 + vs.length
      · rw [if_pos h2, if_pos (by simp; omega), show i - o = (i - (o + 1)) + 1 by omega, List.getElem?_cons_succ]
      · rw [if_neg h2, if_neg (by simp; omega), Array.getElem?_setIfInBounds, if_neg (by omega)]
theorem Blk.puts {w : World} {g : Nat} {t : TypeId} {cs : Array Value} : ∀ (vs : List Value) (o : Nat) (w : World) (cs : Array Value), Blk w g t cs → Blk (w.setCells g o vs) g t (putA cs o vs)
  | [], _, _, _, h => h
  | v :: vs, o, _, _, h => Blk.puts (cs := cs) (w := w) vs (o + 1) _ _ (h.set_ o v)
theorem Blk.puts_far {g b : Nat} {t : TypeId} (hne : g ≠ b) : ∀ (vs : List Value) (o : Nat) (w : World) (cs : Array Value), Blk w g t cs → Blk (w.setCells b o vs) g t cs
  | [], _, _, _, h => h
  | v :: vs, o, _, _, h => Blk.puts_far hne vs (o + 1) _ _ (h.far (p := ⟨b, o, none⟩) hne v)
theorem putA_all {cs : Array Value} {vs : List Value} (h : cs.size = vs.length) : putA cs 0 vs = vs.toArray := by
  apply Array.ext_getElem?
  intro i
  rw [putA_get vs cs 0 (by omega) i]
  by_cases hi : i < vs.length
  · rw [if_pos (by omega)]; simp
  · rw [if_neg (by omega), Array.getElem?_eq_none (by omega), Array.getElem?_eq_none (by simpa using hi)]
theorem Far.puts {T : Nat → Prop} {g : Nat} (hT : T g) : ∀ (vs : List Value) (o : Nat) (A B : World), Far T A B → Far T A (B.setCells g o vs)
  | [], _, _, _, h => h
  | v :: vs, o, _, _, h => Far.puts hT vs (o + 1) _ _ (h.setCell (p := ⟨g, o, none⟩) (fun _ => hT) v)
theorem Blk.range_ {w : World} {g : Nat} {t : TypeId} {cs : Array Value} (h : Blk w g t cs) (o n : Nat) : w.rangeAt g o (cs.extract o (o + n)).toList := fun j v hj => by
  rw [Array.getElem?_toList] at hj
  rw [h.cell, ← hj, Array.getElem?_extract]
  have := (Array.getElem?_eq_some_iff.1 hj).1
  rw [Array.size_extract] at this
  rw [if_pos (by omega)]
end Go.Pol
namespace Go.Pol
open Go Go.RowKit
/-- the groups as 'open' sees them -/
def gsH (C L : List Sp) (H : List Int) : List Gp := gpsOf (fun g => (g : Int)) (fun g => grpF C (g : Int)) (fun g => grpF L (g : Int)) (fun g => decide ((g : Int) ∈ H))
def wholeP (g : Gp) : Bool := !g.2.2.2 && (g.2.1 == 16)
def hugeP (g : Gp) : Bool := g.2.2.2
/-- the numbers of those with enough live pages -/
def outG (least : Int) (l : List Gp) : List Int := (l.filter fun g => decide (least ≤ g.2.2.1)).map (·.1)
theorem gsH_map (C L : List Sp) (H : List Int) : gsH C L H = grps.map fun g => (g, grpF C g, grpF L g, decide (g ∈ H)) := by
  unfold gsH gpsOf grps
  rw [List.map_map]; rfl
theorem outG_whole (C L : List Sp) (H : List Int) (least : Int) : outG least ((gsH C L H).filter wholeP) = groupsF C L H least := by
  unfold outG groupsF wholeF
  rw [gsH_map, List.filter_map, List.filter_map, List.map_map]
  rw [show ((fun x : Gp => x.1) ∘ fun g => (g, grpF C g, grpF L g, decide (g ∈ H))) = id from rfl, List.map_id]
  rfl
theorem outG_snoc (least : Int) (l : List Gp) (x : Gp) : outG least (l ++ [x]) = outG least l ++ if decide (least ≤ x.2.2.1) = true then [x.1] else [] := by
  unfold outG
  rw [List.filter_append, List.map_append]
  congr 1
  cases h : decide (least ≤ x.2.2.1) <;> simp_all
theorem filter_len_grps (C L : List Sp) (H : List Int) (p : Gp → Bool) : ((gsH C L H).filter p).length ≤ 64 := by
  refine Nat.le_trans (List.length_filter_le _ _) ?_
  rw [gsH, gpsOf_len]; exact Nat.le_refl _
/-- what Groups answers -/
def groupsA (C L : List Sp) (H : List Int) (least : Int) : List Int × Int :=
  if chkH C L H ≠ 0 then ([], chkH C L H) else if least < 0 ∨ 16 < least then ([], 2) else (groupsF C L H least, 0)
end Go.Pol
namespace Go.Proofs.YtefnnfcfigcikaaGreat
open Go Go.Proofs Go.RowKit Go.Pol Go.Shelf
attribute [local go_sem] Oper.semAt_some Go.Pol.wide_fn Go.Pol.wide_depth Go.Pol.wide_fn' Go.Pol.wide_depth'

/-- the value of a state, and what its slices hold -/
structure StIs (w : World) (S : Value) (C L : List Sp) (H : List Int) : Prop where
  ex : ∃ (A1 A2 A3 : Option Addr) (n1 c1 n2 c2 n3 c3 : Nat), S = .agg #[.slice A1 n1 c1, .slice A2 n2 c2, .slice A3 n3 c3] ∧ C.length = n1 ∧ n1 ≤ maxLen ∧ RU w w.heap.size A1 C ∧
    L.length = n2 ∧ n2 ≤ maxLen ∧ RU w w.heap.size A2 L ∧ H.length = n3 ∧ n3 ≤ maxLen ∧ RI w w.heap.size A3 H
theorem StIs.on {w w' : World} {S : Value} {C L : List Sp} {H : List Int} (h : StIs w S C L H) (hb : Below w.heap.size w w') : StIs w' S C L H := by
  obtain ⟨A1, A2, A3, n1, c1, n2, c2, n3, c3, h0, h1, h2, h3, h4, h5, h6, h7, h8, h9⟩ := h.ex
  exact ⟨A1, A2, A3, n1, c1, n2, c2, n3, c3, h0, h1, h2, h3.on hb, h4, h5, h6.on hb, h7, h8, RI.on h9 hb⟩
theorem heap_two (w : World) (t1 t2 : TypeId) (v1 v2 : Value) : Blk ((w.alloc (.cells #[v1] t1)).alloc (.cells #[v2] t2)) w.heap.size t1 #[v1] ∧ Blk ((w.alloc (.cells #[v1] t1)).alloc (.cells #[v2] t2)) (w.heap.size + 1) t2 #[v2] ∧
    Below w.heap.size w ((w.alloc (.cells #[v1] t1)).alloc (.cells #[v2] t2)) ∧ ((w.alloc (.cells #[v1] t1)).alloc (.cells #[v2] t2)).heap.size = w.heap.size + 2 := by
  refine ⟨(Blk.new _ _ _).alloc _, ?_, ((Below.refl _ _).alloc (Nat.le_refl _) _).alloc (by simp) _, by simp⟩
  have := Blk.new (w.alloc (.cells #[v1] t1)) t2 #[v2]
  rw [World.size_alloc] at this; exact this
/-- what a list of numbers and an error look like that are handed back -/
def IntsE (r : List Int × Int) (w : World) (e : Ending) (w' : World) : Prop := ∃ (A : Option Addr) (cap : Nat), e = .returned (.tuple #[.slice A r.1.length cap, .int .i64 r.2]) ∧ RI w' w'.heap.size A r.1 ∧ Below w.heap.size w w'
theorem IntsE.err {w w' : World} {c : Int} (hb : Below w.heap.size w w') : IntsE ([], c) w (.returned (.tuple #[.slice none 0 0, .int .i64 c])) w' := ⟨none, 0, rfl, RI.nil, hb⟩
/-- such a list in memory of its own -/
def IntsN (r : List Int × Int) (w : World) (e : Ending) (w' : World) : Prop := ∃ (A : Option Addr) (cap : Nat), e = .returned (.tuple #[.slice A r.1.length cap, .int .i64 r.2]) ∧ RI w' w'.heap.size A r.1 ∧ (∀ b o, A = some ⟨b, o, none⟩ → w.heap.size ≤ b) ∧ Below w.heap.size w w'
theorem IntsN.err {w w' : World} {c : Int} (hb : Below w.heap.size w w') : IntsN ([], c) w (.returned (.tuple #[.slice none 0 0, .int .i64 c])) w' := ⟨none, 0, rfl, RI.nil, fun _ _ h => (by cases h), hb⟩
theorem IntsN.e {r : List Int × Int} {w : World} {e : Ending} {w' : World} (h : IntsN r w e w') : IntsE r w e w' := by
  obtain ⟨A, cap, h1, h2, _, h4⟩ := h
  exact ⟨A, cap, h1, h2, h4⟩
set_option maxRecDepth 100000 in
set_option maxHeartbeats 3200000 in
theorem groupsN_any (S : Value) (C L : List Sp) (H : List Int) (least : Int) (w : World) (hS : StIs w S C L H) :
    Calls Tryz.prog 23 #[S, .int .i64 least] w (IntsN (groupsA C L H least) w) := by
  obtain ⟨A1, A2, A3, n1, c1, n2, c2, n3, c3, rfl, h1, h2, h3, h4, h5, h6, h7, h8, h9⟩ := hS.ex
  obtain ⟨i0, hi, hz0, hz1, hz2⟩ := info_parts infoIn
  obtain ⟨s, hs⟩ : ∃ s, w.heap.size = s := ⟨_, rfl⟩
  obtain ⟨W0, hW0⟩ : ∃ W0, (w.alloc (.cells #[.slice A1 n1 c1, .slice A2 n2 c2, .slice A3 n3 c3] 52)).alloc (.cells #[.int .i64 least] 3) = W0 := ⟨_, rfl⟩
  have hs0 : W0.heap.size = s + 2 := by rw [← hW0, ← hs]; simp
  have hb0 : Below s w W0 := by rw [← hW0, ← hs]; exact ((Below.refl w.heap.size w).alloc (Nat.le_refl _) _).alloc (by simp) _
  have kH : Blk W0 s 52 #[.slice A1 n1 c1, .slice A2 n2 c2, .slice A3 n3 c3] := by rw [← hW0, ← hs]; exact (Blk.new _ _ _).alloc _
  have kB : Blk W0 (s + 1) 3 #[.int .i64 least] := by
    rw [← hW0, ← hs]; have := Blk.new (w.alloc (.cells #[.slice A1 n1 c1, .slice A2 n2 c2, .slice A3 n3 c3] 52)) 3 #[.int .i64 least]
    rw [World.size_alloc] at this; exact this
  have hbb : Below w.heap.size w W0 := by rw [hs]; exact hb0
  have HO := Lib.hid (open_any A1 A2 A3 n1 c1 n2 c2 n3 c3 C L H W0 h1 h2 (h3.on hbb) h4 h5 (h6.on hbb) h7 h8 (RI.on h9 hbb))
  have hout := Lib.hid (outG_whole C L H least)
  have hlen := Lib.hid (filter_len_grps C L H wholeP)
  have hA := Lib.hid (show groupsA C L H least = if chkH C L H ≠ 0 then ([], chkH C L H) else if least < 0 ∨ 16 < least then ([], 2) else (groupsF C L H least, 0) from rfl)
  have hgs := Lib.hid (show gpsOf (fun g => (g : Int)) (fun g => grpF C (g : Int)) (fun g => grpF L (g : Int)) (fun g => decide ((g : Int) ∈ H)) = gsH C L H from rfl)
  have hGF : Hid (groupsF C L H least = groupsF C L H least) := Lib.hid rfl
  generalize groupsA C L H least = R at *
  generalize groupsF C L H least = G at *
  generalize hER : chkH C L H = er at *
  have hER' := Lib.hid hER
  have cH := kH.cell
  have hW1 := Lib.hid hW0
  clear hW0 h1 h2 h3 h4 h5 h6 h7 h8 h9 hS hbb hER hGF
  refine calls_of_marks Tryz.func23 rfl ?_
  simp only [Tryz.ntmps23, List.size_toArray, List.length_cons, List.length_nil, Nat.reduceAdd, Nat.reduceSub, Array.replicate_succ, Array.replicate_zero, List.push_toArray, List.append_toArray, List.nil_append, List.cons_append]
  go_upto_region 1 with fail
  try simp only [Nat.add_assoc, Nat.reduceAdd]
  rw [hW1.out]
  clear hW1
  go_wp2_with fail
  refine HO.out.mono ?_
  rintro e w1 ⟨hb1, he, hz⟩
  have B1 := hb0.trans (hb1.mono (by omega))
  rw [hER'.out] at he hz
  by_cases h0 : er = 0
  case neg =>
    obtain rfl := he h0
    have h0' : (er != 0) = true := by simpa using h0
    have hA' : Hid (R = ([], er)) := Lib.hid (by rw [hA.out, if_pos h0])
    clear hA h0 he hz
    go_wp2_with fail
    exact leave_none (v := .tuple #[.slice none 0 0, .int .i64 er]) (by simp [results, Tryz.results23, go_sem]) (by rw [hA'.out]; exact IntsN.err (by rw [hs]; exact B1))
  case pos =>
    obtain ⟨b, cs, rfl, hbs, kL, hcs⟩ := hz h0
    have hA1 : Hid (R = if least < 0 ∨ 16 < least then ([], 2) else (G, 0)) := Lib.hid (by rw [hA.out, if_neg (by simp [h0])])
    have kB1 := kB.call hb1
    have cB1 := kB1.cell
    clear hA he hz h0
    by_cases hl0 : least < 0
    · have hl0' : decide (least < 0) = true := by simpa using hl0
      have hA2 : Hid (R = ([], 2)) := Lib.hid (by rw [hA1.out, if_pos (.inl hl0)])
      clear hA1 hl0
      go_wp2_with fail
      exact leave_none (v := .tuple #[.slice none 0 0, .int .i64 2]) (by simp [results, Tryz.results23, go_sem]) (by rw [hA2.out]; exact IntsN.err (by rw [hs]; exact B1))
    have hl0' : decide (least < 0) = false := by simpa using hl0
    by_cases hl1 : 16 < least
    · have hl1' : decide (16 < least) = true := by simpa using hl1
      have hA2 : Hid (R = ([], 2)) := Lib.hid (by rw [hA1.out, if_pos (.inr hl1)])
      clear hA1 hl0 hl1
      go_wp2_with fail
      exact leave_none (v := .tuple #[.slice none 0 0, .int .i64 2]) (by simp [results, Tryz.results23, go_sem]) (by rw [hA2.out]; exact IntsN.err (by rw [hs]; exact B1))
    have hl1' : decide (16 < least) = false := by simpa using hl1
    have hA2 : Hid (R = (G, 0)) := Lib.hid (by rw [hA1.out, if_neg (by omega)])
    clear hA1 hl0 hl1
    go_upto_region 7 with fail
    obtain ⟨Bo, hBo⟩ : ∃ Bo, w1.heap.size = Bo := ⟨_, rfl⟩
    have hb2 := (Below.refl w1.heap.size w1).alloc (Nat.le_refl _) (.cells #[.slice none 0 0] 50)
    have kO2 := Blk.new w1 50 #[.slice none 0 0]
    have hs2 : (w1.alloc (.cells #[.slice none 0 0] 50)).heap.size = Bo + 1 := by rw [World.size_alloc, hBo]
    rw [hBo] at kO2
    have kL2 := kL.call hb2
    have kB2 := kB1.call hb2
    have hs1 := hb1.size
    have B2 := B1.trans (hb2.mono (by have := B1.size; omega))
    generalize w1.alloc (.cells #[.slice none 0 0] 50) = w2 at *
    have HS := Lib.hid (some_any b 69 w2)
    have kQ := heap_two w2 143 149 (.pointer (some ⟨b, 0, none⟩)) (.func (.func 69) #[] #[])
    rw [hs2] at kQ HS
    try simp only [hBo]
    go_wp2_with fail
    refine HS.out.mono ?_
    rintro e w3 ⟨rfl, hw3⟩
    obtain ⟨q1, q2, q3, q4⟩ := kQ
    rw [← hw3] at q1 q2 q3 q4
    rw [← hs2] at q3
    clear hw3 HS
    have kL3 := kL2.call q3
    have kO3 := kO2.call q3
    have kB3 := kB2.call q3
    have B3 := B2.trans (q3.mono (by omega))
    have hsq := some1_seq wholeP 69 b (Bo + 1) (Bo + 1 + 1) cs (gsH C L H) _ _ _ _ _ _ (fun k => k = b ∨ k = Bo + 1 ∨ k = Bo + 1 + 1) w3 (.inl rfl) (.inr (.inl rfl)) (.inr (.inr rfl)) kL3 q1 q2 hcs hgs.out (enters_of Tryz.func69 (by kernel_rfl) rfl) (fun x W => whole_any x W)
    have hbB := kL.lt
    generalize (gsH C L H).filter wholeP = xs at *
    obtain ⟨D, hD⟩ : ∃ D, w3.heap.size = D := ⟨_, rfl⟩
    have hBs : s + 2 ≤ Bo := by rw [← hBo]; omega
    clear hb1 hb2 q1 q2 kL kB1 kL2 kB2 kO2 cB1 kL3 hcs hgs kH cH hbs
    go_wp2_with fail
    refine rangeXG 9 26 151 (gf := 124) rfl some1_enters hsq rfl (fun _ h => h.elim) (fun k h => by omega)
      (fun X pre W => BoxX X W Bo 50 3 (D + 2) 1 (outG least pre).length ((outG least pre).map (Value.int .i64)) ∧ Blk W (s + 1) 3 #[.int .i64 least] ∧ Below s w W ∧ D ≤ W.heap.size ∧ ∀ k, X k → D ≤ k)
      (fun _ _ _ _ => False)
      (fun X pre A B h hf => ⟨h.1.far hf (by rintro (h | h | h | h) <;> first | exact h | exact h.elim | omega) (fun g hg => by rintro (h | h | h | h) <;> first | exact h | exact h.elim | omega),
        hf.blk h.2.1 (by rintro (h' | h' | h' | h'); exact h'; have := h.2.2.2.2 _ h'; omega; omega; omega),
        h.2.2.1.trans (hf.below (by have := h.2.2.1.size; omega) (fun k hk => by rintro (h' | h' | h' | h'); exact h'; have := h.2.2.2.2 k h'; omega; omega; omega)), Nat.le_trans h.2.2.2.1 hf.size, h.2.2.2.2⟩)
      (fun _ _ _ _ _ h _ => h.elim)
      (fun X X' pre A h hX => ⟨h.1.new hX, h.2.1, h.2.2.1, h.2.2.2.1, fun k hk => (hX k hk).elim (h.2.2.2.2 k) (fun h' => by have := h.2.2.2.1; omega)⟩)
      ⟨⟨_, kO3, World.ownsRow_nil _ _ _ _, id, fun _ _ => id⟩, kB3, B3, by omega, fun _ h => h.elim⟩ ?assign ?body ?done (fun _ _ _ _ _ _ h _ => h.elim)
    case assign =>
      intro m l x W C hC
      obtain ⟨xn, xc, xl, xh⟩ := x
      simp only [gV, List.setIfInBounds_toArray, List.set_cons_succ, List.set_cons_zero] at hC ⊢
      gi_wp2
      exact hC
    case body =>
      rintro m l X pre x Bx Wa W hsz hXlt ⟨hbox, kB, hB, hDW, hXs⟩ hpre hBx kx hBa
      simp only [List.setIfInBounds_toArray, List.set_cons_succ, List.set_cons_zero]
      have hsn := Lib.hid (outG_snoc least pre x)
      have hpl : (outG least pre).length < 64 := by
        have h1 := hpre.length_le
        have h2 := hlen.out
        have h3 : (outG least pre).length ≤ pre.length := by unfold outG; rw [List.length_map]; exact List.length_filter_le _ _
        simp at h1
        omega
      obtain ⟨xn, xc, xl, xh⟩ := x
      dsimp only at kx hsn
      have cx := kx.cell
      have cB := kB.cell
      obtain ⟨v, hv, hrow, hXB, hXg⟩ := hbox.ex
      obtain ⟨A', cap', rfl, _⟩ := own_RIx hrow rfl
      generalize hO : outG least pre = O at *
      have hO' := Lib.hid hO
      clear hO hbox
      obtain ⟨pl, hpl2⟩ : ∃ pl, O.length = pl := ⟨_, rfl⟩
      have cv := hv.cell
      have fv := hv.frozen
      rw [hpl2] at hrow hv cv hpl hXg
      by_cases hge : least ≤ xl
      · have hge' : decide (least ≤ xl) = true := by simpa using hge
        have hsn2 : Hid (outG least (pre ++ [(xn, xc, xl, xh)]) = O ++ [xn]) := Lib.hid (by rw [hsn.out, if_pos hge'])
        have kN := Blk.new W 3 #[.int .i64 xn]
        have hXl2 : ∀ k, X k → k < W.heap.size := fun k hk => by have := (hXlt k hk).1; have := kx.lt; omega
        clear hsn hge
        gi_wp2_with (gi_at_builtin; refine wpListIn_append_x _ rfl (.tmp 31) (.tmp 34) 50 rfl (D + 2) 3 i0 (.int .i64 0) 1 8 Tryz.underlying50 hi hz0 hz1 hz2 rfl (by decide) _ pl (O.map (Value.int .i64)) rfl (hrow.alloc _) ⟨W.heap.size, 0, none⟩ 1 1 [.int .i64 xn] rfl rfl (news_i kN) ints_one (by unfold maxLen; omega) (by omega) (by simp; omega) ?_; intro v' w1 hown' hgrow hblk; rw [show O.map (Value.int .i64) ++ [Value.int .i64 xn] = (O ++ [xn]).map (Value.int .i64) by simp] at hown'; obtain ⟨hv1, hb2, hf2⟩ := BoxX.appended hv (by decide) hrow hXB hXg hown' hgrow hblk hXl2; obtain ⟨A2, cap2, rfl, _⟩ := own_RIx hown' (by simp; omega); have cv1 := hv1.cell; have fv1 := hv1.frozen)
        have hgx : ∀ g, (Value.slice A' pl cap').ownBlock = some g → D + 2 ≤ g ∧ ¬ X g := fun g hg => ⟨(hrow.lt g hg).1, hXg g hg⟩
        have hf3 := hf2 (fun k => k = Bo ∨ (Value.slice A' pl cap').ownBlock = some k) (.inl rfl) (fun g hg => .inr hg)
        refine ⟨hf3.mono fun k _ h => ?_, ?_, hf3.blk kB ?_, hB.trans (hf3.below (by have := hB.size; omega) fun k hk => ?_), Nat.le_trans hDW hf3.size, hXs⟩
        · rintro (h' | h' | h' | h')
          · rcases h with h | h
            · omega
            · have := hgx k h; omega
          · rcases h with h | h
            · exact hXB (h ▸ h')
            · exact (hgx k h).2 h'
          · rcases h with h | h
            · omega
            · have := hgx k h; omega
          · rcases h with h | h
            · omega
            · have := hgx k h; omega
        · rw [hsn2.out, List.length_append, List.length_singleton, hpl2]; exact hb2
        all_goals (rintro (h | h); omega; have := hgx _ h; omega)
      · have hge' : decide (least ≤ xl) = false := by simpa using hge
        have hsn2 : Hid (outG least (pre ++ [(xn, xc, xl, xh)]) = O) := Lib.hid (by rw [hsn.out, if_neg (by simp [hge']), List.append_nil])
        clear hsn hge
        gi_wp2_with fail
        exact ⟨Far.refl _ _, by rw [hsn2.out, hpl2]; exact ⟨_, hv, hrow, hXB, hXg⟩, kB, hB, hDW, hXs⟩
    case done =>
      rintro X W hsz ⟨hbox, kB, hB, hDW, hXs⟩ hd
      rw [hout.out] at hbox
      obtain ⟨v, hv, hrow, hXB, hXg⟩ := hbox.ex
      obtain ⟨A', cap', rfl, hru⟩ := own_RIx hrow rfl
      have cv := hv.cell
      have hfp : Far (fun k => k = D) W (W.putObj D (.deferred none)) := Far.putObj (T := fun k => k = D) (Far.refl _ _) (fun _ => rfl) _
      have hrow3 := ownsRow_far hrow hfp (fun g hg h => by have := (hrow.lt g hg).1; omega)
      obtain ⟨A2, cap2, he, hru, _, _, hfr, _⟩ := own_Rd hrow3
      cases he
      rw [hD] at hd ⊢
      go_wp2_with fail
      exact leave_mark (v := .tuple #[.slice A' G.length cap', .int .i64 0]) hd (by simp [results, Tryz.results23, go_sem]) (by rw [hA2.out]; exact ⟨A', cap', rfl, hru, fun b o h => by have := hfr b o h; omega, by rw [hs]; exact hB.trans (hfp.below (by have := hB.size; omega) (fun k hk => by omega))⟩)
theorem groups_any (S : Value) (C L : List Sp) (H : List Int) (least : Int) (w : World) (hS : StIs w S C L H) :
    Calls Tryz.prog 23 #[S, .int .i64 least] w (IntsE (groupsA C L H least) w) :=
  (groupsN_any S C L H least w hS).mono (fun _ _ h => h.e)
end Go.Proofs.YtefnnfcfigcikaaGreat
