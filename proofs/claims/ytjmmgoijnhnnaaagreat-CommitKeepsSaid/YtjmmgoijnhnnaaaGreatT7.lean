/- Walks of layer 12 (commit): what Close does, in plain words; memory across its loop. -/
import Derived.RangeFuncLeaves
import Derived.Test.YtjmmgoijnhnnaaaGreatT6
namespace Go.Pol
open Go Go.RowKit
theorem giveB_len (L : List Nd) (n : Nat) (p : Int) : (giveB L n p).2.length = L.length := by
 unfold giveB
 split
 ·rfl
 ·split
  ·rfl
  ·show (addB _ n (-p)).length = _
   rw [addB_len, List.length_modify]
theorem runsC_vld {S : List Sp} (hS : Can S) : ∀ (l : List Sp) (m : Int), 0 ≤ m → m + sumS l ≤ 1024 → (∀ u ∈ l, vld u = true) → ∀ x ∈ runsC S m l, vld (x.2.2, x.2.1) = true
 | [], _, _, _, _, _, h => by cases h
 | u :: l, m, h0, h1, hv, x, h => by
  rw [runsC] at h
  rw [sumS_consC] at h1
  have hu := vld_iff.1 (hv u (by simp))
  have hl := (sumS_bound l (fun y hy => hv y (by simp [hy]))).1
  rcases List.mem_append.1 h with h | h
  ·obtain ⟨y, hy, rfl⟩ := List.mem_map.1 h
   have hvm : vld (m, u.2) = true := vld_iff.2 ⟨h0, by show m < 1024; omega, hu.2.2.1, by show u.2 ≤ 1024 - m; omega⟩
   exact (Can.common hS (Can.one hvm)).1 y hy
  ·exact runsC_vld hS l (m + u.2) (by omega) (by omega) (fun y hy => hv y (by simp [hy])) x h
theorem runsC_ok {S : List Sp} (hS : Can S) {pg n f b ev : Int} (hp : PlanOk pg n f b ev) : ∀ x ∈ runsC S 0 (runsL pg n f b ev), vld (x.2.2, x.2.1) = true :=
 runsC_vld hS _ 0 (Int.le_refl _) (by have := (runs_sum hp).2; omega) (runsL_can hp).1
def closeS (n : Nat) (S : Vm × List Nd × List Sp × Int) (x : RnT) : Vm × List Nd × List Sp × Int :=
 let J := bec S.1 x.1 x.2.1 3 2 1
 if J.1 = 0 then (J.2, (giveB S.2.1 n x.2.1).2, commonF S.2.2.1 (gapsF [(x.2.2, x.2.1)] (0, 1024)), S.2.2.2)
 else (J.2, S.2.1, S.2.2.1, if S.2.2.2 = 0 then J.1 else S.2.2.2)
theorem closeS_ok {n : Nat} {S : Vm × List Nd × List Sp × Int} {x : RnT} (hx : vld (x.2.2, x.2.1) = true) (hO : BudOk S.2.1) (hn : n < S.2.1.length) (hk : Can S.2.2.1) :
  BudOk (closeS n S x).2.1 ∧ n < (closeS n S x).2.1.length ∧ Can (closeS n S x).2.2.1 := by
 unfold closeS
 dsimp only
 split
 ·exact ⟨giveB_ok hO hn _, by rw [giveB_len]; exact hn, Can.common hk ((Can.one hx).gaps (i := (0, 1024)) (by decide)).1⟩
 ·exact ⟨hO, hn, hk⟩
def protL : List Sp → Vm → Int × Vm
 | [], V => (0, V)
 | x :: r, V => let J := bec V x.1 x.2 4 3 1; if J.1 ≠ 0 then J else protL r J.2
def closeT (V : Vm) (r : Cr) : Cr × Int × Vm :=
 let P := protL (standC V r.pg r.n) V
 if P.1 ≠ 0 then (r, P.1, P.2)
 else
  let E := bec P.2 r.pg r.n 1 1 0
  if E.1 ≠ 0 then (r, E.1, E.2) else (cr0, 0, E.2)
def closeC (V : Vm) (L : List Nd) (r : Cr) : Cr × Int × Vm × List Nd :=
 if chkCm r ≠ 0 then (r, chkCm r, V, L)
 else if r.cl = true then
  let Q := closeT V r
  (Q.1, Q.2.1, Q.2.2, L)
 else
  let all := setOf (r.kept ++ belC 0 r.live)
  let S := (runsC all 0 (runsL r.pg r.n r.f r.bk r.ev)).foldl (closeS r.node.toNat) (V, L, all, 0)
  if S.2.2.2 ≠ 0 then ({ r with live := 0, kept := S.2.2.1 }, S.2.2.2, S.1, S.2.1)
  else
   let Q := closeT S.1 { r with live := 0, kept := S.2.2.1, cl := true }
   (Q.1, Q.2.1, Q.2.2, S.2.1)
theorem BothTo.soft {N bs bb : Nat} {V : Vm} {L : List Nd} {w A B : World} (h : BothTo bs bb V L w A) (hN : w.heap.size ≤ N) (hs : Soft N A B) : BothTo bs bb V L w B := by
 obtain ⟨T, hF, hT, hB⟩ := hs
 obtain ⟨cs, hc⟩ := h.sys.typed
 refine ⟨h.sys.far hF (hB _ _ _ hc) (fun _ _ _ _ _ _ _ _ _ _ ⟨_, hr⟩ => hB _ _ _ hr), h.bud.far hF ?_ (fun k ⟨_, _, hd⟩ => hB _ _ _ hd), h.far.trans' hF (fun i hi ht => absurd (hT i ht) (by omega))⟩
 obtain ⟨A', cap, k, _⟩ := h.bud.ex
 exact hB _ _ _ k
theorem KeptAt.soft {N : Nat} {A B : World} {q : Option Addr} {us : List Sp} (h : KeptAt A q us) (hs : Soft N A B) : KeptAt B q us := by
 obtain ⟨T, hF, _, hB⟩ := hs
 exact h.far hF (fun _ _ hg => hB _ _ _ hg)
structure CrAt (W : World) (g : Nat) (r : Cr) : Prop where
 ex : ∃ (A : Option Addr) (cap : Nat), Blk W g 43 (crC r (.slice A r.kept.length cap)) ∧ KeptAt W A r.kept ∧ r.kept.length ≤ cap ∧ cap ≤ maxLen
theorem CrAt.soft {N : Nat} {A B : World} {g : Nat} {r : Cr} (h : CrAt A g r) (hs : Soft N A B) : CrAt B g r := by
 obtain ⟨q, cap, h1, h2, h3, h4⟩ := h.ex
 exact ⟨q, cap, hs.blk h1, h2.soft hs, h3, h4⟩
theorem CrAt.both {bs bb : Nat} {V V0 : Vm} {L : List Nd} {A B : World} {g : Nat} {r : Cr} (h : CrAt A g r) (h0 : SysIs A bs V0) (hb : BothTo bs bb V L A B) : CrAt B g r := by
 obtain ⟨q, cap, h1, h2, h3, h4⟩ := h.ex
 exact ⟨q, cap, hb.blk h0 h1 (by decide) (by decide), hb.kept h0 h2, h3, h4⟩
theorem CrAt.call {A B : World} {g : Nat} {r : Cr} (h : CrAt A g r) (hb : Below A.heap.size A B) : CrAt B g r := h.soft (N := 0) (.of_below hb)
def DfAt (o : Option Nat) (W : World) : Prop := ∀ D, o = some D → W.heap[D]? = some (.deferred (some []))
theorem DfAt.nil (W : World) : DfAt none W := fun _ h => by cases h
theorem DfAt.far {o : Option Nat} {A B : World} {T : Nat → Prop} (h : DfAt o A) (hF : Far T A B) (hT : ∀ k, T k → ∃ t cs, Blk A k t cs) : DfAt o B := fun D e =>
 hF.same (h D e) (fun ht => by
  obtain ⟨t, cs, hk⟩ := hT D ht
  have := (h D e).symm.trans hk
  cases this)
theorem DfAt.call {o : Option Nat} {A B : World} (h : DfAt o A) (hb : Below A.heap.size A B) : DfAt o B := h.far (T := fun _ => False) (Far.of_below hb) (fun _ h => h.elim)
theorem DfAt.both {o : Option Nat} {bs bb : Nat} {V V0 : Vm} {L : List Nd} {A B : World} (h : DfAt o A) (h0 : SysIs A bs V0) (hb : BothTo bs bb V L A B) : DfAt o B := h.far hb.far (fun k hk => by
 rcases hk with rfl | ⟨_, cs, hc⟩
 ·obtain ⟨cs, hc⟩ := h0.typed
  exact ⟨_, cs, hc⟩
 ·exact ⟨_, cs, hc⟩)
theorem DfAt.soft {D N : Nat} {W : World} (h : DfAt (some D) W) (hN : N ≤ D) : Soft N W (W.putObj D (.deferred none)) :=
 ⟨fun k => k = D, Far.putObj (T := fun k => k = D) (Far.refl _ W) (fun _ => rfl) _, fun k hk => by rw [hk]; exact hN, fun k t cs hk e => by subst e; exact not_blk (h _ rfl) (fun _ _ _ h => by cases h) t cs hk⟩
theorem boxes4 (t1 t2 t3 t4 : TypeId) (c1 c2 c3 c4 : Array Value) (w : World) : ∃ w0 : World, w0 = (((w.alloc (.cells c1 t1)).alloc (.cells c2 t2)).alloc (.cells c3 t3)).alloc (.cells c4 t4) ∧
  w0.heap.size = w.heap.size + 4 ∧ Below w.heap.size w w0 ∧ Blk w0 w.heap.size t1 c1 ∧ Blk w0 (w.heap.size + 1) t2 c2 ∧ Blk w0 (w.heap.size + 2) t3 c3 ∧ Blk w0 (w.heap.size + 3) t4 c4 := by
 have e1 := World.size_alloc w (.cells c1 t1)
 have e2 := World.size_alloc (w.alloc (.cells c1 t1)) (.cells c2 t2)
 have e3 := World.size_alloc ((w.alloc (.cells c1 t1)).alloc (.cells c2 t2)) (.cells c3 t3)
 have e4 := World.size_alloc (((w.alloc (.cells c1 t1)).alloc (.cells c2 t2)).alloc (.cells c3 t3)) (.cells c4 t4)
 have k1 := (((Blk.new w t1 c1).alloc2 (.cells c2 t2)).alloc2 (.cells c3 t3)).alloc2 (.cells c4 t4)
 have k2 := ((Blk.new (w.alloc (.cells c1 t1)) t2 c2).alloc2 (.cells c3 t3)).alloc2 (.cells c4 t4)
 have k3 := (Blk.new ((w.alloc (.cells c1 t1)).alloc (.cells c2 t2)) t3 c3).alloc2 (.cells c4 t4)
 have k4 := Blk.new (((w.alloc (.cells c1 t1)).alloc (.cells c2 t2)).alloc (.cells c3 t3)) t4 c4
 have hb := ((((Below.refl w.heap.size w).alloc (Nat.le_refl _) (.cells c1 t1)).alloc (by omega) (.cells c2 t2)).alloc (by omega) (.cells c3 t3)).alloc (by omega) (.cells c4 t4)
 rw [e1] at k2
 rw [e2, e1] at k3
 rw [e3, e2, e1] at k4
 exact ⟨_, rfl, by omega, hb, k1, k2, k3, k4⟩
theorem rangeBR {P : Program} {tE : TypeId} {g : Operand} {ps : Array Tmp} {assign body : Code} {Q : Exit → Act → World → Prop} {a : Act} {w : World} (ib pb : Nat) (tR : TypeId)
  {gf : Nat} {lb : Array Value} (hg : a.eval g = .func (.func gf) #[] lb) (eg : ∀ args w, (callFunc gf args).run P w = .ok (.enter gf args) w)
  {K : Nat → Prop} {xs : List RnT} (hseq : SeqB P tE gf lb rnTA K xs w) (hps : ps = #[pb])
  (hK : ∀ k, K k → k < w.heap.size)
  (I : List RnT → World → Prop) (Ix : Code → List RnT → World → Prop)
  (hI : ∀ pre A B, I pre A → Soft w.heap.size A B → I pre B)
  (hIx : ∀ c pre A B, Ix c pre A → Soft w.heap.size A B → Ix c pre B)
  (h0 : I [] w)
  (hassign : ∀ (m l : Nat) (x : RnT) (W : World) (C : Act → World → Prop),
   C { tmps := (a.tmps.setIfInBounds pb (.agg (rnTC x))).setIfInBounds ib (.pointer (some ⟨W.heap.size, 0, none⟩)), defers := [] } (W.alloc (.cells (rnTC x) tR)) →
   assign.wpIn (Fence.wide.inRound l) m P (Exit.then C (fun _ _ _ => False)) { tmps := a.tmps.setIfInBounds pb (.agg (rnTC x)), defers := [] } W)
  (hbody : ∀ (m l : Nat) (X : Nat → Prop) (pre : List RnT) (x : RnT) (Bx : Nat) (W : World), w.heap.size + 2 ≤ W.heap.size → (∀ k, X k → ∃ cs, Blk W k tE cs) → (∀ t cs, ¬ Blk W w.heap.size t cs) → (∀ t cs, ¬ Blk W (w.heap.size + 1) t cs) → I pre W → Blk W Bx tR (rnTC x) → pre ++ [x] <+: xs →
   body.wpIn (Fence.wide.inRound l) m P (bPost w.heap.size K X I Ix (pre ++ [x]) W) { tmps := (a.tmps.setIfInBounds pb (.agg (rnTC x))).setIfInBounds ib (.pointer (some ⟨Bx, 0, none⟩)), defers := [] } W)
  (hdone : ∀ (W : World), w.heap.size + 2 ≤ W.heap.size → I xs W → W.heap[w.heap.size]? = some (.deferred (some [])) → Q .normal { a with defers := markOf w.heap.size :: a.defers } W)
  (hstop : ∀ (c : Code) (pre : List RnT) (W : World), w.heap.size + 2 ≤ W.heap.size → pre <+: xs → Ix c pre W → W.heap[w.heap.size]? = some (.deferred (some [])) → c.wp P Q { a with defers := markOf w.heap.size :: a.defers } W) :
  (Code.rangeFunc g ps assign body).wp P Q a w := by
 subst hps
 refine rangeB hg eg hseq (fun _ => rfl) hK I Ix hI hIx h0
  (fun x a' W => ∃ Bx, Blk W Bx tR (rnTC x) ∧ a' = { tmps := (a.tmps.setIfInBounds pb (.agg (rnTC x))).setIfInBounds ib (.pointer (some ⟨Bx, 0, none⟩)), defers := [] })
  (fun x a' A B ⟨Bx, h2, h3⟩ hf => ⟨Bx, hf.blk h2, h3⟩) ?_ ?_ hdone hstop
 ·intro m l x W C hC
  have e : (#[pb].zip (rnTA x)).foldl (fun t (p, v) => t.setIfInBounds p v) a.tmps = a.tmps.setIfInBounds pb (.agg (rnTC x)) := by simp [rnTA]
  rw [e]
  exact hassign m l x W C (hC _ _ ((Below.refl _ W).alloc (Nat.le_refl _) _) ⟨W.heap.size, Blk.new _ _ _, rfl⟩)
 ·rintro m l X pre x a' W hs hX hD hE hi ⟨Bx, h2, rfl⟩ hpre
  exact hbody m l X pre x Bx W hs hX hD hE hi h2 hpre
def MnS (s : Nat) (v : Value) (bx : Nat) (a b c : Value) (W : World) : Prop := W.cell? ⟨s, 7, none⟩ = some v ∧ W.cell? ⟨bx, 0, none⟩ = some a ∧ W.cell? ⟨bx, 1, none⟩ = some b ∧ W.cell? ⟨bx, 2, none⟩ = some c
theorem MnS.call {s bx : Nat} {v a b c : Value} {W W' : World} (h : MnS s v bx a b c W) (hb : Below W.heap.size W W') : MnS s v bx a b c W' := by
 obtain ⟨h1, h2, h3, h4⟩ := h
 exact ⟨(hb.cell (block_lt_of_cell h1)).trans h1, (hb.cell (block_lt_of_cell h2)).trans h2, (hb.cell (block_lt_of_cell h3)).trans h3, (hb.cell (block_lt_of_cell h4)).trans h4⟩
def ClS (s : Nat) (r : Cr) (v : Value) (g : Nat) (e : Int) (W : World) : Prop := W.cell? ⟨s, 0, none⟩ = some (.int .i64 r.pg) ∧ W.cell? ⟨s, 1, none⟩ = some (.int .i64 r.n) ∧ W.cell? ⟨s, 2, none⟩ = some (.int .i64 r.f) ∧ W.cell? ⟨s, 3, none⟩ = some (.int .i64 r.bk) ∧ W.cell? ⟨s, 4, none⟩ = some (.int .i64 r.ev) ∧ W.cell? ⟨s, 5, none⟩ = some (.int .i64 r.node) ∧ W.cell? ⟨s, 6, none⟩ = some (.int .i64 r.live) ∧ W.cell? ⟨s, 7, none⟩ = some v ∧ W.cell? ⟨s, 8, none⟩ = some (.bool r.cl) ∧ W.cell? ⟨g, 0, none⟩ = some (.int .i64 e)
theorem ClS.of {s g : Nat} {r : Cr} {v : Value} {e : Int} {W : World} {t u : TypeId} (h : Blk W s t (crC r v)) (k : Blk W g u #[.int .i64 e]) : ClS s r v g e W :=
 ⟨h.cell 0, h.cell 1, h.cell 2, h.cell 3, h.cell 4, h.cell 5, h.cell 6, h.cell 7, h.cell 8, k.cell 0⟩
theorem closeS_fold {n : Nat} : ∀ (l : List RnT) (S : Vm × List Nd × List Sp × Int), (∀ x ∈ l, vld (x.2.2, x.2.1) = true) → BudOk S.2.1 → n < S.2.1.length → Can S.2.2.1 →
  BudOk (l.foldl (closeS n) S).2.1 ∧ n < (l.foldl (closeS n) S).2.1.length ∧ Can (l.foldl (closeS n) S).2.2.1
 | [], S, _, h1, h2, h3 => ⟨h1, h2, h3⟩
 | x :: l, S, hv, h1, h2, h3 => by
  have h := closeS_ok (S := S) (x := x) (hv x (by simp)) h1 h2 h3
  exact closeS_fold l (closeS n S x) (fun y hy => hv y (by simp [hy])) h.1 h.2.1 h.2.2
def MarksOff (P : Program) : List Deferred → World → World → Prop
 | [], w, w' => w' = w
 | d :: ds, w, w' => ∃ r w1, d.target = .collected r ∧ (Instr.takeDeferred r).run P w = .ok [] w1 ∧ MarksOff P ds w1 w'
theorem marks_steps {P : Program} {F : Fence} {n : Nat} : ∀ (ds : List Deferred) (w w' : World) (fr : Frame) (cs : List Frame), fr.mode = .returning → fr.defers = ds → F.fn fr.fn → F.room (cs.length + 1 + n) → MarksOff P ds w w' →
  StepsIn (Machine.fenced P F) P (lone fr cs w) (lone { fr with defers := [] } cs w')
 | [], w, w', fr, cs, _, hd, _, _, h => by
  have e : ({ fr with defers := [] } : Frame) = fr := by rw [← hd]
  have h : w' = w := h
  rw [e, h]
  exact StepsIn.refl _
 | d :: ds, w, w', fr, cs, hm, hd, hb, hr, h => by
  obtain ⟨r, w1, ht, hk, hrest⟩ := h
  have h1 := step_collected (cs := cs) (by rw [hm]; simp) hd ht hk
  have i1 : (lone fr cs w).fenced P F := fenced_out hb hr (by rw [hm]; simp) hd (fun g hg => by rw [ht] at hg; simp [Target.leads] at hg)
  have h2 := marks_steps (F := F) (n := n) ds w1 w' { fr with defers := [] ++ ds } cs hm rfl hb hr hrest
  exact .head i1 h1 h2
def postDM (P : Program) (fn : Func) (R : Ending → World → Prop) : Exit → Act → World → Prop
 | .normal, a, w | .ret, a, w => ∃ w', MarksOff P a.defers w w' ∧ ∃ v, (results fn a.tmps).run P w' = .ok v w' ∧ R (.returned v) w'
 | _, _, _ => False
theorem callsDIn_of_marks {P : Program} {F : Fence} {n : Nat} {f : FuncId} {fn : Func} {c : Code} {args : Array Value} {u : FrameMode} {w : World} {R : Ending → World → Prop}
  (hf : P.funcs[f]? = some fn) (hb : fn.body = some c) (hF : F.fn f)
  (h : c.wpIn F n P (postDM P fn R) { tmps := args ++ Array.replicate (fn.ntmps - args.size) undef, defers := [] } w) (hro : F.round = none := by rfl) :
  CallsDIn F n P f args u w fun e u' w' => u' = u ∧ R e w' := by
 refine ⟨hF, fun c₀ cs hu hr => ?_⟩
 let b : Frame := { (default : Frame) with fn := f, kind := .deferred, roundOf := none }
 have henter : Frame.enter P f args .deferred =
   b.atR { tmps := args ++ Array.replicate (fn.ntmps - args.size) undef, defers := [] } [.code c] := by
  simp [Frame.enter, Frame.atR, hf, hb, b]
 have hc : ({ c₀ with mode := u } : Frame) = c₀ := by subst hu; rfl
 obtain ⟨e, a', w', hq, harr⟩ := h b [] (c₀ :: cs) hro.symm hF hr
 rw [← henter] at harr
 cases e with
 | normal =>
  obtain ⟨w2, hM, v, hr', hR⟩ := hq
  have hs := marks_steps (F := F) (n := n) a'.defers w' w2 { b.atR a' [] with mode := .returning } (c₀ :: cs) rfl rfl hF hr hM
  exact ⟨.returned v, u, w2, _, ⟨rfl, hR⟩, (by rw [hc]; exact StepsIn.trans (StepsIn.trans harr (.one (fenced_calm (fr := b.atR a' []) hF hr rfl) (stepR_end rfl))) hs), rfl, rfl, rfl, rfl, fn, hf, hr'⟩
 | ret =>
  obtain ⟨w2, hM, v, hr', hR⟩ := hq
  obtain ⟨todo, hs0⟩ := harr.1 rfl
  have hs := marks_steps (F := F) (n := n) a'.defers w' w2 { b.atR a' todo with mode := .returning } (c₀ :: cs) rfl rfl hF hr hM
  exact ⟨.returned v, u, w2, _, ⟨rfl, hR⟩, (by rw [hc]; exact StepsIn.trans hs0 hs), rfl, rfl, rfl, rfl, fn, hf, hr'⟩
 | panic chain => exact hq.elim
 | exit id => exact hq.elim
 | goto l => exact hq.elim
 | outgrown => exact hq.elim
def undoC (S : Vm × List Sp × Int) (x : RnT) : Vm × List Sp × Int :=
 let J := bec S.1 x.1 x.2.1 3 2 1
 if J.1 ≠ 0 then (J.2, setOf (S.2.1 ++ [(x.2.2, x.2.1)]), S.2.2 - x.2.1) else (J.2, S.2.1, S.2.2)
def comL : List RnT → List RnT → Vm → Int × Vm × List RnT
 | [], d, V => (0, V, d)
 | x :: r, d, V => let J := bec V x.1 x.2.1 2 1 2; if J.1 ≠ 0 then (J.1, J.2, d) else comL r (d ++ [x]) J.2
def growC (V : Vm) (L : List Nd) (r : Cr) (tt : Int) : Cr × Int × Vm × List Nd :=
 if chkCm r ≠ 0 then (r, chkCm r, V, L)
 else if r.cl = true then (r, 9, V, L)
 else if tt < r.live ∨ usC r < tt then (r, 7, V, L)
 else
  let more := commonF (belC r.live tt) (gapsF r.kept (0, 1024))
  let c := chargeB L r.node.toNat (sumS more)
  if c.1 ≠ 0 then (r, c.1, V, c.2)
  else
   let C := comL (runsC more 0 (runsL r.pg r.n r.f r.bk r.ev)) [] V
   if C.1 = 0 then ({ r with live := tt, kept := commonF r.kept (gapsF (belC 0 tt) (0, 1024)) }, 0, C.2.1, c.2)
   else
    let U := C.2.2.reverse.foldl undoC (C.2.1, r.kept, sumS more)
    ({ r with kept := U.2.1 }, C.1, U.1, (giveB c.2 r.node.toNat U.2.2).2)
def UnT (bs g8 gm k : Nat) : Prop := k = bs ∨ k = g8 ∨ k = gm
structure UnTo (bs g8 gm : Nat) (r : Cr) (S : Vm × List Sp × Int) (w w' : World) : Prop where
 sys : SysIs w' bs S.1
 cr : CrAt w' g8 { r with kept := S.2.1 }
 many : Blk w' gm 3 #[.int .i64 S.2.2]
 far : Far (UnT bs g8 gm) w w'
end Go.Pol
namespace Go.Proofs.YtjmmgoijnhnnaaaGreat
open Go Go.Proofs Go.RowKit Go.Pol Go.Shelf
attribute [local go_sem] Oper.semAt_some Go.Pol.wide_fn Go.Pol.wide_depth Go.Pol.wide_fn' Go.Pol.wide_depth'
set_option maxRecDepth 100000 in
set_option maxHeartbeats 3200000 in
theorem undo1_any (bs g4 gx g8 gm : Nat) (V : Vm) (r : Cr) (m : Int) (x : RnT) (w : World) (hV : SysIs w bs V) (k4 : Blk w g4 44 #[.pointer (some ⟨bs, 0, none⟩)]) (kx : Blk w gx 137 (rnTC x)) (hc : CrAt w g8 r) (km : Blk w gm 3 #[.int .i64 m]) (hC : Go.Pol.Can r.kept) (hx : vld (x.2.2, x.2.1) = true) (hm : -5000 ≤ m ∧ m ≤ 5000) :
  Calls Tryz.prog 60 #[.pointer (some ⟨g4, 0, none⟩), .pointer (some ⟨gx, 0, none⟩), .pointer (some ⟨g8, 0, none⟩), .pointer (some ⟨gm, 0, none⟩)] w fun e w' => e = .returned (.tuple #[]) ∧ UnTo bs g8 gm r (undoC (V, r.kept, m) x) w w' := by
 obtain ⟨xa, xb, xn⟩ := x
 obtain ⟨R, hR⟩ : ∃ R, undoC (V, r.kept, m) (xa, xb, xn) = R := ⟨_, rfl⟩
 rw [hR]
 unfold undoC at hR
 simp only at hR hx
 have hvx := vld_iff.1 hx
 simp only at hvx
 have HD := Lib.hid (fun W h => decommit_any bs xa xb V W h)
 obtain ⟨J, hJ⟩ : ∃ J, bec V xa xb 3 2 1 = J := ⟨_, rfl⟩
 rw [hJ] at hR HD
 obtain ⟨je, jV⟩ := J
 simp only at hR HD
 obtain ⟨pg, n, f, bk, ev, node, live, K, cl⟩ := r
 obtain ⟨A, cap, k8, hk, hl, hcm⟩ := hc.ex
 simp only at hR k8 hk hl hC
 obtain ⟨kl, hkl0⟩ : ∃ kl, K.length = kl := ⟨_, rfl⟩
 have hkl := Lib.hid hkl0
 rw [hkl0] at k8 hl
 have hwm : IntKind.i64.wrap (m - xb) = m - xb := by rw [IntKind.wrap_i64]; omega
 dsimp only [rnTC] at kx
 have c4 := k4.cell
 have cx := kx.cell
 clear hJ hc hkl0
 by_cases h0 : je = 0
 ·subst h0
  rw [if_neg (by simp)] at hR
  subst hR
  go_enter Tryz.func60, Tryz.ntmps60
  go_wp2_with fail
  refine (HD.out _ hV).mono ?_
  rintro e w1 ⟨rfl, h1⟩
  go_wp2_with fail
  go_end0
  exact ⟨rfl, h1.1, ⟨A, cap, by simp only; rw [hkl.out]; exact h1.blk hV k8 (by decide), hk.far h1.2 (fun g cs hg e => by have e : g = bs := e; subst e; obtain ⟨es, he⟩ := hV.typed; exact hg.ne he (by decide)), by simp only; rw [hkl.out]; exact hl, hcm⟩, h1.blk hV km (by decide), h1.2.mono (fun _ _ h => .inl h)⟩
 have h0' : (je != 0) = true := by simpa using h0
 rw [if_pos h0] at hR
 subst hR
 clear h0
 have HU := Lib.hid (fun W A2 h h2 => unionY_any A A2 kl cap 1 1 K [(xn, xb)] W hkl.out hl hcm h rfl (Nat.le_refl _) (by unfold maxLen; omega) h2 hC (Can.one hx))
 unfold SpansY at HU
 generalize setOf (K ++ [(xn, xb)]) = K2 at *
 go_enter Tryz.func60, Tryz.ntmps60
 go_wp2_with fail
 refine (HD.out _ hV).mono ?_
 rintro e w1 ⟨rfl, h1⟩
 have k81 := h1.blk hV k8 (by decide)
 have kx1 := h1.blk hV kx (by decide)
 have km1 := h1.blk hV km (by decide)
 have hk1 := hk.far h1.2 (fun g cs hg e => by have e : g = bs := e; subst e; obtain ⟨es, he⟩ := hV.typed; exact hg.ne he (by decide))
 go_upto_region 1 with fail
 have hbd := (Below.refl w1.heap.size w1).drew
 have T2 := h1.thenBelow hbd
 have k82 := k81.call hbd
 have kx2 := kx1.call hbd
 have km2 := km1.call hbd
 have hk2 := hk1.call hbd
 refine wp_noPanic ?_
 refine wp_region_T (MnS g8 (.slice A kl cap) gx (.int .i64 xa) (.int .i64 xb) (.int .i64 xn)) [6, 7, 8, 9] (by kernel_rfl) ?_
 generalize w1.drew = wd at *
 have hS : MnS g8 (.slice A kl cap) gx (.int .i64 xa) (.int .i64 xb) (.int .i64 xn) wd := ⟨k82.cell 7, kx2.cell 0, kx2.cell 1, kx2.cell 2⟩
 clear k81 kx1 km1 hk1 k8 kx km hk h1 c4 cx HD hbd
 refine tkQ 0 hS ?_
 try simp only [Act.put, qsA, qsB, qsC]
 refine tkQ 1 hS ?_
 try simp only [Act.put, qsA, qsB, qsC]
 refine tkQ 2 hS ?_
 try simp only [Act.put, qsA, qsB, qsC]
 refine tkR 3 fun K hK => ?_
 go_simp
 refine ((numbers_any xa xb xn wd)).mono ?_
 rintro (e w4 ⟨g4', rfl, hru4, hg4, hb4⟩)
 refine hK.out _ _ (fun _ => hS.call hb4) (fun hS => ?_)
 clear hK K
 replace hS := hS rfl
 try simp only [Act.put, qsA, qsB, qsC]
 have HU4 := Lib.hid (HU.out w4 _ (hk2.call hb4).ru hru4)
 refine tkR 4 fun K hK => ?_
 go_simp
 refine (HU4.out).mono ?_
 rintro (e w5 ⟨A5, c5, rfl, hk5, hl5, hcm5, hb5⟩)
 refine hK.out _ _ (fun _ => hS.call hb5) (fun hS => ?_)
 clear hK K
 replace hS := hS rfl
 try simp only [Act.put, qsA, qsB, qsC]
 have hb45 := hb4.trans (hb5.mono hb4.size)
 have T5 := T2.thenBelow hb45
 have k85 := k82.call hb45
 have kx5 := kx2.call hb45
 have km5 := km2.call hb45
 refine tkQ 5 hS ?_
 try simp only [Act.put, qsA, qsB, qsC]
 refine tkV 6 ?_
 try simp only [Act.put, qsA, qsB, qsC]
 refine tkV 7 ?_
 try simp only [Act.put, qsA, qsB, qsC]
 refine tkV 8 ?_
 try simp only [Act.put, qsA, qsB, qsC]
 have c85 := k85.cell
 have f85 := k85.frozen
 refine tkR 9 fun K hK => ?_
 go_simp
 refine hK.out _ _ (fun h => absurd h (by decide)) (fun _ => ?_)
 clear hK
 refine wpAnyT_done (by kernel_rfl) ?_ _
 refine noPanic_normal ?_
 have hne : gm ≠ g8 := fun e => by subst e; exact km5.ne k85 (by decide)
 have hnx : gx ≠ g8 := fun e => by subst e; exact kx5.ne k85 (by decide)
 have hnm : g8 ≠ gm := fun e => hne e.symm
 have F6 : Far (fun k => k = g8 ∨ k = gm) w5 ((w5.setCell ⟨g8, 7, none⟩ (.slice A5 K2.length c5))) := Far.setCell (T := fun k => k = g8 ∨ k = gm) (p := ⟨g8, 7, none⟩) (Far.refl _ w5) (fun _ => .inl rfl) _
 have k86 := k85.set_ 7 (.slice A5 K2.length c5)
 have kx6 := kx5.far (p := ⟨g8, 7, none⟩) hnx (.slice A5 K2.length c5)
 have km6 := km5.far (p := ⟨g8, 7, none⟩) hne (.slice A5 K2.length c5)
 generalize w5.setCell ⟨g8, 7, none⟩ (.slice A5 K2.length c5) = w6 at *
 simp only [List.setIfInBounds_toArray, List.set_cons_zero, List.set_cons_succ] at k86
 have cx6 := kx6.cell
 have cm6 := km6.cell
 have fm6 := km6.frozen
 clear hS c85 f85
 go_wp2_with fail
 go_end0
 have F7 : Far (fun k => k = g8 ∨ k = gm) w5 (w6.setCell ⟨gm, 0, none⟩ (.int .i64 (m - xb))) := Far.setCell (T := fun k => k = g8 ∨ k = gm) (p := ⟨gm, 0, none⟩) F6 (fun _ => .inr rfl) _
 refine ⟨rfl, ?_, ⟨A5, c5, k86.far (p := ⟨gm, 0, none⟩) hnm _, hk5.far F7 (fun g cs hg e => by rcases e with rfl | rfl; exact k85.ne hg (by decide); exact km5.ne hg (by decide)), hl5, hcm5⟩, km6.set_ 0 (.int .i64 (m - xb)), (T5.2.mono (fun _ _ h => .inl h)).trans (F7.mono (fun _ _ h => .inr h))⟩
 obtain ⟨es, he⟩ := T5.1.typed
 exact T5.1.far F7 (fun e => by rcases e with rfl | rfl; exact k85.ne he (by decide); exact km5.ne he (by decide)) (fun _ _ _ _ _ _ _ _ _ _ ⟨_, hr⟩ e => by rcases e with rfl | rfl; exact k85.ne hr (by decide); exact km5.ne hr (by decide))
end Go.Proofs.YtjmmgoijnhnnaaaGreat
namespace Go.Pol
open Go Go.RowKit
theorem SysIs.soft {N b : Nat} {V : Vm} {A B : World} (h : SysIs A b V) (hs : Soft N A B) : SysIs B b V := by
 obtain ⟨T, hF, _, hB⟩ := hs
 obtain ⟨cs, hc⟩ := h.typed
 exact h.far hF (hB _ _ _ hc) (fun _ _ _ _ _ _ _ _ _ _ ⟨_, hr⟩ => hB _ _ _ hr)
theorem BudIs.soft {N b : Nat} {L : List Nd} {A B : World} (h : BudIs A b L) (hs : Soft N A B) : BudIs B b L := by
 obtain ⟨T, hF, _, hB⟩ := hs
 obtain ⟨A', cap, k, _⟩ := h.ex
 exact h.far hF (hB _ _ _ k) (fun k ⟨_, _, hd⟩ => hB _ _ _ hd)
theorem Far.soft {N : Nat} {T : Nat → Prop} {w A B : World} (h : Far T w A) (hN : w.heap.size ≤ N) (hs : Soft N A B) : Far T w B := by
 obtain ⟨T', hF, hT, _⟩ := hs
 exact h.trans' hF (fun i hi ht => absurd (hT i ht) (by omega))
theorem undo_len_ok {S : Vm × List Sp × Int} {x : RnT} (hx : vld (x.2.2, x.2.1) = true) (hk : Can S.2.1) (_ : x.2.1 ≤ S.2.2) (h1 : S.2.2 ≤ 5000) :
  Can (undoC S x).2.1 ∧ S.2.2 - x.2.1 ≤ (undoC S x).2.2 ∧ (undoC S x).2.2 ≤ 5000 := by
 have hv := vld_iff.1 hx
 simp only at hv
 unfold undoC
 dsimp only
 split
 ·exact ⟨setOf_can _, Int.le_refl _, by show S.2.2 - x.2.1 ≤ 5000; omega⟩
 ·exact ⟨hk, by show S.2.2 - x.2.1 ≤ S.2.2; omega, h1⟩
def sumRn (l : List RnT) : Int := (l.map (·.2.1)).sum
theorem undo_fold : ∀ (l : List RnT) (S : Vm × List Sp × Int), (∀ x ∈ l, vld (x.2.2, x.2.1) = true) → Can S.2.1 → sumRn l ≤ S.2.2 → S.2.2 ≤ 5000 →
  Can (l.foldl undoC S).2.1 ∧ S.2.2 - sumRn l ≤ (l.foldl undoC S).2.2 ∧ (l.foldl undoC S).2.2 ≤ 5000
 | [], S, _, h1, _, h3 => ⟨h1, by simp [sumRn], h3⟩
 | x :: l, S, hv, h1, h2, h3 => by
  have hs : sumRn (x :: l) = x.2.1 + sumRn l := by simp [sumRn]
  have hx := hv x (by simp)
  have hp : ∀ l' : List RnT, (∀ y ∈ l', vld (y.2.2, y.2.1) = true) → 0 ≤ sumRn l' := fun l' => by
   induction l' with
   | nil => intro _; simp [sumRn]
   | cons y l' ih =>
    intro h
    have := (vld_iff.1 (h y (by simp))).2.2.1
    have h2 := ih (fun z hz => h z (by simp [hz]))
    simp only [sumRn, List.map_cons, List.sum_cons] at h2 ⊢
    simp only at this
    omega
  have hl := hp l (fun y hy => hv y (by simp [hy]))
  have h := undo_len_ok (S := S) (x := x) hx h1 (by omega) h3
  have h' := undo_fold l (undoC S x) (fun y hy => hv y (by simp [hy])) h.1 (by omega) h.2.2
  refine ⟨h'.1, ?_, h'.2.2⟩
  have := h'.2.1
  simp only [List.foldl_cons]
  omega
theorem sumRn_append (a b : List RnT) : sumRn (a ++ b) = sumRn a + sumRn b := by simp [sumRn]
theorem sumRn_rev (a : List RnT) : sumRn a.reverse = sumRn a := by
 unfold sumRn
 rw [List.map_reverse, List.sum_reverse]
theorem sumRn_pos : ∀ l : List RnT, (∀ y ∈ l, vld (y.2.2, y.2.1) = true) → 0 ≤ sumRn l
 | [], _ => by simp [sumRn]
 | y :: l, h => by
  have h1 := (vld_iff.1 (h y (by simp))).2.2.1
  have h2 := sumRn_pos l (fun z hz => h z (by simp [hz]))
  have hs : sumRn (y :: l) = y.2.1 + sumRn l := by simp [sumRn]
  simp only at h1
  omega
theorem mem_backL {fv : Nat → Value} : ∀ {n : Nat} {x : IxV}, x ∈ backL fv n → x.1 < n ∧ x.2 = fv x.1
 | 0, _, h => by cases h
 | n + 1, x, h => by
  rcases List.mem_cons.1 h with rfl | h
  ·exact ⟨Nat.lt_succ_self _, rfl⟩
  ·have := mem_backL h
   exact ⟨by omega, this.2⟩
theorem backL_runs (fv : Nat → Value) (d : List RnT) : ∀ n, n ≤ d.length → (backL fv n).map (fun x => d.getD x.1 rnT0) = (d.take n).reverse
 | 0, _ => by simp [backL]
 | n + 1, h => by
  rw [backL, List.map_cons, backL_runs fv d n (by omega), z_take rnT0 d (by omega), List.reverse_append]
  rfl
theorem undo_pre {fv : Nat → Value} {d : List RnT} {n : Nat} {pre : List IxV} {V : Vm} {K : List Sp} {m : Int} (hn : d.length = n) (hp : pre <+: backL fv n) (hv : ∀ x ∈ d, vld (x.2.2, x.2.1) = true) (hC : Can K) (hs : sumRn d ≤ m) (hm : m ≤ 5000) :
  Can ((pre.map (fun x => d.getD x.1 rnT0)).foldl undoC (V, K, m)).2.1 ∧ 0 ≤ ((pre.map (fun x => d.getD x.1 rnT0)).foldl undoC (V, K, m)).2.2 ∧ ((pre.map (fun x => d.getD x.1 rnT0)).foldl undoC (V, K, m)).2.2 ≤ 5000 := by
 have hr := backL_runs fv d n (by omega)
 rw [List.take_of_length_le (by omega)] at hr
 have hq := hp.map (fun x : IxV => d.getD x.1 rnT0)
 rw [hr] at hq
 generalize pre.map (fun x => d.getD x.1 rnT0) = l at *
 have hvl : ∀ x ∈ l, vld (x.2.2, x.2.1) = true := fun x hx => hv x (List.mem_reverse.1 (hq.subset hx))
 obtain ⟨t, ht⟩ := hq
 have h1 := sumRn_rev d
 rw [← ht, sumRn_append] at h1
 have h2 := sumRn_pos t (fun x hx => hv x (List.mem_reverse.1 (by rw [← ht]; exact List.mem_append_right _ hx)))
 have h := undo_fold l (V, K, m) hvl hC (by show sumRn l ≤ m; omega) hm
 refine ⟨h.1, ?_, h.2.2⟩
 have := h.2.1
 simp only at this
 omega
end Go.Pol
namespace Go.Proofs.YtjmmgoijnhnnaaaGreat
open Go Go.Proofs Go.RowKit Go.Pol Go.Shelf
attribute [local go_sem] Oper.semAt_some Go.Pol.wide_fn Go.Pol.wide_depth Go.Pol.wide_fn' Go.Pol.wide_depth'
def unV (g4 g8 gm b : Nat) : Value := .func (.func 60) #[] #[.pointer (some ⟨g4, 0, none⟩), .pointer (some ⟨b, 0, none⟩), .pointer (some ⟨g8, 0, none⟩), .pointer (some ⟨gm, 0, none⟩)]
set_option maxRecDepth 100000 in
set_option maxHeartbeats 1600000 in
theorem grow1Ok_any (ge gu g5 g6 gm nn : Nat) (u : FrameMode) (w : World) (ke : Blk w ge 36 #[.int .i64 0]) :
  CallsDIn Fence.wide nn Tryz.prog 55 #[.pointer (some ⟨ge, 0, none⟩), .pointer (some ⟨gu, 0, none⟩), .pointer (some ⟨g5, 0, none⟩), .pointer (some ⟨g6, 0, none⟩), .pointer (some ⟨gm, 0, none⟩)] u w fun e u' w' => u' = u ∧ e = .returned (.tuple #[]) ∧ w' = w := by
 have ce := ke.cell
 refine callsDIn_of_marks (R := fun e w' => e = .returned (.tuple #[]) ∧ w' = w) Tryz.func55 rfl trivial (wpIn_wide.2 ?_)
 simp only [Tryz.ntmps55, List.size_toArray, List.length_cons, List.length_nil, Nat.reduceAdd, Nat.reduceSub, Array.replicate_succ, Array.replicate_zero, List.push_toArray, List.append_toArray, List.nil_append, List.cons_append]
 go_wp2_with fail
 exact ⟨w, rfl, _, results_none rfl _ _ _, rfl, rfl⟩
set_option maxRecDepth 100000 in
set_option maxHeartbeats 3200000 in
theorem grow1_any (bs bb ge gu g4 g5 g6 g8 gm nn nd : Nat) (V : Vm) (L : List Nd) (rr rN : Cr) (sv : Value) (many er : Int) (done : List RnT) (bx : Nat → Nat) (Au : Option Addr) (n cap : Nat) (u : FrameMode) (w : World)
  (her : er ≠ 0) (hV : SysIs w bs V) (hB : BudIs w bb L) (hO : BudOk L) (hnl : nd < L.length) (ke : Blk w ge 36 #[.int .i64 er]) (ku : Blk w gu 129 #[.slice Au n cap]) (hn : done.length = n) (hn1 : n ≤ 1000000)
  (hfn : FnAt w Au (fun k => ∃ o, Au = some ⟨k, o, none⟩) (fun i => unV g4 g8 gm (bx i)) n) (hty : ∀ g o, Au = some ⟨g, o, none⟩ → ∃ cs, Blk w g 1 cs)
  (k4 : Blk w g4 44 #[.pointer (some ⟨bs, 0, none⟩)]) (k5 : Blk w g5 45 #[.pointer (some ⟨bb, 0, none⟩)]) (k6 : Blk w g6 43 (crC rr sv)) (hnd : rr.node = nd) (h68 : g6 ≠ g8)
  (hx : ∀ i, i < n → Blk w (bx i) 137 (rnTC (done.getD i rnT0))) (hc : CrAt w g8 rN) (km : Blk w gm 3 #[.int .i64 many]) (hvd : ∀ x ∈ done, vld (x.2.2, x.2.1) = true) (hC : Go.Pol.Can rN.kept) (hs : sumRn done ≤ many) (hm : many ≤ 5000) :
  CallsDIn Fence.wide nn Tryz.prog 55 #[.pointer (some ⟨ge, 0, none⟩), .pointer (some ⟨gu, 0, none⟩), .pointer (some ⟨g5, 0, none⟩), .pointer (some ⟨g6, 0, none⟩), .pointer (some ⟨gm, 0, none⟩)] u w fun e u' w' => u' = u ∧ e = .returned (.tuple #[]) ∧
   SysIs w' bs (done.reverse.foldl undoC (V, rN.kept, many)).1 ∧ BudIs w' bb (giveB L nd (done.reverse.foldl undoC (V, rN.kept, many)).2.2).2 ∧ CrAt w' g8 { rN with kept := (done.reverse.foldl undoC (V, rN.kept, many)).2.1 } ∧ Far (fun k => UnT bs g8 gm k ∨ NdT bb w k) w w' := by
 have ce := ke.cell
 have cu := ku.cell
 have her' : (er == 0) = false := by simpa using her
 have kB := Blk.new w 129 #[.slice Au n cap]
 have hb1 := (Below.refl w.heap.size w).alloc (Nat.le_refl _) (.cells #[.slice Au n cap] 129)
 have HBk := Lib.hid (backward_any Au n cap w)
 refine callsDIn_of_marks (R := fun e w' => e = .returned (.tuple #[]) ∧ SysIs w' bs (done.reverse.foldl undoC (V, rN.kept, many)).1 ∧ BudIs w' bb (giveB L nd (done.reverse.foldl undoC (V, rN.kept, many)).2.2).2 ∧ CrAt w' g8 { rN with kept := (done.reverse.foldl undoC (V, rN.kept, many)).2.1 } ∧ Far (fun k => UnT bs g8 gm k ∨ NdT bb w k) w w') Tryz.func55 rfl trivial (wpIn_wide.2 ?_)
 simp only [Tryz.ntmps55, List.size_toArray, List.length_cons, List.length_nil, Nat.reduceAdd, Nat.reduceSub, Array.replicate_succ, Array.replicate_zero, List.push_toArray, List.append_toArray, List.nil_append, List.cons_append]
 go_wp2_with (go_at_call 56; refine HBk.out.mono ?_; rintro e w1 ⟨rfl, hw1⟩)
 rw [← hw1] at kB hb1 ⊢
 obtain ⟨B1, hB1⟩ : ∃ B1, w.heap.size = B1 := ⟨_, rfl⟩
 rw [hB1] at kB
 simp only [hB1]
 have hseq := backward1_seq 140 B1 Au n cap (fun i => unV g4 g8 gm (bx i)) (fun k => k = B1 ∨ ∃ o, Au = some ⟨k, o, none⟩) w1 (.inl rfl) hn1 kB (fun i hi => by
  obtain ⟨g, e, hg, hcell⟩ := hfn i hi
  exact ⟨g, e, .inr ⟨0, e⟩, ((Far.of_below (T := fun _ => False) hb1).cell hcell id)⟩)
 have hB1w : B1 < w1.heap.size := kB.lt
 refine rangeB (by rfl) backward1_enters hseq (fun _ => rfl) (fun k hk => by
   rcases hk with rfl | ⟨o, e⟩
   ·exact hB1w
   ·obtain ⟨cs, hcs⟩ := hty k o e
    exact (hcs.call hb1).lt)
  (fun pre W => ∃ S, Hid ((pre.map (fun x => done.getD x.1 rnT0)).foldl undoC (V, rN.kept, many) = S) ∧ SysIs W bs S.1 ∧ BudIs W bb L ∧ CrAt W g8 { rN with kept := S.2.1 } ∧ Blk W gm 3 #[.int .i64 S.2.2] ∧ Far (UnT bs g8 gm) w W ∧
   Blk W g4 44 #[.pointer (some ⟨bs, 0, none⟩)] ∧ Blk W g5 45 #[.pointer (some ⟨bb, 0, none⟩)] ∧ Blk W g6 43 (crC rr sv) ∧ (∀ i, i < n → Blk W (bx i) 137 (rnTC (done.getD i rnT0))) ∧ (∃ cs, Blk W B1 129 cs) ∧ (∀ g o, Au = some ⟨g, o, none⟩ → ∃ cs, Blk W g 1 cs))
  (fun _ _ _ => False) ?hI (fun _ _ _ _ h _ => h.elim) ?h0
  (fun x a' _ => a' = { tmps := #[.pointer (some ⟨ge, 0, none⟩), .pointer (some ⟨gu, 0, none⟩), .pointer (some ⟨g5, 0, none⟩), .pointer (some ⟨g6, 0, none⟩), .pointer (some ⟨gm, 0, none⟩), undef, x.2, .int .i64 er, .bool false, .slice Au n cap, .func (.func 123) #[] #[.pointer (some ⟨B1, 0, none⟩)], .int .i64 x.1, x.2, undef, undef, undef, undef, undef, undef, undef], defers := [] })
  (fun _ _ _ _ h _ => h) ?assign ?body ?done (fun _ _ _ _ _ h _ => h.elim)
 case h0 =>
  obtain ⟨q, cq, h1, h2, h3, h4⟩ := hc.ex
  exact ⟨_, Lib.hid rfl, hV.call hb1, hB.call hb1, hc.call hb1, km.call hb1, .of_below hb1, k4.call hb1, k5.call hb1, k6.call hb1, fun i hi => (hx i hi).call hb1, ⟨_, kB⟩, fun g o e => (hty g o e).imp fun cs h => h.call hb1⟩
 case hI =>
  rintro pre WA WB ⟨S, h1, h2, h3, h4, h5, h6, h7, h8, h9, h10, ⟨c11, h11⟩, h12⟩ hsf
  exact ⟨S, h1, h2.soft hsf, h3.soft hsf, h4.soft hsf, hsf.blk h5, Far.soft h6 hb1.size hsf, hsf.blk h7, hsf.blk h8, hsf.blk h9, fun i hi => hsf.blk (h10 i hi), ⟨c11, hsf.blk h11⟩, fun g o e => (h12 g o e).imp fun cs h => hsf.blk h⟩
 case assign =>
  intro mm l x W C hC
  obtain ⟨xi, xv⟩ := x
  have hC2 := hC _ W (Below.refl _ _) rfl
  simp [bkA] at hC2 ⊢
  gi_wp2
  exact hC2
 case body =>
  rintro mm l X pre x a' W hs2 hX hD hE ⟨S, hS, V1, B1', hc1, km1, hF1, k41, k51, k61, hx1, ⟨c11, kB1⟩, hty1⟩ rfl hpre
  obtain ⟨hxi, hxv⟩ := mem_backL (hpre.subset (by simp : x ∈ pre ++ [x]))
  obtain ⟨xi, xv⟩ := x
  simp only at hxi hxv
  subst hxv
  have hup := undo_pre (V := V) hn ((List.prefix_append pre _).trans hpre) hvd hC hs hm
  rw [hS.out] at hup
  have hst : Hid (((pre ++ [(xi, unV g4 g8 gm (bx xi))]).map (fun x => done.getD x.1 rnT0)).foldl undoC (V, rN.kept, many) = undoC S (done.getD xi rnT0)) := Lib.hid (by rw [List.map_append, List.foldl_append, hS.out]; rfl)
  have hvx := hvd (done.getD xi rnT0) (by rw [List.getD_eq_getElem?_getD, List.getElem?_eq_getElem (by omega)]; exact List.getElem_mem _)
  have kx1 := hx1 xi hxi
  generalize done.getD xi rnT0 = xd at *
  obtain ⟨SV, Sk, Sm⟩ := S
  simp only at V1 hc1 km1 hup
  have HU := Lib.hid (undo1_any bs g4 (bx xi) g8 gm SV { rN with kept := Sk } Sm xd W V1 k41 kx1 hc1 km1 hup.1 hvx (by omega))
  simp only [unV]
  have noU : ∀ k t cs, Blk W k t cs → t ≠ 71 → (t = 43 → k ≠ g8) → t ≠ 3 → ¬ UnT bs g8 gm k := by
   intro k t cs hb h1 h2 h3 hz
   rcases hz with h | h | h
   ·subst h; obtain ⟨es, he⟩ := V1.typed; exact hb.ne he h1
   ·obtain ⟨q, cq, hq, _⟩ := hc1.ex
    by_cases e : t = 43
    ·exact h2 e h
    ·subst h; exact hb.ne hq e
   ·subst h; exact hb.ne km1 h3
  have noK : ∀ k, UnT bs g8 gm k → ¬ ((k = B1 ∨ ∃ o, Au = some ⟨k, o, none⟩) ∨ X k ∨ k = w1.heap.size ∨ k = w1.heap.size + 1) := by
   intro k hk hz
   have ⟨t, cs, hb, ht⟩ : ∃ t cs, Blk W k t cs ∧ (t = 71 ∨ t = 43 ∨ t = 3) := by
    rcases hk with rfl | rfl | rfl
    ·obtain ⟨es, he⟩ := V1.typed; exact ⟨_, es, he, .inl rfl⟩
    ·obtain ⟨q, cq, hq, _⟩ := hc1.ex; exact ⟨_, _, hq, .inr (.inl rfl)⟩
    ·exact ⟨_, _, km1, .inr (.inr rfl)⟩
   rcases hz with (h | ⟨o, h⟩) | h | h | h
   ·subst h; exact hb.ne kB1 (by rcases ht with rfl | rfl | rfl <;> decide)
   ·obtain ⟨cs', hc'⟩ := hty1 k o h; exact hb.ne hc' (by rcases ht with rfl | rfl | rfl <;> decide)
   ·obtain ⟨cs', hc'⟩ := hX k h; exact hb.ne hc' (by rcases ht with rfl | rfl | rfl <;> decide)
   ·subst h; exact hD _ _ hb
   ·subst h; exact hE _ _ hb
  have noUH := Lib.hid noU
  have noKH := Lib.hid noK
  clear noU noK hD hE hX
  gi_wp2_with fail
  refine (callsIn_wide.2 HU.out).mono ?_
  rintro e W2 ⟨rfl, hU⟩
  gi_wp2_with fail
  refine ⟨hU.far.mono (fun k _ h => noKH.out k h), _, hst, hU.sys, ?_, hU.cr, hU.many, hF1.trans hU.far, hU.far.blk k41 (noUH.out _ _ _ k41 (by decide) (fun h => absurd h (by decide)) (by decide)), hU.far.blk k51 (noUH.out _ _ _ k51 (by decide) (fun h => absurd h (by decide)) (by decide)), hU.far.blk k61 (noUH.out _ _ _ k61 (by decide) (fun _ => h68) (by decide)), fun i hi => hU.far.blk (hx1 i hi) (noUH.out _ _ _ (hx1 i hi) (by decide) (fun h => absurd h (by decide)) (by decide)), ⟨c11, hU.far.blk kB1 (noUH.out _ _ _ kB1 (by decide) (fun h => absurd h (by decide)) (by decide))⟩, fun g o e => (hty1 g o e).imp fun cs h => hU.far.blk h (noUH.out _ _ _ h (by decide) (fun h => absurd h (by decide)) (by decide))⟩
  obtain ⟨qb, cb, kb, _⟩ := B1'.ex
  exact B1'.far hU.far (noUH.out _ _ _ kb (by decide) (fun h => absurd h (by decide)) (by decide)) (fun k ⟨_, _, hd⟩ => noUH.out _ _ _ hd (by decide) (fun h => absurd h (by decide)) (by decide))
 case done =>
  rintro W hs2 ⟨S, hS, V1, B1', hc1, km1, hF1, k41, k51, k61, hx1, _, hty1⟩ hd
  have hup := undo_pre (V := V) hn (List.prefix_refl (backL (fun i => unV g4 g8 gm (bx i)) n)) hvd hC hs hm
  have hr := backL_runs (fun i => unV g4 g8 gm (bx i)) done n (by omega)
  rw [List.take_of_length_le (by omega)] at hr
  rw [hr] at hS hup
  rw [hS.out] at hup
  have hSH := Lib.hid hS.out
  obtain ⟨SV, Sk, Sm⟩ := S
  simp only at V1 hc1 km1 hup
  have HG := Lib.hid (giveB_any bb nd Sm L W B1' hO hnl)
  have hDw := hb1.size
  generalize w1.heap.size = D at *
  have c5 := k51.cell
  have cm := km1.cell
  obtain ⟨pg, nw, f, bk, ev, node, live, K, cl⟩ := rr
  simp only at hnd
  subst hnd
  dsimp only [crC] at k61
  have c6 := k61.cell
  go_wp2_with fail
  refine HG.out.mono ?_
  rintro e W2 ⟨rfl, h2⟩
  have S2 := BothTo.byBud V1 h2
  have hd1 : DfAt (some D) W := fun D' e => by cases e; exact hd
  have hd2 := hd1.both V1 S2
  have SF := hd2.soft (N := w.heap.size) hDw
  have FF : Far (fun k => UnT bs g8 gm k ∨ NdT bb w k) w W2 := (hF1.mono (fun _ _ h => .inl h)).trans' S2.far (fun i hi ht => by
   rcases ht with h | ⟨hbk, cs, hcs⟩
   ·exact .inl (.inl h)
   ·by_cases hU : UnT bs g8 gm i
    ·exact .inl hU
    ·exact .inr ⟨hbk, cs, (hF1.block i hi hU).symm.trans hcs⟩)
  have hc2 := hc1.both V1 S2
  go_wp2_with fail
  refine ⟨W2.putObj D (.deferred none), ⟨D, _, rfl, run_takeDeferred (hd2 _ rfl), rfl⟩, _, results_none rfl _ _ _, rfl, ?_⟩
  rw [hSH.out]
  exact ⟨S2.sys.soft SF, S2.bud.soft SF, hc2.soft SF, Far.soft FF (Nat.le_refl _) SF⟩
end Go.Proofs.YtjmmgoijnhnnaaaGreat
namespace Go.Pol
open Go Go.RowKit
theorem boxes5 (t1 t2 t3 t4 t5 : TypeId) (c1 c2 c3 c4 c5 : Array Value) (w : World) : ∃ w0 : World, w0 = ((((w.alloc (.cells c1 t1)).alloc (.cells c2 t2)).alloc (.cells c3 t3)).alloc (.cells c4 t4)).alloc (.cells c5 t5) ∧
  Below w.heap.size w w0 ∧ Blk w0 w.heap.size t1 c1 ∧ Blk w0 (w.heap.size + 1) t2 c2 ∧ Blk w0 (w.heap.size + 2) t3 c3 ∧ Blk w0 (w.heap.size + 3) t4 c4 ∧ Blk w0 (w.heap.size + 4) t5 c5 := by
 obtain ⟨w1, hw1, hs, hb, k1, k2, k3, k4⟩ := boxes4 t1 t2 t3 t4 c1 c2 c3 c4 w
 have k5 := Blk.new w1 t5 c5
 rw [hs] at k5
 exact ⟨w1.alloc (.cells c5 t5), by rw [hw1], below_alloc2 hb _, k1.alloc2 _, k2.alloc2 _, k3.alloc2 _, k4.alloc2 _, k5⟩
end Go.Pol
namespace Go.Pol
open Go Go.Proofs Go.RowKit
theorem makeF_cases (V : Vm) (a n : Int) (call : Nat) (pr : Pg → Bool) (fd : Pg → Pg) :
  ((makeF V a n call pr fd).1 ≠ 0 ∧ (makeF V a n call pr fd).2.pg = V.pg) ∨
  ((makeF V a n call pr fd).1 = 0 ∧ 0 ≤ a ∧ 1 ≤ n ∧ a + n ≤ 1024 ∧ (∀ p : Nat, a ≤ p → (p : Int) < a + n → pr (V.pg p) = true) ∧
   ∀ p : Nat, (makeF V a n call pr fd).2.pg p = if a ≤ p ∧ (p : Int) < a + n then fd (V.pg p) else V.pg p) := by
 unfold makeF
 by_cases h1 : n < 1 ∨ a < 0 ∨ 1024 ≤ a ∨ 1024 - a < n
 ·rw [if_pos h1]; exact .inl ⟨(by decide : (7 : Int) ≠ 0), rfl⟩
 ·rw [if_neg h1]
  by_cases h2 : allP V a.toNat n.toNat pr = false
  ·rw [if_pos h2]; exact .inl ⟨(by decide : (9 : Int) ≠ 0), rfl⟩
  ·rw [if_neg h2]
   rw [Bool.not_eq_false] at h2
   by_cases h3 : refB V.rf call = true
   ·rw [if_pos h3]; exact .inl ⟨(by decide : (60 : Int) ≠ 0), rfl⟩
   ·rw [if_neg h3]
    refine .inr ⟨rfl, by omega, by omega, by omega, fun p p1 p2 => allP_iff.1 h2 p (by omega) (by omega), fun p => ?_⟩
    show (if _ then _ else _) = _
    by_cases h4 : a ≤ p ∧ (p : Int) < a + n
    ·rw [if_pos h4, if_pos (by omega)]; rfl
    ·rw [if_neg h4, if_neg (by omega)]; rfl
end Go.Pol
namespace Go.Pol
open Go Go.RowKit
def kd (V : Vm) (p : Nat) : Int := (V.pg p).kind
def Apt (s : List Sp) : Prop := (∀ x ∈ s, 1 ≤ x.2) ∧ s.Pairwise (fun a b => a.1 + a.2 < b.1)
theorem formOk_apt : ∀ (s : List Sp) (e : Int), (∀ x ∈ s, 1 ≤ x.2) → (formOk e s = true ↔ (∀ x ∈ s, e < x.1) ∧ s.Pairwise (fun a b => a.1 + a.2 < b.1))
 | [], e, _ => by simp [formOk]
 | x :: s, e, h => by
  rw [formOk_cons, formOk_apt s (x.1 + x.2) (fun y hy => h y (by simp [hy])), List.pairwise_cons]
  constructor
  ·rintro ⟨h1, h2, h3⟩
   refine ⟨fun y hy => ?_, h2, h3⟩
   rcases List.mem_cons.1 hy with rfl | hy
   ·exact h1
   ·have := h2 y hy; have := h x (by simp); omega
  ·rintro ⟨h1, h2, h3⟩
   exact ⟨h1 x (by simp), h2, h3⟩
theorem Can.apt {s : List Sp} (h : Can s) : Apt s :=
 have hw : ∀ x ∈ s, 1 ≤ x.2 := fun x hx => (vld_iff.1 (h.1 x hx)).2.2.1
 ⟨hw, ((formOk_apt s (-1) hw).1 h.2).2⟩
theorem Can.sub {s t : List Sp} (h : Can s) (hs : t.Sublist s) : Can t := by
 have hv : ∀ x ∈ t, vld x = true := fun x hx => h.1 x (hs.subset hx)
 refine ⟨hv, (formOk_apt t (-1) (fun x hx => (vld_iff.1 (hv x hx)).2.2.1)).2 ⟨fun x hx => by have := (vld_iff.1 (hv x hx)).1; omega, h.apt.2.sublist hs⟩⟩
theorem mem_perm {s t : List Sp} (h : ∀ x, x ∈ s ↔ x ∈ t) (p : Int) : mem p s = mem p t := by
 rw [Bool.eq_iff_iff]
 unfold mem
 simp only [List.any_eq_true]
 exact ⟨fun ⟨x, hx, h1⟩ => ⟨x, (h x).1 hx, h1⟩, fun ⟨x, hx, h1⟩ => ⟨x, (h x).2 hx, h1⟩⟩
theorem bec_kd (V : Vm) (a n : Int) (call : Nat) (fr tk : Int) :
  ((bec V a n call fr tk).1 ≠ 0 ∧ ∀ p, kd (bec V a n call fr tk).2 p = kd V p) ∨
  ((bec V a n call fr tk).1 = 0 ∧ (∀ p : Nat, a ≤ p ∧ (p : Int) < a + n → kd V p = fr) ∧ ∀ p : Nat, kd (bec V a n call fr tk).2 p = if a ≤ p ∧ (p : Int) < a + n then tk else kd V p) := by
 rcases makeF_cases V a n call (fun g => g.kind == fr && !g.huge) (fun _ => newPg tk) with ⟨h1, h2⟩ | ⟨h1, _, _, _, h5, h6⟩
 ·exact .inl ⟨h1, fun p => by unfold kd bec; rw [h2]⟩
 ·refine .inr ⟨h1, fun p hp => ?_, fun p => ?_⟩
  ·have := h5 p hp.1 hp.2
   simp only [Bool.and_eq_true, beq_iff_eq] at this
   exact this.1
  ·unfold kd bec
   rw [h6 p]
   split <;> rfl
theorem undo_law (K : Nat → Int) : ∀ (d : List Sp) (L : List Sp) (U : Vm), Apt (d.reverse ++ L) → (∀ p : Nat, kd U p = if mem (p : Int) (d.reverse ++ L) = true then 3 else K p) → (∀ p : Nat, mem (p : Int) (d.reverse ++ L) = true → K p = 1) →
  ((d.foldl undoStep (L, U)).1.Sublist (d.reverse ++ L)) ∧ (∀ p : Nat, kd (d.foldl undoStep (L, U)).2 p = if mem (p : Int) (d.foldl undoStep (L, U)).1 = true then 3 else K p) ∧ ∀ p : Nat, mem (p : Int) (d.foldl undoStep (L, U)).1 = true → K p = 1
 | [], L, U, _, h2, h3 => ⟨List.Sublist.refl _, h2, h3⟩
 | x :: d, L, U, h1, h2, h3 => by
  rw [List.reverse_cons, List.append_assoc, List.singleton_append] at h1 h2 h3 ⊢
  rw [List.foldl_cons, show undoStep (L, U) x = (if (bec U x.1 x.2 4 3 1).1 = 0 then L else x :: L, (bec U x.1 x.2 4 3 1).2) from rfl]
  rcases bec_kd U x.1 x.2 4 3 1 with ⟨g1, g2⟩ | ⟨g1, g2, g3⟩
  ·rw [if_neg g1]
   exact undo_law K d (x :: L) _ h1 (fun p => by rw [g2 p]; exact h2 p) h3
  ·rw [if_pos g1]
   have hsub : (d.reverse ++ L).Sublist (d.reverse ++ x :: L) := List.Sublist.append (List.Sublist.refl _) (List.sublist_cons_self _ _)
   have hpm : ∀ p : Int, mem p (d.reverse ++ x :: L) = mem p (x :: (d.reverse ++ L)) := fun p => mem_perm (fun y => by simp only [List.mem_append, List.mem_cons, List.mem_reverse]; exact or_left_comm) p
   have hno : ∀ p : Int, x.1 ≤ p ∧ p < x.1 + x.2 → mem p (d.reverse ++ L) = false := fun p hp => by
    rw [Bool.eq_false_iff]
    intro hm
    unfold mem at hm
    obtain ⟨y, hy, hm⟩ := List.any_eq_true.1 hm
    have hm' : y.1 ≤ p ∧ p < y.1 + y.2 := by simpa using hm
    have hpw := List.pairwise_append.1 h1.2
    rcases List.mem_append.1 hy with hy | hy
    ·have := hpw.2.2 y hy x (by simp); omega
    ·have := (List.pairwise_cons.1 hpw.2.1).1 y hy; omega
   have ih := undo_law K d L (bec U x.1 x.2 4 3 1).2 ⟨fun y hy => h1.1 y (hsub.subset hy), h1.2.sublist hsub⟩ (fun p => by
    rw [g3 p]
    by_cases hp : x.1 ≤ (p : Int) ∧ (p : Int) < x.1 + x.2
    ·rw [if_pos hp, if_neg (by rw [hno _ hp]; simp)]
     exact (h3 p (by rw [hpm, mem_cons']; exact .inl hp)).symm
    ·rw [if_neg hp, h2 p, hpm, mem_cons]
     have : (decide (x.1 ≤ (p : Int)) && decide ((p : Int) < x.1 + x.2)) = false := by rw [Bool.eq_false_iff]; intro h; exact hp (by simpa using h)
     rw [this, Bool.false_or]) (fun p hp => h3 p (by rw [hpm, mem_cons']; exact .inr hp))
   exact ⟨ih.1.trans hsub, ih.2⟩
theorem plcL_law (K : Nat → Int) (G : List Sp) (hG : Apt G) : ∀ (r d : List Sp) (V : Vm), d.reverse ++ r = G → (∀ p : Nat, kd V p = if mem (p : Int) d = true then 3 else K p) → (∀ p : Nat, mem (p : Int) d = true → K p = 1) →
  ((plcL G d r V).1.Sublist G) ∧ (∀ p : Nat, kd (plcL G d r V).2.2 p = if mem (p : Int) (plcL G d r V).1 = true then 3 else K p) ∧ (∀ p : Nat, mem (p : Int) (plcL G d r V).1 = true → K p = 1) ∧ ((plcL G d r V).2.1 = 0 → (plcL G d r V).1 = G)
 | [], d, V, hd, h2, h3 => by
  have he : ∀ p : Int, mem p G = mem p d := fun p => mem_perm (fun y => by rw [← hd]; simp) p
  rw [plcL]
  exact ⟨List.Sublist.refl _, fun p => by rw [he]; exact h2 p, fun p hp => h3 p (by rw [← he]; exact hp), fun _ => rfl⟩
 | x :: r, d, V, hd, h2, h3 => by
  rw [plcL]
  rcases bec_kd V x.1 x.2 4 1 3 with ⟨g1, g2⟩ | ⟨g1, g2, g3⟩
  ·rw [if_neg g1]
   have hrev : ∀ p : Int, mem p (d.reverse ++ []) = mem p d := fun p => mem_perm (fun y => by simp) p
   have hsub : (d.reverse ++ ([] : List Sp)).Sublist G := by
    rw [← hd]; exact List.Sublist.append (List.Sublist.refl _) (List.nil_sublist _)
   have h := undo_law K d [] (bec V x.1 x.2 4 1 3).2 ⟨fun y hy => hG.1 y (hsub.subset hy), hG.2.sublist hsub⟩ (fun p => by rw [g2 p, hrev]; exact h2 p) (fun p hp => h3 p (by rw [← hrev]; exact hp))
   exact ⟨h.1.trans hsub, h.2.1, h.2.2, fun h => absurd h g1⟩
  ·rw [if_pos g1]
   refine plcL_law K G hG r (x :: d) _ (by rw [List.reverse_cons, List.append_assoc]; exact hd) (fun p => ?_) (fun p hp => ?_)
   ·rw [g3 p, mem_cons]
    by_cases hp : x.1 ≤ (p : Int) ∧ (p : Int) < x.1 + x.2
    ·rw [if_pos hp, if_pos (by simp [hp.1, hp.2])]
    ·have : (decide (x.1 ≤ (p : Int)) && decide ((p : Int) < x.1 + x.2)) = false := by rw [Bool.eq_false_iff]; intro h; exact hp (by simpa using h)
     rw [if_neg hp, h2 p, this, Bool.false_or]
   ·by_cases hm : mem (p : Int) d = true
    ·exact h3 p hm
    ·rcases mem_cons'.1 hp with h | h
     ·have h4 := g2 p h
      rw [h2 p, if_neg hm] at h4
      exact h4
     ·exact absurd h hm
theorem place_law (V : Vm) (ck : Int) (G : List Sp) (hG : ck = 0 → Can G) :
  Can (placeG V ck G).1 ∧ (∀ p : Nat, kd (placeG V ck G).2.2 p = if mem (p : Int) (placeG V ck G).1 = true then 3 else kd V p) ∧ (∀ p : Nat, mem (p : Int) (placeG V ck G).1 = true → kd V p = 1) ∧ ((placeG V ck G).2.1 = 0 → ck = 0 ∧ (placeG V ck G).1 = G) := by
 unfold placeG
 by_cases h : ck = 0
 ·rw [if_pos h]
  obtain ⟨h1, h2, h3, h4⟩ := plcL_law (kd V) G (hG h).apt G [] V rfl (fun p => by simp [mem_nil]) (fun p hp => by simp [mem_nil] at hp)
  exact ⟨(hG h).sub h1, h2, h3, fun he => ⟨h, h4 he⟩⟩
 ·rw [if_neg h]
  exact ⟨⟨fun x hx => (by cases hx), rfl⟩, fun p => by simp [mem_nil], fun p hp => by simp [mem_nil] at hp, fun he => absurd he h⟩
structure RunOf (m : Int) (L : List Sp) (x : RnT) : Prop where
 pos : 1 ≤ x.2.1
 lo : 0 ≤ x.1
 hi : x.1 + x.2.1 ≤ 1024
 nlo : m ≤ x.2.2
 nhi : x.2.2 + x.2.1 ≤ m + sumS L
 page : ∀ p, x.1 ≤ p → p < x.1 + x.2.1 → mem p L = true ∧ (idxF p m L).1 = x.2.2 + (p - x.1)
 num : ∀ p, mem p L = true → x.2.2 ≤ (idxF p m L).1 → (idxF p m L).1 < x.2.2 + x.2.1 → x.1 ≤ p ∧ p < x.1 + x.2.1
theorem idxF_rng : ∀ (L : List Sp) (m p : Int), (∀ u ∈ L, 1 ≤ u.2) → mem p L = true → m ≤ (idxF p m L).1 ∧ (idxF p m L).1 < m + sumS L
 | [], _, _, _, h => by cases h
 | u :: r, m, p, hw, h => by
  have hu := hw u (by simp)
  have hs : sumS (u :: r) = u.2 + sumS r := by simp [sumS]
  have hr : 0 ≤ sumS r := by
   have : ∀ l : List Sp, (∀ x ∈ l, 1 ≤ x.2) → 0 ≤ sumS l := fun l => by
    induction l with
    | nil => intro _; simp [sumS]
    | cons y l ih =>
     intro h
     have := h y (by simp)
     have := ih (fun z hz => h z (by simp [hz]))
     simp only [sumS, List.map_cons, List.sum_cons] at this ⊢
     omega
   exact this r (fun z hz => hw z (by simp [hz]))
  rw [idxF]
  by_cases hp : u.1 ≤ p ∧ p < u.1 + u.2
  ·rw [if_pos hp]
   simp only
   omega
  ·rw [if_neg hp]
   have hm : mem p r = true := by
    rcases mem_cons'.1 h with h | h
    ·exact absurd h hp
    ·exact h
   have := idxF_rng r (m + u.2) p (fun z hz => hw z (by simp [hz])) hm
   omega
theorem idxF_inj : ∀ (L : List Sp) (m p q : Int), (∀ u ∈ L, 1 ≤ u.2) → mem p L = true → mem q L = true → (idxF p m L).1 = (idxF q m L).1 → p = q
 | [], _, _, _, _, h, _, _ => by cases h
 | u :: r, m, p, q, hw, hp, hq, he => by
  have hu := hw u (by simp)
  have hwr : ∀ z ∈ r, 1 ≤ z.2 := fun z hz => hw z (by simp [hz])
  rw [idxF, idxF] at he
  by_cases h1 : u.1 ≤ p ∧ p < u.1 + u.2
  ·rw [if_pos h1] at he
   by_cases h2 : u.1 ≤ q ∧ q < u.1 + u.2
   ·rw [if_pos h2] at he
    simp only at he
    omega
   ·rw [if_neg h2] at he
    have hm : mem q r = true := (mem_cons'.1 hq).resolve_left h2
    have := idxF_rng r (m + u.2) q hwr hm
    simp only at he
    omega
  ·have hm1 : mem p r = true := (mem_cons'.1 hp).resolve_left h1
   rw [if_neg h1] at he
   by_cases h2 : u.1 ≤ q ∧ q < u.1 + u.2
   ·rw [if_pos h2] at he
    have := idxF_rng r (m + u.2) p hwr hm1
    simp only at he
    omega
   ·rw [if_neg h2] at he
    have hm2 : mem q r = true := (mem_cons'.1 hq).resolve_left h2
    exact idxF_inj r (m + u.2) p q hwr hm1 hm2 he
theorem sumS_nn : ∀ {L : List Sp}, (∀ u ∈ L, 1 ≤ u.2) → 0 ≤ sumS L
 | [], _ => by simp [sumS]
 | u :: r, h => by
  have := h u (by simp)
  have := sumS_nn (L := r) (fun z hz => h z (by simp [hz]))
  simp only [sumS, List.map_cons, List.sum_cons] at this ⊢
  omega
theorem vlds_pos {L : List Sp} (h : ∀ u ∈ L, vld u = true) : ∀ u ∈ L, 1 ≤ u.2 := fun u hu => (vld_iff.1 (h u hu)).2.2.1
theorem common_in {S : List Sp} (hS : Can S) {i : Sp} (hi : vld i = true) {y : Sp} (hy : y ∈ commonF S [i]) : 1 ≤ y.2 ∧ i.1 ≤ y.1 ∧ y.1 + y.2 ≤ i.1 + i.2 ∧ ∀ k, y.1 ≤ k → k < y.1 + y.2 → mem k S = true := by
 have hc := hS.common (Can.one hi)
 have hv := vld_iff.1 (hc.1 y hy)
 have hm : ∀ k, y.1 ≤ k → k < y.1 + y.2 → mem k (commonF S [i]) = true := fun k h1 h2 => List.any_eq_true.2 ⟨y, hy, by simp; omega⟩
 have hq : ∀ k, y.1 ≤ k → k < y.1 + y.2 → mem k S = true ∧ i.1 ≤ k ∧ k < i.1 + i.2 := fun k h1 h2 => by
  have := hm k h1 h2
  rw [hS.mem_common (Can.one hi), Bool.and_eq_true, mem_one] at this
  exact this
 have h1 := hq y.1 (Int.le_refl _) (by omega)
 have h2 := hq (y.1 + y.2 - 1) (by omega) (by omega)
 exact ⟨hv.2.2.1, by omega, by omega, fun k a b => (hq k a b).1⟩
theorem runsC_run {S : List Sp} (hS : Can S) : ∀ (L : List Sp) (m e : Int), 0 ≤ m → m + sumS L ≤ 1024 → (∀ u ∈ L, vld u = true) → formOk e L = true → ∀ x ∈ runsC S m L, RunOf m L x ∧ ∀ k, x.2.2 ≤ k → k < x.2.2 + x.2.1 → mem k S = true
 | [], _, _, _, _, _, _, _, h => by cases h
 | u :: r, m, e, h0, h1, hv, hf, x, h => by
  have hs : sumS (u :: r) = u.2 + sumS r := by simp [sumS]
  have hu := vld_iff.1 (hv u (by simp))
  have hvr : ∀ y ∈ r, vld y = true := fun y hy => hv y (by simp [hy])
  have hr0 := sumS_nn (vlds_pos hvr)
  have hf' := formOk_cons.1 hf
  have low : ∀ q, mem q r = true → u.1 + u.2 < q := fun q hq => mem_lt hf'.2 (fun y hy => by have := vlds_pos hvr y hy; omega) hq
  have hvm : vld (m, u.2) = true := vld_iff.2 ⟨h0, by show m < 1024; omega, hu.2.2.1, by show u.2 ≤ 1024 - m; omega⟩
  rw [runsC] at h
  rcases List.mem_append.1 h with h | h
  ·obtain ⟨y, hy, rfl⟩ := List.mem_map.1 h
   obtain ⟨c1, c2, c3, c4⟩ := common_in hS hvm hy
   simp only at c2 c3
   refine ⟨⟨c1, by show 0 ≤ u.1 + y.1 - m; omega, by show u.1 + y.1 - m + y.2 ≤ 1024; omega, c2, by show y.1 + y.2 ≤ _; omega, fun p h2 h3 => ?_, fun p h2 h3 h4 => ?_⟩, c4⟩
   ·simp only at h2 h3
    have hp : u.1 ≤ p ∧ p < u.1 + u.2 := by omega
    refine ⟨mem_cons'.2 (.inl hp), ?_⟩
    rw [idxF, if_pos hp]
    simp only
    omega
   ·simp only at h3 h4 ⊢
    rw [idxF] at h3 h4
    by_cases hp : u.1 ≤ p ∧ p < u.1 + u.2
    ·rw [if_pos hp] at h3 h4
     simp only at h3 h4
     omega
    ·rw [if_neg hp] at h3 h4
     have hm := (mem_cons'.1 h2).resolve_left hp
     have := idxF_rng r (m + u.2) p (vlds_pos hvr) hm
     omega
  ·obtain ⟨R, hR⟩ := runsC_run hS r (m + u.2) _ (by omega) (by omega) hvr hf'.2 x h
   have hnot : ∀ p, mem p r = true → ¬ (u.1 ≤ p ∧ p < u.1 + u.2) := fun p hp => by have := low p hp; omega
   refine ⟨⟨R.pos, R.lo, R.hi, by have := R.nlo; omega, by have := R.nhi; omega, fun p h2 h3 => ?_, fun p h2 h3 h4 => ?_⟩, hR⟩
   ·obtain ⟨a, b⟩ := R.page p h2 h3
    refine ⟨mem_cons'.2 (.inr a), ?_⟩
    rw [idxF, if_neg (hnot p a)]
    exact b
   ·rw [idxF] at h3 h4
    by_cases hp : u.1 ≤ p ∧ p < u.1 + u.2
    ·rw [if_pos hp] at h3 h4
     have := R.nlo
     simp only at h3 h4
     omega
    ·rw [if_neg hp] at h3 h4
     exact R.num p ((mem_cons'.1 h2).resolve_left hp) h3 h4
theorem runsC_pair {S : List Sp} (hS : Can S) : ∀ (L : List Sp) (m e : Int), 0 ≤ m → m + sumS L ≤ 1024 → (∀ u ∈ L, vld u = true) → formOk e L = true → (runsC S m L).Pairwise (fun x y => x.2.2 + x.2.1 ≤ y.2.2)
 | [], _, _, _, _, _, _ => List.Pairwise.nil
 | u :: r, m, e, h0, h1, hv, hf => by
  have hs : sumS (u :: r) = u.2 + sumS r := by simp [sumS]
  have hu := vld_iff.1 (hv u (by simp))
  have hvr : ∀ y ∈ r, vld y = true := fun y hy => hv y (by simp [hy])
  have hr0 := sumS_nn (vlds_pos hvr)
  have hf' := formOk_cons.1 hf
  have hvm : vld (m, u.2) = true := vld_iff.2 ⟨h0, by show m < 1024; omega, hu.2.2.1, by show u.2 ≤ 1024 - m; omega⟩
  rw [runsC, List.pairwise_append]
  refine ⟨?_, runsC_pair hS r (m + u.2) _ (by omega) (by omega) hvr hf'.2, fun a ha b hb => ?_⟩
  ·rw [List.pairwise_map]
   exact (Can.apt (hS.common (Can.one hvm))).2.imp (fun {a b} h => by simp only; omega)
  ·obtain ⟨y, hy, rfl⟩ := List.mem_map.1 ha
   obtain ⟨c1, c2, c3, c4⟩ := common_in hS hvm hy
   have := (runsC_run hS r (m + u.2) _ (by omega) (by omega) hvr hf'.2 b hb).1.nlo
   simp only at c2 c3 ⊢
   omega
theorem runsC_cover {S : List Sp} (hS : Can S) : ∀ (L : List Sp) (m : Int), 0 ≤ m → m + sumS L ≤ 1024 → (∀ u ∈ L, vld u = true) → ∀ k, mem k S = true → m ≤ k → k < m + sumS L → ∃ x ∈ runsC S m L, x.2.2 ≤ k ∧ k < x.2.2 + x.2.1
 | [], m, _, _, _, k, _, h2, h3 => by simp [sumS] at h3; omega
 | u :: r, m, h0, h1, hv, k, hk, h2, h3 => by
  have hs : sumS (u :: r) = u.2 + sumS r := by simp [sumS]
  have hu := vld_iff.1 (hv u (by simp))
  have hvr : ∀ y ∈ r, vld y = true := fun y hy => hv y (by simp [hy])
  have hr0 := sumS_nn (vlds_pos hvr)
  have hvm : vld (m, u.2) = true := vld_iff.2 ⟨h0, by show m < 1024; omega, hu.2.2.1, by show u.2 ≤ 1024 - m; omega⟩
  rw [runsC]
  by_cases hlt : k < m + u.2
  ·have hm : mem k (commonF S [(m, u.2)]) = true := by
    rw [hS.mem_common (Can.one hvm), Bool.and_eq_true, mem_one]
    exact ⟨hk, h2, hlt⟩
   obtain ⟨y, hy, hyk⟩ := List.any_eq_true.1 hm
   have hyk' : y.1 ≤ k ∧ k < y.1 + y.2 := by simpa using hyk
   exact ⟨_, List.mem_append_left _ (List.mem_map.2 ⟨y, hy, rfl⟩), hyk'⟩
  ·obtain ⟨x, hx, hxk⟩ := runsC_cover hS r (m + u.2) (by omega) (by omega) hvr k hk (by omega) (by omega)
   exact ⟨x, List.mem_append_right _ hx, hxk⟩
theorem cnt_zero_out {f : Int → Bool} (a b : Int) (ha : 0 ≤ a) (hb : 0 ≤ b) (hab : a + b ≤ 1024) (h : ∀ q, f q = true → a ≤ q ∧ q < a + b) : cntN f 1024 0 = cntN f b.toNat a := by
 have e1 : (1024 : Nat) = a.toNat + (b.toNat + (1024 - (a + b)).toNat) := by omega
 rw [e1, cntN_split, cntN_split, show (0 : Int) + (a.toNat : Int) = a by omega, show a + (b.toNat : Int) = a + b by omega]
 rw [cntN_none a.toNat 0 (fun q h1 h2 => by rw [Bool.eq_false_iff]; intro hq; have := h q hq; omega)]
 rw [cntN_none _ (a + b) (fun q h1 h2 => by rw [Bool.eq_false_iff]; intro hq; have := h q hq; omega)]
 omega
theorem runsC_sum {S : List Sp} (hS : Can S) : ∀ (L : List Sp) (m : Int), 0 ≤ m → m + sumS L ≤ 1024 → (∀ u ∈ L, vld u = true) → ((runsC S m L).map (·.2.1)).sum = cntN (fun q => mem q S) (sumS L).toNat m
 | [], m, _, _, _ => by simp [runsC, sumS, cntN]
 | u :: r, m, h0, h1, hv => by
  have hs : sumS (u :: r) = u.2 + sumS r := by simp [sumS]
  have hu := vld_iff.1 (hv u (by simp))
  have hvr : ∀ y ∈ r, vld y = true := fun y hy => hv y (by simp [hy])
  have hr0 := sumS_nn (vlds_pos hvr)
  have hvm : vld (m, u.2) = true := vld_iff.2 ⟨h0, by show m < 1024; omega, hu.2.2.1, by show u.2 ≤ 1024 - m; omega⟩
  have ih := runsC_sum hS r (m + u.2) (by omega) (by omega) hvr
  rw [runsC, List.map_append, List.sum_append, ih, hs, show (u.2 + sumS r).toNat = u.2.toNat + (sumS r).toNat by omega, cntN_split, show m + (u.2.toNat : Int) = m + u.2 by omega]
  congr 1
  rw [List.map_map]
  have hc := hS.common (Can.one hvm)
  have hcl := count_law hc
  unfold cntF at hcl
  simp only at hcl
  have e0 : (1024 : Int).toNat = 1024 := rfl
  rw [e0, cnt_zero_out m u.2 h0 (by omega) (by omega) (fun q hq => by
   have hq : mem q (commonF S [(m, u.2)]) = true := hq
   rw [hS.mem_common (Can.one hvm), Bool.and_eq_true, mem_one] at hq
   exact hq.2)] at hcl
  have e2 : (List.map ((fun x : RnT => x.2.1) ∘ fun x : Sp => (u.1 + x.1 - m, x.2, x.1)) (commonF S [(m, u.2)])).sum = sumS (commonF S [(m, u.2)]) := by
   unfold sumS
   congr 1
  rw [e2, ← hcl]
  exact (cntN_congr _ _ (fun q h2 h3 => by
   show mem q S = mem q (commonF S [(m, u.2)])
   rw [hS.mem_common (Can.one hvm), show mem q [(m, u.2)] = true from mem_one.2 ⟨h2, by show q < m + u.2; omega⟩, Bool.and_true])).symm
section
variable {pg n f b ev : Int}
theorem runsC_all {S : List Sp} (hS : Can S) (hp : PlanOk pg n f b ev) : (∀ x ∈ runsC S 0 (runsL pg n f b ev), RunOf 0 (runsL pg n f b ev) x ∧ ∀ k, x.2.2 ≤ k → k < x.2.2 + x.2.1 → mem k S = true) ∧ (runsC S 0 (runsL pg n f b ev)).Pairwise (fun x y => x.2.2 + x.2.1 ≤ y.2.2) ∧
  (∀ k, mem k S = true → k < sumS (runsL pg n f b ev) → ∃ x ∈ runsC S 0 (runsL pg n f b ev), x.2.2 ≤ k ∧ k < x.2.2 + x.2.1) := by
 have hs := (runs_sum hp).2
 have hc := runsL_can hp
 exact ⟨runsC_run hS _ 0 _ (Int.le_refl _) (by omega) hc.1 hc.2, runsC_pair hS _ 0 _ (Int.le_refl _) (by omega) hc.1 hc.2, fun k hk h2 => runsC_cover hS _ 0 (Int.le_refl _) (by omega) hc.1 k hk (hS.range hk).1 (by omega)⟩
theorem runsC_len {S : List Sp} (hS : Can S) (hp : PlanOk pg n f b ev) (hin : ∀ k, mem k S = true → k < sumS (runsL pg n f b ev)) : ((runsC S 0 (runsL pg n f b ev)).map (·.2.1)).sum = sumS S := by
 have hs := (runs_sum hp)
 have hc := runsL_can hp
 rw [runsC_sum hS _ 0 (Int.le_refl _) (by omega) hc.1]
 have := count_law hS
 unfold cntF at this
 simp only at this
 have e0 : (1024 : Int).toNat = 1024 := rfl
 rw [e0, cnt_zero_out 0 (sumS (runsL pg n f b ev)) (Int.le_refl _) (by omega) (by omega) (fun q hq => ⟨(hS.range hq).1, by have := hin q hq; omega⟩)] at this
 exact this
end
def cmN (V : Vm) : Int := cntN (fun q => kd V q.toNat == 2) 1024 0
structure Plain (V : Vm) : Prop where
 hug : ∀ p, (V.pg p).huge = false
 byt : ∀ p, kd V p ≠ 2 → ∀ j, (V.pg p).byt j = 0
structure BecTo (V : Vm) (a n fr tk : Int) (W : Vm) : Prop where
 lo : 0 ≤ a
 pos : 1 ≤ n
 hi : a + n ≤ 1024
 was : ∀ p : Nat, a ≤ p → (p : Int) < a + n → kd V p = fr
 pg : ∀ p : Nat, W.pg p = if a ≤ p ∧ (p : Int) < a + n then newPg tk else V.pg p
theorem bec_cases (V : Vm) (a n : Int) (call : Nat) (fr tk : Int) :
  ((bec V a n call fr tk).1 ≠ 0 ∧ (bec V a n call fr tk).2.pg = V.pg) ∨ ((bec V a n call fr tk).1 = 0 ∧ BecTo V a n fr tk (bec V a n call fr tk).2) := by
 rcases makeF_cases V a n call (fun g => g.kind == fr && !g.huge) (fun _ => newPg tk) with h | ⟨h1, h2, h3, h4, h5, h6⟩
 ·exact .inl h
 ·refine .inr ⟨h1, h2, h3, h4, fun p hp hp2 => ?_, h6⟩
  have := h5 p hp hp2
  simp only [Bool.and_eq_true, beq_iff_eq] at this
  exact this.1
theorem bec_go {V : Vm} {a n : Int} {call : Nat} {fr tk : Int} (h1 : 0 ≤ a) (h2 : 1 ≤ n) (h3 : a + n ≤ 1024) (hk : ∀ p : Nat, a ≤ p → (p : Int) < a + n → kd V p = fr ∧ (V.pg p).huge = false) (hr : refB V.rf call = false) : (bec V a n call fr tk).1 = 0 := by
 unfold bec makeF
 rw [if_neg (by omega)]
 have ha : allP V a.toNat n.toNat (fun g => g.kind == fr && !g.huge) = true := by
  unfold allP
  rw [List.all_eq_true]
  intro i hi
  have hi := List.mem_range.1 hi
  obtain ⟨e1, e2⟩ := hk (a.toNat + i) (by omega) (by omega)
  unfold kd at e1
  simp [e1, e2]
 rw [if_neg (by rw [ha]; simp), if_neg (by rw [hr]; simp)]
theorem bec_rf (V : Vm) (a n : Int) (call : Nat) (fr tk : Int) : (bec V a n call fr tk).2.rf = V.rf ∨ (bec V a n call fr tk).2.rf = refS V.rf call := by
 unfold bec makeF
 split
 ·exact .inl rfl
 ·split
  ·exact .inl rfl
  ·split <;> exact .inr rfl
theorem refS_rules (S : Rf) (k : Nat) : (refS S k).rules = S.rules := by unfold refS nextS; split <;> rfl
theorem bec_rules (V : Vm) (a n : Int) (call : Nat) (fr tk : Int) : (bec V a n call fr tk).2.rf.rules = V.rf.rules := by
 rcases bec_rf V a n call fr tk with h | h
 ·rw [h]
 ·rw [h, refS_rules]
theorem refB_none {S : Rf} (h : S.rules = []) (k : Nat) : refB S k = false := by
 unfold refB nextB
 split
 ·rfl
 ·rw [h]; rfl
theorem BecTo.kd {V W : Vm} {a n fr tk : Int} (h : BecTo V a n fr tk W) (p : Nat) : kd W p = if a ≤ p ∧ (p : Int) < a + n then tk else kd V p := by
 unfold Go.Pol.kd
 rw [h.pg p]
 split <;> rfl
theorem Plain.pg {V W : Vm} (h : Plain V) (e : W.pg = V.pg) : Plain W := by
 refine ⟨fun p => by rw [e]; exact h.hug p, fun p hp j => ?_⟩
 unfold kd at hp
 rw [e] at hp ⊢
 exact h.byt p hp j
theorem Plain.to {V W : Vm} {a n fr tk : Int} (h : Plain V) (k : BecTo V a n fr tk W) : Plain W := by
 refine ⟨fun p => ?_, fun p hp j => ?_⟩
 ·rw [k.pg p]
  split
  ·rfl
  ·exact h.hug p
 ·rw [k.kd p] at hp
  rw [k.pg p]
  by_cases hc : a ≤ (p : Int) ∧ (p : Int) < a + n
  ·rw [if_pos hc]; rfl
  ·rw [if_neg hc] at hp ⊢
   exact h.byt p hp j
theorem Plain.bec {V : Vm} (h : Plain V) (a n : Int) (call : Nat) (fr tk : Int) : Plain (bec V a n call fr tk).2 := by
 rcases bec_cases V a n call fr tk with ⟨_, k⟩ | ⟨_, k⟩
 ·exact h.pg k
 ·exact h.to k
theorem kd_pg {V W : Vm} (e : W.pg = V.pg) (p : Nat) : kd W p = kd V p := by unfold kd; rw [e]
theorem cmN_pg {V W : Vm} (e : W.pg = V.pg) : cmN W = cmN V := by
 unfold cmN
 exact cntN_congr _ _ (fun q _ _ => by rw [kd_pg e])
theorem cnt_change {f g : Int → Bool} {a n : Int} (h1 : 0 ≤ a) (h2 : 0 ≤ n) (h3 : a + n ≤ 1024) (ho : ∀ q, 0 ≤ q → ¬ (a ≤ q ∧ q < a + n) → f q = g q) : cntN f 1024 0 = cntN g 1024 0 + cntN f n.toNat a - cntN g n.toNat a := by
 have e1 : (1024 : Nat) = a.toNat + (n.toNat + (1024 - (a + n)).toNat) := by omega
 rw [e1, cntN_split, cntN_split, cntN_split g, cntN_split g, show (0 : Int) + (a.toNat : Int) = a by omega, show a + (n.toNat : Int) = a + n by omega]
 rw [cntN_congr (g := g) a.toNat 0 (fun q h1 h2 => ho q (by omega) (by omega)), cntN_congr (g := g) _ (a + n) (fun q h1 h2 => ho q (by omega) (by omega))]
 omega
theorem BecTo.cmN {V W : Vm} {a n fr tk : Int} (h : BecTo V a n fr tk W) : cmN W = cmN V + (if tk = 2 then n else 0) - (if fr = 2 then n else 0) := by
 have h1 := h.lo; have h2 := h.pos; have h3 := h.hi
 unfold Go.Pol.cmN
 rw [cnt_change (g := fun q => Go.Pol.kd V q.toNat == 2) h1 (by omega) h3 (fun q h0 hq => by
  rw [h.kd, if_neg (by omega)])]
 have e1 : cntN (fun q => Go.Pol.kd W q.toNat == 2) n.toNat a = if tk = 2 then n else 0 := by
  have hk : ∀ q, a ≤ q → q < a + (n.toNat : Int) → Go.Pol.kd W q.toNat = tk := fun q g1 g2 => by rw [h.kd, if_pos (by omega)]
  by_cases ht : tk = 2
  ·rw [if_pos ht, cntN_all _ _ (fun q g1 g2 => by simp only [hk q g1 g2, ht, beq_self_eq_true])]
   omega
  ·rw [if_neg ht, cntN_none _ _ (fun q g1 g2 => by simp only [hk q g1 g2]; simpa using ht)]
 have e2 : cntN (fun q => Go.Pol.kd V q.toNat == 2) n.toNat a = if fr = 2 then n else 0 := by
  have hk : ∀ q, a ≤ q → q < a + (n.toNat : Int) → Go.Pol.kd V q.toNat = fr := fun q g1 g2 => h.was q.toNat (by omega) (by omega)
  by_cases ht : fr = 2
  ·rw [if_pos ht, cntN_all _ _ (fun q g1 g2 => by simp only [hk q g1 g2, ht, beq_self_eq_true])]
   omega
  ·rw [if_neg ht, cntN_none _ _ (fun q g1 g2 => by simp only [hk q g1 g2]; simpa using ht)]
 rw [e1, e2]
def KindK (V : Vm) (pg n : Int) (L : List Sp) (K : Int → Bool) : Prop :=
 ∀ p : Nat, kd V p = if mem (p : Int) L = true then (if K (idxF (p : Int) 0 L).1 = true then 2 else 1) else if pg ≤ p ∧ (p : Int) < pg + n then 3 else 0
def inRn (x : RnT) (k : Int) : Bool := decide (x.2.2 ≤ k) && decide (k < x.2.2 + x.2.1)
theorem inRn_iff {x : RnT} {k : Int} : inRn x k = true ↔ x.2.2 ≤ k ∧ k < x.2.2 + x.2.1 := by simp [inRn]
theorem KindK.pg {V W : Vm} {pg n : Int} {L : List Sp} {K : Int → Bool} (h : KindK V pg n L K) (e : W.pg = V.pg) : KindK W pg n L K := fun p => by rw [kd_pg e]; exact h p
theorem KindK.congr {V : Vm} {pg n : Int} {L : List Sp} {K K' : Int → Bool} (h : KindK V pg n L K) (hL : ∀ u ∈ L, 1 ≤ u.2) (e : ∀ k, 0 ≤ k → k < sumS L → K k = K' k) : KindK V pg n L K' := fun p => by
 rw [h p]
 by_cases hm : mem (p : Int) L = true
 ·have := idxF_rng L 0 p hL hm
  rw [if_pos hm, if_pos hm, e _ this.1 (by omega)]
 ·rw [if_neg hm, if_neg hm]
theorem KindK.com {V W : Vm} {pg n : Int} {L : List Sp} {K : Int → Bool} (h : KindK V pg n L K) {x : RnT} (hx : RunOf 0 L x) (hb : BecTo V x.1 x.2.1 1 2 W) : KindK W pg n L (fun k => K k || inRn x k) := fun p => by
 rw [hb.kd p]
 by_cases hp : x.1 ≤ (p : Int) ∧ (p : Int) < x.1 + x.2.1
 ·obtain ⟨a, b⟩ := hx.page p hp.1 hp.2
  rw [if_pos hp, if_pos a, if_pos]
  rw [Bool.or_eq_true, inRn_iff]
  right; omega
 ·rw [if_neg hp, h p]
  by_cases hm : mem (p : Int) L = true
  ·rw [if_pos hm, if_pos hm]
   have : inRn x (idxF (p : Int) 0 L).1 = false := by
    rw [Bool.eq_false_iff]
    intro hi
    rw [inRn_iff] at hi
    exact hp (hx.num p hm hi.1 hi.2)
   simp only [this, Bool.or_false]
  ·rw [if_neg hm, if_neg hm]
theorem KindK.dec {V W : Vm} {pg n : Int} {L : List Sp} {K : Int → Bool} (h : KindK V pg n L K) {x : RnT} (hx : RunOf 0 L x) (hb : BecTo V x.1 x.2.1 2 1 W) : KindK W pg n L (fun k => K k && !inRn x k) := fun p => by
 rw [hb.kd p]
 by_cases hp : x.1 ≤ (p : Int) ∧ (p : Int) < x.1 + x.2.1
 ·obtain ⟨a, b⟩ := hx.page p hp.1 hp.2
  rw [if_pos hp, if_pos a, if_neg]
  have : inRn x (idxF (p : Int) 0 L).1 = true := by rw [inRn_iff]; omega
  simp [this]
 ·rw [if_neg hp, h p]
  by_cases hm : mem (p : Int) L = true
  ·rw [if_pos hm, if_pos hm]
   have : inRn x (idxF (p : Int) 0 L).1 = false := by
    rw [Bool.eq_false_iff]
    intro hi
    rw [inRn_iff] at hi
    exact hp (hx.num p hm hi.1 hi.2)
   simp [this]
  ·rw [if_neg hm, if_neg hm]
theorem KindK.run {V : Vm} {pg n : Int} {L : List Sp} {K : Int → Bool} (h : KindK V pg n L K) {x : RnT} (hx : RunOf 0 L x) {p : Nat} (h1 : x.1 ≤ p) (h2 : (p : Int) < x.1 + x.2.1) : kd V p = if K (x.2.2 + (p - x.1)) = true then 2 else 1 := by
 obtain ⟨a, b⟩ := hx.page p h1 h2
 rw [h p, if_pos a, b]
def useC (r : Cr) (k : Int) : Bool := decide (k < r.live) || mem k r.kept
structure CmI (V : Vm) (L : List Nd) (r : Cr) : Prop where
 pln : Plain V
 bok : BudOk L
 two : L.length = 2
 root : (L.getD 0 nd0).own = 0
 own : (L.getD 1 nd0).own = cmN V
 many : cmN V = r.live + sumS r.kept
 st : (r = cr0 ∧ ∀ p, kd V p = 0) ∨ (CrOk r ∧ r.node = 1 ∧ (r.cl = false → KindK V r.pg r.n (runsL r.pg r.n r.f r.bk r.ev) (useC r)) ∧ (r.cl = true → ∀ p : Nat, if r.pg ≤ p ∧ (p : Int) < r.pg + r.n then kd V p = 1 ∨ kd V p = 3 else kd V p = 0))
theorem CrOk.n1 {r : Cr} (h : CrOk r) : 1 ≤ r.n := h.plan.n0
theorem cr0_bad : chkCm cr0 = 7 := by decide
theorem giveB_own {L : List Nd} (hl : L.length = 2) {p : Int} (h0 : 0 ≤ p) (h1 : p ≤ (L.getD 1 nd0).own) (h2 : p ≤ 4096) : (giveB L 1 p).1 = 0 ∧ ((giveB L 1 p).2.getD 1 nd0).own = (L.getD 1 nd0).own - p ∧ ((giveB L 1 p).2.getD 0 nd0).own = (L.getD 0 nd0).own := by
 match L, hl with
 | [a, b], _ =>
  unfold giveB
  simp only [List.getD_cons_succ, List.getD_cons_zero] at h1 ⊢
  rw [if_neg (by omega), if_neg (by omega)]
  refine ⟨rfl, ?_, ?_⟩
  ·rfl
  ·rfl
theorem chargeB_own {L : List Nd} (hl : L.length = 2) {p : Int} (h : (chargeB L 1 p).1 = 0) : ((chargeB L 1 p).2.getD 1 nd0).own = (L.getD 1 nd0).own + p ∧ ((chargeB L 1 p).2.getD 0 nd0).own = (L.getD 0 nd0).own := by
 match L, hl with
 | [a, b], _ =>
  unfold chargeB at h ⊢
  by_cases h1 : p < 0 ∨ 4096 < p
  ·rw [if_pos h1] at h; exact absurd h (by simp)
  ·rw [if_neg h1] at h ⊢
   by_cases h2 : headB [a, b] 1 < p
   ·rw [if_pos h2] at h; exact absurd h (by simp)
   ·rw [if_neg h2]
    exact ⟨rfl, rfl⟩
theorem chargeB_no {L : List Nd} {n : Nat} {p : Int} (h : (chargeB L n p).1 ≠ 0) : (chargeB L n p).2 = L := by
 unfold chargeB at h ⊢
 split
 ·rfl
 ·split
  ·rfl
  ·rename_i h1 h2
   rw [if_neg h1, if_neg h2] at h
   exact absurd rfl h
theorem chargeB_len (L : List Nd) (n : Nat) (p : Int) : (chargeB L n p).2.length = L.length := by
 unfold chargeB
 split
 ·rfl
 ·split
  ·rfl
  ·show (addB _ n p).length = _
   rw [addB_len, List.length_modify]
theorem can_low {s : List Sp} (hs : Can s) {a b : Int} (h : ∀ k, mem k s = true → a ≤ k ∧ k < b) : ∀ x ∈ s, a ≤ x.1 ∧ x.1 + x.2 ≤ b := fun x hx => by
 have hv := vld_iff.1 (hs.1 x hx)
 have h1 := h x.1 (List.any_eq_true.2 ⟨x, hx, by simp; omega⟩)
 have h2 := h (x.1 + x.2 - 1) (List.any_eq_true.2 ⟨x, hx, by simp; omega⟩)
 omega
theorem low_mem {s : List Sp} {a b : Int} (h : ∀ x ∈ s, a ≤ x.1 ∧ x.1 + x.2 ≤ b) : ∀ k, mem k s = true → a ≤ k ∧ k < b := fun k hk => by
 obtain ⟨x, hx, h1⟩ := List.any_eq_true.1 hk
 have h1' : x.1 ≤ k ∧ k < x.1 + x.2 := by simpa using h1
 have := h x hx
 omega
theorem cnt_mem {s : List Sp} (hs : Can s) : cntN (fun q => mem q s) 1024 0 = sumS s := count_law hs
theorem mem_minus {A B : List Sp} (hA : Can A) (hB : Can B) (k : Int) : mem k (commonF A (gapsF B (0, 1024))) = (mem k A && !mem k B) := by
 have hg := hB.gaps (i := (0, 1024)) (by decide)
 rw [hA.mem_common hg.1]
 cases h : mem k A with
 | false => rfl
 | true =>
  have hr := hA.range h
  rw [Bool.true_and, Bool.true_and, Bool.eq_iff_iff, hg.2 k]
  simp
  omega
theorem can_minus {A B : List Sp} (hA : Can A) (hB : Can B) : Can (commonF A (gapsF B (0, 1024))) := hA.common (hB.gaps (i := (0, 1024)) (by decide)).1
theorem minus_sum {A B : List Sp} (hA : Can A) (hB : Can B) (hs : ∀ k, mem k B = true → mem k A = true) : sumS (commonF A (gapsF B (0, 1024))) = sumS A - sumS B := by
 have h1 := cnt_mem hA
 have h2 := cnt_mem hB
 have h3 := cnt_mem (can_minus hA hB)
 have h4 := cntN_or (f := fun q => mem q (commonF A (gapsF B (0, 1024)))) (g := fun q => mem q B) 1024 0 (fun q h1 h2 => by
  rw [mem_minus hA hB, h2] at h1
  simp at h1)
 rw [cntN_congr (g := fun q => mem q A) 1024 0 (fun q _ _ => by
  simp only [mem_minus hA hB]
  have := hs q
  cases hb : mem q B with
  | false => simp
  | true => rw [this hb]; simp)] at h4
 omega
theorem mem_union {A B : List Sp} (hA : Can A) (hB : Can B) (k : Int) : mem k (setOf (A ++ B)) = (mem k A || mem k B) := by
 rw [Bool.eq_iff_iff, mem_setOf (fun x hx => by
  rcases List.mem_append.1 hx with h | h
  ·exact hA.1 x h
  ·exact hB.1 x h), mem_append]
theorem union_sum {A B : List Sp} (hA : Can A) (hB : Can B) (hd : ∀ k, mem k A = true → mem k B = true → False) : sumS (setOf (A ++ B)) = sumS A + sumS B := by
 have h1 := cnt_mem hA
 have h2 := cnt_mem hB
 have h3 := cnt_mem (setOf_can (A ++ B))
 have h4 := cntN_or (f := fun q => mem q A) (g := fun q => mem q B) 1024 0 (fun q a b => hd q a b)
 rw [cntN_congr (g := fun q => mem q (setOf (A ++ B))) 1024 0 (fun q _ _ => (mem_union hA hB q).symm)] at h4
 omega
theorem mem_belC (a b k : Int) : mem k (belC a b) = (decide (a ≤ k) && decide (k < b)) := by
 unfold belC
 by_cases h : b ≤ a
 ·rw [if_pos h, mem_nil]
  symm
  rw [Bool.eq_false_iff]
  intro hk
  simp at hk
  omega
 ·rw [if_neg h, Bool.eq_iff_iff, mem_one]
  simp
  omega
theorem sum_belC {a b : Int} (h : a ≤ b) : sumS (belC a b) = b - a := by
 unfold belC
 by_cases h1 : b ≤ a
 ·rw [if_pos h1]; simp [sumS]; omega
 ·rw [if_neg h1]; simp [sumS]
theorem can_belC {a b : Int} (ha : 0 ≤ a) (hb : b ≤ 1024) : Can (belC a b) := by
 unfold belC
 split
 ·exact ⟨fun x hx => (by cases hx), rfl⟩
 ·exact Can.one (vld_iff.2 ⟨ha, by show a < 1024; omega, by show 1 ≤ b - a; omega, by show b - a ≤ 1024 - a; omega⟩)
section
variable {r : Cr}
theorem CrOk.us (h : CrOk r) : usC r = sumS (runsL r.pg r.n r.f r.bk r.ev) := by unfold usC; rw [if_pos (chkG_zero.2 h.plan)]
theorem CrOk.us1 (h : CrOk r) : usC r ≤ 1024 := by rw [h.us]; exact (runs_sum h.plan).2
theorem CrOk.keptIn (h : CrOk r) : ∀ k, mem k r.kept = true → r.live ≤ k ∧ k < usC r := low_mem h.low
theorem CrOk.cnt (h : CrOk r) : cntN (useC r) 1024 0 = r.live + sumS r.kept := by
 have h0 := h.live0; have h1 := h.live1; have h2 := h.us1
 have e : cntN (useC r) 1024 0 = cntN (fun q => decide (q < r.live) || mem q r.kept) 1024 0 := rfl
 rw [e, cntN_or 1024 0 (fun q a b => by have := (h.keptIn q b).1; simp at a; omega), cnt_mem h.can]
 have e1 : (1024 : Nat) = r.live.toNat + (1024 - r.live).toNat := by omega
 rw [e1, cntN_split, cntN_all _ 0 (fun q h3 h4 => by simp; omega), cntN_none _ _ (fun q h3 h4 => by simp; omega)]
 omega
end
theorem CmI.kept {V : Vm} {L : List Nd} {r : Cr} (h : CmI V L r) : r = cr0 ∨ CrOk r := by
 rcases h.st with ⟨h, _⟩ | ⟨h, _⟩
 ·exact .inl h
 ·exact .inr h
theorem CmI.of_ok {V : Vm} {L : List Nd} {r : Cr} (h : CmI V L r) (ho : CrOk r) : r.node = 1 ∧ (r.cl = false → KindK V r.pg r.n (runsL r.pg r.n r.f r.bk r.ev) (useC r)) ∧ (r.cl = true → ∀ p : Nat, if r.pg ≤ p ∧ (p : Int) < r.pg + r.n then kd V p = 1 ∨ kd V p = 3 else kd V p = 0) := by
 rcases h.st with ⟨h1, _⟩ | ⟨_, h2⟩
 ·rw [h1] at ho
  exact absurd (chkCm_zero.2 ho) (by rw [cr0_bad]; decide)
 ·exact h2
theorem page_run {pg n f bk ev : Int} (hp : PlanOk pg n f bk ev) {k : Int} (h0 : 0 ≤ k) (h1 : k < sumS (runsL pg n f bk ev)) : RunOf 0 (runsL pg n f bk ev) ((nthF (runsL pg n f bk ev) k).1, 1, k) := by
 obtain ⟨m, rfl⟩ : ∃ m : Nat, k = m := ⟨k.toNat, by omega⟩
 obtain ⟨h2, h3, h4, h5, h6, _⟩ := parts_nth hp m h1
 rw [h2]
 refine ⟨Int.le_refl _, h5, by show _ + 1 ≤ 1024; omega, h0, by show (m : Int) + 1 ≤ _; omega, fun p a b => ?_, fun p a b c => ?_⟩
 ·simp only at a b
  have e : p = pageAt (runsL pg n f bk ev) m := by omega
  subst e
  rw [h3]
  exact ⟨h4, by simp⟩
 ·simp only at b c ⊢
  have e : p = pageAt (runsL pg n f bk ev) m := idxF_inj _ 0 p _ (runs_pos hp) a h4 (by rw [h3]; simp only; omega)
  omega
theorem len_sumRn : ∀ (l : List RnT), (∀ x ∈ l, 1 ≤ x.2.1) → (l.length : Int) ≤ sumRn l
 | [], _ => by simp [sumRn]
 | x :: l, h => by
  have h1 := h x (by simp)
  have h2 := len_sumRn l (fun y hy => h y (by simp [hy]))
  have e : sumRn (x :: l) = x.2.1 + sumRn l := by simp [sumRn]
  simp only [List.length_cons]
  omega
theorem more_facts {pg n f bk ev live tt : Int} {K : List Sp} (hp : PlanOk pg n f bk ev) (hK : Can K) (h0 : 0 ≤ live) (h1 : tt ≤ sumS (runsL pg n f bk ev)) :
  sumRn (runsC (commonF (belC live tt) (gapsF K (0, 1024))) 0 (runsL pg n f bk ev)) = sumS (commonF (belC live tt) (gapsF K (0, 1024))) ∧ (runsC (commonF (belC live tt) (gapsF K (0, 1024))) 0 (runsL pg n f bk ev)).length ≤ 1024 ∧
   0 ≤ sumS (commonF (belC live tt) (gapsF K (0, 1024))) ∧ sumS (commonF (belC live tt) (gapsF K (0, 1024))) ≤ 1024 := by
 have hs := (runs_sum hp).2
 have hcb : Can (belC live tt) := can_belC h0 (by omega)
 have hc := can_minus hcb hK
 have hlen := runsC_len hc hp (fun k hk => by
  rw [mem_minus hcb hK, mem_belC, Bool.and_eq_true] at hk
  have := hk.1
  simp at this
  omega)
 have hcount := cnt_mem hc
 have hnn := sumS_nn (vlds_pos hc.1)
 have h24 := (cntN_bound (fun q => mem q (commonF (belC live tt) (gapsF K (0, 1024)))) 1024 0).2
 have hl := len_sumRn _ (fun x hx => ((runsC_all hc hp).1 x hx).1.pos)
 have e : sumRn (runsC (commonF (belC live tt) (gapsF K (0, 1024))) 0 (runsL pg n f bk ev)) = sumS (commonF (belC live tt) (gapsF K (0, 1024))) := hlen
 exact ⟨e, by omega, hnn, by omega⟩
theorem CmI.purge {V : Vm} {L : List Nd} {r : Cr} (h : CmI V L r) (ho : CrOk r) {k : Int} (hk : mem k r.kept = true) :
  ((bec V (nthF (runsL r.pg r.n r.f r.bk r.ev) k).1 1 3 2 1).1 ≠ 0 → CmI (bec V (nthF (runsL r.pg r.n r.f r.bk r.ev) k).1 1 3 2 1).2 L r) ∧
  ((bec V (nthF (runsL r.pg r.n r.f r.bk r.ev) k).1 1 3 2 1).1 = 0 → CmI (bec V (nthF (runsL r.pg r.n r.f r.bk r.ev) k).1 1 3 2 1).2 (giveB L 1 1).2 { r with kept := commonF r.kept (gapsF [(k, 1)] (0, 1024)) }) := by
 obtain ⟨hn, hK, hC⟩ := h.of_ok ho
 have hki := ho.keptIn k hk
 have hl0 := ho.live0
 have hus1 := ho.us1
 have hcl : r.cl = false := by
  cases hc : r.cl with
  | false => rfl
  | true => have := (ho.cl hc).2; rw [this] at hk; cases hk
 have hK := hK hcl
 have hR := page_run ho.plan (k := k) (by omega) (by rw [← ho.us]; exact hki.2)
 generalize (nthF (runsL r.pg r.n r.f r.bk r.ev) k).1 = P at *
 have hone : Can [(k, (1 : Int))] := Can.one (vld_iff.2 ⟨by show 0 ≤ k; omega, by show k < 1024; omega, by show (1 : Int) ≤ 1; omega, by show (1 : Int) ≤ 1024 - k; omega⟩)
 have hmo : ∀ q, mem q [(k, (1 : Int))] = true ↔ q = k := fun q => by rw [mem_one]; simp only; omega
 rcases bec_cases V P 1 3 2 1 with ⟨g1, g2⟩ | ⟨g1, g2⟩
 ·refine ⟨fun _ => ⟨h.pln.pg g2, h.bok, h.two, h.root, by rw [cmN_pg g2]; exact h.own, by rw [cmN_pg g2]; exact h.many, .inr ⟨ho, hn, fun _ => hK.pg g2, fun hc => absurd hc (by rw [hcl]; simp)⟩⟩, fun he => absurd he g1⟩
 ·refine ⟨fun he => absurd g1 he, fun _ => ?_⟩
  have hcm := g2.cmN
  have hsum : sumS (commonF r.kept (gapsF [(k, 1)] (0, 1024))) = sumS r.kept - 1 := by
   rw [minus_sum ho.can hone (fun q hq => by rw [(hmo q).1 hq]; exact hk)]; simp [sumS]
  have hnn : 0 ≤ sumS (commonF r.kept (gapsF [(k, 1)] (0, 1024))) := sumS_nn (vlds_pos (can_minus ho.can hone).1)
  have hmany := h.many
  have hown := h.own
  obtain ⟨_, q1, q2⟩ := giveB_own h.two (p := 1) (by omega) (by rw [hown, hmany]; omega) (by omega)
  have ho' : CrOk { r with kept := commonF r.kept (gapsF [(k, 1)] (0, 1024)) } := ⟨ho.plan, ho.live0, ho.live1, ho.node, can_minus ho.can hone, fun hc => absurd hc (by show ¬ r.cl = true; rw [hcl]; simp), can_low (can_minus ho.can hone) (fun q hq => by
   rw [mem_minus ho.can hone, Bool.and_eq_true] at hq
   exact ho.keptIn q hq.1)⟩
  refine ⟨h.pln.to g2, giveB_ok h.bok (by rw [h.two]; omega) _, by rw [giveB_len]; exact h.two, by rw [q2]; exact h.root, by rw [q1, hown, hcm]; simp, ?_, .inr ⟨ho', hn, fun _ => ?_, fun hc => absurd hc (by show ¬ r.cl = true; rw [hcl]; simp)⟩⟩
  ·show cmN _ = r.live + sumS (commonF r.kept (gapsF [(k, 1)] (0, 1024)))
   rw [hcm, hsum, hmany]; simp; omega
  ·refine (hK.dec hR g2).congr (runs_pos ho.plan) (fun q h4 h5 => ?_)
   have h6 := hmo q
   unfold useC inRn
   simp only
   rw [mem_minus ho.can hone]
   cases h7 : mem q [(k, (1 : Int))] with
   | true =>
    have e := h6.1 h7
    have hq : ¬ q < r.live := by omega
    subst e
    simp [hq, show q < q + 1 by omega]
   | false =>
    have : q ≠ k := fun e => by rw [h6.2 e] at h7; cases h7
    have : (decide (k ≤ q) && decide (q < k + 1)) = false := by rw [Bool.eq_false_iff]; intro hh; simp at hh; omega
    rw [this]; simp
end Go.Pol
