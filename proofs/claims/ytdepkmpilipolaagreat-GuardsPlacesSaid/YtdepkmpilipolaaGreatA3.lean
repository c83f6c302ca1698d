/- Merged texts. Walks of layer 6: Split; Counts. Walks of layer 6: where, Read, Write. Walks of law 13's own functions: system. Openers in general: lists of bytes to be written, and of rules, as they come in. Walks: the checks of layer 3 (spans), of the program and of the reference. Walks: the function values that the spans' and the guards' loops go through (common pages of two sets; runs of usable pages). Walks: the checks of layer 11 (guards), of the program and of the reference; the kind of a page. Openers: what a system is made of (law 11's Made) as it comes in; a plan. Walks of law 24's own functions: system. Walks of law 11's own functions over a system: system, great. The reference's system in memory. Plain words for what a system's Save says: the runs of pages of one kind, the huge groups, the pages with bytes. Walks of layer 6: the runs of a system as a function value that is ranged over. -/
import Derived.Test.YtdepkmpilipolaaGreatChecked
import Derived.Laws.StructEq
import Derived.Sort.CutIn
import Derived.Test.YtdepkmpilipolaaGreatA2
namespace Go.Pol
open Go Go.RowKit
/-- what Split makes of a system -/
def splitF (V : Vm) (p : Int) : Int × Vm := if fstB p = false then (7, V) else makeF V p 16 6 (fun g => g.huge) (fun g => g.hugeP false)
/-- so many numbers, whichever -/
structure IntsC (cs : Array Value) (n : Nat) : Prop where
  size : cs.size = n
  at_ : ∀ j, j < n → ∃ z : Int, cs[j]? = some (.int .i64 z)
theorem IntsC.set {cs : Array Value} {n : Nat} (h : IntsC cs n) (i : Nat) (z : Int) : IntsC (cs.setIfInBounds i (.int .i64 z)) n := by
  refine ⟨by simp [h.size], fun j hj => ?_⟩
  rw [Array.getElem?_setIfInBounds]
  by_cases e : i = j
  · rw [if_pos e, if_pos (by rw [h.size]; omega)]
    exact ⟨z, rfl⟩
  · rw [if_neg e]
    exact h.at_ j hj
theorem IntsC.one {cs : Array Value} {n : Nat} (h : IntsC cs n) : ∀ x ∈ cs.toList, x.oneCell' = true := by
  intro x hx
  obtain ⟨i, hi, rfl⟩ := List.mem_iff_getElem.1 hx
  obtain ⟨z, hz⟩ := h.at_ i (by rw [← h.size]; simpa using hi)
  rw [Array.getElem?_eq_getElem (by simpa using hi)] at hz
  simp only [Option.some.injEq] at hz
  rw [Array.getElem_toList, hz]
  rfl
end Go.Pol
namespace Go.Proofs.YtdepkmpilipolaaGreat
open Go Go.Proofs Go.RowKit Go.Pol Go.Shelf
attribute [local go_sem] Oper.semAt_some Go.Pol.wide_fn Go.Pol.wide_depth Go.Pol.wide_fn' Go.Pol.wide_depth'

/-- four pointers to numbers -/
theorem infoVc : (Tryz.prog.info? 117).map (·.size) = some 5 := by kernel_rfl
set_option maxRecDepth 100000 in
set_option maxHeartbeats 1600000 in
theorem counts_any (b : Nat) (V : Vm) (w : World) (hV : SysIs w b V) (hk : KindOk V) :
    Calls Tryz.prog 56 #[.pointer (some ⟨b, 0, none⟩)] w fun e w' => (∃ cs, IntsC cs 5 ∧ e = .returned (.tuple #[.agg cs, .int .i64 0])) ∧ Below w.heap.size w w' := by
  have hb0 := (Below.refl w.heap.size w).alloc (Nat.le_refl _) (.cells #[.int .i64 0, .int .i64 0, .int .i64 0, .int .i64 0, .int .i64 0] 117)
  have k0 := Blk.new w 117 #[.int .i64 0, .int .i64 0, .int .i64 0, .int .i64 0, .int .i64 0]
  have HI := Lib.hid (fun W h => is_any b V W h)
  have HF := Lib.hid (fun (p : Int) W => vfirst_any p W)
  have V0 := hV.call hb0
  have hbs := hV.lt
  have hk' := Lib.hid hk
  have hV' := Lib.hid hV
  obtain ⟨s, hs⟩ : ∃ s, w.heap.size = s := ⟨_, rfl⟩
  have hsz0 : (w.alloc (.cells #[.int .i64 0, .int .i64 0, .int .i64 0, .int .i64 0, .int .i64 0] 117)).heap.size = s + 1 := by rw [World.size_alloc, hs]
  rw [hs] at k0 hbs
  clear hk hV
  go_enter Tryz.func56, Tryz.ntmps56
  go_upto_region 1 with fail
  generalize w.alloc _ = w0 at *
  go_wp2_with fail
  refine (HI.out _ V0).mono ?_
  rintro e9 w9 ⟨rfl, hw9⟩
  replace hw9 := hw9.symm
  subst hw9
  go_upto_region 4 with fail
  have hb1 := hb0.alloc (by omega) (.cells #[.int .i64 0, .int .i64 0, .int .i64 0, .int .i64 0, .int .i64 0] 117)
  have k01 := k0.alloc (.cells #[.int .i64 0, .int .i64 0, .int .i64 0, .int .i64 0, .int .i64 0] 117)
  have k4 := Blk.new w0 117 #[.int .i64 0, .int .i64 0, .int .i64 0, .int .i64 0, .int .i64 0]
  have hsz1 : (w0.alloc (.cells #[.int .i64 0, .int .i64 0, .int .i64 0, .int .i64 0, .int .i64 0] 117)).heap.size = s + 2 := by rw [World.size_alloc, hsz0]
  rw [hsz0] at k4
  clear V0 hb0 k0
  generalize w0.alloc _ = w1 at *
  have k5 := Blk.new w1 140 #[Value.pointer (some ⟨s + 1, 0, none⟩), Value.pointer (some ⟨s + 1, 1, none⟩), Value.pointer (some ⟨s + 1, 2, none⟩), Value.pointer (some ⟨s + 1, 3, none⟩)]
  rw [hsz1] at k5
  have k24 := k4.alloc (.cells #[Value.pointer (some ⟨s + 1, 0, none⟩), Value.pointer (some ⟨s + 1, 1, none⟩), Value.pointer (some ⟨s + 1, 2, none⟩), Value.pointer (some ⟨s + 1, 3, none⟩)] 140)
  have k20 := k01.alloc (.cells #[Value.pointer (some ⟨s + 1, 0, none⟩), Value.pointer (some ⟨s + 1, 1, none⟩), Value.pointer (some ⟨s + 1, 2, none⟩), Value.pointer (some ⟨s + 1, 3, none⟩)] 140)
  have B2 := hb1.alloc (by omega) (.cells #[Value.pointer (some ⟨s + 1, 0, none⟩), Value.pointer (some ⟨s + 1, 1, none⟩), Value.pointer (some ⟨s + 1, 2, none⟩), Value.pointer (some ⟨s + 1, 3, none⟩)] 140)
  go_wp2_with fail
  generalize w1.alloc _ = w2 at *
  have hint : IntsC #[.int .i64 0, .int .i64 0, .int .i64 0, .int .i64 0, .int .i64 0] 5 := ⟨rfl, fun j hj => by
    rcases (show j = 0 ∨ j = 1 ∨ j = 2 ∨ j = 3 ∨ j = 4 by omega) with rfl | rfl | rfl | rfl | rfl <;> exact ⟨0, rfl⟩⟩
  clear k4 k01 hb1 hsz0 hsz1
  go_loopw [16] (fun u wr => ∃ i : Nat, i ≤ 1024 ∧ u = .int .i64 i ∧ Below w.heap.size w wr ∧ Blk wr s 117 #[.int .i64 0, .int .i64 0, .int .i64 0, .int .i64 0, .int .i64 0] ∧ Blk wr (s + 2) 140 ([Value.pointer (some ⟨s + 1, 0, none⟩), Value.pointer (some ⟨s + 1, 1, none⟩), Value.pointer (some ⟨s + 1, 2, none⟩), Value.pointer (some ⟨s + 1, 3, none⟩)]).toArray ∧ ∃ cs, IntsC cs 5 ∧ Blk wr (s + 1) 117 cs) (fun u _ => 1024 - (intOf u).toNat)
  case atStart => exact ⟨0, by omega, rfl, B2, k20, k5, _, hint, k24⟩
  case round =>
    clear k24 k20 B2 k5 hint
    obtain ⟨i, hi, rfl, hB, h0, h5, cs, hcs, h4⟩ := hrel
    by_cases hlt : i < 1024
    · have hil : (i : Int) < 1024 := by omega
      have hlt' : decide ((i : Int) < 1024) = true := by simpa using hil
      obtain ⟨cv, A, n, cap, hkv, hcv, _⟩ := (hV'.out.call hB).ex
      obtain ⟨hk0, hk3⟩ := hk'.out i hlt
      have e0 := (hkv.cell (1 + i * 66)).trans (hcv.kind hlt)
      generalize (V.pg i).kind = kd at *
      obtain ⟨d, rfl⟩ : ∃ d : Nat, kd = (d : Int) := ⟨kd.toNat, by omega⟩
      have hd4 : (d : Int) < 4 := by omega
      have e1 : wr.cell? ⟨s + 2, d, none⟩ = some (.pointer (some ⟨s + 1, d, none⟩)) := by
        rw [h5.cell]
        rcases (show d = 0 ∨ d = 1 ∨ d = 2 ∨ d = 3 by omega) with rfl | rfl | rfl | rfl <;> rfl
      obtain ⟨z, hz⟩ := hcs.at_ d (by omega)
      have e2 := (h4.cell d).trans hz
      have f2 := h4.frozen d
      have k4' := h4.set_ d (.int .i64 (wrap64 (z + 1)))
      have hcs' := hcs.set d (wrap64 (z + 1))
      have F4 := Far.setCell (T := fun k => k = s + 1) (p := ⟨s + 1, d, none⟩) (Far.refl _ wr) (fun _ => rfl) (.int .i64 (wrap64 (z + 1)))
      go_upto_region 9 with fail
      generalize wr.setCell ⟨s + 1, d, none⟩ _ = w3 at *
      clear e0 e1 e2 f2 hkv hcv hcs h4 hz
      have B3 := hB.trans (F4.below (by have := hB.size; omega) (fun k hk e => by omega))
      have h03 := F4.blk h0 (by show ¬ s = s + 1; omega)
      have h53 := F4.blk h5 (by show ¬ s + 2 = s + 1; omega)
      clear h0 h5 F4 hB
      generalize cs.setIfInBounds d _ = cs at *
      obtain ⟨cv, A, n, cap, hkv, hcv, _⟩ := (hV'.out.call B3).ex
      have e0 := (hkv.cell (1 + i * 66 + 1)).trans (hcv.hug hlt)
      obtain ⟨z4, hz4⟩ := hcs'.at_ 4 (by omega)
      have e2 := (k4'.cell 4).trans hz4
      have f2 := k4'.frozen 4
      have k4'' := k4'.set_ 4 (.int .i64 (wrap64 (z4 + 1)))
      have hcs'' := hcs'.set 4 (wrap64 (z4 + 1))
      have F4 := Far.setCell (T := fun k => k = s + 1) (p := ⟨s + 1, 4, none⟩) (Far.refl _ w3) (fun _ => rfl) (.int .i64 (wrap64 (z4 + 1)))
      clear hkv hcv
      cases hh : (V.pg i).huge with
      | false =>
        rw [hh] at e0
        clear hh
        go_wp2_with fail
        go_roundw
        case rel => exact ⟨i + 1, by omega, by go_num, B3, h03, h53, _, hcs', k4'⟩
        case measure => simp [intOf]; omega
      | true =>
        rw [hh] at e0
        clear hh
        have HF' := Lib.hid (HF.out (i : Int) w3)
        cases hf : fstB (i : Int) with
        | false =>
          rw [hf] at HF'
          clear hf
          go_wp2_with fail
          refine HF'.out.mono ?_
          rintro e9 w9 ⟨rfl, hw9⟩
          replace hw9 := hw9.symm
          subst hw9
          go_wp2_with fail
          go_roundw
          case rel => exact ⟨i + 1, by omega, by go_num, B3, h03, h53, _, hcs', k4'⟩
          case measure => simp [intOf]; omega
        | true =>
          rw [hf] at HF'
          clear hf
          go_wp2_with fail
          refine HF'.out.mono ?_
          rintro e9 w9 ⟨rfl, hw9⟩
          replace hw9 := hw9.symm
          subst hw9
          have B4 := B3.trans (F4.below (by have := B3.size; omega) (fun k hk e => by omega))
          have h04 := F4.blk h03 (by show ¬ s = s + 1; omega)
          have h54 := F4.blk h53 (by show ¬ s + 2 = s + 1; omega)
          go_wp2_with fail
          go_roundw
          case rel => exact ⟨i + 1, by omega, by go_num, B4, h04, h54, _, hcs'', k4''⟩
          case measure => simp [intOf]; omega
    · obtain rfl : i = 1024 := by omega
      have hlt' : decide (((1024 : Nat) : Int) < 1024) = false := by simp
      have hra : wr.rangeAt (s + 1) 0 cs.toList := fun j v hj => by
        rw [Nat.zero_add, h4.cell]
        simpa using hj
      have hsz := hcs.size
      have ht : wr.there s 0 cs.size := by rw [hsz]; exact z_there h0 0 5 (by simp)
      have hk9 := Blk.puts (g := s) (t := 117) (w := wr) (cs := #[]) cs.toList 0 wr _ h0
      rw [putA_all (by rw [Array.length_toList, hsz]; rfl), Array.toArray_toList] at hk9
      have hF9 := Far.puts (T := fun k => k = s) rfl cs.toList 0 wr wr (Far.refl _ _)
      have hone := Go.all_oneCell_toArray (hcs.one)
      rw [Array.toArray_toList] at hone
      have hinf : (Tryz.prog.info? 117).map (·.size) = some cs.size := by rw [hsz]; exact infoVc
      go_wp2_with (first
        | (refine wpList_load_mid rfl 117 (.tmp 4) rfl (s + 1) 0 rfl cs.toList _ hra Tryz.underlying117 rfl (by rw [Array.length_toList, hsz]; kernel_rfl) ?_; rw [Array.toArray_toList])
        | (refine wpList_store_mid rfl 117 (.tmp 2) (.tmp 48) rfl s 0 cs rfl rfl ht hinf hone ?_))
      generalize World.setCells wr s 0 _ = w9 at *
      have hra9 : w9.rangeAt s 0 cs.toList := fun j v hj => by
        rw [Nat.zero_add, hk9.cell]
        simpa using hj
      have hl9 := run_loadVar_mid (P := Tryz.prog) w9 s 0 117 cs.toList _ hra9 Tryz.underlying117 rfl (by rw [Array.length_toList, hsz]; kernel_rfl)
      rw [Array.toArray_toList] at hl9
      refine bodyPost_ret (v := .tuple #[.agg cs, .int .i64 0]) ?_ rfl ?_
      · exact z_results_cell_tmp Tryz.results56 rfl hl9
      exact ⟨⟨_, hcs, rfl⟩, hB.trans (hF9.below (by have := hB.size; omega) (fun k hk e => by omega))⟩
end Go.Proofs.YtdepkmpilipolaaGreat
namespace Go.Pol
open Go Go.RowKit
/-! the kinds of pages stay kinds -/
theorem KindOk.setP {V : Vm} (h : KindOk V) (p : Nat) {g : Pg} (hg : 0 ≤ g.kind ∧ g.kind ≤ 3) : KindOk (V.setP p g) := fun q hq => by
  show 0 ≤ (if q = p then g else V.pg q).kind ∧ (if q = p then g else V.pg q).kind ≤ 3
  split
  · exact hg
  · exact h q hq
theorem KindOk.eachP {V : Vm} (h : KindOk V) (a n : Nat) {f : Pg → Pg} (hf : ∀ g : Pg, (0 ≤ g.kind ∧ g.kind ≤ 3) → 0 ≤ (f g).kind ∧ (f g).kind ≤ 3) : KindOk (V.eachP a n f) := fun q hq => by
  show 0 ≤ (if a ≤ q ∧ q < a + n then f (V.pg q) else V.pg q).kind ∧ (if a ≤ q ∧ q < a + n then f (V.pg q) else V.pg q).kind ≤ 3
  split
  · exact hf _ (h q hq)
  · exact h q hq
theorem Vm.ref_pg (V : Vm) (call : Nat) : (V.ref call).pg = V.pg := by
  unfold Vm.ref
  repeat (first | rfl | split)
theorem KindOk.ref {V : Vm} (h : KindOk V) (call : Nat) : KindOk (V.ref call) := fun q hq => by rw [Vm.ref_pg]; exact h q hq
theorem KindOk.makeF {V : Vm} (h : KindOk V) (a n : Int) (call : Nat) (pr : Pg → Bool) {f : Pg → Pg} (hf : ∀ g : Pg, (0 ≤ g.kind ∧ g.kind ≤ 3) → 0 ≤ (f g).kind ∧ (f g).kind ≤ 3) : KindOk (makeF V a n call pr f).2 := by
  unfold Go.Pol.makeF
  split
  · exact h
  · split
    · exact h
    · split
      · exact h.ref call
      · exact (h.ref call).eachP _ _ hf
theorem KindOk.bec {V : Vm} (h : KindOk V) (a n : Int) (call : Nat) (fr : Int) {tk : Int} (hk : 0 ≤ tk ∧ tk ≤ 3) : KindOk (bec V a n call fr tk).2 := h.makeF _ _ _ _ (fun _ _ => hk)
theorem KindOk.split {V : Vm} (h : KindOk V) (p : Int) : KindOk (splitF V p).2 := by
  unfold splitF
  split
  · exact h
  · exact h.makeF _ _ _ _ (fun _ hg => hg)
theorem KindOk.plan {V : Vm} (h : KindOk V) (l : List Ru) : KindOk (planF V l) := by
  unfold planF
  split
  · exact h
  · exact h
end Go.Pol
namespace Go.Pol
open Go Go.RowKit
theorem z_take {α : Type} (d : α) (l : List α) {k : Nat} (hk : k < l.length) : l.take (k + 1) = l.take k ++ [l.getD k d] := by
  rw [List.take_succ_eq_append_getElem hk, List.getD_eq_getElem?_getD, List.getElem?_eq_getElem hk]
  rfl
end Go.Pol
namespace Go.Pol
open Go Go.Proofs Go.RowKit Go.ChangeShapes Go.WideShapes Go.Deep
theorem Rd.of_elem {α : Type} {enc : α → List Value} {sz : Nat} {w : World} {B b o : Nat} (hlen : ∀ x, (enc x).length = sz) (h0 : 0 < sz) (d : α) (us : List α) (hb : us ≠ [] → b < B)
    (h : ∀ k, k < us.length → ∀ (j : Nat) (v : Value), (enc (us.getD k d))[j]? = some v → w.cell? ⟨b, o + k * sz + j, none⟩ = some v) : Rd w B (some ⟨b, o, none⟩) (fl enc us) := fun i hi => by
  have hl := fl_len hlen us
  have hk : i / sz < us.length := Nat.div_lt_of_lt_mul (by rw [Nat.mul_comm, ← hl]; exact hi)
  have hj : i % sz < sz := Nat.mod_lt _ h0
  have hi2 : i / sz * sz + i % sz = i := Nat.div_add_mod' i sz
  have e := fl_at hlen d us (i / sz) hk (i % sz) hj
  rw [hi2] at e
  refine ⟨b, o, rfl, hb (fun h => by rw [h] at hk; simp at hk), ?_⟩
  have := h (i / sz) hk (i % sz) _ (e.symm.trans (List.getElem?_eq_getElem hi))
  rwa [Nat.add_assoc, hi2] at this
section
variable {H : Type} {enc : TypeId × Value → H} {P : Program} {w : World} {base : Nat} {held : Bool}
/-- rules that came in -/
theorem openR {t e : TypeId} {f0 f1 f2 f3 : Field} {fuel : Nat} {v : Value} {x : DataW H × List MemPlace} (ht : P.underlying t = some (.slice e)) (he : P.underlying e = some (.struct #[f0, f1, f2, f3])) (hone : oneCellFields P #[f0, f1, f2, f3] = true) (hC : P.cellsOf e = 4)
    (h0 : P.underlying f0.type = some (.int .i64)) (h1 : P.underlying f1.type = some (.int .i64)) (h2 : P.underlying f2.type = some (.int .i64)) (h3 : P.underlying f3.type = some (.int .i64))
    (h : DataW.trod enc P w base (fun _ => true) held fuel t [v] = some x) : ∃ (A : Option Addr) (n cap : Nat) (us : List Ru), v = .slice A n cap ∧ us.length = n ∧ n ≤ maxLen ∧ Rd w w.heap.size A (fl ruC us) ∧ (A = none → cap = 0) := by
  rcases open_slice_fields ht he hone hC h with ⟨hcs, _⟩ | ⟨a, len, cap, m, D, Pl, hcs, _, hl, hm, hmm, _, hi⟩
  · simp only [List.cons.injEq, and_true] at hcs
    exact ⟨none, 0, 0, [], hcs, rfl, by unfold maxLen; omega, fun k hk => absurd hk (by simp [fl]), fun _ => rfl⟩
  · simp only [List.cons.injEq, and_true] at hcs
    simp only [if_true] at hmm
    have each : ∀ i, i < len → ∃ p q r s : Int, w.cell? (a.add (i * 4)) = some (.int .i64 p) ∧ w.cell? (a.add (i * 4 + 1)) = some (.int .i64 q) ∧ w.cell? (a.add (i * 4 + 2)) = some (.int .i64 r) ∧ w.cell? (a.add (i * 4 + 3)) = some (.int .i64 s) := by
      intro i hil
      obtain ⟨ys, n, _, _, _, hf⟩ := hi i (by omega)
      obtain ⟨v0, y0, c0, _, t0⟩ := hf 0 f0 rfl
      obtain ⟨v1, y1, c1, _, t1⟩ := hf 1 f1 rfl
      obtain ⟨v2, y2, c2, _, t2⟩ := hf 2 f2 rfl
      obtain ⟨v3, y3, c3, _, t3⟩ := hf 3 f3 rfl
      obtain ⟨p, e0, _⟩ := DataW.trod_int h0 t0
      obtain ⟨q, e1, _⟩ := DataW.trod_int h1 t1
      obtain ⟨r, e2, _⟩ := DataW.trod_int h2 t2
      obtain ⟨s, e3, _⟩ := DataW.trod_int h3 t3
      simp only [List.cons.injEq, and_true] at e0 e1 e2 e3
      subst e0; subst e1; subst e2; subst e3
      exact ⟨p, q, r, s, c0, c1, c2, c3⟩
    obtain ⟨f, hf⟩ := Classical.axiomOfChoice (r := fun (i : Nat) (x : Ru) => i < len → w.cell? (a.add (i * 4)) = some (.int .i64 x.1) ∧ w.cell? (a.add (i * 4 + 1)) = some (.int .i64 x.2.1) ∧ w.cell? (a.add (i * 4 + 2)) = some (.int .i64 x.2.2.1) ∧ w.cell? (a.add (i * 4 + 3)) = some (.int .i64 x.2.2.2)) (fun i => by
      by_cases hil : i < len
      · obtain ⟨p, q, r, s, c⟩ := each i hil
        exact ⟨(p, q, r, s), fun _ => c⟩
      · exact ⟨(0, 0, 0, 0), fun h => absurd h hil⟩)
    by_cases hz : len = 0
    · subst hz
      exact ⟨some a, 0, cap, [], hcs, rfl, by omega, fun k hk => absurd hk (by simp [fl]), fun h => (by cases h)⟩
    · obtain ⟨b, off, spot⟩ := a
      have hspot : spot = none := by
        obtain ⟨c0', _⟩ := hf 0 (by omega)
        simpa [Addr.add] using World.cell?_spot c0'
      subst hspot
      refine ⟨_, len, cap, (List.range len).map f, hcs, by simp, by omega, Rd.of_elem ruC_len (by omega) ru0 _ (fun _ => ?_) (fun k hk j v hj => ?_), fun h => (by cases h)⟩
      · obtain ⟨c0', _⟩ := hf 0 (by omega)
        rw [add_plain] at c0'
        exact World.block_lt_of_cell? _ _ c0'
      · have hk' : k < len := by simpa using hk
        obtain ⟨c0, c1, c2, c3⟩ := hf k hk'
        have e : ((List.range len).map f).getD k ru0 = f k := by simp [List.getD_eq_getElem?_getD, hk']
        rw [e] at hj
        rw [add_plain] at c0 c1 c2 c3
        match j, hj with
        | 0, hj => cases hj; exact c0
        | 1, hj => cases hj; rw [Nat.add_assoc]; exact c1
        | 2, hj => cases hj; rw [Nat.add_assoc]; exact c2
        | 3, hj => cases hj; rw [Nat.add_assoc]; exact c3
end
end Go.Pol
namespace Go.Proofs.YtdepkmpilipolaaGreat
open Go Go.Proofs Go.RowKit Go.Pol

theorem wrong_any (p n : Int) (w : World) :
    Calls Tryz.prog 87 #[.agg #[.int .i64 p, .int .i64 n]] w fun e w' => e = .returned (.bool (!vld (p, n))) ∧ Below w.heap.size w w' := by
  have hb0 := (Below.refl w.heap.size w).alloc (Nat.le_refl _) (.cells #[.int .i64 p, .int .i64 n] 64)
  by_cases h1 : p < 0
  · have h1' : decide (p < 0) = true := by simpa using h1
    go_enter Tryz.func87, Tryz.ntmps87
    go_wp2
    go_ret
    exact ⟨ret_bool (by simp [vld]; omega), hb0⟩
  have h1' : decide (p < 0) = false := by simpa using h1
  by_cases h2 : 1024 ≤ p
  · have h2' : decide (1024 ≤ p) = true := by simpa using h2
    go_enter Tryz.func87, Tryz.ntmps87
    go_wp2
    go_ret
    exact ⟨ret_bool (by simp [vld]; omega), hb0⟩
  have h2' : decide (1024 ≤ p) = false := by simpa using h2
  by_cases h3 : n < 1
  · have h3' : decide (n < 1) = true := by simpa using h3
    go_enter Tryz.func87, Tryz.ntmps87
    go_wp2
    go_ret
    exact ⟨ret_bool (by simp [vld]; omega), hb0⟩
  have h3' : decide (n < 1) = false := by simpa using h3
  go_enter Tryz.func87, Tryz.ntmps87
  go_wp2
  go_ret
  exact ⟨ret_bool (by rw [Bool.eq_iff_iff]; simp [vld]; omega), hb0⟩

theorem valid_any (p n : Int) (w : World) :
    Calls Tryz.prog 83 #[.agg #[.int .i64 p, .int .i64 n]] w fun e w' => e = .returned (.bool (vld (p, n))) ∧ Below w.heap.size w w' := by
  have hb0 := (Below.refl w.heap.size w).alloc (Nat.le_refl _) (.cells #[.int .i64 p, .int .i64 n] 64)
  by_cases h1 : 0 ≤ p
  case neg =>
    have h1' : decide (0 ≤ p) = false := by simpa using h1
    go_enter Tryz.func83, Tryz.ntmps83
    go_wp2
    go_ret
    exact ⟨ret_bool (by simp [vld]; omega), hb0⟩
  have h1' : decide (0 ≤ p) = true := by simpa using h1
  by_cases h2 : p < 1024
  case neg =>
    have h2' : decide (p < 1024) = false := by simpa using h2
    go_enter Tryz.func83, Tryz.ntmps83
    go_wp2
    go_ret
    exact ⟨ret_bool (by simp [vld]; omega), hb0⟩
  have h2' : decide (p < 1024) = true := by simpa using h2
  by_cases h3 : 1 ≤ n
  case neg =>
    have h3' : decide (1 ≤ n) = false := by simpa using h3
    go_enter Tryz.func83, Tryz.ntmps83
    go_wp2
    go_ret
    exact ⟨ret_bool (by simp [vld]; omega), hb0⟩
  have h3' : decide (1 ≤ n) = true := by simpa using h3
  go_enter Tryz.func83, Tryz.ntmps83
  go_wp2
  go_ret
  exact ⟨ret_bool (by rw [Bool.eq_iff_iff]; simp [vld]; omega), hb0⟩

theorem end_any (p n : Int) (w : World) (hp : -100000 ≤ p ∧ p ≤ 100000) (hn : -100000 ≤ n ∧ n ≤ 100000) :
    Calls Tryz.prog 89 #[.agg #[.int .i64 p, .int .i64 n]] w fun e w' => e = .returned (.int .i64 (p + n)) ∧ Below w.heap.size w w' := by
  have hb0 := (Below.refl w.heap.size w).alloc (Nat.le_refl _) (.cells #[.int .i64 p, .int .i64 n] 64)
  go_enter Tryz.func89, Tryz.ntmps89
  go_wp2
  go_ret
  exact ⟨rfl, hb0⟩

/-- where the first span that is not valid lies -/
def badAt : List Sp → Nat
  | [] => 0
  | x :: r => if vld x = true then badAt r + 1 else 0
theorem badAt_all : ∀ (s : List Sp), (badAt s = s.length ↔ s.all vld = true)
  | [] => by simp [badAt]
  | x :: r => by
    have := badAt_all r
    simp only [badAt, List.length_cons, List.all_cons]
    by_cases h : vld x = true
    · rw [if_pos h]; simp [h, this]
    · rw [if_neg h]; simp [h]
theorem badAt_at : ∀ (s : List Sp) (k : Nat), (∀ j, j < k → j < s.length → vld (s.getD j (0,0)) = true) → k < s.length → vld (s.getD k (0,0)) = false → badAt s = k
  | [], k, _, h, _ => by simp at h
  | x :: r, 0, _, _, h => by simp at h; simp [badAt, h]
  | x :: r, k + 1, hj, hk, h => by
    have h0 := hj 0 (by omega) (by simp)
    simp at h0
    rw [badAt, if_pos h0, badAt_at r k (fun j h1 h2 => by simpa using hj (j + 1) (by omega) (by simp; omega)) (by simpa using hk) (by simpa using h)]
theorem badAt_end (s : List Sp) (h : ∀ j, j < s.length → vld (s.getD j (0,0)) = true) : badAt s = s.length := by
  rw [badAt_all, List.all_eq_true]
  intro x hx
  obtain ⟨j, hj, rfl⟩ := List.getElem_of_mem hx
  simpa [List.getD_eq_getElem?_getD, hj] using h j hj

set_option maxHeartbeats 400000 in
theorem indexFunc_any (A : Option Addr) (n cap : Nat) (us : List Sp) (w : World) (hn : us.length = n) (hm : n ≤ maxLen) (hr : RU w w.heap.size A us) :
    Calls Tryz.prog 97 #[.slice A n cap, .func (.func 87) #[] #[]] w fun e w' => e = .returned (.int .i64 (if badAt us = n then -1 else (badAt us : Nat))) ∧ Below w.heap.size w w' := by
  unfold maxLen at hm
  have hn' := Lib.hid hn
  clear hn
  obtain ⟨R, hR0⟩ : ∃ R : Int, (if badAt us = n then -1 else ((badAt us : Nat) : Int)) = R := ⟨_, rfl⟩
  rw [hR0]
  have hR := Lib.hid hR0
  clear hR0
  go_enter Tryz.func97, Tryz.ntmps97
  go_wp2
  go_loopw [8] (fun i wr => ∃ (k : Int), 0 ≤ k ∧ k ≤ n ∧ i = .int .i64 k ∧ Below w.heap.size w wr ∧ Hid (∀ j : Nat, (j : Int) < k → j < us.length → vld (us.getD j (0,0)) = true)) (fun i _ => n - (intOf i).toNat)
  case atStart => exact ⟨0, by omega, by omega, rfl, Below.refl _ _, Lib.hid (fun j hj => absurd hj (by omega))⟩
  case round =>
    obtain ⟨k, hk0, hk, rfl, hB, hL⟩ := hrel
    by_cases hlt : k < n
    · obtain ⟨b, o, rfl, _, hc, hd⟩ := RU.at_' (hr.below hB) (k := k.toNat) (by have := hn'.out; omega)
      have hX : Hid (us.getD k.toNat (0,0) = us.getD k.toNat (0,0)) := Lib.hid rfl
      generalize hu : us.getD k.toNat (0,0) = u at *
      have hu' := Lib.hid hu; clear hu hX
      obtain ⟨x, y⟩ := u
      dsimp only at hc hd
      by_cases hv : vld (x, y) = true
      · have hv' : (!vld (x, y)) = false := by simp [hv]
        go_wp2_with (go_at_call 87; refine (wrong_any _ _ _).mono ?_; rintro e w1 ⟨rfl, hq⟩)
        have hB1 := hB.trans (hq.mono hB.size)
        go_roundw
        case rel =>
          refine ⟨k+1, by omega, by omega, rfl, hB1, Lib.hid (fun j hj hl => ?_)⟩
          by_cases hjk : (j : Int) < k
          · exact hL.out j hjk hl
          · obtain rfl : j = k.toNat := by omega
            rw [hu'.out]; exact hv
        case measure => simp [intOf]; omega
      · have hv' : (!vld (x, y)) = true := by simpa using hv
        have hE : Hid (badAt us = k.toNat) := Lib.hid (badAt_at us k.toNat (fun j h1 h2 => hL.out j (by omega) h2) (by have := hn'.out; omega) (by rw [hu'.out]; simpa using hv))
        clear hv
        go_wp2_with (go_at_call 87; refine (wrong_any _ _ _).mono ?_; rintro e w1 ⟨rfl, hq⟩)
        go_ret
        exact ⟨ret_int (by rw [← hR.out, hE.out, if_neg (by omega)]; omega), hB.trans (hq.mono hB.size)⟩
    · have hE : Hid (badAt us = n) := Lib.hid (by rw [← hn'.out]; exact badAt_end us (fun j h2 => hL.out j (by have := hn'.out; omega) h2))
      go_wp2
      go_ret
      exact ⟨ret_int (by rw [← hR.out, if_pos hE.out]), hB⟩

theorem containsFunc_any (A : Option Addr) (n cap : Nat) (us : List Sp) (w : World) (hn : us.length = n) (hm : n ≤ maxLen) (hr : RU w w.heap.size A us) :
    Calls Tryz.prog 90 #[.slice A n cap, .func (.func 87) #[] #[]] w fun e w' => e = .returned (.bool (!us.all vld)) ∧ Below w.heap.size w w' := by
  have HI := Lib.hid (indexFunc_any A n cap us w hn hm hr)
  have hR : Hid (decide (0 ≤ (if badAt us = n then (-1 : Int) else ((badAt us : Nat) : Int))) = !us.all vld) := Lib.hid (by
    have h := badAt_all us
    rw [hn] at h
    by_cases hb : badAt us = n
    · rw [if_pos hb, h.1 hb]; rfl
    · have : us.all vld = false := by rw [Bool.eq_false_iff]; exact fun hh => hb (h.2 hh)
      rw [if_neg hb, this]; simp)
  generalize (if badAt us = n then (-1 : Int) else ((badAt us : Nat) : Int)) = R at *
  clear hn hr
  go_enter Tryz.func90, Tryz.ntmps90
  go_wp2_with (go_at_call 97; refine (HI.out).mono ?_; rintro e w1 ⟨rfl, hq⟩)
  go_ret
  exact ⟨ret_bool hR.out, hq⟩

theorem form_step (us : List Sp) (e : Int) (k : Nat) (hk : k + 1 < us.length) (h : formOk e us = true ↔ formOk ((us.getD k (0,0)).1 + (us.getD k (0,0)).2) (us.drop (k+1)) = true) :
    formOk e us = true ↔ (us.getD k (0,0)).1 + (us.getD k (0,0)).2 < (us.getD (k+1) (0,0)).1 ∧ formOk ((us.getD (k+1) (0,0)).1 + (us.getD (k+1) (0,0)).2) (us.drop (k+2)) = true := by
  rw [h, drop_cons (0,0) us (k+1) hk, formOk_cons]
theorem form_start (us : List Sp) (h0 : 0 < us.length) (hv : us.all vld = true) : formOk (-1) us = true ↔ formOk ((us.getD 0 (0,0)).1 + (us.getD 0 (0,0)).2) (us.drop 1) = true := by
  cases us with
  | nil => simp at h0
  | cons x r =>
    have := vld_iff.1 ((by simpa using hv : vld x = true ∧ _).1)
    rw [formOk_cons]; simp; intro; omega
theorem all_at {us : List Sp} (hv : us.all vld = true) {k : Nat} (hk : k < us.length) : vld (us.getD k (0,0)) = true := by
  have := List.all_eq_true.1 hv us[k] (List.getElem_mem hk)
  simpa [List.getD_eq_getElem?_getD, hk] using this

set_option maxHeartbeats 800000 in
theorem spCheck_any (A : Option Addr) (n cap : Nat) (us : List Sp) (w : World) (hn : us.length = n) (hm : n ≤ maxLen) (hr : RU w w.heap.size A us) :
    Calls Tryz.prog 66 #[.slice A n cap] w fun e w' => e = .returned (.int .i64 (chkS us)) ∧ Below w.heap.size w w' := by
  have HC := Lib.hid (containsFunc_any A n cap us w hn hm hr)
  unfold maxLen at hm
  have hn' := Lib.hid hn
  clear hn
  obtain ⟨R, hR0⟩ : ∃ R : Int, chkS us = R := ⟨_, rfl⟩
  rw [hR0]
  have hR := Lib.hid hR0
  clear hR0
  by_cases hlen : 512 < n
  · have hlen' : decide (512 < (n : Int)) = true := by simp; omega
    go_enter Tryz.func66, Tryz.ntmps66
    go_wp2
    go_ret
    exact ⟨ret_int (by rw [← hR.out, chkS, if_pos (by rw [hn'.out]; exact hlen)]), Below.refl _ _⟩
  have hlen' : decide (512 < (n : Int)) = false := by simp; omega
  by_cases hall : us.all vld = true
  case neg =>
    have hall' : (!us.all vld) = true := by simpa using hall
    have hE : Hid (R = 7) := Lib.hid (by rw [← hR.out, chkS, if_neg (by rw [hn'.out]; exact hlen), if_pos (by simpa using hall)])
    rw [hall'] at HC
    clear hall hall' hr
    go_enter Tryz.func66, Tryz.ntmps66
    go_wp2_with (go_at_call 90; refine (HC.out).mono ?_; rintro e w1 ⟨rfl, hq⟩)
    go_ret
    exact ⟨ret_int hE.out.symm, hq⟩
  have hall' : (!us.all vld) = false := by rw [hall]; rfl
  have hR2 : Hid (R = if formOk (-1) us = true then 0 else 6) := Lib.hid (by rw [← hR.out, chkS, if_neg (by rw [hn'.out]; exact hlen), if_neg (by rw [hall]; decide)])
  have hA := Lib.hid hall
  rw [hall'] at HC
  clear hall hall' hR
  go_enter Tryz.func66, Tryz.ntmps66
  go_wp2_with (go_at_call 90; refine (HC.out).mono ?_; rintro e w1 ⟨rfl, hq⟩)
  go_loopw [3] (fun i wr => ∃ (k : Nat), (k + 1 ≤ n ∨ n = 0 ∧ k = 0) ∧ i = .int .i64 ((k : Int) + 1) ∧ Below w.heap.size w wr ∧ Hid (0 < n → (formOk (-1) us = true ↔ formOk ((us.getD k (0,0)).1 + (us.getD k (0,0)).2) (us.drop (k+1)) = true))) (fun i _ => n + 1 - (intOf i).toNat)
  case atStart => exact ⟨0, by omega, by simp, hq, Lib.hid (fun h => form_start us (by rw [hn'.out]; exact h) hA.out)⟩
  case round =>
    obtain ⟨k, hk, rfl, hB, hL⟩ := hrel
    by_cases hlt : k + 1 < n
    · have hlt' : decide ((k : Int) + 1 < (n : Int)) = true := by simp; omega
      obtain ⟨b, o, rfl, hbl, hc, hd⟩ := RU.at_' (hr.below hB) (k := k) (by have := hn'.out; omega)
      obtain ⟨b', o', had, _, hc2, hd2⟩ := RU.at_' (hr.below hB) (k := k + 1) (by have := hn'.out; omega)
      obtain ⟨rfl, rfl⟩ : b = b' ∧ o = o' := by simpa using had
      clear had
      have hst := Lib.hid (form_step us (-1) k (by have := hn'.out; omega) (hL.out (by omega)))
      have hv1 := vld_iff.1 (all_at hA.out (k := k) (by have := hn'.out; omega))
      have hv2 := vld_iff.1 (all_at hA.out (k := k + 1) (by have := hn'.out; omega))
      generalize hu : us.getD k (0,0) = u at *
      generalize hv : us.getD (k+1) (0,0) = v at *
      have hv' := Lib.hid hv; clear hu hv hL
      obtain ⟨x, y⟩ := u
      obtain ⟨x2, y2⟩ := v
      dsimp only at hc hd hc2 hd2 hst hv1 hv2
      have q1 := fun y : Ext wr => y.cell hc
      have q2 := fun y : Ext wr => y.cell hd
      have q3 := fun y : Ext wr => y.cell hc2
      have q4 := fun y : Ext wr => y.cell hd2
      have HEC : Hid (∀ z : Ext wr, Calls Tryz.prog 89 #[.agg #[.int .i64 x, .int .i64 y]] z.w fun e w'' => e = .returned (.int .i64 (x + y)) ∧ ∃ t : Ext wr, w'' = t.w) := Lib.hid (fun z => Ext.call (end_any x y _ (by omega) (by omega)))
      by_cases hle : x2 ≤ x + y
      · have hle' : decide (x2 ≤ x + y) = true := by simpa using hle
        have hE : Hid (R = 6) := Lib.hid (by rw [hR2.out, if_neg (by rw [hst.out]; omega)])
        clear hst hR2 hv1 hv2
        go_upto_region 8 with fail
        refine region_ext (by kernel_rfl) (by kernel_rfl) ?_
        repeat (go_big_quiet_step ((go_at_call 89; exact HEC.out _)))
        refine wpQuiet_nil ?_
        rintro w2 ⟨⟨_, hw2⟩, rfl⟩
        go_wp2_with fail
        go_ret
        exact ⟨ret_int hE.out.symm, hB.trans (hw2.mono hB.size)⟩
      · have hle' : decide (x2 ≤ x + y) = false := by simpa using hle
        have hst' : Hid (formOk (-1) us = true ↔ formOk (x2 + y2) (us.drop (k + 1 + 1)) = true) := Lib.hid (by rw [hst.out]; exact ⟨fun h => h.2, fun h => ⟨by omega, h⟩⟩)
        clear hst hv1 hv2
        go_upto_region 8 with fail
        refine region_ext (by kernel_rfl) (by kernel_rfl) ?_
        repeat (go_big_quiet_step ((go_at_call 89; exact HEC.out _)))
        refine wpQuiet_nil ?_
        rintro w2 ⟨⟨_, hw2⟩, rfl⟩
        go_wp2_with fail
        go_roundw
        case rel => exact ⟨k + 1, by omega, by simp, hB.trans (hw2.mono hB.size), Lib.hid (fun _ => by rw [hv'.out]; exact hst'.out)⟩
        case measure => simp [intOf]; omega
    · have hlt' : decide ((k : Int) + 1 < (n : Int)) = false := by simp; omega
      have hE : Hid (R = 0) := Lib.hid (by
        rw [hR2.out, if_pos]
        by_cases h0 : 0 < n
        · rw [hL.out h0, List.drop_of_length_le (by have := hn'.out; omega)]; rfl
        · rw [List.eq_nil_of_length_eq_zero (by have := hn'.out; omega : us.length = 0)]; rfl)
      clear hR2
      go_wp2_with fail
      go_ret
      exact ⟨ret_int hE.out.symm, hB⟩

/-- what 'ask' and 'asked' answer -/
def askS (s : List Sp) (x : Sp) : Int := if chkS s = 0 then (if vld x = true then 0 else 7) else chkS s
theorem ask_any (A : Option Addr) (n cap : Nat) (us : List Sp) (p q : Int) (w : World) (hn : us.length = n) (hm : n ≤ maxLen) (hr : RU w w.heap.size A us) :
    Calls Tryz.prog 64 #[.slice A n cap, .agg #[.int .i64 p, .int .i64 q]] w fun e w' => e = .returned (.int .i64 (askS us (p, q))) ∧ Below w.heap.size w w' := by
  have HC := Lib.hid (fun W (h : RU W W.heap.size A us) => spCheck_any A n cap us W hn hm h)
  obtain ⟨R, hR0⟩ : ∃ R : Int, askS us (p, q) = R := ⟨_, rfl⟩
  rw [hR0]
  have hR := Lib.hid hR0
  clear hR0
  have hb0 := (Below.refl w.heap.size w).alloc (Nat.le_refl _) (.cells #[.int .i64 p, .int .i64 q] 64)
  have k0 := Blk.new w 64 #[.int .i64 p, .int .i64 q]
  have hr0 : RU _ _ A us := (hr.below hb0).more hb0.size
  clear hr hn
  by_cases hc : chkS us = 0
  · rw [hc] at HC
    by_cases hv : vld (p, q) = true
    · have hv' : (!vld (p, q)) = false := by simp [hv]
      have hE : Hid (R = 0) := Lib.hid (by rw [← hR.out, askS, if_pos hc, if_pos hv])
      clear hv hc
      go_enter Tryz.func64, Tryz.ntmps64
      go_wp2_with (first
        | (go_at_call 66; refine (HC.out _ hr0).mono ?_; rintro e w1 ⟨rfl, hq⟩; have k1 := k0.call hq; have c1 := k1.cell)
        | (go_at_call 87; refine (wrong_any _ _ _).mono ?_; rintro e w2 ⟨rfl, hq2⟩))
      go_ret
      have hB1 := hb0.trans (hq.mono hb0.size)
      exact ⟨ret_int hE.out.symm, hB1.trans (hq2.mono hB1.size)⟩
    · have hv' : (!vld (p, q)) = true := by simpa using hv
      have hE : Hid (R = 7) := Lib.hid (by rw [← hR.out, askS, if_pos hc, if_neg hv])
      clear hv hc
      go_enter Tryz.func64, Tryz.ntmps64
      go_wp2_with (first
        | (go_at_call 66; refine (HC.out _ hr0).mono ?_; rintro e w1 ⟨rfl, hq⟩; have k1 := k0.call hq; have c1 := k1.cell)
        | (go_at_call 87; refine (wrong_any _ _ _).mono ?_; rintro e w2 ⟨rfl, hq2⟩))
      go_ret
      have hB1 := hb0.trans (hq.mono hb0.size)
      exact ⟨ret_int hE.out.symm, hB1.trans (hq2.mono hB1.size)⟩
  · have hE : Hid (R = chkS us) := Lib.hid (by rw [← hR.out, askS, if_neg hc])
    generalize chkS us = c at *
    have hc' : (c != 0) = true := by simpa using hc
    clear hc
    go_enter Tryz.func64, Tryz.ntmps64
    go_wp2_with (first
      | (go_at_call 66; refine (HC.out _ hr0).mono ?_; rintro e w1 ⟨rfl, hq⟩; have k1 := k0.call hq; have c1 := k1.cell))
    go_ret
    exact ⟨ret_int hE.out.symm, hb0.trans (hq.mono hb0.size)⟩

set_option maxRecDepth 100000 in
theorem eq40 (x1 x2 y1 y2 : Int) (w : World) : (Op.equalIn 10000 64 (.agg #[.int .i64 x1, .int .i64 x2]) (.agg #[.int .i64 y1, .int .i64 y2])).run Tryz.prog w = .ok (decide (x1 = y1 ∧ x2 = y2)) w := by
  have u3 := Tryz.underlying3
  have a3 := Tryz.isAgg3
  have z3 := Tryz.sizeOf3
  rw [show (10000 : Nat) = 9999 + 1 from rfl]
  by_cases h1 : x1 = y1 <;> by_cases h2 : x2 = y2 <;> go_simp <;> simp [h1, h2]
set_option maxHeartbeats 400000 in
theorem same_any (A B : Option Addr) (n m cap cap' : Nat) (xs ys : List Sp) (w : World) (hn : xs.length = n) (hm : n ≤ maxLen) (hn2 : ys.length = m) (hm2 : m ≤ maxLen) (hr : RU w w.heap.size A xs) (hs : RU w w.heap.size B ys) :
    Calls Tryz.prog 10 #[.slice A n cap, .slice B m cap'] w fun e w' => e = .returned (.bool (decide (xs = ys))) ∧ Below w.heap.size w w' := by
  unfold maxLen at hm hm2
  have hn' := Lib.hid hn
  have hm' := Lib.hid hn2
  clear hn hn2
  by_cases hnm : n = m
  case neg =>
    have hne : ((n : Int) != m) = true := by rw [bne_iff_ne]; omega
    have H : Hid (decide (xs = ys) = false) := Lib.hid (by rw [decide_eq_false_iff_not]; rintro rfl; exact hnm (hn'.out.symm.trans hm'.out))
    go_enter Tryz.func10, Tryz.ntmps10
    go_wp2
    go_ret
    exact ⟨ret_bool H.out.symm, Below.refl _ _⟩
  case pos =>
    subst hnm
    have hne : ((n : Int) != n) = false := by simp
    go_enter Tryz.func10, Tryz.ntmps10
    go_wp2
    go_loopw [5] (fun i wr => ∃ (k : Int), 0 ≤ k ∧ k ≤ n ∧ i = .int .i64 k ∧ Below w.heap.size w wr ∧ Hid (xs = ys ↔ xs.drop k.toNat = ys.drop k.toNat)) (fun i _ => n - (intOf i).toNat)
    case atStart => exact ⟨0, by omega, by omega, rfl, Below.refl _ _, Lib.hid (by simp)⟩
    case round =>
      obtain ⟨k, hk1, hk, rfl, hB, hL⟩ := hrel
      have hr1 := hr.below hB
      have hs1 := hs.below hB
      by_cases hlt : k < n
      · have hlt' : decide (k < (n : Int)) = true := by simpa using hlt
        obtain ⟨b, o, rfl, _, hc, hd⟩ := RU.at_' hr1 (k := k.toNat) (by have := hn'.out; omega)
        obtain ⟨b2, o2, rfl, _, hc2, hd2⟩ := RU.at_' hs1 (k := k.toNat) (by have := hm'.out; omega)
        have hd1 := Lib.hid (drop_cons (0,0) xs k.toNat (by have := hn'.out; omega))
        have hd2' := Lib.hid (drop_cons (0,0) ys k.toNat (by have := hm'.out; omega))
        have hsucc : Hid ((k+1).toNat = k.toNat + 1) := Lib.hid (by omega)
        generalize xs.getD k.toNat (0,0) = x at *
        generalize ys.getD k.toNat (0,0) = y at *
        obtain ⟨x1, x2⟩ := x
        obtain ⟨y1, y2⟩ := y
        dsimp only at hc hd hc2 hd2
        have hcx := fun y : Ext wr => y.cell hc
        have hcy := fun y : Ext wr => y.cell hc2
        have hdx := fun y : Ext wr => y.cell hd
        have hdy := fun y : Ext wr => y.cell hd2
        have hq := fun (W : World) => eq40 x1 x2 y1 y2 W
        by_cases hxy : x1 = y1 ∧ x2 = y2
        · have hxy' : decide (x1 = y1 ∧ x2 = y2) = true := by simpa using hxy
          have hst : Hid (xs = ys ↔ xs.drop (k+1).toNat = ys.drop (k+1).toNat) := Lib.hid (by rw [hL.out, hd1.out, hd2'.out, hsucc.out]; simp [hxy])
          rw [hxy'] at hq
          clear hxy hxy'
          go_upto_region 6 with fail
          refine region_ext (by kernel_rfl) (by kernel_rfl) ?_
          repeat (go_big_quiet_step (fail))
          refine wpQuiet_nil ?_
          rintro w1 ⟨⟨_, hw1⟩, rfl⟩
          go_wp2_with fail
          go_roundw
          case rel => exact ⟨k+1, by omega, by omega, rfl, hB.trans (hw1.mono hB.size), hst⟩
          case measure => simp [intOf]; omega
        · have hxy' : decide (x1 = y1 ∧ x2 = y2) = false := by simpa using hxy
          have hE : Hid (decide (xs = ys) = false) := Lib.hid (by
            rw [decide_eq_false_iff_not, hL.out, hd1.out, hd2'.out]
            intro h
            injection h with h1 _
            exact hxy (by simpa using h1))
          rw [hxy'] at hq
          clear hxy hxy'
          go_upto_region 6 with fail
          refine region_ext (by kernel_rfl) (by kernel_rfl) ?_
          repeat (go_big_quiet_step (fail))
          refine wpQuiet_nil ?_
          rintro w1 ⟨⟨_, hw1⟩, rfl⟩
          go_wp2_with fail
          go_ret
          exact ⟨ret_bool hE.out.symm, hB.trans (hw1.mono hB.size)⟩
      · have hlt' : decide (k < (n : Int)) = false := by simp; omega
        go_wp2_with fail
        go_ret
        have : decide (xs = ys) = true := by rw [decide_eq_true_eq, hL.out, List.drop_of_length_le (by have := hn'.out; omega), List.drop_of_length_le (by have := hm'.out; omega)]
        exact ⟨ret_bool this.symm, hB⟩

end Go.Proofs.YtdepkmpilipolaaGreat
namespace Go.Pol
/-- the runs of usable pages from a page on -/
def runsF (size en : Int) : Nat → Int → List Sp
  | 0, _ => []
  | k + 1, at_ => if at_ < en then (at_, min size (en - at_)) :: runsF size en k (at_ + size + 1) else []
def runsL (pg n f b ev : Int) : List Sp := runsF (if ev = 0 then 1024 else ev) (pg + n - b) 1025 (pg + f)
def lenOf : Option Value → Nat
  | some (.slice _ n _) => n
  | _ => 0
/-- the numbers of a plan are as they must be -/
structure PlanOk (pg n f b ev : Int) : Prop where
  pg0 : 0 ≤ pg
  pg1 : pg < 1024
  n0 : 1 ≤ n
  n1 : n ≤ 1024 - pg
  f0 : 0 ≤ f
  f1 : f ≤ 16
  b0 : 0 ≤ b
  b1 : b ≤ 16
  e0 : 0 ≤ ev
  e1 : ev ≤ 1024
  fb : f + b < n
end Go.Pol
namespace Go.Proofs.YtdepkmpilipolaaGreat
open Go Go.Proofs Go.RowKit Go.Pol
attribute [local go_sem] Oper.semAt_some Go.Pol.wide_fn Go.Pol.wide_depth Go.Pol.wide_fn' Go.Pol.wide_depth'

abbrev planV (pg n f b ev : Int) : Value := .agg #[.int .i64 pg, .int .i64 n, .int .i64 f, .int .i64 b, .int .i64 ev]
abbrev planC (pg n f b ev : Int) : Array Value := #[.int .i64 pg, .int .i64 n, .int .i64 f, .int .i64 b, .int .i64 ev]
abbrev spV (x : Sp) : Array Value := #[.agg #[.int .i64 x.1, .int .i64 x.2]]

theorem inner_any (pg n f b ev : Int) (w : World) (hp : PlanOk pg n f b ev) :
    Calls Tryz.prog 47 #[planV pg n f b ev] w fun e w' => e = .returned (.tuple #[.int .i64 (pg + f), .int .i64 (pg + n - b)]) ∧ Below w.heap.size w w' := by
  obtain ⟨h1, h2, h3, h4, h5, h6, h7, h8, h9, h10, h11⟩ := hp
  have hb0 := (Below.refl w.heap.size w).alloc (Nat.le_refl _) (.cells (planC pg n f b ev) 31)
  have k0 := Blk.new w 31 (planC pg n f b ev)
  have q := fun (x : Ext (w.alloc (.cells (planC pg n f b ev) 31))) => (x.blk k0).cell
  go_enter Tryz.func47, Tryz.ntmps47
  go_upto_region 1 with fail
  refine region_ext (by kernel_rfl) (by kernel_rfl) ?_
  repeat (go_big_quiet_step (fail))
  refine wpQuiet_nil ?_
  rintro w2 ⟨⟨_, hw2⟩, rfl⟩
  go_wp2_with fail
  go_ret2
  exact ⟨rfl, hb0.trans (hw2.mono hb0.size)⟩

theorem prefix_snoc {α : Type} {pre rest xs : List α} {x : α} (h : xs = pre ++ x :: rest) : pre ++ [x] <+: xs := ⟨rest, by simp [h]⟩

set_option maxRecDepth 100000 in
set_option maxHeartbeats 800000 in
theorem runs1_seq (pg n f b ev : Int) (B : Nat) (w : World) (hp : PlanOk pg n f b ev) (hB : Blk w B 31 (planC pg n f b ev)) :
    SeqF Tryz.prog 68 #[.pointer (some ⟨B, 0, none⟩)] spV (fun _ => False) (fun k => k = B) (runsL pg n f b ev) w := by
  intro m l J Jx W hW hJ hJx hY h0
  have kB := hW.blk hB (by simp)
  have HI := Lib.hid (inner_any pg n f b ev · hp)
  obtain ⟨h1, h2, h3, h4, h5, h6, h7, h8, h9, h10, h11⟩ := hp
  refine callsIn_of_wp Tryz.func68 rfl trivial ?_ rfl
  simp only [Tryz.ntmps68, List.size_toArray, List.length_cons, List.length_nil, Nat.reduceAdd, Nat.reduceSub, Array.replicate_succ, Array.replicate_zero, List.push_toArray, List.append_toArray, List.nil_append, List.cons_append]
  have cB := kB.cell
  by_cases he : ev = 0
  · subst he
    have hR : Hid (runsL pg n f b 0 = runsF 1024 (pg + n - b) 1025 (pg + f)) := Lib.hid rfl
    gi_wp2_with (gi_at_call 47; refine (callsIn_wide.2 (HI.out W)).mono ?_; rintro e w1 ⟨rfl, hq⟩; have k1 := kB.call hq; have c1 := k1.cell; have hJ1 := hJ [] W w1 h0 (.of_below hq))
    gi_loopw [6] (fun i wr => ∃ (k : Nat) (a : Int) (pre : List Sp), i = .int .i64 a ∧ 0 ≤ a ∧ a ≤ 4096 ∧ pg + n - b - a < k ∧ J pre wr ∧ Hid (runsL pg n f b 0 = pre ++ runsF 1024 (pg + n - b) k a)) (fun i _ => (pg + n - b - intOf i).toNat)
    case atStart => exact ⟨1025, pg + f, [], rfl, by omega, by omega, by omega, hJ1, Lib.hid (by rw [hR.out]; rfl)⟩
    case round =>
      obtain ⟨k, a, pre, rfl, ha0, ha1, hk, hJs, hL⟩ := hrel
      by_cases hlt : a < pg + n - b
      · have hlt' : decide (a < pg + n - b) = true := by simpa using hlt
        obtain ⟨k', rfl⟩ : ∃ k', k = k' + 1 := ⟨k - 1, by omega⟩
        by_cases hmi : 1024 ≤ pg + n - b - a
        · have hL2 : Hid (runsL pg n f b 0 = pre ++ (a, 1024) :: runsF 1024 (pg + n - b) k' (a + 1024 + 1)) := Lib.hid (by rw [hL.out, runsF, if_pos hlt, show min 1024 (pg + n - b - a) = 1024 by omega])
          obtain ⟨fn, tmps, assign, body, hy, hRd⟩ := hY (m - 1) pre (a, 1024) wr hJs (prefix_snoc hL2.out)
          clear hL hY
          gi_wp2
          refine hRd.mono ?_
          rintro e W3 (⟨rfl, hJ3, _⟩ | ⟨rfl, hJx3⟩)
          · gi_wp2
            go_roundw
            case rel => exact ⟨k', a + 1024 + 1, pre ++ [(a, 1024)], by go_num, by omega, by omega, by omega, hJ3, Lib.hid (by rw [hL2.out]; simp)⟩
            case measure => simp [intOf]; omega
          · gi_wp2
            refine bodyPost_ret (results_none rfl _ _ _) rfl ?_
            exact ⟨⟨_, rfl⟩, .inr ⟨pre ++ [(a, 1024)], prefix_snoc hL2.out, hJx3⟩⟩
        · have hL2 : Hid (runsL pg n f b 0 = pre ++ (a, pg + n - b - a) :: runsF 1024 (pg + n - b) k' (a + 1024 + 1)) := Lib.hid (by rw [hL.out, runsF, if_pos hlt, show min 1024 (pg + n - b - a) = pg + n - b - a by omega])
          obtain ⟨fn, tmps, assign, body, hy, hRd⟩ := hY (m - 1) pre (a, pg + n - b - a) wr hJs (prefix_snoc hL2.out)
          clear hL hY
          gi_wp2
          refine hRd.mono ?_
          rintro e W3 (⟨rfl, hJ3, _⟩ | ⟨rfl, hJx3⟩)
          · gi_wp2
            go_roundw
            case rel => exact ⟨k', a + 1024 + 1, pre ++ [(a, pg + n - b - a)], by go_num, by omega, by omega, by omega, hJ3, Lib.hid (by rw [hL2.out]; simp)⟩
            case measure => simp [intOf]; omega
          · gi_wp2
            refine bodyPost_ret (results_none rfl _ _ _) rfl ?_
            exact ⟨⟨_, rfl⟩, .inr ⟨pre ++ [(a, pg + n - b - a)], prefix_snoc hL2.out, hJx3⟩⟩
      · have hlt' : decide (a < pg + n - b) = false := by simpa using hlt
        have hL2 : Hid (pre = runsL pg n f b 0) := Lib.hid (by
          rw [hL.out]
          cases k with
          | zero => simp [runsF]
          | succ k => rw [runsF, if_neg hlt]; simp)
        gi_wp2
        go_end0
        exact ⟨⟨_, rfl⟩, .inl (by rw [← hL2.out]; exact hJs)⟩
  · have he' : (ev == 0) = false := by simpa using he
    have hR : Hid (runsL pg n f b ev = runsF ev (pg + n - b) 1025 (pg + f)) := Lib.hid (by unfold runsL; rw [if_neg he])
    gi_wp2_with (gi_at_call 47; refine (callsIn_wide.2 (HI.out W)).mono ?_; rintro e w1 ⟨rfl, hq⟩; have k1 := kB.call hq; have c1 := k1.cell; have hJ1 := hJ [] W w1 h0 (.of_below hq))
    gi_loopw [6] (fun i wr => ∃ (k : Nat) (a : Int) (pre : List Sp), i = .int .i64 a ∧ 0 ≤ a ∧ a ≤ 4096 ∧ pg + n - b - a < k ∧ J pre wr ∧ Hid (runsL pg n f b ev = pre ++ runsF ev (pg + n - b) k a)) (fun i _ => (pg + n - b - intOf i).toNat)
    case atStart => exact ⟨1025, pg + f, [], rfl, by omega, by omega, by omega, hJ1, Lib.hid (by rw [hR.out]; rfl)⟩
    case round =>
      obtain ⟨k, a, pre, rfl, ha0, ha1, hk, hJs, hL⟩ := hrel
      by_cases hlt : a < pg + n - b
      · have hlt' : decide (a < pg + n - b) = true := by simpa using hlt
        obtain ⟨k', rfl⟩ : ∃ k', k = k' + 1 := ⟨k - 1, by omega⟩
        by_cases hmi : ev ≤ pg + n - b - a
        · have hL2 : Hid (runsL pg n f b ev = pre ++ (a, ev) :: runsF ev (pg + n - b) k' (a + ev + 1)) := Lib.hid (by rw [hL.out, runsF, if_pos hlt, show min ev (pg + n - b - a) = ev by omega])
          obtain ⟨fn, tmps, assign, body, hy, hRd⟩ := hY (m - 1) pre (a, ev) wr hJs (prefix_snoc hL2.out)
          clear hL hY
          gi_wp2
          refine hRd.mono ?_
          rintro e W3 (⟨rfl, hJ3, _⟩ | ⟨rfl, hJx3⟩)
          · gi_wp2
            go_roundw
            case rel => exact ⟨k', a + ev + 1, pre ++ [(a, ev)], by go_num, by omega, by omega, by omega, hJ3, Lib.hid (by rw [hL2.out]; simp)⟩
            case measure => simp [intOf]; omega
          · gi_wp2
            refine bodyPost_ret (results_none rfl _ _ _) rfl ?_
            exact ⟨⟨_, rfl⟩, .inr ⟨pre ++ [(a, ev)], prefix_snoc hL2.out, hJx3⟩⟩
        · have hL2 : Hid (runsL pg n f b ev = pre ++ (a, pg + n - b - a) :: runsF ev (pg + n - b) k' (a + ev + 1)) := Lib.hid (by rw [hL.out, runsF, if_pos hlt, show min ev (pg + n - b - a) = pg + n - b - a by omega])
          obtain ⟨fn, tmps, assign, body, hy, hRd⟩ := hY (m - 1) pre (a, pg + n - b - a) wr hJs (prefix_snoc hL2.out)
          clear hL hY
          gi_wp2
          refine hRd.mono ?_
          rintro e W3 (⟨rfl, hJ3, _⟩ | ⟨rfl, hJx3⟩)
          · gi_wp2
            go_roundw
            case rel => exact ⟨k', a + ev + 1, pre ++ [(a, pg + n - b - a)], by go_num, by omega, by omega, by omega, hJ3, Lib.hid (by rw [hL2.out]; simp)⟩
            case measure => simp [intOf]; omega
          · gi_wp2
            refine bodyPost_ret (results_none rfl _ _ _) rfl ?_
            exact ⟨⟨_, rfl⟩, .inr ⟨pre ++ [(a, pg + n - b - a)], prefix_snoc hL2.out, hJx3⟩⟩
      · have hlt' : decide (a < pg + n - b) = false := by simpa using hlt
        have hL2 : Hid (pre = runsL pg n f b ev) := Lib.hid (by
          rw [hL.out]
          cases k with
          | zero => simp [runsF]
          | succ k => rw [runsF, if_neg hlt]; simp)
        gi_wp2
        go_end0
        exact ⟨⟨_, rfl⟩, .inl (by rw [← hL2.out]; exact hJs)⟩
theorem ru_tail {w : World} {B : Nat} {b o : Nat} {x : Sp} {us : List Sp} (h : RU w B (some ⟨b, o, none⟩) (x :: us)) : RU w B (some ⟨b, o + 2, none⟩) us := fun k hk => by
  obtain ⟨b', o', e, hb, hc, hd⟩ := h (k + 1) (by simp; omega)
  obtain ⟨rfl, rfl⟩ : b = b' ∧ o = o' := by simpa using e
  refine ⟨b, o + 2, rfl, hb, ?_, ?_⟩
  · rw [show o + 2 + k * 2 = o + (k + 1) * 2 by omega]; simpa using hc
  · rw [show o + 2 + k * 2 + 1 = o + (k + 1) * 2 + 1 by omega]; simpa using hd
theorem ru_head {w : World} {B : Nat} {A : Option Addr} {x : Sp} {us : List Sp} (h : RU w B A (x :: us)) : ∃ b o, A = some ⟨b, o, none⟩ ∧ b < B ∧ w.cell? ⟨b, o, none⟩ = some (.int .i64 x.1) ∧ w.cell? ⟨b, o + 1, none⟩ = some (.int .i64 x.2) := by
  obtain ⟨b, o, e, hb, hc, hd⟩ := h 0 (by simp)
  exact ⟨b, o, e, hb, by simpa using hc, by simpa using hd⟩
theorem tail_at {w : World} {N : Nat} {p o d : Nat} {x : Sp} {us : List Sp} (h : RU w N (some ⟨p, o, none⟩) (x :: us)) (hd : us.length + 1 ≤ d) :
    ∃ q, (if d = 1 then (some ⟨p, o, none⟩ : Option Addr) else some ⟨p, o + 2, none⟩) = some ⟨p, q, none⟩ ∧ RU w N (some ⟨p, q, none⟩) us := by
  by_cases h1 : d = 1
  · obtain rfl : us = [] := List.eq_nil_of_length_eq_zero (by omega)
    exact ⟨o, by rw [if_pos h1], RU.nil⟩
  · exact ⟨o + 2, by rw [if_neg h1], ru_tail h⟩
/-- a slice that the iterator still has before it -/
structure Left (w : World) (N : Nat) (K : Nat → Prop) (B1 B2 : Nat) (P : Option Addr) (m d : Nat) (us : List Sp) : Prop where
  len : us.length = m
  cap : m ≤ d
  max : d ≤ 9223372036854775807
  ru : RU w N P us
  own : us ≠ [] → ∀ b o, P = some ⟨b, o, none⟩ → K b ∧ b ≠ B1 ∧ b ≠ B2
  vl : ∀ x ∈ us, vld x = true
theorem Left.far {T : Nat → Prop} {w w' : World} {N : Nat} {K : Nat → Prop} {B1 B2 : Nat} {P : Option Addr} {m d : Nat} {us : List Sp} (h : Left w N K B1 B2 P m d us) (hf : Far T w w') (hT : ∀ k, K k → k ≠ B1 → k ≠ B2 → ¬ T k) : Left w' N K B1 B2 P m d us :=
  ⟨h.len, h.cap, h.max, by
    by_cases h0 : us = []
    · subst h0; exact RU.nil
    · exact hf.ru h.ru (fun b o e => by have := h.own h0 b o e; exact hT b this.1 this.2.1 this.2.2), h.own, h.vl⟩

set_option maxRecDepth 100000 in
set_option maxHeartbeats 1600000 in
theorem common1_seq (A1 A2 : Option Addr) (n1 c1 n2 c2 : Nat) (us vs : List Sp) (B1 B2 N : Nat) (K : Nat → Prop) (w : World) (hK1 : K B1) (hK2 : K B2) (hne : B1 ≠ B2)
    (k1 : Blk w B1 22 #[.slice A1 n1 c1]) (k2 : Blk w B2 22 #[.slice A2 n2 c2]) (hA : Left w N K B1 B2 A1 n1 c1 us) (hB : Left w N K B1 B2 A2 n2 c2 vs) :
    SeqF Tryz.prog 96 #[.pointer (some ⟨B1, 0, none⟩), .pointer (some ⟨B2, 0, none⟩)] spV (fun k => k = B1 ∨ k = B2) K (commonF us vs) w := by
  intro m l J Jx W hW hJ hJx hY h0
  have kB1 := hW.blk k1 (by simpa using hK1)
  have kB2 := hW.blk k2 (by simpa using hK2)
  have lA := hA.far hW (fun k hk _ _ h => h hk)
  have lB := hB.far hW (fun k hk _ _ h => h hk)
  refine callsIn_of_wp Tryz.func96 rfl trivial ?_ rfl
  simp only [Tryz.ntmps96, List.size_toArray, List.length_cons, List.length_nil, Nat.reduceAdd, Nat.reduceSub, Array.replicate_succ, Array.replicate_zero, List.push_toArray, List.append_toArray, List.nil_append, List.cons_append]
  gi_wp2_with fail
  gi_loopw [4] (fun _ wr => ∃ (us' vs' pre : List Sp) (P1 P2 : Option Addr) (m1 m2 d1 d2 : Nat), Blk wr B1 22 #[.slice P1 m1 d1] ∧ Blk wr B2 22 #[.slice P2 m2 d2] ∧ Left wr N K B1 B2 P1 m1 d1 us' ∧ Left wr N K B1 B2 P2 m2 d2 vs' ∧ J pre wr ∧ Hid (commonF us vs = pre ++ commonF us' vs'))
    (fun _ wr => lenOf (wr.cell? ⟨B1, 0, none⟩) + lenOf (wr.cell? ⟨B2, 0, none⟩))
  case atStart => exact ⟨us, vs, [], A1, A2, n1, n2, c1, c2, kB1, kB2, lA, lB, h0, Lib.hid rfl⟩
  case round =>
    obtain ⟨us', vs', pre, P1, P2, m1, m2, d1, d2, b1, b2, l1, l2, hJs, hL⟩ := hrel
    have q1 := b1.cell
    have q2 := b2.cell
    have f1 := b1.frozen
    have f2 := b2.frozen
    cases us' with
    | nil =>
      obtain rfl : m1 = 0 := by have := l1.len; simpa using this.symm
      have hE : Hid (pre = commonF us vs) := Lib.hid (by rw [hL.out, commonF_nil, List.append_nil])
      gi_wp2_with fail
      go_end0
      exact ⟨⟨_, rfl⟩, .inl (by rw [← hE.out]; exact hJs)⟩
    | cons x r =>
      have h1' : decide (0 < m1) = true := by have := l1.len; simp at this; simp; omega
      cases vs' with
      | nil =>
        obtain rfl : m2 = 0 := by have := l2.len; simpa using this.symm
        have hE : Hid (pre = commonF us vs) := Lib.hid (by rw [hL.out, commonF_nil', List.append_nil])
        gi_wp2_with fail
        go_end0
        exact ⟨⟨_, rfl⟩, .inl (by rw [← hE.out]; exact hJs)⟩
      | cons y s =>
        have h2' : decide (0 < m2) = true := by have := l2.len; simp at this; simp; omega
        have hlx := l1.len
        have hly := l2.len
        simp only [List.length_cons] at hlx hly
        have hmx := l1.max
        have hmy := l2.max
        have hcx := l1.cap
        have hcy := l2.cap
        obtain ⟨p1, o1, rfl, hp1, x1, x2⟩ := ru_head l1.ru
        obtain ⟨p2, o2, rfl, hp2, y1, y2⟩ := ru_head l2.ru
        have hvx := vld_iff.1 (l1.vl x (by simp))
        have hvy := vld_iff.1 (l2.vl y (by simp))
        obtain ⟨xa, xb⟩ := x
        obtain ⟨ya, yb⟩ := y
        dsimp only at x1 x2 y1 y2 hvx hvy
        have e1 := fun z : Ext wr => z.cell x1
        have e2 := fun z : Ext wr => z.cell x2
        have e3 := fun z : Ext wr => z.cell y1
        have e4 := fun z : Ext wr => z.cell y2
        have e5 := fun z : Ext wr => (z.blk b1).cell
        have e6 := fun z : Ext wr => (z.blk b2).cell
        have HE1 : Hid (∀ z : Ext wr, Calls Tryz.prog 89 #[.agg #[.int .i64 xa, .int .i64 xb]] z.w fun e w'' => e = .returned (.int .i64 (xa + xb)) ∧ ∃ t : Ext wr, w'' = t.w) := Lib.hid (fun z => Ext.call (end_any xa xb _ (by omega) (by omega)))
        have HE2 : Hid (∀ z : Ext wr, Calls Tryz.prog 89 #[.agg #[.int .i64 ya, .int .i64 yb]] z.w fun e w'' => e = .returned (.int .i64 (ya + yb)) ∧ ∃ t : Ext wr, w'' = t.w) := Lib.hid (fun z => Ext.call (end_any ya yb _ (by omega) (by omega)))
        gi_upto_region 1 with fail
        refine wpIn_wide.2 ?_
        refine region_ext (by kernel_rfl) (by kernel_rfl) ?_
        repeat (go_big_quiet_step ((go_at_call 89; first | exact HE1.out _ | exact HE2.out _)))
        refine wpQuiet_nil ?_
        rintro w2 ⟨⟨_, hw2⟩, rfl⟩
        have hL1 := hL.out
        rw [commonF_cons] at hL1
        dsimp only at hL1
        generalize hfr : (if xa < ya then ya else xa) = fr
        generalize hto : (if ya + yb < xa + xb then ya + yb else xa + xb) = te
        rw [show max xa ya = fr by omega, show min (xa + xb) (ya + yb) = te by omega] at hL1
        have hb1 : 0 ≤ fr ∧ fr ≤ 1024 ∧ 0 ≤ te ∧ te ≤ 1024 := by omega
        clear hfr hto
        have hJ2 := hJ pre wr w2 hJs (.of_below hw2)
        have hM1 := Lib.hid (b1.cell 0)
        have hM2 := Lib.hid (b2.cell 0)
        have b1b := b1.call hw2
        have b2b := b2.call hw2
        have l1b := l1.far (.of_below hw2 : Far (fun _ => False) _ _) (fun _ _ _ _ h => h)
        have l2b := l2.far (.of_below hw2 : Far (fun _ => False) _ _) (fun _ _ _ _ h => h)
        clear e1 e2 e3 e4 e5 e6 HE1 HE2 q1 q2 f1 f2 x1 x2 y1 y2 b1 b2 l1 l2 hJs hL h1' h2'
        by_cases hft : fr < te
        · have hft' : decide (fr < te) = true := by simpa using hft
          rw [if_pos hft] at hL1
          have hLp := Lib.hid hL1
          clear hL1
          obtain ⟨fn, tmps, assign, body, hy, hRd⟩ := hY (m - 1) pre (fr, te - fr) w2 hJ2 ⟨_, by rw [hLp.out, List.append_assoc]⟩
          clear hY
          gi_wp2_with fail
          refine hRd.mono ?_
          rintro e W3 (⟨rfl, hJ3, hF3⟩ | ⟨rfl, hJx3⟩)
          · have b1c := hF3.blk b1b (by simpa using hK1)
            have b2c := hF3.blk b2b (by simpa using hK2)
            have l1c := l1b.far hF3 (fun k hk _ _ h => h hk)
            have l2c := l2b.far hF3 (fun k hk _ _ h => h hk)
            have hL3 : Hid (commonF us vs = (pre ++ [(fr, te - fr)]) ++ (if xa + xb < ya + yb then commonF r ((ya, yb) :: s) else commonF ((xa, xb) :: r) s)) := Lib.hid (by rw [hLp.out]; simp)
            clear hLp hJ2 hRd b1b b2b l1b l2b
            have q1t := (b1c).cell
            have q2t := (b2c).cell
            have f1t := (b1c).frozen
            have f2t := (b2c).frozen
            obtain ⟨p1', o1', hadx, _, x1t, x2t⟩ := ru_head (l1c).ru
            obtain ⟨rfl, rfl⟩ : p1 = p1' ∧ o1 = o1' := by simpa using hadx
            obtain ⟨p2', o2', hady, _, y1t, y2t⟩ := ru_head (l2c).ru
            obtain ⟨rfl, rfl⟩ : p2 = p2' ∧ o2 = o2' := by simpa using hady
            clear hadx hady
            dsimp only at x1t x2t y1t y2t
            have t1 := fun z : Ext W3 => z.cell x1t
            have t2 := fun z : Ext W3 => z.cell x2t
            have t3 := fun z : Ext W3 => z.cell y1t
            have t4 := fun z : Ext W3 => z.cell y2t
            have t5 := fun z : Ext W3 => (z.blk b1c).cell
            have t6 := fun z : Ext W3 => (z.blk b2c).cell
            have HT1 : Hid (∀ z : Ext W3, Calls Tryz.prog 89 #[.agg #[.int .i64 xa, .int .i64 xb]] z.w fun e w'' => e = .returned (.int .i64 (xa + xb)) ∧ ∃ t : Ext W3, w'' = t.w) := Lib.hid (fun z => Ext.call (end_any xa xb _ (by omega) (by omega)))
            have HT2 : Hid (∀ z : Ext W3, Calls Tryz.prog 89 #[.agg #[.int .i64 ya, .int .i64 yb]] z.w fun e w'' => e = .returned (.int .i64 (ya + yb)) ∧ ∃ t : Ext W3, w'' = t.w) := Lib.hid (fun z => Ext.call (end_any ya yb _ (by omega) (by omega)))
            by_cases hlt : xa + xb < ya + yb
            · have hlt' : decide (xa + xb < ya + yb) = true := by simpa using hlt
              have hLz : Hid (commonF us vs = (pre ++ [(fr, te - fr)]) ++ commonF r ((ya, yb) :: s)) := Lib.hid ((hL3.out).trans (by rw [if_pos hlt]))
              clear hlt
              gi_upto_region 3 with fail
              refine wpIn_wide.2 ?_
              refine region_ext (by kernel_rfl) (by kernel_rfl) ?_
              repeat (go_big_quiet_step ((go_at_call 89; first | exact HT1.out _ | exact HT2.out _)))
              refine wpQuiet_nil ?_
              rintro w5 ⟨⟨_, hw5⟩, rfl⟩
              have c1z := (b1c).call hw5
              have c2z := (b2c).call hw5
              have l1z := (l1c).far (.of_below hw5 : Far (fun _ => False) _ _) (fun _ _ _ _ h => h)
              have l2z := (l2c).far (.of_below hw5 : Far (fun _ => False) _ _) (fun _ _ _ _ h => h)
              have hJz := hJ (pre ++ [(fr, te - fr)]) W3 w5 hJ3 (.of_below hw5)
              have q1z := c1z.cell
              have q2z := c2z.cell
              have f1z := c1z.frozen
              have f2z := c2z.frozen
              clear t1 t2 t3 t4 t5 t6 HT1 HT2 q1t q2t f1t f2t x1t x2t y1t y2t
              have hne1 := (l1z.own (by simp) p1 o1 rfl)
              have hne2 := (l2z.own (by simp) p2 o2 rfl)
              obtain ⟨q, hq⟩ := tail_at l1z.ru (d := d1) (by have := l1z.cap; omega)
              have hqh := Lib.hid hq.1
              have hqr := hq.2
              clear hq
              gi_wp2_with fail
              rw [hqh.out]
              have hfz : Far (fun k => k = B1 ∨ k = B2) w5 (w5.setCell ⟨B1, 0, none⟩ (.slice (some ⟨p1, q, none⟩) (m1 - 1) (d1 - 1))) := Far.setCell (.refl _ _) (fun _ => .inl rfl) _
              go_roundw
              case rel =>
                refine ⟨r, (ya, yb) :: s, (pre ++ [(fr, te - fr)]), some ⟨p1, q, none⟩, some ⟨p2, o2, none⟩, m1 - 1, m2, d1 - 1, d2, c1z.set_ 0 _, c2z.far (p := ⟨B1, 0, none⟩) (fun h => hne h.symm) _, ?_, l2z.far hfz (fun k _ h1 h2 h => h.elim h1 h2), hJ _ _ _ hJz hfz, hLz⟩
                have lr : Left w5 N K B1 B2 (some ⟨p1, q, none⟩) (m1 - 1) (d1 - 1) r := ⟨by omega, by omega, by omega, hqr, fun _ b o e => by cases e; exact hne1, fun z hz => l1z.vl z (by simp [hz])⟩
                exact lr.far hfz (fun k _ h1 h2 h => h.elim h1 h2)
              case measure => rw [(c1z.set_ 0 (.slice (some ⟨p1, q, none⟩) (m1 - 1) (d1 - 1))).cell 0, (c2z.far (p := ⟨B1, 0, none⟩) (fun h => hne h.symm) (.slice (some ⟨p1, q, none⟩) (m1 - 1) (d1 - 1))).cell 0, hM1.out, hM2.out]; simp [lenOf]; omega
            · have hlt' : decide (xa + xb < ya + yb) = false := by simpa using hlt
              have hLz : Hid (commonF us vs = (pre ++ [(fr, te - fr)]) ++ commonF ((xa, xb) :: r) s) := Lib.hid ((hL3.out).trans (by rw [if_neg hlt]))
              clear hlt
              gi_upto_region 3 with fail
              refine wpIn_wide.2 ?_
              refine region_ext (by kernel_rfl) (by kernel_rfl) ?_
              repeat (go_big_quiet_step ((go_at_call 89; first | exact HT1.out _ | exact HT2.out _)))
              refine wpQuiet_nil ?_
              rintro w5 ⟨⟨_, hw5⟩, rfl⟩
              have c1z := (b1c).call hw5
              have c2z := (b2c).call hw5
              have l1z := (l1c).far (.of_below hw5 : Far (fun _ => False) _ _) (fun _ _ _ _ h => h)
              have l2z := (l2c).far (.of_below hw5 : Far (fun _ => False) _ _) (fun _ _ _ _ h => h)
              have hJz := hJ (pre ++ [(fr, te - fr)]) W3 w5 hJ3 (.of_below hw5)
              have q1z := c1z.cell
              have q2z := c2z.cell
              have f1z := c1z.frozen
              have f2z := c2z.frozen
              clear t1 t2 t3 t4 t5 t6 HT1 HT2 q1t q2t f1t f2t x1t x2t y1t y2t
              have hne1 := (l1z.own (by simp) p1 o1 rfl)
              have hne2 := (l2z.own (by simp) p2 o2 rfl)
              obtain ⟨q, hq⟩ := tail_at l2z.ru (d := d2) (by have := l2z.cap; omega)
              have hqh := Lib.hid hq.1
              have hqr := hq.2
              clear hq
              gi_wp2_with fail
              rw [hqh.out]
              have hfz : Far (fun k => k = B1 ∨ k = B2) w5 (w5.setCell ⟨B2, 0, none⟩ (.slice (some ⟨p2, q, none⟩) (m2 - 1) (d2 - 1))) := Far.setCell (.refl _ _) (fun _ => .inr rfl) _
              go_roundw
              case rel =>
                refine ⟨(xa, xb) :: r, s, (pre ++ [(fr, te - fr)]), some ⟨p1, o1, none⟩, some ⟨p2, q, none⟩, m1, m2 - 1, d1, d2 - 1, c1z.far (p := ⟨B2, 0, none⟩) hne _, c2z.set_ 0 _, l1z.far hfz (fun k _ h1 h2 h => h.elim h1 h2), ?_, hJ _ _ _ hJz hfz, hLz⟩
                have lr : Left w5 N K B1 B2 (some ⟨p2, q, none⟩) (m2 - 1) (d2 - 1) s := ⟨by omega, by omega, by omega, hqr, fun _ b o e => by cases e; exact hne2, fun z hz => l2z.vl z (by simp [hz])⟩
                exact lr.far hfz (fun k _ h1 h2 h => h.elim h1 h2)
              case measure => rw [(c1z.far (p := ⟨B2, 0, none⟩) hne (.slice (some ⟨p2, q, none⟩) (m2 - 1) (d2 - 1))).cell 0, (c2z.set_ 0 (.slice (some ⟨p2, q, none⟩) (m2 - 1) (d2 - 1))).cell 0, hM1.out, hM2.out]; simp [lenOf]; omega
          · gi_wp2_with fail
            refine bodyPost_ret (results_none rfl _ _ _) rfl ?_
            exact ⟨⟨_, rfl⟩, .inr ⟨pre ++ [(fr, te - fr)], ⟨_, by rw [hLp.out, List.append_assoc]⟩, hJx3⟩⟩
        · have hft' : decide (fr < te) = false := by simpa using hft
          rw [if_neg hft, List.nil_append] at hL1
          have hLp := Lib.hid hL1
          clear hL1
          have q1t := (b1b).cell
          have q2t := (b2b).cell
          have f1t := (b1b).frozen
          have f2t := (b2b).frozen
          obtain ⟨p1', o1', hadx, _, x1t, x2t⟩ := ru_head (l1b).ru
          obtain ⟨rfl, rfl⟩ : p1 = p1' ∧ o1 = o1' := by simpa using hadx
          obtain ⟨p2', o2', hady, _, y1t, y2t⟩ := ru_head (l2b).ru
          obtain ⟨rfl, rfl⟩ : p2 = p2' ∧ o2 = o2' := by simpa using hady
          clear hadx hady
          dsimp only at x1t x2t y1t y2t
          have t1 := fun z : Ext w2 => z.cell x1t
          have t2 := fun z : Ext w2 => z.cell x2t
          have t3 := fun z : Ext w2 => z.cell y1t
          have t4 := fun z : Ext w2 => z.cell y2t
          have t5 := fun z : Ext w2 => (z.blk b1b).cell
          have t6 := fun z : Ext w2 => (z.blk b2b).cell
          have HT1 : Hid (∀ z : Ext w2, Calls Tryz.prog 89 #[.agg #[.int .i64 xa, .int .i64 xb]] z.w fun e w'' => e = .returned (.int .i64 (xa + xb)) ∧ ∃ t : Ext w2, w'' = t.w) := Lib.hid (fun z => Ext.call (end_any xa xb _ (by omega) (by omega)))
          have HT2 : Hid (∀ z : Ext w2, Calls Tryz.prog 89 #[.agg #[.int .i64 ya, .int .i64 yb]] z.w fun e w'' => e = .returned (.int .i64 (ya + yb)) ∧ ∃ t : Ext w2, w'' = t.w) := Lib.hid (fun z => Ext.call (end_any ya yb _ (by omega) (by omega)))
          by_cases hlt : xa + xb < ya + yb
          · have hlt' : decide (xa + xb < ya + yb) = true := by simpa using hlt
            have hLz : Hid (commonF us vs = pre ++ commonF r ((ya, yb) :: s)) := Lib.hid ((hLp.out).trans (by rw [if_pos hlt]))
            clear hlt
            gi_upto_region 3 with fail
            refine wpIn_wide.2 ?_
            refine region_ext (by kernel_rfl) (by kernel_rfl) ?_
            repeat (go_big_quiet_step ((go_at_call 89; first | exact HT1.out _ | exact HT2.out _)))
            refine wpQuiet_nil ?_
            rintro w5 ⟨⟨_, hw5⟩, rfl⟩
            have c1z := (b1b).call hw5
            have c2z := (b2b).call hw5
            have l1z := (l1b).far (.of_below hw5 : Far (fun _ => False) _ _) (fun _ _ _ _ h => h)
            have l2z := (l2b).far (.of_below hw5 : Far (fun _ => False) _ _) (fun _ _ _ _ h => h)
            have hJz := hJ pre w2 w5 hJ2 (.of_below hw5)
            have q1z := c1z.cell
            have q2z := c2z.cell
            have f1z := c1z.frozen
            have f2z := c2z.frozen
            clear t1 t2 t3 t4 t5 t6 HT1 HT2 q1t q2t f1t f2t x1t x2t y1t y2t
            have hne1 := (l1z.own (by simp) p1 o1 rfl)
            have hne2 := (l2z.own (by simp) p2 o2 rfl)
            obtain ⟨q, hq⟩ := tail_at l1z.ru (d := d1) (by have := l1z.cap; omega)
            have hqh := Lib.hid hq.1
            have hqr := hq.2
            clear hq
            gi_wp2_with fail
            rw [hqh.out]
            have hfz : Far (fun k => k = B1 ∨ k = B2) w5 (w5.setCell ⟨B1, 0, none⟩ (.slice (some ⟨p1, q, none⟩) (m1 - 1) (d1 - 1))) := Far.setCell (.refl _ _) (fun _ => .inl rfl) _
            go_roundw
            case rel =>
              refine ⟨r, (ya, yb) :: s, pre, some ⟨p1, q, none⟩, some ⟨p2, o2, none⟩, m1 - 1, m2, d1 - 1, d2, c1z.set_ 0 _, c2z.far (p := ⟨B1, 0, none⟩) (fun h => hne h.symm) _, ?_, l2z.far hfz (fun k _ h1 h2 h => h.elim h1 h2), hJ _ _ _ hJz hfz, hLz⟩
              have lr : Left w5 N K B1 B2 (some ⟨p1, q, none⟩) (m1 - 1) (d1 - 1) r := ⟨by omega, by omega, by omega, hqr, fun _ b o e => by cases e; exact hne1, fun z hz => l1z.vl z (by simp [hz])⟩
              exact lr.far hfz (fun k _ h1 h2 h => h.elim h1 h2)
            case measure => rw [(c1z.set_ 0 (.slice (some ⟨p1, q, none⟩) (m1 - 1) (d1 - 1))).cell 0, (c2z.far (p := ⟨B1, 0, none⟩) (fun h => hne h.symm) (.slice (some ⟨p1, q, none⟩) (m1 - 1) (d1 - 1))).cell 0, hM1.out, hM2.out]; simp [lenOf]; omega
          · have hlt' : decide (xa + xb < ya + yb) = false := by simpa using hlt
            have hLz : Hid (commonF us vs = pre ++ commonF ((xa, xb) :: r) s) := Lib.hid ((hLp.out).trans (by rw [if_neg hlt]))
            clear hlt
            gi_upto_region 3 with fail
            refine wpIn_wide.2 ?_
            refine region_ext (by kernel_rfl) (by kernel_rfl) ?_
            repeat (go_big_quiet_step ((go_at_call 89; first | exact HT1.out _ | exact HT2.out _)))
            refine wpQuiet_nil ?_
            rintro w5 ⟨⟨_, hw5⟩, rfl⟩
            have c1z := (b1b).call hw5
            have c2z := (b2b).call hw5
            have l1z := (l1b).far (.of_below hw5 : Far (fun _ => False) _ _) (fun _ _ _ _ h => h)
            have l2z := (l2b).far (.of_below hw5 : Far (fun _ => False) _ _) (fun _ _ _ _ h => h)
            have hJz := hJ pre w2 w5 hJ2 (.of_below hw5)
            have q1z := c1z.cell
            have q2z := c2z.cell
            have f1z := c1z.frozen
            have f2z := c2z.frozen
            clear t1 t2 t3 t4 t5 t6 HT1 HT2 q1t q2t f1t f2t x1t x2t y1t y2t
            have hne1 := (l1z.own (by simp) p1 o1 rfl)
            have hne2 := (l2z.own (by simp) p2 o2 rfl)
            obtain ⟨q, hq⟩ := tail_at l2z.ru (d := d2) (by have := l2z.cap; omega)
            have hqh := Lib.hid hq.1
            have hqr := hq.2
            clear hq
            gi_wp2_with fail
            rw [hqh.out]
            have hfz : Far (fun k => k = B1 ∨ k = B2) w5 (w5.setCell ⟨B2, 0, none⟩ (.slice (some ⟨p2, q, none⟩) (m2 - 1) (d2 - 1))) := Far.setCell (.refl _ _) (fun _ => .inr rfl) _
            go_roundw
            case rel =>
              refine ⟨(xa, xb) :: r, s, pre, some ⟨p1, o1, none⟩, some ⟨p2, q, none⟩, m1, m2 - 1, d1, d2 - 1, c1z.far (p := ⟨B2, 0, none⟩) hne _, c2z.set_ 0 _, l1z.far hfz (fun k _ h1 h2 h => h.elim h1 h2), ?_, hJ _ _ _ hJz hfz, hLz⟩
              have lr : Left w5 N K B1 B2 (some ⟨p2, q, none⟩) (m2 - 1) (d2 - 1) s := ⟨by omega, by omega, by omega, hqr, fun _ b o e => by cases e; exact hne2, fun z hz => l2z.vl z (by simp [hz])⟩
              exact lr.far hfz (fun k _ h1 h2 h => h.elim h1 h2)
            case measure => rw [(c1z.far (p := ⟨B2, 0, none⟩) hne (.slice (some ⟨p2, q, none⟩) (m2 - 1) (d2 - 1))).cell 0, (c2z.set_ 0 (.slice (some ⟨p2, q, none⟩) (m2 - 1) (d2 - 1))).cell 0, hM1.out, hM2.out]; simp [lenOf]; omega

end Go.Proofs.YtdepkmpilipolaaGreat
namespace Go.Pol
def wrongG (f b ev : Int) : Bool := !(decide (0 ≤ f) && decide (f ≤ 16) && decide (0 ≤ b) && decide (b ≤ 16) && decide (0 ≤ ev) && decide (ev ≤ 1024))
theorem wrongG_iff {f b ev : Int} : wrongG f b ev = false ↔ (0 ≤ f ∧ f ≤ 16) ∧ (0 ≤ b ∧ b ≤ 16) ∧ 0 ≤ ev ∧ ev ≤ 1024 := by simp [wrongG, and_assoc]
def chkG (pg n f b ev : Int) : Int := if vld (pg, n) = false ∨ wrongG f b ev = true then 7 else if n ≤ f + b then 4 else 0
theorem chkG_zero {pg n f b ev : Int} : chkG pg n f b ev = 0 ↔ PlanOk pg n f b ev := by
  unfold chkG
  constructor
  · intro h
    split at h
    · cases h
    · rename_i h1
      split at h
      · cases h
      · have h2 : vld (pg, n) = true := by cases hv : vld (pg, n) with | true => rfl | false => exact absurd (.inl hv) h1
        have h3 : wrongG f b ev = false := by cases hv : wrongG f b ev with | false => rfl | true => exact absurd (.inr hv) h1
        have h2' := vld_iff.1 h2
        have h3' := wrongG_iff.1 h3
        simp only at h2'
        exact ⟨h2'.1, h2'.2.1, h2'.2.2.1, h2'.2.2.2, h3'.1.1, h3'.1.2, h3'.2.1.1, h3'.2.1.2, h3'.2.2.1, h3'.2.2.2, by omega⟩
  · intro h
    have h1 : vld (pg, n) = true := vld_iff.2 ⟨h.pg0, h.pg1, h.n0, h.n1⟩
    have h2 : wrongG f b ev = false := wrongG_iff.2 ⟨⟨h.f0, h.f1⟩, ⟨h.b0, h.b1⟩, h.e0, h.e1⟩
    rw [h1, h2]
    have := h.fb
    simp; omega
/-- what an access to a page of a plan hits -/
def kindG (pg n f b ev page : Int) : Int :=
  if page - pg < 0 ∨ n ≤ page - pg then 4 else if page - pg < f then 1 else if n - b ≤ page - pg then 2 else if 0 < ev ∧ (page - pg - f + 1) % (ev + 1) = 0 then 3 else 0
theorem chkS_one (x : Sp) : chkS [x] = if vld x = true then 0 else 7 := by
  by_cases h : vld x = true
  · rw [if_pos h]; exact chkS_zero.2 (Can.one h)
  · rw [if_neg h]; simp [chkS, h]
theorem ru_blk1 {w : World} {B : Nat} {t : TypeId} {p n : Int} (h : Blk w B t #[.int .i64 p, .int .i64 n]) : RU w w.heap.size (some ⟨B, 0, none⟩) [(p, n)] := fun k hk => by
  obtain rfl : k = 0 := by simp at hk; omega
  exact ⟨B, 0, rfl, h.lt, h.cell 0, h.cell 1⟩
end Go.Pol
namespace Go.Proofs.YtdepkmpilipolaaGreat
open Go Go.Proofs Go.RowKit Go.Pol

theorem outside_any (n a b : Int) (w : World) :
    Calls Tryz.prog 48 #[.int .i64 n, .int .i64 a, .int .i64 b] w fun e w' => e = .returned (.bool (!(decide (a ≤ n) && decide (n ≤ b)))) ∧ w = w' := by
  by_cases h : n < a
  · have h' : decide (n < a) = true := by simpa using h
    have h2 : decide (a ≤ n) = false := by simpa using h
    go_enter Tryz.func48, Tryz.ntmps48
    go_wp2
    go_ret
    simp [h2]
  · have h' : decide (n < a) = false := by simpa using h
    have h2 : decide (a ≤ n) = true := by simpa using h
    go_enter Tryz.func48, Tryz.ntmps48
    go_wp2
    go_ret
    simp [h2]
    rw [Bool.eq_iff_iff]; simp

theorem gwrong_any (f b ev : Int) (w : World) :
    Calls Tryz.prog 49 #[.agg #[.int .i64 f, .int .i64 b, .int .i64 ev]] w fun e w' => e = .returned (.bool (wrongG f b ev)) ∧ Below w.heap.size w w' := by
  have hb0 := (Below.refl w.heap.size w).alloc (Nat.le_refl _) (.cells #[.int .i64 f, .int .i64 b, .int .i64 ev] 29)
  have HO := Lib.hid (fun (n a b : Int) W => outside_any n a b W)
  obtain ⟨c1, hc1⟩ : ∃ c, (!(decide (0 ≤ f) && decide (f ≤ 16))) = c := ⟨_, rfl⟩
  obtain ⟨c2, hc2⟩ : ∃ c, (!(decide (0 ≤ b) && decide (b ≤ 16))) = c := ⟨_, rfl⟩
  obtain ⟨c3, hc3⟩ : ∃ c, (!(decide (0 ≤ ev) && decide (ev ≤ 1024))) = c := ⟨_, rfl⟩
  have hR : Hid (wrongG f b ev = (c1 || (c2 || c3))) := Lib.hid (by rw [← hc1, ← hc2, ← hc3]; unfold wrongG; cases decide (0 ≤ f) <;> cases decide (f ≤ 16) <;> cases decide (0 ≤ b) <;> cases decide (b ≤ 16) <;> rfl)
  have H1 := Lib.hid (fun W => outside_any f 0 16 W)
  have H2 := Lib.hid (fun W => outside_any b 0 16 W)
  have H3 := Lib.hid (fun W => outside_any ev 0 1024 W)
  rw [hc1] at H1
  rw [hc2] at H2
  rw [hc3] at H3
  clear hc1 hc2 hc3
  cases c1 with
  | true =>
    go_enter Tryz.func49, Tryz.ntmps49
    go_wp2_with (go_at_call 48; refine (H1.out _).mono ?_; rintro e w' ⟨rfl, rfl⟩)
    go_ret
    exact ⟨ret_bool (by rw [hR.out]; rfl), hb0⟩
  | false =>
    cases c2 with
    | true =>
      go_enter Tryz.func49, Tryz.ntmps49
      go_wp2_with (go_at_call 48; first | (refine (H1.out _).mono ?_; clear H1; rintro e w' ⟨rfl, rfl⟩) | (refine (H2.out _).mono ?_; rintro e w' ⟨rfl, rfl⟩))
      go_ret
      exact ⟨ret_bool (by rw [hR.out]; rfl), hb0⟩
    | false =>
      go_enter Tryz.func49, Tryz.ntmps49
      go_wp2_with (go_at_call 48; first | (refine (H1.out _).mono ?_; clear H1; rintro e w' ⟨rfl, rfl⟩) | (refine (H2.out _).mono ?_; clear H2; rintro e w' ⟨rfl, rfl⟩) | (refine (H3.out _).mono ?_; rintro e w' ⟨rfl, rfl⟩))
      go_ret
      exact ⟨ret_bool (by rw [hR.out]; rfl), hb0⟩

theorem rspec_any (f b ev : Int) (w : World) :
    Calls Tryz.prog 84 #[.agg #[.int .i64 f, .int .i64 b, .int .i64 ev]] w fun e w' => e = .returned (.bool (!wrongG f b ev)) ∧ Below w.heap.size w w' := by
  have hb0 := (Below.refl w.heap.size w).alloc (Nat.le_refl _) (.cells #[.int .i64 f, .int .i64 b, .int .i64 ev] 29)
  have hR : Hid ((!wrongG f b ev) = (decide (0 ≤ f) && decide (f ≤ 16) && decide (0 ≤ b) && decide (b ≤ 16) && decide (0 ≤ ev) && decide (ev ≤ 1024))) := Lib.hid (by unfold wrongG; rw [Bool.not_not])
  by_cases hsf : 0 ≤ f
  case neg =>
    have hs' : decide (0 ≤ f) = false := by simpa using hsf
    go_enter Tryz.func84, Tryz.ntmps84
    go_wp2
    go_ret
    exact ⟨ret_bool (by rw [hR.out]; simp [*]), hb0⟩
  have hsf' : decide (0 ≤ f) = true := by simpa using hsf
  by_cases hsf : f ≤ 16
  case neg =>
    have hs' : decide (f ≤ 16) = false := by simpa using hsf
    go_enter Tryz.func84, Tryz.ntmps84
    go_wp2
    go_ret
    exact ⟨ret_bool (by rw [hR.out]; simp [*]), hb0⟩
  have hsf' : decide (f ≤ 16) = true := by simpa using hsf
  by_cases hsb : 0 ≤ b
  case neg =>
    have hs' : decide (0 ≤ b) = false := by simpa using hsb
    go_enter Tryz.func84, Tryz.ntmps84
    go_wp2
    go_ret
    exact ⟨ret_bool (by rw [hR.out]; simp [*]), hb0⟩
  have hsb' : decide (0 ≤ b) = true := by simpa using hsb
  by_cases hsb : b ≤ 16
  case neg =>
    have hs' : decide (b ≤ 16) = false := by simpa using hsb
    go_enter Tryz.func84, Tryz.ntmps84
    go_wp2
    go_ret
    exact ⟨ret_bool (by rw [hR.out]; simp [*]), hb0⟩
  have hsb' : decide (b ≤ 16) = true := by simpa using hsb
  by_cases hsev : 0 ≤ ev
  case neg =>
    have hs' : decide (0 ≤ ev) = false := by simpa using hsev
    go_enter Tryz.func84, Tryz.ntmps84
    go_wp2
    go_ret
    exact ⟨ret_bool (by rw [hR.out]; simp [*]), hb0⟩
  have hsev' : decide (0 ≤ ev) = true := by simpa using hsev
  go_enter Tryz.func84, Tryz.ntmps84
  go_wp2
  go_ret
  exact ⟨ret_bool (by rw [hR.out]; simp [*]), hb0⟩

set_option maxHeartbeats 400000 in
theorem gcheck_any (pg n f b ev : Int) (w : World) :
    Calls Tryz.prog 44 #[planV pg n f b ev] w fun e w' => e = .returned (.int .i64 (chkG pg n f b ev)) ∧ Below w.heap.size w w' := by
  obtain ⟨R, hR0⟩ : ∃ R : Int, chkG pg n f b ev = R := ⟨_, rfl⟩
  rw [hR0]
  have hR := Lib.hid hR0
  clear hR0
  have hb0 := (Below.refl w.heap.size w).alloc (Nat.le_refl _) (.cells (planC pg n f b ev) 31)
  have k0 := Blk.new w 31 (planC pg n f b ev)
  have hb1 := hb0.alloc hb0.size (.cells #[.int .i64 pg, .int .i64 n] 64)
  have k1 := k0.alloc (.cells #[.int .i64 pg, .int .i64 n] 64)
  have kS := Blk.new (w.alloc (.cells (planC pg n f b ev) 31)) 64 #[.int .i64 pg, .int .i64 n]
  rw [World.size_alloc] at kS
  have HC := Lib.hid (spCheck_any (some ⟨w.heap.size + 1, 0, none⟩) 1 1 [(pg, n)] _ rfl (by unfold maxLen; omega) (ru_blk1 kS))
  rw [chkS_one] at HC
  by_cases hv : vld (pg, n) = true
  case neg =>
    rw [if_neg hv] at HC
    have hE : Hid (R = 7) := Lib.hid (by rw [← hR.out, chkG, if_pos (.inl (by simpa using hv))])
    clear hv hR
    go_enter Tryz.func44, Tryz.ntmps44
    go_wp2_with (go_at_call 66; refine (HC.out).mono ?_; rintro e w1 ⟨rfl, hq⟩; have k2 := k1.call hq; have c2 := k2.cell)
    go_ret
    exact ⟨ret_int hE.out.symm, hb1.trans (hq.mono hb1.size)⟩
  case pos =>
    rw [if_pos hv] at HC
    have HW := Lib.hid (fun W => gwrong_any f b ev W)
    cases hw : wrongG f b ev with
    | true =>
      rw [hw] at HW
      have hE : Hid (R = 7) := Lib.hid (by rw [← hR.out, chkG, if_pos (.inr hw)])
      clear hv hR hw
      go_enter Tryz.func44, Tryz.ntmps44
      go_wp2_with (first
        | (go_at_call 66; refine (HC.out).mono ?_; rintro e w1 ⟨rfl, hq⟩; have k2 := k1.call hq; have c2 := k2.cell)
        | (go_at_call 49; refine (HW.out _).mono ?_; rintro e w3 ⟨rfl, hq3⟩))
      go_ret
      have hb2 := hb1.trans (hq.mono hb1.size)
      exact ⟨ret_int hE.out.symm, hb2.trans (hq3.mono hb2.size)⟩
    | false =>
      rw [hw] at HW
      have hE : Hid (R = if n ≤ f + b then 4 else 0) := Lib.hid (by rw [← hR.out, chkG, if_neg (by simp [hv, hw])])
      have hv' := vld_iff.1 hv
      have hw' := wrongG_iff.1 hw
      dsimp only at hv'
      clear hv hR hw
      by_cases hn : n ≤ f + b
      · have hn' : decide (n ≤ f + b) = true := by simpa using hn
        rw [if_pos hn] at hE
        clear hn
        go_enter Tryz.func44, Tryz.ntmps44
        go_wp2_with (first
          | (go_at_call 66; refine (HC.out).mono ?_; rintro e w1 ⟨rfl, hq⟩; have k2 := k1.call hq; have c2 := k2.cell)
          | (go_at_call 49; refine (HW.out _).mono ?_; rintro e w3 ⟨rfl, hq3⟩; have k3 := k2.call hq3; have c3 := k3.cell))
        go_ret
        have hb2 := hb1.trans (hq.mono hb1.size)
        exact ⟨ret_int hE.out.symm, hb2.trans (hq3.mono hb2.size)⟩
      · have hn' : decide (n ≤ f + b) = false := by simpa using hn
        rw [if_neg hn] at hE
        clear hn
        go_enter Tryz.func44, Tryz.ntmps44
        go_wp2_with (first
          | (go_at_call 66; refine (HC.out).mono ?_; rintro e w1 ⟨rfl, hq⟩; have k2 := k1.call hq; have c2 := k2.cell)
          | (go_at_call 49; refine (HW.out _).mono ?_; rintro e w3 ⟨rfl, hq3⟩; have k3 := k2.call hq3; have c3 := k3.cell))
        go_ret
        have hb2 := hb1.trans (hq.mono hb1.size)
        exact ⟨ret_int hE.out.symm, hb2.trans (hq3.mono hb2.size)⟩
set_option maxHeartbeats 400000 in
theorem rgcheck_any (pg n f b ev : Int) (w : World) :
    Calls Tryz.prog 59 #[planV pg n f b ev] w fun e w' => e = .returned (.int .i64 (chkG pg n f b ev)) ∧ Below w.heap.size w w' := by
  obtain ⟨R, hR0⟩ : ∃ R : Int, chkG pg n f b ev = R := ⟨_, rfl⟩
  rw [hR0]
  have hR := Lib.hid hR0
  clear hR0
  have hb1 := (Below.refl w.heap.size w).alloc (Nat.le_refl _) (.cells (planC pg n f b ev) 31)
  have k1 := Blk.new w 31 (planC pg n f b ev)
  have HC := Lib.hid (fun W => valid_any pg n W)
  by_cases hv : vld (pg, n) = true
  case neg =>
    have hv' : vld (pg, n) = false := by simpa using hv
    rw [hv'] at HC
    have hE : Hid (R = 7) := Lib.hid (by rw [← hR.out, chkG, if_pos (.inl (by simpa using hv))])
    clear hv hR hv'
    go_enter Tryz.func59, Tryz.ntmps59
    go_wp2_with (go_at_call 83; refine (HC.out _).mono ?_; rintro e w1 ⟨rfl, hq⟩; have k2 := k1.call hq; have c2 := k2.cell)
    go_ret
    exact ⟨ret_int hE.out.symm, hb1.trans (hq.mono hb1.size)⟩
  case pos =>
    rw [hv] at HC
    have HW := Lib.hid (fun W => rspec_any f b ev W)
    cases hw : wrongG f b ev with
    | true =>
      rw [hw] at HW
      have hE : Hid (R = 7) := Lib.hid (by rw [← hR.out, chkG, if_pos (.inr hw)])
      clear hv hR hw
      go_enter Tryz.func59, Tryz.ntmps59
      go_wp2_with (first
        | (go_at_call 83; refine (HC.out _).mono ?_; rintro e w1 ⟨rfl, hq⟩; have k2 := k1.call hq; have c2 := k2.cell)
        | (go_at_call 84; refine (HW.out _).mono ?_; rintro e w3 ⟨rfl, hq3⟩))
      go_ret
      have hb2 := hb1.trans (hq.mono hb1.size)
      exact ⟨ret_int hE.out.symm, hb2.trans (hq3.mono hb2.size)⟩
    | false =>
      rw [hw] at HW
      have hE : Hid (R = if n ≤ f + b then 4 else 0) := Lib.hid (by rw [← hR.out, chkG, if_neg (by simp [hv, hw])])
      have hv' := vld_iff.1 hv
      have hw' := wrongG_iff.1 hw
      dsimp only at hv'
      clear hv hR hw
      by_cases hn : n ≤ f + b
      · have hn' : decide (n ≤ f + b) = true := by simpa using hn
        rw [if_pos hn] at hE
        clear hn
        go_enter Tryz.func59, Tryz.ntmps59
        go_wp2_with (first
          | (go_at_call 83; refine (HC.out _).mono ?_; rintro e w1 ⟨rfl, hq⟩; have k2 := k1.call hq; have c2 := k2.cell)
          | (go_at_call 84; refine (HW.out _).mono ?_; rintro e w3 ⟨rfl, hq3⟩; have k3 := k2.call hq3; have c3 := k3.cell))
        go_ret
        have hb2 := hb1.trans (hq.mono hb1.size)
        exact ⟨ret_int hE.out.symm, hb2.trans (hq3.mono hb2.size)⟩
      · have hn' : decide (n ≤ f + b) = false := by simpa using hn
        rw [if_neg hn] at hE
        clear hn
        go_enter Tryz.func59, Tryz.ntmps59
        go_wp2_with (first
          | (go_at_call 83; refine (HC.out _).mono ?_; rintro e w1 ⟨rfl, hq⟩; have k2 := k1.call hq; have c2 := k2.cell)
          | (go_at_call 84; refine (HW.out _).mono ?_; rintro e w3 ⟨rfl, hq3⟩; have k3 := k2.call hq3; have c3 := k3.cell))
        go_ret
        have hb2 := hb1.trans (hq.mono hb1.size)
        exact ⟨ret_int hE.out.symm, hb2.trans (hq3.mono hb2.size)⟩

set_option maxHeartbeats 400000 in
theorem kind_any (pg n f b ev page : Int) (w : World) (hp : PlanOk pg n f b ev) (h0 : 0 ≤ page) (h1 : page ≤ 2000) :
    Calls Tryz.prog 85 #[planV pg n f b ev, .int .i64 page] w fun e w' => e = .returned (.int .i64 (kindG pg n f b ev page)) ∧ Below w.heap.size w w' := by
  obtain ⟨R, hR0⟩ : ∃ R : Int, kindG pg n f b ev page = R := ⟨_, rfl⟩
  rw [hR0]
  have hR := Lib.hid hR0
  clear hR0
  obtain ⟨p1, p2, p3, p4, p5, p6, p7, p8, p9, p10, p11⟩ := hp
  have hb1 := (Below.refl w.heap.size w).alloc (Nat.le_refl _) (.cells (planC pg n f b ev) 31)
  have k1 := Blk.new w 31 (planC pg n f b ev)
  have c1 := k1.cell
  by_cases a1 : page - pg < 0 ∨ n ≤ page - pg
  · have hE : Hid (R = 4) := Lib.hid (by rw [← hR.out, kindG, if_pos a1])
    by_cases a2 : page - pg < 0
    · have a2' : decide (page - pg < 0) = true := by simpa using a2
      go_enter Tryz.func85, Tryz.ntmps85
      go_wp2_with fail
      go_ret
      exact ⟨ret_int hE.out.symm, hb1⟩
    · have a2' : decide (page - pg < 0) = false := by simpa using a2
      have a3' : decide (n ≤ page - pg) = true := by simp; omega
      go_enter Tryz.func85, Tryz.ntmps85
      go_wp2_with fail
      go_ret
      exact ⟨ret_int hE.out.symm, hb1⟩
  · have a2' : decide (page - pg < 0) = false := by simp; omega
    have a3' : decide (n ≤ page - pg) = false := by simp; omega
    have a4 : 0 ≤ page - pg ∧ page - pg < n := by omega
    by_cases b1 : page - pg < f
    · have hE : Hid (R = 1) := Lib.hid (by rw [← hR.out, kindG, if_neg a1, if_pos b1])
      have b1' : decide (page - pg < f) = true := by simpa using b1
      clear a1
      go_enter Tryz.func85, Tryz.ntmps85
      go_wp2_with fail
      go_ret
      exact ⟨ret_int hE.out.symm, hb1⟩
    · have b1' : decide (page - pg < f) = false := by simpa using b1
      by_cases b2 : n - b ≤ page - pg
      · have hE : Hid (R = 2) := Lib.hid (by rw [← hR.out, kindG, if_neg a1, if_neg b1, if_pos b2])
        have b2' : decide (n - b ≤ page - pg) = true := by simpa using b2
        clear a1
        go_enter Tryz.func85, Tryz.ntmps85
        go_wp2_with fail
        go_ret
        exact ⟨ret_int hE.out.symm, hb1⟩
      · have b2' : decide (n - b ≤ page - pg) = false := by simpa using b2
        have hE : Hid (R = if 0 < ev ∧ (page - pg - f + 1) % (ev + 1) = 0 then 3 else 0) := Lib.hid (by rw [← hR.out, kindG, if_neg a1, if_neg b1, if_neg b2])
        by_cases b3 : 0 < ev
        · have b3' : decide (0 < ev) = true := by simpa using b3
          have hm : Int.tmod (page - pg - f + 1) (ev + 1) = (page - pg - f + 1) % (ev + 1) := Int.tmod_eq_emod_of_nonneg (by omega)
          by_cases b4 : (page - pg - f + 1) % (ev + 1) = 0
          · have b4' : ((page - pg - f + 1) % (ev + 1) == 0) = true := by simpa using b4
            have hE2 : Hid (R = 3) := Lib.hid (by rw [hE.out, if_pos ⟨b3, b4⟩])
            clear a1 hE b4
            go_enter Tryz.func85, Tryz.ntmps85
            go_wp2_with fail
            go_ret
            exact ⟨ret_int hE2.out.symm, hb1⟩
          · have b4' : ((page - pg - f + 1) % (ev + 1) == 0) = false := by simpa using b4
            have hE2 : Hid (R = 0) := Lib.hid (by rw [hE.out, if_neg (fun h => b4 h.2)])
            clear a1 hE b4
            go_enter Tryz.func85, Tryz.ntmps85
            go_wp2_with fail
            go_ret
            exact ⟨ret_int hE2.out.symm, hb1⟩
        · have b3' : decide (0 < ev) = false := by simpa using b3
          have hE2 : Hid (R = 0) := Lib.hid (by rw [hE.out, if_neg (fun h => b3 h.1)])
          clear a1 hE
          go_enter Tryz.func85, Tryz.ntmps85
          go_wp2_with fail
          go_ret
          exact ⟨ret_int hE2.out.symm, hb1⟩
end Go.Proofs.YtdepkmpilipolaaGreat
namespace Go.Proofs.YtdepkmpilipolaaGreat
open Go Go.Proofs Go.RowKit Go.Pol Go.ChangeShapes Go.WideShapes Go.Deep

theorem own_ : ownKnob Tryz.prog.godebug = none := by kernel_rfl
theorem laidOut_ : laidOutB Tryz.prog = true := by kernel_rfl
theorem spStructK : ∃ f0 f1 : Field, Tryz.prog.underlying 64 = some (.struct #[f0, f1]) ∧ oneCellFields Tryz.prog #[f0, f1] = true ∧ f0.type = 3 ∧ f1.type = 3 := ⟨_, _, Tryz.underlying64, by kernel_rfl, rfl, rfl⟩
theorem spsCellsK : Tryz.prog.cellsOf 22 = 1 := by kernel_rfl
theorem ruStruct : ∃ f0 f1 f2 f3 : Field, Tryz.prog.underlying 88 = some (.struct #[f0, f1, f2, f3]) ∧ oneCellFields Tryz.prog #[f0, f1, f2, f3] = true ∧ f0.type = 3 ∧ f1.type = 3 ∧ f2.type = 3 ∧ f3.type = 3 := ⟨_, _, _, _, Tryz.underlying88, by kernel_rfl, rfl, rfl, rfl, rfl⟩
theorem rusCells : Tryz.prog.cellsOf 23 = 1 := by kernel_rfl
theorem plCells : Tryz.prog.cellsOf 25 = 1 := by kernel_rfl
section
variable {H : Type} {enc : TypeId × Value → H} {w : World} {base b0 : Nat} {held : Bool} {r : Reach} {v : Value} {d : DataW H} {p : List MemPlace}
theorem planCells : Tryz.prog.cellsOf 31 = 5 := by kernel_rfl
theorem specCells : Tryz.prog.cellsOf 29 = 3 := by kernel_rfl
theorem intCells : Tryz.prog.cellsOf 3 = 1 := by kernel_rfl
set_option maxRecDepth 100000 in
/-- a spec that came in, by its cells -/
theorem specOf {n : Nat} {cs : List Value} {x : DataW H × List MemPlace} (h : DataW.trod enc Tryz.prog w base (fun _ => true) held n 29 cs = some x) : ∃ f b ev : Int, cs = [.int .i64 f, .int .i64 b, .int .i64 ev] := by
  obtain ⟨xs, m, _, hx, hl, hlen, hg⟩ := DataW.trod_struct Tryz.underlying29 h
  rw [specCells] at hl
  match cs, hl with
  | [c0, c1, c2], _ =>
    have g0 : DataW.trod enc Tryz.prog w base (fun _ => true) held m 3 [c0] = xs[0]? := by have := hg 0 _ rfl; simpa [intCells] using this
    have g1 : DataW.trod enc Tryz.prog w base (fun _ => true) held m 3 [c1] = xs[1]? := by have := hg 1 _ rfl; simpa [intCells] using this
    have g2 : DataW.trod enc Tryz.prog w base (fun _ => true) held m 3 [c2] = xs[2]? := by have := hg 2 _ rfl; simpa [intCells] using this
    match xs, hlen with
    | [y0, y1, y2], _ =>
      obtain ⟨n0, e0, _⟩ := DataW.trod_int Tryz.underlying3 (g0.trans rfl)
      obtain ⟨n1, e1, _⟩ := DataW.trod_int Tryz.underlying3 (g1.trans rfl)
      obtain ⟨n2, e2, _⟩ := DataW.trod_int Tryz.underlying3 (g2.trans rfl)
      simp only [List.cons.injEq, and_true] at e0 e1 e2
      subst e0; subst e1; subst e2
      exact ⟨n0, n1, n2, rfl⟩
set_option maxRecDepth 100000 in
/-- a plan that came in -/
theorem openPlan (hv : Value.okWide Tryz.prog w r b0 31 v) (h : DataW.Trod enc Tryz.prog w base (fun _ => true) held 31 v d p) :
    ∃ pg n f b ev : Int, v = planV pg n f b ev := by
  obtain ⟨cs, rfl, hsz⟩ := okWide_struct Tryz.underlying31 hv
  obtain ⟨l⟩ := cs
  obtain ⟨fuel, hf⟩ := h
  obtain ⟨xs, m, _, hx, hl, hlen, hg⟩ := DataW.trod_struct Tryz.underlying31 hf
  rw [planCells] at hsz
  match l, hsz with
  | [c0, c1, c2, c3, c4], _ =>
    have g0 : DataW.trod enc Tryz.prog w base (fun _ => true) held m 3 [c0] = xs[0]? := by have := hg 0 _ rfl; simpa [Value.cells, intCells] using this
    have g1 : DataW.trod enc Tryz.prog w base (fun _ => true) held m 3 [c1] = xs[1]? := by have := hg 1 _ rfl; simpa [Value.cells, intCells] using this
    have g2 : DataW.trod enc Tryz.prog w base (fun _ => true) held m 29 [c2, c3, c4] = xs[2]? := by have := hg 2 _ rfl; simpa [Value.cells, specCells] using this
    match xs, hlen with
    | [y0, y1, y2], _ =>
      obtain ⟨n0, e0, _⟩ := DataW.trod_int Tryz.underlying3 (g0.trans rfl)
      obtain ⟨n1, e1, _⟩ := DataW.trod_int Tryz.underlying3 (g1.trans rfl)
      obtain ⟨f, b, ev, e2⟩ := specOf (g2.trans rfl)
      simp only [List.cons.injEq, and_true] at e0 e1 e2
      obtain ⟨rfl, rfl, rfl⟩ := e2
      subst e0; subst e1
      exact ⟨n0, n1, f, b, ev, rfl⟩
end
theorem mdCellsE : Tryz.prog.cellsOf 27 = 4 := by kernel_rfl
section
variable {H : Type} {enc : TypeId × Value → H} {w : World} {base b0 : Nat} {held : Bool} {r : Reach} {v : Value} {d : DataW H} {p : List MemPlace}
set_option maxRecDepth 100000 in
/-- what a system is made of, as it came in -/
theorem openMadeE (hv : Value.okWide Tryz.prog w r b0 27 v) (h : DataW.Trod enc Tryz.prog w base (fun _ => true) held 27 v d p) :
    ∃ (A1 A2 A3 Ar : Option Addr) (n1 c1 n2 c2 n3 c3 nr cr : Nat) (rs cs gs : List (Int × Int)) (l : List Ru), v = .agg #[.slice A1 n1 c1, .slice A2 n2 c2, .slice A3 n3 c3, .slice Ar nr cr] ∧ rs.length = n1 ∧ RU w w.heap.size A1 rs ∧ cs.length = n2 ∧ RU w w.heap.size A2 cs ∧ gs.length = n3 ∧ RU w w.heap.size A3 gs ∧
      l.length = nr ∧ Rd w w.heap.size Ar (fl ruC l) ∧ (Ar = none → cr = 0) := by
  obtain ⟨f0, f1, hs, hone, t0, t1⟩ := spStructK
  obtain ⟨r0, r1, r2, r3, hru, hrone, rt0, rt1, rt2, rt3⟩ := ruStruct
  obtain ⟨cs, rfl, hsz⟩ := okWide_struct Tryz.underlying27 hv
  obtain ⟨l⟩ := cs
  obtain ⟨fuel, hf⟩ := h
  obtain ⟨xs, m, _, hx, hl, hlen, hg⟩ := DataW.trod_struct Tryz.underlying27 hf
  rw [mdCellsE] at hsz
  match l, hsz with
  | [c0, c1, c2, c5], _ =>
    have g0 : DataW.trod enc Tryz.prog w base (fun _ => true) held m 22 [c0] = xs[0]? := by have := hg 0 _ rfl; simpa [Value.cells, spsCellsK] using this
    have g1 : DataW.trod enc Tryz.prog w base (fun _ => true) held m 22 [c1] = xs[1]? := by have := hg 1 _ rfl; simpa [Value.cells, spsCellsK] using this
    have g2 : DataW.trod enc Tryz.prog w base (fun _ => true) held m 22 [c2] = xs[2]? := by have := hg 2 _ rfl; simpa [Value.cells, spsCellsK] using this
    have g5 : DataW.trod enc Tryz.prog w base (fun _ => true) held m 25 [c5] = xs[3]? := by have := hg 3 _ rfl; simpa [Value.cells, spsCellsK, plCells] using this
    match xs, hlen with
    | [y0, y1, y2, y5], _ =>
      obtain ⟨A1, n1, k1, R1, rfl, a1, a2, a3⟩ := openU Tryz.underlying22 hs hone (by kernel_rfl) (by rw [t0]; exact Tryz.underlying3) (by rw [t1]; exact Tryz.underlying3) (g0.trans rfl)
      obtain ⟨A2, n2, k2, R2, rfl, b1, b2, b3⟩ := openU Tryz.underlying22 hs hone (by kernel_rfl) (by rw [t0]; exact Tryz.underlying3) (by rw [t1]; exact Tryz.underlying3) (g1.trans rfl)
      obtain ⟨A3, n3, k3, R3, rfl, x1, x2, x3⟩ := openU Tryz.underlying22 hs hone (by kernel_rfl) (by rw [t0]; exact Tryz.underlying3) (by rw [t1]; exact Tryz.underlying3) (g2.trans rfl)
      have g5' : DataW.trod enc Tryz.prog w base (fun _ => true) held m 25 [c5] = some y5 := g5.trans rfl
      obtain ⟨zs, m2, _, hx2, hl2, hlen2, hg2⟩ := DataW.trod_struct Tryz.underlying25 g5'
      have g6 : DataW.trod enc Tryz.prog w base (fun _ => true) held m2 23 [c5] = zs[0]? := by have := hg2 0 _ rfl; simpa [Value.cells, rusCells] using this
      match zs, hlen2 with
      | [z0], _ =>
        obtain ⟨Ar, nr, kr, L, rfl, u1, u2, u3, u4⟩ := openR Tryz.underlying23 hru hrone (by kernel_rfl) (by rw [rt0]; exact Tryz.underlying3) (by rw [rt1]; exact Tryz.underlying3) (by rw [rt2]; exact Tryz.underlying3) (by rw [rt3]; exact Tryz.underlying3) (g6.trans rfl)
        exact ⟨A1, A2, A3, Ar, n1, k1, n2, k2, n3, k3, nr, kr, R1, R2, R3, L, rfl, a1, a3, b1, b3, x1, x3, u1, u3, u4⟩
end
end Go.Proofs.YtdepkmpilipolaaGreat
namespace Go.Pol
open Go Go.RowKit
def resS (V : Vm) (x : Int × Int) : Vm := (bec V x.1 x.2 0 0 1).2
def comS (V : Vm) (x : Int × Int) : Vm := (bec V x.1 x.2 2 1 2).2
def guaS (V : Vm) (x : Int × Int) : Vm := (bec V x.1 x.2 4 1 3).2
end Go.Pol
namespace Go.Pol
open Go Go.RowKit
/-- what law 11 makes a system of -/
def sysE (rs cs gs : List (Int × Int)) (l : List Ru) : Vm := planF (gs.foldl guaS (cs.foldl comS (rs.foldl resS newVm))) l
/-- a system is handed back, with what is said of its plan -/
def SysOE (V : Vm) (er : Int) (w : World) (e : Ending) (w' : World) : Prop := ∃ b, e = .returned (.tuple #[.pointer (some ⟨b, 0, none⟩), .int .i64 er]) ∧ SysIs w' b V ∧ w.heap.size ≤ b ∧ Below w.heap.size w w'
def greatE (n1 n2 n3 nr : Nat) : Bool := decide (20 < n1) || decide (20 < n2) || decide (20 < n3) || decide (55 < nr)
end Go.Pol
namespace Go.Proofs.YtdepkmpilipolaaGreat
open Go Go.Proofs Go.RowKit Go.Pol Go.Shelf
attribute [local go_sem] Oper.semAt_some Go.Pol.wide_fn Go.Pol.wide_depth Go.Pol.wide_fn' Go.Pol.wide_depth'

set_option maxRecDepth 100000 in
set_option maxHeartbeats 3200000 in
theorem sys11_any (A1 A2 A3 Ar : Option Addr) (n1 c1 n2 c2 n3 c3 nr cr : Nat) (rs cs gs : List (Int × Int)) (l : List Ru) (w : World)
    (h1 : rs.length = n1) (h2 : cs.length = n2) (h3 : gs.length = n3) (hl : l.length = nr) (hm : (n1 ≤ 1000 ∧ n2 ≤ 1000 ∧ n3 ≤ 1000) ∧ nr ≤ 1000) (hz : Ar = none → cr = 0)
    (r1 : RU w w.heap.size A1 rs) (r2 : RU w w.heap.size A2 cs) (r3 : RU w w.heap.size A3 gs) (rr : Rd w w.heap.size Ar (fl ruC l)) :
    Calls Tryz.prog 6 #[.agg #[.slice A1 n1 c1, .slice A2 n2 c2, .slice A3 n3 c3, .slice Ar nr cr]] w (SysOE (sysE rs cs gs l) (chkR l).2 w) := by
  obtain ⟨⟨hm1, hm2, hm3⟩, hm6⟩ := hm
  obtain ⟨P, hP⟩ : ∃ P, sysE rs cs gs l = P := ⟨_, rfl⟩
  rw [hP]
  have hP' : Hid (planF (gs.foldl guaS (cs.foldl comS (rs.foldl resS newVm))) l = P) := Lib.hid hP
  clear hP
  have HN := Lib.hid (fun W => new_any W)
  have hb0 := (Below.refl w.heap.size w).alloc (Nat.le_refl _) (.cells #[.slice A1 n1 c1, .slice A2 n2 c2, .slice A3 n3 c3, .slice Ar nr cr] 27)
  have k0 := Blk.new w 27 #[.slice A1 n1 c1, .slice A2 n2 c2, .slice A3 n3 c3, .slice Ar nr cr]
  obtain ⟨s, hs0⟩ : ∃ s, w.heap.size = s := ⟨_, rfl⟩
  have hsz0 : (w.alloc (.cells #[.slice A1 n1 c1, .slice A2 n2 c2, .slice A3 n3 c3, .slice Ar nr cr] 27)).heap.size = s + 1 := by rw [World.size_alloc, hs0]
  have r10 := Lib.hid (r1.below hb0)
  have r20 := Lib.hid (r2.below hb0)
  have r30 := Lib.hid (r3.below hb0)
  have rr0 := Lib.hid (rr.below hb0)
  have hGd : Hid (∀ _ : Nat, True) := Lib.hid (fun _ => trivial)
  rw [hs0] at k0 hb0 r10 r20 r30 rr0
  clear r1 r2 r3 rr
  go_enter Tryz.func6, Tryz.ntmps6
  go_upto_region 1 with fail
  generalize w.alloc _ = w0 at *
  go_wp2_with fail
  unfold NewO at HN
  refine (HN.out w0).mono ?_
  rintro e w1 ⟨b, rfl, V1, hbb, hb1⟩
  rw [hsz0] at hb1 hbb
  have hV0 := Lib.hid V1
  have hB0 := hb1
  clear V1 hb1 HN
  go_wp2_with fail
  go_loopw [6] (fun u wr => ∃ k : Nat, k ≤ n1 ∧ u = .int .i64 k ∧ Below (s + 1) w0 wr ∧ Hid (SysIs wr b ((rs.take k).foldl resS newVm))) (fun u _ => n1 - (intOf u).toNat)
  case atStart => exact ⟨0, by omega, rfl, hB0, by simpa using hV0⟩
  clear hV0 hB0
  obtain ⟨k, hk, rfl, hB, hV⟩ := hrel
  have kb := k0.below hB (by omega)
  have c0 := kb.cell
  by_cases hlt : k < n1
  case pos =>
    have hlt' : decide ((k : Int) < (n1 : Int)) = true := by simpa using hlt
    have hstep : (rs.take (k + 1)).foldl resS newVm = resS ((rs.take k).foldl resS newVm) (rs.getD k (0, 0)) := by
      rw [z_take (0, 0) rs (by omega), List.foldl_append]
      rfl
    have hstep' := Lib.hid hstep
    obtain ⟨ub, uo, rfl, hub, hc, hd⟩ := (r10.out.below (hB.mono (by omega))).at_' (k := k) (by omega)
    generalize rs.getD k (0, 0) = x at *
    generalize (rs.take k).foldl resS newVm = V at *
    obtain ⟨xa, xn⟩ := x
    simp only at hc hd
    have e0 := fun x : Ext wr => (x.blk kb).cell
    have e1 := fun x : Ext wr => x.cell hc
    have e2 := fun x : Ext wr => x.cell hd
    clear hstep hc hd
    go_upto_region 7 with fail
    clear c0
    refine region_ext_tail 13 (by kernel_rfl) (by kernel_rfl) ?_
    simp only [List.take_succ_cons, List.take_zero, List.drop_succ_cons, List.drop_zero]
    repeat (go_big_quiet_step (fail))
    refine wpQuiet_nil ?_
    intro z
    go_wp2_with fail
    refine (reserve_any b xa xn V z.w (hV.out.call z.le)).mono ?_
    rintro e w2 ⟨rfl, V2, F2⟩
    have hB2 := (hB.trans (z.le.mono (by have := hB.size; omega))).trans (F2.below (by have := hB.size; have := z.le.size; omega) (fun k hk e => by omega))
    have V2' := Lib.hid V2
    clear e0 e1 e2 hV F2 V2
    go_wp2_with fail
    go_roundw
    case rel => exact ⟨k + 1, by omega, by go_num, hB2, Lib.hid (by rw [hstep'.out]; exact V2'.out)⟩
    case measure => simp [intOf]; omega
  obtain rfl : k = n1 := by omega
  have hlt' : decide ((k : Int) < (k : Int)) = false := by simp
  have hV2 : Hid (SysIs wr b (rs.foldl resS newVm)) := Lib.hid (by have := hV.out; rwa [show k = rs.length from (by omega), List.take_length] at this)
  generalize rs.foldl resS newVm = Va at *
  clear hV
  go_wp2_with fail
  clear hlt' c0 hlt
  have hB0 := hB
  have hV0 := hV2
  clear hB hV2 kb hk
  go_loopw [7] (fun u wr => ∃ k : Nat, k ≤ n2 ∧ u = .int .i64 k ∧ Below (s + 1) w0 wr ∧ Hid (SysIs wr b ((cs.take k).foldl comS Va))) (fun u _ => n2 - (intOf u).toNat)
  case atStart => exact ⟨0, by omega, rfl, hB0, by simpa using hV0⟩
  clear hV0 hB0
  obtain ⟨k, hk, rfl, hB, hV⟩ := hrel
  have kb := k0.below hB (by omega)
  have c0 := kb.cell
  by_cases hlt : k < n2
  case pos =>
    have hlt' : decide ((k : Int) < (n2 : Int)) = true := by simpa using hlt
    have hstep : (cs.take (k + 1)).foldl comS Va = comS ((cs.take k).foldl comS Va) (cs.getD k (0, 0)) := by
      rw [z_take (0, 0) cs (by omega), List.foldl_append]
      rfl
    have hstep' := Lib.hid hstep
    obtain ⟨ub, uo, rfl, hub, hc, hd⟩ := (r20.out.below (hB.mono (by omega))).at_' (k := k) (by omega)
    generalize cs.getD k (0, 0) = x at *
    generalize (cs.take k).foldl comS Va = V at *
    obtain ⟨xa, xn⟩ := x
    simp only at hc hd
    have e0 := fun x : Ext wr => (x.blk kb).cell
    have e1 := fun x : Ext wr => x.cell hc
    have e2 := fun x : Ext wr => x.cell hd
    clear hstep hc hd
    go_upto_region 11 with fail
    clear c0
    refine region_ext_tail 13 (by kernel_rfl) (by kernel_rfl) ?_
    simp only [List.take_succ_cons, List.take_zero, List.drop_succ_cons, List.drop_zero]
    repeat (go_big_quiet_step (fail))
    refine wpQuiet_nil ?_
    intro z
    go_wp2_with fail
    refine (commit_any b xa xn V z.w (hV.out.call z.le)).mono ?_
    rintro e w2 ⟨rfl, V2, F2⟩
    have hB2 := (hB.trans (z.le.mono (by have := hB.size; omega))).trans (F2.below (by have := hB.size; have := z.le.size; omega) (fun k hk e => by omega))
    have V2' := Lib.hid V2
    clear e0 e1 e2 hV F2 V2
    go_wp2_with fail
    go_roundw
    case rel => exact ⟨k + 1, by omega, by go_num, hB2, Lib.hid (by rw [hstep'.out]; exact V2'.out)⟩
    case measure => simp [intOf]; omega
  obtain rfl : k = n2 := by omega
  have hlt' : decide ((k : Int) < (k : Int)) = false := by simp
  have hV2 : Hid (SysIs wr b (cs.foldl comS Va)) := Lib.hid (by have := hV.out; rwa [show k = cs.length from (by omega), List.take_length] at this)
  generalize cs.foldl comS Va = Vb at *
  clear hV
  go_wp2_with fail
  clear hlt' c0 hlt
  have hB0 := hB
  have hV0 := hV2
  clear hB hV2 kb hk
  go_loopw [8] (fun u wr => ∃ k : Nat, k ≤ n3 ∧ u = .int .i64 k ∧ Below (s + 1) w0 wr ∧ Hid (SysIs wr b ((gs.take k).foldl guaS Vb))) (fun u _ => n3 - (intOf u).toNat)
  case atStart => exact ⟨0, by omega, rfl, hB0, by simpa using hV0⟩
  clear hV0 hB0
  obtain ⟨k, hk, rfl, hB, hV⟩ := hrel
  have kb := k0.below hB (by omega)
  have c0 := kb.cell
  by_cases hlt : k < n3
  case pos =>
    have hlt' : decide ((k : Int) < (n3 : Int)) = true := by simpa using hlt
    have hstep : (gs.take (k + 1)).foldl guaS Vb = guaS ((gs.take k).foldl guaS Vb) (gs.getD k (0, 0)) := by
      rw [z_take (0, 0) gs (by omega), List.foldl_append]
      rfl
    have hstep' := Lib.hid hstep
    obtain ⟨ub, uo, rfl, hub, hc, hd⟩ := (r30.out.below (hB.mono (by omega))).at_' (k := k) (by omega)
    generalize gs.getD k (0, 0) = x at *
    generalize (gs.take k).foldl guaS Vb = V at *
    obtain ⟨xa, xn⟩ := x
    simp only at hc hd
    have e0 := fun x : Ext wr => (x.blk kb).cell
    have e1 := fun x : Ext wr => x.cell hc
    have e2 := fun x : Ext wr => x.cell hd
    clear hstep hc hd
    go_upto_region 15 with fail
    clear c0
    refine region_ext_tail 13 (by kernel_rfl) (by kernel_rfl) ?_
    simp only [List.take_succ_cons, List.take_zero, List.drop_succ_cons, List.drop_zero]
    repeat (go_big_quiet_step (fail))
    refine wpQuiet_nil ?_
    intro z
    go_wp2_with fail
    refine (guard_any b xa xn V z.w (hV.out.call z.le)).mono ?_
    rintro e w2 ⟨rfl, V2, F2⟩
    have hB2 := (hB.trans (z.le.mono (by have := hB.size; omega))).trans (F2.below (by have := hB.size; have := z.le.size; omega) (fun k hk e => by omega))
    have V2' := Lib.hid V2
    clear e0 e1 e2 hV F2 V2
    go_wp2_with fail
    go_roundw
    case rel => exact ⟨k + 1, by omega, by go_num, hB2, Lib.hid (by rw [hstep'.out]; exact V2'.out)⟩
    case measure => simp [intOf]; omega
  obtain rfl : k = n3 := by omega
  have hlt' : decide ((k : Int) < (k : Int)) = false := by simp
  have hV2 : Hid (SysIs wr b (gs.foldl guaS Vb)) := Lib.hid (by have := hV.out; rwa [show k = gs.length from (by omega), List.take_length] at this)
  generalize gs.foldl guaS Vb = Vc at *
  clear hV
  go_wp2_with fail
  clear hlt' c0 hlt
  have hB0 := hB
  have hV0 := hV2
  clear hB hV2 kb hk
  have HP := Lib.hid (plan_any b Ar nr cr l _ wr hV0.out hl (by omega) hz ((rr0.out.below (hB0.mono (by omega))).more (by have := hB0.size; omega)))
  go_wp2_with fail
  refine HP.out.mono ?_
  rintro e w2 ⟨rfl, V2, F2⟩
  have hB2 := hb0.trans ((hB0.trans (F2.below (by have := hB0.size; omega) (fun k hk e => by omega))).mono (by omega))
  have V2' := Lib.hid V2
  clear HP hV0 F2 V2 hB0
  go_wp2_with fail
  go_ret2
  exact ⟨b, rfl, by rw [← hP'.out]; exact V2'.out, by omega, by rw [hs0]; exact hB2⟩
set_option maxHeartbeats 800000 in
theorem great11_any (A1 A2 A3 Ar : Option Addr) (n1 c1 n2 c2 n3 c3 nr cr : Nat) (w : World) :
    Calls Tryz.prog 4 #[.agg #[.slice A1 n1 c1, .slice A2 n2 c2, .slice A3 n3 c3, .slice Ar nr cr]] w fun e w' => e = .returned (.bool (greatE n1 n2 n3 nr)) ∧ Below w.heap.size w w' := by
  have hb0 := (Below.refl w.heap.size w).alloc (Nat.le_refl _) (.cells #[.slice A1 n1 c1, .slice A2 n2 c2, .slice A3 n3 c3, .slice Ar nr cr] 27)
  have hG := Lib.hid (show greatE n1 n2 n3 nr = (decide (20 < n1) || decide (20 < n2) || decide (20 < n3) || decide (55 < nr)) from rfl)
  generalize greatE n1 n2 n3 nr = R at *
  by_cases h1 : 20 < n1
  · have d1 : decide ((20 : Int) < (n1 : Int)) = true := by rw [decide_eq_true_eq]; omega
    have hR : Hid (true = R) := Lib.hid (by rw [hG.out, decide_eq_true h1]; simp)
    clear h1
    go_enter Tryz.func4, Tryz.ntmps4
    go_wp2_with fail
    go_ret
    exact ⟨z_ret_bool hR.out, hb0⟩
  have d1 : decide ((20 : Int) < (n1 : Int)) = false := by rw [decide_eq_false_iff_not]; omega
  by_cases h2 : 20 < n2
  · have d2 : decide ((20 : Int) < (n2 : Int)) = true := by rw [decide_eq_true_eq]; omega
    have hR : Hid (true = R) := Lib.hid (by rw [hG.out, decide_eq_true h2]; simp)
    clear h1 h2
    go_enter Tryz.func4, Tryz.ntmps4
    go_wp2_with fail
    go_ret
    exact ⟨z_ret_bool hR.out, hb0⟩
  have d2 : decide ((20 : Int) < (n2 : Int)) = false := by rw [decide_eq_false_iff_not]; omega
  by_cases h3 : 20 < n3
  · have d3 : decide ((20 : Int) < (n3 : Int)) = true := by rw [decide_eq_true_eq]; omega
    have hR : Hid (true = R) := Lib.hid (by rw [hG.out, decide_eq_true h3]; simp)
    clear h1 h2 h3
    go_enter Tryz.func4, Tryz.ntmps4
    go_wp2_with fail
    go_ret
    exact ⟨z_ret_bool hR.out, hb0⟩
  have d3 : decide ((20 : Int) < (n3 : Int)) = false := by rw [decide_eq_false_iff_not]; omega
  by_cases h6 : 55 < nr
  · have d6 : decide ((55 : Int) < (nr : Int)) = true := by rw [decide_eq_true_eq]; omega
    have hR : Hid (true = R) := Lib.hid (by rw [hG.out, decide_eq_true h6]; simp)
    clear h1 h2 h3 h6
    go_enter Tryz.func4, Tryz.ntmps4
    go_wp2_with fail
    go_ret
    exact ⟨z_ret_bool hR.out, hb0⟩
  have d6 : decide ((55 : Int) < (nr : Int)) = false := by rw [decide_eq_false_iff_not]; omega
  have hR : Hid (false = R) := Lib.hid (by rw [hG.out, decide_eq_false h1, decide_eq_false h2, decide_eq_false h3, decide_eq_false h6]; rfl)
  clear h1 h2 h3 h6
  go_enter Tryz.func4, Tryz.ntmps4
  go_wp2_with fail
  go_ret
  exact ⟨z_ret_bool hR.out, hb0⟩
end Go.Proofs.YtdepkmpilipolaaGreat
namespace Go.Pol
open Go Go.RowKit
/-- the cells of the reference's system -/
structure RefC (cs : Array Value) (v : Value) (V : Vm) : Prop where
  size : cs.size = 66639
  kind : ∀ p, p < 1024 → cs[p]? = some (.int .i64 (V.pg p).kind)
  huge : ∀ p, p < 1024 → cs[1024 + p / 16]? = some (.bool (V.pg p).huge)
  byt : ∀ p, p < 1024 → ∀ k, k < 64 → cs[1088 + p * 64 + k]? = some (.int .u8 ((V.pg p).byt k))
  rf : ∀ i, i < 15 → cs[66624 + i]? = (rfC v V.rf.calls V.rf.hits)[i]?
/-- the reference's system in memory; its rules lie below B -/
structure RefIs (w : World) (B b : Nat) (V : Vm) : Prop where
  ex : ∃ (cs : Array Value) (A : Option Addr) (n cap : Nat), Blk w b 94 cs ∧ RefC cs (.slice A n cap) V ∧ (V.rf.rules.length = n ∧ (A = none → cap = 0)) ∧ Rd w B A (fl ruC V.rf.rules) ∧ B ≤ b ∧ RfOk V.rf
theorem RefIs.lt {w : World} {B b : Nat} {V : Vm} (h : RefIs w B b V) : b < w.heap.size := by
  obtain ⟨cs, A, n, cap, hk, _⟩ := h.ex
  exact hk.lt
theorem RefIs.base {w : World} {B b : Nat} {V : Vm} (h : RefIs w B b V) : B ≤ b := by
  obtain ⟨cs, A, n, cap, _, _, _, _, h, _⟩ := h.ex
  exact h
theorem RefIs.ok {w : World} {B b : Nat} {V : Vm} (h : RefIs w B b V) : RfOk V.rf := by
  obtain ⟨cs, A, n, cap, _, _, _, _, _, h⟩ := h.ex
  exact h
/-- rules below a bound are kept by what turns nothing there -/
theorem Rd.keepB {T : Nat → Prop} {w w' : World} {B : Nat} {A : Option Addr} {xs : List Value} (h : Rd w B A xs) (hF : Far T w w') (hT : ∀ k, T k → B ≤ k) : Rd w' B A xs := fun k hk => by
  obtain ⟨b, o, e, hb, hc⟩ := h k hk
  exact ⟨b, o, e, hb, hF.cell hc (fun ht => by have := hT _ ht; simp only at this; omega)⟩
theorem RefIs.far {w w' : World} {B b : Nat} {V : Vm} {T : Nat → Prop} (h : RefIs w B b V) (hF : Far T w w') (hT : ∀ k, T k → B ≤ k ∧ k ≠ b) : RefIs w' B b V := by
  obtain ⟨cs, A, n, cap, h1, h2, h3, h4, h5, h6⟩ := h.ex
  exact ⟨cs, A, n, cap, hF.blk h1 (fun ht => (hT _ ht).2 rfl), h2, h3, h4.keepB hF (fun k hk => (hT k hk).1), h5, h6⟩
theorem RefIs.call {w w' : World} {B b : Nat} {V : Vm} (h : RefIs w B b V) (hb : Below w.heap.size w w') : RefIs w' B b V :=
  h.far (T := fun _ => False) (Far.of_below hb) (fun _ h => h.elim)
/-- a page's kind put anew, and its bytes -/
theorem RefC.put {cs : Array Value} {v : Value} {V : Vm} (h : RefC cs v V) {p : Nat} (hp : p < 1024) (hh : (V.pg p).huge = false) (tk : Int) :
    RefC (putA (cs.setIfInBounds p (.int .i64 tk)) (1088 + p * 64) (List.replicate 64 (.int .u8 0))) v (V.setP p (newPg tk)) := by
  have hs := h.size
  have hl : (List.replicate 64 (Value.int .u8 0)).length = 64 := by simp
  have hg := putA_get (List.replicate 64 (Value.int .u8 0)) (cs.setIfInBounds p (.int .i64 tk)) (1088 + p * 64) (by rw [hl, Array.size_setIfInBounds]; omega)
  have hg2 : ∀ i, (cs.setIfInBounds p (.int .i64 tk))[i]? = if p = i then some (.int .i64 tk) else cs[i]? := fun i => by
    rw [Array.getElem?_setIfInBounds]
    by_cases e : p = i
    · subst e; rw [if_pos rfl, if_pos rfl, if_pos (by omega)]
    · rw [if_neg e, if_neg e]
  have hpg : ∀ q, (V.setP p (newPg tk)).pg q = if q = p then newPg tk else V.pg q := fun q => rfl
  refine ⟨by rw [putA_size, Array.size_setIfInBounds]; exact hs, fun q hq => ?_, fun q hq => ?_, fun q hq k hk => ?_, fun i hi => ?_⟩
  · rw [hg, if_neg (by omega), hg2, hpg]
    by_cases e : q = p
    · subst e; rw [if_pos rfl, if_pos rfl]; rfl
    · rw [if_neg (fun h => e h.symm), if_neg e]; exact h.kind q hq
  · rw [hg, if_neg (by omega), hg2, if_neg (by omega), h.huge q hq, hpg]
    by_cases e : q = p
    · subst e; rw [if_pos rfl, hh]; rfl
    · rw [if_neg e]
  · rw [hg, hl, hpg]
    by_cases e : q = p
    · subst e
      rw [if_pos (by omega), if_pos rfl, List.getElem?_replicate, if_pos (by omega)]; rfl
    · rw [if_neg (by omega), hg2, if_neg (by omega), if_neg e]; exact h.byt q hq k hk
  · rw [hg, if_neg (by rw [hl]; omega), hg2, if_neg (by omega)]; exact h.rf i hi
theorem RefC.putRf {cs : Array Value} {v : Value} {V : Vm} (h : RefC cs v V) (u : Value) (S : Rf) : RefC (putA cs 66624 (rfC u S.calls S.hits)) u { V with rf := S } := by
  have hs := h.size
  have hl : (rfC u S.calls S.hits).length = 15 := rfl
  have hg := putA_get (rfC u S.calls S.hits) cs 66624 (by rw [hl]; omega)
  refine ⟨by rw [putA_size]; exact hs, fun q hq => ?_, fun q hq => ?_, fun q hq k hk => ?_, fun i hi => ?_⟩
  · rw [hg, if_neg (by omega)]; exact h.kind q hq
  · rw [hg, if_neg (by omega)]; exact h.huge q hq
  · rw [hg, if_neg (by omega)]; exact h.byt q hq k hk
  · rw [hg, if_pos (by omega), show 66624 + i - 66624 = i by omega]
theorem RefIs.put {w : World} {B b : Nat} {V : Vm} (h : RefIs w B b V) {p : Nat} (hp : p < 1024) (hh : (V.pg p).huge = false) (tk : Int) :
    RefIs ((w.setCell ⟨b, p, none⟩ (.int .i64 tk)).setCells b (1088 + p * 64) (List.replicate 64 (.int .u8 0))) B b (V.setP p (newPg tk)) ∧ Far (fun k => k = b) w ((w.setCell ⟨b, p, none⟩ (.int .i64 tk)).setCells b (1088 + p * 64) (List.replicate 64 (.int .u8 0))) := by
  obtain ⟨cs, A, n, cap, h1, h2, h3, h4, h5, h6⟩ := h.ex
  have hF1 : Far (fun k => k = b) w (w.setCell ⟨b, p, none⟩ (.int .i64 tk)) := Far.setCell (T := fun k => k = b) (p := ⟨b, p, none⟩) (Far.refl _ _) (fun _ => rfl) _
  have hF := Far.puts (T := fun k => k = b) rfl (List.replicate 64 (Value.int .u8 0)) (1088 + p * 64) w _ hF1
  exact ⟨⟨_, A, n, cap, Blk.puts (w := w) (cs := #[]) (List.replicate 64 (Value.int .u8 0)) (1088 + p * 64) _ _ (h1.set_ _ _), h2.put hp hh tk, h3, h4.keepB hF (fun k e => by omega), h5, h6⟩, hF⟩
theorem RefIs.putRf {w w' : World} {B b : Nat} {V : Vm} (h : RefIs w B b V) (S : Rf) (A : Option Addr) (n cap : Nat) (hB : Below w.heap.size w w') (hn : S.rules.length = n) (hz : A = none → cap = 0) (hr : Rd w' B A (fl ruC S.rules)) (hS : RfOk S) :
    RefIs (w'.setCells b 66624 (rfC (.slice A n cap) S.calls S.hits)) B b { V with rf := S } ∧ Far (fun k => k = b) w (w'.setCells b 66624 (rfC (.slice A n cap) S.calls S.hits)) := by
  have hlt := h.lt
  obtain ⟨cs, A0, n0, cap0, h1, h2, _, _, h5, _⟩ := h.ex
  have k1 := h1.call hB
  have hF := Far.puts (T := fun k => k = b) rfl (rfC (.slice A n cap) S.calls S.hits) 66624 w' w' (Far.refl _ _)
  exact ⟨⟨_, A, n, cap, Blk.puts (w := w) (cs := #[]) (rfC (.slice A n cap) S.calls S.hits) 66624 w' cs k1, h2.putRf _ S, ⟨hn, hz⟩, hr.keepB hF (fun k e => by omega), h5, hS⟩, (Far.of_below hB).trans hF⟩
/-! the zero cells -/
def stV (z : Value → Bool) : Nat → List Value → Option (List Value)
  | 0, v :: r => if z v = true then some r else none
  | 0, [] => none
  | d + 1, l => match stV z d l with
    | some r => stV z d r
    | none => none
theorem stV_spec (z : Value → Bool) : ∀ (d : Nat) (l r : List Value), stV z d l = some r → ∃ pre, l = pre ++ r ∧ pre.length = 2 ^ d ∧ ∀ v ∈ pre, z v = true
  | 0, [], r, h => by cases h
  | 0, v :: l, r, h => by
    rw [stV] at h
    by_cases hz : z v = true
    · rw [if_pos hz] at h
      cases h
      exact ⟨[v], rfl, rfl, by simpa using hz⟩
    · rw [if_neg hz] at h; cases h
  | d + 1, l, r, h => by
    rw [stV] at h
    split at h
    · rename_i r' h'
      obtain ⟨p1, e1, l1, a1⟩ := stV_spec z d l r' h'
      obtain ⟨p2, e2, l2, a2⟩ := stV_spec z d r' r h
      refine ⟨p1 ++ p2, by rw [e1, e2, List.append_assoc], by rw [List.length_append, l1, l2, Nat.pow_succ]; omega, fun v hv => ?_⟩
      rcases List.mem_append.1 hv with h | h
      · exact a1 v h
      · exact a2 v h
    · cases h
def zI : Value → Bool
  | .int .i64 k => decide (k = 0)
  | _ => false
def zB : Value → Bool
  | .bool b => !b
  | _ => false
def zU : Value → Bool
  | .int .u8 k => decide (k = 0)
  | _ => false
theorem zI_eq {v : Value} (h : zI v = true) : v = .int .i64 0 := by
  unfold zI at h
  split at h
  · rw [decide_eq_true_eq] at h; rw [h]
  · cases h
theorem zB_eq {v : Value} (h : zB v = true) : v = .bool false := by
  unfold zB at h
  split at h
  · rename_i b; cases b with
    | false => rfl
    | true => cases h
  · cases h
theorem zU_eq {v : Value} (h : zU v = true) : v = .int .u8 0 := by
  unfold zU at h
  split at h
  · rw [decide_eq_true_eq] at h; rw [h]
  · cases h
def stR (l : List Value) : Option (List Value) :=
  match stV zI 10 l with
  | some r => match stV zB 6 r with
    | some r => stV zU 16 r
    | none => none
  | none => none
theorem newRef {zc : Array Value} (h : stR zc.toList = some (rfC (.slice none 0 0) (fun _ => 0) (fun _ => 0))) (v : Value) : RefC (putA zc 66624 (rfC v (fun _ => 0) (fun _ => 0))) v newVm := by
  unfold stR at h
  split at h
  · rename_i r1 h1
    split at h
    · rename_i r2 h2
      obtain ⟨p1, e1, l1, a1⟩ := stV_spec zI 10 _ _ h1
      obtain ⟨p2, e2, l2, a2⟩ := stV_spec zB 6 _ _ h2
      obtain ⟨p3, e3, l3, a3⟩ := stV_spec zU 16 _ _ h
      have hz : zc.toList = p1 ++ (p2 ++ (p3 ++ rfC (.slice none 0 0) (fun _ => 0) (fun _ => 0))) := by rw [e1, e2, e3]
      simp only [Nat.reducePow] at l1 l2 l3
      have hlen : zc.size = 66639 := by
        rw [← Array.length_toList, hz, List.length_append, List.length_append, List.length_append, l1, l2, l3]; rfl
      have hgl : ∀ i, zc[i]? = (p1 ++ (p2 ++ (p3 ++ rfC (.slice none 0 0) (fun _ => 0) (fun _ => 0))))[i]? := fun i => by rw [← Array.getElem?_toList, hz]
      generalize hL : rfC v (fun _ => 0) (fun _ => 0) = L at *
      have hLl : L.length = 15 := by rw [← hL]; rfl
      have hg := putA_get L zc 66624 (by rw [hLl]; omega)
      refine ⟨by rw [putA_size]; exact hlen, fun p hp => ?_, fun p hp => ?_, fun p hp k hk => ?_, fun i hi => ?_⟩
      · rw [hg, if_neg (by omega), hgl, List.getElem?_append_left (by omega)]
        have hl : p < p1.length := by omega
        rw [List.getElem?_eq_getElem hl, zI_eq (a1 _ (List.getElem_mem hl))]; rfl
      · rw [hg, if_neg (by omega), hgl, List.getElem?_append_right (by omega), List.getElem?_append_left (by omega)]
        have hl : 1024 + p / 16 - p1.length < p2.length := by omega
        rw [List.getElem?_eq_getElem hl, zB_eq (a2 _ (List.getElem_mem hl))]; rfl
      · rw [hg, if_neg (by omega), hgl, List.getElem?_append_right (by omega), List.getElem?_append_right (by omega), List.getElem?_append_left (by omega)]
        have hl : 1088 + p * 64 + k - p1.length - p2.length < p3.length := by omega
        rw [List.getElem?_eq_getElem hl, zU_eq (a3 _ (List.getElem_mem hl))]; rfl
      · rw [hg, if_pos (by omega), show 66624 + i - 66624 = i by omega, ← hL]; rfl
    · cases h
  · cases h
end Go.Pol
namespace Go.Proofs.YtdepkmpilipolaaGreat
open Go Go.Proofs Go.RowKit Go.Pol
set_option maxRecDepth 200000 in
theorem zeroRef : stR Tryz.zeroCells94.toList = some (rfC (.slice none 0 0) (fun _ => 0) (fun _ => 0)) := by kernel_rfl
theorem infoKinds : (Tryz.prog.info? 74).map (·.size) = some 64 := by kernel_rfl
end Go.Proofs.YtdepkmpilipolaaGreat
namespace Go.Pol
open Go Go.RowKit
/-- a run: its first page, its pages, their kind -/
abbrev Rn := Int × Int × Int
def rn0 : Rn := (0, 0, 0)
def rnC (x : Rn) : List Value := [.int .i64 x.1, .int .i64 x.2.1, .int .i64 x.2.2]
theorem rnC_len (x : Rn) : (rnC x).length = 3 := rfl
abbrev rnV (x : Rn) : Value := .agg #[.int .i64 x.1, .int .i64 x.2.1, .int .i64 x.2.2]
abbrev rnA (x : Rn) : Array Value := #[rnV x]
theorem rnC_one (us : List Rn) : ∀ u ∈ fl rnC us, u.oneCell' = true := by
  intro u hu
  simp only [fl, List.mem_flatMap, rnC, List.mem_cons, List.not_mem_nil, or_false] at hu
  obtain ⟨x, _, rfl | rfl | rfl⟩ := hu <;> rfl
def bumpR (l : List Rn) : List Rn := match l.reverse with
  | [] => []
  | x :: r => r.reverse ++ [(x.1, x.2.1 + 1, x.2.2)]
theorem bumpR_snoc (l : List Rn) (x : Rn) : bumpR (l ++ [x]) = l ++ [(x.1, x.2.1 + 1, x.2.2)] := by simp [bumpR]
theorem bumpR_len (l : List Rn) : (bumpR l).length = l.length := by
  unfold bumpR
  split
  · rename_i h; rw [List.reverse_eq_nil_iff] at h; rw [h]
  · rename_i x r h
    have : l = r.reverse ++ [x] := by rw [← List.reverse_reverse l, h, List.reverse_cons]
    rw [this]; simp
theorem bumpR_app (a t : List Rn) (ht : t ≠ []) : bumpR (a ++ t) = a ++ bumpR t ∧ bumpR t ≠ [] := by
  obtain ⟨l, x, rfl⟩ : ∃ l x, t = l ++ [x] := ⟨t.dropLast, t.getLast ht, (List.dropLast_concat_getLast ht).symm⟩
  rw [← List.append_assoc, bumpR_snoc, bumpR_snoc, List.append_assoc]
  exact ⟨rfl, by simp⟩
/-- the runs of the first pages -/
def vrunsL (V : Vm) : Nat → List Rn
  | 0 => []
  | k + 1 => if (V.pg k).kind = 0 then vrunsL V k else if 0 < k ∧ (V.pg (k - 1)).kind = (V.pg k).kind then bumpR (vrunsL V k) else vrunsL V k ++ [((k : Int), 1, (V.pg k).kind)]
theorem vrunsL_succ (V : Vm) (k : Nat) : vrunsL V (k + 1) = if (V.pg k).kind = 0 then vrunsL V k else if 0 < k ∧ (V.pg (k - 1)).kind = (V.pg k).kind then bumpR (vrunsL V k) else vrunsL V k ++ [((k : Int), 1, (V.pg k).kind)] := rfl
theorem vrunsL_len (V : Vm) : ∀ k, (vrunsL V k).length ≤ k
  | 0 => Nat.le_refl _
  | k + 1 => by
    have := vrunsL_len V k
    unfold vrunsL
    split
    · omega
    · split
      · rw [bumpR_len]; omega
      · rw [List.length_append, List.length_singleton]; omega
/-- a page where no run goes on -/
def bdy (V : Vm) (p : Nat) : Prop := p = 0 ∨ (V.pg (p - 1)).kind ≠ (V.pg p).kind ∨ 1024 ≤ p
theorem vruns_same {V : Vm} {p : Nat} {c : Int} (hb : p = 0 ∨ (V.pg (p - 1)).kind ≠ (V.pg p).kind) (hc : c ≠ 0) : ∀ m, (∀ q, p ≤ q → q < p + (m + 1) → (V.pg q).kind = c) → vrunsL V (p + (m + 1)) = vrunsL V p ++ [((p : Int), ((m + 1 : Nat) : Int), c)]
  | 0, h => by
    have h0 := h p (by omega) (by omega)
    rw [Nat.zero_add, vrunsL_succ, if_neg (by rw [h0]; exact hc), if_neg (by
      rintro ⟨h1, h2⟩
      rcases hb with h3 | h3
      · omega
      · exact h3 h2), h0]
    rfl
  | m + 1, h => by
    have ih := vruns_same hb hc m (fun q h1 h2 => h q h1 (by omega))
    have h0 := h (p + (m + 1)) (by omega) (by omega)
    have h1 := h (p + (m + 1) - 1) (by omega) (by omega)
    rw [show p + (m + 1 + 1) = p + (m + 1) + 1 by omega, vrunsL_succ, if_neg (by rw [h0]; exact hc), if_pos ⟨by omega, by rw [h0, h1]⟩, ih, bumpR_snoc]
    have e : ((m + 1 : Nat) : Int) + 1 = ((m + 1 + 1 : Nat) : Int) := by omega
    rw [← e]
theorem vruns_free {V : Vm} {p : Nat} : ∀ m, (∀ q, p ≤ q → q < p + m → (V.pg q).kind = 0) → vrunsL V (p + m) = vrunsL V p
  | 0, _ => rfl
  | m + 1, h => by
    rw [← Nat.add_assoc, vrunsL_succ, if_pos (h (p + m) (by omega) (by omega))]
    exact vruns_free m (fun q h1 h2 => h q h1 (by omega))
theorem vruns_pre {V : Vm} {q : Nat} (hb : q = 0 ∨ (V.pg (q - 1)).kind ≠ (V.pg q).kind) : ∀ m, ∃ t, vrunsL V (q + m) = vrunsL V q ++ t ∧ (0 < m → (V.pg (q + m - 1)).kind ≠ 0 → t ≠ [])
  | 0 => ⟨[], by simp, fun h => absurd h (by omega)⟩
  | m + 1 => by
    obtain ⟨t, h1, h2⟩ := vruns_pre hb m
    have e : q + (m + 1) - 1 = q + m := by omega
    rw [e]
    rw [← Nat.add_assoc, vrunsL_succ]
    by_cases hk : (V.pg (q + m)).kind = 0
    · rw [if_pos hk]
      exact ⟨t, h1, fun _ h => absurd hk h⟩
    · rw [if_neg hk]
      by_cases hs : 0 < q + m ∧ (V.pg (q + m - 1)).kind = (V.pg (q + m)).kind
      · rw [if_pos hs]
        have hm : 0 < m := by
          rcases Nat.eq_zero_or_pos m with h | h
          · subst h
            rcases hb with h3 | h3
            · omega
            · exact absurd hs.2 h3
          · exact h
        have ht := h2 hm (by rw [hs.2]; exact hk)
        obtain ⟨b1, b2⟩ := bumpR_app (vrunsL V q) t ht
        exact ⟨bumpR t, by rw [h1, b1], fun _ _ => b2⟩
      · rw [if_neg hs]
        exact ⟨t ++ [(((q + m : Nat) : Int), 1, (V.pg (q + m)).kind)], by rw [h1, List.append_assoc], fun _ _ => by simp⟩
theorem vruns_prefix {V : Vm} {q : Nat} (hb : bdy V q) (hq : q ≤ 1024) : vrunsL V q <+: vrunsL V 1024 := by
  by_cases h : q = 1024
  · rw [h]; exact List.prefix_refl _
  · obtain ⟨t, ht, _⟩ := vruns_pre (V := V) (q := q) (hb.elim .inl (fun h => h.elim .inr (fun h => by omega))) (1024 - q)
    rw [show q + (1024 - q) = 1024 by omega] at ht
    exact ⟨t, ht.symm⟩
/-- the first pages of huge groups -/
def hugL (V : Vm) : Nat → List Int
  | 0 => []
  | k + 1 => if k % 16 = 0 ∧ (V.pg k).huge = true then hugL V k ++ [(k : Int)] else hugL V k
theorem hugL_len (V : Vm) : ∀ k, (hugL V k).length ≤ k
  | 0 => Nat.le_refl _
  | k + 1 => by
    have := hugL_len V k
    unfold hugL
    split
    · rw [List.length_append, List.length_singleton]; omega
    · omega
/-- does a page have a byte that is not zero? -/
def nzB (g : Pg) : Bool := (List.range 64).any fun k => g.byt k != 0
/-- the pages with bytes -/
def datL (V : Vm) : Nat → List Nat
  | 0 => []
  | k + 1 => if nzB (V.pg k) = true then datL V k ++ [k] else datL V k
theorem datL_len (V : Vm) : ∀ k, (datL V k).length ≤ k
  | 0 => Nat.le_refl _
  | k + 1 => by
    have := datL_len V k
    unfold datL
    split
    · rw [List.length_append, List.length_singleton]; omega
    · omega
def bytL (g : Pg) : List Value := (List.range 64).map fun k => .int .u8 (g.byt k)
theorem bytL_len (g : Pg) : (bytL g).length = 64 := by simp [bytL]
def daC (V : Vm) (p : Nat) : List Value := .int .i64 p :: bytL (V.pg p)
theorem daC_len (V : Vm) (p : Nat) : (daC V p).length = 65 := by simp [daC, bytL_len]
theorem bytL_one (g : Pg) : ∀ x ∈ bytL g, x.oneCell' = true := by
  intro x hx
  simp only [bytL, List.mem_map] at hx
  obtain ⟨k, _, rfl⟩ := hx
  rfl
theorem daC_one (V : Vm) (us : List Nat) : ∀ u ∈ fl (daC V) us, u.oneCell' = true := by
  intro u hu
  simp only [fl, List.mem_flatMap, daC, List.mem_cons] at hu
  obtain ⟨x, _, rfl | h⟩ := hu
  · rfl
  · exact bytL_one _ u h
/-- zero bytes are those of a page without any -/
theorem nzB_false {g : Pg} : nzB g = false ↔ ∀ k, k < 64 → g.byt k = 0 := by
  unfold nzB
  rw [Bool.eq_false_iff, Ne, List.any_eq_true]
  constructor
  · intro h k hk
    by_cases hz : g.byt k = 0
    · exact hz
    · exact absurd ⟨k, List.mem_range.2 hk, by simpa using hz⟩ h
  · rintro h ⟨k, hk, hz⟩
    rw [h k (List.mem_range.1 hk)] at hz
    simp at hz
end Go.Pol
namespace Go.Proofs.YtdepkmpilipolaaGreat
open Go Go.Proofs Go.RowKit Go.Pol Go.Shelf
attribute [local go_sem] Oper.semAt_some Go.Pol.wide_fn Go.Pol.wide_depth Go.Pol.wide_fn' Go.Pol.wide_depth'

theorem vruns_any (b : Nat) (w : World) :
    Calls Tryz.prog 40 #[.pointer (some ⟨b, 0, none⟩)] w fun e w' => e = .returned (.func (.func 63) #[] #[.pointer (some ⟨w.heap.size, 0, none⟩)]) ∧ w' = w.alloc (.cells #[.pointer (some ⟨b, 0, none⟩)] 34) := by
  go_enter Tryz.func40, Tryz.ntmps40
  go_wp2
  go_ret
  exact ⟨by simp, rfl⟩
theorem vruns1_enters : ∀ args w, (callFunc 63 args).run Tryz.prog w = .ok (.enter 63 args) w := enters_of Tryz.func63 (by kernel_rfl) rfl
set_option maxRecDepth 100000 in
set_option maxHeartbeats 1600000 in
theorem vruns1_seq (b B1 : Nat) (V : Vm) (cs : Array Value) (v : Value) (K : Nat → Prop) (w : World) (hKb : K b) (hK1 : K B1)
    (k1 : Blk w B1 34 #[.pointer (some ⟨b, 0, none⟩)]) (kS : Blk w b 85 cs) (hc : SysC cs v V) :
    SeqX Tryz.prog 63 #[.pointer (some ⟨B1, 0, none⟩)] rnA (fun _ => False) K (vrunsL V 1024) w := by
  intro m l J Jx W hW hJ hJx hnew hY h0
  have kB1 := hW.blk k1 (by simpa using hK1)
  have kbS := hW.blk kS (by simpa using hKb)
  have hkd := Lib.hid (fun (wr : World) (h : Blk wr b 85 cs) p (hp : p < 1024) => (h.cell (1 + p * 66)).trans (hc.kind hp))
  refine callsIn_of_wp Tryz.func63 rfl trivial ?_ rfl
  simp only [Tryz.ntmps63, List.size_toArray, List.length_cons, List.length_nil, Nat.reduceAdd, Nat.reduceSub, Array.replicate_succ, Array.replicate_zero, List.push_toArray, List.append_toArray, List.nil_append, List.cons_append]
  clear hW k1 kS hc
  gi_wp2_with fail
  gi_loopw [3] (fun u wr => ∃ p : Nat, p ≤ 1024 ∧ u = .int .i64 p ∧ W.heap.size ≤ wr.heap.size ∧ J (fun _ => False) (vrunsL V p) wr ∧ Blk wr B1 34 #[.pointer (some ⟨b, 0, none⟩)] ∧ Blk wr b 85 cs ∧ Hid (bdy V p)) (fun u _ => 1024 - (intOf u).toNat)
  case atStart => exact ⟨0, by omega, rfl, Nat.le_refl _, h0, kB1, kbS, Lib.hid (.inl rfl)⟩
  case round =>
    clear h0 kB1 kbS
    obtain ⟨p, hp, rfl, hwz, hJs, kB1, kbS, hbd⟩ := hrel
    by_cases hlt : p < 1024
    · have hlt' : decide ((p : Int) < 1024) = true := by rw [decide_eq_true_eq]; omega
      have hpl : (p : Int) < 1024 := by omega
      have hcell := hkd.out wr kbS p hlt
      have c1 := kB1.cell
      obtain ⟨kd, hkdp⟩ : ∃ kd, (V.pg p).kind = kd := ⟨_, rfl⟩
      rw [hkdp] at hcell
      have kX := Blk.new wr 73 #[.int .i64 p, .int .i64 0, .int .i64 kd]
      have hfa : Far (fun _ => False) wr (wr.alloc (.cells #[.int .i64 p, .int .i64 0, .int .i64 kd] 73)) := (Far.refl _ wr).alloc _
      have hJ2 := hJ _ _ _ _ (hnew _ (fun k => k = wr.heap.size) _ wr hJs (fun j hj => .inr (by omega))) (hfa.mono fun _ _ h => h.elim)
      have kB1b := kB1.alloc (.cells #[.int .i64 p, .int .i64 0, .int .i64 kd] 73)
      have kbSb := kbS.alloc (.cells #[.int .i64 p, .int .i64 0, .int .i64 kd] 73)
      have hszb : W.heap.size ≤ (wr.alloc (.cells #[.int .i64 p, .int .i64 0, .int .i64 kd] 73)).heap.size := by simp; omega
      have hbx0 : wr.heap.size < (wr.alloc (.cells #[.int .i64 p, .int .i64 0, .int .i64 kd] 73)).heap.size := by simp
      have hne1 : B1 ≠ wr.heap.size := Nat.ne_of_lt kB1.lt
      have hneb : b ≠ wr.heap.size := Nat.ne_of_lt kbS.lt
      have hkdp' := Lib.hid hkdp
      clear hkdp
      gi_wp2_with fail
      generalize wr.alloc (.cells #[.int .i64 p, .int .i64 0, .int .i64 kd] 73) = wa at *
      generalize wr.heap.size = bx at *
      clear hJs kB1 kbS hfa hwz hcell c1 hlt'
      gi_loopw [3] (fun u wr => ∃ q : Nat, p ≤ q ∧ q ≤ 1024 ∧ u = .int .i64 q ∧ W.heap.size ≤ wr.heap.size ∧ bx < wr.heap.size ∧ J (fun k => k = bx) (vrunsL V p) wr ∧ Blk wr B1 34 #[.pointer (some ⟨b, 0, none⟩)] ∧ Blk wr b 85 cs ∧ Blk wr bx 73 #[.int .i64 p, .int .i64 ((q - p : Nat) : Int), .int .i64 kd] ∧ Hid (∀ r, p ≤ r → r < q → (V.pg r).kind = kd)) (fun u _ => 1024 - (intOf u).toNat)
      case atStart => exact ⟨p, by omega, by omega, rfl, hszb, hbx0, hJ2, kB1b, kbSb, by rw [Nat.sub_self]; exact kX, Lib.hid (fun r h1 h2 => by omega)⟩
      case round =>
        clear hJ2 kB1b kbSb kX hszb hbx0
        obtain ⟨q, hq0, hq1, rfl, hwz, hbx, hJs, kB1, kbS, kX, hall⟩ := hrel
        by_cases hq : q < 1024
        · have hq' : decide ((q : Int) < 1024) = true := by rw [decide_eq_true_eq]; omega
          have hql : (q : Int) < 1024 := by omega
          have e1 := fun z : Ext wr => (z.blk kB1).cell
          have e2 := fun z : Ext wr => (z.blk kX).cell
          have hcell := hkd.out wr kbS q hq
          have e3 := fun z : Ext wr => z.cell hcell
          generalize hgk : (V.pg q).kind = kq at *
          gi_upto_region 3 with fail
          refine wpIn_wide.2 ?_
          by_cases hkq : kq = kd
          · have hkq' : (kq == kd) = true := by simpa using hkq
            have hall2 : Hid (∀ r, p ≤ r → r < q + 1 → (V.pg r).kind = kd) := Lib.hid (fun r h1 h2 => by
              by_cases e : r = q
              · rw [e, hgk, hkq]
              · exact hall.out r h1 (by omega))
            clear hkq hgk hall
            refine region_ext (by kernel_rfl) (by kernel_rfl) ?_
            repeat (go_big_quiet_step (fail))
            refine wpQuiet_nil ?_
            rintro w3 ⟨⟨_, hw3⟩, rfl⟩
            have kX3 := kX.call hw3
            have J3 := hJ _ _ wr w3 hJs (.of_below hw3)
            have hwz3 := Nat.le_trans hwz hw3.size
            have hbx3 := Nat.lt_of_lt_of_le hbx hw3.size
            have kB13 := kB1.call hw3
            have kbS3 := kbS.call hw3
            have cX := kX3.cell
            have fX := kX3.frozen
            have F4 : Far (fun k => k = bx) w3 (w3.setCell ⟨bx, 1, none⟩ (.int .i64 ((q - p + 1 : Nat) : Int))) := Far.setCell (T := fun k => k = bx) (p := ⟨bx, 1, none⟩) (Far.refl _ w3) (fun _ => rfl) _
            have kX4 := kX3.set_ 1 (.int .i64 ((q - p + 1 : Nat) : Int))
            have hcs1 : ((q - p : Nat) : Int) + 1 = ((q - p + 1 : Nat) : Int) := by omega
            have J4 := hJ _ _ w3 _ J3 (F4.mono fun _ _ h => .inr h)
            have kB14 := F4.blk kB13 hne1
            have kbS4 := F4.blk kbS3 hneb
            have hs4 := F4.size
            have hql2 : ((q - p : Nat) : Int) < 2000 := by omega
            have hq0' : q - p + 1 = q + 1 - p := by omega
            rw [hq0'] at kX4
            clear e1 e2 e3 hJs kB1 kbS kX J3 kB13 kbS3 kX3 hw3 F4 hcell
            gi_wp2_with fail
            rw [hq0'] at J4 kB14 kbS4 hs4
            go_roundw
            case rel => exact ⟨q + 1, by omega, by omega, by go_num, by omega, by omega, J4, kB14, kbS4, kX4, hall2⟩
            case measure => simp [intOf]; omega
          · have hkq' : (kq == kd) = false := by simpa using hkq
            have hqp : Hid (p < q) := Lib.hid (by
              rcases Nat.lt_or_ge p q with h | h
              · exact h
              · exfalso
                have : q = p := by omega
                rw [this] at hgk
                exact hkq (hgk.symm.trans hkdp'.out))
            have hbq : Hid (bdy V q) := Lib.hid (.inr (.inl (by
              have := hqp.out
              rw [hgk, hall.out (q - 1) (by omega) (by omega)]
              exact fun h => hkq h.symm)))
            clear hkq hgk hq
            refine region_ext (by kernel_rfl) (by kernel_rfl) ?_
            repeat (go_big_quiet_step (fail))
            refine wpQuiet_nil ?_
            rintro w3 ⟨⟨_, hw3⟩, rfl⟩
            have kX3 := kX.call hw3
            have J3 := hJ _ _ wr w3 hJs (.of_below hw3)
            have hwz3 := Nat.le_trans hwz hw3.size
            have hbx3 := Nat.lt_of_lt_of_le hbx hw3.size
            have kB13 := kB1.call hw3
            have kbS3 := kbS.call hw3
            have cX := kX3.cell
            clear e1 e2 e3 hJs kB1 kbS kX hw3 hcell
            by_cases hk0 : kd = 0
            · subst hk0
              have hR : Hid (vrunsL V q = vrunsL V p) := Lib.hid (by
                have := vruns_free (V := V) (p := p) (q - p) (fun r h1 h2 => hall.out r h1 (by have := hqp.out; omega))
                rwa [show p + (q - p) = q by have := hqp.out; omega] at this)
              have J4 := hnew _ (fun _ => False) _ _ J3 (fun _ h => h.elim)
              rw [← hR.out] at J4
              have hqp2 := hqp.out
              gi_wp2_with fail
              go_roundw
              case rel => exact ⟨q, by omega, rfl, hwz3, J4, kB13, kbS3, hbq⟩
              case measure => simp [intOf]; omega
            · have hk0' : (kd != 0) = true := by simpa using hk0
              have hR : Hid (vrunsL V q = vrunsL V p ++ [((p : Int), ((q - p : Nat) : Int), kd)]) := Lib.hid (by
                have h1 := hqp.out
                have h2 := vruns_same (V := V) (p := p) (c := kd) (hbd.out.elim .inl (fun h => h.elim .inr (fun h => by omega))) hk0 (q - p - 1) (fun r a1 a2 => hall.out r a1 (by omega))
                rw [show q - p - 1 + 1 = q - p by omega, show p + (q - p) = q by omega] at h2
                exact h2)
              have hpre : Hid (vrunsL V p ++ [((p : Int), ((q - p : Nat) : Int), kd)] <+: vrunsL V 1024) := Lib.hid (by
                rw [← hR.out]
                exact vruns_prefix hbq.out (by omega))
              have hqp2 := hqp.out
              obtain ⟨fn, tmps, assign, body, hy, hRd⟩ := hY (m - 1) (fun k => k = bx) (vrunsL V p) ((p : Int), ((q - p : Nat) : Int), kd) w3 J3 (fun k hk => by rw [hk]; exact hbx3) hpre.out
              clear hY hk0
              gi_wp2_with fail
              refine hRd.mono ?_
              rintro e W4 (⟨rfl, hJ4, hF4⟩ | ⟨rfl, hJx4⟩)
              · have J5 := hnew _ (fun _ => False) _ _ hJ4 (fun _ h => h.elim)
                rw [← hR.out] at J5
                gi_wp2_with fail
                go_roundw
                case rel => exact ⟨q, by omega, rfl, Nat.le_trans hwz3 hF4.size, J5, hF4.blk kB13 (fun h => h (.inl hK1)), hF4.blk kbS3 (fun h => h (.inl hKb)), hbq⟩
                case measure => simp [intOf]; omega
              · gi_wp2_with fail
                refine bodyPost_ret (results_none rfl _ _ _) rfl ?_
                exact ⟨⟨_, rfl⟩, .inr ⟨_, _, hpre.out, hJx4⟩⟩
        · obtain rfl : q = 1024 := by omega
          have hq' : decide (((1024 : Nat) : Int) < 1024) = false := by decide
          have hqp : Hid (p < 1024) := Lib.hid hlt
          have hbq : Hid (bdy V 1024) := Lib.hid (.inr (.inr (Nat.le_refl _)))
          have e1 := fun z : Ext wr => (z.blk kB1).cell
          have e2 := fun z : Ext wr => (z.blk kX).cell
          have e3 : True := trivial
          have hcell : True := trivial
          gi_upto_region 3 with fail
          refine wpIn_wide.2 ?_
          refine region_ext (by kernel_rfl) (by kernel_rfl) ?_
          repeat (go_big_quiet_step (fail))
          refine wpQuiet_nil ?_
          rintro w3 ⟨⟨_, hw3⟩, rfl⟩
          have kX3 := kX.call hw3
          have J3 := hJ _ _ wr w3 hJs (.of_below hw3)
          have hwz3 := Nat.le_trans hwz hw3.size
          have hbx3 := Nat.lt_of_lt_of_le hbx hw3.size
          have kB13 := kB1.call hw3
          have kbS3 := kbS.call hw3
          have cX := kX3.cell
          clear e1 e2 e3 hJs kB1 kbS kX hw3 hcell
          by_cases hk0 : kd = 0
          · subst hk0
            have hR : Hid (vrunsL V 1024 = vrunsL V p) := Lib.hid (by
              have := vruns_free (V := V) (p := p) (1024 - p) (fun r h1 h2 => hall.out r h1 (by have := hqp.out; omega))
              rwa [show p + (1024 - p) = 1024 by have := hqp.out; omega] at this)
            have J4 := hnew _ (fun _ => False) _ _ J3 (fun _ h => h.elim)
            rw [← hR.out] at J4
            have hqp2 := hqp.out
            gi_wp2_with fail
            go_roundw
            case rel => exact ⟨1024, by omega, rfl, hwz3, J4, kB13, kbS3, hbq⟩
            case measure => simp [intOf]; omega
          · have hk0' : (kd != 0) = true := by simpa using hk0
            have hR : Hid (vrunsL V 1024 = vrunsL V p ++ [((p : Int), ((1024 - p : Nat) : Int), kd)]) := Lib.hid (by
              have h1 := hqp.out
              have h2 := vruns_same (V := V) (p := p) (c := kd) (hbd.out.elim .inl (fun h => h.elim .inr (fun h => by omega))) hk0 (1024 - p - 1) (fun r a1 a2 => hall.out r a1 (by omega))
              rw [show 1024 - p - 1 + 1 = 1024 - p by omega, show p + (1024 - p) = 1024 by omega] at h2
              exact h2)
            have hpre : Hid (vrunsL V p ++ [((p : Int), ((1024 - p : Nat) : Int), kd)] <+: vrunsL V 1024) := Lib.hid (by
              rw [← hR.out]
              exact vruns_prefix hbq.out (by omega))
            have hqp2 := hqp.out
            obtain ⟨fn, tmps, assign, body, hy, hRd⟩ := hY (m - 1) (fun k => k = bx) (vrunsL V p) ((p : Int), ((1024 - p : Nat) : Int), kd) w3 J3 (fun k hk => by rw [hk]; exact hbx3) hpre.out
            clear hY hk0
            gi_wp2_with fail
            refine hRd.mono ?_
            rintro e W4 (⟨rfl, hJ4, hF4⟩ | ⟨rfl, hJx4⟩)
            · have J5 := hnew _ (fun _ => False) _ _ hJ4 (fun _ h => h.elim)
              rw [← hR.out] at J5
              gi_wp2_with fail
              go_roundw
              case rel => exact ⟨1024, by omega, rfl, Nat.le_trans hwz3 hF4.size, J5, hF4.blk kB13 (fun h => h (.inl hK1)), hF4.blk kbS3 (fun h => h (.inl hKb)), hbq⟩
              case measure => simp [intOf]; omega
            · gi_wp2_with fail
              refine bodyPost_ret (results_none rfl _ _ _) rfl ?_
              exact ⟨⟨_, rfl⟩, .inr ⟨_, _, hpre.out, hJx4⟩⟩
    · obtain rfl : p = 1024 := by omega
      have hlt' : decide (((1024 : Nat) : Int) < 1024) = false := by decide
      gi_wp2_with fail
      go_end0
      exact ⟨⟨_, rfl⟩, .inl ⟨_, hJs⟩⟩
end Go.Proofs.YtdepkmpilipolaaGreat
