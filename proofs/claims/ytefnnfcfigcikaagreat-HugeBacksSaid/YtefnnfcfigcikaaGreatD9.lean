/- Merged texts. Walks of the reference of layer 6: two equal saved states are the same. Walks of law 13: the statement of HugeBacks that makes both systems, whose order of evaluation is open. Walks of the reference of layer 6: the two regions of Save that draw their order, over any slots. Walks of the reference of layer 6: Save. -/
import Derived.Laws.AppendOwnNone
import Derived.Deep.CutRange
import Derived.OwnWalk
import Derived.Test.YtefnnfcfigcikaaGreatD8
namespace Go.Proofs.YtefnnfcfigcikaaGreat
open Go Go.Proofs Go.RowKit Go.Pol Go.Shelf
attribute [local go_sem] Oper.semAt_some Go.Pol.wide_fn Go.Pol.wide_depth Go.Pol.wide_fn' Go.Pol.wide_depth'

/-- a whole array is loaded in a quiet walk -/
theorem wpQuiet_load' {P : Program} {ops : Array Oper} {C : World → Prop} {Q : Act → Prop} {a : Act} {o : Oper} {rest : List Oper} (x : Operand) (ty : TypeId) (p : Addr) (v : Value) (hg : o.guard = none) (h : o.op = .load ty x) (hx : a.eval x = .pointer (some p)) (hl : ∀ w, C w → (loadVar ty p).run P w = .ok v w)
    (hk : wpQuiet P ops C Q rest (a.put o.dst v)) : wpQuiet P ops C Q (o :: rest) a :=
  wpQuiet_step fun K hK => by
    rw [if_pos (by simp [Region.wanted, hg])]
    refine ⟨v, fun w hw => ?_, hK _ hk⟩
    unfold Oper.quietAt
    have e : (execOp a.eval o).run P w = .ok (.value v) w := by
      unfold execOp
      simp only [h]
      simp [hx, Instr.loadAt, Instr.sureAddr, Result.andThen, hl w hw]
    rw [e]
    exact ⟨rfl, rfl⟩
theorem infoDaS : (Tryz.prog.info? 171).map (·.size) = some 65 := by kernel_rfl
theorem eqItemsR (d : Nat) (f : Nat → Int) (w : World) : ∀ is : List Nat, (∀ i ∈ is, i < 64) → (Op.eqItems (d + 1) 5 1 (arrI .u8 64 f) (arrI .u8 64 f) is).run Tryz.prog w = .ok true w
  | [], _ => by simp [Op.eqItems]
  | i :: is, h => by
    have ih := eqItemsR d f w is (fun j hj => h j (by simp [hj]))
    have h1 := arrI_at (k := .u8) (f := f) (h i (by simp))
    have a3 := Tryz.isAgg5
    have he := run_equalIn_int (P := Tryz.prog) w d 5 .u8 _ (f i) (f i) Tryz.underlying5
    generalize arrI .u8 64 f = X at *
    have p1 : (part 5 X (i * 1)).run Tryz.prog w = .ok (.int .u8 (f i)) w := by simp [part, a3, h1]
    rw [show (f i == f i) = true by simp] at he
    simp only [Op.eqItems, Sem.run_bind, p1, he, Result.andThen_ok, Bool.not_true, Bool.false_eq_true, if_false]
    exact ih
theorem eq64R (d : Nat) (f : Nat → Int) (w : World) : (Op.equalIn (d + 2) 109 (.agg (arrI .u8 64 f)) (.agg (arrI .u8 64 f))).run Tryz.prog w = .ok true w := by
  obtain ⟨i0, hi⟩ := info_of_underlying (P := Tryz.prog) Tryz.underlying5
  rw [run_equalIn_array w (d + 1) _ _ Tryz.underlying109 hi]
  have hc : Tryz.prog.cellsOf 5 = 1 := by kernel_rfl
  rw [hc]
  exact eqItemsR d f w _ (fun i hi => List.mem_range.1 hi)
theorem daA_bytes (p : Int) (f : Nat → Int) : (daA p f).extract 1 65 = arrI .u8 64 f := by kernel_rfl
theorem daA_size (p : Int) (f : Nat → Int) : (daA p f).size = 65 := by kernel_rfl
theorem daA_page (p : Int) (f : Nat → Int) : (daA p f)[0]? = some (.int .i64 p) := by kernel_rfl
theorem eqDa (p : Int) (f : Nat → Int) (w : World) : (Op.equalIn 10000 171 (.agg (daA p f)) (.agg (daA p f))).run Tryz.prog w = .ok true w := by
  have u3 := Tryz.underlying3
  have a3 := Tryz.isAgg3
  have z3 := Tryz.sizeOf3
  have a9 := Tryz.isAgg109
  have z9 := Tryz.sizeOf109
  have h0 : (daA p f)[0]? = some (.int .i64 p) := daA_page p f
  have hx : (daA p f).extract 1 65 = arrI .u8 64 f := daA_bytes p f
  have hs := daA_size p f
  have he : (Op.equalIn 9999 109 (.agg (arrI .u8 64 f)) (.agg (arrI .u8 64 f))).run Tryz.prog w = .ok true w := eq64R 9997 f w
  have he0 : (Op.equalIn 9999 3 (.int .i64 p) (.int .i64 p)).run Tryz.prog w = .ok (p == p) w := run_equalIn_int (P := Tryz.prog) w 9998 3 .i64 _ p p Tryz.underlying3
  rw [show (p == p) = true by simp] at he0
  generalize daA p f = D at *
  generalize arrI .u8 64 f = X at *
  rw [show (10000 : Nat) = 9999 + 1 from rfl]
  go_simp
  obtain ⟨hlt, e0⟩ := Array.getElem?_eq_some_iff.1 h0
  simp only [e0, he0, he, Result.andThen_ok, Bool.true_eq_false, if_false]
set_option maxRecDepth 100000 in
set_option maxHeartbeats 3200000 in
theorem same6_any (S T : Value) (V : Vm) (w : World) (hS : VsIs w S V) (hT : VsIs w T V) (hm : V.rf.rules.length ≤ 1000) :
    Calls Tryz.prog 32 #[S, T] w fun e w' => e = .returned (.bool true) ∧ Below w.heap.size w w' := by
  obtain ⟨A1, A2, A3, A4, n1, c1, n2, c2, n3, c3, n4, c4, rfl, h1, r1, h2, r2, h3, r3, h4, r4⟩ := hS.ex
  obtain ⟨B1, B2, B3, B4, m1, d1, m2, d2, m3, d3, m4, d4, rfl, g1, q1, g2, q2, g3, q3, g4, q4⟩ := hT.ex
  obtain rfl : n1 = m1 := h1.symm.trans g1
  obtain rfl : n2 = m2 := h2.symm.trans g2
  obtain rfl : n3 = m3 := h3.symm.trans g3
  obtain rfl : n4 = m4 := h4.symm.trans g4
  clear g1 g2 g3 g4 hS hT
  have hb0 := ((Below.refl w.heap.size w).alloc (Nat.le_refl _) (.cells (stC (.slice A1 n1 c1) (.slice A2 n2 c2) (.slice A3 n3 c3) (.slice A4 n4 c4) V.rf.calls V.rf.hits).toArray 81)).alloc (by simp) (.cells (stC (.slice B1 n1 d1) (.slice B2 n2 d2) (.slice B3 n3 d3) (.slice B4 n4 d4) V.rf.calls V.rf.hits).toArray 81)
  have k0 := (Blk.new w 81 (stC (.slice A1 n1 c1) (.slice A2 n2 c2) (.slice A3 n3 c3) (.slice A4 n4 c4) V.rf.calls V.rf.hits).toArray).alloc (.cells (stC (.slice B1 n1 d1) (.slice B2 n2 d2) (.slice B3 n3 d3) (.slice B4 n4 d4) V.rf.calls V.rf.hits).toArray 81)
  have k1 := Blk.new (w.alloc (.cells (stC (.slice A1 n1 c1) (.slice A2 n2 c2) (.slice A3 n3 c3) (.slice A4 n4 c4) V.rf.calls V.rf.hits).toArray 81)) 81 (stC (.slice B1 n1 d1) (.slice B2 n2 d2) (.slice B3 n3 d3) (.slice B4 n4 d4) V.rf.calls V.rf.hits).toArray
  obtain ⟨s, hs⟩ : ∃ s, w.heap.size = s := ⟨_, rfl⟩
  rw [World.size_alloc, hs] at k1
  rw [hs] at k0
  have R1 := Lib.hid (And.intro (r1.on_ hb0) (q1.on_ hb0))
  have R2 := Lib.hid (And.intro (RI.more (RI.below r2 hb0) hb0.size) (RI.more (RI.below q2 hb0) hb0.size))
  have R3 := Lib.hid (And.intro (r3.on_ hb0) (q3.on_ hb0))
  have R4 := Lib.hid (And.intro (r4.on_ hb0) (q4.on_ hb0))
  have HSt := Lib.hid (fun W h h' => sameState_any A4 B4 n4 c4 d4 V.rf.rules V.rf.calls V.rf.hits W h4 (by omega) h h')
  have H1 := Lib.hid h1
  have H2 := Lib.hid h2
  have H3 := Lib.hid h3
  have hL1 := vrunsL_len V 1024
  have hL2 := hugL_len V 1024
  have hL3 := datL_len V 1024
  have e1 : ((n1 : Int) != (n1 : Int)) = false := by simp
  have e2 : ((n2 : Int) != (n2 : Int)) = false := by simp
  have e3 : ((n3 : Int) != (n3 : Int)) = false := by simp
  rw [h1] at hL1
  rw [h2] at hL2
  rw [h3] at hL3
  clear r1 r2 r3 r4 q1 q2 q3 q4 h1 h2 h3 h4
  unfold stC rfC at hb0 k0 k1 R1 R2 R3 R4 ⊢
  unfold rfV rfC at HSt
  go_enter Tryz.func32, Tryz.ntmps32
  go_upto_region 1 with fail
  generalize (w.alloc _).alloc _ = w0 at *
  try simp only [hs]
  have c0 := k0.cell
  have c1 := k1.cell
  go_wp2_with fail
  refine (HSt.out _ R4.out.1 R4.out.2).mono ?_
  rintro e w1 ⟨rfl, hb1⟩
  have k01 := Lib.hid (k0.call hb1)
  have k11 := Lib.hid (k1.call hb1)
  have Q1 := Lib.hid (And.intro (R1.out.1.on_ hb1) (R1.out.2.on_ hb1))
  have Q2 := Lib.hid (And.intro (RI.more (RI.below R2.out.1 hb1) hb1.size) (RI.more (RI.below R2.out.2 hb1) hb1.size))
  have Q3 := Lib.hid (And.intro (R3.out.1.on_ hb1) (R3.out.2.on_ hb1))
  have B0 := hb0.trans (hb1.mono hb0.size)
  clear c0 c1 k0 k1 R1 R2 R3 R4 HSt hb1
  have heqR := Lib.hid (fun a b c W => eqRn a b c W)
  have heqD := Lib.hid (fun p W => eqDa ((p : Nat) : Int) (V.pg p).byt W)
  go_wp2_with fail
  go_loopw [5] (fun u wr => ∃ i : Nat, i ≤ n1 ∧ u = .int .i64 i ∧ Below w1.heap.size w1 wr) (fun u _ => n1 - (intOf u).toNat)
  case atStart => exact ⟨0, by omega, rfl, Below.refl _ _⟩
  case round =>
    obtain ⟨i, hi, rfl, hB⟩ := hrel
    have kr := k01.out.call hB
    have kq := k11.out.call hB
    have cr := kr.cell
    by_cases hlt : i < n1
    · have hlt' : decide ((i : Int) < (n1 : Int)) = true := by simpa using hlt
      have hin : (i : Int) < (n1 : Int) := by omega
      obtain ⟨b, o, rfl, hb, hc⟩ := (Q1.out.1.on_ hB).elem rnC_len (by omega) rn0 (k := i) (by have := H1.out; omega)
      obtain ⟨b', o', rfl, hb', hc'⟩ := (Q1.out.2.on_ hB).elem rnC_len (by omega) rn0 (k := i) (by have := H1.out; omega)
      generalize (vrunsL V 1024).getD i rn0 = x at *
      obtain ⟨xa, xn, xk⟩ := x
      have x0 := hc 0 _ rfl
      have x1 := hc 1 _ rfl
      have x2 := hc 2 _ rfl
      have y0 := hc' 0 _ rfl
      have y1 := hc' 1 _ rfl
      have y2 := hc' 2 _ rfl
      simp only [Nat.add_zero] at x0 y0
      have e0 := fun z : Ext wr => (z.blk kr).cell
      have e1 := fun z : Ext wr => (z.blk kq).cell
      have a0 := fun z : Ext wr => z.cell x0
      have a1 := fun z : Ext wr => z.cell x1
      have a2 := fun z : Ext wr => z.cell x2
      have b0 := fun z : Ext wr => z.cell y0
      have b1 := fun z : Ext wr => z.cell y1
      have b2 := fun z : Ext wr => z.cell y2
      have hq := fun W => heqR.out xa xn xk W
      clear hc hc' x0 x1 x2 y0 y1 y2
      go_upto_region 6 with fail
      clear cr
      refine region_ext (by kernel_rfl) (by kernel_rfl) ?_
      repeat (go_big_quiet_step (fail))
      refine wpQuiet_nil ?_
      rintro w2 ⟨⟨_, hw2⟩, rfl⟩
      go_wp2_with fail
      go_roundw
      case rel => exact ⟨i + 1, by omega, by go_num, hB.trans (hw2.mono hB.size)⟩
      case measure => simp [intOf]; omega
    · obtain rfl : i = n1 := by omega
      have hlt' : decide ((i : Int) < (i : Int)) = false := by simp
      have hB1 := Lib.hid hB
      clear hB kr kq
      go_wp2_with fail
      clear cr
      go_loopw [6] (fun u wr => ∃ i : Nat, i ≤ n2 ∧ u = .int .i64 i ∧ Below w1.heap.size w1 wr) (fun u _ => n2 - (intOf u).toNat)
      case atStart => exact ⟨0, by omega, rfl, hB1.out⟩
      case round =>
        obtain ⟨j, hj, rfl, hB⟩ := hrel
        have kr := k01.out.call hB
        have kq := k11.out.call hB
        have cr := kr.cell
        by_cases hlt2 : j < n2
        · have hlt2' : decide ((j : Int) < (n2 : Int)) = true := by simpa using hlt2
          have hin : (j : Int) < (n2 : Int) := by omega
          obtain ⟨b, o, rfl, hb, x0⟩ := (RI.more (RI.below Q2.out.1 hB) hB.size).at_ (k := j) (by have := H2.out; omega)
          obtain ⟨b', o', rfl, hb', y0⟩ := (RI.more (RI.below Q2.out.2 hB) hB.size).at_ (k := j) (by have := H2.out; omega)
          generalize (hugL V 1024).getD j 0 = x at *
          have e0 := fun z : Ext wr => (z.blk kr).cell
          have e1 := fun z : Ext wr => (z.blk kq).cell
          have a0 := fun z : Ext wr => z.cell x0
          have b0 := fun z : Ext wr => z.cell y0
          have hq : (x != x) = false := by simp
          clear x0 y0
          go_upto_region 11 with fail
          clear cr
          refine region_ext (by kernel_rfl) (by kernel_rfl) ?_
          repeat (go_big_quiet_step (fail))
          refine wpQuiet_nil ?_
          rintro w2 ⟨⟨_, hw2⟩, rfl⟩
          go_wp2_with fail
          go_roundw
          case rel => exact ⟨j + 1, by omega, by go_num, hB.trans (hw2.mono hB.size)⟩
          case measure => simp [intOf]; omega
        · obtain rfl : j = n2 := by omega
          have hlt2' : decide ((j : Int) < (j : Int)) = false := by simp
          have hB2 := Lib.hid hB
          clear hB kr kq
          go_wp2_with fail
          clear cr
          go_loopw [7] (fun u wr => ∃ i : Nat, i ≤ n3 ∧ u = .int .i64 i ∧ Below w1.heap.size w1 wr) (fun u _ => n3 - (intOf u).toNat)
          case atStart => exact ⟨0, by omega, rfl, hB2.out⟩
          case round =>
            obtain ⟨k, hk, rfl, hB⟩ := hrel
            have kr := k01.out.call hB
            have kq := k11.out.call hB
            have cr := kr.cell
            by_cases hlt3 : k < n3
            · have hlt3' : decide ((k : Int) < (n3 : Int)) = true := by simpa using hlt3
              have hin : (k : Int) < (n3 : Int) := by omega
              obtain ⟨b, o, rfl, hb, hc⟩ := (Q3.out.1.on_ hB).elem (daC_len V) (by omega) 0 (k := k) (by have := H3.out; omega)
              obtain ⟨b', o', rfl, hb', hc'⟩ := (Q3.out.2.on_ hB).elem (daC_len V) (by omega) 0 (k := k) (by have := H3.out; omega)
              generalize (datL V 1024).getD k 0 = p at *
              have hq := heqD.out p
              have hld : ∀ z : Ext wr, (loadVar 171 ⟨b, o + k * 65, none⟩).run Tryz.prog z.w = .ok (.agg (daA (p : Int) (V.pg p).byt)) z.w := fun z => run_loadVar_mid (P := Tryz.prog) z.w b (o + k * 65) 171 (daC V p) _ (fun j v hj => z.cell (hc j v hj)) Tryz.underlying171 rfl infoDaS
              have hld' : ∀ z : Ext wr, (loadVar 171 ⟨b', o' + k * 65, none⟩).run Tryz.prog z.w = .ok (.agg (daA (p : Int) (V.pg p).byt)) z.w := fun z => run_loadVar_mid (P := Tryz.prog) z.w b' (o' + k * 65) 171 (daC V p) _ (fun j v hj => z.cell (hc' j v hj)) Tryz.underlying171 rfl infoDaS
              have e0 := fun z : Ext wr => (z.blk kr).cell
              have e1 := fun z : Ext wr => (z.blk kq).cell
              generalize daA (p : Int) (V.pg p).byt = D at *
              clear hc hc'
              go_upto_region 16 with fail
              clear cr
              refine region_ext (by kernel_rfl) (by kernel_rfl) ?_
              repeat (go_big_quiet_step (fail))
              refine wpQuiet_load' (.tmp 87) 171 ⟨b, o + k * 65, none⟩ (.agg D) rfl rfl rfl (by rintro _ ⟨z, rfl⟩; exact hld z) ?_
              simp only [Act.put, List.setIfInBounds_toArray, List.set_cons_zero, List.set_cons_succ]
              repeat (go_big_quiet_step (fail))
              refine wpQuiet_load' (.tmp 92) 171 ⟨b', o' + k * 65, none⟩ (.agg D) rfl rfl rfl (by rintro _ ⟨z, rfl⟩; exact hld' z) ?_
              simp only [Act.put, List.setIfInBounds_toArray, List.set_cons_zero, List.set_cons_succ]
              repeat (go_big_quiet_step (fail))
              refine wpQuiet_nil ?_
              rintro w2 ⟨⟨_, hw2⟩, rfl⟩
              go_wp2_with fail
              go_roundw
              case rel => exact ⟨k + 1, by omega, by go_num, hB.trans (hw2.mono hB.size)⟩
              case measure => simp [intOf]; omega
            · obtain rfl : k = n3 := by omega
              have hlt3' : decide ((k : Int) < (k : Int)) = false := by simp
              go_wp2_with fail
              go_ret
              exact ⟨rfl, B0.trans (hB.mono B0.size)⟩
end Go.Proofs.YtefnnfcfigcikaaGreat
namespace Go.Proofs.YtefnnfcfigcikaaGreat
open Go Go.Proofs Go.RowKit Go.Pol Go.Shelf
attribute [local go_sem] Oper.semAt_some Go.Pol.wide_fn Go.Pol.wide_depth Go.Pol.wide_fn' Go.Pol.wide_depth'

def bpput (a : Act) (v30 v31 v32 v33 v7 v8 : Value) : Act := (((((a.put (some 30) v30).put (some 31) v31).put (some 32) v32).put (some 33) v33).put (some 7) v7).put (some 8) v8
theorem bp_self (a : Act) (hsz : 70 ≤ a.tmps.size) : bpput a (a.eval (.tmp 30)) (a.eval (.tmp 31)) (a.eval (.tmp 32)) (a.eval (.tmp 33)) (a.eval (.tmp 7)) (a.eval (.tmp 8)) = a := by
  have h : ∀ t : Nat, t < 70 → a.put (some t) (a.eval (.tmp t)) = a := fun t ht => by
    have : a.tmps.setIfInBounds t (a.eval (.tmp t)) = a.tmps := by
      apply Array.ext_getElem?
      intro i
      rw [Array.getElem?_setIfInBounds]
      split
      · rename_i e; subst e
        have : t < a.tmps.size := by omega
        simp [Act.eval, this]
      · rfl
    simp only [Act.put, this]
  unfold bpput
  rw [h 30 (by omega), h 31 (by omega), h 32 (by omega), h 33 (by omega), h 7 (by omega), h 8 (by omega)]
section
variable (a : Act) (v30 v31 v32 v33 v7 v8 x : Value)
theorem bp_30 : (bpput a v30 v31 v32 v33 v7 v8).put (some 30) x = bpput a x v31 v32 v33 v7 v8 := by
  unfold bpput
  rw [swapU _ 8 30 _ _ (by omega), swapU _ 7 30 _ _ (by omega), swapU _ 33 30 _ _ (by omega), swapU _ 32 30 _ _ (by omega), swapU _ 31 30 _ _ (by omega), putU]
theorem bp_31 : (bpput a v30 v31 v32 v33 v7 v8).put (some 31) x = bpput a v30 x v32 v33 v7 v8 := by
  unfold bpput
  rw [swapU _ 8 31 _ _ (by omega), swapU _ 7 31 _ _ (by omega), swapU _ 33 31 _ _ (by omega), swapU _ 32 31 _ _ (by omega), putU]
theorem bp_32 : (bpput a v30 v31 v32 v33 v7 v8).put (some 32) x = bpput a v30 v31 x v33 v7 v8 := by
  unfold bpput
  rw [swapU _ 8 32 _ _ (by omega), swapU _ 7 32 _ _ (by omega), swapU _ 33 32 _ _ (by omega), putU]
theorem bp_33 : (bpput a v30 v31 v32 v33 v7 v8).put (some 33) x = bpput a v30 v31 v32 x v7 v8 := by
  unfold bpput
  rw [swapU _ 8 33 _ _ (by omega), swapU _ 7 33 _ _ (by omega), putU]
theorem bp_7 : (bpput a v30 v31 v32 v33 v7 v8).put (some 7) x = bpput a v30 v31 v32 v33 x v8 := by
  unfold bpput
  rw [swapU _ 8 7 _ _ (by omega), putU]
theorem bp_8 : (bpput a v30 v31 v32 v33 v7 v8).put (some 8) x = bpput a v30 v31 v32 v33 v7 x := by
  unfold bpput
  rw [putU]
end
section
variable (a : Act) (hsz : 70 ≤ a.tmps.size) (v30 v31 v32 v33 v7 v8 : Value)
include hsz
theorem bpev_30 : (bpput a v30 v31 v32 v33 v7 v8).eval (.tmp 30) = v30 := by
  unfold bpput
  rw [evalU_ne _ 8 30 _ (by omega), evalU_ne _ 7 30 _ (by omega), evalU_ne _ 33 30 _ (by omega), evalU_ne _ 32 30 _ (by omega), evalU_ne _ 31 30 _ (by omega), evalU_same _ _ _ (by omega)]
theorem bpev_31 : (bpput a v30 v31 v32 v33 v7 v8).eval (.tmp 31) = v31 := by
  unfold bpput
  rw [evalU_ne _ 8 31 _ (by omega), evalU_ne _ 7 31 _ (by omega), evalU_ne _ 33 31 _ (by omega), evalU_ne _ 32 31 _ (by omega), evalU_same _ _ _ (by rw [sizeU]; omega)]
theorem bpev_32 : (bpput a v30 v31 v32 v33 v7 v8).eval (.tmp 32) = v32 := by
  unfold bpput
  rw [evalU_ne _ 8 32 _ (by omega), evalU_ne _ 7 32 _ (by omega), evalU_ne _ 33 32 _ (by omega), evalU_same _ _ _ (by rw [sizeU, sizeU]; omega)]
theorem bpev_33 : (bpput a v30 v31 v32 v33 v7 v8).eval (.tmp 33) = v33 := by
  unfold bpput
  rw [evalU_ne _ 8 33 _ (by omega), evalU_ne _ 7 33 _ (by omega), evalU_same _ _ _ (by rw [sizeU, sizeU, sizeU]; omega)]
theorem bpev_7 : (bpput a v30 v31 v32 v33 v7 v8).eval (.tmp 7) = v7 := by
  unfold bpput
  rw [evalU_ne _ 8 7 _ (by omega), evalU_same _ _ _ (by rw [sizeU, sizeU, sizeU, sizeU]; omega)]
theorem bpev_8 : (bpput a v30 v31 v32 v33 v7 v8).eval (.tmp 8) = v8 := by
  unfold bpput
  rw [evalU_same _ _ _ (by rw [sizeU, sizeU, sizeU, sizeU, sizeU]; omega)]
omit hsz in
theorem bpev_3 : (bpput a v30 v31 v32 v33 v7 v8).eval (.tmp 3) = a.eval (.tmp 3) := by
  unfold bpput
  rw [evalU_ne _ 8 3 _ (by omega), evalU_ne _ 7 3 _ (by omega), evalU_ne _ 33 3 _ (by omega), evalU_ne _ 32 3 _ (by omega), evalU_ne _ 31 3 _ (by omega), evalU_ne _ 30 3 _ (by omega)]
end

noncomputable def backsOps : Array Oper := (Tryz.f6.body.bind (regOpsU 3)).getD #[]
/-- what is known when some operations are done -/
def BothInvB (a0 : Act) (w0 : World) (M : Value) (V : Vm) (D : Nat → Bool) (a : Act) (w : World) : Prop :=
  ∃ (v30 v31 v32 v33 v7 v8 : Value) (b1 b2 : Nat), a = bpput a0 v30 v31 v32 v33 v7 v8 ∧ Below w0.heap.size w0 w ∧ (D 0 = true → v30 = M) ∧ (D 1 = true → v31 = .pointer (some ⟨b1, 0, none⟩) ∧ w0.heap.size ≤ b1 ∧ SysIs w b1 V) ∧ (D 2 = true → v32 = M) ∧
    (D 3 = true → v33 = .pointer (some ⟨b2, 0, none⟩) ∧ b1 < b2 ∧ RefIs w w0.heap.size b2 V ∧ D 1 = true) ∧ (D 4 = true → v7 = v31 ∧ D 1 = true) ∧ (D 5 = true → v8 = v33 ∧ D 3 = true)
attribute [local irreducible] Oper.wp in
set_option maxHeartbeats 1600000 in
theorem backs_first {Q : Exit → Act → World → Prop} (a0 : Act) (w0 : World) (s : Nat) (A1 A2 A3 A4 : Option Addr) (n1 c1 n2 c2 n3 c3 n4 c4 : Nat) (us : List (Int × Int)) (hs : List Int) (ws : List (Int × Int)) (l : List Ru) (hsz : 70 ≤ a0.tmps.size)
    (hp3 : a0.eval (.tmp 3) = .pointer (some ⟨s, 0, none⟩)) (k0 : Blk w0 s 58 #[.slice A1 n1 c1, .slice A2 n2 c2, .slice A3 n3 c3, .slice A4 n4 c4])
    (h1 : us.length = n1) (h2 : hs.length = n2) (h3 : ws.length = n3) (h4 : l.length = n4) (hm : n1 ≤ 1000 ∧ n2 ≤ 1000 ∧ n3 ≤ 1000 ∧ n4 ≤ 1000) (hz : A4 = none → c4 = 0)
    (r1 : RU w0 w0.heap.size A1 us) (r2 : RI w0 w0.heap.size A2 hs) (r3 : Rd w0 w0.heap.size A3 (fl wrC ws)) (r4 : Rd w0 w0.heap.size A4 (fl ruC l))
    (hQ : ∀ (b1 b2 : Nat) (w' : World), w0.heap.size ≤ b1 → b1 < b2 → SysIs w' b1 (sysF us hs ws l) → RefIs w' w0.heap.size b2 (sysF us hs ws l) → Below w0.heap.size w0 w' →
      Q .normal (bpput a0 (.agg #[.slice A1 n1 c1, .slice A2 n2 c2, .slice A3 n3 c3, .slice A4 n4 c4]) (.pointer (some ⟨b1, 0, none⟩)) (.agg #[.slice A1 n1 c1, .slice A2 n2 c2, .slice A3 n3 c3, .slice A4 n4 c4]) (.pointer (some ⟨b2, 0, none⟩)) (.pointer (some ⟨b1, 0, none⟩)) (.pointer (some ⟨b2, 0, none⟩))) w') :
    (Code.region 3 backsOps true).wp Tryz.prog Q a0 w0 := by
  conv => arg 2; arg 2; whnf
  have hsl := k0.lt
  obtain ⟨V, hVV⟩ : ∃ V, sysF us hs ws l = V := ⟨_, rfl⟩
  have HS := fun W a b c d => sys13_any A1 A2 A3 A4 n1 c1 n2 c2 n3 c3 n4 c4 us hs ws l W h1 h2 h3 h4 hm hz a b c d
  have HM := fun W a b c d e => mirror13_any w0.heap.size A1 A2 A3 A4 n1 c1 n2 c2 n3 c3 n4 c4 us hs ws l W h1 h2 h3 h4 hm hz a b c d e
  rw [hVV] at HS HM hQ
  refine region_inv (BothInvB a0 w0 (.agg #[.slice A1 n1 c1, .slice A2 n2 c2, .slice A3 n3 c3, .slice A4 n4 c4]) V) (by kernel_rfl) (by simp [edgesDown, Region.binds]) ?ext ?start ?steps ?fin
  case ext =>
    intro D D' a w h hI
    have e : ∀ i, i < 6 → D i = D' i := h
    have : BothInvB a0 w0 (.agg #[.slice A1 n1 c1, .slice A2 n2 c2, .slice A3 n3 c3, .slice A4 n4 c4]) V D a w = BothInvB a0 w0 (.agg #[.slice A1 n1 c1, .slice A2 n2 c2, .slice A3 n3 c3, .slice A4 n4 c4]) V D' a w := by
      unfold BothInvB
      simp only [e 0 (by omega), e 1 (by omega), e 2 (by omega), e 3 (by omega), e 4 (by omega), e 5 (by omega)]
    exact this ▸ hI
  case start =>
    intro D h
    have n : ∀ i, i < 6 → ¬ (D i = true) := fun i hi => by rw [h i hi]; decide
    exact ⟨_, _, _, _, _, _, 0, 0, (bp_self a0 hsz).symm, (Below.refl _ w0).drew, fun h => absurd h (n 0 (by omega)), fun h => absurd h (n 1 (by omega)), fun h => absurd h (n 2 (by omega)), fun h => absurd h (n 3 (by omega)), fun h => absurd h (n 4 (by omega)), fun h => absurd h (n 5 (by omega))⟩
  case fin =>
    rintro a w ⟨v30, v31, v32, v33, v7, v8, b1, b2, rfl, hb, i0, i1, i2, i3, i4, i5⟩
    obtain rfl := i0 rfl
    obtain ⟨rfl, g1, V1⟩ := i1 rfl
    obtain rfl := i2 rfl
    obtain ⟨rfl, g2, V2, _⟩ := i3 rfl
    obtain ⟨rfl, _⟩ := i4 rfl
    obtain ⟨rfl, _⟩ := i5 rfl
    exact hQ b1 b2 w g1 g2 V1 V2 hb
  case steps =>
    refine ⟨?_, ?_, ?_, ?_, ?_, ?_, trivial⟩
    all_goals (rintro D a w ⟨v30, v31, v32, v33, v7, v8, b1, b2, rfl, hb, i0, i1, i2, i3, i4, i5⟩ hk he)
    all_goals (refine step_plainU rfl ?_)
    all_goals (have c0 := (k0.call hb).cell)
    · refine wp_valU (v := .agg #[.slice A1 n1 c1, .slice A2 n2 c2, .slice A3 n3 c3, .slice A4 n4 c4]) (w' := w) (by simp only [execOp, bpev_3, hp3]; simp [go_sem, c0]) ?_
      show BothInvB a0 w0 _ V _ ((bpput a0 v30 v31 v32 v33 v7 v8).put (some 30) _) w; rw [bp_30]
      refine ⟨_, _, _, _, _, _, b1, b2, rfl, hb, ?_⟩
      simp only [Nat.reduceBEq, Bool.true_or, Bool.false_or, forall_const]
      exact ⟨trivial, i1, i2, i3, i4, i5⟩
    · obtain rfl := i0 (he ⟨0, .data⟩ (by simp) rfl)
      have hd3 : D 3 = false := by cases h : D 3 with | false => rfl | true => rw [(i3 h).2.2.2] at hk; cases hk
      have hd4 : D 4 = false := by cases h : D 4 with | false => rfl | true => rw [(i4 h).2] at hk; cases hk
      have hd5 : D 5 = false := by cases h : D 5 with | false => rfl | true => rw [(i5 h).2] at hd3; cases hd3
      have ev' : (bpput a0 (.agg #[.slice A1 n1 c1, .slice A2 n2 c2, .slice A3 n3 c3, .slice A4 n4 c4]) v31 v32 v33 v7 v8).tmps[30]?.getD undef = .agg #[.slice A1 n1 c1, .slice A2 n2 c2, .slice A3 n3 c3, .slice A4 n4 c4] := by
        have := bpev_30 a0 hsz (.agg #[.slice A1 n1 c1, .slice A2 n2 c2, .slice A3 n3 c3, .slice A4 n4 c4]) v31 v32 v33 v7 v8
        simpa [Act.eval] using this
      refine wp_enterV (f := 22) (args := #[.agg #[.slice A1 n1 c1, .slice A2 n2 c2, .slice A3 n3 c3, .slice A4 n4 c4]]) (w1 := w) (C := fun v w' => ∃ b, v = .pointer (some ⟨b, 0, none⟩) ∧ SysIs w' b V ∧ w.heap.size ≤ b ∧ Below w.heap.size w w') (by simp only [execOp]; simp [go_sem, ev']) ((HS w ((r1.below hb).more hb.size) (RI.more (RI.below r2 hb) hb.size) (r3.on_ hb) (r4.on_ hb)).mono fun e w' ⟨b, h1, h2, h3, h4⟩ => ⟨_, h1, b, rfl, h2, h3, h4⟩) ?_
      rintro v w' ⟨b, rfl, hV, hbb, hbA⟩
      show BothInvB a0 w0 _ V _ ((bpput a0 _ v31 v32 v33 v7 v8).put (some 31) _) w'; rw [bp_31]
      refine ⟨_, _, _, _, _, _, b, b2, rfl, hb.trans (hbA.mono hb.size), ?_⟩
      simp only [Nat.reduceBEq, Nat.reduceAdd, Bool.true_or, Bool.false_or, forall_const]
      simp only [hd3, hd4, hd5]
      exact ⟨fun _ => trivial, ⟨trivial, Nat.le_trans hb.size hbb, hV⟩, i2, fun d => (by cases d), fun d => (by cases d), fun d => (by cases d)⟩
    · refine wp_valU (v := .agg #[.slice A1 n1 c1, .slice A2 n2 c2, .slice A3 n3 c3, .slice A4 n4 c4]) (w' := w) (by simp only [execOp, bpev_3, hp3]; simp [go_sem, c0]) ?_
      show BothInvB a0 w0 _ V _ ((bpput a0 v30 v31 v32 v33 v7 v8).put (some 32) _) w; rw [bp_32]
      refine ⟨_, _, _, _, _, _, b1, b2, rfl, hb, ?_⟩
      simp only [Nat.reduceBEq, Nat.reduceAdd, Bool.true_or, Bool.false_or, forall_const]
      exact ⟨i0, i1, trivial, i3, i4, i5⟩
    · obtain rfl := i2 (he ⟨2, .data⟩ (by simp) rfl)
      have d1 := he ⟨1, .chain⟩ (by simp) rfl
      obtain ⟨rfl, g1, V1⟩ := i1 d1
      have hd5 : D 5 = false := by cases h : D 5 with | false => rfl | true => rw [(i5 h).2] at hk; cases hk
      have ev' : (bpput a0 v30 (.pointer (some ⟨b1, 0, none⟩)) (.agg #[.slice A1 n1 c1, .slice A2 n2 c2, .slice A3 n3 c3, .slice A4 n4 c4]) v33 v7 v8).tmps[32]?.getD undef = .agg #[.slice A1 n1 c1, .slice A2 n2 c2, .slice A3 n3 c3, .slice A4 n4 c4] := by
        have := bpev_32 a0 hsz v30 (.pointer (some ⟨b1, 0, none⟩)) (.agg #[.slice A1 n1 c1, .slice A2 n2 c2, .slice A3 n3 c3, .slice A4 n4 c4]) v33 v7 v8
        simpa [Act.eval] using this
      refine wp_enterV (f := 30) (args := #[.agg #[.slice A1 n1 c1, .slice A2 n2 c2, .slice A3 n3 c3, .slice A4 n4 c4]]) (w1 := w) (C := fun v w' => ∃ b, v = .pointer (some ⟨b, 0, none⟩) ∧ RefIs w' w0.heap.size b V ∧ w.heap.size ≤ b ∧ Below w.heap.size w w') (by simp only [execOp]; simp [go_sem, ev']) ((HM w ((r1.below hb).more hb.size) (RI.more (RI.below r2 hb) hb.size) (r3.on_ hb) hb.size (r4.below hb)).mono fun e w' ⟨b, h1, h2, h3, h4⟩ => ⟨_, h1, b, rfl, h2, h3, h4⟩) ?_
      rintro v w' ⟨b, rfl, hV, hbb, hbA⟩
      show BothInvB a0 w0 _ V _ ((bpput a0 v30 _ _ v33 v7 v8).put (some 33) _) w'; rw [bp_33]
      refine ⟨_, _, _, _, _, _, b1, b, rfl, hb.trans (hbA.mono hb.size), ?_⟩
      simp only [Nat.reduceBEq, Nat.reduceAdd, Bool.true_or, Bool.false_or, forall_const]
      simp only [hd5]
      exact ⟨i0, fun _ => ⟨trivial, g1, V1.call hbA⟩, fun _ => trivial, ⟨trivial, Nat.lt_of_lt_of_le V1.lt hbb, hV, d1⟩, i4, fun d => (by cases d)⟩
    · have d1 := he ⟨1, .data⟩ (by simp) rfl
      refine wp_valU (v := v31) (w' := w) (by simp only [execOp, bpev_31 _ hsz]; simp [go_sem]) ?_
      show BothInvB a0 w0 _ V _ ((bpput a0 v30 v31 v32 v33 v7 v8).put (some 7) _) w; rw [bp_7]
      refine ⟨_, _, _, _, _, _, b1, b2, rfl, hb, ?_⟩
      simp only [Nat.reduceBEq, Nat.reduceAdd, Bool.true_or, Bool.false_or, forall_const]
      exact ⟨i0, i1, i2, i3, ⟨trivial, d1⟩, i5⟩
    · have d3 := he ⟨3, .data⟩ (by simp) rfl
      refine wp_valU (v := v33) (w' := w) (by simp only [execOp, bpev_33 _ hsz]; simp [go_sem]) ?_
      show BothInvB a0 w0 _ V _ ((bpput a0 v30 v31 v32 v33 v7 v8).put (some 8) _) w; rw [bp_8]
      refine ⟨_, _, _, _, _, _, b1, b2, rfl, hb, ?_⟩
      simp only [Nat.reduceBEq, Nat.reduceAdd, Bool.true_or, Bool.false_or, forall_const]
      exact ⟨i0, i1, i2, i3, i4, ⟨trivial, d3⟩⟩
end Go.Proofs.YtefnnfcfigcikaaGreat
namespace Go.Proofs.YtefnnfcfigcikaaGreat
open Go Go.Proofs Go.RowKit Go.Pol Go.Shelf
attribute [local go_sem] Oper.semAt_some Go.Pol.wide_fn Go.Pol.wide_depth Go.Pol.wide_fn' Go.Pol.wide_depth'
/-- a cell of an own row put anew -/
theorem own_bump {w : World} {base n sz g i cap : Nat} {e : TypeId} {xs : List Value} {v : Value} (h : w.ownsRow base e sz (.slice (some ⟨g, 0, none⟩) n cap) n xs) (_ : i < n * sz) :
    (w.setCell ⟨g, i, none⟩ v).ownsRow base e sz (.slice (some ⟨g, 0, none⟩) n cap) n (xs.set i v) := by
  refine ⟨by rw [List.length_set]; exact h.1, ?_⟩
  rcases h.2 with ⟨hn, _⟩ | ⟨g', cap', cur, hv, hb, hk, hc, hm, hs, ht⟩
  · cases hn
  · cases hv
    have hk' : Blk w g e cur := hk
    refine .inr ⟨g, cap, cur.setIfInBounds i v, rfl, hb, hk'.set_ i v, hc, hm, by rw [Array.size_setIfInBounds]; exact hs, ?_⟩
    rw [Array.toList_setIfInBounds, List.take_set, ht]
theorem fl_bump (l : List Rn) (x : Rn) : fl rnC (l ++ [(x.1, x.2.1 + 1, x.2.2)]) = (fl rnC (l ++ [x])).set (l.length * 3 + 1) (.int .i64 (x.2.1 + 1)) := by
  rw [fl_append, fl_append, List.set_append_right _ _ (by rw [fl_len rnC_len]; omega), fl_len rnC_len, show l.length * 3 + 1 - l.length * 3 = 1 by omega]
  rfl
theorem rnC_one1 (x : Rn) : ∀ u ∈ rnC x, u.oneCell' = true := fun u hu => rnC_one [x] u (by simpa [fl] using hu)
theorem news_list {w : World} {g : Nat} {t : TypeId} {l : List Value} (h : Blk w g t l.toArray) : ∀ (j : Nat) (u : Value), l[j]? = some u → w.cell? ((⟨g, 0, none⟩ : Addr).add j) = some u := fun j u hu => by
  rw [addr_add0, Nat.zero_add, h.cell]; simpa using hu
theorem yieldsIf_build {P : Program} {ops : Array Oper} {S : World → Prop} {op : Oper} {a : Act} (hw : Region.wanted op (yielded ops a.tmps) = true) (t : TypeId) (parts : List (Nat × Operand)) (ho : op.op = .build t parts.toArray)
    (vals : List (Nat × Value)) (hv : parts.map (fun x => (x.1, a.eval x.2)) = vals) (cells : Array Value) (hb : P.built t vals = some cells) : YieldsIf P ops S op (.agg cells) a :=
  .inl ⟨hw, fun w _ => by
    have hb' : P.built t (parts.toArray.map fun (i, x) => (i, a.eval x)).toList = some cells := by
      rw [← hb, ← hv]; simp
    unfold execOp
    simp only [ho, Sem.run_bind, run_build w t _ cells hb', Result.andThen_ok]
    rfl⟩
theorem wp_buildSliceU {P : Program} {o : Oper} {a : Act} {w : World} {K : Act → World → Prop} {Q : Exit → Act → World → Prop} (t e : TypeId) (len : Nat) (parts : List (Nat × Operand)) (ho : o.op = .buildSlice t len parts.toArray)
    (vals : List (Nat × Value)) (hv : parts.map (fun x => (x.1, a.eval x.2)) = vals) (cells : Array Value) (ie : TypeInfo) (z : Value)
    (hu : P.underlying t = some (.slice e)) (hie : P.info? e = some ie) (hz : ie.zero = some z) (hsmall : ¬ len * ie.size > 2 ^ 24) (hpos : ¬ len * ie.size = 0)
    (hf : Instr.fill (fun i => some (i * ie.size, ie.size)) ((Array.range (len * ie.size)).map (z.cells[· % z.cells.size]!)) vals = some cells)
    (h : K (a.put o.dst (.slice (some ⟨w.heap.size, 0, none⟩) len len)) (w.alloc (.cells cells e))) : o.wp P a w K Q :=
  wp_buildSlice t e len parts.toArray ho cells ie z hu hie hz hsmall hpos (by rw [← hf, ← hv]; simp) h
theorem wpList_load_midW {P : Program} {ops : Array Oper} {rest : List Oper} {op : Oper} {a : Act} {w : World} {Q : Exit → Act → World → Prop} (ty : TypeId) (x : Operand) (ho : op.op = .load ty x) (hw : Region.wanted op (yielded ops a.tmps) = true)
    (b o : Nat) (hx : a.eval x = .pointer (some ⟨b, o, none⟩)) (cs : List Value) (d : TypeDesc) (hc : w.rangeAt b o cs)
    (hu : P.underlying ty = some d) (hd : d.isRow = true) (hi : (P.info? ty).map (·.size) = some cs.length)
    (h : wpList P ops Q rest (a.put op.dst (.agg cs.toArray)) w) : wpList P ops Q (op :: rest) a w :=
  wpList_step fun K hK => by
    simp only [hw, if_true]
    exact wp_load_mid ty x ho b o hx cs d hc hu hd hi (hK _ _ h)
theorem rows_apart {w : World} {base1 base2 n1 n2 sz1 sz2 g : Nat} {e1 e2 : TypeId} {v1 v2 : Value} {xs1 xs2 : List Value} (h1 : w.ownsRow base1 e1 sz1 v1 n1 xs1) (h2 : w.ownsRow base2 e2 sz2 v2 n2 xs2) (hne : e1 ≠ e2)
    (hg1 : v1.ownBlock = some g) (hg2 : v2.ownBlock = some g) : False := by
  rcases h2.2 with ⟨hx, _⟩ | ⟨g', cap', cur, hx, _, hkx, _⟩
  · rw [hx] at hg2; cases hg2
  · rw [hx] at hg2
    have e' : g' = g := by injection hg2
    subst e'
    exact own_other h1 hg1 (show Blk w g' e2 cur from hkx) hne
theorem row_kept {w w' : World} {NB n1 n2 sz1 sz2 s : Nat} {e1 e2 : TypeId} {v1 v2 : Value} {xs1 xs2 : List Value} (h1 : w.ownsRow NB e1 sz1 v1 n1 xs1) (h2 : w.ownsRow NB e2 sz2 v2 n2 xs2) (hne : e1 ≠ e2) (hs : s < NB)
    (F : Far (fun g => g = s ∨ v2.ownBlock = some g) w w') : w'.ownsRow NB e1 sz1 v1 n1 xs1 :=
  ownsRow_far h1 F (fun g hg h => h.elim (fun h => by have := (h1.lt g hg).1; omega) (fun h => rows_apart h1 h2 hne hg h))
/-- of the runs the last goes on -/
theorem vruns_last {V : Vm} : ∀ k, k ≤ 1024 → ∀ x ∈ vrunsL V k, 0 ≤ x.2.1 ∧ x.2.1 ≤ (k : Int)
  | 0, _, x, hx => by cases hx
  | k + 1, hk, x, hx => by
    have ih := vruns_last (V := V) k (by omega)
    rw [vrunsL_succ] at hx
    split at hx
    · have := ih x hx; omega
    · split at hx
      · rcases List.eq_nil_or_concat (vrunsL V k) with h | ⟨l, y, h⟩
        · rw [h] at hx; cases hx
        · rw [h, List.concat_eq_append, bumpR_snoc] at hx
          rw [List.mem_append, List.mem_singleton] at hx
          rcases hx with hx | rfl
          · have := ih x (by rw [h, List.concat_eq_append]; exact List.mem_append_left _ hx); omega
          · have := ih y (by rw [h, List.concat_eq_append]; simp)
            show 0 ≤ y.2.1 + 1 ∧ y.2.1 + 1 ≤ _
            omega
      · rw [List.mem_append, List.mem_singleton] at hx
        rcases hx with hx | rfl
        · have := ih x hx; omega
        · show (0 : Int) ≤ 1 ∧ (1 : Int) ≤ _
          omega
noncomputable def runOps : Array Oper := (Tryz.f34.body.bind (regOpsU 10)).getD #[]
noncomputable def datOps : Array Oper := (Tryz.f34.body.bind (regOpsU 14)).getD #[]
def RunS (b s k : Nat) (v : Value) (K : Int) (w : World) : Prop := w.cell? ⟨s, 0, none⟩ = some v ∧ w.cell? ⟨b, k, none⟩ = some (.int .i64 K)
theorem RunS.later {b s k : Nat} {v : Value} {K : Int} {w w' : World} (h : RunS b s k v K w) (hF : Below w.heap.size w w') (hb : b < w.heap.size) (hs : s < w.heap.size) : RunS b s k v K w' :=
  ⟨(hF.cell (p := ⟨s, 0, none⟩) hs).trans h.1, (hF.cell (p := ⟨b, k, none⟩) hb).trans h.2⟩
set_option maxRecDepth 100000 in
set_option maxHeartbeats 1600000 in
theorem save6_run {Q : Exit → Act → World → Prop} {u1 u2 u5 u6 u7 u8 u9 u10 u11 u12 u13 u14 u15 u16 u17 u18 u19 u20 u21 u22 u23 u24 u25 u26 u27 u28 u29 u30 u31 u32 u33 u34 u35 u36 u37 u38 u39 u40 u41 u42 u43 u44 u45 u46 u47 u48 u49 u50 u51 u52 u53 u54 u55 u56 u57 u58 u59 u60 u61 u62 u63 u64 u65 u66 u67 u68 u69 u70 u71 u72 u73 u74 u75 u76 u77 u78 u79 u80 u81 u82 u83 u84 u85 u86 u87 u88 u89 u90 u91 u92 u93 u94 u95 u96 u97 u98 u99 u100 u101 u102 u103 u104 u105 u106 u107 u108 u109 u110 u111 u112 u113 u114 u115 u116 u117 u118 u119 u120 u121 u122 u123 u124 u125 : Value} {D : List Deferred} (b s k NB N1 cap1 : Nat) (A1 : Option Addr) (kd : Int) (cs : Array Value) (xs : List Value) (w : World)
    (hk : (k : Int) < 1024) (hN : N1 ≤ 1024) (hb : b < w.heap.size) (hs : s < w.heap.size) (hNB : NB ≤ w.heap.size) (hbN : b < NB) (hbs : ¬ b = s) (hcK : w.cell? ⟨b, k, none⟩ = some (.int .i64 kd))
    (k3 : Blk w s 81 cs) (h3 : w.cell? ⟨s, 0, none⟩ = some (.slice A1 N1 cap1)) (ro : w.ownsRow NB 169 3 (.slice A1 N1 cap1) N1 xs)
    (hQ : ∀ (x64 x65 x66 x67 x68 x69 x70 x71 x72 x73 x74 x75 x76 : Value) (w' : World) (A1' : Option Addr) (cap1' : Nat), w.heap.size ≤ w'.heap.size → Blk w' s 81 (cs.setIfInBounds 0 (.slice A1' (N1 + 1) cap1')) → w'.ownsRow NB 169 3 (.slice A1' (N1 + 1) cap1') (N1 + 1) (xs ++ rnC ((k : Int), 1, kd)) →
      Far (fun g => g = s ∨ (Value.slice A1 N1 cap1).ownBlock = some g) w w' → Q .normal ⟨#[(.pointer (some ⟨b, 0, none⟩)), u1, u2, (.pointer (some ⟨s, 0, none⟩)), (.int .i64 (k : Int)), u5, u6, u7, u8, u9, u10, u11, u12, u13, u14, u15, u16, u17, u18, u19, u20, u21, u22, u23, u24, u25, u26, u27, u28, u29, u30, u31, u32, u33, u34, u35, u36, u37, u38, u39, u40, u41, u42, u43, u44, u45, u46, u47, u48, u49, u50, u51, u52, u53, u54, u55, u56, u57, u58, u59, u60, u61, u62, u63, x64, x65, x66, x67, x68, x69, x70, x71, x72, x73, x74, x75, x76, u77, u78, u79, u80, u81, u82, u83, u84, u85, u86, u87, u88, u89, u90, u91, u92, u93, u94, u95, u96, u97, u98, u99, u100, u101, u102, u103, u104, u105, u106, u107, u108, u109, u110, u111, u112, u113, u114, u115, u116, u117, u118, u119, u120, u121, u122, u123, u124, u125], D⟩ w') :
    (Code.region 10 runOps true).wp Tryz.prog Q ⟨#[(.pointer (some ⟨b, 0, none⟩)), u1, u2, (.pointer (some ⟨s, 0, none⟩)), (.int .i64 (k : Int)), u5, u6, u7, u8, u9, u10, u11, u12, u13, u14, u15, u16, u17, u18, u19, u20, u21, u22, u23, u24, u25, u26, u27, u28, u29, u30, u31, u32, u33, u34, u35, u36, u37, u38, u39, u40, u41, u42, u43, u44, u45, u46, u47, u48, u49, u50, u51, u52, u53, u54, u55, u56, u57, u58, u59, u60, u61, u62, u63, u64, u65, u66, u67, u68, u69, u70, u71, u72, u73, u74, u75, u76, u77, u78, u79, u80, u81, u82, u83, u84, u85, u86, u87, u88, u89, u90, u91, u92, u93, u94, u95, u96, u97, u98, u99, u100, u101, u102, u103, u104, u105, u106, u107, u108, u109, u110, u111, u112, u113, u114, u115, u116, u117, u118, u119, u120, u121, u122, u123, u124, u125], D⟩ w := by
  conv => arg 2; arg 2; whnf
  obtain ⟨i0, hi, hz0, hz1, hz2⟩ := infoRn_parts
  refine wp_noPanic ?_
  refine wp_region_T (RunS b s k (.slice A1 N1 cap1) kd) [13] (by kernel_rfl) ?_
  have hS0 : RunS b s k (.slice A1 N1 cap1) kd w := ⟨h3, hcK⟩
  have hB0 : Below w.heap.size w w.drew := (Below.refl _ w).drew
  have hS : RunS b s k (.slice A1 N1 cap1) kd w.drew := hS0
  clear h3 hcK
  refine' wpAnyT_take (i := 0) (v := _) ?hiT0 (by kernel_rfl) ?hQT0 (Or.inl ⟨?hwT0, ?hyT0⟩) hS ?reT0
  case hiT0 => (simp only [List.getElem?_toArray, List.getElem?_cons_zero]; rfl)
  case hQT0 => exact fun _ _ _ h => h
  case hwT0 => rfl
  case hyT0 => (intro wS hSw; obtain ⟨_, _⟩ := hSw; go_simp; (try with_reducible rfl))
  try simp only [Act.put, List.setIfInBounds_toArray, List.set_cons_zero, List.set_cons_succ]
  refine' wpAnyT_take (i := 1) (v := _) ?hiT1 (by kernel_rfl) ?hQT1 (Or.inl ⟨?hwT1, ?hyT1⟩) hS ?reT1
  case hiT1 => (simp only [List.getElem?_toArray, List.getElem?_cons_succ, List.getElem?_cons_zero]; rfl)
  case hQT1 => exact fun _ _ _ h => h
  case hwT1 => rfl
  case hyT1 => (intro wS hSw; obtain ⟨_, _⟩ := hSw; go_simp; (try with_reducible rfl))
  try simp only [Act.put, List.setIfInBounds_toArray, List.set_cons_zero, List.set_cons_succ]
  refine' wpAnyT_take (i := 2) (v := _) ?hiT2 (by kernel_rfl) ?hQT2 (Or.inl ⟨?hwT2, ?hyT2⟩) hS ?reT2
  case hiT2 => (simp only [List.getElem?_toArray, List.getElem?_cons_succ, List.getElem?_cons_zero]; rfl)
  case hQT2 => exact fun _ _ _ h => h
  case hwT2 => rfl
  case hyT2 => (intro wS hSw; obtain ⟨_, _⟩ := hSw; go_simp; (try with_reducible rfl))
  try simp only [Act.put, List.setIfInBounds_toArray, List.set_cons_zero, List.set_cons_succ]
  refine' wpAnyT_take (i := 3) (v := _) ?hiT3 (by kernel_rfl) ?hQT3 (Or.inl ⟨?hwT3, ?hyT3⟩) hS ?reT3
  case hiT3 => (simp only [List.getElem?_toArray, List.getElem?_cons_succ, List.getElem?_cons_zero]; rfl)
  case hQT3 => exact fun _ _ _ h => h
  case hwT3 => rfl
  case hyT3 => (intro wS hSw; obtain ⟨_, _⟩ := hSw; go_simp; (try with_reducible rfl))
  try simp only [Act.put, List.setIfInBounds_toArray, List.set_cons_zero, List.set_cons_succ]
  refine' wpAnyT_take (i := 4) (v := _) ?hiT4 (by kernel_rfl) ?hQT4 (Or.inl ⟨?hwT4, ?hyT4⟩) hS ?reT4
  case hiT4 => (simp only [List.getElem?_toArray, List.getElem?_cons_succ, List.getElem?_cons_zero]; rfl)
  case hQT4 => exact fun _ _ _ h => h
  case hwT4 => rfl
  case hyT4 => (intro wS hSw; obtain ⟨_, _⟩ := hSw; go_simp; (try with_reducible rfl))
  try simp only [Act.put, List.setIfInBounds_toArray, List.set_cons_zero, List.set_cons_succ]
  refine' wpAnyT_take (i := 5) (v := _) ?hiT5 (by kernel_rfl) ?hQT5 (Or.inl ⟨?hwT5, ?hyT5⟩) hS ?reT5
  case hiT5 => (simp only [List.getElem?_toArray, List.getElem?_cons_succ, List.getElem?_cons_zero]; rfl)
  case hQT5 => exact fun _ _ _ h => h
  case hwT5 => rfl
  case hyT5 => (intro wS hSw; obtain ⟨_, _⟩ := hSw; go_simp; (try with_reducible rfl))
  try simp only [Act.put, List.setIfInBounds_toArray, List.set_cons_zero, List.set_cons_succ]
  refine' wpAnyT_take (i := 6) (v := _) ?hiT6 (by kernel_rfl) ?hQT6 (Or.inl ⟨?hwT6, ?hyT6⟩) hS ?reT6
  case hiT6 => (simp only [List.getElem?_toArray, List.getElem?_cons_succ, List.getElem?_cons_zero]; rfl)
  case hQT6 => exact fun _ _ _ h => h
  case hwT6 => rfl
  case hyT6 => (intro wS hSw; obtain ⟨_, _⟩ := hSw; go_simp; (try with_reducible rfl))
  try simp only [Act.put, List.setIfInBounds_toArray, List.set_cons_zero, List.set_cons_succ]
  refine' wpAnyT_take (i := 7) (v := _) ?hiT7 (by kernel_rfl) ?hQT7 (Or.inl ⟨?hwT7, ?hyT7⟩) hS ?reT7
  case hiT7 => (simp only [List.getElem?_toArray, List.getElem?_cons_succ, List.getElem?_cons_zero]; rfl)
  case hQT7 => exact fun _ _ _ h => h
  case hwT7 => rfl
  case hyT7 => (intro wS hSw; obtain ⟨_, _⟩ := hSw; go_simp; (try with_reducible rfl))
  try simp only [Act.put, List.setIfInBounds_toArray, List.set_cons_zero, List.set_cons_succ]
  refine' wpAnyT_take (i := 8) (v := _) ?hiT8 (by kernel_rfl) ?hQT8 (Or.inl ⟨?hwT8, ?hyT8⟩) hS ?reT8
  case hiT8 => (simp only [List.getElem?_toArray, List.getElem?_cons_succ, List.getElem?_cons_zero]; rfl)
  case hQT8 => exact fun _ _ _ h => h
  case hwT8 => rfl
  case hyT8 => (intro wS hSw; obtain ⟨_, _⟩ := hSw; go_simp; (try with_reducible rfl))
  try simp only [Act.put, List.setIfInBounds_toArray, List.set_cons_zero, List.set_cons_succ]
  refine' wpAnyT_take (i := 9) (v := _) ?hiT9 (by kernel_rfl) ?hQT9 (Or.inl ⟨?hwT9, ?hyT9⟩) hS ?reT9
  case hiT9 => (simp only [List.getElem?_toArray, List.getElem?_cons_succ, List.getElem?_cons_zero]; rfl)
  case hQT9 => exact fun _ _ _ h => h
  case hwT9 => rfl
  case hyT9 => (intro wS hSw; obtain ⟨_, _⟩ := hSw; go_simp; (try with_reducible rfl))
  try simp only [Act.put, List.setIfInBounds_toArray, List.set_cons_zero, List.set_cons_succ]
  refine wpAnyT_ready (rs := [10]) (by kernel_rfl) (by simp) ?_
  refine' AllReadyT.cons ?hi10 (fun K hK => ?st10) AllReadyT.nil
  case hi10 => (simp only [List.getElem?_toArray, List.getElem?_cons_succ, List.getElem?_cons_zero]; rfl)
  go_simp
  have hB1 := hB0.alloc hB0.size (.cells #[.int .i64 (k : Int), .int .i64 1, .int .i64 kd] 169)
  refine hK.out _ _ (fun _ => hS0.later hB1 hb hs) (fun hS => ?_)
  clear hK K
  replace hS := hS rfl
  try simp only [Act.put, List.setIfInBounds_toArray, List.set_cons_zero, List.set_cons_succ]
  have kN := Blk.new w.drew 169 #[.int .i64 (k : Int), .int .i64 1, .int .i64 kd]
  have k31 : Blk (w.drew.alloc (.cells #[.int .i64 (k : Int), .int .i64 1, .int .i64 kd] 169)) s 81 cs := k3.call hB1
  have ro1 : (w.drew.alloc (.cells #[.int .i64 (k : Int), .int .i64 1, .int .i64 kd] 169)).ownsRow NB 169 3 (.slice A1 N1 cap1) N1 xs := ownsRow_call ro hB1
  refine wpAnyT_ready (rs := [11]) (by kernel_rfl) (by simp) ?_
  refine' AllReadyT.cons ?hi11 (fun K hK => ?st11) AllReadyT.nil
  case hi11 => (simp only [List.getElem?_toArray, List.getElem?_cons_succ, List.getElem?_cons_zero]; rfl)
  rw [if_pos (by simp [Region.wanted])]
  refine wp_append_own _ (.tmp 65) (.tmp 74) 75 rfl NB 169 i0 (.agg #[.int .i64 0, .int .i64 0, .int .i64 0]) 3 24 Tryz.underlying75 hi hz0 hz1 hz2 rfl (by decide) _ N1 xs rfl ro1 ⟨w.heap.size, 0, none⟩ 1 1 [.int .i64 (k : Int), .int .i64 1, .int .i64 kd] rfl rfl (news_list kN) (rnC_one1 ((k : Int), 1, kd)) (by unfold maxLen; omega) (by omega) (Nat.le_trans hNB hB1.size) ?_
  intro v' w4 hown' hgrow _
  obtain ⟨A1', cap1', rfl, _⟩ := own_Rd hown'
  have F4 : Far (fun g => g = s ∨ (Value.slice A1 N1 cap1).ownBlock = some g) w w4 := (Far.of_below hB1).grown hgrow (fun g hg _ => .inr hg)
  have k34 := k31.grown hgrow (fun h => own_other ro1 h.symm k31 (by decide))
  have f34 := k34.frozen
  have c34 : w4.cell? ⟨s, 0, none⟩ = some (.slice A1 N1 cap1) := (k34.cell 0).trans ((k3.cell 0).symm.trans hS0.1)
  have hbr : (Value.slice A1 N1 cap1).ownBlock ≠ some b := fun h => by have := (ro.lt b h).1; omega
  refine hK.out _ _ (fun _ => ?later) (fun hS => ?_)
  case later => exact ⟨c34, F4.cell hS0.2 (fun h => h.elim (fun h => hbs h) hbr)⟩
  clear hK K
  replace hS := hS rfl
  try simp only [Act.put, List.setIfInBounds_toArray, List.set_cons_zero, List.set_cons_succ]
  refine wpAnyT_ready (rs := [12]) (by kernel_rfl) (by simp) ?_
  refine' AllReadyT.cons ?hi12 (fun K hK => ?st12) AllReadyT.nil
  case hi12 => (simp only [List.getElem?_toArray, List.getElem?_cons_succ, List.getElem?_cons_zero]; rfl)
  go_simp
  refine hK.out _ _ (fun _ => hS) (fun hS => ?_)
  clear hK K
  replace hS := hS rfl
  try simp only [Act.put, List.setIfInBounds_toArray, List.set_cons_zero, List.set_cons_succ]
  refine wpAnyT_ready (rs := [13]) (by kernel_rfl) (by simp) ?_
  refine' AllReadyT.cons ?hi13 (fun K hK => ?st13) AllReadyT.nil
  case hi13 => (simp only [List.getElem?_toArray, List.getElem?_cons_succ, List.getElem?_cons_zero]; rfl)
  go_simp
  refine hK.out _ _ (fun h => absurd h (by decide)) (fun _ => ?_)
  clear hK K
  refine wpAnyT_done (by kernel_rfl) ?_ _
  refine noPanic_normal ?_
  have F5 : Far (fun g => g = s ∨ (Value.slice A1 N1 cap1).ownBlock = some g) w (w4.setCell ⟨s, 0, none⟩ (.slice A1' (N1 + 1) cap1')) := F4.setCell (p := ⟨s, 0, none⟩) (fun _ => .inl rfl) _
  have F6 : Far (fun g => g = s) w4 (w4.setCell ⟨s, 0, none⟩ (.slice A1' (N1 + 1) cap1')) := Far.setCell (T := fun g => g = s) (p := ⟨s, 0, none⟩) (Far.refl _ _) (fun _ => rfl) _
  exact hQ _ _ _ _ _ _ _ _ _ _ _ _ _ _ A1' cap1' F5.size (k34.set_ 0 _) (ownsRow_far hown' F6 (fun g hg h => own_other hown' (hg.trans (congrArg some h)) k34 (by decide))) F5
def DatS (b s k : Nat) (v : Value) (cs : List Value) (w : World) : Prop := w.cell? ⟨s, 2, none⟩ = some v ∧ w.rangeAt b (1088 + k * 64) cs
theorem DatS.later {b s k : Nat} {v : Value} {cs : List Value} {w w' : World} (h : DatS b s k v cs w) (hF : Below w.heap.size w w') (hb : b < w.heap.size) (hs : s < w.heap.size) : DatS b s k v cs w' :=
  ⟨(hF.cell (p := ⟨s, 2, none⟩) hs).trans h.1, fun j u hj => (hF.cell (p := ⟨b, _, none⟩) hb).trans (h.2 j u hj)⟩
set_option maxRecDepth 100000 in
set_option maxHeartbeats 1600000 in
theorem save6_dat {Q : Exit → Act → World → Prop} {u1 u2 u5 u6 u7 u8 u9 u10 u11 u12 u13 u14 u15 u16 u17 u18 u19 u20 u21 u22 u23 u24 u25 u26 u27 u28 u29 u30 u31 u32 u33 u34 u35 u36 u37 u38 u39 u40 u41 u42 u43 u44 u45 u46 u47 u48 u49 u50 u51 u52 u53 u54 u55 u56 u57 u58 u59 u60 u61 u62 u63 u64 u65 u66 u67 u68 u69 u70 u71 u72 u73 u74 u75 u76 u77 u78 u79 u80 u81 u82 u83 u84 u85 u86 u87 u88 u89 u90 u91 u92 u93 u94 u95 u96 u97 u98 u99 u100 u101 u102 u103 u104 u105 u106 u107 u108 u109 u110 u111 u112 u113 u114 u115 u116 u117 u118 u119 u120 u121 u122 u123 u124 u125 : Value} {D : List Deferred} (b s k NB N3 cap3 : Nat) (A3 : Option Addr) (f : Nat → Int) (cs : Array Value) (xs : List Value) (w : World)
    (hk : (k : Int) < 1024) (hN : N3 ≤ 1024) (hb : b < w.heap.size) (hs : s < w.heap.size) (hNB : NB ≤ w.heap.size) (hbN : b < NB) (hbs : ¬ b = s) (hcX : w.rangeAt b (1088 + k * 64) (arrI .u8 64 f).toList)
    (k3 : Blk w s 81 cs) (h3 : w.cell? ⟨s, 2, none⟩ = some (.slice A3 N3 cap3)) (ro : w.ownsRow NB 171 65 (.slice A3 N3 cap3) N3 xs)
    (hQ : ∀ (x112 x113 x114 x115 x116 x117 x118 x119 x120 x121 x122 x123 x124 : Value) (w' : World) (A3' : Option Addr) (cap3' : Nat), w.heap.size ≤ w'.heap.size → Blk w' s 81 (cs.setIfInBounds 2 (.slice A3' (N3 + 1) cap3')) → w'.ownsRow NB 171 65 (.slice A3' (N3 + 1) cap3') (N3 + 1) (xs ++ (daA (k : Int) f).toList) →
      Far (fun g => g = s ∨ (Value.slice A3 N3 cap3).ownBlock = some g) w w' → Q .normal ⟨#[(.pointer (some ⟨b, 0, none⟩)), u1, u2, (.pointer (some ⟨s, 0, none⟩)), (.int .i64 (k : Int)), u5, u6, u7, u8, u9, u10, u11, u12, u13, u14, u15, u16, u17, u18, u19, u20, u21, u22, u23, u24, u25, u26, u27, u28, u29, u30, u31, u32, u33, u34, u35, u36, u37, u38, u39, u40, u41, u42, u43, u44, u45, u46, u47, u48, u49, u50, u51, u52, u53, u54, u55, u56, u57, u58, u59, u60, u61, u62, u63, u64, u65, u66, u67, u68, u69, u70, u71, u72, u73, u74, u75, u76, u77, u78, u79, u80, u81, u82, u83, u84, u85, u86, u87, u88, u89, u90, u91, u92, u93, u94, u95, u96, u97, u98, u99, u100, u101, u102, u103, u104, u105, u106, u107, u108, u109, u110, u111, x112, x113, x114, x115, x116, x117, x118, x119, x120, x121, x122, x123, x124, u125], D⟩ w') :
    (Code.region 14 datOps true).wp Tryz.prog Q ⟨#[(.pointer (some ⟨b, 0, none⟩)), u1, u2, (.pointer (some ⟨s, 0, none⟩)), (.int .i64 (k : Int)), u5, u6, u7, u8, u9, u10, u11, u12, u13, u14, u15, u16, u17, u18, u19, u20, u21, u22, u23, u24, u25, u26, u27, u28, u29, u30, u31, u32, u33, u34, u35, u36, u37, u38, u39, u40, u41, u42, u43, u44, u45, u46, u47, u48, u49, u50, u51, u52, u53, u54, u55, u56, u57, u58, u59, u60, u61, u62, u63, u64, u65, u66, u67, u68, u69, u70, u71, u72, u73, u74, u75, u76, u77, u78, u79, u80, u81, u82, u83, u84, u85, u86, u87, u88, u89, u90, u91, u92, u93, u94, u95, u96, u97, u98, u99, u100, u101, u102, u103, u104, u105, u106, u107, u108, u109, u110, u111, u112, u113, u114, u115, u116, u117, u118, u119, u120, u121, u122, u123, u124, u125], D⟩ w := by
  conv => arg 2; arg 2; whnf
  obtain ⟨iD, hi, hz0, hz1, hz2⟩ := info_parts infoDa
  have hbt := built_da (k : Int) f
  have hfl := fill_da (k : Int) f
  obtain ⟨E, hE⟩ : ∃ E, daA (k : Int) f = E := ⟨_, rfl⟩
  have hEs : E.toList.length = 65 := by rw [← hE]; simp [daA]
  have hEo : ∀ u ∈ E.toList, u.oneCell' = true := by
    intro u hu
    rw [← hE] at hu
    unfold daA at hu
    rw [List.mem_cons] at hu
    rcases hu with rfl | hu
    · rfl
    · rw [List.mem_map] at hu
      obtain ⟨i, _, rfl⟩ := hu
      rfl
  obtain ⟨X, hX⟩ : ∃ X, arrI .u8 64 f = X := ⟨_, rfl⟩
  have hinfl : (Tryz.prog.info? 109).map (·.size) = some X.toList.length := by rw [← hX]; exact infoKinds
  rw [hX] at hbt hcX
  rw [hE] at hfl hbt hQ
  clear hX hE
  have hfl' : Instr.fill (fun i => some (i * iD.size, iD.size)) ((Array.range (1 * iD.size)).map ((Value.agg (daA 0 (fun _ => 0))).cells[· % (Value.agg (daA 0 (fun _ => 0))).cells.size]!)) [(0, .agg E)] = some E := by rw [hz1]; exact hfl
  have hs1 : ¬ 1 * iD.size > 2 ^ 24 := by rw [hz1]; decide
  have hs2 : ¬ 1 * iD.size = 0 := by rw [hz1]; decide
  refine wp_noPanic ?_
  refine wp_region_T (DatS b s k (.slice A3 N3 cap3) X.toList) [13] (by kernel_rfl) ?_
  have hS0 : DatS b s k (.slice A3 N3 cap3) X.toList w := ⟨h3, hcX⟩
  have hB0 : Below w.heap.size w w.drew := (Below.refl _ w).drew
  have hS : DatS b s k (.slice A3 N3 cap3) X.toList w.drew := hS0
  clear h3 hcX hfl
  refine' wpAnyT_take (i := 0) (v := _) ?hiT0 (by kernel_rfl) ?hQT0 (Or.inl ⟨?hwT0, ?hyT0⟩) hS ?reT0
  case hiT0 => (simp only [List.getElem?_toArray, List.getElem?_cons_zero]; rfl)
  case hQT0 => exact fun _ _ _ h => h
  case hwT0 => rfl
  case hyT0 => (intro wS hSw; obtain ⟨_, _⟩ := hSw; go_simp; (try with_reducible rfl))
  try simp only [Act.put, List.setIfInBounds_toArray, List.set_cons_zero, List.set_cons_succ]
  refine' wpAnyT_take (i := 1) (v := _) ?hiT1 (by kernel_rfl) ?hQT1 (Or.inl ⟨?hwT1, ?hyT1⟩) hS ?reT1
  case hiT1 => (simp only [List.getElem?_toArray, List.getElem?_cons_succ, List.getElem?_cons_zero]; rfl)
  case hQT1 => exact fun _ _ _ h => h
  case hwT1 => rfl
  case hyT1 => (intro wS hSw; obtain ⟨_, _⟩ := hSw; go_simp; (try with_reducible rfl))
  try simp only [Act.put, List.setIfInBounds_toArray, List.set_cons_zero, List.set_cons_succ]
  refine' wpAnyT_take (i := 2) (v := _) ?hiT2 (by kernel_rfl) ?hQT2 (Or.inl ⟨?hwT2, ?hyT2⟩) hS ?reT2
  case hiT2 => (simp only [List.getElem?_toArray, List.getElem?_cons_succ, List.getElem?_cons_zero]; rfl)
  case hQT2 => exact fun _ _ _ h => h
  case hwT2 => rfl
  case hyT2 => (intro wS hSw; obtain ⟨_, _⟩ := hSw; go_simp; (try with_reducible rfl))
  try simp only [Act.put, List.setIfInBounds_toArray, List.set_cons_zero, List.set_cons_succ]
  refine' wpAnyT_take (i := 3) (v := _) ?hiT3 (by kernel_rfl) ?hQT3 (Or.inl ⟨?hwT3, ?hyT3⟩) hS ?reT3
  case hiT3 => (simp only [List.getElem?_toArray, List.getElem?_cons_succ, List.getElem?_cons_zero]; rfl)
  case hQT3 => exact fun _ _ _ h => h
  case hwT3 => rfl
  case hyT3 => (intro wS hSw; obtain ⟨_, _⟩ := hSw; go_simp; (try with_reducible rfl))
  try simp only [Act.put, List.setIfInBounds_toArray, List.set_cons_zero, List.set_cons_succ]
  refine' wpAnyT_take (i := 4) (v := _) ?hiT4 (by kernel_rfl) ?hQT4 (Or.inl ⟨?hwT4, ?hyT4⟩) hS ?reT4
  case hiT4 => (simp only [List.getElem?_toArray, List.getElem?_cons_succ, List.getElem?_cons_zero]; rfl)
  case hQT4 => exact fun _ _ _ h => h
  case hwT4 => rfl
  case hyT4 => (intro wS hSw; obtain ⟨_, _⟩ := hSw; go_simp; (try with_reducible rfl))
  try simp only [Act.put, List.setIfInBounds_toArray, List.set_cons_zero, List.set_cons_succ]
  refine' wpAnyT_take (i := 5) (v := _) ?hiT5 (by kernel_rfl) ?hQT5 (Or.inl ⟨?hwT5, ?hyT5⟩) hS ?reT5
  case hiT5 => (simp only [List.getElem?_toArray, List.getElem?_cons_succ, List.getElem?_cons_zero]; rfl)
  case hQT5 => exact fun _ _ _ h => h
  case hwT5 => rfl
  case hyT5 => (intro wS hSw; obtain ⟨_, _⟩ := hSw; go_simp; (try with_reducible rfl))
  try simp only [Act.put, List.setIfInBounds_toArray, List.set_cons_zero, List.set_cons_succ]
  refine' wpAnyT_take (i := 6) (v := _) ?hiT6 (by kernel_rfl) ?hQT6 (Or.inl ⟨?hwT6, ?hyT6⟩) hS ?reT6
  case hiT6 => (simp only [List.getElem?_toArray, List.getElem?_cons_succ, List.getElem?_cons_zero]; rfl)
  case hQT6 => exact fun _ _ _ h => h
  case hwT6 => rfl
  case hyT6 => (intro wS hSw; obtain ⟨_, _⟩ := hSw; go_simp; (try with_reducible rfl))
  try simp only [Act.put, List.setIfInBounds_toArray, List.set_cons_zero, List.set_cons_succ]
  refine' wpAnyT_take (i := 7) (v := _) ?hiT7 (by kernel_rfl) ?hQT7 (Or.inl ⟨?hwT7, ?hyT7⟩) hS ?reT7
  case hiT7 => (simp only [List.getElem?_toArray, List.getElem?_cons_succ, List.getElem?_cons_zero]; rfl)
  case hQT7 => exact fun _ _ _ h => h
  case hwT7 => rfl
  case hyT7 => (intro wS hSw; obtain ⟨_, _⟩ := hSw; go_simp; (try with_reducible rfl))
  try simp only [Act.put, List.setIfInBounds_toArray, List.set_cons_zero, List.set_cons_succ]
  refine' wpAnyT_take (i := 8) (v := .agg X.toList.toArray) ?hiT8 (by kernel_rfl) ?hQT8 ?hyT8 hS ?reT8
  case hiT8 => (simp only [List.getElem?_toArray, List.getElem?_cons_succ, List.getElem?_cons_zero]; rfl)
  case hQT8 => exact fun _ _ _ h => h
  case hyT8 => exact yieldsIf_load_mid rfl 109 (.tmp 119) rfl b (1088 + k * 64) rfl X.toList _ (fun _ h => h.2) Tryz.underlying109 rfl hinfl
  try simp only [Act.put, List.setIfInBounds_toArray, List.set_cons_zero, List.set_cons_succ]
  rw [Array.toArray_toList]
  refine' wpAnyT_take (i := 9) (v := .agg E) ?hiT9 (by kernel_rfl) ?hQT9 ?hyT9 hS ?reT9
  case hiT9 => (simp only [List.getElem?_toArray, List.getElem?_cons_succ, List.getElem?_cons_zero]; rfl)
  case hQT9 => exact fun _ _ _ h => h
  case hyT9 => exact yieldsIf_build rfl 171 [(0, .tmp 114), (1, .tmp 120)] rfl _ rfl E hbt
  try simp only [Act.put, List.setIfInBounds_toArray, List.set_cons_zero, List.set_cons_succ]
  have hB1 := hB0.alloc hB0.size (.cells E 171)
  have kN := Blk.new w.drew 171 E
  have k31 : Blk (w.drew.alloc (.cells E 171)) s 81 cs := k3.call hB1
  have ro1 : (w.drew.alloc (.cells E 171)).ownsRow NB 171 65 (.slice A3 N3 cap3) N3 xs := ownsRow_call ro hB1
  refine wpAnyT_ready (rs := [10]) (by kernel_rfl) (by simp) ?_
  refine' AllReadyT.cons ?hi10 (fun K hK => ?st10) AllReadyT.nil
  case hi10 => (simp only [List.getElem?_toArray, List.getElem?_cons_succ, List.getElem?_cons_zero]; rfl)
  rw [if_pos (by simp [Region.wanted])]
  refine wp_buildSliceU 76 171 1 [(0, .tmp 121)] rfl _ rfl E iD _ Tryz.underlying76 hi hz0 hs1 hs2 hfl' ?_
  refine hK.out _ _ (fun _ => hS0.later hB1 hb hs) (fun hS => ?_)
  clear hK K
  replace hS := hS rfl
  try simp only [Act.put, List.setIfInBounds_toArray, List.set_cons_zero, List.set_cons_succ]
  refine wpAnyT_ready (rs := [11]) (by kernel_rfl) (by simp) ?_
  refine' AllReadyT.cons ?hi11 (fun K hK => ?st11) AllReadyT.nil
  case hi11 => (simp only [List.getElem?_toArray, List.getElem?_cons_succ, List.getElem?_cons_zero]; rfl)
  rw [if_pos (by simp [Region.wanted])]
  refine wp_append_own _ (.tmp 113) (.tmp 122) 76 rfl NB 171 iD (.agg (daA 0 (fun _ => 0))) 65 72 Tryz.underlying76 hi hz0 hz1 hz2 rfl (by decide) _ N3 xs rfl ro1 ⟨w.heap.size, 0, none⟩ 1 1 E.toList rfl hEs (news_list (l := E.toList) kN) hEo (by unfold maxLen; omega) (by omega) (Nat.le_trans hNB hB1.size) ?_
  intro v' w4 hown' hgrow _
  obtain ⟨A3', cap3', rfl, _⟩ := own_Rd hown'
  have F4 : Far (fun g => g = s ∨ (Value.slice A3 N3 cap3).ownBlock = some g) w w4 := (Far.of_below hB1).grown hgrow (fun g hg _ => .inr hg)
  have k34 := k31.grown hgrow (fun h => own_other ro1 h.symm k31 (by decide))
  have f34 := k34.frozen
  have c34 : w4.cell? ⟨s, 2, none⟩ = some (.slice A3 N3 cap3) := (k34.cell 2).trans ((k3.cell 2).symm.trans hS0.1)
  have hbr : (Value.slice A3 N3 cap3).ownBlock ≠ some b := fun h => by have := (ro.lt b h).1; omega
  refine hK.out _ _ (fun _ => ?later) (fun hS => ?_)
  case later => exact ⟨c34, fun j u hj => F4.cell (hS0.2 j u hj) (fun h => h.elim (fun h => hbs h) hbr)⟩
  clear hK K
  replace hS := hS rfl
  try simp only [Act.put, List.setIfInBounds_toArray, List.set_cons_zero, List.set_cons_succ]
  refine wpAnyT_ready (rs := [12]) (by kernel_rfl) (by simp) ?_
  refine' AllReadyT.cons ?hi12 (fun K hK => ?st12) AllReadyT.nil
  case hi12 => (simp only [List.getElem?_toArray, List.getElem?_cons_succ, List.getElem?_cons_zero]; rfl)
  go_simp
  refine hK.out _ _ (fun _ => hS) (fun hS => ?_)
  clear hK K
  replace hS := hS rfl
  try simp only [Act.put, List.setIfInBounds_toArray, List.set_cons_zero, List.set_cons_succ]
  refine wpAnyT_ready (rs := [13]) (by kernel_rfl) (by simp) ?_
  refine' AllReadyT.cons ?hi13 (fun K hK => ?st13) AllReadyT.nil
  case hi13 => (simp only [List.getElem?_toArray, List.getElem?_cons_succ, List.getElem?_cons_zero]; rfl)
  go_simp
  refine hK.out _ _ (fun h => absurd h (by decide)) (fun _ => ?_)
  clear hK K
  refine wpAnyT_done (by kernel_rfl) ?_ _
  refine noPanic_normal ?_
  have F5 : Far (fun g => g = s ∨ (Value.slice A3 N3 cap3).ownBlock = some g) w (w4.setCell ⟨s, 2, none⟩ (.slice A3' (N3 + 1) cap3')) := F4.setCell (p := ⟨s, 2, none⟩) (fun _ => .inl rfl) _
  have F6 : Far (fun g => g = s) w4 (w4.setCell ⟨s, 2, none⟩ (.slice A3' (N3 + 1) cap3')) := Far.setCell (T := fun g => g = s) (p := ⟨s, 2, none⟩) (Far.refl _ _) (fun _ => rfl) _
  exact hQ _ _ _ _ _ _ _ _ _ _ _ _ _ _ A3' cap3' F5.size (k34.set_ 2 _) (ownsRow_far hown' F6 (fun g hg h => own_other hown' (hg.trans (congrArg some h)) k34 (by decide))) F5
end Go.Proofs.YtefnnfcfigcikaaGreat
namespace Go.Proofs.YtefnnfcfigcikaaGreat
open Go Go.Proofs Go.RowKit Go.Pol Go.Shelf
attribute [local go_sem] Oper.semAt_some Go.Pol.wide_fn Go.Pol.wide_depth Go.Pol.wide_fn' Go.Pol.wide_depth'

/-- an append of a list that may be nil -/
theorem wpList_append_opt {P : Program} {w : World} {ops : Array Oper} {rest : List Oper} {o : Oper} {a : Act} {Q : Exit → Act → World → Prop} (hgd : o.guard = none) (s x : Operand) (t : TypeId)
    (ho : o.op = .call { callee := .builtin .append, args := #[s, x], argTypes := #[t, t] })
    (base : Nat) (e : TypeId) (i : TypeInfo) (z : Value) (size bytes : Nat) (ht : P.underlying t = some (.slice e)) (hi : P.info? e = some i) (hz : i.zero = some z)
    (hsize : i.size = size) (hby : i.bytes = bytes) (hzs : z.cells.size = size) (hsz : 0 < size)
    (v : Value) (n : Nat) (xs : List Value) (hs : a.eval s = v) (hown : w.ownsRow base e size v n xs)
    (A : Option Addr) (m c : Nat) (news : List Value) (hx : a.eval x = .slice A m c) (hA : A = none → m = 0 ∧ c = 0) (hl : news.length = m * size) (hnews : ∀ ad, A = some ad → ∀ j u, news[j]? = some u → w.cell? (ad.add j) = some u) (h1 : ∀ u ∈ news, u.oneCell' = true)
    (h63 : n + m ≤ maxLen) (hbytes : (n + m) * bytes ≤ 140737488355328) (hbase : base ≤ w.heap.size)
    (h : ∀ v' w', w'.ownsRow base e size v' (n + m) (xs ++ news) → w.grownBy w' v.ownBlock → wpList P ops Q rest (a.put o.dst v') w') : wpList P ops Q (o :: rest) a w := by
  cases A with
  | none =>
    obtain ⟨rfl, rfl⟩ := hA rfl
    have hn : news = [] := List.eq_nil_of_length_eq_zero (by rw [hl]; simp)
    subst hn
    exact wpList_append_own_none hgd s x t ho base e i size ht hi v n xs hs hown hx (h v w (by simpa using hown) (World.grownBy.refl _ _))
  | some ad => exact wpList_append_own _ hgd s x t ho base e i z size bytes ht hi hz hsize hby hzs hsz v n xs hs hown ad m c news hx hl (hnews ad rfl) h1 h63 hbytes hbase fun v' w' h2 h3 _ => h v' w' h2 h3
set_option maxRecDepth 100000 in
set_option maxHeartbeats 3200000 in
theorem save6_any (B b : Nat) (V : Vm) (w : World) (hV : RefIs w B b V) (hG : GoodV V) :
    Calls Tryz.prog 34 #[.pointer (some ⟨b, 0, none⟩)] w (SaveO V w) := by
  obtain ⟨cs, A, n, cap, kb, hc, hn, hr, hBb, hok⟩ := hV.ex
  have hbl := kb.lt
  have hb0 := (Below.refl w.heap.size w).alloc (Nat.le_refl _) (.cells (stC (.slice none 0 0) (.slice none 0 0) (.slice none 0 0) (.slice none 0 0) (fun _ => 0) (fun _ => 0)).toArray 81)
  have k2 := Blk.new w 81 (stC (.slice none 0 0) (.slice none 0 0) (.slice none 0 0) (.slice none 0 0) (fun _ => 0) (fun _ => 0)).toArray
  have kb0 := kb.call hb0
  obtain ⟨s, hs⟩ : ∃ s, w.heap.size = s := ⟨_, rfl⟩
  have hsz0 : (w.alloc (.cells (stC (.slice none 0 0) (.slice none 0 0) (.slice none 0 0) (.slice none 0 0) (fun _ => 0) (fun _ => 0)).toArray 81)).heap.size = s + 1 := by rw [World.size_alloc, hs]
  have hr0 : Rd (w.alloc (.cells (stC (.slice none 0 0) (.slice none 0 0) (.slice none 0 0) (.slice none 0 0) (fun _ => 0) (fun _ => 0)).toArray 81)) B A (fl ruC V.rf.rules) := hr.keepB (T := fun _ => False) (Far.of_below hb0) (fun _ h => h.elim)
  rw [hs] at k2
  unfold stC rfC at hb0 k2 hsz0 kb0 hr0
  have hc' := Lib.hid hc
  clear hV kb hr
  go_enter Tryz.func34, Tryz.ntmps34
  go_upto_region 1 with fail
  generalize w.alloc _ = w0 at *
  try simp only [hs]
  have hrng : w0.rangeAt b 66624 (rfC (.slice A n cap) V.rf.calls V.rf.hits) := fun j v hj => by
    have hj15 : j < 15 := (List.getElem?_eq_some_iff.1 hj).1
    rw [kb0.cell, hc'.out.rf j hj15]; exact hj
  have k3 := Blk.new w0 81 (stC (.slice none 0 0) (.slice none 0 0) (.slice none 0 0) (.slice A n cap) V.rf.calls V.rf.hits).toArray
  have hb1 := (Below.refl w0.heap.size w0).alloc (Nat.le_refl _) (.cells (stC (.slice none 0 0) (.slice none 0 0) (.slice none 0 0) (.slice A n cap) V.rf.calls V.rf.hits).toArray 81)
  have k21 := k2.call hb1
  have kb1 := kb0.call hb1
  have hr1 := hr0.keepB (T := fun _ => False) (Far.of_below hb1) (fun _ h => h.elim)
  have hsz1 : (w0.alloc (.cells (stC (.slice none 0 0) (.slice none 0 0) (.slice none 0 0) (.slice A n cap) V.rf.calls V.rf.hits).toArray 81)).heap.size = s + 2 := by rw [World.size_alloc, hsz0]
  rw [hsz0] at k3
  unfold stC rfC at k3 hb1 k21 kb1 hr1 hsz1
  clear k2 kb0 hr0 hc
  go_upto_region 2 with (refine wpList_load_mid rfl 79 (.tmp 8) rfl b 66624 rfl (rfC (.slice A n cap) V.rf.calls V.rf.hits) _ hrng Tryz.underlying79 rfl infoRf ?_; unfold rfC)
  generalize w0.alloc _ = w1 at *
  try simp only [hsz0]
  obtain ⟨iR, hiR, hzR0, hzR1, hzR2⟩ := infoRu_parts
  have hlen50 := (chkR_zero.1 hok.plan).1
  have hn1 := hn.1
  have hn50 : n ≤ 50 := by omega
  have c67 : w1.cell? ⟨b, 66624, none⟩ = some (.slice A n cap) := by rw [kb1.cell]; exact (hc'.out.rf 0 (by omega)).trans rfl
  have c67E : (w1.alloc (.cells #[] 178)).cell? ⟨b, 66624, none⟩ = some (.slice A n cap) := by rw [(kb1.alloc _).cell]; exact (hc'.out.rf 0 (by omega)).trans rfl
  have hbE : Below w1.heap.size w1 (w1.alloc (.cells #[] 178)) := (Below.refl _ _).alloc (Nat.le_refl _) _
  have hrE := hr1.keepB (T := fun _ => False) (Far.of_below hbE) (fun _ h => h.elim)
  have hA0 : A = none → n = 0 ∧ cap = 0 := fun h => by
    refine ⟨?_, hn.2 h⟩
    rw [← hn.1]
    cases hru : V.rf.rules with
    | nil => rfl
    | cons x r =>
      obtain ⟨b', o, e, _⟩ := hr1 0 (by rw [hru, fl_len ruC_len]; simp)
      rw [h] at e
      cases e
  have hnewsE : ∀ ad, A = some ad → ∀ (j : Nat) (u : Value), (fl ruC V.rf.rules)[j]? = some u → (w1.alloc (.cells #[] 178)).cell? (ad.add j) = some u := fun ad h j u hj => by
    obtain ⟨hlt, e⟩ := List.getElem?_eq_some_iff.1 hj
    obtain ⟨b', o, e', _, hc⟩ := hrE j hlt
    rw [h] at e'; cases e'
    rw [addr_add0, hc, e]
  have k3' := Lib.hid k3
  have c33 : w1.cell? ⟨s + 1, 3, none⟩ = some (.slice A n cap) := (k3.cell 3).trans rfl
  have hsz1' := Lib.hid hsz1
  clear k3 hrng hr1 hrE hsz1
  go_upto_region 3 with (refine wpList_append_opt rfl (.tmp 11) (.tmp 17) 33 rfl w1.heap.size 178 iR (.agg #[.int .i64 0, .int .i64 0, .int .i64 0, .int .i64 0]) 4 32 Tryz.underlying33 hiR hzR0 hzR1 hzR2 rfl (by decide) _ 0 [] rfl (World.ownsRow_made w1 _ _ (Nat.le_refl _) (by unfold maxLen; omega) rfl) A n cap (fl ruC V.rf.rules) rfl hA0 (by rw [fl_len ruC_len, hn1]) hnewsE (ruC_one V.rf.rules) (by unfold maxLen; omega) (by omega) (by simp) ?_; intro v' w2 hown' hgrow; have hb2 : Below w1.heap.size w1 w2 := hbE.grown hgrow (by simp) (fun j hj => by cases hj; exact Nat.le_refl _); have k32 := k3'.out.call hb2; have f32 := k32.frozen; have c32 : w2.cell? ⟨s + 1, 3, none⟩ = some (.slice A n cap) := (k32.cell 3).trans rfl; rw [Nat.zero_add, List.nil_append] at hown'; obtain ⟨A4, c4, rfl, q1, _, _, q4, _⟩ := own_Rd hown'; clear c33)
  have k33 := k32.set_ 3 (.slice A4 n c4)
  have F3 : Far (fun k => k = s + 1) w2 (w2.setCell ⟨s + 1, 3, none⟩ (.slice A4 n c4)) := Far.setCell (T := fun k => k = s + 1) (p := ⟨s + 1, 3, none⟩) (Far.refl _ w2) (fun _ => rfl) _
  have kb2 := kb1.call hb2
  have k22 := k21.call hb2
  have hsz1 := hsz1'.out
  have hs0 : s + 1 ≤ w0.heap.size := Nat.le_of_eq hsz0.symm
  have hb0s : Below s w w0 := by rw [← hs]; exact hb0
  have B1 : Below s w w1 := hb0s.trans (hb1.mono (by omega))
  have B2 : Below s w w2 := B1.trans (hb2.mono (by omega))
  generalize w2.setCell ⟨s + 1, 3, none⟩ (.slice A4 n c4) = w3 at *
  have k34 : Blk w3 (s + 1) 81 (stC (.slice none 0 0) (.slice none 0 0) (.slice none 0 0) (.slice A4 n c4) V.rf.calls V.rf.hits).toArray := k33
  have q13 : Rd w3 w2.heap.size A4 (fl ruC V.rf.rules) := q1.far_ F3 (fun g o e => by have := q4 g o e; show ¬ g = s + 1; omega)
  have hbs : b < s := by rw [← hs]; exact hbl
  have kb3 := F3.blk kb2 (by show ¬ b = s + 1; omega)
  have k23 := F3.blk k22 (by show ¬ s = s + 1; omega)
  have hsz2 := hb2.size
  have hsz3 : w2.heap.size ≤ w3.heap.size := F3.size
  have B3 : Below s w w3 := B2.trans (F3.below (by omega) (fun k hk e => by omega))
  have q13' := Lib.hid q13
  have q4' : Hid (∀ (b o : Nat), A4 = some ⟨b, o, none⟩ → s + 2 ≤ b) := Lib.hid (fun b' o e => by have := q4 b' o e; omega)
  have B3' := Lib.hid B3
  have hG' := Lib.hid hG
  have hN4' := Lib.hid hn1
  have hn50' := Lib.hid hn50
  have hs' := Lib.hid hs
  have hsw2 : s + 2 ≤ w2.heap.size := by omega
  clear F3 k32 k22 kb2 B2 k33 q13 q1 f32 hb2 k3' B1 c32 k21 kb1 hb1 hb0 hb0s hsz1 hsz1' hsz0 hs0 hn hn1 hok hnewsE hA0 c67 c67E hbE hgrow q4 B3 hG hlen50 iR hiR hzR0 hzR1 hzR2 hown' hs hbl
  obtain ⟨NB, hNB⟩ : ∃ NB, w3.heap.size = NB := ⟨_, rfl⟩
  have hsNB : s + 2 ≤ NB := by omega
  go_wp2_with fail
  go_loopw [4] (fun u wr => ∃ (k : Nat) (v1 v2 v3 : Value), k ≤ 1024 ∧ u = .int .i64 k ∧ Blk wr (s + 1) 81 (stC v1 v2 v3 (.slice A4 n c4) V.rf.calls V.rf.hits).toArray ∧
    wr.ownsRow NB 169 3 v1 (vrunsL V k).length (fl rnC (vrunsL V k)) ∧ wr.ownsRow NB 3 1 v2 (hugL V k).length ((hugL V k).map (Value.int .i64)) ∧ wr.ownsRow NB 171 65 v3 (datL V k).length (fl (daC V) (datL V k)) ∧ Far (fun k => k = s + 1 ∨ NB ≤ k) w3 wr) (fun u _ => 1024 - (intOf u).toNat)
  case atStart => exact ⟨0, _, _, _, by omega, rfl, k34, World.ownsRow_nil _ _ _ _, World.ownsRow_nil _ _ _ _, World.ownsRow_nil _ _ _ _, Far.refl _ _⟩
  case round =>
    clear k34
    obtain ⟨k, v1, v2, v3, hk, rfl, k3, ro1, ro2, ro3, hF⟩ := hrel
    by_cases hlt : k < 1024
    · have hlt' : decide ((k : Int) < 1024) = true := by rw [decide_eq_true_eq]; omega
      have hkl : (k : Int) < 1024 := by omega
      have kbr := hF.blk kb3 (by show ¬ (b = s + 1 ∨ NB ≤ b); omega)
      have hcK := (kbr.cell k).trans (hc'.out.kind k hlt)
      have c3 := k3.cell
      have f3 := k3.frozen
      unfold stC rfC at c3
      obtain ⟨kd, hkd⟩ : ∃ kd, (V.pg k).kind = kd := ⟨_, rfl⟩
      rw [hkd] at hcK
      have hlR := vrunsL_len V k
      obtain ⟨i0, hi, hz0, hz1, hz2⟩ := info_parts infoInQ
      have hsF := hF.size
      obtain ⟨A1, cap1, rfl, _⟩ := own_Rd ro1
      obtain ⟨N1, hN1⟩ : ∃ N1, (vrunsL V k).length = N1 := ⟨_, rfl⟩
      rw [hN1] at ro1 k3 c3 hlR
      try simp only [hN1]
      have hN1' := Lib.hid hN1
      clear hN1
      go_upto_if 35 with fail
      go_cut [4, 5] from 26 to 124 (fun s4 s5 W => s4 = .int .i64 (k : Int) ∧ ∃ v1, Blk W (s + 1) 81 (stC v1 v2 v3 (.slice A4 n c4) V.rf.calls V.rf.hits).toArray ∧ W.ownsRow NB 169 3 v1 (vrunsL V (k + 1)).length (fl rnC (vrunsL V (k + 1))) ∧ W.ownsRow NB 3 1 v2 (hugL V (k)).length ((hugL V (k)).map (Value.int .i64)) ∧ W.ownsRow NB 171 65 v3 (datL V k).length (fl (daC V) (datL V k)) ∧ Far (fun k => k = s + 1 ∨ NB ≤ k) w3 W)
      case first =>
        by_cases h0 : kd = 0
        · have h0' : (kd != 0) = false := by simpa using h0
          have e1 : vrunsL V (k + 1) = vrunsL V k := by rw [vrunsL_succ, if_pos (hkd.trans h0)]
          have hE := Lib.hid e1
          clear h0 e1 hkd
          go_wp2_with fail
          go_meet
          case rel => exact ⟨rfl, _, k3, by rw [hE.out, hN1'.out]; exact ro1, ro2, ro3, hF⟩
        · have h0' : (kd != 0) = true := by simpa using h0
          have q1 := fun z : Ext wr => z.cell hcK
          by_cases hs2 : 0 < k ∧ (V.pg (k - 1)).kind = kd
          · obtain ⟨m, hm⟩ : ∃ m, m + 1 = k := ⟨k - 1, by omega⟩
            have hkm : (V.pg m).kind = kd := by have := hs2.2; rwa [show k - 1 = m by omega] at this
            have hcM := (kbr.cell m).trans (hc'.out.kind m (by omega))
            rw [hkm] at hcM
            have q2 := fun z : Ext wr => z.cell hcM
            have hk1 : (k : Int) - 1 = (m : Int) := by omega
            have hk0 : decide (0 < k) = true := by rw [decide_eq_true_eq]; omega
            have hml : (m : Int) < 1024 := by omega
            obtain ⟨l, x, hlx⟩ : ∃ l x, vrunsL V k = l ++ [x] := by
              rcases List.eq_nil_or_concat (vrunsL V k) with h | ⟨l, y, h⟩
              · obtain ⟨t, h1, h2⟩ := vruns_pre (V := V) (q := 0) (.inl rfl) k
                rw [Nat.zero_add] at h1 h2
                have ht : t = [] := by have := h1.symm.trans h; simpa [vrunsL] using this
                exact absurd ht (h2 hs2.1 (by rw [hs2.2]; exact h0))
              · exact ⟨l, y, by rw [h, List.concat_eq_append]⟩
            have hx := vruns_last (V := V) k (by omega) x (by rw [hlx]; simp)
            have e1 : vrunsL V (k + 1) = l ++ [(x.1, x.2.1 + 1, x.2.2)] := by
              rw [vrunsL_succ, if_neg (by rw [hkd]; exact h0), if_pos ⟨hs2.1, by rw [hs2.2, hkd]⟩, hlx, bumpR_snoc]
            obtain ⟨ll, hll⟩ : ∃ ll, l.length = ll := ⟨_, rfl⟩
            have hNl : ll + 1 = N1 := by rw [← hN1'.out, hlx, List.length_append, hll]; rfl
            obtain ⟨g, rfl⟩ : ∃ g, A1 = some ⟨g, 0, none⟩ := by
              have ro1' := ro1
              rw [← hNl] at ro1'
              obtain ⟨g, cap', e⟩ := ownsRow_succ ro1'
              simp only [Value.slice.injEq] at e
              exact ⟨g, e.1⟩
            have hgl := ro1.lt g rfl
            have hNi : (N1 : Int) - 1 = (ll : Int) := by omega
            have hlN : (ll : Int) < (N1 : Int) := by omega
            have hcx : wr.cell? ⟨g, ll * 3 + 1, none⟩ = some (.int .i64 x.2.1) := by
              rw [ro1.cellAt _ (by omega), hlx, fl_append, List.getElem?_append_right (by rw [fl_len rnC_len, hll]; omega), fl_len rnC_len, hll, show ll * 3 + 1 - ll * 3 = 1 by omega]
              rfl
            have hE := Lib.hid e1
            have hll' := Lib.hid hll
            have hlx' := Lib.hid hlx
            have hNl' := Lib.hid hNl
            obtain ⟨xa, xb, xc⟩ := x
            simp only at hx hcx
            clear h0 hs2 hkd hkm e1 hll hlx hNl hcM hcK hm
            go_upto_region 8 with fail
            refine region_ext (by kernel_rfl) (by kernel_rfl) ?_
            repeat (go_big_quiet_step (fail))
            refine wpQuiet_nil ?_
            rintro w8 ⟨⟨_, hw8⟩, rfl⟩
            have k38 := k3.call hw8
            have ro18 := ownsRow_call ro1 hw8
            have ro28 := ownsRow_call ro2 hw8
            have ro38 := ownsRow_call ro3 hw8
            have F8 : Far (fun k => k = s + 1 ∨ NB ≤ k) w3 w8 := hF.trans (.of_below hw8)
            have cg : w8.cell? ⟨g, ll * 3 + 1, none⟩ = some (.int .i64 xb) := (hw8.cell (p := ⟨g, ll * 3 + 1, none⟩) hgl.2).trans hcx
            have fg := ro18.frozenAt (ll * 3 + 1)
            have c38 := k38.cell
            unfold stC rfC at c38
            clear c3 f3 k3 ro1 ro2 ro3 hF hcx q1 q2 hw8
            go_wp2_with fail
            go_meet
            case rel =>
              have FS : Far (fun i => i = g) w8 (w8.setCell ⟨g, ll * 3 + 1, none⟩ (.int .i64 (xb + 1))) := Far.setCell (T := fun i => i = g) (p := ⟨g, ll * 3 + 1, none⟩) (Far.refl _ w8) (fun _ => rfl) _
              have FR := FS.mono (T' := fun i => i = s + 1 ∨ (Value.slice (some ⟨g, 0, none⟩) N1 cap1).ownBlock = some i) (fun i _ h => .inr (by rw [h]; rfl))
              have hb := own_bump (v := .int .i64 (xb + 1)) ro18 (i := ll * 3 + 1) (by have := hNl'.out; omega)
              refine ⟨rfl, _, FS.blk k38 (by show ¬ s + 1 = g; omega), ?_, row_kept ro28 ro18 (by decide) (by omega) FR, row_kept ro38 ro18 (by decide) (by omega) FR, F8.trans' FS (fun i hi h => .inr (by rw [h]; exact hgl.1))⟩
              rw [hE.out, fl_bump l (xa, xb, xc), ← hlx'.out, List.length_append, List.length_singleton, hll'.out, hNl'.out]
              exact hb
          · have hE : Hid (vrunsL V (k + 1) = vrunsL V k ++ [((k : Int), 1, kd)]) := Lib.hid (by
              rw [vrunsL_succ, if_neg (by rw [hkd]; exact h0), if_neg (by rw [hkd]; exact hs2), hkd])
            have HR : ∀ w8 : World, Below wr.heap.size wr w8 → True := fun _ _ => trivial
            by_cases hk00 : k = 0
            · have hk0 : decide (0 < k) = false := by rw [decide_eq_false_iff_not]; omega
              clear h0 hs2 hkd hk00 HR
              go_upto_region 8 with fail
              refine region_ext (by kernel_rfl) (by kernel_rfl) ?_
              repeat (go_big_quiet_step (fail))
              refine wpQuiet_nil ?_
              rintro w8 ⟨⟨_, hw8⟩, rfl⟩
              have k38 := k3.call hw8
              have ro18 := ownsRow_call ro1 hw8
              have ro28 := ownsRow_call ro2 hw8
              have ro38 := ownsRow_call ro3 hw8
              have kb8 := kbr.call hw8
              have F8 : Far (fun k => k = s + 1 ∨ NB ≤ k) w3 w8 := hF.trans (.of_below hw8)
              have hcK8 := (hw8.cell (p := ⟨b, k, none⟩) kbr.lt).trans hcK
              have hNBW : NB ≤ (w8).heap.size := by have := F8.size; omega
              clear c3 f3 k3 ro1 ro2 ro3 hF q1 hcK hw8
              go_upto_region 10 with fail
              refine save6_run b (s + 1) k NB N1 _ _ kd _ _ w8 hkl (by omega) kb8.lt k38.lt hNBW (by omega) (by omega) hcK8 k38 ((k38.cell 0).trans rfl) ro18 ?_
              intro x64 x65 x66 x67 x68 x69 x70 x71 x72 x73 x74 x75 x76 w10 A1' cap1' hsz10 k310 ro110 F310
              clear hcK8
              go_wp2_with fail
              go_meet
              case rel =>
                refine ⟨rfl, _, k310, ?_, row_kept ro28 ro18 (by decide) (by omega) F310, row_kept ro38 ro18 (by decide) (by omega) F310, F8.trans' F310 (fun i hi h => h.elim .inl (fun h => .inr (ro18.lt i h).1))⟩
                rw [hE.out, List.length_append, List.length_singleton, hN1'.out, fl_append, show fl rnC [((k : Int), (1 : Int), kd)] = rnC ((k : Int), 1, kd) by simp [fl]]
                exact ro110
            · obtain ⟨m, hm⟩ : ∃ m, m + 1 = k := ⟨k - 1, by omega⟩
              obtain ⟨km, hkm⟩ : ∃ km, (V.pg m).kind = km := ⟨_, rfl⟩
              have hcM := (kbr.cell m).trans (hc'.out.kind m (by omega))
              rw [hkm] at hcM
              have q2 := fun z : Ext wr => z.cell hcM
              have hk1 : (k : Int) - 1 = (m : Int) := by omega
              have hk0 : decide (0 < k) = true := by rw [decide_eq_true_eq]; omega
              have hml : (m : Int) < 1024 := by omega
              have hKK : (km == kd) = false := by
                rw [beq_eq_false_iff_ne]
                intro h
                exact hs2 ⟨by omega, by rw [show k - 1 = m by omega, hkm]; exact h⟩
              clear h0 hs2 hkd hkm hk00 HR hm hcM
              go_upto_region 8 with fail
              refine region_ext (by kernel_rfl) (by kernel_rfl) ?_
              repeat (go_big_quiet_step (fail))
              refine wpQuiet_nil ?_
              rintro w8 ⟨⟨_, hw8⟩, rfl⟩
              clear q2
              have k38 := k3.call hw8
              have ro18 := ownsRow_call ro1 hw8
              have ro28 := ownsRow_call ro2 hw8
              have ro38 := ownsRow_call ro3 hw8
              have kb8 := kbr.call hw8
              have F8 : Far (fun k => k = s + 1 ∨ NB ≤ k) w3 w8 := hF.trans (.of_below hw8)
              have hcK8 := (hw8.cell (p := ⟨b, k, none⟩) kbr.lt).trans hcK
              have hNBW : NB ≤ (w8).heap.size := by have := F8.size; omega
              clear c3 f3 k3 ro1 ro2 ro3 hF q1 hcK hw8
              go_upto_region 10 with fail
              refine save6_run b (s + 1) k NB N1 _ _ kd _ _ w8 hkl (by omega) kb8.lt k38.lt hNBW (by omega) (by omega) hcK8 k38 ((k38.cell 0).trans rfl) ro18 ?_
              intro x64 x65 x66 x67 x68 x69 x70 x71 x72 x73 x74 x75 x76 w10 A1' cap1' hsz10 k310 ro110 F310
              clear hcK8
              go_wp2_with fail
              go_meet
              case rel =>
                refine ⟨rfl, _, k310, ?_, row_kept ro28 ro18 (by decide) (by omega) F310, row_kept ro38 ro18 (by decide) (by omega) F310, F8.trans' F310 (fun i hi h => h.elim .inl (fun h => .inr (ro18.lt i h).1))⟩
                rw [hE.out, List.length_append, List.length_singleton, hN1'.out, fl_append, show fl rnC [((k : Int), (1 : Int), kd)] = rnC ((k : Int), 1, kd) by simp [fl]]
                exact ro110
      case rest =>
        obtain ⟨rfl, v1', k38, ro18, ro28, ro38, F38⟩ := hcut
        have kb8 := F38.blk kb3 (by show ¬ (b = s + 1 ∨ NB ≤ b); omega)
        have hcH := (kb8.cell (1024 + k / 16)).trans (hc'.out.huge k hlt)
        obtain ⟨q, hq, hqz⟩ : ∃ q : Nat, Int.tdiv (k : Int) 16 = (q : Int) ∧ k / 16 = q := ⟨k / 16, by rw [Int.tdiv_eq_ediv_of_nonneg (by omega)]; omega, rfl⟩
        rw [hqz] at hcH
        have hql : (q : Int) < 64 := by omega
        obtain ⟨hg, hhg⟩ : ∃ hg, (V.pg k).huge = hg := ⟨_, rfl⟩
        rw [hhg] at hcH
        have hstH : Hid (hugL V (k + 1) = if k % 16 = 0 ∧ hg = true then hugL V k ++ [(k : Int)] else hugL V k) := Lib.hid (by rw [← hhg]; rfl)
        have hstD : Hid (datL V (k + 1) = if nzB (V.pg k) = true then datL V k ++ [k] else datL V k) := Lib.hid rfl
        have hlH := hugL_len V k
        have hlD := datL_len V k
        clear hqz hhg k3 ro1 ro2 ro3 hF kbr c3 f3 hcK hlR hsF hN1' hkd
        go_upto_region 11 with fail
        go_cut [4, 88] from 26 to 124 (fun s4 s88 W => s4 = .int .i64 (k : Int) ∧ s88 = .bool (decide (k % 16 = 0) && hg) ∧ W = wc)
        case first =>
          by_cases hm : k % 16 = 0
          · have hrm : Int.tmod (k : Int) 16 = 0 := by rw [Int.tmod_eq_emod_of_nonneg (by omega)]; omega
            have hE := Lib.hid (decide_eq_true hm)
            clear hstH hstD hm
            go_wp2_with fail
            go_meet
            case rel => exact ⟨rfl, by rw [hE.out, Bool.true_and], rfl⟩
          · obtain ⟨rm, hrm, hrz⟩ : ∃ rm, Int.tmod (k : Int) 16 = rm ∧ (rm == 0) = false := ⟨_, rfl, by
              rw [Int.tmod_eq_emod_of_nonneg (by omega)]
              simp; omega⟩
            have hE := Lib.hid (decide_eq_false hm)
            clear hstH hstD hm
            go_wp2_with fail
            go_meet
            case rel => exact ⟨rfl, by rw [hE.out, Bool.false_and], rfl⟩
        case rest =>
          obtain ⟨rfl, rfl, hw⟩ := hcut
          subst hw
          have hst3 : Hid (hugL V (k + 1) = if (decide (k % 16 = 0) && hg) = true then hugL V k ++ [(k : Int)] else hugL V k) := Lib.hid (by
            rw [hstH.out]
            simp only [Bool.and_eq_true, decide_eq_true_eq])
          generalize (decide (k % 16 = 0) && hg) = gb at *
          clear hstH hcH
          go_upto_if 88 with fail
          go_cut [4] from 26 to 124 (fun s4 W => s4 = .int .i64 (k : Int) ∧ ∃ v2, Blk W (s + 1) 81 (stC v1' v2 v3 (.slice A4 n c4) V.rf.calls V.rf.hits).toArray ∧ W.ownsRow NB 169 3 v1' (vrunsL V (k + 1)).length (fl rnC (vrunsL V (k + 1))) ∧ W.ownsRow NB 3 1 v2 (hugL V (k + 1)).length ((hugL V (k + 1)).map (Value.int .i64)) ∧ W.ownsRow NB 171 65 v3 (datL V k).length (fl (daC V) (datL V k)) ∧ Far (fun k => k = s + 1 ∨ NB ≤ k) w3 W)
          case first =>
            clear hstD hlD
            cases gb with
            | true =>
              have hst2 : Hid (hugL V (k + 1) = hugL V k ++ [(k : Int)]) := Lib.hid (by rw [hst3.out, if_pos rfl])
              clear hst3
              obtain ⟨A2, cap2, rfl, _⟩ := own_Rd ro28
              obtain ⟨ll, hll⟩ : ∃ ll, (hugL V k).length = ll := ⟨_, rfl⟩
              rw [hll] at ro28 hlH k38
              try simp only [hll]
              have kN := Blk.new wc 3 #[.int .i64 (k : Int)]
              have hbN : Below wc.heap.size wc (wc.alloc (.cells #[.int .i64 (k : Int)] 3)) := (Below.refl _ _).alloc (Nat.le_refl _) _
              have hsF := F38.size
              have c38 := k38.cell
              unfold stC rfC at c38
              go_wp2_with (refine wpList_append_own _ rfl (.tmp 90) (.tmp 92) 50 rfl NB 3 i0 (.int .i64 0) 1 8 Tryz.underlying50 hi hz0 hz1 hz2 rfl (by decide) _ ll ((hugL V k).map (Value.int .i64)) rfl (ro28.alloc _) ⟨wc.heap.size, 0, none⟩ 1 1 [.int .i64 (k : Int)] rfl rfl (news_i kN) ints_one (by unfold maxLen; omega) (by omega) (by simp; omega) ?_; intro v' w7 hown' hgrow _; rw [show (hugL V k).map (Value.int .i64) ++ [Value.int .i64 (k : Int)] = (hugL V k ++ [(k : Int)]).map (Value.int .i64) by simp] at hown'; have F7 : Far (fun g => (Value.slice A2 ll cap2).ownBlock = some g) wc w7 := (Far.of_below hbN).grown hgrow (fun g hg _ => hg); have k37 := F7.blk k38 (fun h => own_other ro28 h k38 (by decide)); have f37 := k37.frozen; have c371 : w7.cell? ⟨s + 1, 1, none⟩ = some (.slice A2 ll cap2) := (k37.cell 1).trans rfl; obtain ⟨A2n, cap2n, rfl, _⟩ := own_Rd hown'; clear c38)
              go_meet
              case rel =>
                have F8 : Far (fun g => g = s + 1 ∨ (Value.slice A2 ll cap2).ownBlock = some g) wc (w7.setCell ⟨s + 1, 1, none⟩ (.slice A2n (ll + 1) cap2n)) := (F7.mono (T' := fun g => g = s + 1 ∨ (Value.slice A2 ll cap2).ownBlock = some g) (fun g _ h => .inr h)).setCell (p := ⟨s + 1, 1, none⟩) (fun _ => .inl rfl) _
                have F81 : Far (fun k => k = s + 1) w7 (w7.setCell ⟨s + 1, 1, none⟩ (.slice A2n (ll + 1) cap2n)) := Far.setCell (T := fun k => k = s + 1) (p := ⟨s + 1, 1, none⟩) (Far.refl _ w7) (fun _ => rfl) _
                refine ⟨rfl, _, k37.set_ 1 (.slice A2n (ll + 1) cap2n), row_kept ro18 ro28 (by decide) (by omega) F8, ?_, row_kept ro38 ro28 (by decide) (by omega) F8, F38.trans' F8 (fun i hi h => h.elim .inl (fun h => .inr (ro28.lt i h).1))⟩
                rw [hst2.out, List.length_append, List.length_singleton, hll]
                exact ownsRow_far hown' F81 (fun g hg h => own_other hown' (hg.trans (congrArg some h)) k37 (by decide))
            | false =>
              have hst2 : Hid (hugL V (k + 1) = hugL V k) := Lib.hid (by rw [hst3.out, if_neg (by decide)])
              clear hst3
              go_wp2_with fail
              go_meet
              case rel => exact ⟨rfl, _, k38, ro18, by rw [hst2.out]; exact ro28, ro38, F38⟩
          case rest =>
            obtain ⟨rfl, v2', k39, ro19, ro29, ro39, F39⟩ := hcut
            clear hst3 k38 ro18 ro28 ro38 F38 kb8 hlH
            have kb9 := F39.blk kb3 (by show ¬ (b = s + 1 ∨ NB ≤ b); omega)
            obtain ⟨A3, cap3, rfl, _⟩ := own_Rd ro39
            go_upto_region 13 with fail
            have hcK9 := (kb9.cell k).trans (hc'.out.kind k hlt)
            have c39 := k39.cell
            unfold stC rfC at c39
            by_cases hk2 : (V.pg k).kind = 2
            · rw [hk2] at hcK9
              clear hk2
              obtain ⟨X, hX⟩ : ∃ X, arrI .u8 64 (V.pg k).byt = X := ⟨_, rfl⟩
              have hXs : X.size = 64 := by rw [← hX]; simp [arrI]
              have hra : wc.rangeAt b (1088 + k * 64) X.toList := fun j v hj => by
                rw [← hX] at hj
                have hj64 : j < 64 := by have := (List.getElem?_eq_some_iff.1 hj).1; simpa [arrI] using this
                rw [kb9.cell, hc'.out.byt k hlt j hj64, ← hj, Array.getElem?_toList, arrI_at hj64]
              have hinfl : (Tryz.prog.info? 109).map (·.size) = some X.toList.length := by rw [Array.length_toList, hXs]; exact infoKinds
              have heq : ∀ W, (Op.equalIn 10000 109 (.agg X) (.agg #[.int .u8 0, .int .u8 0, .int .u8 0, .int .u8 0, .int .u8 0, .int .u8 0, .int .u8 0, .int .u8 0, .int .u8 0, .int .u8 0, .int .u8 0, .int .u8 0, .int .u8 0, .int .u8 0, .int .u8 0, .int .u8 0, .int .u8 0, .int .u8 0, .int .u8 0, .int .u8 0, .int .u8 0, .int .u8 0, .int .u8 0, .int .u8 0, .int .u8 0, .int .u8 0, .int .u8 0, .int .u8 0, .int .u8 0, .int .u8 0, .int .u8 0, .int .u8 0, .int .u8 0, .int .u8 0, .int .u8 0, .int .u8 0, .int .u8 0, .int .u8 0, .int .u8 0, .int .u8 0, .int .u8 0, .int .u8 0, .int .u8 0, .int .u8 0, .int .u8 0, .int .u8 0, .int .u8 0, .int .u8 0, .int .u8 0, .int .u8 0, .int .u8 0, .int .u8 0, .int .u8 0, .int .u8 0, .int .u8 0, .int .u8 0, .int .u8 0, .int .u8 0, .int .u8 0, .int .u8 0, .int .u8 0, .int .u8 0, .int .u8 0, .int .u8 0])).run Tryz.prog W = .ok (!nzB (V.pg k)) W := fun W => by
                have h := eq64_any (V.pg k).byt (fun _ => 0) W
                rw [hX, nzB_all] at h
                exact h
              have hra' : wc.rangeAt b (1088 + k * 64) (arrI .u8 64 (V.pg k).byt).toList := by rw [hX]; exact hra
              clear hX hXs
              cases hnz : nzB (V.pg k) with
              | false =>
                rw [hnz] at heq
                have hstD2 : Hid (datL V (k + 1) = datL V k) := Lib.hid (by rw [hstD.out, if_neg (by rw [hnz]; decide)])
                clear hstD hnz hra'
                go_wp2_with (refine wpList_load_midW 109 (.tmp 107) rfl rfl b (1088 + k * 64) rfl X.toList _ hra Tryz.underlying109 rfl hinfl ?_; rw [Array.toArray_toList])
                go_roundw
                case rel => exact ⟨k + 1, _, v2', _, by omega, by go_num, k39, ro19, ro29, by rw [hstD2.out]; exact ro39, F39⟩
                case measure => simp [intOf]; omega
              | true =>
                rw [hnz] at heq
                have hstD2 : Hid (datL V (k + 1) = datL V k ++ [k]) := Lib.hid (by rw [hstD.out, if_pos hnz])
                clear hstD hnz
                go_upto_region 14 with (refine wpList_load_midW 109 (.tmp 107) rfl rfl b (1088 + k * 64) rfl X.toList _ hra Tryz.underlying109 rfl hinfl ?_; rw [Array.toArray_toList])
                have hNBW : NB ≤ wc.heap.size := by have := F39.size; omega
                refine save6_dat b (s + 1) k NB _ _ _ (V.pg k).byt _ _ _ hkl (by omega) kb9.lt k39.lt hNBW (by omega) (by omega) hra' k39 ((k39.cell 2).trans rfl) ro39 ?_
                intro x112 x113 x114 x115 x116 x117 x118 x119 x120 x121 x122 x123 x124 w14 A3' cap3' hsz14 k314 ro314 F314
                clear c39 hcK9 heq hra hra'
                go_wp2_with fail
                go_roundw
                case rel =>
                  refine ⟨k + 1, _, v2', _, by omega, by go_num, k314, row_kept ro19 ro39 (by decide) (by omega) F314, row_kept ro29 ro39 (by decide) (by omega) F314, ?_, F39.trans' F314 (fun i hi h => h.elim .inl (fun h => .inr (ro39.lt i h).1))⟩
                  rw [hstD2.out, List.length_append, List.length_singleton, fl_append, show fl (daC V) [k] = (daA (k : Int) (V.pg k).byt).toList by rw [← daC_eq]; simp [fl]]
                  exact ro314
                case measure => simp [intOf]; omega
            · have hk2' : ((V.pg k).kind == 2) = false := by simpa using hk2
              have hstD2 : Hid (datL V (k + 1) = datL V k) := Lib.hid (by rw [hstD.out, if_neg (by
                have h := nzB_false.2 (fun j _ => hG'.out.byt k hlt hk2 j)
                rw [h]; decide)])
              clear hstD hk2
              go_wp2_with fail
              go_roundw
              case rel => exact ⟨k + 1, _, v2', _, by omega, by go_num, k39, ro19, ro29, by rw [hstD2.out]; exact ro39, F39⟩
              case measure => simp [intOf]; omega
    · obtain rfl : k = 1024 := by omega
      have hlt' : decide (((1024 : Nat) : Int) < 1024) = false := by decide
      obtain ⟨A1, cap1, rfl, r1, _, _, g1, _⟩ := own_Rd ro1
      obtain ⟨A2, cap2, rfl, r2, _, _, g2, _⟩ := own_Rd ro2
      obtain ⟨A3, cap3, rfl, r3, _, _, g3, _⟩ := own_Rd ro3
      have k2r := hF.blk k23 (by show ¬ (s = s + 1 ∨ NB ≤ s); omega)
      obtain ⟨C18, hC18⟩ : ∃ C18, stC (.slice A1 (vrunsL V 1024).length cap1) (.slice A2 (hugL V 1024).length cap2) (.slice A3 (datL V 1024).length cap3) (.slice A4 n c4) V.rf.calls V.rf.hits = C18 := ⟨_, rfl⟩
      have hC18s : C18.length = 18 := by rw [← hC18]; rfl
      have hC18o : C18.toArray.all (·.oneCell') = true := by rw [← hC18]; exact Go.all_oneCell_toArray (stC_one rfl rfl rfl rfl _ _)
      rw [hC18] at k3
      have hra : wr.rangeAt (s + 1) 0 C18 := fun j v hj => by rw [Nat.zero_add, k3.cell]; simpa using hj
      have hinf : (Tryz.prog.info? 81).map (·.size) = some C18.length := by rw [hC18s]; exact infoSt
      have hinfa : (Tryz.prog.info? 81).map (·.size) = some C18.toArray.size := by rw [List.size_toArray]; exact hinf
      have ht : wr.there s 0 C18.toArray.size := z_there k2r 0 _ (by rw [List.size_toArray, hC18s]; exact Nat.le_refl _)
      have kP := Blk.puts (g := s) (t := 81) (w := wr) (cs := #[]) C18 0 wr _ k2r
      rw [putA_all (by rw [hC18s]; rfl)] at kP
      have F9 := Far.puts (T := fun k => k = s) rfl C18 0 wr wr (Far.refl _ _)
      have hC' := Lib.hid hC18
      clear hC18 hC18s
      go_wp2_with (first
        | (refine wpList_load_mid rfl 81 (.tmp 3) rfl (s + 1) 0 rfl C18 _ hra Tryz.underlying81 rfl hinf ?_)
        | (refine wpList_store_mid rfl 81 (.tmp 2) (.tmp 125) rfl s 0 C18.toArray rfl rfl ht hinfa hC18o ?_))
      generalize World.setCells wr s 0 C18 = w9 at *
      have hl9 := run_loadVar_mid (P := Tryz.prog) w9 s 0 81 C18 _ (fun j v hj => by rw [Nat.zero_add, kP.cell]; simpa using hj) Tryz.underlying81 rfl hinf
      refine bodyPost_ret (v := .agg C18.toArray) ?_ rfl ?_
      · exact z_results_cell1 Tryz.results34 rfl hl9
      have q1r := q13'.out.farN hF (fun k hk ⟨o, e⟩ => by
        have := q4'.out k o e
        show ¬ (k = s + 1 ∨ NB ≤ k)
        omega)
      have hsz9 := F9.size
      have hszr := hF.size
      refine ⟨_, rfl, ⟨A1, A2, A3, A4, _, cap1, _, cap2, _, cap3, n, c4, by rw [hC'.out], rfl, ?_, rfl, ?_, rfl, ?_, hN4'.out, ?_⟩, ?_⟩
      · exact (r1.farN F9 (fun k hk ⟨o, e⟩ h => by have := g1 k o e; omega)).more hsz9
      · exact RI.more (r2.farN F9 (fun k hk ⟨o, e⟩ h => by have := g2 k o e; omega)) hsz9
      · exact (r3.farN F9 (fun k hk ⟨o, e⟩ h => by have := g3 k o e; omega)).more hsz9
      · exact (q1r.farN F9 (fun k hk ⟨o, e⟩ h => by have := q4'.out k o e; omega)).more (by omega)
      · rw [hs'.out]
        exact B3'.out.trans ((hF.below (by omega) (fun k hk h => by omega)).trans (F9.below (by omega) (fun k hk h => by omega)))
end Go.Proofs.YtefnnfcfigcikaaGreat
