/- Merged texts. Walks of the reference of layer 6: two equal saved states are the same. -/
import Derived.Test.YtdepkmpilipolaaGreatA7
namespace Go.Proofs.YtdepkmpilipolaaGreat
open Go Go.Proofs Go.RowKit Go.Pol Go.Shelf
attribute [local go_sem] Oper.semAt_some Go.Pol.wide_fn Go.Pol.wide_depth Go.Pol.wide_fn' Go.Pol.wide_depth'

/-- a whole array is loaded in a quiet walk -/
theorem wpQuiet_load' {P : Program} {ops : Array Oper} {C : World → Prop} {Q : Act → Prop} {a : Act} {o : Oper} {rest : List Oper} (x : Operand) (ty : TypeId) (p : Addr) (v : Value) (hg : o.guard = none) (h : o.op = .load ty x) (hx : a.eval x = .pointer (some p)) (hl : ∀ w, C w → (loadVar ty p).run P w = .ok v w)
    (hk : wpQuiet P ops C Q rest (a.put o.dst v)) : wpQuiet P ops C Q (o :: rest) a :=
  wpQuiet_step fun K hK => by
    rw [if_pos (by simp [Region.wanted, hg])]
    refine ⟨v, fun w hw => ?_, hK _ hk⟩
    unfold Oper.quietAt
    have e : (execOp a.eval o).run P w = .ok (.value v) w := by
      unfold execOp
      simp only [h]
      simp [hx, Instr.loadAt, Instr.sureAddr, Result.andThen, hl w hw]
    rw [e]
    exact ⟨rfl, rfl⟩
theorem infoDaS : (Tryz.prog.info? 76).map (·.size) = some 65 := by kernel_rfl
theorem eqItemsR (d : Nat) (f : Nat → Int) (w : World) : ∀ is : List Nat, (∀ i ∈ is, i < 64) → (Op.eqItems (d + 1) 5 1 (arrI .u8 64 f) (arrI .u8 64 f) is).run Tryz.prog w = .ok true w
  | [], _ => by simp [Op.eqItems]
  | i :: is, h => by
    have ih := eqItemsR d f w is (fun j hj => h j (by simp [hj]))
    have h1 := arrI_at (k := .u8) (f := f) (h i (by simp))
    have a3 := Tryz.isAgg5
    have he := run_equalIn_int (P := Tryz.prog) w d 5 .u8 _ (f i) (f i) Tryz.underlying5
    generalize arrI .u8 64 f = X at *
    have p1 : (part 5 X (i * 1)).run Tryz.prog w = .ok (.int .u8 (f i)) w := by simp [part, a3, h1]
    rw [show (f i == f i) = true by simp] at he
    simp only [Op.eqItems, Sem.run_bind, p1, he, Result.andThen_ok, Bool.not_true, Bool.false_eq_true, if_false]
    exact ih
theorem eq64R (d : Nat) (f : Nat → Int) (w : World) : (Op.equalIn (d + 2) 74 (.agg (arrI .u8 64 f)) (.agg (arrI .u8 64 f))).run Tryz.prog w = .ok true w := by
  obtain ⟨i0, hi⟩ := info_of_underlying (P := Tryz.prog) Tryz.underlying5
  rw [run_equalIn_array w (d + 1) _ _ Tryz.underlying74 hi]
  have hc : Tryz.prog.cellsOf 5 = 1 := by kernel_rfl
  rw [hc]
  exact eqItemsR d f w _ (fun i hi => List.mem_range.1 hi)
theorem daA_bytes (p : Int) (f : Nat → Int) : (daA p f).extract 1 65 = arrI .u8 64 f := by kernel_rfl
theorem daA_size (p : Int) (f : Nat → Int) : (daA p f).size = 65 := by kernel_rfl
theorem daA_page (p : Int) (f : Nat → Int) : (daA p f)[0]? = some (.int .i64 p) := by kernel_rfl
theorem eqDa (p : Int) (f : Nat → Int) (w : World) : (Op.equalIn 10000 76 (.agg (daA p f)) (.agg (daA p f))).run Tryz.prog w = .ok true w := by
  have u3 := Tryz.underlying3
  have a3 := Tryz.isAgg3
  have z3 := Tryz.sizeOf3
  have a9 := Tryz.isAgg74
  have z9 := Tryz.sizeOf74
  have h0 : (daA p f)[0]? = some (.int .i64 p) := daA_page p f
  have hx : (daA p f).extract 1 65 = arrI .u8 64 f := daA_bytes p f
  have hs := daA_size p f
  have he : (Op.equalIn 9999 74 (.agg (arrI .u8 64 f)) (.agg (arrI .u8 64 f))).run Tryz.prog w = .ok true w := eq64R 9997 f w
  have he0 : (Op.equalIn 9999 3 (.int .i64 p) (.int .i64 p)).run Tryz.prog w = .ok (p == p) w := run_equalIn_int (P := Tryz.prog) w 9998 3 .i64 _ p p Tryz.underlying3
  rw [show (p == p) = true by simp] at he0
  generalize daA p f = D at *
  generalize arrI .u8 64 f = X at *
  rw [show (10000 : Nat) = 9999 + 1 from rfl]
  go_simp
  obtain ⟨hlt, e0⟩ := Array.getElem?_eq_some_iff.1 h0
  simp only [e0, he0, he, Result.andThen_ok, Bool.true_eq_false, if_false]
set_option maxRecDepth 100000 in
set_option maxHeartbeats 3200000 in
theorem same6_any (S T : Value) (V : Vm) (w : World) (hS : VsIs w S V) (hT : VsIs w T V) (hm : V.rf.rules.length ≤ 1000) :
    Calls Tryz.prog 11 #[S, T] w fun e w' => e = .returned (.bool true) ∧ Below w.heap.size w w' := by
  obtain ⟨A1, A2, A3, A4, n1, c1, n2, c2, n3, c3, n4, c4, rfl, h1, r1, h2, r2, h3, r3, h4, r4⟩ := hS.ex
  obtain ⟨B1, B2, B3, B4, m1, d1, m2, d2, m3, d3, m4, d4, rfl, g1, q1, g2, q2, g3, q3, g4, q4⟩ := hT.ex
  obtain rfl : n1 = m1 := h1.symm.trans g1
  obtain rfl : n2 = m2 := h2.symm.trans g2
  obtain rfl : n3 = m3 := h3.symm.trans g3
  obtain rfl : n4 = m4 := h4.symm.trans g4
  clear g1 g2 g3 g4 hS hT
  have hb0 := ((Below.refl w.heap.size w).alloc (Nat.le_refl _) (.cells (stC (.slice A1 n1 c1) (.slice A2 n2 c2) (.slice A3 n3 c3) (.slice A4 n4 c4) V.rf.calls V.rf.hits).toArray 53)).alloc (by simp) (.cells (stC (.slice B1 n1 d1) (.slice B2 n2 d2) (.slice B3 n3 d3) (.slice B4 n4 d4) V.rf.calls V.rf.hits).toArray 53)
  have k0 := (Blk.new w 53 (stC (.slice A1 n1 c1) (.slice A2 n2 c2) (.slice A3 n3 c3) (.slice A4 n4 c4) V.rf.calls V.rf.hits).toArray).alloc (.cells (stC (.slice B1 n1 d1) (.slice B2 n2 d2) (.slice B3 n3 d3) (.slice B4 n4 d4) V.rf.calls V.rf.hits).toArray 53)
  have k1 := Blk.new (w.alloc (.cells (stC (.slice A1 n1 c1) (.slice A2 n2 c2) (.slice A3 n3 c3) (.slice A4 n4 c4) V.rf.calls V.rf.hits).toArray 53)) 53 (stC (.slice B1 n1 d1) (.slice B2 n2 d2) (.slice B3 n3 d3) (.slice B4 n4 d4) V.rf.calls V.rf.hits).toArray
  obtain ⟨s, hs⟩ : ∃ s, w.heap.size = s := ⟨_, rfl⟩
  rw [World.size_alloc, hs] at k1
  rw [hs] at k0
  have R1 := Lib.hid (And.intro (r1.on_ hb0) (q1.on_ hb0))
  have R2 := Lib.hid (And.intro (RI.more (RI.below r2 hb0) hb0.size) (RI.more (RI.below q2 hb0) hb0.size))
  have R3 := Lib.hid (And.intro (r3.on_ hb0) (q3.on_ hb0))
  have R4 := Lib.hid (And.intro (r4.on_ hb0) (q4.on_ hb0))
  have HSt := Lib.hid (fun W h h' => sameState_any A4 B4 n4 c4 d4 V.rf.rules V.rf.calls V.rf.hits W h4 (by omega) h h')
  have H1 := Lib.hid h1
  have H2 := Lib.hid h2
  have H3 := Lib.hid h3
  have hL1 := vrunsL_len V 1024
  have hL2 := hugL_len V 1024
  have hL3 := datL_len V 1024
  have e1 : ((n1 : Int) != (n1 : Int)) = false := by simp
  have e2 : ((n2 : Int) != (n2 : Int)) = false := by simp
  have e3 : ((n3 : Int) != (n3 : Int)) = false := by simp
  rw [h1] at hL1
  rw [h2] at hL2
  rw [h3] at hL3
  clear r1 r2 r3 r4 q1 q2 q3 q4 h1 h2 h3 h4
  unfold stC rfC at hb0 k0 k1 R1 R2 R3 R4 ⊢
  unfold rfV rfC at HSt
  go_enter Tryz.func11, Tryz.ntmps11
  go_upto_region 1 with fail
  generalize (w.alloc _).alloc _ = w0 at *
  try simp only [hs]
  have c0 := k0.cell
  have c1 := k1.cell
  go_wp2_with fail
  refine (HSt.out _ R4.out.1 R4.out.2).mono ?_
  rintro e w1 ⟨rfl, hb1⟩
  have k01 := Lib.hid (k0.call hb1)
  have k11 := Lib.hid (k1.call hb1)
  have Q1 := Lib.hid (And.intro (R1.out.1.on_ hb1) (R1.out.2.on_ hb1))
  have Q2 := Lib.hid (And.intro (RI.more (RI.below R2.out.1 hb1) hb1.size) (RI.more (RI.below R2.out.2 hb1) hb1.size))
  have Q3 := Lib.hid (And.intro (R3.out.1.on_ hb1) (R3.out.2.on_ hb1))
  have B0 := hb0.trans (hb1.mono hb0.size)
  clear c0 c1 k0 k1 R1 R2 R3 R4 HSt hb1
  have heqR := Lib.hid (fun a b c W => eqRn a b c W)
  have heqD := Lib.hid (fun p W => eqDa ((p : Nat) : Int) (V.pg p).byt W)
  go_wp2_with fail
  go_loopw [5] (fun u wr => ∃ i : Nat, i ≤ n1 ∧ u = .int .i64 i ∧ Below w1.heap.size w1 wr) (fun u _ => n1 - (intOf u).toNat)
  case atStart => exact ⟨0, by omega, rfl, Below.refl _ _⟩
  case round =>
    obtain ⟨i, hi, rfl, hB⟩ := hrel
    have kr := k01.out.call hB
    have kq := k11.out.call hB
    have cr := kr.cell
    by_cases hlt : i < n1
    · have hlt' : decide ((i : Int) < (n1 : Int)) = true := by simpa using hlt
      have hin : (i : Int) < (n1 : Int) := by omega
      obtain ⟨b, o, rfl, hb, hc⟩ := (Q1.out.1.on_ hB).elem rnC_len (by omega) rn0 (k := i) (by have := H1.out; omega)
      obtain ⟨b', o', rfl, hb', hc'⟩ := (Q1.out.2.on_ hB).elem rnC_len (by omega) rn0 (k := i) (by have := H1.out; omega)
      generalize (vrunsL V 1024).getD i rn0 = x at *
      obtain ⟨xa, xn, xk⟩ := x
      have x0 := hc 0 _ rfl
      have x1 := hc 1 _ rfl
      have x2 := hc 2 _ rfl
      have y0 := hc' 0 _ rfl
      have y1 := hc' 1 _ rfl
      have y2 := hc' 2 _ rfl
      simp only [Nat.add_zero] at x0 y0
      have e0 := fun z : Ext wr => (z.blk kr).cell
      have e1 := fun z : Ext wr => (z.blk kq).cell
      have a0 := fun z : Ext wr => z.cell x0
      have a1 := fun z : Ext wr => z.cell x1
      have a2 := fun z : Ext wr => z.cell x2
      have b0 := fun z : Ext wr => z.cell y0
      have b1 := fun z : Ext wr => z.cell y1
      have b2 := fun z : Ext wr => z.cell y2
      have hq := fun W => heqR.out xa xn xk W
      clear hc hc' x0 x1 x2 y0 y1 y2
      go_upto_region 6 with fail
      clear cr
      refine region_ext (by kernel_rfl) (by kernel_rfl) ?_
      repeat (go_big_quiet_step (fail))
      refine wpQuiet_nil ?_
      rintro w2 ⟨⟨_, hw2⟩, rfl⟩
      go_wp2_with fail
      go_roundw
      case rel => exact ⟨i + 1, by omega, by go_num, hB.trans (hw2.mono hB.size)⟩
      case measure => simp [intOf]; omega
    · obtain rfl : i = n1 := by omega
      have hlt' : decide ((i : Int) < (i : Int)) = false := by simp
      have hB1 := Lib.hid hB
      clear hB kr kq
      go_wp2_with fail
      clear cr
      go_loopw [6] (fun u wr => ∃ i : Nat, i ≤ n2 ∧ u = .int .i64 i ∧ Below w1.heap.size w1 wr) (fun u _ => n2 - (intOf u).toNat)
      case atStart => exact ⟨0, by omega, rfl, hB1.out⟩
      case round =>
        obtain ⟨j, hj, rfl, hB⟩ := hrel
        have kr := k01.out.call hB
        have kq := k11.out.call hB
        have cr := kr.cell
        by_cases hlt2 : j < n2
        · have hlt2' : decide ((j : Int) < (n2 : Int)) = true := by simpa using hlt2
          have hin : (j : Int) < (n2 : Int) := by omega
          obtain ⟨b, o, rfl, hb, x0⟩ := (RI.more (RI.below Q2.out.1 hB) hB.size).at_ (k := j) (by have := H2.out; omega)
          obtain ⟨b', o', rfl, hb', y0⟩ := (RI.more (RI.below Q2.out.2 hB) hB.size).at_ (k := j) (by have := H2.out; omega)
          generalize (hugL V 1024).getD j 0 = x at *
          have e0 := fun z : Ext wr => (z.blk kr).cell
          have e1 := fun z : Ext wr => (z.blk kq).cell
          have a0 := fun z : Ext wr => z.cell x0
          have b0 := fun z : Ext wr => z.cell y0
          have hq : (x != x) = false := by simp
          clear x0 y0
          go_upto_region 11 with fail
          clear cr
          refine region_ext (by kernel_rfl) (by kernel_rfl) ?_
          repeat (go_big_quiet_step (fail))
          refine wpQuiet_nil ?_
          rintro w2 ⟨⟨_, hw2⟩, rfl⟩
          go_wp2_with fail
          go_roundw
          case rel => exact ⟨j + 1, by omega, by go_num, hB.trans (hw2.mono hB.size)⟩
          case measure => simp [intOf]; omega
        · obtain rfl : j = n2 := by omega
          have hlt2' : decide ((j : Int) < (j : Int)) = false := by simp
          have hB2 := Lib.hid hB
          clear hB kr kq
          go_wp2_with fail
          clear cr
          go_loopw [7] (fun u wr => ∃ i : Nat, i ≤ n3 ∧ u = .int .i64 i ∧ Below w1.heap.size w1 wr) (fun u _ => n3 - (intOf u).toNat)
          case atStart => exact ⟨0, by omega, rfl, hB2.out⟩
          case round =>
            obtain ⟨k, hk, rfl, hB⟩ := hrel
            have kr := k01.out.call hB
            have kq := k11.out.call hB
            have cr := kr.cell
            by_cases hlt3 : k < n3
            · have hlt3' : decide ((k : Int) < (n3 : Int)) = true := by simpa using hlt3
              have hin : (k : Int) < (n3 : Int) := by omega
              obtain ⟨b, o, rfl, hb, hc⟩ := (Q3.out.1.on_ hB).elem (daC_len V) (by omega) 0 (k := k) (by have := H3.out; omega)
              obtain ⟨b', o', rfl, hb', hc'⟩ := (Q3.out.2.on_ hB).elem (daC_len V) (by omega) 0 (k := k) (by have := H3.out; omega)
              generalize (datL V 1024).getD k 0 = p at *
              have hq := heqD.out p
              have hld : ∀ z : Ext wr, (loadVar 76 ⟨b, o + k * 65, none⟩).run Tryz.prog z.w = .ok (.agg (daA (p : Int) (V.pg p).byt)) z.w := fun z => run_loadVar_mid (P := Tryz.prog) z.w b (o + k * 65) 76 (daC V p) _ (fun j v hj => z.cell (hc j v hj)) Tryz.underlying76 rfl infoDaS
              have hld' : ∀ z : Ext wr, (loadVar 76 ⟨b', o' + k * 65, none⟩).run Tryz.prog z.w = .ok (.agg (daA (p : Int) (V.pg p).byt)) z.w := fun z => run_loadVar_mid (P := Tryz.prog) z.w b' (o' + k * 65) 76 (daC V p) _ (fun j v hj => z.cell (hc' j v hj)) Tryz.underlying76 rfl infoDaS
              have e0 := fun z : Ext wr => (z.blk kr).cell
              have e1 := fun z : Ext wr => (z.blk kq).cell
              generalize daA (p : Int) (V.pg p).byt = D at *
              clear hc hc'
              go_upto_region 16 with fail
              clear cr
              refine region_ext (by kernel_rfl) (by kernel_rfl) ?_
              repeat (go_big_quiet_step (fail))
              refine wpQuiet_load' (.tmp 87) 76 ⟨b, o + k * 65, none⟩ (.agg D) rfl rfl rfl (by rintro _ ⟨z, rfl⟩; exact hld z) ?_
              simp only [Act.put, List.setIfInBounds_toArray, List.set_cons_zero, List.set_cons_succ]
              repeat (go_big_quiet_step (fail))
              refine wpQuiet_load' (.tmp 92) 76 ⟨b', o' + k * 65, none⟩ (.agg D) rfl rfl rfl (by rintro _ ⟨z, rfl⟩; exact hld' z) ?_
              simp only [Act.put, List.setIfInBounds_toArray, List.set_cons_zero, List.set_cons_succ]
              repeat (go_big_quiet_step (fail))
              refine wpQuiet_nil ?_
              rintro w2 ⟨⟨_, hw2⟩, rfl⟩
              go_wp2_with fail
              go_roundw
              case rel => exact ⟨k + 1, by omega, by go_num, hB.trans (hw2.mono hB.size)⟩
              case measure => simp [intOf]; omega
            · obtain rfl : k = n3 := by omega
              have hlt3' : decide ((k : Int) < (k : Int)) = false := by simp
              go_wp2_with fail
              go_ret
              exact ⟨rfl, B0.trans (hB.mono B0.size)⟩
end Go.Proofs.YtdepkmpilipolaaGreat
