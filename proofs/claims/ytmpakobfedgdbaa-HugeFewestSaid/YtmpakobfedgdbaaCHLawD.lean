/- The law HugeFewest: Choose chooses so many idle pages, and no other choice of as many touches fewer huge groups, or as many with fewer live pages (of states with at most 520 spans each and 70 huge groups, and lists of at most 1024 numbers), and the examples of the document hold. -/
import Derived.Test.YtmpakobfedgdbaaC7
namespace Go.Pol
open Go Go.RowKit Go.ChangeShapes Go.WideShapes Go.Deep
/-- how many pages are marked -/
def cntM (B : Nat → Bool) : Nat := ((List.range 1024).filter B).length
theorem cntM_none : cntM (fun _ => false) = 0 := by
  unfold cntM
  rw [List.length_eq_zero_iff, List.filter_eq_nil_iff]
  simp
theorem cntM_set {B : Nat → Bool} {p : Nat} (hp : p < 1024) (hB : B p = false) : cntM (upd B p true) = cntM B + 1 := by
  have h : ((List.range 1024).filter (upd B p true)).Perm (p :: (List.range 1024).filter B) := by
    refine (List.perm_ext_iff_of_nodup (List.nodup_range.filter _) (List.nodup_cons.2 ⟨fun h => ?_, List.nodup_range.filter _⟩)).2 fun x => ?_
    · have := (List.mem_filter.1 h).2
      rw [hB] at this; cases this
    · rw [List.mem_cons, List.mem_filter, List.mem_filter, List.mem_range]
      unfold upd
      by_cases e : x = p
      · subst e; simp [hp]
      · rw [if_neg e]; simp [e]
  unfold cntM
  rw [h.length_eq, List.length_cons]
theorem Rd.on {w w' : World} {A : Option Addr} {xs : List Value} (h : Rd w w.heap.size A xs) (hb : Below w.heap.size w w') : Rd w' w'.heap.size A xs := (h.below hb).more hb.size
theorem Rd.at16 {w : World} {B : Nat} {A : Option Addr} {xs : List Int} (h : Rd w B A (xs.map (Value.int .u16))) {k : Nat} (hk : k < xs.length) :
    ∃ b o, A = some ⟨b, o, none⟩ ∧ b < B ∧ w.cell? ⟨b, o + k, none⟩ = some (.int .u16 (xs.getD k 0)) := by
  obtain ⟨b, o, e, hb, hc⟩ := h k (by simpa using hk)
  refine ⟨b, o, e, hb, hc.trans ?_⟩
  simp [List.getD_eq_getElem?_getD, hk]
/-- a slice of small numbers that came in reads as a list -/
theorem openU16 {H : Type} {enc : TypeId × Value → H} {P : Program} {w : World} {base : Nat} {held : Bool} {t e : TypeId} {fuel : Nat} {v : Value} {x : Go.DataW H × List Go.MemPlace} (ht : P.underlying t = some (.slice e)) (he : P.underlying e = some (.int .u16)) (hc : P.cellsOf e = 1)
    (h : DataW.trod enc P w base (fun _ => true) held fuel t [v] = some x) : ∃ (A : Option Addr) (n cap : Nat) (xs : List Int), v = .slice A n cap ∧ xs.length = n ∧ n ≤ maxLen ∧ Rd w w.heap.size A (xs.map (Value.int .u16)) ∧ ∀ x ∈ xs, 0 ≤ x ∧ x < 65536 := by
  rcases Go.ChangeShapes.open_ints ht he hc h with ⟨hcs, _⟩ | ⟨a, len, cap, zs, hcs, _, hl, hm, hz, _, hcell, hwf⟩
  · simp only [List.cons.injEq, and_true] at hcs
    exact ⟨none, 0, 0, [], hcs, rfl, by unfold maxLen; omega, Rd.nil, by simp⟩
  · simp only [List.cons.injEq, and_true] at hcs
    simp only [if_true] at hz
    refine ⟨some a, len, cap, zs.take len, hcs, by simp; omega, by omega, ?_, fun x hx => by
      have := hwf x (List.mem_of_mem_take hx)
      unfold Lit.wf at this
      rw [Bool.and_eq_true, decide_eq_true_eq, decide_eq_true_eq] at this
      have e1 : IntKind.u16.min = 0 := by decide
      have e2 : IntKind.u16.max = 65535 := by decide
      omega⟩
    intro k hk
    have hk' : k < len := by simp at hk; omega
    have h1 := hcell k (by omega)
    obtain ⟨b, off, spot⟩ := a
    have hspot : spot = none := by simpa [Addr.add] using World.cell?_spot (hcell 0 (by omega))
    subst hspot
    rw [add_plain] at h1
    refine ⟨b, off, rfl, World.block_lt_of_cell? _ _ h1, ?_⟩
    rw [h1]
    simp [List.getD_eq_getElem?_getD, show k < zs.length by omega]
/-- a load whose value is known -/
theorem exec_load {P : Program} {a : Act} {o : Oper} {x : Operand} {ty : TypeId} {p : Addr} {v : Value} {w : World} (h : o.op = .load ty x) (hx : a.eval x = .pointer (some p)) (hl : (loadVar ty p).run P w = .ok v w) : (execOp a.eval o).run P w = .ok (.value v) w := by
  unfold execOp
  simp only [h]
  simp [hx, Instr.loadAt, Instr.sureAddr, Result.andThen, hl]
def FewS (bx : Nat) (v1 v2 v3 : Value) (bm : Nat) (ds : Array Value) (W : World) : Prop := W.cell? ⟨bx, 0, none⟩ = some v1 ∧ W.cell? ⟨bx, 1, none⟩ = some v2 ∧ W.cell? ⟨bx, 2, none⟩ = some v3 ∧ Blk W bm 39 ds
end Go.Pol
namespace Go.Proofs.Ytmpakobfedgdbaa
open Go Go.Proofs Go.RowKit Go.Pol Go.ChangeShapes Go.WideShapes Go.Deep
attribute [local go_sem] Oper.semAt_some Go.Pol.wide_fn Go.Pol.wide_depth Go.Pol.wide_fn' Go.Pol.wide_depth'

theorem ascH (C L : List Sp) (H : List Int) : AscX ((gsH C L H).filter hugeP) := by
  unfold AscX
  refine List.Pairwise.filter _ ?_
  rw [gsH_map, List.pairwise_map]
  exact grps_lt
theorem gsH_len64 (C L : List Sp) (H : List Int) : ((gsH C L H).filter hugeP).length ≤ 64 := by
  refine Nat.le_trans (List.length_filter_le _ _) ?_
  rw [gsH_map, List.length_map]
  exact Nat.le_of_eq (by decide)
/-- Choose, whatever the number of huge groups -/
theorem chooseOrd_any (C L : List Sp) (H : List Int) : ∃ ord, OrdOk C L H ord ∧ ∀ (S : Value) (n : Int) (w : World), StIs w S C L H → Calls Try.prog 13 #[S, .int .i64 n] w (SpE (chooseA C L H n ord) w) := by
  have ho := ord_ok (C := C) (L := L) (H := H)
  refine ⟨_, ho, fun S n w hS => ?_⟩
  exact choose_any S C L H n _ w hS (sortsTo_ord _ _ (ascH C L H) ho.1 (ho.2.imp fun h => leX_iff.2 h) (by have := gsH_len64 C L H; omega)) ho.1
set_option maxRecDepth 100000 in
set_option maxHeartbeats 3200000 in
theorem fewestLaw_any (A1 A2 A3 A4 : Option Addr) (n1 c1 n2 c2 n3 c3 n4 c4 : Nat) (C L : List Sp) (H vs : List Int) (n : Int) (w : World) (h1 : C.length = n1) (h2 : n1 ≤ maxLen) (h3 : RU w w.heap.size A1 C)
    (h4 : L.length = n2) (h5 : n2 ≤ maxLen) (h6 : RU w w.heap.size A2 L) (h7 : H.length = n3) (h8 : n3 ≤ maxLen) (h9 : RI w w.heap.size A3 H)
    (h10 : vs.length = n4) (h12 : Rd w w.heap.size A4 (vs.map (Value.int .u16))) (h13 : ∀ x ∈ vs, 0 ≤ x ∧ x < 65536) :
    Calls Try.prog 5 #[.agg #[.slice A1 n1 c1, .slice A2 n2 c2, .slice A3 n3 c3], .int .i64 n, .slice A4 n4 c4] w fun e w' => e = .returned (.bool true) ∧ Below w.heap.size w w' := by
  have hst : StIs w (.agg #[.slice A1 n1 c1, .slice A2 n2 c2, .slice A3 n3 c3]) C L H := ⟨A1, A2, A3, n1, c1, n2, c2, n3, c3, rfl, h1, h2, h3, h4, h5, h6, h7, h8, h9⟩
  have hb0 := (Below.refl w.heap.size w).alloc (Nat.le_refl _) (.cells #[.slice A1 n1 c1, .slice A2 n2 c2, .slice A3 n3 c3] 25)
  have k0 := Blk.new w 25 #[.slice A1 n1 c1, .slice A2 n2 c2, .slice A3 n3 c3]
  have s0 := hst.on hb0
  have c0 := k0.cell
  have p1 := h3.on hb0
  have p2 := h6.on hb0
  have p4 := h12.on hb0
  have HF := Lib.hid (fun W => far13_any A1 A2 A3 n1 c1 n2 c2 n3 c3 70 W)
  have T0 := Lib.hid (fun W (h : StIs W (.agg #[.slice A1 n1 c1, .slice A2 n2 c2, .slice A3 n3 c3]) C L H) => rcheck13_any _ C L H W h)
  have h1' := Lib.hid h1
  have h4' := Lib.hid h4
  have h10' := Lib.hid h10
  have h13' := Lib.hid h13
  have h2' := Lib.hid h2
  have h5' := Lib.hid h5
  obtain ⟨er, her⟩ : ∃ er, chkH C L H = er := ⟨_, rfl⟩
  rw [her] at T0
  have her' := Lib.hid her
  clear hst h1 h2 h3 h4 h5 h6 h7 h8 h9 h10 h12 h13 her
  cases hfar : farP n1 n2 n3 70 with
  | true =>
    rw [hfar] at HF
    clear T0 hfar
    go_enter Try.func5, Try.ntmps5
    go_wp2_with fail
    refine (HF.out _).mono ?_
    rintro e w1 ⟨rfl, hb1⟩
    have B1 := hb0.trans (hb1.mono hb0.size)
    go_wp2_with fail
    refine (awake13_any _).mono ?_
    rintro e w2 ⟨rfl, hb2⟩
    go_wp2_with fail
    go_ret
    exact ⟨rfl, B1.trans (hb2.mono B1.size)⟩
  | false =>
    rw [hfar] at HF
    clear hfar
    by_cases hl : 1024 < n4
    · have hl' : decide (1024 < (n4 : Int)) = true := by rw [decide_eq_true_eq]; omega
      clear T0 hl
      go_enter Try.func5, Try.ntmps5
      go_wp2_with fail
      refine (HF.out _).mono ?_
      rintro e w1 ⟨rfl, hb1⟩
      have B1 := hb0.trans (hb1.mono hb0.size)
      go_wp2_with fail
      refine (awake13_any _).mono ?_
      rintro e w2 ⟨rfl, hb2⟩
      go_wp2_with fail
      go_ret
      exact ⟨rfl, B1.trans (hb2.mono B1.size)⟩
    · have hl' : decide (1024 < (n4 : Int)) = false := by rw [decide_eq_false_iff_not]; omega
      have hn4 : n4 ≤ 1024 := by omega
      clear hl
      by_cases h0 : er = 0
      case neg =>
        have h0' : (er != 0) = true := by simpa using h0
        clear h0
        go_enter Try.func5, Try.ntmps5
        go_wp2_with fail
        refine (HF.out _).mono ?_
        rintro e w1 ⟨rfl, hb1⟩
        have s1 := s0.on hb1
        have c1 := (k0.call hb1).cell
        have B1 := hb0.trans (hb1.mono hb0.size)
        go_wp2_with fail
        refine (T0.out _ s1).mono ?_
        rintro e w2 ⟨rfl, hb2⟩
        have B2 := B1.trans (hb2.mono B1.size)
        go_wp2_with fail
        refine (awake13_any _).mono ?_
        rintro e w3 ⟨rfl, hb3⟩
        go_wp2_with fail
        go_ret
        exact ⟨rfl, B2.trans (hb3.mono B2.size)⟩
      case pos =>
        subst h0
        have hz := her'.out
        obtain ⟨canC, canL, hin, _, _⟩ := chkH_zero.1 hz
        obtain ⟨hc2, canI⟩ := idle_can canC canL
        obtain ⟨ord, ho, TC⟩ := chooseOrd_any C L H
        have hFew := fewest_law n ord hz ho
        have TMi := Lib.hid (fun W r1 r2 => rMinus_any A1 A2 n1 c1 n2 c2 C L W h1'.out h2'.out r1 h4'.out h5'.out r2)
        rw [hc2] at TMi
        have hiI := idle_setA canC canL
        have hmI : ∀ p : Nat, p < 1024 → mem (p : Int) (combF 3 C L) = idlP C L p := fun p hp => by rw [hiI]; exact mem_setA' _ hp
        have h64 := huge_len hz
        have TC' := Lib.hid (fun W (h : StIs W (.agg #[.slice A1 n1 c1, .slice A2 n2 c2, .slice A3 n3 c3]) C L H) => TC _ n W h)
        unfold FewOk at hFew
        generalize combF 3 C L = I at *
        generalize chooseA C L H n ord = G at *
        obtain ⟨gl, ge⟩ := G
        have hFew' := Lib.hid hFew
        have hI := Lib.hid (And.intro canI hmI)
        have hcst := Lib.hid (And.intro canL (And.intro hin h64))
        clear hFew TC ho hc2 canI hmI hiI canL canC hin h64 hz her'
        unfold SpE at TC'
        simp only at TC'
        obtain ⟨il, hil⟩ : ∃ il, I.length = il := ⟨_, rfl⟩
        obtain ⟨ml, hml⟩ : ∃ ml, gl.length = ml := ⟨_, rfl⟩
        simp only [hml] at TC'
        have hil' := Lib.hid hil
        have hml' := Lib.hid hml
        have hil5 : il ≤ 512 := by have := hI.out.1.len; omega
        clear hml
        go_enter Try.func5, Try.ntmps5
        go_wp2_with fail
        refine (HF.out _).mono ?_
        rintro e w1 ⟨rfl, hb1⟩
        have s1 := s0.on hb1
        have k1 := k0.call hb1
        have c1 := k1.cell
        have q1 := p1.on hb1
        have q2 := p2.on hb1
        have q4 := p4.on hb1
        have B1 := hb0.trans (hb1.mono hb0.size)
        clear hb0 k0 c0 s0 p1 p2 p4 hb1 HF
        go_wp2_with fail
        refine (T0.out _ s1).mono ?_
        rintro e w2 ⟨rfl, hb2⟩
        have s2 := s1.on hb2
        have k2 := k1.call hb2
        have c2 := k2.cell
        have r1 := q1.on hb2
        have r2 := q2.on hb2
        have r4 := q4.on hb2
        have B2 := B1.trans (hb2.mono B1.size)
        clear B1 k1 c1 s1 q1 q2 q4 hb2 T0
        go_wp2_with fail
        refine (TMi.out _ r1 r2).mono ?_
        rintro e w3 ⟨Ai, ci, rfl, ui, m1, m2, m3, hb3⟩
        have s3 := s2.on hb3
        have k3 := k2.call hb3
        have t4 := r4.on hb3
        have B3 := B2.trans (hb3.mono B2.size)
        rw [hil]
        rw [hil] at m1
        have TMk := Lib.hid (marks_any Ai il ci I w3 hil (by omega) ui hI.out.1.1)
        clear B2 k2 c2 s2 r1 r2 r4 hb3 TMi hil
        go_wp2_with fail
        refine TMk.out.mono ?_
        rintro e w4 ⟨cs, rfl, hM0, hb4⟩
        have hM : MarksAre cs (idlP C L) := ⟨hM0.size, fun p hp => by rw [hM0.at_ p hp, hI.out.2 p hp]⟩
        have s4 := s3.on hb4
        have k4 := k3.call hb4
        have i4 := ui.on hb4
        have o4 := t4.on hb4
        have B4 := B3.trans (hb4.mono B3.size)
        clear B3 k3 s3 ui t4 hb4 TMk hM0
        have hZ := zeros_are
        obtain ⟨g, hg⟩ : ∃ g, w4.heap.size = g := ⟨_, rfl⟩
        have kA : Blk (w4.alloc (.cells Try.zeroCells39 39)) g 39 Try.zeroCells39 := by rw [← hg]; exact Blk.new _ _ _
        have hbA : Below g w4 (w4.alloc (.cells Try.zeroCells39 39)) := by rw [← hg]; exact (Below.refl w4.heap.size w4).alloc (Nat.le_refl _) _
        have hzs := hZ.size
        have hs1 := hM.size
        have ho1 := hM.one
        have ht1 := blk_there kA
        rw [hzs] at ht1
        go_upto_region 5 with (refine wpList_store_mid rfl 39 (.tmp 9) (.tmp 48) rfl g 0 cs rfl rfl (by rw [hs1]; exact ht1) (by rw [hs1]; kernel_rfl) ho1 ?_)
        have hg1 := World.rangeAt_setCells_same (w4.alloc (.cells Try.zeroCells39 39)) g 0 cs.toList (by rw [Array.length_toList, hs1]; exact ht1)
        have hb5 := below_setCells g (Nat.le_refl _) cs.toList 0 _ hbA
        generalize (w4.alloc (.cells Try.zeroCells39 39)).setCells g 0 cs.toList = w5 at *
        have hc1 : ∀ p : Nat, p < 1024 → w5.cell? ⟨g, p, none⟩ = some (.bool (idlP C L p)) := fun p hp => by
          have h := hg1 p (.bool (idlP C L p)) (by rw [Array.getElem?_toList, hM.at_ p hp])
          rw [Nat.zero_add] at h
          exact h
        have hg5 : g < w5.heap.size := World.block_lt_of_cell? _ _ (hc1 0 (by omega))
        rw [← hg] at hb5
        have s5 := s4.on hb5
        have k5 := k4.call hb5
        have c5 := k5.cell
        have i5 := i4.on hb5
        have o5 := o4.on hb5
        have B5 := B4.trans (hb5.mono B4.size)
        have hc1' := Lib.hid hc1
        clear B4 k4 s4 i4 o4 hb5 kA hbA hzs hs1 ho1 ht1 hg1 hc1 hM hg
        go_wp2_with fail
        refine (TC'.out _ s5).mono ?_
        rintro e w6 ⟨Ag, cg, rfl, ug, m4, m5, hb6⟩
        have s6 := s5.on hb6
        have k6 := k5.call hb6
        have c6 := k6.cell
        have i6 := i5.on hb6
        have o6 := o5.on hb6
        have B6 := B5.trans (hb6.mono B5.size)
        have hg6 : g < w6.heap.size := by have := hb6.size; omega
        have hc6 := Lib.hid (fun (p : Nat) (hp : p < 1024) => (hb6.cell (p := ⟨g, p, none⟩) hg5).trans (hc1'.out p hp))
        clear B5 k5 c5 s5 i5 o5 hb6 hc1' hg5 TC'
        have TN := rCount_any Ai il ci I w6 hil'.out (by unfold maxLen; omega) i6
        rw [chkS_zero.2 hI.out.1, if_pos rfl] at TN
        rcases hFew'.out with ⟨hge, hgl, hcases⟩ | ⟨hge, hn0, hn1, hcanG, hsum, hc2G, hcomb, hbest⟩
        · try simp only at hge hgl hcases
          subst hgl
          have hml2 := hml'.out
          simp only [List.length_nil] at hml2
          subst hml2
          generalize sumS I = sI at *
          have TN' := Lib.hid TN
          clear TN hFew' hml' hcst hI hc6
          rcases hcases with ⟨rfl, hn⟩ | ⟨rfl, hn0, hn1, hlt⟩
          · by_cases hneg : n < 0
            · have hd1 : decide (n < 0) = true := by simpa using hneg
              go_wp2_with fail
              refine TN'.out.mono ?_
              rintro e w7 ⟨rfl, hb7⟩
              have B7 := B6.trans (hb7.mono B6.size)
              go_wp2_with fail
              refine (awake13_any _).mono ?_
              rintro e w8 ⟨rfl, hb8⟩
              go_wp2_with fail
              go_ret
              exact ⟨rfl, B7.trans (hb8.mono B7.size)⟩
            · have hd1 : decide (n < 0) = false := by simpa using hneg
              have hd2 : decide (1024 < n) = true := by rw [decide_eq_true_eq]; omega
              go_wp2_with fail
              refine TN'.out.mono ?_
              rintro e w7 ⟨rfl, hb7⟩
              have B7 := B6.trans (hb7.mono B6.size)
              go_wp2_with fail
              refine (awake13_any _).mono ?_
              rintro e w8 ⟨rfl, hb8⟩
              go_wp2_with fail
              go_ret
              exact ⟨rfl, B7.trans (hb8.mono B7.size)⟩
          · have hd1 : decide (n < 0) = false := by rw [decide_eq_false_iff_not]; omega
            have hd2 : decide (sI < n) = true := by simpa using hlt
            have hd3 : decide (1024 < n) = false := by rw [decide_eq_false_iff_not]; omega
            go_wp2_with fail
            refine TN'.out.mono ?_
            rintro e w7 ⟨rfl, hb7⟩
            have B7 := B6.trans (hb7.mono B6.size)
            go_wp2_with fail
            refine (awake13_any _).mono ?_
            rintro e w8 ⟨rfl, hb8⟩
            go_wp2_with fail
            go_ret
            exact ⟨rfl, B7.trans (hb8.mono B7.size)⟩
        · try simp only at hge hcanG hsum hc2G hcomb hbest
          subst hge
          obtain ⟨nn, rfl⟩ : ∃ nn : Nat, n = (nn : Int) := ⟨n.toNat, by omega⟩
          clear TN hFew' hn0
          have TN := rCount_any Ag ml cg gl w6 hml'.out (Nat.le_trans m4 m5) ug
          rw [chkS_zero.2 hcanG, if_pos rfl, hsum] at TN
          have TN' := Lib.hid TN
          have hG := Lib.hid (And.intro hcanG (And.intro hc2G (And.intro hcomb hbest)))
          clear TN hcanG hsum hc2G hcomb hbest
          go_wp2_with fail
          refine TN'.out.mono ?_
          rintro e w7 ⟨rfl, hb7⟩
          have s7 := s6.on hb7
          have k7 := k6.call hb7
          have i7 := i6.on hb7
          have o7 := o6.on hb7
          have u7 := ug.on hb7
          have B7 := B6.trans (hb7.mono B6.size)
          have hg7 : g < w7.heap.size := by have := hb7.size; omega
          have hc7 := Lib.hid (fun (p : Nat) (hp : p < 1024) => (hb7.cell (p := ⟨g, p, none⟩) hg6).trans (hc6.out p hp))
          clear B6 k6 c6 s6 i6 o6 ug hb7 hc6 hg6 TN'
          have TD := rMinus_any Ag Ai ml cg il ci gl I w7 hml'.out (Nat.le_trans m4 m5) u7 hil'.out (by unfold maxLen; omega) i7
          rw [hG.out.2.2.1, hG.out.2.1] at TD
          have TD' := Lib.hid TD
          clear TD
          go_wp2_with fail
          refine TD'.out.mono ?_
          rintro e w8 ⟨Ad, cd, rfl, ud, md1, md2, md3, hb8⟩
          have s8 := s7.on hb8
          have k8 := k7.call hb8
          have o8 := o7.on hb8
          have u8 := u7.on hb8
          have B8 := B7.trans (hb8.mono B7.size)
          have hg8 : g < w8.heap.size := by have := hb8.size; omega
          have hc8 := Lib.hid (fun (p : Nat) (hp : p < 1024) => (hb8.cell (p := ⟨g, p, none⟩) hg7).trans (hc7.out p hp))
          clear B7 k7 s7 i7 o7 u7 hb8 hc7 hg7 TD' ud md1 md2 md3
          have hnn : ((nn : Int) != (nn : Int)) = false := by simp
          go_upto_region 14 with fail
          have kM := Blk.new w8 39 Try.zeroCells39
          have hb9 := (Below.refl w8.heap.size w8).alloc (Nat.le_refl _) (.cells Try.zeroCells39 39)
          generalize w8.alloc (.cells Try.zeroCells39 39) = w9 at *
          generalize Try.zeroCells39 = Z at *
          obtain ⟨bm, hbm⟩ : ∃ bm, w8.heap.size = bm := ⟨_, rfl⟩
          have hbm' := Lib.hid hbm
          rw [hbm] at hb9 kM hg8
          try simp only [hbm]
          have o8' : Rd w8 bm A4 (vs.map (Value.int .u16)) := by rw [← hbm]; exact o8
          clear hbm o8
          go_wp2_with fail
          go_loopw [19, 20] (fun u v wr => ∃ (many i : Nat) (B : Nat → Bool) (ds : Array Value), i ≤ n4 ∧ many ≤ nn ∧ u = .int .i64 many ∧ v = .int .i64 i ∧ Blk wr bm 39 ds ∧ Hid (MarksAre ds B) ∧ Hid (∀ p, p < 1024 → B p = true → idlP C L p = true) ∧ Hid (cntM B = many) ∧ Below bm w8 wr) (fun _ v _ => n4 - (intOf v).toNat)
          case atStart => exact ⟨0, 0, fun _ => false, Z, by omega, by omega, rfl, rfl, kM, Lib.hid hZ, Lib.hid (fun _ _ h => by cases h), Lib.hid cntM_none, hb9⟩
          case round =>
            clear kM hb9 hZ
            obtain ⟨many, i, B, ds, hi, hmn, rfl, rfl, kM, hMB, hBi, hcnt, hB⟩ := hrel
            go_upto_region 16 with fail
            go_cut [120] (fun s wx => s = .bool (decide (i < n4 ∧ many < nn)) ∧ wx = wr)
            case first =>
              by_cases hp1 : i < n4
              · have hp2 := hp1
                rw [← Int.ofNat_lt] at hp2
                have hp3 := decide_eq_true hp2
                by_cases hq1 : many < nn
                · have hd : decide (i < n4 ∧ many < nn) = true := by simpa using And.intro hp1 hq1
                  have hq2 := hq1
                  rw [← Int.ofNat_lt] at hq2
                  have hq3 := decide_eq_true hq2
                  go_wp2_with fail
                  go_meet
                  case rel => exact ⟨by rw [hd], rfl⟩
                · have hd : decide (i < n4 ∧ many < nn) = false := by simpa using fun _ => Nat.le_of_not_lt hq1
                  have hq2 := hq1
                  rw [← Int.ofNat_lt] at hq2
                  have hq3 := decide_eq_false hq2
                  go_wp2_with fail
                  go_meet
                  case rel => exact ⟨by rw [hd], rfl⟩
              · have hd : decide (i < n4 ∧ many < nn) = false := by simpa using fun h => absurd h hp1
                have hp2 := hp1
                rw [← Int.ofNat_lt] at hp2
                have hp3 := decide_eq_false hp2
                go_wp2_with fail
                go_meet
                case rel => exact ⟨by rw [hd], rfl⟩
            case rest =>
              obtain ⟨rfl, hwc⟩ := hcut
              have hwc' := hwc.symm
              clear hwc
              subst hwc'
              by_cases hgo : i < n4 ∧ many < nn
              · have hd : decide (i < n4 ∧ many < nn) = true := by simpa using hgo
                simp only [hd]
                obtain ⟨b, o, rfl, hbl, hc⟩ := (o8'.below hB).at16 (k := i) (by have := h10'.out; omega)
                have hx := h13'.out _ (getD_memI (bs := vs) (k := i) (by have := h10'.out; omega))
                generalize vs.getD i 0 = x at *
                obtain ⟨xn, rfl⟩ : ∃ xn : Nat, x = (xn : Int) := ⟨x.toNat, by omega⟩
                have hw1 : IntKind.i64.wrap (xn : Int) = (xn : Int) := by rw [IntKind.wrap_i64]; omega
                obtain ⟨p, hp⟩ : ∃ p, xn % 1024 = p := ⟨_, rfl⟩
                have hpl : p < 1024 := by omega
                have hw2 : Int.tmod (xn : Int) 1024 = (p : Int) := by rw [Int.tmod_eq_emod_of_nonneg (by omega)]; omega
                have hin4 : (i : Int) < (n4 : Int) := by omega
                have x1 := (hB.cell (p := ⟨g, p, none⟩) hg8).trans (hc8.out p hpl)
                have x2 := (kM.cell p).trans (hMB.out.at_ p hpl)
                have fM := kM.frozen
                cases hv1 : idlP C L p with
                | false =>
                  rw [hv1] at x1
                  clear hp hd
                  go_wp2_with fail
                  go_roundw
                  case rel => exact ⟨many, i + 1, B, ds, by omega, hmn, rfl, by go_num, kM, hMB, hBi, hcnt, hB⟩
                  case measure => simp [intOf]; omega
                | true =>
                  rw [hv1] at x1
                  cases hv2 : B p with
                  | true =>
                    rw [hv2] at x2
                    clear hp hd
                    go_wp2_with fail
                    go_roundw
                    case rel => exact ⟨many, i + 1, B, ds, by omega, hmn, rfl, by go_num, kM, hMB, hBi, hcnt, hB⟩
                    case measure => simp [intOf]; omega
                  | false =>
                    rw [hv2] at x2
                    have hst := Lib.hid (hMB.out.set (g := upd B p true) p hpl true (by simp [upd]) (fun q hq => by simp [upd, hq]))
                    have hBi2 := Lib.hid (show ∀ q, q < 1024 → upd B p true q = true → idlP C L q = true from fun q hq hu => by
                      unfold upd at hu
                      by_cases e : q = p
                      · rw [e]; exact hv1
                      · rw [if_neg e] at hu; exact hBi.out q hq hu)
                    have hcnt2 : Hid (cntM (upd B p true) = many + 1) := Lib.hid (by rw [cntM_set hpl hv2, hcnt.out])
                    clear hp hd hv2 hv1
                    go_wp2_with fail
                    go_roundw
                    case rel => exact ⟨many + 1, i + 1, _, _, by omega, by omega, by go_num, by go_num, kM.set_ _ _, hst, hBi2, hcnt2, hB.setCell (p := ⟨bm, p, none⟩) (by simp) _⟩
                    case measure => simp [intOf]; omega
              · have hd : decide (i < n4 ∧ many < nn) = false := by simpa using hgo
                simp only [hd]
                have B9 := B8.trans (hB.mono (by have := hbm'.out; have := B8.size; omega))
                by_cases hlt : many < nn
                · have hlt' : decide ((many : Int) < (nn : Int)) = true := by simpa using hlt
                  clear hgo hd
                  go_wp2_with fail
                  refine (awake13_any _).mono ?_
                  rintro e w10 ⟨rfl, hb10⟩
                  go_wp2_with fail
                  go_ret
                  exact ⟨rfl, B9.trans (hb10.mono B9.size)⟩
                · obtain rfl : many = nn := by omega
                  have hlt' : decide ((many : Int) < (many : Int)) = false := by simp
                  clear hgo hd
                  have hB' : Below w8.heap.size w8 wr := by rw [hbm'.out]; exact hB
                  have s9 := s8.on hB'
                  have k9 := k8.call hB'
                  have c9 := k9.cell
                  have u9 := u8.on hB'
                  have hbst := hG.out.2.2.2 B hBi.out (by have := hcnt.out; unfold cntM at this; rw [this])
                  have HC1 := cost13_any _ C L H Ag ml cg gl wr s9 hcst.out.1 hcst.out.2.1 hcst.out.2.2 hml'.out (Nat.le_trans m4 m5) u9 hG.out.1
                  have HSet := fun W => refSet_any ds B W hMB.out
                  have HC2 := fun (A : Option Addr) (n cap : Nat) W (h : StIs W (.agg #[.slice A1 n1 c1, .slice A2 n2 c2, .slice A3 n3 c3]) C L H) (hn : (setA B).length = n) hm hr => cost13_any _ C L H A n cap (setA B) W h hcst.out.1 hcst.out.2.1 hcst.out.2.2 hn hm hr (setA_can B)
                  generalize liveS L (touchF gl H) = xa at *
                  generalize (touchF gl H).length = na at *
                  generalize liveS L (touchF (setA B) H) = xb at *
                  generalize (touchF (setA B) H).length = nb at *
                  have hbst' := Lib.hid hbst
                  have HC1' := Lib.hid HC1
                  have HSet' := Lib.hid HSet
                  have HC2' := Lib.hid HC2
                  have hlenM : (Try.prog.info? 39).map (·.size) = some ds.toList.length := by rw [Array.length_toList, hMB.out.size]; kernel_rfl
                  have hlenM' := Lib.hid hlenM
                  clear hbst HC1 HSet HC2 k8 s8 u8 B8 hc8 hg8 hB hBi hcnt hG hcst hI hlt hMB u9 o8' hlenM
                  generalize setA B = SB at *
                  go_wp2_with fail
                  refine HC1'.out.mono ?_
                  rintro e w10 ⟨rfl, hb10⟩
                  have s10 := s9.on hb10
                  have k10 := k9.call hb10
                  have kM10 := kM.call hb10
                  have B10 := B9.trans (hb10.mono B9.size)
                  clear s9 k9 c9 kM B9 hb10 HC1'
                  go_upto_region 25 with fail
                  obtain ⟨bx, hbx⟩ : ∃ bx, w.heap.size = bx := ⟨_, rfl⟩
                  rw [hbx] at k10
                  try simp only [hbx]
                  have hbx' := Lib.hid hbx
                  clear hbx
                  refine wp_noPanic ?_
                  refine wp_region_T (FewS bx (.slice A1 n1 c1) (.slice A2 n2 c2) (.slice A3 n3 c3) bm ds) [] (by kernel_rfl) ?_
                  have hbd : Below w10.heap.size w10 w10.drew := (Below.refl _ _).drew
                  have k11 := k10.call hbd
                  have kM11 := kM10.call hbd
                  have s11 := s10.on hbd
                  have B11 := B10.trans (hbd.mono B10.size)
                  generalize w10.drew = w11 at *
                  clear k10 s10 kM10 B10 hbd
                  have hS : FewS bx (.slice A1 n1 c1) (.slice A2 n2 c2) (.slice A3 n3 c3) bm ds w11 := ⟨k11.cell 0, k11.cell 1, k11.cell 2, kM11⟩
                  refine' wpAnyT_take (i := 0) (v := _) ?hiT0 (by kernel_rfl) ?hQT0 (Or.inl ⟨?hwT0, ?hyT0⟩) hS ?reT0
                  case hiT0 => (simp only [List.getElem?_toArray, List.getElem?_cons_zero]; rfl)
                  case hQT0 => exact fun _ _ _ h => h
                  case hwT0 => rfl
                  case hyT0 => (intro wS hSw; obtain ⟨_, _, _, _⟩ := hSw; go_simp; (try with_reducible rfl))
                  try simp only [Act.put, List.setIfInBounds_toArray, List.set_cons_zero, List.set_cons_succ]
                  refine' wpAnyT_take (i := 1) (v := .agg ds) ?hiT1 (by kernel_rfl) ?hQT1 (Or.inl ⟨?hwT1, ?hyT1⟩) hS ?reT1
                  case hiT1 => (simp only [List.getElem?_toArray, List.getElem?_cons_succ, List.getElem?_cons_zero]; rfl)
                  case hQT1 => exact fun _ _ _ h => h
                  case hwT1 => rfl
                  case hyT1 =>
                    intro wS hSw
                    obtain ⟨_, _, _, hbk⟩ := hSw
                    have hld := run_loadVar_mid (P := Try.prog) wS bm 0 39 ds.toList _ (rangeAt_blk hbk) Try.underlying39 rfl hlenM'.out
                    rw [Array.toArray_toList] at hld
                    exact exec_load (x := .tmp 18) rfl rfl hld
                  try simp only [Act.put, List.setIfInBounds_toArray, List.set_cons_zero, List.set_cons_succ]
                  refine wpAnyT_ready (rs := [2]) (by kernel_rfl) (by simp) ?_
                  refine' AllReadyT.cons ?hi2 (fun K hK => ?st2) AllReadyT.nil
                  case hi2 => (simp only [List.getElem?_toArray, List.getElem?_cons_succ, List.getElem?_cons_zero]; rfl)
                  go_simp
                  refine (HSet'.out _).mono ?_
                  rintro e w12 ⟨As, cs9, rfl, us, v5, v6, _, hb12⟩
                  have k12 := k11.call hb12
                  have kM12 := kM11.call hb12
                  have s12 := s11.on hb12
                  have B12 := B11.trans (hb12.mono B11.size)
                  refine hK.out _ _ (fun _ => ⟨k12.cell 0, k12.cell 1, k12.cell 2, kM12⟩) (fun hS => ?_)
                  clear hK K hb12 k11 kM11 s11 B11 HSet'
                  replace hS := hS rfl
                  try simp only [Act.put, List.setIfInBounds_toArray, List.set_cons_zero, List.set_cons_succ]
                  have HC3 := Lib.hid (HC2'.out As SB.length cs9 w12 s12 rfl (Nat.le_trans v5 v6) us)
                  generalize SB.length = sbl at *
                  refine wpAnyT_ready (rs := [3]) (by kernel_rfl) (by simp) ?_
                  refine' AllReadyT.cons ?hi3 (fun K hK => ?st3) AllReadyT.nil
                  case hi3 => (simp only [List.getElem?_toArray, List.getElem?_cons_succ, List.getElem?_cons_zero]; rfl)
                  go_simp
                  refine HC3.out.mono ?_
                  rintro e w13 ⟨rfl, hb13⟩
                  have k13 := k12.call hb13
                  have kM13 := kM12.call hb13
                  have B13 := B12.trans (hb13.mono B12.size)
                  refine hK.out _ _ (fun _ => ⟨k13.cell 0, k13.cell 1, k13.cell 2, kM13⟩) (fun hS => ?_)
                  clear hK K hb13 k12 kM12 s12 B12 HC3 us
                  replace hS := hS rfl
                  try simp only [Act.put, List.setIfInBounds_toArray, List.set_cons_zero, List.set_cons_succ]
                  refine' wpAnyT_take (i := 4) (v := _) ?hiT4q (by kernel_rfl) ?hQT4q (Or.inl ⟨?hwT4q, ?hyT4q⟩) hS ?reT4q
                  case hiT4q => (simp only [List.getElem?_toArray, List.getElem?_cons_succ, List.getElem?_cons_zero]; rfl)
                  case hQT4q => exact fun _ _ _ h => h
                  case hwT4q => rfl
                  case hyT4q => (intro wS hSw; obtain ⟨_, _, _, _⟩ := hSw; go_simp; (try with_reducible rfl))
                  try simp only [Act.put, List.setIfInBounds_toArray, List.set_cons_zero, List.set_cons_succ]
                  refine' wpAnyT_take (i := 5) (v := _) ?hiT5q (by kernel_rfl) ?hQT5q (Or.inl ⟨?hwT5q, ?hyT5q⟩) hS ?reT5q
                  case hiT5q => (simp only [List.getElem?_toArray, List.getElem?_cons_succ, List.getElem?_cons_zero]; rfl)
                  case hQT5q => exact fun _ _ _ h => h
                  case hwT5q => rfl
                  case hyT5q => (intro wS hSw; obtain ⟨_, _, _, _⟩ := hSw; go_simp; (try with_reducible rfl))
                  try simp only [Act.put, List.setIfInBounds_toArray, List.set_cons_zero, List.set_cons_succ]
                  refine' wpAnyT_take (i := 6) (v := _) ?hiT6q (by kernel_rfl) ?hQT6q (Or.inl ⟨?hwT6q, ?hyT6q⟩) hS ?reT6q
                  case hiT6q => (simp only [List.getElem?_toArray, List.getElem?_cons_succ, List.getElem?_cons_zero]; rfl)
                  case hQT6q => exact fun _ _ _ h => h
                  case hwT6q => rfl
                  case hyT6q => (intro wS hSw; obtain ⟨_, _, _, _⟩ := hSw; go_simp; (try with_reducible rfl))
                  try simp only [Act.put, List.setIfInBounds_toArray, List.set_cons_zero, List.set_cons_succ]
                  refine' wpAnyT_take (i := 7) (v := _) ?hiT7q (by kernel_rfl) ?hQT7q (Or.inl ⟨?hwT7q, ?hyT7q⟩) hS ?reT7q
                  case hiT7q => (simp only [List.getElem?_toArray, List.getElem?_cons_succ, List.getElem?_cons_zero]; rfl)
                  case hQT7q => exact fun _ _ _ h => h
                  case hwT7q => rfl
                  case hyT7q => (intro wS hSw; obtain ⟨_, _, _, _⟩ := hSw; go_simp; (try with_reducible rfl))
                  try simp only [Act.put, List.setIfInBounds_toArray, List.set_cons_zero, List.set_cons_succ]
                  refine' wpAnyT_take (i := 8) (v := _) ?hiT8q (by kernel_rfl) ?hQT8q (Or.inl ⟨?hwT8q, ?hyT8q⟩) hS ?reT8q
                  case hiT8q => (simp only [List.getElem?_toArray, List.getElem?_cons_succ, List.getElem?_cons_zero]; rfl)
                  case hQT8q => exact fun _ _ _ h => h
                  case hwT8q => rfl
                  case hyT8q => (intro wS hSw; obtain ⟨_, _, _, _⟩ := hSw; go_simp; (try with_reducible rfl))
                  try simp only [Act.put, List.setIfInBounds_toArray, List.set_cons_zero, List.set_cons_succ]
                  refine wpAnyT_done (by kernel_rfl) ?_ _
                  refine noPanic_normal ?_
                  clear hS k13 kM13 HC2'
                  rw [← hbx'.out] at *
                  rcases hbst'.out with hlt9 | ⟨heq9, hle9⟩
                  · have hd1 : decide ((na : Int) < (nb : Int)) = true := by simpa using hlt9
                    go_wp2_with fail
                    refine (awake13_any _).mono ?_
                    rintro e w14 ⟨rfl, hb14⟩
                    go_wp2_with fail
                    go_ret
                    exact ⟨rfl, B13.trans (hb14.mono B13.size)⟩
                  · subst heq9
                    have hd1 : decide ((na : Int) < (na : Int)) = false := by simp
                    have hd2 : ((na : Int) == (na : Int)) = true := by simp
                    have hd3 : decide (xa ≤ xb) = true := by simpa using hle9
                    go_wp2_with fail
                    refine (awake13_any _).mono ?_
                    rintro e w14 ⟨rfl, hb14⟩
                    go_wp2_with fail
                    go_ret
                    exact ⟨rfl, B13.trans (hb14.mono B13.size)⟩
set_option maxRecDepth 100000 in
/-- a list of small numbers that came in -/
theorem openU16s {H : Type} {enc : TypeId × Value → H} {w : World} {base b0 : Nat} {held : Bool} {v : Value} {d : DataW H} {p : List MemPlace} (hv : Value.okWide Try.prog w .any b0 37 v) (h : DataW.Trod enc Try.prog w base (fun _ => true) held 37 v d p) :
    ∃ (A : Option Addr) (n cap : Nat) (xs : List Int), v = .slice A n cap ∧ xs.length = n ∧ n ≤ maxLen ∧ Rd w w.heap.size A (xs.map (Value.int .u16)) ∧ ∀ x ∈ xs, 0 ≤ x ∧ x < 65536 := by
  obtain ⟨A, n, cap, rfl⟩ := okWide_slice Try.underlying37 hv
  obtain ⟨fuel, hf⟩ := h
  exact openU16 Try.underlying37 Try.underlying43 (by kernel_rfl) hf

set_option maxRecDepth 100000 in
theorem hugeFewest_lifted (os : Os) (started : os.Started) (H : Type) (enc : TypeId × Value → H) :
    ReturnsInHanded {} Try.checked os 5 .any (Rows.hugeFewestSpec.pre6 enc Try.prog Try.f5 Rows.hugeFewestRow.domain false) (Rows.hugeFewestSpec.post enc Try.prog Try.f5 false true false false) := by
  refine returnsInHanded_of_change (C := Try.checked) own_ started (by kernel_rfl) Try.func5
    (ChangeSpec.witness6 (enc := enc) (C := Try.checked) false ⟨#[], #[.agg #[.slice none 0 0, .slice none 0 0, .slice none 0 0], .int .i64 0, .slice none 0 0], []⟩ 8 (by kernel_rfl) (by kernel_rfl) (by kernel_rfl) (by kernel_rfl)) ?_
  intro W base args ds gs before hval0 hW _ _
  have hval : ∀ (j : Nat) t v, Try.f5.params[j]? = some t → args[j]? = some v → Value.okWide Try.prog W .any base t v := hval0
  have hW' := hW
  obtain ⟨p, q, hA0, hV, rfl, _, _⟩ := hW
  have hA : DataW.TrodAll enc Try.prog W 0 (fun _ => true) true Try.f5.params.toList args.toList ds p := hA0
  rw [Try.params5] at hA hval
  obtain ⟨v0, v1, v2, d0, d1, d2, p0, p1, p2, rfl, rfl, rfl, h0, h1, h2⟩ := trodAll_three hA
  obtain ⟨rfl, rfl⟩ := trodVars_none hV
  obtain ⟨A1, A2, A3, n1, c1, n2, c2, n3, c3, C, L, Hu, rfl, a1, a2, a3, b1, b2, b3, e1, e2, e3⟩ := openState (hval 0 25 v0 rfl rfl) h0
  obtain ⟨n, rfl⟩ := okWide_i64 (hval 1 3 v1 rfl rfl)
  obtain ⟨A4, n4, c4, vs, rfl, g1, _, g3, g4⟩ := openU16s (hval 2 37 v2 rfl rfl) h2
  simp only [List.append_nil] at hW'
  refine (fewestLaw_any A1 A2 A3 A4 n1 c1 n2 c2 n3 c3 n4 c4 C L Hu vs n W a1 a2 a3 b1 b2 b3 e1 e2 e3 g1 g3 g4).mono fun e W' ⟨he, hb⟩ => ?_
  subst he
  exact ⟨_, rfl, post_of_below (pv := []) hW' (fun _ _ _ => trodAll_mk1 (shut_bool Try.underlying4 true))
    (fun sp hsp => by rw [Try.params5]; exact trodAll_mk3 (WideElems.Trod_stays laidOut_ (by kernel_rfl) (of_decide_eq_true (by kernel_rfl)) h0 (fun x hx => hb.same (hW'.lt x (by simp [hx]))) (fun x hx => hsp x (by simp [hx]))) (WideElems.Trod_stays laidOut_ (by kernel_rfl) (of_decide_eq_true (by kernel_rfl)) h1 (fun x hx => hb.same (hW'.lt x (by simp [hx]))) (fun x hx => hsp x (by simp [hx]))) (WideElems.Trod_stays laidOut_ (by kernel_rfl) (of_decide_eq_true (by kernel_rfl)) h2 (fun x hx => hb.same (hW'.lt x (by simp [hx]))) (fun x hx => hsp x (by simp [hx]))))
    (fun _ _ => rfl) (by simp) hb (ok_one (by kernel_rfl) rfl (okWide_bool_mk Try.underlying4 true))⟩
theorem hugeFewest_holds : Rows.HugeFewestSaid :=
  OpenClaim.holds_of_wide 5 Try.f5 rfl rfl rfl rfl rfl rfl rfl ⟨rfl, rfl, rfl, rfl, rfl⟩ rfl rfl rfl rfl rfl (by kernel_rfl) Try.func5 (by kernel_rfl)
    (of_decide_eq_true (by kernel_rfl)) (by unfold Func.isWrapper; rw [if_neg (of_decide_eq_false (by kernel_rfl))]; exact ⟨rfl, rfl⟩)
    (fun os started H enc _ => hugeFewest_lifted os started H enc)
end Go.Proofs.Ytmpakobfedgdbaa
