/- Merged texts. Walks of layer 13: the reference's span, in, live. Walk of layer 13: the reference's Check. Walk of layer 13: the reference's Groups. Walks of layer 13: the reference's Score, touched, Split. Walks of layer 13: the reference's touched, Split. Walks of layer 13: the law's ints, Example, far. Plain laws for layer 13: the example's values; a sort of Array.insertionSort's kind keeps the size. Walk of layer 13: the law's awake. Opening the arguments of the laws of this seat (a table, a usage, numbers), and closing their rows: all that a law's contract has to say is that it returns true and turns nothing that lay there. Opening the arguments of the laws of layer 13: states, lists of spans, numbers. Plain words for refusals: rules, plans, which calls are refused. Walks of layer 5: what is wrong with a rule, with a plan; a plan begun. Walks of layer 5: rules copied, a plan begun. Walks of layer 5: the calls that a rule refuses, as a function value that is ranged over. Walks of layer 5: the marks of the calls that are refused. Walks of layer 5: how many calls are refused; the next one of a rule; is a call refused. -/
import Derived.Test.YtefnnfcfigcikaaGreatRows
import Derived.Carry
import Derived.ChangeSlices
import Derived.RowKit2
import Derived.RowKit3
import Derived.JoinedAt
import Derived.Test.YtefnnfcfigcikaaGreatChecked
import Derived.Shelf.Abstract
import Derived.Test.YtefnnfcfigcikaaGreatC4
namespace Go.Proofs.YtefnnfcfigcikaaGreat
open Go Go.Proofs Go.RowKit Go.Pol Go.Shelf
attribute [local go_sem] Oper.semAt_some Go.Pol.wide_fn Go.Pol.wide_depth Go.Pol.wide_fn' Go.Pol.wide_depth'

theorem span13_any (g : Int) (w : World) (h : 0 ≤ g ∧ g < 64) : Calls Tryz.prog 61 #[.int .i64 g] w fun e w' => e = .returned (.agg #[.int .i64 (16 * g), .int .i64 16]) ∧ Below w.heap.size w w' := by
  obtain ⟨k, rfl⟩ : ∃ k : Nat, g = (k : Int) := ⟨g.toNat, by omega⟩
  have hm : (k : Int) * 16 = 16 * (k : Int) := Int.mul_comm _ _
  have k0 := Blk.new w 134 #[.int .i64 0, .int .i64 0]
  have hb0 := (Below.refl w.heap.size w).alloc (Nat.le_refl _) (.cells #[.int .i64 0, .int .i64 0] 134)
  have c0 := k0.cell
  have f0 := k0.frozen
  have k1 := Blk.new w 134 #[.int .i64 (16 * (k : Int)), .int .i64 16]
  have hb1 := (Below.refl w.heap.size w).alloc (Nat.le_refl _) (.cells #[.int .i64 (16 * (k : Int)), .int .i64 16] 134)
  have c1 := k1.cell
  go_enter Tryz.func61, Tryz.ntmps61
  go_wp2_with fail
  exact bodyPost_ret (v := .agg #[.int .i64 (16 * (k : Int)), .int .i64 16]) (by simp [results, Tryz.results61, go_sem, c1]) rfl ⟨rfl, hb1⟩
theorem in13_any (v : Int) (A : Option Addr) (n cap : Nat) (bs : List Int) (w : World) (hn : bs.length = n) (hm : n ≤ maxLen) (hr : RI w w.heap.size A bs) :
    Calls Tryz.prog 137 #[.slice A n cap, .int .i64 v] w fun e w' => e = .returned (.bool (decide (v ∈ bs))) ∧ w' = w := by
  unfold maxLen at hm
  obtain ⟨R, hR⟩ : ∃ R, decide (v ∈ bs) = R := ⟨_, rfl⟩
  rw [hR]
  have hR' := Lib.hid hR
  have hn' := Lib.hid hn
  clear hR hn
  go_enter Tryz.func137, Tryz.ntmps137
  go_wp2_with fail
  go_loopw [5] (fun i wr => ∃ k : Nat, k ≤ n ∧ i = .int .i64 k ∧ wr = w ∧ Hid (decide (v ∈ bs.drop k) = R)) (fun i _ => n - (intOf i).toNat)
  case atStart => exact ⟨0, by omega, rfl, rfl, by simpa using hR'⟩
  case round =>
    obtain ⟨k, hk, rfl, hw, hH⟩ := hrel
    have hw' := hw.symm
    clear hw
    subst hw'
    by_cases hlt : k < n
    · have hlt' : decide ((k : Int) < (n : Int)) = true := by simpa using hlt
      obtain ⟨b, o, rfl, _, c1⟩ := hr.at_ (k := k) (by have := hn'.out; omega)
      have hst := hH.out
      rw [Go.Pol.drop_cons 0 bs k (by have := hn'.out; omega)] at hst
      generalize bs.getD k 0 = x at *
      cases hpx : (x == v) with
      | true =>
        have hst' := Lib.hid (show true = R by rw [← hst]; simp at hpx; simp [hpx])
        clear hst hH
        go_wp2_with fail
        go_ret
        exact ⟨ret_bool hst'.out, rfl⟩
      | false =>
        have hst' := Lib.hid (show decide (v ∈ bs.drop (k + 1)) = R by
          rw [← hst]
          have : ¬ v = x := fun e => by rw [e] at hpx; simp at hpx
          simp [this])
        clear hst hH
        go_wp2_with fail
        go_roundw
        case rel => exact ⟨k + 1, by omega, by go_num, by first | rfl | trivial, hst'⟩
        case measure => simp [intOf]; omega
    · obtain rfl : k = n := by omega
      have hlt' : decide ((k : Int) < (k : Int)) = false := by simp
      have hst := hH.out
      rw [List.drop_of_length_le (by have := hn'.out; omega)] at hst
      have hst' := Lib.hid (show false = R by rw [← hst]; simp)
      clear hst hH
      go_wp2_with fail
      go_ret
      exact ⟨ret_bool hst'.out, rfl⟩
theorem ru_one {w : World} {g : Nat} {t : TypeId} {a b : Int} (h : Blk w g t #[.int .i64 a, .int .i64 b]) : RU w w.heap.size (some ⟨g, 0, none⟩) [(a, b)] := fun k hk => by
  obtain rfl : k = 0 := by simp at hk; omega
  exact ⟨g, 0, rfl, h.lt, h.cell 0, h.cell 1⟩
def LiveS (bx : Nat) (v : Value) (W : World) : Prop := W.cell? ⟨bx, 1, none⟩ = some v ∧ True
set_option maxRecDepth 100000 in
set_option maxHeartbeats 1600000 in
theorem live13_any (S : Value) (C L : List Sp) (H : List Int) (g : Int) (w : World) (hS : StIs w S C L H) (hg : 0 ≤ g ∧ g < 64) (hL : Go.Pol.Can L) :
    Calls Tryz.prog 138 #[S, .int .i64 g] w fun e w' => e = .returned (.int .i64 (grpF L g)) ∧ Below w.heap.size w w' := by
  obtain ⟨A1, A2, A3, n1, c1, n2, c2, n3, c3, rfl, h1, h2, h3, h4, h5, h6, h7, h8, h9⟩ := hS.ex
  obtain ⟨m1, m2, m3⟩ := meet_span hL hg
  have hb0 := (Below.refl w.heap.size w).alloc (Nat.le_refl _) (.cells #[.slice A1 n1 c1, .slice A2 n2 c2, .slice A3 n3 c3] 52)
  have k0 := Blk.new w 52 #[.slice A1 n1 c1, .slice A2 n2 c2, .slice A3 n3 c3]
  have r0 := h6.on hb0
  have HSp := Lib.hid (fun W => span13_any g W hg)
  have HM := Lib.hid (fun A9 c9 W (hr1 : RU W W.heap.size A2 L) (hr2 : RU W W.heap.size A9 [(16 * g, 16)]) => rMeet_any A2 A9 n2 c2 1 c9 L [(16 * g, 16)] W h4 h5 hr1 rfl (by unfold maxLen; omega) hr2)
  have HC := Lib.hid (fun A9 n9 c9 W (hn : (combF 2 L [(16 * g, 16)]).length = n9) (hm : n9 ≤ maxLen) hr => rCount_any A9 n9 c9 (combF 2 L [(16 * g, 16)]) W hn hm hr)
  rw [m1] at HM
  rw [if_pos (chkS_zero.2 m2), m3] at HC
  have hml := m2.len
  generalize combF 2 L [(16 * g, 16)] = M at *
  generalize grpF L g = R at *
  clear h1 h2 h3 h4 h5 h6 h7 h8 h9 hS m1 m2 m3 hL
  go_enter Tryz.func138, Tryz.ntmps138
  go_upto_region 1 with fail
  generalize w.alloc (.cells #[.slice A1 n1 c1, .slice A2 n2 c2, .slice A3 n3 c3] 52) = w0 at *
  refine wp_noPanic ?_
  refine wp_region_T (LiveS w.heap.size (.slice A2 n2 c2)) [] (by kernel_rfl) ?_
  have hS : LiveS w.heap.size (.slice A2 n2 c2) w0.drew := ⟨k0.cell 1, trivial⟩
  have hbd : Below w0.heap.size w0 w0.drew := (Below.refl _ _).drew
  have k1 := k0.call hbd
  have r1 := r0.on hbd
  have B1 := hb0.trans (hbd.mono hb0.size)
  generalize w0.drew = w1 at *
  clear k0 r0 hb0 hbd
  refine' wpAnyT_take (i := 0) (v := _) ?hiT0 (by kernel_rfl) ?hQT0 (Or.inl ⟨?hwT0, ?hyT0⟩) hS ?reT0
  case hiT0 => (simp only [List.getElem?_toArray, List.getElem?_cons_zero]; rfl)
  case hQT0 => exact fun _ _ _ h => h
  case hwT0 => rfl
  case hyT0 => (intro wS hSw; obtain ⟨_, _⟩ := hSw; go_simp; (try with_reducible rfl))
  try simp only [Act.put, List.setIfInBounds_toArray, List.set_cons_zero, List.set_cons_succ]
  refine' wpAnyT_take (i := 1) (v := _) ?hiT1 (by kernel_rfl) ?hQT1 (Or.inl ⟨?hwT1, ?hyT1⟩) hS ?reT1
  case hiT1 => (simp only [List.getElem?_toArray, List.getElem?_cons_succ, List.getElem?_cons_zero]; rfl)
  case hQT1 => exact fun _ _ _ h => h
  case hwT1 => rfl
  case hyT1 => (intro wS hSw; obtain ⟨_, _⟩ := hSw; go_simp; (try with_reducible rfl))
  try simp only [Act.put, List.setIfInBounds_toArray, List.set_cons_zero, List.set_cons_succ]
  refine' wpAnyT_take (i := 2) (v := _) ?hiT2 (by kernel_rfl) ?hQT2 (Or.inl ⟨?hwT2, ?hyT2⟩) hS ?reT2
  case hiT2 => (simp only [List.getElem?_toArray, List.getElem?_cons_succ, List.getElem?_cons_zero]; rfl)
  case hQT2 => exact fun _ _ _ h => h
  case hwT2 => rfl
  case hyT2 => (intro wS hSw; obtain ⟨_, _⟩ := hSw; go_simp; (try with_reducible rfl))
  try simp only [Act.put, List.setIfInBounds_toArray, List.set_cons_zero, List.set_cons_succ]
  refine wpAnyT_ready (rs := [3]) (by kernel_rfl) (by simp) ?_
  refine' AllReadyT.cons ?hi3 (fun K hK => ?st3) AllReadyT.nil
  case hi3 => (simp only [List.getElem?_toArray, List.getElem?_cons_succ, List.getElem?_cons_zero]; rfl)
  go_simp
  refine (HSp.out _).mono ?_
  rintro e w2 ⟨rfl, hb2⟩
  have k2 := k1.call hb2
  have r2 := r1.on hb2
  have B2 := B1.trans (hb2.mono B1.size)
  refine hK.out _ _ (fun _ => ⟨k2.cell 1, trivial⟩) (fun hS => ?_)
  clear hK K hb2 k1 r1 B1
  replace hS := hS rfl
  try simp only [Act.put, List.setIfInBounds_toArray, List.set_cons_zero, List.set_cons_succ]
  refine wpAnyT_ready (rs := [4]) (by kernel_rfl) (by simp) ?_
  refine' AllReadyT.cons ?hi4 (fun K hK => ?st4) AllReadyT.nil
  case hi4 => (simp only [List.getElem?_toArray, List.getElem?_cons_succ, List.getElem?_cons_zero]; rfl)
  go_simp
  have kN := Blk.new w2 134 #[.int .i64 (16 * g), .int .i64 16]
  have hb3 : Below w2.heap.size w2 (w2.alloc (.cells #[.int .i64 (16 * g), .int .i64 16] 134)) := (Below.refl _ _).alloc (Nat.le_refl _) _
  have k3 := k2.call hb3
  have r3 := r2.on hb3
  have B3 := B2.trans (hb3.mono B2.size)
  obtain ⟨g2, hg2⟩ : ∃ g2, w2.heap.size = g2 := ⟨_, rfl⟩
  rw [hg2] at kN ⊢
  have HM2 := Lib.hid (HM.out _ 1 _ r3 (ru_one kN))
  refine hK.out _ _ (fun _ => ⟨k3.cell 1, trivial⟩) (fun hS => ?_)
  clear hK K hb3 k2 r2 B2 kN HM
  replace hS := hS rfl
  generalize w2.alloc (.cells #[.int .i64 (16 * g), .int .i64 16] 134) = w3 at *
  try simp only [Act.put, List.setIfInBounds_toArray, List.set_cons_zero, List.set_cons_succ]
  refine wpAnyT_ready (rs := [5]) (by kernel_rfl) (by simp) ?_
  refine' AllReadyT.cons ?hi5 (fun K hK => ?st5) AllReadyT.nil
  case hi5 => (simp only [List.getElem?_toArray, List.getElem?_cons_succ, List.getElem?_cons_zero]; rfl)
  go_simp
  refine HM2.out.mono ?_
  rintro e w4 ⟨A9, c9, rfl, u9, _, _, _, hb4⟩
  have k4 := k3.call hb4
  have B4 := B3.trans (hb4.mono B3.size)
  have HC2 := Lib.hid (HC.out A9 M.length c9 w4 rfl (by unfold maxLen; omega) u9)
  obtain ⟨ml, hml2⟩ : ∃ ml, M.length = ml := ⟨_, rfl⟩
  rw [hml2] at HC2 ⊢
  refine hK.out _ _ (fun _ => ⟨k4.cell 1, trivial⟩) (fun hS => ?_)
  clear hK K hb4 k3 r3 B3 HM2
  replace hS := hS rfl
  try simp only [Act.put, List.setIfInBounds_toArray, List.set_cons_zero, List.set_cons_succ]
  refine' wpAnyT_take (i := 6) (v := _) ?hiT6a (by kernel_rfl) ?hQT6a (Or.inl ⟨?hwT6a, ?hyT6a⟩) hS ?reT6a
  case hiT6a => (simp only [List.getElem?_toArray, List.getElem?_cons_succ, List.getElem?_cons_zero]; rfl)
  case hQT6a => exact fun _ _ _ h => h
  case hwT6a => rfl
  case hyT6a => (intro wS hSw; obtain ⟨_, _⟩ := hSw; go_simp; (try with_reducible rfl))
  try simp only [Act.put, List.setIfInBounds_toArray, List.set_cons_zero, List.set_cons_succ]
  refine' wpAnyT_take (i := 7) (v := _) ?hiT7a (by kernel_rfl) ?hQT7a (Or.inl ⟨?hwT7a, ?hyT7a⟩) hS ?reT7a
  case hiT7a => (simp only [List.getElem?_toArray, List.getElem?_cons_succ, List.getElem?_cons_zero]; rfl)
  case hQT7a => exact fun _ _ _ h => h
  case hwT7a => rfl
  case hyT7a => (intro wS hSw; obtain ⟨_, _⟩ := hSw; go_simp; (try with_reducible rfl))
  try simp only [Act.put, List.setIfInBounds_toArray, List.set_cons_zero, List.set_cons_succ]
  refine' wpAnyT_take (i := 8) (v := _) ?hiT8a (by kernel_rfl) ?hQT8a (Or.inl ⟨?hwT8a, ?hyT8a⟩) hS ?reT8a
  case hiT8a => (simp only [List.getElem?_toArray, List.getElem?_cons_succ, List.getElem?_cons_zero]; rfl)
  case hQT8a => exact fun _ _ _ h => h
  case hwT8a => rfl
  case hyT8a => (intro wS hSw; obtain ⟨_, _⟩ := hSw; go_simp; (try with_reducible rfl))
  try simp only [Act.put, List.setIfInBounds_toArray, List.set_cons_zero, List.set_cons_succ]
  refine' wpAnyT_take (i := 9) (v := _) ?hiT9a (by kernel_rfl) ?hQT9a (Or.inl ⟨?hwT9a, ?hyT9a⟩) hS ?reT9a
  case hiT9a => (simp only [List.getElem?_toArray, List.getElem?_cons_succ, List.getElem?_cons_zero]; rfl)
  case hQT9a => exact fun _ _ _ h => h
  case hwT9a => rfl
  case hyT9a => (intro wS hSw; obtain ⟨_, _⟩ := hSw; go_simp; (try with_reducible rfl))
  try simp only [Act.put, List.setIfInBounds_toArray, List.set_cons_zero, List.set_cons_succ]
  refine' wpAnyT_take (i := 10) (v := _) ?hiT10a (by kernel_rfl) ?hQT10a (Or.inl ⟨?hwT10a, ?hyT10a⟩) hS ?reT10a
  case hiT10a => (simp only [List.getElem?_toArray, List.getElem?_cons_succ, List.getElem?_cons_zero]; rfl)
  case hQT10a => exact fun _ _ _ h => h
  case hwT10a => rfl
  case hyT10a => (intro wS hSw; obtain ⟨_, _⟩ := hSw; go_simp; (try with_reducible rfl))
  try simp only [Act.put, List.setIfInBounds_toArray, List.set_cons_zero, List.set_cons_succ]
  refine wpAnyT_done (by kernel_rfl) ?_ _
  refine noPanic_normal ?_
  go_wp2_with fail
  refine HC2.out.mono ?_
  rintro e w5 ⟨rfl, hb5⟩
  go_wp2_with fail
  go_ret
  exact ⟨rfl, B4.trans (hb5.mono B4.size)⟩
end Go.Proofs.YtefnnfcfigcikaaGreat
namespace Go.Proofs.YtefnnfcfigcikaaGreat
open Go Go.Proofs Go.RowKit Go.Pol Go.Shelf
attribute [local go_sem] Oper.semAt_some Go.Pol.wide_fn Go.Pol.wide_depth Go.Pol.wide_fn' Go.Pol.wide_depth'

set_option maxRecDepth 100000 in
set_option maxHeartbeats 3200000 in
theorem rcheck13_any (S : Value) (C L : List Sp) (H : List Int) (w : World) (hS : StIs w S C L H) :
    Calls Tryz.prog 20 #[S] w fun e w' => e = .returned (.int .i64 (chkH C L H)) ∧ Below w.heap.size w w' := by
  obtain ⟨A1, A2, A3, n1, c1, n2, c2, n3, c3, rfl, h1, h2, h3, h4, h5, h6, h7, h8, h9⟩ := hS.ex
  have hb0 := (Below.refl w.heap.size w).alloc (Nat.le_refl _) (.cells #[.slice A1 n1 c1, .slice A2 n2 c2, .slice A3 n3 c3] 52)
  have k0 := Blk.new w 52 #[.slice A1 n1 c1, .slice A2 n2 c2, .slice A3 n3 c3]
  have H1 := Lib.hid (fun W h => refSpCheck_any A1 n1 c1 C W h1 h2 h)
  have H2 := Lib.hid (fun W h => refSpCheck_any A2 n2 c2 L W h4 h5 h)
  have HM := Lib.hid (fun W (hr1 : RU W W.heap.size A2 L) (hr2 : RU W W.heap.size A1 C) => rMinus_any A2 A1 n2 c2 n1 c1 L C W h4 h5 hr1 h1 h2 hr2)
  have HH := Lib.hid (fun (g : Int) W h => rHas_any A1 n1 c1 C (16 * g) 16 W h1 h2 h)
  obtain ⟨R, hR⟩ : ∃ R, chkH C L H = R := ⟨_, rfl⟩
  rw [hR]
  have hR' := Lib.hid hR
  have r1 := h3.on hb0
  have r2 := h6.on hb0
  have r3 := RI.on h9 hb0
  have hn3 := h7
  have hm3 := h8
  unfold maxLen at hm3
  clear hR h1 h2 h3 h4 h5 h6 h7 h8 h9 hS
  have c0 := k0.cell
  by_cases hc : chkS C = 0
  case neg =>
    have hE : Hid (R = chkS C) := Lib.hid (by rw [← hR'.out, chkH_1 hc])
    have hc' : (chkS C == 0) = false := by simpa using hc
    have hc2 : (chkS C != 0) = true := by simpa using hc
    generalize chkS C = er at *
    clear hc HM HH
    go_enter Tryz.func20, Tryz.ntmps20
    go_wp2_with fail
    refine (H1.out _ r1).mono ?_
    rintro e w1 ⟨rfl, hb1⟩
    go_wp2_with fail
    go_ret
    exact ⟨ret_int hE.out.symm, hb0.trans (hb1.mono hb0.size)⟩
  case pos =>
    rw [hc] at H1
    by_cases hl : chkS L = 0
    case neg =>
      have hE : Hid (R = chkS L) := Lib.hid (by rw [← hR'.out, chkH_2 hc hl])
      have hc2 : (chkS L != 0) = true := by simpa using hl
      generalize chkS L = er at *
      clear hc hl HM HH
      go_enter Tryz.func20, Tryz.ntmps20
      go_wp2_with fail
      refine (H1.out _ r1).mono ?_
      rintro e w1 ⟨rfl, hb1⟩
      have k1 := k0.call hb1
      have c1 := k1.cell
      have r21 := r2.on hb1
      have B1 := hb0.trans (hb1.mono hb0.size)
      go_wp2_with fail
      refine (H2.out _ r21).mono ?_
      rintro e w2 ⟨rfl, hb2⟩
      go_wp2_with fail
      go_ret
      exact ⟨ret_int hE.out.symm, B1.trans (hb2.mono B1.size)⟩
    case pos =>
      rw [hl] at H2
      have canC := Lib.hid (chkS_zero.1 hc)
      have canL := Lib.hid (chkS_zero.1 hl)
      have hcl := Lib.hid (⟨hc, hl⟩ : chkS C = 0 ∧ chkS L = 0)
      clear hc hl
      go_enter Tryz.func20, Tryz.ntmps20
      go_wp2_with fail
      refine (H1.out _ r1).mono ?_
      rintro e w1 ⟨rfl, hb1⟩
      have k1 := k0.call hb1
      have c1 := k1.cell
      have r21 := r2.on hb1
      have B1 := hb0.trans (hb1.mono hb0.size)
      go_wp2_with fail
      refine (H2.out _ r21).mono ?_
      rintro e w2 ⟨rfl, hb2⟩
      have k2 := k1.call hb2
      have q1 := (r1.on hb1).on hb2
      have q2 := r21.on hb2
      have q3 := RI.on (RI.on r3 hb1) hb2
      have B2 := B1.trans (hb2.mono B1.size)
      clear r21 B1 hb1 hb2 k1 c1 r1 r2 r3 hb0 k0 c0
      go_wp2_with fail
      have hst0 : Hid (H.all inG = (H.drop 0).all inG) := Lib.hid rfl
      go_loopw [4] (fun i wr => ∃ k : Nat, k ≤ n3 ∧ i = .int .i64 k ∧ wr = w2 ∧ Hid (H.all inG = (H.drop k).all inG)) (fun i _ => n3 - (intOf i).toNat)
      case atStart => exact ⟨0, by omega, rfl, rfl, hst0⟩
      case round =>
        clear hst0
        obtain ⟨k, hk, rfl, hw, hst⟩ := hrel
        have hw' := hw.symm
        clear hw
        subst hw'
        have c2 := k2.cell
        by_cases hlt : k < n3
        · have hlt' : decide ((k : Int) < (n3 : Int)) = true := by simpa using hlt
          obtain ⟨b, o, rfl, _, c4⟩ := q3.at_ (k := k) (by omega)
          have hst1 := hst.out
          rw [Go.Pol.drop_cons 0 H k (by omega), List.all_cons] at hst1
          generalize H.getD k 0 = x at *
          have hi : inG x = (decide (0 ≤ x) && decide (x < 64)) := rfl
          by_cases hx0 : x < 0
          · as_aux_lemma =>
              have hx0' : decide (x < 0) = true := by simpa using hx0
              have hE : Hid (R = 7) := Lib.hid (by rw [← hR'.out, chkH_3 hcl.out.1 hcl.out.2 (by rw [hst1, hi, decide_eq_false (show ¬ 0 ≤ x by omega)]; rfl)])
              clear hst hst1 hi hx0
              go_wp2_with fail
              go_ret
              exact ⟨ret_int hE.out.symm, B2⟩
          · have hx0' : decide (x < 0) = false := by simpa using hx0
            by_cases hx1 : 64 ≤ x
            · as_aux_lemma =>
                have hx1' : decide (64 ≤ x) = true := by simpa using hx1
                have hE : Hid (R = 7) := Lib.hid (by rw [← hR'.out, chkH_3 hcl.out.1 hcl.out.2 (by rw [hst1, hi, decide_eq_false (show ¬ x < 64 by omega), Bool.and_false]; rfl)])
                clear hst hst1 hi hx0 hx1
                go_wp2_with fail
                go_ret
                exact ⟨ret_int hE.out.symm, B2⟩
            · as_aux_lemma =>
                have hx1' : decide (64 ≤ x) = false := by simpa using hx1
                have hst2 : Hid (H.all inG = (H.drop (k + 1)).all inG) := Lib.hid (by rw [hst1, hi, decide_eq_true (show 0 ≤ x by omega), decide_eq_true (show x < 64 by omega)]; rfl)
                clear hst hst1 hi hx0 hx1
                go_wp2_with fail
                go_roundw
                case rel => exact ⟨k + 1, by omega, by go_num, by first | rfl | trivial, hst2⟩
                case measure => simp [intOf]; omega
        · as_aux_lemma =>
            obtain rfl : k = n3 := by omega
            have hlt' : decide ((k : Int) < (k : Int)) = false := by simp
            have hG : Hid (H.all inG = true) := Lib.hid (by rw [hst.out, List.drop_of_length_le (by omega)]; rfl)
            have c2 := k2.cell
            obtain ⟨e1, e2⟩ := minus_nil canL.out canC.out
            have HM2 := HM.out w2 q2 q1
            rw [e1] at HM2
            clear hst hlt HM e1
            by_cases hsub : subF L C = true
            case neg =>
              have hE : Hid (R = 6) := Lib.hid (by rw [← hR'.out, chkH_4 hcl.out.1 hcl.out.2 hG.out (by simpa using hsub)])
              have hpos : 0 < (combF 3 L C).length := List.length_pos_iff.2 (fun h => hsub (e2.1 h))
              generalize combF 3 L C = M at *
              obtain ⟨ml, hml⟩ : ∃ ml, M.length = ml := ⟨_, rfl⟩
              unfold SpansR at HM2
              rw [hml] at HM2 hpos
              have hp' : decide (0 < (ml : Int)) = true := by rw [decide_eq_true_eq]; omega
              have hp2 : decide (0 < ml) = true := by rw [decide_eq_true_eq]; omega
              have HM3 := Lib.hid HM2
              clear e2 hsub HM2
              go_wp2_with fail
              refine HM3.out.mono ?_
              rintro e w3 ⟨A9, c9, rfl, u9, _, _, _, hb3⟩
              go_wp2_with fail
              go_ret
              exact ⟨ret_int hE.out.symm, B2.trans (hb3.mono B2.size)⟩
            case pos =>
              have hM : combF 3 L C = [] := e2.2 hsub
              rw [hM] at HM2
              have HM3 := Lib.hid HM2
              have hsub' := Lib.hid hsub
              unfold SpansR at HM3
              clear e2 hsub HM2 hM
              go_wp2_with fail
              refine HM3.out.mono ?_
              rintro e w3 ⟨A9, c9, rfl, u9, _, _, _, hb3⟩
              have k3 := k2.call hb3
              have p1 := q1.on hb3
              have p3 := RI.on q3 hb3
              have B3 := B2.trans (hb3.mono B2.size)
              clear hb3 q1 q2 q3 B2 k2 c2 HM3 u9
              go_wp2_with fail
              have hst0 : Hid (hugOk C (-1) H = hugOk C (prevH H 0) (H.drop 0)) := Lib.hid rfl
              go_loopw [7] (fun i wr => ∃ j : Nat, j ≤ k ∧ i = .int .i64 j ∧ Below w3.heap.size w3 wr ∧ Hid (hugOk C (-1) H = hugOk C (prevH H j) (H.drop j))) (fun i _ => k - (intOf i).toNat)
              case atStart => exact ⟨0, by omega, rfl, Below.refl _ _, hst0⟩
              case round =>
                clear hst0
                obtain ⟨j, hj, rfl, hB, hst⟩ := hrel
                have k4 := k3.call hB
                have p4 := p1.on hB
                have p5 := RI.on p3 hB
                have B4 := B3.trans (hB.mono B3.size)
                have c4 := k4.cell
                by_cases hlt : j < k
                · have hlt' : decide ((j : Int) < (k : Int)) = true := by simpa using hlt
                  have hst1 := hst.out
                  rw [Go.Pol.drop_cons 0 H j (by omega)] at hst1
                  have hin := inG_iff.1 (List.all_eq_true.1 hG.out _ (getD_memI (bs := H) (k := j) (by omega)))
                  have hpk : 0 < j → prevH H j = H.getD (j - 1) 0 := fun h => by rw [prevH, if_neg (by omega)]
                  have hp0 : j = 0 → prevH H j = -1 := fun h => by rw [prevH, if_pos h]
                  have hpn : prevH H (j + 1) = H.getD j 0 := by rw [prevH, if_neg (by omega)]; rfl
                  obtain ⟨b, o, hA3, _, c5⟩ := p5.at_ (k := j) (by omega)
                  have c7 : 0 < j → wr.cell? ⟨b, o + (j - 1), none⟩ = some (.int .i64 (H.getD (j - 1) 0)) := fun h => by
                    obtain ⟨b', o', e', _, c6⟩ := p5.at_ (k := j - 1) (by omega)
                    rw [hA3] at e'; cases e'; exact c6
                  generalize H.getD j 0 = x at *
                  generalize H.getD (j - 1) 0 = pr at *
                  have hHx := HH.out x wr p4
                  rw [askS_span canC.out hin] at hHx
                  have hbe : (decide ((0 : Int) = 0) && (cntF C (16 * x, 16) == 16)) = decide (16 ≤ grpF C x) := by
                    have := grpF_bound C x
                    unfold grpF at *
                    rw [Bool.eq_iff_iff]; simp; omega
                  rw [hbe] at hHx
                  clear hbe
                  obtain ⟨hb, hhb⟩ : ∃ hb, decide (16 ≤ grpF C x) = hb := ⟨_, rfl⟩
                  rw [hhb] at hHx
                  have hok1 : hugOk C (-1) H = (hb && decide (prevH H j < x) && hugOk C x (H.drop (j + 1))) := by rw [hst1, hugOk, hhb]
                  have G1 := Lib.hid (fun z : Ext wr => Ext.call (x := z) (span13_any x z.w hin))
                  have G2 := Lib.hid (fun (z : Ext wr) => Ext.call (x := z) (by
                    have := HH.out x z.w (p4.on z.le)
                    rw [askS_span canC.out hin] at this
                    rw [show (decide ((0 : Int) = 0) && (cntF C (16 * x, 16) == 16)) = hb by
                      rw [← hhb]
                      have := grpF_bound C x
                      unfold grpF at *
                      rw [Bool.eq_iff_iff]; simp; omega] at this
                    exact this))
                  have e1 := fun z : Ext wr => (z.blk k4).cell
                  have e2 := fun z : Ext wr => z.cell c5
                  subst hA3
                  have c7' := Lib.hid c7
                  have hok' := Lib.hid hok1
                  have hpk' := Lib.hid hpk
                  have hp0' := Lib.hid hp0
                  have hpn' := Lib.hid hpn
                  clear hst1 hst hHx hhb p4 p5 c7 hok1 hpk hp0 hpn
                  go_upto_region 17 with fail
                  refine region_ext (by kernel_rfl) (by kernel_rfl) ?_
                  repeat (go_big_quiet_step ((first | (go_at_call 61; exact G1.out _) | (go_at_call 60; exact G2.out _))))
                  refine wpQuiet_nil ?_
                  rintro w8 ⟨⟨_, hw8⟩, rfl⟩
                  have k8 := k4.call hw8
                  have B8 := B4.trans (hw8.mono B4.size)
                  have hB8 := hB.trans (hw8.mono hB.size)
                  have e8 := fun z : Ext w8 => (z.blk k8).cell
                  have c58 := (hw8.cell (World.block_lt_of_cell? _ _ c5)).trans c5
                  have e9 := fun z : Ext w8 => z.cell c58
                  clear e1 e2 G1 G2 c4
                  cases hb with
                  | false =>
                    have hE : Hid (R = 6) := Lib.hid (by rw [← hR'.out, chkH_5 hcl.out.1 hcl.out.2 hG.out hsub'.out (by rw [hok'.out]; rfl)])
                    go_upto_region 18 with fail
                    refine region_ext (by kernel_rfl) (by kernel_rfl) ?_
                    repeat (go_big_quiet_step (fail))
                    refine wpQuiet_nil ?_
                    rintro w9 ⟨⟨_, hw9⟩, rfl⟩
                    go_wp2_with fail
                    go_ret
                    exact ⟨ret_int hE.out.symm, B8.trans (hw9.mono B8.size)⟩
                  | true =>
                    by_cases hj0 : j = 0
                    · subst hj0
                      have hst2 : Hid (hugOk C (-1) H = hugOk C (prevH H (0 + 1)) (H.drop (0 + 1))) := Lib.hid (by
                        rw [hok'.out, hpn'.out, hp0'.out rfl, decide_eq_true (show (-1 : Int) < x by omega)]; rfl)
                      go_upto_region 18 with fail
                      refine region_ext (by kernel_rfl) (by kernel_rfl) ?_
                      repeat (go_big_quiet_step (fail))
                      refine wpQuiet_nil ?_
                      rintro w9 ⟨⟨_, hw9⟩, rfl⟩
                      go_wp2_with fail
                      go_roundw
                      case rel => exact ⟨1, by omega, by go_num, hB8.trans (hw9.mono hB8.size), hst2⟩
                      case measure => simp [intOf]; omega
                    · have h4k : 0 < j := by omega
                      have c78 := (hw8.cell (World.block_lt_of_cell? _ _ (c7'.out h4k))).trans (c7'.out h4k)
                      have e10 := fun z : Ext w8 => z.cell c78
                      have h1k : (1 : Int) ≤ (j : Int) := by omega
                      have h2k : 1 ≤ j := by omega
                      have h3k : (j : Int) - 1 < (k : Int) := by omega
                      have h5k : (0 : Int) ≤ (j : Int) - 1 := by omega
                      have h6k : decide (0 < (j : Int)) = true := by rw [decide_eq_true_eq]; omega
                      have h7k : decide (0 < j) = true := by rw [decide_eq_true_eq]; omega
                      have hwj : wrap64 ((j : Int) - 1) = (j : Int) - 1 := by unfold wrap64; omega
                      have hpk2 := Lib.hid (hpk'.out h4k)
                      by_cases hle : x ≤ pr
                      · have hle' : decide (x ≤ pr) = true := by simpa using hle
                        have hE : Hid (R = 6) := Lib.hid (by rw [← hR'.out, chkH_5 hcl.out.1 hcl.out.2 hG.out hsub'.out (by rw [hok'.out, hpk2.out, decide_eq_false (show ¬ pr < x by omega)]; rfl)])
                        clear hle hj0
                        go_upto_region 18 with fail
                        refine region_ext (by kernel_rfl) (by kernel_rfl) ?_
                        repeat (go_big_quiet_step (fail))
                        refine wpQuiet_nil ?_
                        rintro w9 ⟨⟨_, hw9⟩, rfl⟩
                        go_wp2_with fail
                        go_ret
                        exact ⟨ret_int hE.out.symm, B8.trans (hw9.mono B8.size)⟩
                      · have hle' : decide (x ≤ pr) = false := by simpa using hle
                        have hst2 : Hid (hugOk C (-1) H = hugOk C (prevH H (j + 1)) (H.drop (j + 1))) := Lib.hid (by
                          rw [hok'.out, hpn'.out, hpk2.out, decide_eq_true (show pr < x by omega)]; rfl)
                        clear hle hj0
                        go_upto_region 18 with fail
                        refine region_ext (by kernel_rfl) (by kernel_rfl) ?_
                        repeat (go_big_quiet_step (fail))
                        refine wpQuiet_nil ?_
                        rintro w9 ⟨⟨_, hw9⟩, rfl⟩
                        go_wp2_with fail
                        go_roundw
                        case rel => exact ⟨j + 1, by omega, by go_num, hB8.trans (hw9.mono hB8.size), hst2⟩
                        case measure => simp [intOf]; omega
                · as_aux_lemma =>
                    obtain rfl : j = k := by omega
                    have hlt' : decide ((j : Int) < (j : Int)) = false := by simp
                    have hE : Hid (R = 0) := Lib.hid (by
                      rw [← hR'.out, chkH_zero]
                      exact ⟨canC.out, canL.out, List.all_eq_true.1 hG.out, hsub'.out, by rw [hst.out, List.drop_of_length_le (by omega)]; rfl⟩)
                    clear hst
                    go_wp2_with fail
                    go_ret
                    exact ⟨ret_int hE.out.symm, B4⟩
end Go.Proofs.YtefnnfcfigcikaaGreat
namespace Go.Pol
open Go Go.RowKit
def condG (C L : List Sp) (H : List Int) (least : Int) (g : Nat) : Bool := decide (16 ≤ grpF C (g : Int)) && !decide ((g : Int) ∈ H) && decide (least ≤ grpF L (g : Int))
def groupsN (C L : List Sp) (H : List Int) (least : Int) (k : Nat) : List Int := ((List.range k).filter (condG C L H least)).map fun (g : Nat) => (g : Int)
theorem groupsN_succ (C L : List Sp) (H : List Int) (least : Int) (k : Nat) : groupsN C L H least (k + 1) = groupsN C L H least k ++ if condG C L H least k = true then [(k : Int)] else [] := by
  unfold groupsN
  rw [List.range_succ, List.filter_append, List.map_append]
  congr 1
  cases h : condG C L H least k <;> simp [h]
theorem groupsN_len (C L : List Sp) (H : List Int) (least : Int) (k : Nat) : (groupsN C L H least k).length ≤ k := by
  unfold groupsN
  rw [List.length_map]
  have := List.length_filter_le (condG C L H least) (List.range k)
  rwa [List.length_range] at this
theorem groupsN_eq (C L : List Sp) (H : List Int) (least : Int) : groupsN C L H least 64 = groupsF C L H least := by
  unfold groupsN groupsF wholeF grps
  rw [List.filter_filter, List.filter_map]
  congr 1
  refine List.filter_congr fun g _ => ?_
  unfold condG
  have := grpF_bound C (g : Int)
  simp only [Function.comp]
  rw [show (grpF C (g : Int) == 16) = decide (16 ≤ grpF C (g : Int)) by rw [Bool.eq_iff_iff]; simp; omega]
  cases decide (16 ≤ grpF C (g : Int)) <;> cases decide ((g : Int) ∈ H) <;> cases decide (least ≤ grpF L (g : Int)) <;> rfl
end Go.Pol
namespace Go.Proofs.YtefnnfcfigcikaaGreat
open Go Go.Proofs Go.RowKit Go.Pol Go.Shelf
attribute [local go_sem] Oper.semAt_some Go.Pol.wide_fn Go.Pol.wide_depth Go.Pol.wide_fn' Go.Pol.wide_depth'

set_option maxRecDepth 100000 in
set_option maxHeartbeats 3200000 in
theorem rgroups13N_any (S : Value) (C L : List Sp) (H : List Int) (least : Int) (w : World) (hS : StIs w S C L H) :
    Calls Tryz.prog 84 #[S, .int .i64 least] w (IntsN (groupsA C L H least) w) := by
  have HC := Lib.hid (fun W (h : StIs W S C L H) => rcheck13_any S C L H W h)
  have HLv := Lib.hid (fun g (hg : 0 ≤ g ∧ g < 64) (hL : Go.Pol.Can L) W (h : StIs W S C L H) => live13_any S C L H g W h hg hL)
  obtain ⟨i0, hi, hz0, hz1, hz2⟩ := info_parts infoIn
  have hS' := hS
  obtain ⟨A1, A2, A3, n1, c1, n2, c2, n3, c3, rfl, h1, h2, h3, h4, h5, h6, h7, h8, h9⟩ := hS.ex
  have hb0 := (Below.refl w.heap.size w).alloc (Nat.le_refl _) (.cells #[.slice A1 n1 c1, .slice A2 n2 c2, .slice A3 n3 c3] 52)
  have k0 := Blk.new w 52 #[.slice A1 n1 c1, .slice A2 n2 c2, .slice A3 n3 c3]
  have s0 := hS'.on hb0
  have HH := Lib.hid (fun (g : Int) W h => rHas_any A1 n1 c1 C (16 * g) 16 W h1 h2 h)
  have HI := Lib.hid (fun (g : Int) W h => in13_any g A3 n3 c3 H W h7 h8 h)
  have hA := Lib.hid (show groupsA C L H least = if chkH C L H ≠ 0 then ([], chkH C L H) else if least < 0 ∨ 16 < least then ([], 2) else (groupsF C L H least, 0) from rfl)
  have hcan := Lib.hid (fun h : chkH C L H = 0 => (⟨(chkH_zero.1 h).1, (chkH_zero.1 h).2.1⟩ : Go.Pol.Can C ∧ Go.Pol.Can L))
  generalize groupsA C L H least = R at *
  generalize chkH C L H = er at *
  have c0 := k0.cell
  clear hS hS' h1 h2 h4 h5 h7 h8 h3 h6 h9
  by_cases h0 : er = 0
  case neg =>
    have h0' : (er == 0) = false := by simpa using h0
    have h0'' : (er != 0) = true := by simpa using h0
    have hA' : Hid (R = ([], er)) := Lib.hid (by rw [hA.out, if_pos h0])
    clear hA h0
    go_enter Tryz.func84, Tryz.ntmps84
    go_wp2_with fail
    refine (HC.out _ s0).mono ?_
    rintro e w1 ⟨rfl, hb1⟩
    go_wp2_with fail
    go_ret2
    rw [hA'.out]
    exact IntsN.err (hb0.trans (hb1.mono hb0.size))
  case pos =>
    subst h0
    obtain ⟨canC, canL⟩ := hcan.out rfl
    have hA1 : Hid (R = if least < 0 ∨ 16 < least then ([], 2) else (groupsF C L H least, 0)) := Lib.hid (by rw [hA.out, if_neg (by simp)])
    clear hA hcan
    by_cases hl0 : least < 0
    · have hl0' : decide (least < 0) = true := by simpa using hl0
      have hA2 : Hid (R = ([], 2)) := Lib.hid (by rw [hA1.out, if_pos (.inl hl0)])
      clear hA1 hl0
      go_enter Tryz.func84, Tryz.ntmps84
      go_wp2_with fail
      refine (HC.out _ s0).mono ?_
      rintro e w1 ⟨rfl, hb1⟩
      go_wp2_with fail
      go_ret2
      rw [hA2.out]
      exact IntsN.err (hb0.trans (hb1.mono hb0.size))
    have hl0' : decide (least < 0) = false := by simpa using hl0
    by_cases hl1 : 16 < least
    · have hl1' : decide (16 < least) = true := by simpa using hl1
      have hA2 : Hid (R = ([], 2)) := Lib.hid (by rw [hA1.out, if_pos (.inr hl1)])
      clear hA1 hl0 hl1
      go_enter Tryz.func84, Tryz.ntmps84
      go_wp2_with fail
      refine (HC.out _ s0).mono ?_
      rintro e w1 ⟨rfl, hb1⟩
      go_wp2_with fail
      go_ret2
      rw [hA2.out]
      exact IntsN.err (hb0.trans (hb1.mono hb0.size))
    have hl1' : decide (16 < least) = false := by simpa using hl1
    have hA2 : Hid (R = (groupsN C L H least 64, 0)) := Lib.hid (by rw [hA1.out, if_neg (by omega), groupsN_eq])
    clear hA1 hl0 hl1
    go_enter Tryz.func84, Tryz.ntmps84
    go_wp2_with fail
    refine (HC.out _ s0).mono ?_
    rintro e w1 ⟨rfl, hb1⟩
    have k1 := k0.call hb1
    have s1 := s0.on hb1
    have B1 := hb0.trans (hb1.mono hb0.size)
    clear HC k0 s0 hb0 hb1 c0
    go_wp2_with fail
    have hG0 : groupsN C L H least 0 = [] := rfl
    go_loopw [7, 8] (fun v i wr => ∃ (k : Nat) (l : List Int), k ≤ 64 ∧ i = .int .i64 k ∧ Hid (groupsN C L H least k = l) ∧ l.length ≤ k ∧ wr.ownsRow w1.heap.size 3 1 v l.length (l.map (Value.int .i64)) ∧ Below w1.heap.size w1 wr) (fun _ i _ => 64 - (intOf i).toNat)
    case atStart => exact ⟨0, [], by omega, rfl, Lib.hid hG0, by simp, World.ownsRow_nil _ _ _ _, Below.refl _ _⟩
    case round =>
      clear hG0
      obtain ⟨k, l, hk, rfl, hfl, hlk, hrow, hB⟩ := hrel
      have k2 := k1.call hB
      have s2 := s1.on hB
      have B2 := B1.trans (hB.mono B1.size)
      by_cases hlt : k < 64
      · have hlt' : decide ((k : Int) < 64) = true := by rw [decide_eq_true_eq]; omega
        have hg : 0 ≤ (k : Int) ∧ (k : Int) < 64 := by omega
        have hsu := Lib.hid (groupsN_succ C L H least k)
        rw [hfl.out] at hsu
        obtain ⟨hb, hhb⟩ : ∃ hb, decide (16 ≤ grpF C (k : Int)) = hb := ⟨_, rfl⟩
        have G1 := Lib.hid (fun z : Ext wr => Ext.call (x := z) (span13_any (k : Int) z.w hg))
        have G2 := Lib.hid (fun (z : Ext wr) => Ext.call (x := z) (by
          have s3 := s2.on z.le
          obtain ⟨_, _, _, _, _, _, _, _, _, e, _, _, u, _⟩ := s3.ex
          cases e
          have := HH.out (k : Int) z.w u
          rw [askS_span canC hg] at this
          rw [show (decide ((0 : Int) = 0) && (cntF C (16 * (k : Int), 16) == 16)) = hb by
            rw [← hhb]
            have := grpF_bound C (k : Int)
            unfold grpF at *
            rw [Bool.eq_iff_iff]; simp; omega] at this
          exact this))
        have e1 := fun z : Ext wr => (z.blk k2).cell
        go_upto_region 10 with fail
        refine region_ext (by kernel_rfl) (by kernel_rfl) ?_
        repeat (go_big_quiet_step ((first | (go_at_call 61; exact G1.out _) | (go_at_call 60; exact G2.out _))))
        refine wpQuiet_nil ?_
        rintro w8 ⟨⟨_, hw8⟩, rfl⟩
        have k8 := k2.call hw8
        have s8 := s2.on hw8
        have c8 := k8.cell
        have hB8 := hB.trans (hw8.mono hB.size)
        have hrow8 := ownsRow_call hrow hw8
        clear e1 G1 G2
        have hcond : condG C L H least k = (hb && !decide ((k : Int) ∈ H) && decide (least ≤ grpF L (k : Int))) := by unfold condG; rw [hhb]
        have hcond' := Lib.hid hcond
        clear hcond hhb
        cases hb with
        | false =>
          have hsu2 : Hid (groupsN C L H least (k + 1) = l) := Lib.hid (by rw [hsu.out, hcond'.out]; simp)
          clear hsu
          go_wp2_with fail
          go_roundw
          case rel => exact ⟨k + 1, l, by omega, by go_num, hsu2, by omega, hrow8, hB8⟩
          case measure => simp [intOf]; omega
        | true =>
          have HI8 := Lib.hid (by
            obtain ⟨_, _, _, _, _, _, _, _, _, e, _, _, _, _, _, _, _, _, u⟩ := s8.ex
            cases e
            exact HI.out (k : Int) w8 u)
          have HL8 := Lib.hid (HLv.out (k : Int) hg canL w8 s8)
          by_cases hin : (k : Int) ∈ H
          · rw [decide_eq_true hin] at HI8 hcond'
            have hsu2 : Hid (groupsN C L H least (k + 1) = l) := Lib.hid (by rw [hsu.out, hcond'.out]; simp)
            clear hsu hin hcond'
            go_wp2_with fail
            refine HI8.out.mono ?_
            rintro e w9 ⟨rfl, hw9⟩
            have hw9' := hw9.symm
            clear hw9
            subst hw9'
            go_wp2_with fail
            go_roundw
            case rel => exact ⟨k + 1, l, by omega, by go_num, hsu2, by omega, hrow8, hB8⟩
            case measure => simp [intOf]; omega
          · rw [decide_eq_false hin] at HI8 hcond'
            clear hin
            generalize grpF L (k : Int) = lv at *
            by_cases hlv : least ≤ lv
            · have hlv' : decide (least ≤ lv) = true := by simpa using hlv
              have hsu2 : Hid (groupsN C L H least (k + 1) = l ++ [(k : Int)]) := Lib.hid (by rw [hsu.out, hcond'.out, hlv']; simp)
              clear hsu hcond' hlv
              go_wp2_with fail
              refine HI8.out.mono ?_
              rintro e w9 ⟨rfl, hw9⟩
              have hw9' := hw9.symm
              clear hw9
              subst hw9'
              go_wp2_with fail
              refine HL8.out.mono ?_
              rintro e w9 ⟨rfl, hb9⟩
              have hrow9 := ownsRow_call hrow8 hb9
              have hB9 := hB8.trans (hb9.mono hB8.size)
              obtain ⟨ll, hll⟩ : ∃ ll, l.length = ll := ⟨_, rfl⟩
              rw [hll] at hrow9 hlk
              have kN := Blk.new w9 3 #[.int .i64 (k : Int)]
              have hbN : Below w9.heap.size w9 (w9.alloc (.cells #[.int .i64 (k : Int)] 3)) := (Below.refl _ _).alloc (Nat.le_refl _) _
              clear hrow8 hrow c8
              go_wp2_with (refine wpList_append_own _ rfl (.tmp 53) (.tmp 55) 50 rfl w1.heap.size 3 i0 (.int .i64 0) 1 8 Tryz.underlying50 hi hz0 hz1 hz2 rfl (by decide) _ ll (l.map (Value.int .i64)) rfl (hrow9.alloc _) ⟨w9.heap.size, 0, none⟩ 1 1 [.int .i64 (k : Int)] rfl rfl (news_i kN) ints_one (by unfold maxLen; omega) (by omega) (by have := hB9.size; simp; omega) ?_; intro v' w7 hown' hgrow _; rw [show l.map (Value.int .i64) ++ [Value.int .i64 (k : Int)] = (l ++ [(k : Int)]).map (Value.int .i64) by simp] at hown')
              go_roundw
              case rel => exact ⟨k + 1, l ++ [(k : Int)], by omega, by go_num, hsu2, by rw [List.length_append, List.length_singleton, hll]; omega, by rw [List.length_append, List.length_singleton, hll]; exact hown', (hB9.trans (hbN.mono hB9.size)).grown hgrow (by have := hB9.size; simp; omega) (fun g hg => by have := (hrow9.lt g hg).1; omega)⟩
              case measure => simp [intOf]; omega
            · have hlv' : decide (least ≤ lv) = false := by simpa using hlv
              have hsu2 : Hid (groupsN C L H least (k + 1) = l) := Lib.hid (by rw [hsu.out, hcond'.out, hlv']; simp)
              clear hsu hcond' hlv
              go_wp2_with fail
              refine HI8.out.mono ?_
              rintro e w9 ⟨rfl, hw9⟩
              have hw9' := hw9.symm
              clear hw9
              subst hw9'
              go_wp2_with fail
              refine HL8.out.mono ?_
              rintro e w9 ⟨rfl, hb9⟩
              have hrow9 := ownsRow_call hrow8 hb9
              have hB9 := hB8.trans (hb9.mono hB8.size)
              go_wp2_with fail
              go_roundw
              case rel => exact ⟨k + 1, l, by omega, by go_num, hsu2, by omega, hrow9, hB9⟩
              case measure => simp [intOf]; omega
      · obtain rfl : k = 64 := by omega
        have hlt' : decide (((64 : Nat) : Int) < 64) = false := by decide
        rw [hfl.out] at hA2
        obtain ⟨A', cap', rfl, hru, _, _, hfr, _⟩ := own_Rd hrow
        go_wp2_with fail
        go_ret2
        rw [hA2.out]
        exact ⟨A', cap', rfl, hru, fun b o e => by have := hfr b o e; have := B1.size; omega, B2⟩
theorem rgroups13_any (S : Value) (C L : List Sp) (H : List Int) (least : Int) (w : World) (hS : StIs w S C L H) :
    Calls Tryz.prog 84 #[S, .int .i64 least] w (IntsE (groupsA C L H least) w) :=
  (rgroups13N_any S C L H least w hS).mono fun _ _ h => h.e
end Go.Proofs.YtefnnfcfigcikaaGreat
namespace Go.Pol
open Go Go.RowKit
theorem huge_len {C L : List Sp} {H : List Int} (h : chkH C L H = 0) : H.length ≤ 64 := by
  obtain ⟨_, _, h3, _, h5⟩ := chkH_zero.1 h
  have := huge_grps h3 h5
  rw [← this]
  refine Nat.le_trans (List.length_filter_le _ _) ?_
  simp [grps]
theorem groupsF_zero (C L : List Sp) (H : List Int) : groupsF C L H 0 = wholeF C H := by
  unfold groupsF
  rw [List.filter_eq_self]
  intro g _
  have := grpF_bound L g
  rw [decide_eq_true_eq]; omega
theorem idleF_snoc (L : List Sp) (l : List Int) (g : Int) : idleF L (l ++ [g]) = idleF L l + (16 - grpF L g) := by simp [idleF]
theorem idleF_bound (L : List Sp) : ∀ (l : List Int), 0 ≤ idleF L l ∧ idleF L l ≤ 16 * l.length
  | [] => by simp [idleF]
  | x :: r => by
    have h1 := grpF_bound L x
    have h2 := idleF_bound L r
    simp only [idleF, List.map_cons, List.sum_cons, List.length_cons] at h2 ⊢
    omega
/-- the huge groups that have a page of a set -/
def touchF (ps : List Sp) (H : List Int) : List Int := H.filter fun g => decide (0 < grpF ps g)
theorem touchF_snoc (ps : List Sp) (l : List Int) (g : Int) : touchF ps (l ++ [g]) = touchF ps l ++ if decide (0 < grpF ps g) = true then [g] else [] := by
  unfold touchF
  rw [List.filter_append]
  congr 1
  cases h : decide (0 < grpF ps g) <;> simp [h]
theorem touchF_len (ps : List Sp) (l : List Int) : (touchF ps l).length ≤ l.length := List.length_filter_le _ _
/-- what the reference's Split answers -/
def splitB (C L : List Sp) (H : List Int) (ps : List Sp) : List Int × Int :=
  if chkH C L H ≠ 0 then ([], chkH C L H) else if chkS ps ≠ 0 then ([], chkS ps) else if subF ps C = false then ([], 4) else (touchF ps H, 0)
end Go.Pol
namespace Go.Proofs.YtefnnfcfigcikaaGreat
open Go Go.Proofs Go.RowKit Go.Pol Go.Shelf
attribute [local go_sem] Oper.semAt_some Go.Pol.wide_fn Go.Pol.wide_depth Go.Pol.wide_fn' Go.Pol.wide_depth'

theorem StIs.parts {w : World} {A1 A2 A3 : Option Addr} {n1 c1 n2 c2 n3 c3 : Nat} {C L : List Sp} {H : List Int} (h : StIs w (.agg #[.slice A1 n1 c1, .slice A2 n2 c2, .slice A3 n3 c3]) C L H) : RU w w.heap.size A1 C ∧ RU w w.heap.size A2 L ∧ RI w w.heap.size A3 H := by
  obtain ⟨_, _, _, _, _, _, _, _, _, e, _, _, u, _, _, v, _, _, z⟩ := h.ex
  cases e
  exact ⟨u, v, z⟩
end Go.Proofs.YtefnnfcfigcikaaGreat
namespace Go.Proofs.YtefnnfcfigcikaaGreat
open Go Go.Proofs Go.RowKit Go.Pol Go.Shelf
attribute [local go_sem] Oper.semAt_some Go.Pol.wide_fn Go.Pol.wide_depth Go.Pol.wide_fn' Go.Pol.wide_depth'

def IntsO (l : List Int) (w : World) (e : Ending) (w' : World) : Prop := ∃ (A : Option Addr) (cap : Nat), e = .returned (.slice A l.length cap) ∧ RI w' w'.heap.size A l ∧ Below w.heap.size w w'
/-- such a list in memory of its own -/
def IntsON (l : List Int) (w : World) (e : Ending) (w' : World) : Prop := ∃ (A : Option Addr) (cap : Nat), e = .returned (.slice A l.length cap) ∧ RI w' w'.heap.size A l ∧ (∀ b o, A = some ⟨b, o, none⟩ → w.heap.size ≤ b) ∧ l.length ≤ cap ∧ Below w.heap.size w w'
def IntsNC (r : List Int × Int) (w : World) (e : Ending) (w' : World) : Prop := ∃ (A : Option Addr) (cap : Nat), e = .returned (.tuple #[.slice A r.1.length cap, .int .i64 r.2]) ∧ RI w' w'.heap.size A r.1 ∧ (∀ b o, A = some ⟨b, o, none⟩ → w.heap.size ≤ b) ∧ r.1.length ≤ cap ∧ Below w.heap.size w w'
theorem IntsNC.err {w w' : World} {c : Int} (hb : Below w.heap.size w w') : IntsNC ([], c) w (.returned (.tuple #[.slice none 0 0, .int .i64 c])) w' := ⟨none, 0, rfl, RI.nil, fun _ _ h => (by cases h), Nat.le_refl _, hb⟩
theorem IntsNC.e {r : List Int × Int} {w : World} {e : Ending} {w' : World} (h : IntsNC r w e w') : IntsE r w e w' := by
  obtain ⟨A, cap, h1, h2, _, _, h4⟩ := h
  exact ⟨A, cap, h1, h2, h4⟩
set_option maxRecDepth 100000 in
set_option maxHeartbeats 3200000 in
theorem touched13N_any (S : Value) (C L : List Sp) (H : List Int) (A : Option Addr) (n cap : Nat) (ps : List Sp) (w : World) (hS : StIs w S C L H) (hin : ∀ g ∈ H, inG g = true) (h64 : H.length ≤ 64) (hn : ps.length = n) (hm : n ≤ maxLen) (hr : RU w w.heap.size A ps) (hc : Go.Pol.Can ps) :
    Calls Tryz.prog 144 #[S, .slice A n cap] w (IntsON (touchF ps H) w) := by
  have HM := Lib.hid (fun (g : Int) W h => rMeets_any A n cap ps (16 * g) 16 W hn hm h)
  obtain ⟨i0, hi, hz0, hz1, hz2⟩ := info_parts infoIn
  have hS' := hS
  obtain ⟨A1, A2, A3, n1, c1, n2, c2, n3, c3, rfl, h1, h2, h3, h4, h5, h6, h7, h8, h9⟩ := hS.ex
  have hb0 := (Below.refl w.heap.size w).alloc (Nat.le_refl _) (.cells #[.slice A1 n1 c1, .slice A2 n2 c2, .slice A3 n3 c3] 52)
  have k0 := Blk.new w 52 #[.slice A1 n1 c1, .slice A2 n2 c2, .slice A3 n3 c3]
  have s0 := hS'.on hb0
  have r0 := hr.on hb0
  have hn3 := h7
  obtain ⟨R, hR⟩ : ∃ R, touchF ps H = R := ⟨_, rfl⟩
  rw [hR]
  have hR' := Lib.hid hR
  have hin' := Lib.hid hin
  rw [hn3] at h64
  clear hS hS' h1 h2 h4 h5 h7 h8 h3 h6 h9 hR hin hr hn
  go_enter Tryz.func144, Tryz.ntmps144
  go_upto_region 1 with fail
  generalize w.alloc (.cells #[.slice A1 n1 c1, .slice A2 n2 c2, .slice A3 n3 c3] 52) = w1 at *
  go_wp2_with fail
  have ht0 : touchF ps (H.take 0) = [] := rfl
  go_loopw [5, 6] (fun v i wr => ∃ (k : Nat) (l : List Int), k ≤ n3 ∧ i = .int .i64 k ∧ Hid (touchF ps (H.take k) = l) ∧ l.length ≤ k ∧ wr.ownsRow w1.heap.size 3 1 v l.length (l.map (Value.int .i64)) ∧ Below w1.heap.size w1 wr) (fun _ i _ => n3 - (intOf i).toNat)
  case atStart => exact ⟨0, [], by omega, rfl, Lib.hid ht0, by simp, World.ownsRow_nil _ _ _ _, Below.refl _ _⟩
  case round =>
    clear ht0
    obtain ⟨k, l, hk, rfl, hfl, hlk, hrow, hB⟩ := hrel
    have k2 := k0.call hB
    have s2 := s0.on hB
    have r2 := r0.on hB
    have B2 := hb0.trans (hB.mono hb0.size)
    have c2 := k2.cell
    by_cases hlt : k < n3
    · have hlt' : decide ((k : Int) < (n3 : Int)) = true := by simpa using hlt
      have hts := take_snocI H k (by omega)
      have hsn := touchF_snoc ps (H.take k) (H.getD k 0)
      rw [← hts, hfl.out] at hsn
      have hg := inG_iff.1 (hin'.out _ (getD_memI (bs := H) (k := k) (by omega)))
      obtain ⟨b, o, rfl, _, c5⟩ := s2.parts.2.2.at_ (k := k) (by omega)
      generalize H.getD k 0 = x at *
      have hsn' := Lib.hid hsn
      have HSp := Lib.hid (span13_any x wr hg)
      have HM2 := fun W h => HM.out x W h
      rw [askS_span hc hg] at HM2
      obtain ⟨tb, htb⟩ : ∃ tb, decide (0 < grpF ps x) = tb := ⟨_, rfl⟩
      rw [show (decide ((0 : Int) = 0) && decide (0 < cntF ps (16 * x, 16))) = tb by rw [← htb, Bool.eq_iff_iff, Bool.and_eq_true, decide_eq_true_iff, decide_eq_true_iff, decide_eq_true_iff]; exact ⟨fun h => h.2, fun h => ⟨rfl, h⟩⟩] at HM2
      rw [htb] at hsn'
      have HM3 := Lib.hid HM2
      clear hsn hts htb HM2
      go_wp2_with fail
      refine HSp.out.mono ?_
      rintro e w3 ⟨rfl, hb3⟩
      have r3 := r2.on hb3
      have k3 := k2.call hb3
      have hB3 := hB.trans (hb3.mono hB.size)
      have hrow3 := ownsRow_call hrow hb3
      have d5 := (hb3.cell (World.block_lt_of_cell? _ _ c5)).trans c5
      go_wp2_with fail
      refine (HM3.out _ r3).mono ?_
      rintro e w4 ⟨rfl, hb4⟩
      have k4 := k3.call hb4
      have c4 := k4.cell
      have hB4 := hB3.trans (hb4.mono hB3.size)
      have hrow4 := ownsRow_call hrow3 hb4
      have d6 := (hb4.cell (World.block_lt_of_cell? _ _ d5)).trans d5
      clear hrow hrow3 c2 c5 d5 r2 r3
      cases tb with
      | false =>
        have hsu2 : Hid (touchF ps (H.take (k + 1)) = l) := Lib.hid (by rw [hsn'.out]; simp)
        clear hsn'
        go_wp2_with fail
        go_roundw
        case rel => exact ⟨k + 1, l, by omega, by go_num, hsu2, by omega, hrow4, hB4⟩
        case measure => simp [intOf]; omega
      | true =>
        have hsu2 : Hid (touchF ps (H.take (k + 1)) = l ++ [x]) := Lib.hid (by rw [hsn'.out]; simp)
        clear hsn'
        obtain ⟨ll, hll⟩ : ∃ ll, l.length = ll := ⟨_, rfl⟩
        rw [hll] at hrow4 hlk
        have kN := Blk.new w4 3 #[.int .i64 x]
        have hbN : Below w4.heap.size w4 (w4.alloc (.cells #[.int .i64 x] 3)) := (Below.refl _ _).alloc (Nat.le_refl _) _
        go_wp2_with (refine wpList_append_own _ rfl (.tmp 28) (.tmp 34) 50 rfl w1.heap.size 3 i0 (.int .i64 0) 1 8 Tryz.underlying50 hi hz0 hz1 hz2 rfl (by decide) _ ll (l.map (Value.int .i64)) rfl (hrow4.alloc _) ⟨w4.heap.size, 0, none⟩ 1 1 [.int .i64 x] rfl rfl (news_i kN) ints_one (by unfold maxLen; omega) (by omega) (by have := hB4.size; simp; omega) ?_; intro v' w7 hown' hgrow _; rw [show l.map (Value.int .i64) ++ [Value.int .i64 x] = (l ++ [x]).map (Value.int .i64) by simp] at hown')
        go_roundw
        case rel => exact ⟨k + 1, l ++ [x], by omega, by go_num, hsu2, by rw [List.length_append, List.length_singleton, hll]; omega, by rw [List.length_append, List.length_singleton, hll]; exact hown', (hB4.trans (hbN.mono hB4.size)).grown hgrow (by have := hB4.size; simp; omega) (fun g hg => by have := (hrow4.lt g hg).1; omega)⟩
        case measure => simp [intOf]; omega
    · obtain rfl : k = n3 := by omega
      have hlt' : decide ((k : Int) < (k : Int)) = false := by simp
      have hR2 : R = l := by rw [← hR'.out, ← hfl.out, List.take_of_length_le (by omega)]
      obtain ⟨A', cap', rfl, hru, hnc, _, hfr, _⟩ := own_Rd hrow
      subst hR2
      go_wp2_with fail
      go_ret
      exact ⟨A', cap', rfl, hru, fun b' o' h' => by have := hfr b' o' h'; have := hb0.size; omega, hnc, B2⟩
theorem touched13_any (S : Value) (C L : List Sp) (H : List Int) (A : Option Addr) (n cap : Nat) (ps : List Sp) (w : World) (hS : StIs w S C L H) (hin : ∀ g ∈ H, inG g = true) (h64 : H.length ≤ 64) (hn : ps.length = n) (hm : n ≤ maxLen) (hr : RU w w.heap.size A ps) (hc : Go.Pol.Can ps) :
    Calls Tryz.prog 144 #[S, .slice A n cap] w (IntsO (touchF ps H) w) :=
  (touched13N_any S C L H A n cap ps w hS hin h64 hn hm hr hc).mono fun _ _ ⟨A', c', h1, h2, _, _, h4⟩ => ⟨A', c', h1, h2, h4⟩
set_option maxRecDepth 100000 in
set_option maxHeartbeats 3200000 in
theorem rsplit13N_any (S : Value) (C L : List Sp) (H : List Int) (A : Option Addr) (n cap : Nat) (ps : List Sp) (w : World) (hS : StIs w S C L H) (hn : ps.length = n) (hm : n ≤ maxLen) (hr : RU w w.heap.size A ps) :
    Calls Tryz.prog 92 #[S, .slice A n cap] w (IntsNC (splitB C L H ps) w) := by
  have HCk := Lib.hid (fun W (h : StIs W S C L H) => rcheck13_any S C L H W h)
  have HP := Lib.hid (fun W h => refSpCheck_any A n cap ps W hn hm h)
  have HT := Lib.hid (fun W (h : StIs W S C L H) hin h64 hr hc => touched13N_any S C L H A n cap ps W h hin h64 hn hm hr hc)
  have hS' := hS
  obtain ⟨A1, A2, A3, n1, c1, n2, c2, n3, c3, rfl, h1, h2, h3, h4, h5, h6, h7, h8, h9⟩ := hS.ex
  have HM := Lib.hid (fun W (hr1 : RU W W.heap.size A ps) (hr2 : RU W W.heap.size A1 C) => rMinus_any A A1 n cap n1 c1 ps C W hn hm hr1 h1 h2 hr2)
  have hb0 := (Below.refl w.heap.size w).alloc (Nat.le_refl _) (.cells #[.slice A1 n1 c1, .slice A2 n2 c2, .slice A3 n3 c3] 52)
  have k0 := Blk.new w 52 #[.slice A1 n1 c1, .slice A2 n2 c2, .slice A3 n3 c3]
  have s0 := hS'.on hb0
  have r0 := hr.on hb0
  have hA := Lib.hid (show splitB C L H ps = if chkH C L H ≠ 0 then ([], chkH C L H) else if chkS ps ≠ 0 then ([], chkS ps) else if subF ps C = false then ([], 4) else (touchF ps H, 0) from rfl)
  have hcan := Lib.hid (fun h : chkH C L H = 0 => (⟨(chkH_zero.1 h).1, (chkH_zero.1 h).2.2.1, huge_len h⟩ : Go.Pol.Can C ∧ (∀ g ∈ H, inG g = true) ∧ H.length ≤ 64))
  generalize splitB C L H ps = R at *
  generalize chkH C L H = er at *
  have c0 := k0.cell
  clear hS hS' h1 h2 h4 h5 h7 h8 h3 h6 h9 hn hr
  by_cases h0 : er = 0
  case neg =>
    have h0' : (er == 0) = false := by simpa using h0
    have h0'' : (er != 0) = true := by simpa using h0
    have hA' : Hid (R = ([], er)) := Lib.hid (by rw [hA.out, if_pos h0])
    clear hA h0
    go_enter Tryz.func92, Tryz.ntmps92
    go_wp2_with fail
    refine (HCk.out _ s0).mono ?_
    rintro e w1 ⟨rfl, hb1⟩
    go_wp2_with fail
    go_ret2
    rw [hA'.out]
    exact IntsNC.err (hb0.trans (hb1.mono hb0.size))
  case pos =>
    subst h0
    obtain ⟨canC, hin, h64⟩ := hcan.out rfl
    have hA1 : Hid (R = if chkS ps ≠ 0 then ([], chkS ps) else if subF ps C = false then ([], 4) else (touchF ps H, 0)) := Lib.hid (by rw [hA.out, if_neg (by simp)])
    clear hA hcan
    by_cases hc : chkS ps = 0
    case neg =>
      have hc2 : (chkS ps != 0) = true := by simpa using hc
      have hA' : Hid (R = ([], chkS ps)) := Lib.hid (by rw [hA1.out, if_pos hc])
      generalize chkS ps = ec at *
      clear hA1 hc
      go_enter Tryz.func92, Tryz.ntmps92
      go_wp2_with fail
      refine (HCk.out _ s0).mono ?_
      rintro e w1 ⟨rfl, hb1⟩
      have B1 := hb0.trans (hb1.mono hb0.size)
      have r1 := r0.on hb1
      go_wp2_with fail
      refine (HP.out _ r1).mono ?_
      rintro e w2 ⟨rfl, hb2⟩
      go_wp2_with fail
      go_ret2
      rw [hA'.out]
      exact IntsNC.err (B1.trans (hb2.mono B1.size))
    case pos =>
      rw [hc] at HP
      have hcan := chkS_zero.1 hc
      have hA2 : Hid (R = if subF ps C = false then ([], 4) else (touchF ps H, 0)) := Lib.hid (by rw [hA1.out, if_neg (by simp [hc])])
      obtain ⟨e1, e2⟩ := minus_nil hcan canC
      rw [e1] at HM
      clear hA1 hc e1
      by_cases hsub : subF ps C = true
      case neg =>
        have hA' : Hid (R = ([], 4)) := Lib.hid (by rw [hA2.out, if_pos (by simpa using hsub)])
        have hpos : 0 < (combF 3 ps C).length := List.length_pos_iff.2 (fun h => hsub (e2.1 h))
        generalize combF 3 ps C = M at *
        obtain ⟨ml, hml⟩ : ∃ ml, M.length = ml := ⟨_, rfl⟩
        unfold SpansR at HM
        rw [hml] at HM hpos
        have hp' : decide (0 < (ml : Int)) = true := by rw [decide_eq_true_eq]; omega
        have hp2 : decide (0 < ml) = true := by rw [decide_eq_true_eq]; omega
        clear e2 hsub hA2
        go_enter Tryz.func92, Tryz.ntmps92
        go_wp2_with fail
        refine (HCk.out _ s0).mono ?_
        rintro e w1 ⟨rfl, hb1⟩
        have B1 := hb0.trans (hb1.mono hb0.size)
        have r1 := r0.on hb1
        have k1 := k0.call hb1
        have s1 := s0.on hb1
        go_wp2_with fail
        refine (HP.out _ r1).mono ?_
        rintro e w2 ⟨rfl, hb2⟩
        have B2 := B1.trans (hb2.mono B1.size)
        have r2 := r1.on hb2
        have k2 := k1.call hb2
        have s2 := s1.on hb2
        have c2 := k2.cell
        clear k1 s1 r1 c0 k0 s0 r0
        go_wp2_with fail
        refine (HM.out _ r2 s2.parts.1).mono ?_
        rintro e w3 ⟨A9, c9, rfl, u9, _, _, _, hb3⟩
        go_wp2_with fail
        go_ret2
        rw [hA'.out]
        exact IntsNC.err (B2.trans (hb3.mono B2.size))
      case pos =>
        have hM : combF 3 ps C = [] := e2.2 hsub
        rw [hM] at HM
        unfold SpansR at HM
        have hA' : Hid (R = (touchF ps H, 0)) := Lib.hid (by rw [hA2.out, if_neg (by rw [hsub]; decide)])
        have HT2 := Lib.hid (fun W h hr => HT.out W h hin h64 hr hcan)
        unfold IntsON at HT2
        generalize touchF ps H = TF at *
        clear e2 hsub hM hA2 HT hin h64
        go_enter Tryz.func92, Tryz.ntmps92
        go_wp2_with fail
        refine (HCk.out _ s0).mono ?_
        rintro e w1 ⟨rfl, hb1⟩
        have B1 := hb0.trans (hb1.mono hb0.size)
        have r1 := r0.on hb1
        have k1 := k0.call hb1
        have s1 := s0.on hb1
        go_wp2_with fail
        refine (HP.out _ r1).mono ?_
        rintro e w2 ⟨rfl, hb2⟩
        have B2 := B1.trans (hb2.mono B1.size)
        have r2 := r1.on hb2
        have k2 := k1.call hb2
        have s2 := s1.on hb2
        have c2 := k2.cell
        clear k1 s1 r1 c0 k0 s0 r0
        go_wp2_with fail
        refine (HM.out _ r2 s2.parts.1).mono ?_
        rintro e w3 ⟨A9, c9, rfl, u9, _, _, _, hb3⟩
        have B3 := B2.trans (hb3.mono B2.size)
        have r3 := r2.on hb3
        have k3 := k2.call hb3
        have s3 := s2.on hb3
        have c3 := k3.cell
        clear c2 k2 s2 r2
        go_wp2_with fail
        refine (HT2.out _ s3 r3).mono ?_
        rintro e w4 ⟨A8, c8, rfl, u8, f8, g8, hb4⟩
        go_wp2_with fail
        go_ret2
        rw [hA'.out]
        exact ⟨A8, c8, rfl, u8, fun b' o' h' => by have := f8 b' o' h'; have := B3.size; omega, g8, B3.trans (hb4.mono B3.size)⟩
theorem rsplit13_any (S : Value) (C L : List Sp) (H : List Int) (A : Option Addr) (n cap : Nat) (ps : List Sp) (w : World) (hS : StIs w S C L H) (hn : ps.length = n) (hm : n ≤ maxLen) (hr : RU w w.heap.size A ps) :
    Calls Tryz.prog 92 #[S, .slice A n cap] w (IntsE (splitB C L H ps) w) :=
  (rsplit13N_any S C L H A n cap ps w hS hn hm hr).mono fun _ _ h => h.e
end Go.Proofs.YtefnnfcfigcikaaGreat
namespace Go.Pol
open Go Go.RowKit
def exC13 : List Sp := [(0, 48)]
def exL13 : List Sp := [(0, 10), (16, 14)]
def exH13 : List Int := [0, 1]
end Go.Pol
namespace Go.Proofs.YtefnnfcfigcikaaGreat
open Go Go.Proofs Go.RowKit Go.Pol Go.Shelf
attribute [local go_sem] Oper.semAt_some Go.Pol.wide_fn Go.Pol.wide_depth Go.Pol.wide_fn' Go.Pol.wide_depth'

theorem ints13_any (A B : Option Addr) (n cap cap' : Nat) (xs : List Int) (w : World) (hn : xs.length = n) (hm : n ≤ 1000000) (hr : RI w w.heap.size A xs) (hs : RI w w.heap.size B xs) :
    Calls Tryz.prog 27 #[.slice A n cap, .slice B n cap'] w fun e w' => e = .returned (.bool true) ∧ Below w.heap.size w w' := by
  have hn' := Lib.hid hn
  clear hn
  have hne : ((n : Int) != n) = false := by simp
  go_enter Tryz.func27, Tryz.ntmps27
  go_wp2_with fail
  go_loopw [5] (fun i wr => ∃ k : Nat, k ≤ n ∧ i = .int .i64 k ∧ Below w.heap.size w wr) (fun i _ => n - (intOf i).toNat)
  case atStart => exact ⟨0, by omega, rfl, Below.refl _ _⟩
  case round =>
    obtain ⟨k, hk, rfl, hB⟩ := hrel
    by_cases hlt : k < n
    · have hlt' : decide ((k : Int) < (n : Int)) = true := by simp; omega
      obtain ⟨b, o, rfl, hbl, hc⟩ := (hr.below hB).at_ (k := k) (by have := hn'.out; omega)
      obtain ⟨b2, o2, rfl, hbl2, hc2⟩ := (hs.below hB).at_ (k := k) (by have := hn'.out; omega)
      generalize xs.getD k 0 = x at *
      have q1 := fun z : Ext wr => z.cell hc
      have q2 := fun z : Ext wr => z.cell hc2
      have hxx : (x != x) = false := by simp
      go_upto_region 6 with fail
      refine region_ext (by kernel_rfl) (by kernel_rfl) ?_
      repeat (go_big_quiet_step (fail))
      refine wpQuiet_nil ?_
      rintro w1 ⟨⟨_, hw1⟩, rfl⟩
      go_wp2_with fail
      go_roundw
      case rel => exact ⟨k + 1, by omega, by go_num, hB.trans (hw1.mono hB.size)⟩
      case measure => simp [intOf]; omega
    · have hlt' : decide ((k : Int) < (n : Int)) = false := by simp; omega
      go_wp2_with fail
      go_ret
      exact ⟨rfl, hB⟩
/-- is a state more than is looked at? -/
def farP (n1 n2 n3 : Nat) (most : Int) : Bool := decide (520 < n1) || decide (520 < n2) || (decide (most < (n3 : Int)) && decide (n3 ≤ 64)) || decide (70 < n3)
set_option maxHeartbeats 1600000 in
theorem far13_any (A1 A2 A3 : Option Addr) (n1 c1 n2 c2 n3 c3 : Nat) (most : Int) (w : World) :
    Calls Tryz.prog 19 #[.agg #[.slice A1 n1 c1, .slice A2 n2 c2, .slice A3 n3 c3], .int .i64 most] w fun e w' => e = .returned (.bool (farP n1 n2 n3 most)) ∧ Below w.heap.size w w' := by
  have hb0 := (Below.refl w.heap.size w).alloc (Nat.le_refl _) (.cells #[.slice A1 n1 c1, .slice A2 n2 c2, .slice A3 n3 c3] 52)
  have k0 := Blk.new w 52 #[.slice A1 n1 c1, .slice A2 n2 c2, .slice A3 n3 c3]
  have c0 := k0.cell
  have e1 : decide (520 < (n1 : Int)) = decide (520 < n1) := by rw [Bool.eq_iff_iff]; simp; omega
  have e2 : decide (520 < (n2 : Int)) = decide (520 < n2) := by rw [Bool.eq_iff_iff]; simp; omega
  have e3 : decide ((n3 : Int) ≤ 64) = decide (n3 ≤ 64) := by rw [Bool.eq_iff_iff]; simp; omega
  have e4 : decide (70 < (n3 : Int)) = decide (70 < n3) := by rw [Bool.eq_iff_iff]; simp; omega
  have hF := Lib.hid (show farP n1 n2 n3 most = (decide (520 < n1) || decide (520 < n2) || (decide (most < (n3 : Int)) && decide (n3 ≤ 64)) || decide (70 < n3)) from rfl)
  generalize farP n1 n2 n3 most = R at *
  rw [← e1, ← e2, ← e3, ← e4] at hF
  clear e1 e2 e3 e4
  cases b1 : decide (520 < (n1 : Int)) <;> cases b2 : decide (520 < (n2 : Int)) <;> cases b3 : decide (most < (n3 : Int)) <;> cases b4 : decide ((n3 : Int) ≤ 64) <;> cases b5 : decide (70 < (n3 : Int)) <;> (
    rw [b1, b2, b3, b4, b5] at hF
    go_enter Tryz.func19, Tryz.ntmps19
    go_wp2_with fail
    go_ret
    exact ⟨ret_bool (by rw [hF.out]; rfl), hb0⟩)
theorem ru_blk {w : World} {g : Nat} {t : TypeId} (us : List Sp) {cs : Array Value} (h : Blk w g t cs) (hc : cs.toList = spCells us) : RU w w.heap.size (some ⟨g, 0, none⟩) us := fun k hk => by
  have := spCells_at us k hk
  refine ⟨g, 0, rfl, h.lt, ?_, ?_⟩
  · rw [h.cell, Nat.zero_add, ← Array.getElem?_toList, hc]; exact this.1
  · rw [h.cell, Nat.zero_add, ← Array.getElem?_toList, hc]; exact this.2
theorem ri_blk {w : World} {g : Nat} {t : TypeId} (us : List Int) {cs : Array Value} (h : Blk w g t cs) (hc : cs.toList = us.map (Value.int .i64)) : RI w w.heap.size (some ⟨g, 0, none⟩) us := by
  intro k hk
  rw [List.length_map] at hk
  refine ⟨g, 0, rfl, h.lt, ?_⟩
  rw [h.cell, Nat.zero_add, ← Array.getElem?_toList, hc]
  rw [List.getElem?_map, List.getElem?_eq_getElem hk]; simp
theorem example13_any (w : World) : Calls Tryz.prog 62 #[] w fun e w' => ∃ S, e = .returned S ∧ StIs w' S exC13 exL13 exH13 ∧ Below w.heap.size w w' := by
  have hSt : ∀ (W : World) (s : Nat) (B : Below s w W), w.heap.size = s → Blk W (s + 1) 134 #[.int .i64 0, .int .i64 48] → Blk W (s + 1 + 1) 134 #[.int .i64 0, .int .i64 10, .int .i64 16, .int .i64 14] → Blk W (s + 1 + 1 + 1) 3 #[.int .i64 0, .int .i64 1] →
      StIs W (.agg #[.slice (some ⟨s + 1, 0, none⟩) 1 1, .slice (some ⟨s + 1 + 1, 0, none⟩) 2 2, .slice (some ⟨s + 1 + 1 + 1, 0, none⟩) 2 2]) exC13 exL13 exH13 := fun W s B _ k1 k2 k3 =>
    ⟨_, _, _, _, _, _, _, _, _, rfl, rfl, by unfold maxLen; omega, ru_blk exC13 k1 rfl, rfl, by unfold maxLen; omega, ru_blk exL13 k2 rfl, rfl, by unfold maxLen; omega, ri_blk exH13 k3 rfl⟩
  have hSt' := Lib.hid hSt
  obtain ⟨W4, hW4⟩ : ∃ W4, ((((w.alloc (.cells #[.slice (some ⟨w.heap.size + 1, 0, none⟩) 1 1, .slice (some ⟨w.heap.size + 1 + 1, 0, none⟩) 2 2, .slice (some ⟨w.heap.size + 1 + 1 + 1, 0, none⟩) 2 2] 52)).alloc (.cells #[.int .i64 0, .int .i64 48] 134)).alloc
    (.cells #[.int .i64 0, .int .i64 10, .int .i64 16, .int .i64 14] 134)).alloc (.cells #[.int .i64 0, .int .i64 1] 3)) = W4 := ⟨_, rfl⟩
  have hB : Below w.heap.size w W4 := by rw [← hW4]; exact ((((Below.refl w.heap.size w).alloc (Nat.le_refl _) _).alloc (by simp) _).alloc (by simp; omega) _).alloc (by simp; omega) _
  have k0 : Blk W4 w.heap.size 52 #[.slice (some ⟨w.heap.size + 1, 0, none⟩) 1 1, .slice (some ⟨w.heap.size + 1 + 1, 0, none⟩) 2 2, .slice (some ⟨w.heap.size + 1 + 1 + 1, 0, none⟩) 2 2] := by
    rw [← hW4]; exact (((Blk.new _ _ _).alloc _).alloc _).alloc _
  have k1 : Blk W4 (w.heap.size + 1) 134 #[.int .i64 0, .int .i64 48] := by
    rw [← hW4]; have := Blk.new (w.alloc (.cells #[.slice (some ⟨w.heap.size + 1, 0, none⟩) 1 1, .slice (some ⟨w.heap.size + 1 + 1, 0, none⟩) 2 2, .slice (some ⟨w.heap.size + 1 + 1 + 1, 0, none⟩) 2 2] 52)) 134 #[.int .i64 0, .int .i64 48]
    rw [World.size_alloc] at this; exact (this.alloc _).alloc _
  have k2 : Blk W4 (w.heap.size + 1 + 1) 134 #[.int .i64 0, .int .i64 10, .int .i64 16, .int .i64 14] := by
    rw [← hW4]; have := Blk.new ((w.alloc (.cells #[.slice (some ⟨w.heap.size + 1, 0, none⟩) 1 1, .slice (some ⟨w.heap.size + 1 + 1, 0, none⟩) 2 2, .slice (some ⟨w.heap.size + 1 + 1 + 1, 0, none⟩) 2 2] 52)).alloc (.cells #[.int .i64 0, .int .i64 48] 134)) 134 #[.int .i64 0, .int .i64 10, .int .i64 16, .int .i64 14]
    rw [World.size_alloc, World.size_alloc] at this; exact this.alloc _
  have k3 : Blk W4 (w.heap.size + 1 + 1 + 1) 3 #[.int .i64 0, .int .i64 1] := by
    rw [← hW4]; have := Blk.new (((w.alloc (.cells #[.slice (some ⟨w.heap.size + 1, 0, none⟩) 1 1, .slice (some ⟨w.heap.size + 1 + 1, 0, none⟩) 2 2, .slice (some ⟨w.heap.size + 1 + 1 + 1, 0, none⟩) 2 2] 52)).alloc (.cells #[.int .i64 0, .int .i64 48] 134)).alloc (.cells #[.int .i64 0, .int .i64 10, .int .i64 16, .int .i64 14] 134)) 3 #[.int .i64 0, .int .i64 1]
    rw [World.size_alloc, World.size_alloc, World.size_alloc] at this; exact this
  have hW4' := Lib.hid hW4
  have hst := Lib.hid (hSt W4 w.heap.size hB rfl k1 k2 k3)
  have c0 := k0.cell
  clear hSt hSt' hW4 k1 k2 k3
  go_enter Tryz.func62, Tryz.ntmps62
  go_wp2_with fail
  rw [hW4'.out]
  exact bodyPost_ret (v := .agg #[.slice (some ⟨w.heap.size + 1, 0, none⟩) 1 1, .slice (some ⟨w.heap.size + 1 + 1, 0, none⟩) 2 2, .slice (some ⟨w.heap.size + 1 + 1 + 1, 0, none⟩) 2 2]) (by simp [results, Tryz.results62, go_sem, c0]) rfl ⟨_, rfl, hst.out, hB⟩
end Go.Proofs.YtefnnfcfigcikaaGreat
namespace Go.Pol
open Go
def exO13 : List Gp := [(0, 16, 10, true), (1, 16, 14, true)]
theorem ex13_groups : groupsA exC13 exL13 exH13 0 = ([2], 0) := by decide +kernel
theorem ex13_score : scoreA exC13 exL13 exH13 = (2, 1, 8, 0) := by decide +kernel
theorem ex13_split : splitA exC13 exL13 exH13 [(8, 13)] = ([0, 1], 0) := by decide +kernel
theorem ex13_huge : (gsH exC13 exL13 exH13).filter hugeP = exO13 := by decide +kernel
theorem ex13_choose17 : chooseA exC13 exL13 exH13 17 exO13 = ([(10, 6), (32, 11)], 0) := by decide +kernel
theorem ex13_choose23 : chooseA exC13 exL13 exH13 23 exO13 = ([(10, 6), (30, 17)], 0) := by decide +kernel
theorem insInner_size {α : Type} [Inhabited α] (lt : α → α → Bool) (a : Nat) : ∀ (j : Nat) (d : Array α), (Sort.insInner lt a j d).size = d.size
  | 0, _ => rfl
  | j + 1, d => by
    rw [Sort.insInner]
    split
    · rw [insInner_size lt a j, Sort.size_swp]
    · rfl
theorem insOuter_size {α : Type} [Inhabited α] (lt : α → α → Bool) (a b : Nat) : ∀ (k i : Nat) (d : Array α), b - i ≤ k → (Sort.insOuter lt a b i d).size = d.size
  | 0, i, d, h => by rw [Sort.insOuter, if_neg (by omega)]
  | k + 1, i, d, h => by
    rw [Sort.insOuter]
    split
    · rw [insOuter_size lt a b k (i + 1) _ (by omega), insInner_size]
    · rfl
theorem insSort_size {α : Type} [Inhabited α] (lt : α → α → Bool) (a b : Nat) (d : Array α) : (Sort.insertionSort lt d a b).size = d.size := insOuter_size lt a b _ _ d (Nat.le_refl _)
end Go.Pol
namespace Go.Proofs.YtefnnfcfigcikaaGreat
open Go Go.Proofs Go.RowKit Go.Pol
theorem ex13_ord : (Sort.insertionSort ltL exO13.toArray 0 2).toList = exO13 := by
  simp [Sort.insertionSort, Sort.insOuter, Sort.insInner, ltL, exO13]
end Go.Proofs.YtefnnfcfigcikaaGreat
namespace Go.Proofs.YtefnnfcfigcikaaGreat
open Go Go.Proofs Go.RowKit Go.Pol Go.Shelf
attribute [local go_sem] Oper.semAt_some Go.Pol.wide_fn Go.Pol.wide_depth Go.Pol.wide_fn' Go.Pol.wide_depth'

theorem exChoose_any (S : Value) (n : Int) (R : List Sp × Int) (hR : chooseA exC13 exL13 exH13 n exO13 = R) (w : World) (hS : StIs w S exC13 exL13 exH13) : Calls Tryz.prog 28 #[S, .int .i64 n] w (SpE R w) := by
  have h := choose_anyF S exC13 exL13 exH13 n (fun d => Sort.insertionSort ltL d 0 2) exO13 w hS (fun _ => by rw [ex13_huge]; exact stable20 2 (by omega)) (fun d => insSort_size _ _ _ d) (by rw [ex13_huge]; exact ex13_ord) (by rw [ex13_huge])
  rw [hR] at h; exact h
theorem exGroups_any (S : Value) (w : World) (hS : StIs w S exC13 exL13 exH13) : Calls Tryz.prog 23 #[S, .int .i64 0] w (IntsE ([2], 0) w) := by
  have h := groups_any S exC13 exL13 exH13 0 w hS
  rw [ex13_groups] at h; exact h
theorem exScore_any (S : Value) (w : World) (hS : StIs w S exC13 exL13 exH13) : Calls Tryz.prog 24 #[S] w fun e w' => e = .returned (.tuple #[.int .i64 2, .int .i64 1, .int .i64 8, .int .i64 0]) ∧ Below w.heap.size w w' := by
  have h := score_any S exC13 exL13 exH13 w hS
  rw [ex13_score] at h; exact h
theorem exSplit_any (S : Value) (A : Option Addr) (w : World) (hS : StIs w S exC13 exL13 exH13) (hr : RU w w.heap.size A [(8, 13)]) : Calls Tryz.prog 63 #[S, .slice A 1 1] w (IntsE ([0, 1], 0) w) := by
  have h := split_any S exC13 exL13 exH13 A 1 1 [(8, 13)] w hS rfl (by unfold maxLen; omega) hr
  rw [ex13_split] at h; exact h
set_option maxRecDepth 100000 in
set_option maxHeartbeats 3200000 in
theorem awake13_any (w : World) : Calls Tryz.prog 21 #[] w fun e w' => e = .returned (.bool true) ∧ Below w.heap.size w w' := by
  obtain ⟨s, hs⟩ : ∃ s, w.heap.size = s := ⟨_, rfl⟩
  have hs' := Lib.hid hs
  have B0 : Hid (Below s w w ∧ s ≤ w.heap.size) := Lib.hid ⟨Below.refl _ _, by omega⟩
  clear hs
  go_enter Tryz.func21, Tryz.ntmps21
  go_wp2_with fail
  refine (example13_any _).mono ?_
  rintro e w1 ⟨S1, rfl, s1, hb1⟩
  go_wp2_with fail
  refine (exGroups_any S1 _ s1).mono ?_
  rintro e w2 ⟨O2, c2, rfl, u2, hb2⟩
  have B2 := hb1.trans (hb2.mono hb1.size)
  clear s1 hb1 hb2
  go_wp2_with fail
  refine (example13_any _).mono ?_
  rintro e w3 ⟨S3, rfl, s3, hb3⟩
  go_wp2_with fail
  refine (exScore_any S3 _ s3).mono ?_
  rintro e w4 ⟨rfl, hb4⟩
  have b34 := hb3.trans (hb4.mono hb3.size)
  have B4 := B2.trans (b34.mono B2.size)
  have u4 := RI.on u2 b34
  clear s3 hb3 hb4 b34 B2 u2
  go_wp2_with fail
  refine (example13_any _).mono ?_
  rintro e w5 ⟨S5, rfl, s5, hb5⟩
  have kP := Blk.new w5 134 #[.int .i64 8, .int .i64 13]
  have hbP : Below w5.heap.size w5 (w5.alloc (.cells #[.int .i64 8, .int .i64 13] 134)) := (Below.refl _ _).alloc (Nat.le_refl _) _
  have sP := s5.on hbP
  have rP := ru_blk [(8, 13)] kP rfl
  go_wp2_with fail
  refine (exSplit_any S5 _ _ sP rP).mono ?_
  rintro e w6 ⟨O6, c6, rfl, u6, hb6⟩
  have b56 := hb5.trans ((hbP.trans (hb6.mono hbP.size)).mono hb5.size)
  have B6 := B4.trans (b56.mono B4.size)
  have v4 := RI.on u4 b56
  clear s5 hb5 hb6 hbP kP sP rP b56 B4 u4
  go_wp2_with fail
  refine (example13_any _).mono ?_
  rintro e w7 ⟨S7, rfl, s7, hb7⟩
  go_wp2_with fail
  refine (exChoose_any S7 17 _ ex13_choose17 _ s7).mono ?_
  rintro e w8 ⟨O8, c8, rfl, u8, _, _, hb8⟩
  have b78 := hb7.trans (hb8.mono hb7.size)
  have B8 := B6.trans (b78.mono B6.size)
  have p4 := RI.on v4 b78
  have p6 := RI.on u6 b78
  clear s7 hb7 hb8 b78 B6 v4 u6
  go_wp2_with fail
  refine (example13_any _).mono ?_
  rintro e w9 ⟨S9, rfl, s9, hb9⟩
  go_wp2_with fail
  refine (exChoose_any S9 23 _ ex13_choose23 _ s9).mono ?_
  rintro e w10 ⟨O10, c10, rfl, u10, _, _, hb10⟩
  have b910 := hb9.trans (hb10.mono hb9.size)
  have B10 := B8.trans (b910.mono B8.size)
  have q4 := RI.on p4 b910
  have q6 := RI.on p6 b910
  have q8 := u8.on b910
  clear s9 hb9 hb10 b910 B8 p4 p6 u8
  have k1 := Blk.new w10 3 #[.int .i64 2]
  have hbA : Below w10.heap.size w10 (w10.alloc (.cells #[.int .i64 2] 3)) := (Below.refl _ _).alloc (Nat.le_refl _) _
  have x4 := RI.on q4 hbA
  have x6 := RI.on q6 hbA
  have x8 := q8.on hbA
  have x10 := u10.on hbA
  have BA := B10.trans (hbA.mono B10.size)
  have y1 := ri_blk [2] k1 rfl
  have HI1 := Lib.hid (ints13_any O2 _ 1 c2 1 [2] _ rfl (by omega) x4 y1)
  clear q4 q6 q8 u10 hbA k1 x4 y1
  go_wp2_with fail
  refine HI1.out.mono ?_
  rintro e w11 ⟨rfl, hb11⟩
  have B11 := BA.trans (hb11.mono BA.size)
  have z6 := RI.on x6 hb11
  have z8 := x8.on hb11
  have z10 := x10.on hb11
  clear hb11 x6 x8 x10 BA HI1
  have k2 := Blk.new w11 3 #[.int .i64 0, .int .i64 1]
  have hbB : Below w11.heap.size w11 (w11.alloc (.cells #[.int .i64 0, .int .i64 1] 3)) := (Below.refl _ _).alloc (Nat.le_refl _) _
  have x6 := RI.on z6 hbB
  have x8 := z8.on hbB
  have x10 := z10.on hbB
  have BB := B11.trans (hbB.mono B11.size)
  have y2 := ri_blk [0, 1] k2 rfl
  have HI2 := Lib.hid (ints13_any O6 _ 2 c6 2 [0, 1] _ rfl (by omega) x6 y2)
  clear z6 z8 z10 hbB k2 x6 y2 B11
  go_wp2_with fail
  refine HI2.out.mono ?_
  rintro e w12 ⟨rfl, hb12⟩
  have B12 := BB.trans (hb12.mono BB.size)
  have z8 := x8.on hb12
  have z10 := x10.on hb12
  clear hb12 x8 x10 BB HI2
  have k3 := Blk.new w12 134 #[.int .i64 10, .int .i64 6, .int .i64 32, .int .i64 11]
  have hbC : Below w12.heap.size w12 (w12.alloc (.cells #[.int .i64 10, .int .i64 6, .int .i64 32, .int .i64 11] 134)) := (Below.refl _ _).alloc (Nat.le_refl _) _
  have x8 := z8.on hbC
  have x10 := z10.on hbC
  have BC := B12.trans (hbC.mono B12.size)
  have y3 := ru_blk [(10, 6), (32, 11)] k3 rfl
  have HI3 := Lib.hid (sameT_any O8 _ 2 c8 2 [(10, 6), (32, 11)] [(10, 6), (32, 11)] _ rfl (by unfold maxLen; omega) rfl x8 y3)
  clear z8 z10 hbC k3 x8 y3 B12
  go_wp2_with fail
  refine HI3.out.mono ?_
  rintro e w13 ⟨rfl, hb13⟩
  have B13 := BC.trans (hb13.mono BC.size)
  have z10 := x10.on hb13
  clear hb13 x10 BC HI3
  have k4 := Blk.new w13 134 #[.int .i64 10, .int .i64 6, .int .i64 30, .int .i64 17]
  have hbD : Below w13.heap.size w13 (w13.alloc (.cells #[.int .i64 10, .int .i64 6, .int .i64 30, .int .i64 17] 134)) := (Below.refl _ _).alloc (Nat.le_refl _) _
  have x10 := z10.on hbD
  have BD := B13.trans (hbD.mono B13.size)
  have y4 := ru_blk [(10, 6), (30, 17)] k4 rfl
  have HI4 := Lib.hid (sameT_any O10 _ 2 c10 2 [(10, 6), (30, 17)] [(10, 6), (30, 17)] _ rfl (by unfold maxLen; omega) rfl x10 y4)
  clear z10 hbD k4 x10 y4 B13
  go_wp2_with fail
  refine HI4.out.mono ?_
  rintro e w14 ⟨rfl, hb14⟩
  go_wp2_with fail
  go_ret
  exact ⟨rfl, BD.trans (hb14.mono BD.size)⟩
end Go.Proofs.YtefnnfcfigcikaaGreat
namespace Go.Pol
open Go Go.RowKit Go.ChangeShapes Go.WideShapes Go.Deep
section
variable {H : Type} {enc : TypeId × Value → H} {P : Program}
/-- The row's last step where the call turned nothing that lay there. -/
theorem post_of_below {f : Func} {s : ChangeSpec} {apart fresh handsOn again : Bool} {W W' : World} {args : Array Value} {v : Value} {ds gs : List (DataW H)} {before pa pv : List MemPlace}
    (hW : DataW.Whole enc P f.params.toList s.vars apart W args.toList ds gs before)
    (hres : ∀ (b : Nat) (sp : Nat → Bool) (hd : Bool), DataW.TrodAll enc P W' b sp hd f.resultTypes.toList (v.resultList f.resultTypes.size) (s.fn H (ds ++ gs)).results [])
    (hargs : ∀ sp : Nat → Bool, (∀ p ∈ before, sp p.block = true) → DataW.TrodAll enc P W' 0 sp true f.params.toList args.toList (s.fn H (ds ++ gs)).args pa)
    (hvars : ∀ sp : Nat → Bool, (∀ p ∈ before, sp p.block = true) → DataW.TrodVars enc P W' sp s.vars (s.fn H (ds ++ gs)).vars pv)
    (hps : before = pa ++ pv) (hb : Below W.heap.size W W')
    (hok : ∀ (j : Nat) (t : TypeId) (r : Value), f.resultTypes[j]? = some t → (v.resultList f.resultTypes.size)[j]? = some r → Value.okWide P W' .any 0 t r) :
    s.post enc P f apart fresh handsOn again W args v W' := by
  have hlt : ∀ p ∈ before, p.block < W.heap.size := fun p hp => hW.lt p hp
  have hold : ∀ p ∈ before, (fun b => decide (b < W.heap.size)) p.block = true := fun p hp => by simpa using hlt p hp
  refine ⟨ds, gs, before, [], pa, pv, hW, hres _ _ _, hargs _ hold, hvars _ hold, World.keptBut_mono (fun p hp => ⟨hp, ?_⟩) (hb.frame (· ∈ before)), fun _ => ?_⟩
  · rw [hps, List.mem_append] at hp
    exact Or.inr hp
  · obtain ⟨_, _, _, _, _, hz, hn⟩ := hW
    refine ⟨hok, _, _, ([] ++ pa) ++ pv, ⟨[] ++ pa, pv, trodAll_append (hargs _ (fun _ _ => rfl)) (hres _ _ _), hvars _ (fun _ _ => rfl), rfl, ?_, ?_⟩, ?_⟩
    · intro b off hp
      have hin : MemPlace.cell b off ∈ before := by rw [hps]; simpa using hp
      rw [hb.frozen (hlt _ hin)]
      exact hz b off hin
    · intro ha
      have := hn ha
      rw [hps] at this
      simpa using this
    · intro p hp _
      rw [hps]
      simpa using hp
end
section
variable {H : Type} {enc : TypeId × Value → H} {P : Program} {w : World} {base : Nat} {spare : Nat → Bool} {held : Bool}
theorem open_agg1 {r : Reach} {b0 : Nat} {t : TypeId} {f0 : Field} {v : Value} {d : DataW H} {p : List MemPlace} (hs : P.underlying t = some (.struct #[f0])) (hone : oneCellFields P #[f0] = true) (hC : P.cellsOf t = 1)
    (hv : Value.okWide P w r b0 t v) (h : DataW.Trod enc P w base spare held t v d p) :
    ∃ (v0 : Value) (y0 : DataW H × List MemPlace) (n : Nat), v = .agg #[v0] ∧ d = .agg [y0.1] ∧ p = y0.2 ∧ DataW.trod enc P w base spare held n f0.type [v0] = some y0 := by
  obtain ⟨cs, rfl, hsz⟩ := okWide_struct hs hv
  obtain ⟨l⟩ := cs
  match l, hsz.trans hC with
  | [c0], _ =>
    obtain ⟨fuel, hf⟩ := h
    obtain ⟨xs, n, _, hx, _, hlen, hg⟩ := DataW.trod_struct hs hf
    obtain ⟨o0, k0⟩ := hone_of hone 0 f0 rfl
    match xs, hlen with
    | [y0], _ =>
      simp only [Prod.mk.injEq] at hx
      exact ⟨c0, y0, n, rfl, by simpa using hx.1, by simpa using hx.2, by simpa [Value.cells, o0, k0] using hg 0 f0 rfl⟩
/-- A slice of integers that came in reads as a list. -/
theorem openI {t e : TypeId} {fuel : Nat} {v : Value} {x : DataW H × List MemPlace} (ht : P.underlying t = some (.slice e)) (he : P.underlying e = some (.int .i64)) (hc : P.cellsOf e = 1)
    (h : DataW.trod enc P w base (fun _ => true) held fuel t [v] = some x) : ∃ (A : Option Addr) (n cap : Nat) (xs : List Int), v = .slice A n cap ∧ xs.length = n ∧ n ≤ maxLen ∧ RI w w.heap.size A xs ∧ ∀ x ∈ xs, (Lit.int .i64 x).wf = true := by
  rcases open_ints ht he hc h with ⟨hcs, _⟩ | ⟨a, len, cap, zs, hcs, _, hl, hm, hz, _, hcell, hwf⟩
  · simp only [List.cons.injEq, and_true] at hcs
    exact ⟨none, 0, 0, [], hcs, rfl, by unfold maxLen; omega, RI.nil, by simp⟩
  · simp only [List.cons.injEq, and_true] at hcs
    simp only [if_true] at hz
    refine ⟨some a, len, cap, zs.take len, hcs, by simp; omega, by omega, ?_, fun x hx => hwf x (List.mem_of_mem_take hx)⟩
    intro k hk
    have hk' : k < len := by simp at hk; omega
    have h1 := hcell k (by omega)
    obtain ⟨b, off, spot⟩ := a
    have hspot : spot = none := by simpa [Addr.add] using World.cell?_spot (hcell 0 (by omega))
    subst hspot
    rw [add_plain] at h1
    refine ⟨b, off, rfl, World.block_lt_of_cell? _ _ h1, ?_⟩
    rw [h1]
    simp [List.getD_eq_getElem?_getD, show k < zs.length by omega]
theorem open_slice_fields {t e : TypeId} {fs : Array Field} {fuel : Nat} {cs : List Value} {x : DataW H × List MemPlace} (ht : P.underlying t = some (.slice e)) (he : P.underlying e = some (.struct fs))
    (hone : oneCellFields P fs = true) (hC : P.cellsOf e = fs.size) (h : DataW.trod enc P w base spare held fuel t cs = some x) :
    (cs = [.slice none 0 0] ∧ x = (.nil, [])) ∨
    ∃ (a : Addr) (len cap m : Nat) (D : Nat → DataW H) (Pl : Nat → List MemPlace), cs = [.slice (some a) len cap] ∧ base ≤ a.block ∧ len ≤ cap ∧ cap ≤ maxLen ∧ m = (if spare a.block then cap else len) ∧
      x = (.slice ((List.range len).map D) ((List.range (m - len)).map fun j => D (len + j)), MemPlace.row a (m * fs.size) ++ (List.range m).flatMap Pl) ∧
      ∀ i, i < m → ∃ (ys : List (DataW H × List MemPlace)) (n : Nat), D i = .agg (ys.map (·.1)) ∧ Pl i = ys.flatMap (·.2) ∧ ys.length = fs.size ∧
        ∀ (j : Nat) (f : Field), fs[j]? = some f → ∃ (v : Value) (y : DataW H × List MemPlace), w.cell? (a.add (i * fs.size + j)) = some v ∧ ys[j]? = some y ∧ DataW.trod enc P w base spare held n f.type [v] = some y := by
  rcases open_slice ht h with h0 | ⟨a, len, cap, m, n, D, Pl, hcs, hb, hl, hm, hmm, hx, hi⟩
  · exact .inl h0
  · refine .inr ⟨a, len, cap, m, D, Pl, hcs, hb, hl, hm, hmm, by rw [hC] at hx; exact hx, fun i him => ?_⟩
    obtain ⟨cs', hc, ht'⟩ := hi i him
    rw [hC] at hc
    obtain ⟨ys, n', hn', hy, hlen, hyl, hf⟩ := DataW.trod_struct he ht'
    obtain ⟨_, hcl, hat⟩ := World.cells?_some hc
    simp only [Prod.mk.injEq] at hy
    refine ⟨ys, n', hy.1, hy.2, hyl, fun j f hj => ?_⟩
    obtain ⟨ho, hk⟩ := hone_of hone j f hj
    have hjl : j < fs.size := (Array.getElem?_eq_some_iff.1 hj).1
    have hcell := hat j hjl
    have hv : cs'[j]? = some (cs'[j]'(by omega)) := List.getElem?_eq_getElem (by omega)
    have h1 := hf j f hj
    rw [ho, hk] at h1
    have hone' : (cs'.drop j).take 1 = [cs'[j]'(by omega)] := by
      rw [List.drop_eq_getElem_cons (by omega)]
      rfl
    rw [hone'] at h1
    have hys : ys[j]? = some (ys[j]'(by omega)) := List.getElem?_eq_getElem (by omega)
    refine ⟨_, _, ?_, hys, h1.trans hys⟩
    rw [← Go.Deep.add_add, hcell, hv]
/-- A slice of pairs of integers that came in reads as a list. -/
theorem openU {t e : TypeId} {f0 f1 : Field} {fuel : Nat} {v : Value} {x : DataW H × List MemPlace} (ht : P.underlying t = some (.slice e)) (he : P.underlying e = some (.struct #[f0, f1])) (hone : oneCellFields P #[f0, f1] = true) (hC : P.cellsOf e = 2)
    (h0 : P.underlying f0.type = some (.int .i64)) (h1 : P.underlying f1.type = some (.int .i64))
    (h : DataW.trod enc P w base (fun _ => true) held fuel t [v] = some x) : ∃ (A : Option Addr) (n cap : Nat) (us : List (Int × Int)), v = .slice A n cap ∧ us.length = n ∧ n ≤ maxLen ∧ RU w w.heap.size A us := by
  rcases open_slice_fields ht he hone hC h with ⟨hcs, _⟩ | ⟨a, len, cap, m, D, Pl, hcs, _, hl, hm, hmm, _, hi⟩
  · simp only [List.cons.injEq, and_true] at hcs
    exact ⟨none, 0, 0, [], hcs, rfl, by unfold maxLen; omega, RU.nil⟩
  · simp only [List.cons.injEq, and_true] at hcs
    simp only [if_true] at hmm
    have each : ∀ i, i < len → ∃ p q : Int, w.cell? (a.add (i * 2)) = some (.int .i64 p) ∧ w.cell? (a.add (i * 2 + 1)) = some (.int .i64 q) := by
      intro i hil
      obtain ⟨ys, n, _, _, _, hf⟩ := hi i (by omega)
      obtain ⟨v0, y0, c0, _, t0⟩ := hf 0 f0 rfl
      obtain ⟨v1, y1, c1, _, t1⟩ := hf 1 f1 rfl
      obtain ⟨p, e0, _⟩ := DataW.trod_int h0 t0
      obtain ⟨q, e1, _⟩ := DataW.trod_int h1 t1
      simp only [List.cons.injEq, and_true] at e0 e1
      subst e0; subst e1
      exact ⟨p, q, c0, c1⟩
    obtain ⟨f, hf⟩ := Classical.axiomOfChoice (r := fun (i : Nat) (pq : Int × Int) => i < len → w.cell? (a.add (i * 2)) = some (.int .i64 pq.1) ∧ w.cell? (a.add (i * 2 + 1)) = some (.int .i64 pq.2)) (fun i => by
      by_cases hil : i < len
      · obtain ⟨p, q, c0, c1⟩ := each i hil
        exact ⟨(p, q), fun _ => ⟨c0, c1⟩⟩
      · exact ⟨(0, 0), fun h => absurd h hil⟩)
    refine ⟨some a, len, cap, (List.range len).map f, hcs, by simp, by omega, ?_⟩
    intro k hk
    have hk' : k < len := by simpa using hk
    obtain ⟨c0, c1⟩ := hf k hk'
    obtain ⟨b, off, spot⟩ := a
    have hspot : spot = none := by
      obtain ⟨c0', _⟩ := hf 0 (by omega)
      simpa [Addr.add] using World.cell?_spot c0'
    subst hspot
    rw [add_plain] at c0 c1
    have e : ((List.range len).map f).getD k (0, 0) = f k := by simp [List.getD_eq_getElem?_getD, hk']
    refine ⟨b, off, rfl, World.block_lt_of_cell? _ _ c0, ?_, ?_⟩
    · rw [e]; exact c0
    · rw [e, Nat.add_assoc]; exact c1
end
end Go.Pol
namespace Go.Proofs.YtefnnfcfigcikaaGreat
open Go Go.Proofs Go.RowKit Go.Pol Go.ChangeShapes Go.WideShapes Go.Deep

theorem own_ : ownKnob Tryz.prog.godebug = none := by kernel_rfl
theorem laidOut_ : laidOutB Tryz.prog = true := by kernel_rfl
set_option maxRecDepth 100000 in
theorem okWide_i64 {w : World} {r : Reach} {b0 : Nat} {v : Value} (h : Value.okWide Tryz.prog w r b0 3 v) : ∃ n : Int, v = .int .i64 n := okWide_int Tryz.underlying3 h
theorem spStruct : ∃ f0 f1 : Field, Tryz.prog.underlying 134 = some (.struct #[f0, f1]) ∧ oneCellFields Tryz.prog #[f0, f1] = true ∧ f0.type = 3 ∧ f1.type = 3 := ⟨_, _, Tryz.underlying134, by kernel_rfl, rfl, rfl⟩
set_option maxRecDepth 100000 in
/-- a list of spans that came in -/
theorem openSps {H : Type} {enc : TypeId × Value → H} {w : World} {base : Nat} {held : Bool} {v : Value} {fuel : Nat} {x : DataW H × List MemPlace} (h : DataW.trod enc Tryz.prog w base (fun _ => true) held fuel 42 v.cells.toList = some x) (hv : Value.okWide Tryz.prog w .any base 42 v) :
    ∃ (A : Option Addr) (n cap : Nat) (us : List Sp), v = .slice A n cap ∧ us.length = n ∧ n ≤ cap ∧ cap ≤ maxLen ∧ (A = none → cap = 0) ∧ RU w w.heap.size A us := by
  obtain ⟨f0, f1, hs, hone, t0, t1⟩ := spStruct
  obtain ⟨A, n, cap, rfl⟩ := okWide_slice Tryz.underlying42 hv
  obtain ⟨A', n', cap', us, e, h1, h2, h3⟩ := openU Tryz.underlying42 hs hone (by kernel_rfl) (by rw [t0]; exact Tryz.underlying3) (by rw [t1]; exact Tryz.underlying3) h
  cases e
  rcases open_slice_fields Tryz.underlying42 hs hone (by kernel_rfl) h with ⟨hcs, _⟩ | ⟨a, len, cap', m, D, Pl, hcs, _, hl, hm, _⟩
  · have e : Value.slice A n cap = .slice none 0 0 := by simpa [Value.cells] using hcs
    cases e
    exact ⟨_, _, _, us, rfl, h1, Nat.le_refl _, by unfold maxLen; omega, fun _ => rfl, h3⟩
  · have e : Value.slice A n cap = .slice (some a) len cap' := by simpa [Value.cells] using hcs
    cases e
    exact ⟨_, _, _, us, rfl, h1, hl, hm, fun e => (by cases e), h3⟩
section
variable {H : Type} {enc : TypeId × Value → H} {w : World} {base b0 : Nat} {held : Bool} {r : Reach} {v : Value} {d : DataW H} {p : List MemPlace}
theorem stCells : Tryz.prog.cellsOf 52 = 3 := by kernel_rfl
theorem spsCells : Tryz.prog.cellsOf 42 = 1 := by kernel_rfl
theorem insCells : Tryz.prog.cellsOf 50 = 1 := by kernel_rfl
theorem intCells : Tryz.prog.cellsOf 3 = 1 := by kernel_rfl
set_option maxRecDepth 100000 in
/-- a state that came in -/
theorem openState (hv : Value.okWide Tryz.prog w r b0 52 v) (h : DataW.Trod enc Tryz.prog w base (fun _ => true) held 52 v d p) :
    ∃ (A1 A2 A3 : Option Addr) (n1 c1 n2 c2 n3 c3 : Nat) (C L : List Sp) (Hu : List Int), v = .agg #[.slice A1 n1 c1, .slice A2 n2 c2, .slice A3 n3 c3] ∧ C.length = n1 ∧ n1 ≤ maxLen ∧ RU w w.heap.size A1 C ∧
      L.length = n2 ∧ n2 ≤ maxLen ∧ RU w w.heap.size A2 L ∧ Hu.length = n3 ∧ n3 ≤ maxLen ∧ RI w w.heap.size A3 Hu := by
  obtain ⟨f0, f1, hs, hone, t0, t1⟩ := spStruct
  obtain ⟨cs, rfl, hsz⟩ := okWide_struct Tryz.underlying52 hv
  obtain ⟨l⟩ := cs
  obtain ⟨fuel, hf⟩ := h
  obtain ⟨xs, m, _, hx, hl, hlen, hg⟩ := DataW.trod_struct Tryz.underlying52 hf
  rw [stCells] at hsz
  match l, hsz with
  | [c0, c1, c2], _ =>
    have g0 : DataW.trod enc Tryz.prog w base (fun _ => true) held m 42 [c0] = xs[0]? := by have := hg 0 _ rfl; simpa [Value.cells, spsCells] using this
    have g1 : DataW.trod enc Tryz.prog w base (fun _ => true) held m 42 [c1] = xs[1]? := by have := hg 1 _ rfl; simpa [Value.cells, spsCells] using this
    have g2 : DataW.trod enc Tryz.prog w base (fun _ => true) held m 50 [c2] = xs[2]? := by have := hg 2 _ rfl; simpa [Value.cells, spsCells, insCells] using this
    match xs, hlen with
    | [y0, y1, y2], _ =>
      obtain ⟨A1, n1, c1, C, rfl, a1, a2, a3⟩ := openU Tryz.underlying42 hs hone (by kernel_rfl) (by rw [t0]; exact Tryz.underlying3) (by rw [t1]; exact Tryz.underlying3) (g0.trans rfl)
      obtain ⟨A2, n2, c2, L, rfl, b1, b2, b3⟩ := openU Tryz.underlying42 hs hone (by kernel_rfl) (by rw [t0]; exact Tryz.underlying3) (by rw [t1]; exact Tryz.underlying3) (g1.trans rfl)
      obtain ⟨A3, n3, c3, Hu, rfl, d1, d2, d3, _⟩ := openI Tryz.underlying50 Tryz.underlying3 intCells (g2.trans rfl)
      exact ⟨A1, A2, A3, n1, c1, n2, c2, n3, c3, C, L, Hu, rfl, a1, a2, a3, b1, b2, b3, d1, d2, d3⟩
end
end Go.Proofs.YtefnnfcfigcikaaGreat
namespace Go.Pol
open Go
/-- a rule: kind, first, every, times -/
abbrev Ru := Int × Int × Int × Int
def ru0 : Ru := (0, 0, 0, 0)
def ruC (x : Ru) : List Value := [.int .i64 x.1, .int .i64 x.2.1, .int .i64 x.2.2.1, .int .i64 x.2.2.2]
theorem ruC_len (x : Ru) : (ruC x).length = 4 := rfl
abbrev ruV (x : Ru) : Value := .agg #[.int .i64 x.1, .int .i64 x.2.1, .int .i64 x.2.2.1, .int .i64 x.2.2.2]
theorem ruC_one (us : List Ru) : ∀ u ∈ fl ruC us, u.oneCell' = true := by
  intro u hu
  simp only [fl, List.mem_flatMap, ruC, List.mem_cons, List.not_mem_nil, or_false] at hu
  obtain ⟨x, _, rfl | rfl | rfl | rfl⟩ := hu <;> rfl
/-- what is wrong with a rule -/
def ruleE (x : Ru) : Int :=
  if x.1 < 0 ∨ 7 ≤ x.1 then 2 else if x.2.1 < 1 ∨ 10000 < x.2.1 ∨ x.2.2.1 < 0 ∨ 12 < x.2.2.1 ∨ x.2.2.2 < 0 ∨ 1000 < x.2.2.2 then 7 else if x.2.2.1 = 0 ∧ x.2.2.2 ≠ 1 then 6 else 0
/-- the first wrong rule -/
def badF : Nat → List Ru → Int × Int
  | _, [] => (0, 0)
  | i, x :: r => if ruleE x ≠ 0 then ((i : Int), ruleE x) else badF (i + 1) r
def chkR (l : List Ru) : Int × Int := if 50 < l.length then (0, 3) else badF 0 l
theorem badF_zero : ∀ (l : List Ru) (i : Nat), (badF i l).2 = 0 ↔ ∀ x ∈ l, ruleE x = 0
  | [], i => by simp [badF]
  | x :: r, i => by
    rw [badF]
    by_cases h : ruleE x = 0
    · rw [if_neg (by simp [h]), badF_zero r (i + 1)]; simp [h]
    · rw [if_pos h]; simp [h]
theorem badF_zero' : ∀ (l : List Ru) (i : Nat), (badF i l).2 = 0 → badF i l = (0, 0)
  | [], i, _ => rfl
  | x :: r, i, h => by
    rw [badF] at h ⊢
    by_cases hx : ruleE x = 0
    · rw [if_neg (by simp [hx])] at h ⊢; exact badF_zero' r (i + 1) h
    · rw [if_pos hx] at h; exact absurd h hx
theorem chkR_zero {l : List Ru} : (chkR l).2 = 0 ↔ l.length ≤ 50 ∧ ∀ x ∈ l, ruleE x = 0 := by
  unfold chkR
  by_cases h : 50 < l.length
  · rw [if_pos h]; simp; omega
  · rw [if_neg h, badF_zero]; simp; omega
theorem ruleE_zero {x : Ru} : ruleE x = 0 ↔ (0 ≤ x.1 ∧ x.1 < 7) ∧ (1 ≤ x.2.1 ∧ x.2.1 ≤ 10000) ∧ (0 ≤ x.2.2.1 ∧ x.2.2.1 ≤ 12) ∧ (0 ≤ x.2.2.2 ∧ x.2.2.2 ≤ 1000) ∧ (x.2.2.1 = 0 → x.2.2.2 = 1) := by
  unfold ruleE
  by_cases h1 : x.1 < 0 ∨ 7 ≤ x.1
  · rw [if_pos h1]; simp; omega
  · rw [if_neg h1]
    by_cases h2 : x.2.1 < 1 ∨ 10000 < x.2.1 ∨ x.2.2.1 < 0 ∨ 12 < x.2.2.1 ∨ x.2.2.2 < 0 ∨ 1000 < x.2.2.2
    · rw [if_pos h2]; simp; omega
    · rw [if_neg h2]
      by_cases h3 : x.2.2.1 = 0 ∧ x.2.2.2 ≠ 1
      · rw [if_pos h3]; simp; omega
      · rw [if_neg h3]; simp; omega
/-- is a call refused by a rule? -/
def rfu (x : Ru) (n : Int) : Bool := decide (x.2.1 ≤ n) && (if x.2.2.1 = 0 then decide (n = x.2.1) else decide ((n - x.2.1) % x.2.2.1 = 0) && (decide (x.2.2.2 = 0) || decide ((n - x.2.1) / x.2.2.1 < x.2.2.2)))
/-- is a call of a kind refused by a plan? -/
def rfd (l : List Ru) (k n : Int) : Bool := l.any fun x => x.1 == k && rfu x n
/-- how many of the first calls are refused -/
def hitN (l : List Ru) (k : Int) : Nat → Int
  | 0 => 0
  | n + 1 => hitN l k n + if rfd l k ((n : Int) + 1) = true then 1 else 0
/-- the first call of a rule after one -/
def nxt (x : Ru) (n : Int) : Int :=
  if n < x.2.1 then x.2.1 else if x.2.2.1 = 0 then 0 else
  if 0 < x.2.2.2 ∧ x.2.2.2 ≤ (n - x.2.1) / x.2.2.1 + 1 then 0 else x.2.1 + ((n - x.2.1) / x.2.2.1 + 1) * x.2.2.1
theorem nxt_rfu {x : Ru} (h : ruleE x = 0) {n : Int} (hn : 1 ≤ n) : (nxt x (n - 1) == n) = rfu x n := by
  obtain ⟨_, h1, h2, h3, h4⟩ := ruleE_zero.1 h
  obtain ⟨k, f, e, t⟩ := x
  simp only at h1 h2 h3 h4
  unfold nxt rfu
  simp only
  rw [Bool.eq_iff_iff, beq_iff_eq]
  by_cases c1 : n - 1 < f
  · rw [if_pos c1]
    constructor
    · rintro rfl
      by_cases c2 : e = 0
      · simp [c2]
      · have : 0 < t ∨ t = 0 := by omega
        rw [if_neg c2]
        simp
        omega
    · intro h
      by_cases c2 : e = 0
      · rw [if_pos c2] at h; simp at h; omega
      · simp at h; omega
  · rw [if_neg c1]
    have hfn : f ≤ n := by omega
    by_cases c2 : e = 0
    · rw [if_pos c2, if_pos c2]; simp; omega
    · rw [if_neg c2, if_neg c2]
      have he : 0 < e := by omega
      obtain ⟨q, hq⟩ : ∃ q, (n - 1 - f) / e = q := ⟨_, rfl⟩
      obtain ⟨r, hr⟩ : ∃ r, (n - 1 - f) % e = r := ⟨_, rfl⟩
      have hd := Int.emod_add_mul_ediv (n - 1 - f) e
      have hr0 := Int.emod_nonneg (n - 1 - f) c2
      have hr1 := Int.emod_lt_of_pos (n - 1 - f) he
      rw [hq, hr] at hd
      rw [hr] at hr0 hr1
      rw [hq]
      by_cases c3 : r + 1 = e
      · have e1 : n - f = e * (q + 1) := by rw [Int.mul_add]; omega
        have e2 : (n - f) % e = 0 := by rw [e1]; exact Int.mul_emod_right e (q + 1)
        have e3 : (n - f) / e = q + 1 := by rw [e1]; exact Int.mul_ediv_cancel_left (q + 1) c2
        have e4 : (q + 1) * e = n - f := by rw [e1, Int.mul_comm]
        rw [e2, e3]
        by_cases c4 : 0 < t ∧ t ≤ q + 1
        · rw [if_pos c4]
          simp
          omega
        · rw [if_neg c4, e4]
          simp
          omega
      · have e1 : n - f = (r + 1) + e * q := by omega
        have e2 : (n - f) % e = r + 1 := by
          rw [e1, Int.add_mul_emod_self_left, Int.emod_eq_of_lt (by omega) (by omega)]
        have e4 : (q + 1) * e = e * q + e := by rw [Int.add_mul, Int.one_mul, Int.mul_comm]
        rw [e2]
        constructor
        · intro h
          by_cases c4 : 0 < t ∧ t ≤ q + 1
          · rw [if_pos c4] at h; omega
          · rw [if_neg c4, e4] at h; omega
        · intro h
          simp at h
          omega
theorem rfu_pos {x : Ru} (h : ruleE x = 0) {n : Int} (hr : rfu x n = true) : 1 ≤ n := by
  obtain ⟨_, h1, _⟩ := ruleE_zero.1 h
  unfold rfu at hr
  simp at hr
  omega
/-- the calls that a rule refuses, up to a limit, from the i-th on -/
def callsF (x : Ru) (lim : Int) : Nat → Nat → List Int
  | 0, _ => []
  | d + 1, i => if x.2.1 + (i : Int) * x.2.2.1 ≤ lim ∧ (x.2.2.2 = 0 ∨ (i : Int) < x.2.2.2) then (x.2.1 + (i : Int) * x.2.2.1) :: callsF x lim d (i + 1) else []
def callsL (x : Ru) (lim : Int) : List Int := callsF x lim (lim.toNat + 2) 0
theorem mul_mono' {i j : Nat} {e : Int} (he : 0 ≤ e) (h : i ≤ j) : (i : Int) * e ≤ (j : Int) * e := Int.mul_le_mul_of_nonneg_right (by omega) he
theorem mul_ge {i : Nat} {e : Int} (he : 1 ≤ e) : (i : Int) ≤ (i : Int) * e := by
  have := Int.mul_le_mul_of_nonneg_left he (show (0 : Int) ≤ i by omega)
  rw [Int.mul_one] at this; exact this
theorem mem_callsF {x : Ru} (h : ruleE x = 0) (lim : Int) : ∀ (d i : Nat), lim + 2 ≤ (d : Int) + i → ∀ m, m ∈ callsF x lim d i ↔ ∃ j : Nat, i ≤ j ∧ m = x.2.1 + (j : Int) * x.2.2.1 ∧ m ≤ lim ∧ (x.2.2.2 = 0 ∨ (j : Int) < x.2.2.2)
  | 0, i, hd, m => by
    obtain ⟨_, h1, h2, h3, h4⟩ := ruleE_zero.1 h
    constructor
    · intro hm; cases hm
    · rintro ⟨j, hij, rfl, hl, ht⟩
      by_cases he : x.2.2.1 = 0
      · have := h4 he
        rw [he, Int.mul_zero] at hl
        omega
      · have := mul_ge (i := j) (e := x.2.2.1) (by omega)
        omega
  | d + 1, i, hd, m => by
    obtain ⟨_, h1, h2, h3, h4⟩ := ruleE_zero.1 h
    rw [callsF]
    by_cases hc : x.2.1 + (i : Int) * x.2.2.1 ≤ lim ∧ (x.2.2.2 = 0 ∨ (i : Int) < x.2.2.2)
    · rw [if_pos hc, List.mem_cons, mem_callsF h lim d (i + 1) (by omega) m]
      constructor
      · rintro (rfl | ⟨j, h5, h6⟩)
        · exact ⟨i, Nat.le_refl _, rfl, hc.1, hc.2⟩
        · exact ⟨j, by omega, h6⟩
      · rintro ⟨j, h5, h6, h7⟩
        by_cases e : j = i
        · subst e; exact .inl h6
        · exact .inr ⟨j, by omega, h6, h7⟩
    · rw [if_neg hc]
      constructor
      · intro hm; cases hm
      · rintro ⟨j, hij, rfl, hl, ht⟩
        refine absurd ⟨?_, ?_⟩ hc
        · have := mul_mono' (e := x.2.2.1) h2.1 hij; omega
        · omega
theorem mem_callsL {x : Ru} (h : ruleE x = 0) {lim : Int} (hl : 0 ≤ lim) (m : Int) : m ∈ callsL x lim ↔ m ≤ lim ∧ rfu x m = true := by
  obtain ⟨_, h1, h2, h3, h4⟩ := ruleE_zero.1 h
  unfold callsL
  rw [mem_callsF h lim _ 0 (by omega) m]
  unfold rfu
  constructor
  · rintro ⟨j, _, rfl, hl, ht⟩
    refine ⟨hl, ?_⟩
    have h5 := mul_mono' (e := x.2.2.1) h2.1 (Nat.zero_le j)
    have e1 : x.2.1 + (j : Int) * x.2.2.1 - x.2.1 = (j : Int) * x.2.2.1 := by omega
    rw [e1]
    by_cases he : x.2.2.1 = 0
    · rw [if_pos he, he]; simp
    · rw [if_neg he, Int.mul_emod_left, Int.mul_ediv_cancel _ he]
      simp
      omega
  · rintro ⟨hm, hr⟩
    rw [Bool.and_eq_true, decide_eq_true_eq] at hr
    obtain ⟨hr1, hr2⟩ := hr
    by_cases he : x.2.2.1 = 0
    · rw [if_pos he, decide_eq_true_eq] at hr2
      have := h4 he
      refine ⟨0, Nat.le_refl _, ?_, hm, ?_⟩
      · rw [he]; omega
      · omega
    · rw [if_neg he, Bool.and_eq_true, decide_eq_true_eq, Bool.or_eq_true, decide_eq_true_eq, decide_eq_true_eq] at hr2
      have hq := Int.ediv_nonneg (a := m - x.2.1) (b := x.2.2.1) (by omega) (by omega)
      have hd := Int.emod_add_mul_ediv (m - x.2.1) x.2.2.1
      rw [hr2.1, Int.mul_comm] at hd
      refine ⟨((m - x.2.1) / x.2.2.1).toNat, Nat.zero_le _, ?_, hm, ?_⟩
      · rw [Int.toNat_of_nonneg hq]; omega
      · rw [Int.toNat_of_nonneg hq]; exact hr2.2
/-- one round of the loop over the calls -/
theorem callsF_go {x : Ru} (h : ruleE x = 0) {lim : Int} {d i : Nat} (hd : lim + 2 ≤ (d : Int) + i) (h1 : x.2.1 + (i : Int) * x.2.2.1 ≤ lim) (h2 : x.2.2.2 = 0 ∨ (i : Int) < x.2.2.2) :
    0 < d ∧ callsF x lim d i = (x.2.1 + (i : Int) * x.2.2.1) :: callsF x lim (d - 1) (i + 1) ∧ (x.2.1 + (i : Int) * x.2.2.1) + x.2.2.1 = x.2.1 + ((i + 1 : Nat) : Int) * x.2.2.1 ∧ (i : Int) ≤ lim := by
  obtain ⟨_, k1, k2, k3, k4⟩ := ruleE_zero.1 h
  have hil : (i : Int) ≤ lim := by
    by_cases he : x.2.2.1 = 0
    · have := k4 he
      rw [he, Int.mul_zero] at h1
      omega
    · have := mul_ge (i := i) (e := x.2.2.1) (by omega)
      omega
  have hd0 : 0 < d := by omega
  refine ⟨hd0, ?_, ?_, hil⟩
  · obtain ⟨d', rfl⟩ : ∃ d', d = d' + 1 := ⟨d - 1, by omega⟩
    rw [callsF, if_pos ⟨h1, h2⟩]; rfl
  · rw [show ((i + 1 : Nat) : Int) = (i : Int) + 1 by omega, Int.add_mul, Int.one_mul]; omega
theorem callsF_end {x : Ru} {lim : Int} {d i : Nat} (h : ¬ (x.2.1 + (i : Int) * x.2.2.1 ≤ lim ∧ (x.2.2.2 = 0 ∨ (i : Int) < x.2.2.2))) : callsF x lim d i = [] := by
  cases d with
  | zero => rfl
  | succ d => rw [callsF, if_neg h]
/-- is a call refused, and a mark of it? -/
theorem rfd_snoc (l : List Ru) (x : Ru) (k n : Int) : rfd (l ++ [x]) k n = (rfd l k n || (x.1 == k && rfu x n)) := by simp [rfd]
theorem hitN_bound (l : List Ru) (k : Int) : ∀ n, 0 ≤ hitN l k n ∧ hitN l k n ≤ n
  | 0 => by simp [hitN]
  | n + 1 => by
    have := hitN_bound l k n
    rw [hitN]
    split <;> omega
/-- a state of refusals -/
structure Rf where
  rules : List Ru
  calls : Nat → Int
  hits : Nat → Int
/-- what is wrong with a state -/
def stE (s : Rf) : Int := if (chkR s.rules).2 ≠ 0 then (chkR s.rules).2 else
  if (List.range 7).any (fun k => decide (s.calls k < 0) || decide (1000000 < s.calls k) || !(s.hits k == hitN s.rules k (s.calls k).toNat)) = true then 6 else 0
def upN (f : Nat → Int) (k : Nat) (v : Int) (q : Nat) : Int := if q = k then v else f q
/-- the next call of a kind -/
def nextR (s : Rf) (k : Nat) : Rf × Bool × Int :=
  if stE s ≠ 0 then (⟨[], fun _ => 0, fun _ => 0⟩, false, stE s) else if s.calls k = 1000000 then (⟨[], fun _ => 0, fun _ => 0⟩, false, 3) else
  if rfd s.rules k (s.calls k + 1) = true then (⟨s.rules, upN s.calls k (s.calls k + 1), upN s.hits k (s.hits k + 1)⟩, true, 0) else (⟨s.rules, upN s.calls k (s.calls k + 1), s.hits⟩, false, 0)
end Go.Pol
namespace Go.Proofs.YtefnnfcfigcikaaGreat
open Go Go.Proofs Go.RowKit Go.Pol
attribute [local go_sem] Oper.semAt_some Go.Pol.wide_fn Go.Pol.wide_depth Go.Pol.wide_fn' Go.Pol.wide_depth'

theorem rule_any (x : Ru) (w : World) : Calls Tryz.prog 160 #[ruV x] w fun e w' => e = .returned (.int .i64 (ruleE x)) ∧ Below w.heap.size w w' := by
  obtain ⟨k, f, e, t⟩ := x
  have hb0 := (Below.refl w.heap.size w).alloc (Nat.le_refl _) (.cells #[.int .i64 k, .int .i64 f, .int .i64 e, .int .i64 t] 178)
  have k0 := Blk.new w 178 #[.int .i64 k, .int .i64 f, .int .i64 e, .int .i64 t]
  have c0 := k0.cell
  clear k0
  obtain ⟨R, hR⟩ : ∃ R, ruleE (k, f, e, t) = R := ⟨_, rfl⟩
  rw [hR]
  unfold ruleE at hR
  simp only at hR
  by_cases c1 : k < 0
  · have d1 : decide (k < 0) = true := by simpa using c1
    have hE : Hid (R = 2) := Lib.hid (by rw [← hR, if_pos (by omega)])
    clear hR
    go_enter Tryz.func160, Tryz.ntmps160
    go_wp2_with fail
    go_ret
    exact ⟨by rw [hE.out]; rfl, hb0⟩
  have d1 : decide (k < 0) = false := by simpa using c1
  by_cases c2 : 7 ≤ k
  · have d2 : decide (7 ≤ k) = true := by simpa using c2
    have hE : Hid (R = 2) := Lib.hid (by rw [← hR, if_pos (by omega)])
    clear hR
    go_enter Tryz.func160, Tryz.ntmps160
    go_wp2_with fail
    go_ret
    exact ⟨by rw [hE.out]; rfl, hb0⟩
  have d2 : decide (7 ≤ k) = false := by simpa using c2
  rw [if_neg (by omega)] at hR
  by_cases c3 : f < 1
  · have d3 : decide (f < 1) = true := by simpa using c3
    have hE : Hid (R = 7) := Lib.hid (by rw [← hR, if_pos (by omega)])
    clear hR
    go_enter Tryz.func160, Tryz.ntmps160
    go_wp2_with fail
    go_ret
    exact ⟨by rw [hE.out]; rfl, hb0⟩
  have d3 : decide (f < 1) = false := by simpa using c3
  by_cases c4 : 10000 < f
  · have d4 : decide (10000 < f) = true := by simpa using c4
    have hE : Hid (R = 7) := Lib.hid (by rw [← hR, if_pos (by omega)])
    clear hR
    go_enter Tryz.func160, Tryz.ntmps160
    go_wp2_with fail
    go_ret
    exact ⟨by rw [hE.out]; rfl, hb0⟩
  have d4 : decide (10000 < f) = false := by simpa using c4
  by_cases c5 : e < 0
  · have d5 : decide (e < 0) = true := by simpa using c5
    have hE : Hid (R = 7) := Lib.hid (by rw [← hR, if_pos (by omega)])
    clear hR
    go_enter Tryz.func160, Tryz.ntmps160
    go_wp2_with fail
    go_ret
    exact ⟨by rw [hE.out]; rfl, hb0⟩
  have d5 : decide (e < 0) = false := by simpa using c5
  by_cases c6 : 12 < e
  · have d6 : decide (12 < e) = true := by simpa using c6
    have hE : Hid (R = 7) := Lib.hid (by rw [← hR, if_pos (by omega)])
    clear hR
    go_enter Tryz.func160, Tryz.ntmps160
    go_wp2_with fail
    go_ret
    exact ⟨by rw [hE.out]; rfl, hb0⟩
  have d6 : decide (12 < e) = false := by simpa using c6
  by_cases c7 : t < 0
  · have d7 : decide (t < 0) = true := by simpa using c7
    have hE : Hid (R = 7) := Lib.hid (by rw [← hR, if_pos (by omega)])
    clear hR
    go_enter Tryz.func160, Tryz.ntmps160
    go_wp2_with fail
    go_ret
    exact ⟨by rw [hE.out]; rfl, hb0⟩
  have d7 : decide (t < 0) = false := by simpa using c7
  by_cases c8 : 1000 < t
  · have d8 : decide (1000 < t) = true := by simpa using c8
    have hE : Hid (R = 7) := Lib.hid (by rw [← hR, if_pos (by omega)])
    clear hR
    go_enter Tryz.func160, Tryz.ntmps160
    go_wp2_with fail
    go_ret
    exact ⟨by rw [hE.out]; rfl, hb0⟩
  have d8 : decide (1000 < t) = false := by simpa using c8
  rw [if_neg (by omega)] at hR
  by_cases c9 : e = 0
  · have d9 : (e == 0) = true := by simpa using c9
    by_cases c10 : t = 1
    · have d10 : (t != 1) = false := by simpa using c10
      have hE : Hid (R = 0) := Lib.hid (by rw [← hR, if_neg (by omega)])
      clear c9 c10
      clear hR
      go_enter Tryz.func160, Tryz.ntmps160
      go_wp2_with fail
      go_ret
      exact ⟨by rw [hE.out]; rfl, hb0⟩
    · have d10 : (t != 1) = true := by simpa using c10
      have hE : Hid (R = 6) := Lib.hid (by rw [← hR, if_pos (by omega)])
      clear c9
      clear hR
      go_enter Tryz.func160, Tryz.ntmps160
      go_wp2_with fail
      go_ret
      exact ⟨by rw [hE.out]; rfl, hb0⟩
  · have d9 : (e == 0) = false := by simpa using c9
    have hE : Hid (R = 0) := Lib.hid (by rw [← hR, if_neg (by omega)])
    clear hR
    go_enter Tryz.func160, Tryz.ntmps160
    go_wp2_with fail
    go_ret
    exact ⟨by rw [hE.out]; rfl, hb0⟩
theorem badF_step (l : List Ru) (i : Nat) (h : i < l.length) : badF i (l.drop i) = if ruleE (l.getD i ru0) ≠ 0 then ((i : Int), ruleE (l.getD i ru0)) else badF (i + 1) (l.drop (i + 1)) := by
  rw [Go.Pol.drop_cons ru0 l i h, badF]
set_option maxRecDepth 100000 in
theorem planCheck_any (A : Option Addr) (n cap : Nat) (l : List Ru) (w : World) (hn : l.length = n) (hr : Rd w w.heap.size A (fl ruC l)) :
    Calls Tryz.prog 103 #[.agg #[.slice A n cap]] w fun e w' => e = .returned (.tuple #[.int .i64 (chkR l).1, .int .i64 (chkR l).2]) ∧ Below w.heap.size w w' := by
  have hb0 := (Below.refl w.heap.size w).alloc (Nat.le_refl _) (.cells #[.slice A n cap] 35)
  have k0 := Blk.new w 35 #[.slice A n cap]
  have c0 := k0.cell
  have r0 := hr.on_ hb0
  obtain ⟨R, hR⟩ : ∃ R, chkR l = R := ⟨_, rfl⟩
  rw [hR]
  obtain ⟨ri, re⟩ := R
  unfold chkR at hR
  have hn' := Lib.hid hn
  by_cases h50 : 50 < n
  · have d1 : decide (50 < (n : Int)) = true := by rw [decide_eq_true_eq]; omega
    have hE : Hid ((ri, re) = (0, 3)) := Lib.hid (by rw [← hR, if_pos (by omega)])
    clear hR hr r0 k0 hn h50
    go_enter Tryz.func103, Tryz.ntmps103
    go_wp2_with fail
    go_ret2
    have h := hE.out
    simp only [Prod.mk.injEq] at h
    exact ⟨by rw [h.1, h.2]; rfl, hb0⟩
  · have d1 : decide (50 < (n : Int)) = false := by rw [decide_eq_false_iff_not]; omega
    rw [if_neg (by omega)] at hR
    have hR' := Lib.hid hR
    clear hR hr hn
    obtain ⟨s, hs⟩ : ∃ s, w.heap.size = s := ⟨_, rfl⟩
    have HR := Lib.hid (fun x W => rule_any x W)
    have hs' := Lib.hid hs
    go_enter Tryz.func103, Tryz.ntmps103
    go_upto_region 3 with fail
    generalize w.alloc (.cells #[.slice A n cap] 35) = w0 at *
    rw [hs] at hb0 k0 c0
    try simp only [hs]
    clear hs
    go_wp2_with fail
    go_loopw [14] (fun u wr => ∃ i : Nat, i ≤ n ∧ u = .int .i64 i ∧ Hid (badF i (l.drop i) = (ri, re)) ∧ Below w0.heap.size w0 wr) (fun u _ => n - (intOf u).toNat)
    case atStart => exact ⟨0, by omega, rfl, Lib.hid hR'.out, Below.refl _ _⟩
    case round =>
      clear hR'
      obtain ⟨i, hi, rfl, hR, hB⟩ := hrel
      by_cases hlt : i < n
      · have hlt' : decide ((i : Int) < (n : Int)) = true := by simpa using hlt
        have hst := badF_step l i (by have := hn'.out; omega)
        rw [hR.out] at hst
        obtain ⟨b, o, rfl, hb, hc⟩ := (r0.on_ hB).elem ruC_len (by omega) ru0 (k := i) (by have := hn'.out; omega)
        generalize l.getD i ru0 = x at *
        have hcl := HR.out x
        obtain ⟨k, f, e, t⟩ := x
        have x0 := hc 0 _ rfl
        have x1 := hc 1 _ rfl
        have x2 := hc 2 _ rfl
        have x3 := hc 3 _ rfl
        simp only [Nat.add_zero] at x0
        generalize ruleE (k, f, e, t) = er at *
        have hst' := Lib.hid hst
        have hcl' := Lib.hid hcl
        have hin : (i : Int) < (n : Int) := by omega
        clear hc hst hcl
        have bx := Blk.new wr 178 #[.int .i64 k, .int .i64 f, .int .i64 e, .int .i64 t]
        have hbx := hB.alloc hB.size (.cells #[.int .i64 k, .int .i64 f, .int .i64 e, .int .i64 t] 178)
        have cx := bx.cell
        by_cases he : er = 0
        · subst he
          have hst2 : Hid (badF (i + 1) (l.drop (i + 1)) = (ri, re)) := Lib.hid (by rw [hst'.out, if_neg (by simp)])
          clear hst'
          go_wp2_with fail
          refine (hcl'.out _).mono ?_
          rintro e9 w1 ⟨rfl, hb1⟩
          go_wp2_with fail
          go_roundw
          case rel => exact ⟨i + 1, by omega, by go_num, hst2, hbx.trans (hb1.mono hbx.size)⟩
          case measure => simp [intOf]; omega
        · have he' : (er != 0) = true := by simpa using he
          have hst2 : Hid ((ri, re) = ((i : Int), er)) := Lib.hid (by rw [hst'.out, if_pos he])
          clear hst' he
          go_wp2_with fail
          refine (hcl'.out _).mono ?_
          rintro e9 w1 ⟨rfl, hb1⟩
          go_wp2_with fail
          go_ret2
          have h := hst2.out
          simp only [Prod.mk.injEq] at h
          exact ⟨by rw [h.1, h.2]; rfl, by rw [hs'.out]; exact hb0.trans ((hbx.trans (hb1.mono hbx.size)).mono (by have := hb0.size; have := hs'.out; omega))⟩
      · obtain rfl : i = n := by omega
        have hlt' : decide ((i : Int) < (i : Int)) = false := by simp
        have hE : (0, 0) = (ri, re) := by
          have := hR.out
          rw [List.drop_of_length_le (by have := hn'.out; omega)] at this
          exact this
        simp only [Prod.mk.injEq] at hE
        obtain ⟨rfl, rfl⟩ := hE
        go_wp2_with fail
        go_ret2
        exact ⟨rfl, by rw [hs'.out]; exact hb0.trans (hB.mono (by have := hb0.size; have := hs'.out; omega))⟩
end Go.Proofs.YtefnnfcfigcikaaGreat
namespace Go.Pol
open Go Go.RowKit
/-- a struct out of memory and a number are handed back -/
theorem z_results_cell_tmp {P : Program} {fn : Func} {a u : Tmp} {t : TypeId} {tmps : Array Value} {w : World} {v : Value} {p : Addr} (h : fn.results = #[.cell a t, .tmp u]) (ha : tmps.getD a undef = .pointer (some p)) (hl : (loadVar t p).run P w = .ok v w) :
    (results fn tmps).run P w = .ok (.tuple #[v, tmps.getD u undef]) w := by
  have ha' : tmps[a]?.getD undef = .pointer (some p) := by rw [← ha, Array.getD_eq_getD_getElem?]
  simp [results, h, ha', asAddr, hl]
/-- the cells of a state of refusals -/
def rfC (v : Value) (cs hs : Nat → Int) : List Value := [v, .int .i64 (cs 0), .int .i64 (cs 1), .int .i64 (cs 2), .int .i64 (cs 3), .int .i64 (cs 4), .int .i64 (cs 5), .int .i64 (cs 6),
  .int .i64 (hs 0), .int .i64 (hs 1), .int .i64 (hs 2), .int .i64 (hs 3), .int .i64 (hs 4), .int .i64 (hs 5), .int .i64 (hs 6)]
theorem rfC_one {v : Value} (hv : v.oneCell' = true) (cs hs : Nat → Int) : ∀ x ∈ rfC v cs hs, x.oneCell' = true := by
  intro x hx
  simp only [rfC, List.mem_cons, List.not_mem_nil, or_false] at hx
  rcases hx with rfl | rfl | rfl | rfl | rfl | rfl | rfl | rfl | rfl | rfl | rfl | rfl | rfl | rfl | rfl
  · exact hv
  all_goals rfl
def rfV (v : Value) (cs hs : Nat → Int) : Value := .agg (rfC v cs hs).toArray
/-- rules that a call hands back: in blocks of its own -/
def RulesO (l : List Ru) (w : World) (v : Value) (w' : World) : Prop := ∃ (A : Option Addr) (cap : Nat), v = .slice A l.length cap ∧ Rd w' w'.heap.size A (fl ruC l) ∧ l.length ≤ cap ∧ cap ≤ maxLen ∧ (∀ b o, A = some ⟨b, o, none⟩ → w.heap.size ≤ b) ∧ ((A = none → cap = 0) ∧ ∀ g o, A = some ⟨g, o, none⟩ → l ≠ [] → ∃ cr, Blk w' g 178 cr) ∧ Below w.heap.size w w'
end Go.Pol
namespace Go.Proofs.YtefnnfcfigcikaaGreat
open Go Go.Proofs Go.RowKit Go.Pol
attribute [local go_sem] Oper.semAt_some Go.Pol.wide_fn Go.Pol.wide_depth Go.Pol.wide_fn' Go.Pol.wide_depth'

theorem infoRu : (Tryz.prog.info? 178).map (fun i => (i.zero, i.size, i.bytes)) = some (some (.agg #[.int .i64 0, .int .i64 0, .int .i64 0, .int .i64 0]), 4, 32) := by kernel_rfl
theorem infoRf : (Tryz.prog.info? 79).map (·.size) = some 15 := by kernel_rfl
theorem infoRu_parts : ∃ i0, Tryz.prog.info? 178 = some i0 ∧ i0.zero = some (.agg #[.int .i64 0, .int .i64 0, .int .i64 0, .int .i64 0]) ∧ i0.size = 4 ∧ i0.bytes = 32 := by
  obtain ⟨i0, h⟩ := info_parts infoRu
  exact ⟨i0, h⟩
theorem eqlR_nil (A : Option Addr) (n c : Nat) (w : World) : (binOp .eql 33 (.slice A n c) (.slice none 0 0)).run Tryz.prog w = .ok (.bool A.isNone) w := by
  simp only [binOp]
  simp [Op.equal, Op.maxDepth, run_equalIn_slice_nil w 9999 _ _ A n c Tryz.underlying33]
set_option maxRecDepth 100000 in
theorem cloneR_any (A : Option Addr) (n cap : Nat) (l : List Ru) (w : World) (hn : l.length = n) (hm : n ≤ 1000) (hz : A = none → cap = 0) (hr : Rd w w.heap.size A (fl ruC l)) :
    Calls Tryz.prog 88 #[.slice A n cap] w fun e w' => ∃ v, e = .returned v ∧ RulesO l w v w' := by
  obtain ⟨i0, hi, hz0, hz1, hz2⟩ := infoRu_parts
  have heq := eqlR_nil
  cases A with
  | none =>
    have hc := hz rfl
    subst hc
    have hl : l = [] := by
      cases l with
      | nil => rfl
      | cons x r =>
        obtain ⟨b, o, e, _⟩ := hr 0 (by rw [fl_len ruC_len]; simp)
        cases e
    subst hl
    subst hn
    go_enter Tryz.func88, Tryz.ntmps88
    go_wp2_with fail
    go_ret
    exact ⟨_, rfl, none, 0, rfl, fun k hk => absurd hk (by simp [fl]), Nat.le_refl _, by unfold maxLen; omega, fun b o e => (by cases e), ⟨fun _ => rfl, fun g o e => (by cases e)⟩, Below.refl _ _⟩
  | some ad =>
    have hnews := hr.src ad rfl
    have hb1 := (Below.refl w.heap.size w).alloc (Nat.le_refl _) (.cells #[] 178)
    have hnews' : ∀ (j : Nat) (u : Value), (fl ruC l)[j]? = some u → (w.alloc (.cells #[] 178)).cell? (ad.add j) = some u := fun j u hu => by rw [World.cell?_alloc_some _ _ _ (by rw [hnews j u hu]; rfl)]; exact hnews j u hu
    go_enter Tryz.func88, Tryz.ntmps88
    go_wp2_with (refine wpList_append_own _ rfl (.tmp 5) (.tmp 6) 33 rfl w.heap.size 178 i0 (.agg #[.int .i64 0, .int .i64 0, .int .i64 0, .int .i64 0]) 4 32 Tryz.underlying33 hi hz0 hz1 hz2 rfl (by decide) _ 0 [] rfl (World.ownsRow_made w _ _ (Nat.le_refl _) (by unfold maxLen; omega) rfl) ad n cap (fl ruC l) rfl (by rw [fl_len ruC_len, hn]) hnews' (ruC_one l) (by unfold maxLen; omega) (by omega) (by simp) ?_; intro v' w3 hown' hgrow _)
    go_ret
    have hown2 : w3.ownsRow w.heap.size 178 4 v' l.length (fl ruC l) := by rw [hn]; simpa using hown'
    obtain ⟨A', cap', rfl, h1, h2, h3, h4, h5, h6⟩ := own_Rdt hown2
    exact ⟨_, rfl, A', cap', rfl, h1, h2, h3, h4, ⟨h5, fun g o e _ => h6 g o e⟩, hb1.grown hgrow (by simp) (fun j hj => by cases hj; exact Nat.le_refl _)⟩
/-- what Start hands back -/
def StartO (l : List Ru) (w : World) (e : Ending) (w' : World) : Prop :=
  ((chkR l).2 ≠ 0 ∧ e = .returned (.tuple #[rfV (.slice none 0 0) (fun _ => 0) (fun _ => 0), .int .i64 (chkR l).2]) ∧ Below w.heap.size w w') ∨
  ((chkR l).2 = 0 ∧ ∃ v, e = .returned (.tuple #[rfV v (fun _ => 0) (fun _ => 0), .int .i64 0]) ∧ RulesO l w v w')
set_option maxRecDepth 100000 in
set_option maxHeartbeats 1600000 in
theorem start_any (A : Option Addr) (n cap : Nat) (l : List Ru) (w : World) (hn : l.length = n) (hm : n ≤ 1000) (hz : A = none → cap = 0) (hr : Rd w w.heap.size A (fl ruC l)) :
    Calls Tryz.prog 51 #[.agg #[.slice A n cap]] w (StartO l w) := by
  have HC := Lib.hid (fun W h => planCheck_any A n cap l W hn h)
  have HK := Lib.hid (fun W h => cloneR_any A n cap l W hn hm hz h)
  have hb0 := (Below.refl w.heap.size w).alloc (Nat.le_refl _) (.cells #[.slice A n cap] 35)
  have k0 := Blk.new w 35 #[.slice A n cap]
  have hdef : ∀ e w', StartO l w e w' ↔ StartO l w e w' := fun _ _ => Iff.rfl
  unfold StartO at hdef
  obtain ⟨S, hS⟩ : ∃ S, StartO l w = S := ⟨_, rfl⟩
  rw [hS]
  have hS1 : Hid (∀ (h : (chkR l).2 ≠ 0) w', Below w.heap.size w w' → S (.returned (.tuple #[rfV (.slice none 0 0) (fun _ => 0) (fun _ => 0), .int .i64 (chkR l).2])) w') := Lib.hid (fun h w' hb => by rw [← hS]; exact .inl ⟨h, rfl, hb⟩)
  have hS2 : Hid (∀ (h : (chkR l).2 = 0) v w', RulesO l w v w' → S (.returned (.tuple #[rfV v (fun _ => 0) (fun _ => 0), .int .i64 0])) w') := Lib.hid (fun h v w' hb => by rw [← hS]; exact .inr ⟨h, v, rfl, hb⟩)
  clear hS hdef
  generalize hR : chkR l = R at *
  obtain ⟨ri, re⟩ := R
  simp only at HC hS1 hS2
  clear hR hn hz
  obtain ⟨s, hs⟩ : ∃ s, w.heap.size = s := ⟨_, rfl⟩
  have hs' := Lib.hid hs
  have hb1 := hb0.alloc (by simp) (.cells (rfC (.slice none 0 0) (fun _ => 0) (fun _ => 0)).toArray 79)
  have k1 := k0.alloc (.cells (rfC (.slice none 0 0) (fun _ => 0) (fun _ => 0)).toArray 79)
  have b1 := Blk.new (w.alloc (.cells #[.slice A n cap] 35)) 79 (rfC (.slice none 0 0) (fun _ => 0) (fun _ => 0)).toArray
  rw [World.size_alloc, hs] at b1
  rw [hs] at k1
  unfold rfC at b1 k1 hb1
  go_enter Tryz.func51, Tryz.ntmps51
  go_upto_region 1 with fail
  generalize (w.alloc (.cells #[.slice A n cap] 35)).alloc _ = w1 at *
  have r1 := hr.on_ hb1
  have c1 := k1.cell
  clear k0 hb0 hr hs
  go_wp2_with fail
  refine (HC.out _ r1).mono ?_
  rintro e w2 ⟨rfl, hb2⟩
  have r2 := r1.on_ hb2
  have k2 := k1.call hb2
  have c2 := k2.cell
  have b2 := b1.call hb2
  have B2 := hb1.trans (hb2.mono hb1.size)
  clear r1 c1 k1 b1 hb1 hb2
  by_cases he : re = 0
  · subst he
    go_wp2_with fail
    refine (HK.out _ r2).mono ?_
    rintro e w3 ⟨v, rfl, hv⟩
    obtain ⟨A3, c3, rfl, d1, d2, d3, d4, d5, hb3⟩ := hv
    have b3 := b2.call hb3
    go_wp2_with (refine wpList_store_mid rfl 79 (.tmp 2) (.tmp 19) rfl (s + 1) 0 (rfC (.slice A3 l.length c3) (fun _ => 0) (fun _ => 0)).toArray rfl rfl (z_there b3 0 15 (by simp)) infoRf (Go.all_oneCell_toArray (rfC_one rfl _ _)) ?_)
    have k4 := Blk.puts (g := s + 1) (t := 79) (w := w3) (cs := #[]) (rfC (.slice A3 l.length c3) (fun _ => 0) (fun _ => 0)) 0 w3 _ b3
    rw [putA_all (by rfl)] at k4
    have hF4 := Far.puts (T := fun k => k = s + 1) rfl (rfC (.slice A3 l.length c3) (fun _ => 0) (fun _ => 0)) 0 w3 w3 (Far.refl _ _)
    generalize (w3).setCells (s + 1) 0 (rfC (.slice A3 l.length c3) (fun _ => 0) (fun _ => 0)) = w4 at *
    have hl4 := run_loadVar_mid (P := Tryz.prog) w4 (s + 1) 0 79 (rfC (.slice A3 l.length c3) (fun _ => 0) (fun _ => 0)) _ (fun j v hj => by rw [Nat.zero_add, k4.cell]; simpa using hj) Tryz.underlying79 rfl infoRf
    have hlt4 : s + 1 < w2.heap.size := b2.lt
    have hd4 : Rd w4 w4.heap.size A3 (fl ruC l) := by
      intro k hk
      obtain ⟨b, o, e, hb, hc⟩ := d1 k hk
      have hw2 := d4 b o e
      exact ⟨b, o, e, by have := hF4.size; omega, hF4.cell hc (by show ¬ b = s + 1; omega)⟩
    have hB4 : Below w.heap.size w2 w4 := (hb3.mono (by have := B2.size; exact this)).trans (hF4.below (by have := hb3.size; have := B2.size; omega) (fun k hk e => by have := hs'.out; omega))
    refine bodyPost_ret (v := .tuple #[rfV (.slice A3 l.length c3) (fun _ => 0) (fun _ => 0), .int .i64 0]) ?_ rfl ?_
    · exact z_results_cell_tmp Tryz.results51 rfl hl4
    exact hS2.out (by simp) _ _ ⟨A3, c3, rfl, hd4, d2, d3, fun b o e => by have := d4 b o e; have := B2.size; omega, ⟨d5.1, fun g o e h => (d5.2 g o e h).imp fun cr hcr => hF4.blk hcr (by have := d4 g o e; show ¬ g = s + 1; omega)⟩, B2.trans hB4⟩
  · have he' : (re != 0) = true := by simpa using he
    have hS3 := Lib.hid (hS1.out he)
    go_wp2_with (refine wpList_store_mid rfl 79 (.tmp 2) (.tmp 13) rfl (s + 1) 0 (rfC (.slice none 0 0) (fun _ => 0) (fun _ => 0)).toArray rfl rfl (z_there b2 0 15 (by simp)) infoRf (Go.all_oneCell_toArray (rfC_one rfl _ _)) ?_)
    have k4 := Blk.puts (g := s + 1) (t := 79) (w := w2) (cs := #[]) (rfC (.slice none 0 0) (fun _ => 0) (fun _ => 0)) 0 w2 _ b2
    rw [putA_all (by rfl)] at k4
    have hF4 := Far.puts (T := fun k => k = s + 1) rfl (rfC (.slice none 0 0) (fun _ => 0) (fun _ => 0)) 0 w2 w2 (Far.refl _ _)
    generalize (w2).setCells (s + 1) 0 (rfC (.slice none 0 0) (fun _ => 0) (fun _ => 0)) = w4 at *
    have hl4 := run_loadVar_mid (P := Tryz.prog) w4 (s + 1) 0 79 (rfC (.slice none 0 0) (fun _ => 0) (fun _ => 0)) _ (fun j v hj => by rw [Nat.zero_add, k4.cell]; simpa using hj) Tryz.underlying79 rfl infoRf
    have hB4 : Below w.heap.size w2 w4 := hF4.below (by have := B2.size; omega) (fun k hk e => by have := hs'.out; omega)
    refine bodyPost_ret (v := .tuple #[rfV (.slice none 0 0) (fun _ => 0) (fun _ => 0), .int .i64 re]) ?_ rfl ?_
    · exact z_results_cell_tmp Tryz.results51 rfl hl4
    exact hS3.out _ (B2.trans hB4)
end Go.Proofs.YtefnnfcfigcikaaGreat
namespace Go.Pol
theorem z_prefix {α : Type} {pre rest xs : List α} {x : α} (h : xs = pre ++ x :: rest) : pre ++ [x] <+: xs := ⟨rest, by simp [h]⟩
end Go.Pol
namespace Go.Proofs.YtefnnfcfigcikaaGreat
open Go Go.Proofs Go.RowKit Go.Pol Go.Shelf
attribute [local go_sem] Oper.semAt_some Go.Pol.wide_fn Go.Pol.wide_depth Go.Pol.wide_fn' Go.Pol.wide_depth'

theorem calls_any (x : Ru) (lim : Int) (w : World) :
    Calls Tryz.prog 237 #[ruV x, .int .i64 lim] w fun e w' => e = .returned (.func (.func 240) #[] #[.pointer (some ⟨w.heap.size, 0, none⟩), .pointer (some ⟨w.heap.size + 1, 0, none⟩)]) ∧
      w' = (w.alloc (.cells #[.int .i64 x.1, .int .i64 x.2.1, .int .i64 x.2.2.1, .int .i64 x.2.2.2] 178)).alloc (.cells #[.int .i64 lim] 3) := by
  obtain ⟨k, f, e, t⟩ := x
  go_enter Tryz.func237, Tryz.ntmps237
  go_wp2
  go_ret
  exact ⟨rfl, rfl⟩
theorem calls_enters : ∀ args w, (callFunc 240 args).run Tryz.prog w = .ok (.enter 240 args) w := enters_of Tryz.func240 (by kernel_rfl) rfl
set_option maxHeartbeats 1600000 in
theorem calls1_seq (k f e t lim : Int) (B1 B2 : Nat) (w : World) (hx : ruleE (k, f, e, t) = 0) (hl : 0 ≤ lim ∧ lim ≤ 1000000) (hB1 : Blk w B1 178 #[.int .i64 k, .int .i64 f, .int .i64 e, .int .i64 t]) (hB2 : Blk w B2 3 #[.int .i64 lim]) :
    SeqF Tryz.prog 240 #[.pointer (some ⟨B1, 0, none⟩), .pointer (some ⟨B2, 0, none⟩)] (fun v : Int => #[.int .i64 v]) (fun _ => False) (fun k => k = B1 ∨ k = B2) (callsL (k, f, e, t) lim) w := by
  intro m l J Jx W hW hJ hJx hY h0
  have kB1 := hW.blk hB1 (by simp)
  have kB2 := hW.blk hB2 (by simp)
  obtain ⟨_, h1, h2, h3, h4⟩ := ruleE_zero.1 hx
  simp only at h1 h2 h3 h4
  have hx' := Lib.hid hx
  have h4' := Lib.hid h4
  have hC0 : Hid (callsL (k, f, e, t) lim = [] ++ callsF (k, f, e, t) lim (lim.toNat + 2) 0) := Lib.hid rfl
  generalize callsL (k, f, e, t) lim = CL at *
  clear h4 hx hB1 hB2 hW
  refine callsIn_of_wp Tryz.func240 rfl trivial ?_ rfl
  simp only [Tryz.ntmps240, List.size_toArray, List.length_cons, List.length_nil, Nat.reduceAdd, Nat.reduceSub, Array.replicate_succ, Array.replicate_zero, List.push_toArray, List.append_toArray, List.nil_append, List.cons_append]
  have c1 := kB1.cell
  have c2 := kB2.cell
  gi_wp2
  clear c1 c2
  gi_loopw [4, 5] (fun u v wr => ∃ (i d : Nat) (nv : Int) (pre : List Int), u = .int .i64 nv ∧ v = .int .i64 i ∧ 0 ≤ nv ∧ Hid (nv = f + (i : Int) * e) ∧ Hid (lim + 2 ≤ (d : Int) + i) ∧ (i : Int) ≤ lim + 1 ∧ J pre wr ∧ Blk wr B1 178 #[.int .i64 k, .int .i64 f, .int .i64 e, .int .i64 t] ∧ Blk wr B2 3 #[.int .i64 lim] ∧ Hid (CL = pre ++ callsF (k, f, e, t) lim d i)) (fun _ v _ => (lim + 2 - intOf v).toNat)
  case atStart => exact ⟨0, lim.toNat + 2, f, [], rfl, rfl, by omega, Lib.hid (by omega), Lib.hid (by omega), by omega, h0, kB1, kB2, hC0⟩
  case round =>
    clear hC0 kB1 kB2 h0
    obtain ⟨i, d, nv, pre, rfl, rfl, hnv0, hnv, hd, hil, hJs, kB1, kB2, hL⟩ := hrel
    have c1 := kB1.cell
    have c2 := kB2.cell
    by_cases g1 : nv ≤ lim
    · have d1 : decide (nv ≤ lim) = true := by simpa using g1
      by_cases g2 : t = 0
      · have d2 : (t == 0) = true := by simpa using g2
        have hgo := callsF_go (x := (k, f, e, t)) hx'.out hd.out (by have := hnv.out; rw [← this]; exact g1) (.inl g2)
        clear g2
        simp only at hgo
        rw [← hnv.out] at hgo
        obtain ⟨hd0, hcf, hnx, hil2⟩ := hgo
        have hL2 : Hid (CL = pre ++ nv :: callsF (k, f, e, t) lim (d - 1) (i + 1)) := Lib.hid (by rw [hL.out, hcf])
        have hnx' := Lib.hid hnx
        clear hcf hnx
        have hwn : IntKind.i64.wrap (nv + e) = nv + e := by rw [IntKind.wrap_i64]; omega
        obtain ⟨fn, tmps, assign, body, hy, hRd⟩ := hY (m - 1) pre nv wr hJs (z_prefix hL2.out)
        clear hL hY
        gi_wp2
        refine hRd.mono ?_
        rintro e9 W3 (⟨rfl, hJ3, hF3⟩ | ⟨rfl, hJx3⟩)
        · have kC1 := hF3.blk kB1 (by simp)
          have kC2 := hF3.blk kB2 (by simp)
          have c3 := kC1.cell
          gi_wp2
          go_roundw
          case rel => exact ⟨i + 1, d - 1, nv + e, pre ++ [nv], by go_num, by go_num, by omega, Lib.hid hnx'.out, Lib.hid (by have := hd.out; omega), by omega, hJ3, kC1, kC2, Lib.hid (by rw [hL2.out]; simp)⟩
          case measure => simp [intOf]; omega
        · gi_wp2
          refine bodyPost_ret (results_none rfl _ _ _) rfl ?_
          exact ⟨⟨_, rfl⟩, .inr ⟨pre ++ [nv], z_prefix hL2.out, hJx3⟩⟩
      · have d2 : (t == 0) = false := by simpa using g2
        by_cases g3 : (i : Int) < t
        · have d3 : decide ((i : Int) < t) = true := by simpa using g3
          have hgo := callsF_go (x := (k, f, e, t)) hx'.out hd.out (by have := hnv.out; rw [← this]; exact g1) (.inr g3)
          simp only at hgo
          rw [← hnv.out] at hgo
          obtain ⟨hd0, hcf, hnx, hil2⟩ := hgo
          have hL2 : Hid (CL = pre ++ nv :: callsF (k, f, e, t) lim (d - 1) (i + 1)) := Lib.hid (by rw [hL.out, hcf])
          have hnx' := Lib.hid hnx
          clear hcf hnx
          have hwn : IntKind.i64.wrap (nv + e) = nv + e := by rw [IntKind.wrap_i64]; omega
          obtain ⟨fn, tmps, assign, body, hy, hRd⟩ := hY (m - 1) pre nv wr hJs (z_prefix hL2.out)
          clear hL hY
          gi_wp2
          refine hRd.mono ?_
          rintro e9 W3 (⟨rfl, hJ3, hF3⟩ | ⟨rfl, hJx3⟩)
          · have kC1 := hF3.blk kB1 (by simp)
            have kC2 := hF3.blk kB2 (by simp)
            have c3 := kC1.cell
            gi_wp2
            go_roundw
            case rel => exact ⟨i + 1, d - 1, nv + e, pre ++ [nv], by go_num, by go_num, by omega, Lib.hid hnx'.out, Lib.hid (by have := hd.out; omega), by omega, hJ3, kC1, kC2, Lib.hid (by rw [hL2.out]; simp)⟩
            case measure => simp [intOf]; omega
          · gi_wp2
            refine bodyPost_ret (results_none rfl _ _ _) rfl ?_
            exact ⟨⟨_, rfl⟩, .inr ⟨pre ++ [nv], z_prefix hL2.out, hJx3⟩⟩
        · have d3 : decide ((i : Int) < t) = false := by simpa using g3
          have hE := callsF_end (x := (k, f, e, t)) (lim := lim) (d := d) (i := i) (by rintro ⟨_, h | h⟩ <;> simp only at h <;> omega)
          have hL2 : Hid (pre = CL) := Lib.hid (by rw [hL.out, hE, List.append_nil])
          clear hE
          gi_wp2
          go_end0
          exact ⟨⟨_, rfl⟩, .inl (by rw [← hL2.out]; exact hJs)⟩
    · have d1 : decide (nv ≤ lim) = false := by simpa using g1
      have hE := callsF_end (x := (k, f, e, t)) (lim := lim) (d := d) (i := i) (by rintro ⟨h, _⟩; simp only at h; rw [← hnv.out] at h; omega)
      have hL2 : Hid (pre = CL) := Lib.hid (by rw [hL.out, hE, List.append_nil])
      clear hE
      gi_wp2
      go_end0
      exact ⟨⟨_, rfl⟩, .inl (by rw [← hL2.out]; exact hJs)⟩
end Go.Proofs.YtefnnfcfigcikaaGreat
namespace Go.Pol
open Go Go.RowKit
/-- what lies in memory while the marks are made -/
def MarkI (s lim : Nat) (A : Option Addr) (n cap : Nat) (f : Nat → Bool) (Ds : List Nat) (w wr : World) : Prop :=
  ∃ cs : Array Value, Blk wr (s + 1) 4 cs ∧ cs.size = lim + 1 ∧ (∀ m, m ≤ lim → cs[m]? = some (.bool (f m))) ∧ Blk wr s 35 #[.slice A n cap] ∧ Blk wr (s + 2) 299 #[.slice (some ⟨s + 1, 0, none⟩) (lim + 1) (lim + 1)] ∧
    (∀ D ∈ Ds, s + 3 ≤ D ∧ wr.heap[D]? = some (.deferred (some []))) ∧ Ds.Pairwise (fun a b => a ≠ b) ∧ (∀ D ∈ Ds, D < wr.heap.size) ∧ Below s w wr
section
variable {s lim : Nat} {A : Option Addr} {n cap : Nat} {f g : Nat → Bool} {Ds : List Nat} {w wr w' : World} {T : Nat → Prop}
theorem MarkI.far (h : MarkI s lim A n cap f Ds w wr) (hF : Far T wr w') (hT : ∀ k, T k → s + 3 ≤ k ∧ k ∉ Ds) : MarkI s lim A n cap f Ds w w' := by
  obtain ⟨cs, kM, hcs, hcm, kP, kO, hDs, hDp, hDl, hB⟩ := h
  have hlt := kM.lt
  refine ⟨cs, hF.blk kM (fun ht => by have := (hT _ ht).1; omega), hcs, hcm, hF.blk kP (fun ht => by have := (hT _ ht).1; omega), hF.blk kO (fun ht => by have := (hT _ ht).1; omega),
    fun D hD => ⟨(hDs D hD).1, hF.same (hDs D hD).2 (fun ht => (hT _ ht).2 hD)⟩, hDp, fun D hD => by have := hDl D hD; have := hF.size; omega, hB.trans (hF.below (by omega) (fun k hk ht => by have := (hT _ ht).1; omega))⟩
theorem MarkI.mark (h : MarkI s lim A n cap f Ds w wr) {m : Nat} (hm : m ≤ lim) (hg : ∀ q, q ≤ lim → g q = if q = m then true else f q) : MarkI s lim A n cap g Ds w (wr.setCell ⟨s + 1, m, none⟩ (.bool true)) := by
  obtain ⟨cs, kM, hcs, hcm, kP, kO, hDs, hDp, hDl, hB⟩ := h
  have hlt := kM.lt
  have hF : Far (fun k => k = s + 1) wr (wr.setCell ⟨s + 1, m, none⟩ (.bool true)) := Far.setCell (T := fun k => k = s + 1) (p := ⟨s + 1, m, none⟩) (Far.refl _ _) (fun _ => rfl) _
  refine ⟨_, kM.set_ m _, by simp [hcs], fun q hq => ?_, hF.blk kP (by omega), hF.blk kO (by omega), fun D hD => ⟨(hDs D hD).1, hF.same (hDs D hD).2 (by have := (hDs D hD).1; omega)⟩, hDp, fun D hD => by have := hDl D hD; have := hF.size; omega, hB.trans (hF.below (by omega) (fun k hk ht => by omega))⟩
  rw [hg q hq, Array.getElem?_setIfInBounds]
  by_cases e : m = q
  · subst e; rw [if_pos rfl, if_pos rfl, if_pos (by omega)]
  · rw [if_neg e, if_neg (Ne.symm e)]; exact hcm q hq
theorem MarkI.congr (h : MarkI s lim A n cap f Ds w wr) (hg : ∀ q, q ≤ lim → g q = f q) : MarkI s lim A n cap g Ds w wr := by
  obtain ⟨cs, kM, hcs, hcm, r⟩ := h
  exact ⟨cs, kM, hcs, fun m hm => by rw [hg m hm]; exact hcm m hm, r⟩
theorem MarkI.more (h : MarkI s lim A n cap f Ds w wr) {D : Nat} (hD : wr.heap[D]? = some (.deferred (some []))) (hs : s + 3 ≤ D) (hn : D ∉ Ds) : MarkI s lim A n cap f (D :: Ds) w wr := by
  obtain ⟨cs, kM, hcs, hcm, kP, kO, hDs, hDp, hDl, hB⟩ := h
  refine ⟨cs, kM, hcs, hcm, kP, kO, fun D' h' => ?_, List.pairwise_cons.2 ⟨fun a ha e => hn (e ▸ ha), hDp⟩, fun D' h' => ?_, hB⟩
  · rcases List.mem_cons.1 h' with rfl | h'
    · exact ⟨hs, hD⟩
    · exact hDs D' h'
  · rcases List.mem_cons.1 h' with rfl | h'
    · exact (Array.getElem?_eq_some_iff.1 hD).1
    · exact hDl D' h'
end
/-- what the marks look like that are handed back -/
def MarksO (l : List Ru) (k : Int) (lim : Nat) (w : World) (e : Ending) (w' : World) : Prop :=
  ∃ (g : Nat) (cs : Array Value), e = .returned (.slice (some ⟨g, 0, none⟩) (lim + 1) (lim + 1)) ∧ Blk w' g 4 cs ∧ cs.size = lim + 1 ∧ (∀ m : Nat, m ≤ lim → cs[m]? = some (.bool (rfd l k m))) ∧ Below w.heap.size w w'
/-- a function that ranged over functions in a loop leaves -/
theorem leave_marks {P : Program} {fn : Func} {tmps : Array Value} {R : Ending → World → Prop} {v : Value} : ∀ (Ds : List Nat) (w : World), (∀ D ∈ Ds, w.heap[D]? = some (.deferred (some []))) → Ds.Pairwise (fun a b => a ≠ b) →
    (∀ w', Far (fun k => k ∈ Ds) w w' → (results fn tmps).run P w' = .ok v w' ∧ R (.returned v) w') → LeavesInM Fence.wide 0 P fn tmps R (Ds.map markOf) .returning w
  | [], w, _, _, h => by
    obtain ⟨h1, h2⟩ := h w (Far.refl _ _)
    exact ⟨v, h1, h2⟩
  | D :: r, w, hD, hp, h => by
    obtain ⟨hp1, hp2⟩ := List.pairwise_cons.1 hp
    have hF : Far (fun k => k = D) w (w.putObj D (.deferred none)) := Far.putObj (T := fun k => k = D) (Far.refl _ _) (fun _ => rfl) _
    refine ⟨by simp, .inl ⟨D, _, rfl, run_takeDeferred (hD D (by simp)), ?_⟩⟩
    refine leave_marks r _ (fun D' hD' => hF.same (hD D' (by simp [hD'])) (fun e => hp1 D' hD' e.symm)) hp2 (fun w' hw' => h w' ?_)
    exact (hF.mono (fun k _ e => by simp [e])).trans (hw'.mono (fun k _ e => by simp [e]))
end Go.Pol
namespace Go.Proofs.YtefnnfcfigcikaaGreat
open Go Go.Proofs Go.RowKit Go.Pol Go.Shelf
attribute [local go_sem] Oper.semAt_some Go.Pol.wide_fn Go.Pol.wide_depth Go.Pol.wide_fn' Go.Pol.wide_depth'

theorem infoBo : (Tryz.prog.info? 4).map (fun i => (i.zero, i.size, i.bytes)) = some (some (.bool false), 1, 1) := by kernel_rfl
theorem infoBo_parts : ∃ i0, Tryz.prog.info? 4 = some i0 ∧ i0.zero = some (.bool false) ∧ i0.size = 1 ∧ i0.bytes = 1 := by
  obtain ⟨i0, h⟩ := info_parts infoBo
  exact ⟨i0, h⟩
theorem makeB (lim : Nat) (hl : lim ≤ 1000000) (W : World) : (Instr.makeSlice 299 (.int .i64 ((lim : Int) + 1)) (.int .i64 ((lim : Int) + 1))).run Tryz.prog W = .ok (.slice (some ⟨W.heap.size, 0, none⟩) (lim + 1) (lim + 1)) (W.alloc (.cells (Array.replicate (lim + 1) (.bool false)) 4)) := by
  obtain ⟨i0, hi0, hz0, hz1, hz2⟩ := infoBo_parts
  have h := run_makeI (P := Tryz.prog) 299 4 i0 (.bool false) Tryz.underlying299 hi0 hz0 rfl hz1 .i64 .i64 (lim + 1) (by rw [hz2]; omega) (by omega) W
  rwa [show ((lim + 1 : Nat) : Int) = (lim : Int) + 1 by omega] at h
set_option maxRecDepth 100000 in
set_option maxHeartbeats 1600000 in
theorem hitMarks_any (A : Option Addr) (n cap : Nat) (l : List Ru) (k : Int) (lim : Nat) (w : World) (hn : l.length = n) (hn1 : n ≤ 1000) (hok : ∀ x ∈ l, ruleE x = 0) (hl : lim ≤ 1000000) (hr : Rd w w.heap.size A (fl ruC l)) :
    Calls Tryz.prog 226 #[.agg #[.slice A n cap], .int .i64 k, .int .i64 lim] w (MarksO l k lim w) := by
  refine calls_of_marks Tryz.func226 rfl ?_
  simp only [Tryz.ntmps226, List.size_toArray, List.length_cons, List.length_nil, Nat.reduceAdd, Nat.reduceSub, Array.replicate_succ, Array.replicate_zero, List.push_toArray, List.append_toArray, List.nil_append, List.cons_append]
  have k0 := Blk.new w 35 #[.slice A n cap]
  have c0 := k0.cell
  have hw1 : IntKind.i64.wrap ((lim : Int) + 1) = ((lim + 1 : Nat) : Int) := by rw [IntKind.wrap_i64]; omega
  have hmk := makeB lim hl
  go_upto_region 2 with fail
  obtain ⟨s, hs⟩ : ∃ s, w.heap.size = s := ⟨_, rfl⟩
  have hb2 : Below s w (((w.alloc (.cells #[.slice A n cap] 35)).alloc (.cells (Array.replicate (lim + 1) (.bool false)) 4)).alloc (.cells #[.slice (some ⟨w.heap.size + 1, 0, none⟩) (lim + 1) (lim + 1)] 299)) := by
    rw [← hs]; exact (((Below.refl w.heap.size w).alloc (Nat.le_refl _) _).alloc (by simp) _).alloc (by simp; omega) _
  have kP := (k0.alloc (.cells (Array.replicate (lim + 1) (.bool false)) 4)).alloc (.cells #[.slice (some ⟨w.heap.size + 1, 0, none⟩) (lim + 1) (lim + 1)] 299)
  have kM := (Blk.new (w.alloc (.cells #[.slice A n cap] 35)) 4 (Array.replicate (lim + 1) (.bool false))).alloc (.cells #[.slice (some ⟨w.heap.size + 1, 0, none⟩) (lim + 1) (lim + 1)] 299)
  have kO := Blk.new ((w.alloc (.cells #[.slice A n cap] 35)).alloc (.cells (Array.replicate (lim + 1) (.bool false)) 4)) 299 #[.slice (some ⟨w.heap.size + 1, 0, none⟩) (lim + 1) (lim + 1)]
  simp only [World.size_alloc, hs] at hb2 kP kM kO ⊢
  generalize ((w.alloc (.cells #[.slice A n cap] 35)).alloc (.cells (Array.replicate (lim + 1) (.bool false)) 4)).alloc (.cells #[.slice (some ⟨s + 1, 0, none⟩) (lim + 1) (lim + 1)] 299) = W2 at *
  have r0 : Rd w s A (fl ruC l) := by rw [← hs]; exact hr
  have hs' := Lib.hid hs
  have hn' := Lib.hid hn
  have hok' := Lib.hid hok
  have hI0 : MarkI s lim A n cap (fun m => rfd (l.take 0) k m) [] w W2 := ⟨_, kM, by simp, fun m hm => by rw [Array.getElem?_replicate, if_pos (by omega)]; simp [rfd], kP, kO, fun D h => (by cases h), List.Pairwise.nil, fun D h => (by cases h), hb2⟩
  have c2 := kP.cell
  clear k0 c0 hr hs hmk hw1 kP kM kO hb2 hn hok
  go_wp2_with fail
  refine wp_loop (fun a wr => ∃ (j : Nat) (Ds : List Nat) (u9 u10 u18 u19 u20 u21 u22 u23 u24 u25 u26 u27 u28 u29 u30 u31 u32 u33 : Value), a = { tmps := #[.agg #[.slice A n cap], .int .i64 k, .int .i64 lim, .pointer (some ⟨s, 0, none⟩), undef, undef, .slice none 0 0, .pointer (some ⟨s + 2, 0, none⟩), undef, u9, u10, .int .i64 lim, .int .i64 ((lim : Int) + 1), .slice (some ⟨s + 1, 0, none⟩) (lim + 1) (lim + 1), .pointer (some ⟨s, 0, none⟩), .slice A n cap, .int .i64 n, .int .i64 j, u18, u19, u20, u21, u22, u23, u24, u25, u26, u27, u28, u29, u30, u31, u32, u33], defers := Ds.map markOf } ∧ j ≤ n ∧ MarkI s lim A n cap (fun m => rfd (l.take j) k m) Ds w wr) (fun a _ => n - (intOf (a.tmps.getD 17 undef)).toNat) ?_ ?_
  · refine ⟨0, [], _, _, _, _, _, _, _, _, _, _, _, _, _, _, _, _, _, _, rfl, by omega, hI0⟩
  · rintro a wr ⟨j, Ds, u9, u10, u18, u19, u20, u21, u22, u23, u24, u25, u26, u27, u28, u29, u30, u31, u32, u33, rfl, hj, hI⟩
    by_cases hlt : j < n
    · have hlt' : decide ((j : Int) < (n : Int)) = true := by simpa using hlt
      have hI' := hI
      obtain ⟨cs, kM, hcs, hcm, kP, kO, hDs, hDp, hDl, hB⟩ := hI
      have hsw := kO.lt
      have hPc := kP.cell
      obtain ⟨b, o, rfl, hbl, hc⟩ := (r0.below hB).elem ruC_len (by omega) ru0 (k := j) (by have := hn'.out; omega)
      have hmem : l.getD j ru0 ∈ l := by rw [List.getD_eq_getElem?_getD, List.getElem?_eq_getElem (by have := hn'.out; omega)]; exact List.getElem_mem _
      have hxok := hok'.out _ hmem
      have hts : l.take (j + 1) = l.take j ++ [l.getD j ru0] := by rw [List.take_add_one, List.getElem?_eq_getElem (by have := hn'.out; omega), List.getD_eq_getElem?_getD, List.getElem?_eq_getElem (by have := hn'.out; omega)]; rfl
      have hsn := Lib.hid (fun m : Int => by have := rfd_snoc (l.take j) (l.getD j ru0) k m; rw [← hts] at this; exact this)
      generalize l.getD j ru0 = x at *
      obtain ⟨xk, f, e, t⟩ := x
      have x0 := hc 0 _ rfl
      have x1 := hc 1 _ rfl
      have x2 := hc 2 _ rfl
      have x3 := hc 3 _ rfl
      simp only [Nat.add_zero] at x0
      have hin : (j : Int) < (n : Int) := by omega
      have kx := Blk.new wr 178 #[.int .i64 xk, .int .i64 f, .int .i64 e, .int .i64 t]
      have hFx : Far (fun _ => False) wr (wr.alloc (.cells #[.int .i64 xk, .int .i64 f, .int .i64 e, .int .i64 t] 178)) := (Far.refl _ _).alloc _
      have cx := kx.cell
      have hIx := hI'.far hFx (fun _ h => h.elim)
      have hxok' := Lib.hid hxok
      have hI2 := Lib.hid hIx
      have hDl' := Lib.hid hDl
      clear hc hmem hts hcs hcm hDs hDp hDl hB kM kO hI' hxok hIx
      by_cases hk : xk = k
      · subst hk
        have hk' : (xk != xk) = false := by simp
        have HC := Lib.hid (fun W => calls_any (xk, f, e, t) (lim : Int) W)
        simp only at HC
        go_wp2_with fail
        refine (HC.out _).mono ?_
        rintro e9 w3 ⟨rfl, rfl⟩
        go_wp2_with fail
        obtain ⟨q, hq⟩ : ∃ q, wr.heap.size = q := ⟨_, rfl⟩
        have kB1 := (Blk.new (wr.alloc (.cells #[.int .i64 xk, .int .i64 f, .int .i64 e, .int .i64 t] 178)) 178 #[.int .i64 xk, .int .i64 f, .int .i64 e, .int .i64 t]).alloc (.cells #[.int .i64 lim] 3)
        have kB2 := Blk.new ((wr.alloc (.cells #[.int .i64 xk, .int .i64 f, .int .i64 e, .int .i64 t] 178)).alloc (.cells #[.int .i64 xk, .int .i64 f, .int .i64 e, .int .i64 t] 178)) 3 #[.int .i64 lim]
        have hF3 : Far (fun _ => False) (wr.alloc (.cells #[.int .i64 xk, .int .i64 f, .int .i64 e, .int .i64 t] 178)) (((wr.alloc (.cells #[.int .i64 xk, .int .i64 f, .int .i64 e, .int .i64 t] 178)).alloc (.cells #[.int .i64 xk, .int .i64 f, .int .i64 e, .int .i64 t] 178)).alloc (.cells #[.int .i64 lim] 3)) := ((Far.refl _ _).alloc _).alloc _
        have hI3 := hI2.out.far hF3 (fun _ h => h.elim)
        have hsz3 : (((wr.alloc (.cells #[.int .i64 xk, .int .i64 f, .int .i64 e, .int .i64 t] 178)).alloc (.cells #[.int .i64 xk, .int .i64 f, .int .i64 e, .int .i64 t] 178)).alloc (.cells #[.int .i64 lim] 3)).heap.size = q + 3 := by simp [hq]
        simp only [World.size_alloc, hq] at kB1 kB2 ⊢
        generalize ((wr.alloc (.cells #[.int .i64 xk, .int .i64 f, .int .i64 e, .int .i64 t] 178)).alloc (.cells #[.int .i64 xk, .int .i64 f, .int .i64 e, .int .i64 t] 178)).alloc (.cells #[.int .i64 lim] 3) = W3 at *
        have hDq : ∀ D ∈ Ds, D < q := fun D hD => by have := hDl'.out D hD; omega
        have hsq : s + 2 < q := by omega
        have hseq := calls1_seq xk f e t lim (q + 1) (q + 2) W3 hxok'.out ⟨by omega, by omega⟩ kB1 kB2
        have hmemL := Lib.hid (fun m : Int => mem_callsL (x := (xk, f, e, t)) hxok'.out (lim := lim) (by omega) m)
        have hpos := Lib.hid (fun (m : Int) h => rfu_pos (x := (xk, f, e, t)) hxok'.out (n := m) h)
        clear HC hI2 hFx kx cx x0 x1 x2 x3 c2 hq hsw hin
        refine rangeF (gf := 240) (lb := #[.pointer (some ⟨q + 1, 0, none⟩), .pointer (some ⟨q + 2, 0, none⟩)]) rfl calls_enters hseq (fun _ => rfl) (fun k h => h.elim) (fun k h => by rw [hsz3]; rcases h with rfl | rfl <;> omega)
          (fun pre W => MarkI s lim (some ⟨b, o, none⟩) n cap (fun m => rfd (l.take j) xk m || decide ((m : Int) ∈ pre)) Ds w W) (fun _ _ _ => False)
          (fun pre A B h hf => h.far hf (fun k h => by rw [hsz3] at h; rcases h with h | h | h; exact h.elim; exact ⟨by omega, fun hD => by have := hDq _ hD; omega⟩; exact ⟨by omega, fun hD => by have := hDq _ hD; omega⟩))
          (fun _ _ _ _ h _ => h.elim) (hI3.congr (fun q _ => by simp))
          (fun _ v a' W => a' = { tmps := #[.agg #[.slice (some ⟨b, o, none⟩) n cap], .int .i64 xk, .int .i64 lim, .pointer (some ⟨s, 0, none⟩), undef, undef, .slice none 0 0, .pointer (some ⟨s + 2, 0, none⟩), undef, .pointer (some ⟨q, 0, none⟩), .int .i64 v, .int .i64 lim, .int .i64 ((lim : Int) + 1), .slice (some ⟨s + 1, 0, none⟩) (lim + 1) (lim + 1), .pointer (some ⟨s, 0, none⟩), .slice (some ⟨b, o, none⟩) n cap, .int .i64 n, .int .i64 j, .bool true, .pointer (some ⟨b, o + j * 4, none⟩), .agg #[.int .i64 xk, .int .i64 f, .int .i64 e, .int .i64 t], .pointer (some ⟨q, 0, none⟩), .int .i64 xk, .int .i64 xk, .bool false, .agg #[.int .i64 xk, .int .i64 f, .int .i64 e, .int .i64 t], .int .i64 lim, .func (.func 240) #[] #[.pointer (some ⟨q + 1, 0, none⟩), .pointer (some ⟨q + 1 + 1, 0, none⟩)], .int .i64 v, u29, u30, u31, u32, u33], defers := [] })
          (fun _ _ _ _ _ h _ => h) ?assign ?body ?done ?stop
        case assign =>
          intro m l' v W C hs hC
          gi_wp2
          exact hC _ _ (Far.refl _ _) rfl
        case body =>
          rintro m l' pre v a' _ W hs hI rfl hpre _ _
          have hvm : v ∈ callsL (xk, f, e, t) lim := hpre.subset (by simp)
          obtain ⟨hv1, hv2⟩ := (hmemL.out v).1 hvm
          have hv3 := hpos.out v hv2
          obtain ⟨vn, rfl⟩ : ∃ vn : Nat, v = (vn : Int) := ⟨v.toNat, by omega⟩
          have hvl : vn ≤ lim := by omega
          have hI' := hI.mark hvl (g := fun m => rfd (l.take j) xk m || decide ((m : Int) ∈ pre ++ [(vn : Int)])) (fun q _ => by
            by_cases e : q = vn
            · subst e; simp
            · have : ¬ (q : Int) = (vn : Int) := by omega
              rw [if_neg e]; simp [this])
          have hI'' := Lib.hid hI'
          obtain ⟨cs, kM, hcs, hcm, kP, kO, _, _, _, _⟩ := hI
          have cO := kO.cell
          have fM := kM.frozen
          have cM := (kM.cell vn).trans (hcm vn hvl)
          have hvlt : (vn : Int) < (lim : Int) + 1 := by omega
          generalize (rfd (l.take j) xk vn || decide ((vn : Int) ∈ pre)) = B0 at cM
          clear hI' hcm hvm hpre hcs kP hv2
          gi_wp2
          exact ⟨Far.setCell (T := fun k => ¬ ((k = q + 1 ∨ k = q + 2) ∨ k = q + 3 ∨ k = q + 3 + 1)) (p := ⟨s + 1, vn, none⟩) (Far.refl _ _) (fun _ => by show ¬ ((s + 1 = q + 1 ∨ s + 1 = q + 2) ∨ s + 1 = q + 3 ∨ s + 1 = q + 3 + 1); omega) _, hI''.out⟩
        case done =>
          rintro W hs hI hd
          rw [hsz3] at hd ⊢
          have hI4 := (hI.more hd (by omega) (fun hD => by have := hDq _ hD; omega)).congr (g := fun m : Nat => rfd (l.take (j + 1)) xk m) (fun q hq => by
            rw [hsn.out]
            congr 1
            rw [Bool.eq_iff_iff, decide_eq_true_eq, hmemL.out]
            simp
            omega)
          have hI5 := Lib.hid hI4
          clear hI4 hI hd
          go_wp2_with fail
          rw [show ((j : Int) + 1) = ((j + 1 : Nat) : Int) by omega]
          refine ⟨⟨j + 1, (q + 3) :: Ds, _, _, _, _, _, _, _, _, _, _, _, _, _, _, _, _, _, _, rfl, by omega, hI5.out⟩, ?_⟩
          simp [intOf]; omega
        case stop => exact fun _ _ _ _ _ h _ => h.elim
      · have hk' : (xk != k) = true := by simpa using hk
        have hI3 := hI2.out.congr (g := fun m : Nat => rfd (l.take (j + 1)) k m) (fun q _ => by rw [hsn.out]; simp [hk])
        have hI3' := Lib.hid hI3
        clear hI3 hk
        go_wp2_with fail
        refine ⟨⟨j + 1, Ds, ⟨by go_num, rfl⟩, by omega, hI3'.out⟩, ?_⟩
        simp only [intOf]; omega
    · obtain rfl : j = n := by omega
      have hlt' : decide ((j : Int) < (j : Int)) = false := by simp
      obtain ⟨cs, kM, hcs, hcm, kP, kO, hDs, hDp, hDl, hB⟩ := hI
      have cO := kO.cell
      have hl' : l.take j = l := List.take_of_length_le (by have := hn'.out; omega)
      rw [hl'] at hcm
      have hsw := kO.lt
      have hfin := Lib.hid (And.intro hDs (And.intro hDp hDl))
      have hM := Lib.hid (And.intro kM (And.intro hcs hcm))
      clear hl' hDs hDp hDl kM hcs hcm
      go_wp2_with fail
      refine leave_marks Ds wr (fun D hD => (hfin.out.1 D hD).2) hfin.out.2.1 (fun w9 hF => ⟨by simp [results, Tryz.results226, go_sem]; rfl, ?_⟩)
      exact ⟨s + 1, cs, rfl, hF.blk hM.out.1 (fun h => by have := (hfin.out.1 _ h).1; omega), hM.out.2.1, hM.out.2.2, by rw [hs'.out]; exact hB.trans (hF.below (by omega) (fun k hk h => by have := (hfin.out.1 _ h).1; omega))⟩
end Go.Proofs.YtefnnfcfigcikaaGreat
namespace Go.Pol
open Go
/-- the marks ahead of a place, counted -/
def cntZ (l : List Ru) (k : Int) : Nat → Int
  | 0 => 0
  | i + 1 => cntZ l k i + if rfd l k (i : Int) = true then 1 else 0
theorem rfd_zero {l : List Ru} (h : ∀ x ∈ l, ruleE x = 0) (k : Int) : rfd l k 0 = false := by
  cases hc : rfd l k 0 with
  | false => rfl
  | true =>
    obtain ⟨x, hx, h1⟩ := List.any_eq_true.1 hc
    rw [Bool.and_eq_true] at h1
    have := rfu_pos (h x hx) h1.2
    omega
theorem cntZ_hit {l : List Ru} (h : ∀ x ∈ l, ruleE x = 0) (k : Int) : ∀ n : Nat, cntZ l k (n + 1) = hitN l k n
  | 0 => by simp [cntZ, hitN, rfd_zero h k]
  | n + 1 => by rw [cntZ, cntZ_hit h k n, hitN]; rfl
theorem cntZ_bound (l : List Ru) (k : Int) : ∀ n : Nat, 0 ≤ cntZ l k n ∧ cntZ l k n ≤ n
  | 0 => by simp [cntZ]
  | n + 1 => by
    have := cntZ_bound l k n
    rw [cntZ]
    split <;> omega
end Go.Pol
namespace Go.Proofs.YtefnnfcfigcikaaGreat
open Go Go.Proofs Go.RowKit Go.Pol Go.Shelf
attribute [local go_sem] Oper.semAt_some Go.Pol.wide_fn Go.Pol.wide_depth Go.Pol.wide_fn' Go.Pol.wide_depth'

set_option maxRecDepth 100000 in
set_option maxHeartbeats 1600000 in
theorem hits_any (A : Option Addr) (n cap : Nat) (l : List Ru) (k : Int) (lim : Nat) (w : World) (hn : l.length = n) (hn1 : n ≤ 1000) (hok : ∀ x ∈ l, ruleE x = 0) (hl : lim ≤ 1000000) (hr : Rd w w.heap.size A (fl ruC l)) :
    Calls Tryz.prog 203 #[.agg #[.slice A n cap], .int .i64 k, .int .i64 lim] w fun e w' => e = .returned (.int .i64 (hitN l k lim)) ∧ Below w.heap.size w w' := by
  have hb0 := (Below.refl w.heap.size w).alloc (Nat.le_refl _) (.cells #[.slice A n cap] 35)
  have k0 := Blk.new w 35 #[.slice A n cap]
  have c0 := k0.cell
  have r0 := hr.on_ hb0
  have HM := hitMarks_any A n cap l k lim _ hn hn1 hok hl r0
  have hz := Lib.hid (cntZ_hit hok k lim)
  have hbd := Lib.hid (cntZ_bound l k)
  generalize hitN l k lim = R at *
  unfold MarksO at HM
  have HM' := Lib.hid HM
  clear HM r0 hr hok hn k0
  go_enter Tryz.func203, Tryz.ntmps203
  go_wp2_with fail
  refine HM'.out.mono ?_
  rintro e w1 ⟨g, cs, rfl, kM, hcs, hcm, hb1⟩
  have B1 := hb0.trans (hb1.mono hb0.size)
  have hcm' := Lib.hid hcm
  clear HM' hb0 hb1 c0 hcm hcs
  go_wp2_with fail
  go_loopw [6, 14] (fun u v wr => ∃ (i : Nat) (c : Int), i ≤ lim + 1 ∧ u = .int .i64 c ∧ v = .int .i64 i ∧ Hid (c = cntZ l k i) ∧ wr = w1) (fun _ v _ => lim + 1 - (intOf v).toNat)
  case atStart => exact ⟨0, 0, by omega, rfl, rfl, Lib.hid rfl, rfl⟩
  case round =>
    obtain ⟨i, c, hi, rfl, rfl, hc, hw⟩ := hrel
    have hw' := hw.symm
    clear hw
    subst hw'
    have hbc := hbd.out i
    rw [← hc.out] at hbc
    by_cases hlt : i < lim + 1
    · have hlt' : decide ((i : Int) < (lim : Int) + 1) = true := by simp; omega
      have hin : (i : Int) < (lim : Int) + 1 := by omega
      have cM := (kM.cell i).trans (hcm'.out i (by omega))
      have hst : Hid (cntZ l k (i + 1) = c + if rfd l k (i : Int) = true then 1 else 0) := Lib.hid (by rw [cntZ, hc.out])
      cases hv : rfd l k (i : Int) with
      | true =>
        rw [hv] at cM
        have hst2 : Hid (c + 1 = cntZ l k (i + 1)) := Lib.hid (by rw [hst.out, hv]; simp)
        clear hst hv
        go_wp2_with fail
        go_roundw
        case rel => exact ⟨i + 1, c + 1, by omega, rfl, by go_num, hst2, trivial⟩
        case measure => simp [intOf]; omega
      | false =>
        rw [hv] at cM
        have hst2 : Hid (c = cntZ l k (i + 1)) := Lib.hid (by rw [hst.out, hv]; simp)
        clear hst hv
        go_wp2_with fail
        go_roundw
        case rel => exact ⟨i + 1, c, by omega, rfl, by go_num, hst2, trivial⟩
        case measure => simp [intOf]; omega
    · obtain rfl : i = lim + 1 := by omega
      have hlt' : decide (((lim + 1 : Nat) : Int) < (lim : Int) + 1) = false := by simp
      have hcR : c = R := by rw [hc.out, hz.out]
      subst hcR
      go_wp2_with fail
      go_ret
      exact ⟨rfl, B1⟩
theorem next_any (x : Ru) (n : Int) (w : World) (hx : ruleE x = 0) (hn : 0 ≤ n ∧ n ≤ 1000000) : Calls Tryz.prog 206 #[ruV x, .int .i64 n] w fun e w' => e = .returned (.int .i64 (nxt x n)) ∧ Below w.heap.size w w' := by
  obtain ⟨k, f, e, t⟩ := x
  obtain ⟨_, h1, h2, h3, h4⟩ := ruleE_zero.1 hx
  simp only at h1 h2 h3 h4
  have hb0 := (Below.refl w.heap.size w).alloc (Nat.le_refl _) (.cells #[.int .i64 k, .int .i64 f, .int .i64 e, .int .i64 t] 178)
  have k0 := Blk.new w 178 #[.int .i64 k, .int .i64 f, .int .i64 e, .int .i64 t]
  have c0 := k0.cell
  clear k0 h4 hx
  obtain ⟨R, hR⟩ : ∃ R, nxt (k, f, e, t) n = R := ⟨_, rfl⟩
  rw [hR]
  unfold nxt at hR
  simp only at hR
  by_cases c1 : n < f
  · have d1 : decide (n < f) = true := by simpa using c1
    have hE : Hid (R = f) := Lib.hid (by rw [← hR, if_pos c1])
    clear hR
    go_enter Tryz.func206, Tryz.ntmps206
    go_wp2_with fail
    go_ret
    exact ⟨by rw [hE.out]; rfl, hb0⟩
  have d1 : decide (n < f) = false := by simpa using c1
  rw [if_neg c1] at hR
  by_cases c2 : e = 0
  · have d2 : (e == 0) = true := by simpa using c2
    have hE : Hid (R = 0) := Lib.hid (by rw [← hR, if_pos c2])
    clear c2
    clear hR
    go_enter Tryz.func206, Tryz.ntmps206
    go_wp2_with fail
    go_ret
    exact ⟨by rw [hE.out]; rfl, hb0⟩
  have d2 : (e == 0) = false := by simpa using c2
  rw [if_neg c2] at hR
  have he : 0 < e := by omega
  obtain ⟨q, hq⟩ : ∃ q, (n - f) / e = q := ⟨_, rfl⟩
  have hq0 : 0 ≤ q := by rw [← hq]; exact Int.ediv_nonneg (by omega) (by omega)
  have hq1 : q ≤ 1000000 := by rw [← hq]; have := Int.ediv_le_self e (show 0 ≤ n - f by omega); omega
  have hqt : Int.tdiv (n - f) e = q := by rw [Int.tdiv_eq_ediv_of_nonneg (by omega)]; exact hq
  have hw1 : IntKind.i64.wrap (n - f) = n - f := by rw [IntKind.wrap_i64]; omega
  have hw2 : IntKind.i64.wrap (q + 1) = q + 1 := by rw [IntKind.wrap_i64]; omega
  rw [hq] at hR
  have hm0 : 0 ≤ (q + 1) * e := Int.mul_nonneg (by omega) (by omega)
  have hm1 : (q + 1) * e ≤ 12000012 := by
    have h5 : (q + 1) * e ≤ 1000001 * e := Int.mul_le_mul_of_nonneg_right (by omega) (by omega)
    omega
  obtain ⟨p, hp⟩ : ∃ p, (q + 1) * e = p := ⟨_, rfl⟩
  rw [hp] at hR hm0 hm1
  have hw3 : IntKind.i64.wrap ((q + 1) * e) = p := by rw [hp, IntKind.wrap_i64]; omega
  have hw4 : IntKind.i64.wrap (f + p) = f + p := by rw [IntKind.wrap_i64]; omega
  clear hq hp
  by_cases c3 : 0 < t
  · have d3 : decide (0 < t) = true := by simpa using c3
    by_cases c4 : t ≤ q + 1
    · have d4 : decide (t ≤ q + 1) = true := by simpa using c4
      have hE : Hid (R = 0) := Lib.hid (by rw [← hR, if_pos ⟨c3, c4⟩])
      clear hR
      go_enter Tryz.func206, Tryz.ntmps206
      go_wp2_with fail
      go_ret
      exact ⟨by rw [hE.out]; rfl, hb0⟩
    · have d4 : decide (t ≤ q + 1) = false := by simpa using c4
      have hE : Hid (R = f + p) := Lib.hid (by rw [← hR, if_neg (by omega)])
      clear hR
      go_enter Tryz.func206, Tryz.ntmps206
      go_wp2_with fail
      go_ret
      exact ⟨by rw [hE.out]; rfl, hb0⟩
  · have d3 : decide (0 < t) = false := by simpa using c3
    have hE : Hid (R = f + p) := Lib.hid (by rw [← hR, if_neg (by omega)])
    clear hR
    go_enter Tryz.func206, Tryz.ntmps206
    go_wp2_with fail
    go_ret
    exact ⟨by rw [hE.out]; rfl, hb0⟩
end Go.Proofs.YtefnnfcfigcikaaGreat
