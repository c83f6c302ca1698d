/- Merged texts. Walks of layer 13: the reference's span, in, live. Walk of layer 13: the reference's Check. Walk of layer 13: the reference's Groups. Walks of layer 13: the reference's Score, touched, Split. Walks of layer 13: the reference's touched, Split. Walks of layer 13: the law's ints, Example, far. Plain laws for layer 13: the example's values; a sort of Array.insertionSort's kind keeps the size. Walk of layer 13: the law's awake. Opening the arguments of the laws of this seat (a table, a usage, numbers), and closing their rows: all that a law's contract has to say is that it returns true and turns nothing that lay there. Opening the arguments of the laws of layer 13: states, lists of spans, numbers. Plain law for Choose of layer 13: an insertion sort by live pages keeps the order of the numbers. Plain laws for Choose of layer 13: sums over the first of a sorted list are the least. Walks of layer 13: the reference's sets, Cost. Walk of layer 13: the reference's better. Walk of layer 13: the reference's first. Walk of layer 13: the reference's Choose. Plain laws for Choose of layer 13: how many pages are idle outside the groups that stay huge. Plain law for Split of layer 13: the program's groups are the reference's. Plain laws for Choose of layer 13: which groups a choice touches; which of two choices comes first. Plain laws for Choose of layer 13: the greedy choice is better than any other one. Plain laws for Choose of layer 13: the reference, which looks at all sets of huge groups, finds the greedy choice. Plain law for Choose of layer 13: the program's answer is the reference's. Plain law of a stable merge in place: rotations, exchanges of neighbours, what a merge leaves. -/
import Derived.Test.YtefnnfcfigcikaaGreatRows
import Derived.Carry
import Derived.ChangeSlices
import Derived.RowKit2
import Derived.RowKit3
import Derived.JoinedAt
import Derived.Test.YtefnnfcfigcikaaGreatC4
namespace Go.Proofs.YtefnnfcfigcikaaGreat
open Go Go.Proofs Go.RowKit Go.Pol Go.Shelf
attribute [local go_sem] Oper.semAt_some Go.Pol.wide_fn Go.Pol.wide_depth Go.Pol.wide_fn' Go.Pol.wide_depth'

theorem span13_any (g : Int) (w : World) (h : 0 ≤ g ∧ g < 64) : Calls Tryz.prog 61 #[.int .i64 g] w fun e w' => e = .returned (.agg #[.int .i64 (16 * g), .int .i64 16]) ∧ Below w.heap.size w w' := by
  obtain ⟨k, rfl⟩ : ∃ k : Nat, g = (k : Int) := ⟨g.toNat, by omega⟩
  have hm : (k : Int) * 16 = 16 * (k : Int) := Int.mul_comm _ _
  have k0 := Blk.new w 134 #[.int .i64 0, .int .i64 0]
  have hb0 := (Below.refl w.heap.size w).alloc (Nat.le_refl _) (.cells #[.int .i64 0, .int .i64 0] 134)
  have c0 := k0.cell
  have f0 := k0.frozen
  have k1 := Blk.new w 134 #[.int .i64 (16 * (k : Int)), .int .i64 16]
  have hb1 := (Below.refl w.heap.size w).alloc (Nat.le_refl _) (.cells #[.int .i64 (16 * (k : Int)), .int .i64 16] 134)
  have c1 := k1.cell
  go_enter Tryz.func61, Tryz.ntmps61
  go_wp2_with fail
  exact bodyPost_ret (v := .agg #[.int .i64 (16 * (k : Int)), .int .i64 16]) (by simp [results, Tryz.results61, go_sem, c1]) rfl ⟨rfl, hb1⟩
theorem in13_any (v : Int) (A : Option Addr) (n cap : Nat) (bs : List Int) (w : World) (hn : bs.length = n) (hm : n ≤ maxLen) (hr : RI w w.heap.size A bs) :
    Calls Tryz.prog 137 #[.slice A n cap, .int .i64 v] w fun e w' => e = .returned (.bool (decide (v ∈ bs))) ∧ w' = w := by
  unfold maxLen at hm
  obtain ⟨R, hR⟩ : ∃ R, decide (v ∈ bs) = R := ⟨_, rfl⟩
  rw [hR]
  have hR' := Lib.hid hR
  have hn' := Lib.hid hn
  clear hR hn
  go_enter Tryz.func137, Tryz.ntmps137
  go_wp2_with fail
  go_loopw [5] (fun i wr => ∃ k : Nat, k ≤ n ∧ i = .int .i64 k ∧ wr = w ∧ Hid (decide (v ∈ bs.drop k) = R)) (fun i _ => n - (intOf i).toNat)
  case atStart => exact ⟨0, by omega, rfl, rfl, by simpa using hR'⟩
  case round =>
    obtain ⟨k, hk, rfl, hw, hH⟩ := hrel
    have hw' := hw.symm
    clear hw
    subst hw'
    by_cases hlt : k < n
    · have hlt' : decide ((k : Int) < (n : Int)) = true := by simpa using hlt
      obtain ⟨b, o, rfl, _, c1⟩ := hr.at_ (k := k) (by have := hn'.out; omega)
      have hst := hH.out
      rw [Go.Pol.drop_cons 0 bs k (by have := hn'.out; omega)] at hst
      generalize bs.getD k 0 = x at *
      cases hpx : (x == v) with
      | true =>
        have hst' := Lib.hid (show true = R by rw [← hst]; simp at hpx; simp [hpx])
        clear hst hH
        go_wp2_with fail
        go_ret
        exact ⟨ret_bool hst'.out, rfl⟩
      | false =>
        have hst' := Lib.hid (show decide (v ∈ bs.drop (k + 1)) = R by
          rw [← hst]
          have : ¬ v = x := fun e => by rw [e] at hpx; simp at hpx
          simp [this])
        clear hst hH
        go_wp2_with fail
        go_roundw
        case rel => exact ⟨k + 1, by omega, by go_num, by first | rfl | trivial, hst'⟩
        case measure => simp [intOf]; omega
    · obtain rfl : k = n := by omega
      have hlt' : decide ((k : Int) < (k : Int)) = false := by simp
      have hst := hH.out
      rw [List.drop_of_length_le (by have := hn'.out; omega)] at hst
      have hst' := Lib.hid (show false = R by rw [← hst]; simp)
      clear hst hH
      go_wp2_with fail
      go_ret
      exact ⟨ret_bool hst'.out, rfl⟩
theorem ru_one {w : World} {g : Nat} {t : TypeId} {a b : Int} (h : Blk w g t #[.int .i64 a, .int .i64 b]) : RU w w.heap.size (some ⟨g, 0, none⟩) [(a, b)] := fun k hk => by
  obtain rfl : k = 0 := by simp at hk; omega
  exact ⟨g, 0, rfl, h.lt, h.cell 0, h.cell 1⟩
def LiveS (bx : Nat) (v : Value) (W : World) : Prop := W.cell? ⟨bx, 1, none⟩ = some v ∧ True
set_option maxRecDepth 100000 in
set_option maxHeartbeats 1600000 in
theorem live13_any (S : Value) (C L : List Sp) (H : List Int) (g : Int) (w : World) (hS : StIs w S C L H) (hg : 0 ≤ g ∧ g < 64) (hL : Go.Pol.Can L) :
    Calls Tryz.prog 138 #[S, .int .i64 g] w fun e w' => e = .returned (.int .i64 (grpF L g)) ∧ Below w.heap.size w w' := by
  obtain ⟨A1, A2, A3, n1, c1, n2, c2, n3, c3, rfl, h1, h2, h3, h4, h5, h6, h7, h8, h9⟩ := hS.ex
  obtain ⟨m1, m2, m3⟩ := meet_span hL hg
  have hb0 := (Below.refl w.heap.size w).alloc (Nat.le_refl _) (.cells #[.slice A1 n1 c1, .slice A2 n2 c2, .slice A3 n3 c3] 52)
  have k0 := Blk.new w 52 #[.slice A1 n1 c1, .slice A2 n2 c2, .slice A3 n3 c3]
  have r0 := h6.on hb0
  have HSp := Lib.hid (fun W => span13_any g W hg)
  have HM := Lib.hid (fun A9 c9 W (hr1 : RU W W.heap.size A2 L) (hr2 : RU W W.heap.size A9 [(16 * g, 16)]) => rMeet_any A2 A9 n2 c2 1 c9 L [(16 * g, 16)] W h4 h5 hr1 rfl (by unfold maxLen; omega) hr2)
  have HC := Lib.hid (fun A9 n9 c9 W (hn : (combF 2 L [(16 * g, 16)]).length = n9) (hm : n9 ≤ maxLen) hr => rCount_any A9 n9 c9 (combF 2 L [(16 * g, 16)]) W hn hm hr)
  rw [m1] at HM
  rw [if_pos (chkS_zero.2 m2), m3] at HC
  have hml := m2.len
  generalize combF 2 L [(16 * g, 16)] = M at *
  generalize grpF L g = R at *
  clear h1 h2 h3 h4 h5 h6 h7 h8 h9 hS m1 m2 m3 hL
  go_enter Tryz.func138, Tryz.ntmps138
  go_upto_region 1 with fail
  generalize w.alloc (.cells #[.slice A1 n1 c1, .slice A2 n2 c2, .slice A3 n3 c3] 52) = w0 at *
  refine wp_noPanic ?_
  refine wp_region_T (LiveS w.heap.size (.slice A2 n2 c2)) [] (by kernel_rfl) ?_
  have hS : LiveS w.heap.size (.slice A2 n2 c2) w0.drew := ⟨k0.cell 1, trivial⟩
  have hbd : Below w0.heap.size w0 w0.drew := (Below.refl _ _).drew
  have k1 := k0.call hbd
  have r1 := r0.on hbd
  have B1 := hb0.trans (hbd.mono hb0.size)
  generalize w0.drew = w1 at *
  clear k0 r0 hb0 hbd
  refine' wpAnyT_take (i := 0) (v := _) ?hiT0 (by kernel_rfl) ?hQT0 (Or.inl ⟨?hwT0, ?hyT0⟩) hS ?reT0
  case hiT0 => (simp only [List.getElem?_toArray, List.getElem?_cons_zero]; rfl)
  case hQT0 => exact fun _ _ _ h => h
  case hwT0 => rfl
  case hyT0 => (intro wS hSw; obtain ⟨_, _⟩ := hSw; go_simp; (try with_reducible rfl))
  try simp only [Act.put, List.setIfInBounds_toArray, List.set_cons_zero, List.set_cons_succ]
  refine' wpAnyT_take (i := 1) (v := _) ?hiT1 (by kernel_rfl) ?hQT1 (Or.inl ⟨?hwT1, ?hyT1⟩) hS ?reT1
  case hiT1 => (simp only [List.getElem?_toArray, List.getElem?_cons_succ, List.getElem?_cons_zero]; rfl)
  case hQT1 => exact fun _ _ _ h => h
  case hwT1 => rfl
  case hyT1 => (intro wS hSw; obtain ⟨_, _⟩ := hSw; go_simp; (try with_reducible rfl))
  try simp only [Act.put, List.setIfInBounds_toArray, List.set_cons_zero, List.set_cons_succ]
  refine' wpAnyT_take (i := 2) (v := _) ?hiT2 (by kernel_rfl) ?hQT2 (Or.inl ⟨?hwT2, ?hyT2⟩) hS ?reT2
  case hiT2 => (simp only [List.getElem?_toArray, List.getElem?_cons_succ, List.getElem?_cons_zero]; rfl)
  case hQT2 => exact fun _ _ _ h => h
  case hwT2 => rfl
  case hyT2 => (intro wS hSw; obtain ⟨_, _⟩ := hSw; go_simp; (try with_reducible rfl))
  try simp only [Act.put, List.setIfInBounds_toArray, List.set_cons_zero, List.set_cons_succ]
  refine wpAnyT_ready (rs := [3]) (by kernel_rfl) (by simp) ?_
  refine' AllReadyT.cons ?hi3 (fun K hK => ?st3) AllReadyT.nil
  case hi3 => (simp only [List.getElem?_toArray, List.getElem?_cons_succ, List.getElem?_cons_zero]; rfl)
  go_simp
  refine (HSp.out _).mono ?_
  rintro e w2 ⟨rfl, hb2⟩
  have k2 := k1.call hb2
  have r2 := r1.on hb2
  have B2 := B1.trans (hb2.mono B1.size)
  refine hK.out _ _ (fun _ => ⟨k2.cell 1, trivial⟩) (fun hS => ?_)
  clear hK K hb2 k1 r1 B1
  replace hS := hS rfl
  try simp only [Act.put, List.setIfInBounds_toArray, List.set_cons_zero, List.set_cons_succ]
  refine wpAnyT_ready (rs := [4]) (by kernel_rfl) (by simp) ?_
  refine' AllReadyT.cons ?hi4 (fun K hK => ?st4) AllReadyT.nil
  case hi4 => (simp only [List.getElem?_toArray, List.getElem?_cons_succ, List.getElem?_cons_zero]; rfl)
  go_simp
  have kN := Blk.new w2 134 #[.int .i64 (16 * g), .int .i64 16]
  have hb3 : Below w2.heap.size w2 (w2.alloc (.cells #[.int .i64 (16 * g), .int .i64 16] 134)) := (Below.refl _ _).alloc (Nat.le_refl _) _
  have k3 := k2.call hb3
  have r3 := r2.on hb3
  have B3 := B2.trans (hb3.mono B2.size)
  obtain ⟨g2, hg2⟩ : ∃ g2, w2.heap.size = g2 := ⟨_, rfl⟩
  rw [hg2] at kN ⊢
  have HM2 := Lib.hid (HM.out _ 1 _ r3 (ru_one kN))
  refine hK.out _ _ (fun _ => ⟨k3.cell 1, trivial⟩) (fun hS => ?_)
  clear hK K hb3 k2 r2 B2 kN HM
  replace hS := hS rfl
  generalize w2.alloc (.cells #[.int .i64 (16 * g), .int .i64 16] 134) = w3 at *
  try simp only [Act.put, List.setIfInBounds_toArray, List.set_cons_zero, List.set_cons_succ]
  refine wpAnyT_ready (rs := [5]) (by kernel_rfl) (by simp) ?_
  refine' AllReadyT.cons ?hi5 (fun K hK => ?st5) AllReadyT.nil
  case hi5 => (simp only [List.getElem?_toArray, List.getElem?_cons_succ, List.getElem?_cons_zero]; rfl)
  go_simp
  refine HM2.out.mono ?_
  rintro e w4 ⟨A9, c9, rfl, u9, _, _, _, hb4⟩
  have k4 := k3.call hb4
  have B4 := B3.trans (hb4.mono B3.size)
  have HC2 := Lib.hid (HC.out A9 M.length c9 w4 rfl (by unfold maxLen; omega) u9)
  obtain ⟨ml, hml2⟩ : ∃ ml, M.length = ml := ⟨_, rfl⟩
  rw [hml2] at HC2 ⊢
  refine hK.out _ _ (fun _ => ⟨k4.cell 1, trivial⟩) (fun hS => ?_)
  clear hK K hb4 k3 r3 B3 HM2
  replace hS := hS rfl
  try simp only [Act.put, List.setIfInBounds_toArray, List.set_cons_zero, List.set_cons_succ]
  refine' wpAnyT_take (i := 6) (v := _) ?hiT6a (by kernel_rfl) ?hQT6a (Or.inl ⟨?hwT6a, ?hyT6a⟩) hS ?reT6a
  case hiT6a => (simp only [List.getElem?_toArray, List.getElem?_cons_succ, List.getElem?_cons_zero]; rfl)
  case hQT6a => exact fun _ _ _ h => h
  case hwT6a => rfl
  case hyT6a => (intro wS hSw; obtain ⟨_, _⟩ := hSw; go_simp; (try with_reducible rfl))
  try simp only [Act.put, List.setIfInBounds_toArray, List.set_cons_zero, List.set_cons_succ]
  refine' wpAnyT_take (i := 7) (v := _) ?hiT7a (by kernel_rfl) ?hQT7a (Or.inl ⟨?hwT7a, ?hyT7a⟩) hS ?reT7a
  case hiT7a => (simp only [List.getElem?_toArray, List.getElem?_cons_succ, List.getElem?_cons_zero]; rfl)
  case hQT7a => exact fun _ _ _ h => h
  case hwT7a => rfl
  case hyT7a => (intro wS hSw; obtain ⟨_, _⟩ := hSw; go_simp; (try with_reducible rfl))
  try simp only [Act.put, List.setIfInBounds_toArray, List.set_cons_zero, List.set_cons_succ]
  refine' wpAnyT_take (i := 8) (v := _) ?hiT8a (by kernel_rfl) ?hQT8a (Or.inl ⟨?hwT8a, ?hyT8a⟩) hS ?reT8a
  case hiT8a => (simp only [List.getElem?_toArray, List.getElem?_cons_succ, List.getElem?_cons_zero]; rfl)
  case hQT8a => exact fun _ _ _ h => h
  case hwT8a => rfl
  case hyT8a => (intro wS hSw; obtain ⟨_, _⟩ := hSw; go_simp; (try with_reducible rfl))
  try simp only [Act.put, List.setIfInBounds_toArray, List.set_cons_zero, List.set_cons_succ]
  refine' wpAnyT_take (i := 9) (v := _) ?hiT9a (by kernel_rfl) ?hQT9a (Or.inl ⟨?hwT9a, ?hyT9a⟩) hS ?reT9a
  case hiT9a => (simp only [List.getElem?_toArray, List.getElem?_cons_succ, List.getElem?_cons_zero]; rfl)
  case hQT9a => exact fun _ _ _ h => h
  case hwT9a => rfl
  case hyT9a => (intro wS hSw; obtain ⟨_, _⟩ := hSw; go_simp; (try with_reducible rfl))
  try simp only [Act.put, List.setIfInBounds_toArray, List.set_cons_zero, List.set_cons_succ]
  refine' wpAnyT_take (i := 10) (v := _) ?hiT10a (by kernel_rfl) ?hQT10a (Or.inl ⟨?hwT10a, ?hyT10a⟩) hS ?reT10a
  case hiT10a => (simp only [List.getElem?_toArray, List.getElem?_cons_succ, List.getElem?_cons_zero]; rfl)
  case hQT10a => exact fun _ _ _ h => h
  case hwT10a => rfl
  case hyT10a => (intro wS hSw; obtain ⟨_, _⟩ := hSw; go_simp; (try with_reducible rfl))
  try simp only [Act.put, List.setIfInBounds_toArray, List.set_cons_zero, List.set_cons_succ]
  refine wpAnyT_done (by kernel_rfl) ?_ _
  refine noPanic_normal ?_
  go_wp2_with fail
  refine HC2.out.mono ?_
  rintro e w5 ⟨rfl, hb5⟩
  go_wp2_with fail
  go_ret
  exact ⟨rfl, B4.trans (hb5.mono B4.size)⟩
end Go.Proofs.YtefnnfcfigcikaaGreat
namespace Go.Proofs.YtefnnfcfigcikaaGreat
open Go Go.Proofs Go.RowKit Go.Pol Go.Shelf
attribute [local go_sem] Oper.semAt_some Go.Pol.wide_fn Go.Pol.wide_depth Go.Pol.wide_fn' Go.Pol.wide_depth'

set_option maxRecDepth 100000 in
set_option maxHeartbeats 3200000 in
theorem rcheck13_any (S : Value) (C L : List Sp) (H : List Int) (w : World) (hS : StIs w S C L H) :
    Calls Tryz.prog 20 #[S] w fun e w' => e = .returned (.int .i64 (chkH C L H)) ∧ Below w.heap.size w w' := by
  obtain ⟨A1, A2, A3, n1, c1, n2, c2, n3, c3, rfl, h1, h2, h3, h4, h5, h6, h7, h8, h9⟩ := hS.ex
  have hb0 := (Below.refl w.heap.size w).alloc (Nat.le_refl _) (.cells #[.slice A1 n1 c1, .slice A2 n2 c2, .slice A3 n3 c3] 52)
  have k0 := Blk.new w 52 #[.slice A1 n1 c1, .slice A2 n2 c2, .slice A3 n3 c3]
  have H1 := Lib.hid (fun W h => refSpCheck_any A1 n1 c1 C W h1 h2 h)
  have H2 := Lib.hid (fun W h => refSpCheck_any A2 n2 c2 L W h4 h5 h)
  have HM := Lib.hid (fun W (hr1 : RU W W.heap.size A2 L) (hr2 : RU W W.heap.size A1 C) => rMinus_any A2 A1 n2 c2 n1 c1 L C W h4 h5 hr1 h1 h2 hr2)
  have HH := Lib.hid (fun (g : Int) W h => rHas_any A1 n1 c1 C (16 * g) 16 W h1 h2 h)
  obtain ⟨R, hR⟩ : ∃ R, chkH C L H = R := ⟨_, rfl⟩
  rw [hR]
  have hR' := Lib.hid hR
  have r1 := h3.on hb0
  have r2 := h6.on hb0
  have r3 := RI.on h9 hb0
  have hn3 := h7
  have hm3 := h8
  unfold maxLen at hm3
  clear hR h1 h2 h3 h4 h5 h6 h7 h8 h9 hS
  have c0 := k0.cell
  by_cases hc : chkS C = 0
  case neg =>
    have hE : Hid (R = chkS C) := Lib.hid (by rw [← hR'.out, chkH_1 hc])
    have hc' : (chkS C == 0) = false := by simpa using hc
    have hc2 : (chkS C != 0) = true := by simpa using hc
    generalize chkS C = er at *
    clear hc HM HH
    go_enter Tryz.func20, Tryz.ntmps20
    go_wp2_with fail
    refine (H1.out _ r1).mono ?_
    rintro e w1 ⟨rfl, hb1⟩
    go_wp2_with fail
    go_ret
    exact ⟨ret_int hE.out.symm, hb0.trans (hb1.mono hb0.size)⟩
  case pos =>
    rw [hc] at H1
    by_cases hl : chkS L = 0
    case neg =>
      have hE : Hid (R = chkS L) := Lib.hid (by rw [← hR'.out, chkH_2 hc hl])
      have hc2 : (chkS L != 0) = true := by simpa using hl
      generalize chkS L = er at *
      clear hc hl HM HH
      go_enter Tryz.func20, Tryz.ntmps20
      go_wp2_with fail
      refine (H1.out _ r1).mono ?_
      rintro e w1 ⟨rfl, hb1⟩
      have k1 := k0.call hb1
      have c1 := k1.cell
      have r21 := r2.on hb1
      have B1 := hb0.trans (hb1.mono hb0.size)
      go_wp2_with fail
      refine (H2.out _ r21).mono ?_
      rintro e w2 ⟨rfl, hb2⟩
      go_wp2_with fail
      go_ret
      exact ⟨ret_int hE.out.symm, B1.trans (hb2.mono B1.size)⟩
    case pos =>
      rw [hl] at H2
      have canC := Lib.hid (chkS_zero.1 hc)
      have canL := Lib.hid (chkS_zero.1 hl)
      have hcl := Lib.hid (⟨hc, hl⟩ : chkS C = 0 ∧ chkS L = 0)
      clear hc hl
      go_enter Tryz.func20, Tryz.ntmps20
      go_wp2_with fail
      refine (H1.out _ r1).mono ?_
      rintro e w1 ⟨rfl, hb1⟩
      have k1 := k0.call hb1
      have c1 := k1.cell
      have r21 := r2.on hb1
      have B1 := hb0.trans (hb1.mono hb0.size)
      go_wp2_with fail
      refine (H2.out _ r21).mono ?_
      rintro e w2 ⟨rfl, hb2⟩
      have k2 := k1.call hb2
      have q1 := (r1.on hb1).on hb2
      have q2 := r21.on hb2
      have q3 := RI.on (RI.on r3 hb1) hb2
      have B2 := B1.trans (hb2.mono B1.size)
      clear r21 B1 hb1 hb2 k1 c1 r1 r2 r3 hb0 k0 c0
      go_wp2_with fail
      have hst0 : Hid (H.all inG = (H.drop 0).all inG) := Lib.hid rfl
      go_loopw [4] (fun i wr => ∃ k : Nat, k ≤ n3 ∧ i = .int .i64 k ∧ wr = w2 ∧ Hid (H.all inG = (H.drop k).all inG)) (fun i _ => n3 - (intOf i).toNat)
      case atStart => exact ⟨0, by omega, rfl, rfl, hst0⟩
      case round =>
        clear hst0
        obtain ⟨k, hk, rfl, hw, hst⟩ := hrel
        have hw' := hw.symm
        clear hw
        subst hw'
        have c2 := k2.cell
        by_cases hlt : k < n3
        · have hlt' : decide ((k : Int) < (n3 : Int)) = true := by simpa using hlt
          obtain ⟨b, o, rfl, _, c4⟩ := q3.at_ (k := k) (by omega)
          have hst1 := hst.out
          rw [Go.Pol.drop_cons 0 H k (by omega), List.all_cons] at hst1
          generalize H.getD k 0 = x at *
          have hi : inG x = (decide (0 ≤ x) && decide (x < 64)) := rfl
          by_cases hx0 : x < 0
          · as_aux_lemma =>
              have hx0' : decide (x < 0) = true := by simpa using hx0
              have hE : Hid (R = 7) := Lib.hid (by rw [← hR'.out, chkH_3 hcl.out.1 hcl.out.2 (by rw [hst1, hi, decide_eq_false (show ¬ 0 ≤ x by omega)]; rfl)])
              clear hst hst1 hi hx0
              go_wp2_with fail
              go_ret
              exact ⟨ret_int hE.out.symm, B2⟩
          · have hx0' : decide (x < 0) = false := by simpa using hx0
            by_cases hx1 : 64 ≤ x
            · as_aux_lemma =>
                have hx1' : decide (64 ≤ x) = true := by simpa using hx1
                have hE : Hid (R = 7) := Lib.hid (by rw [← hR'.out, chkH_3 hcl.out.1 hcl.out.2 (by rw [hst1, hi, decide_eq_false (show ¬ x < 64 by omega), Bool.and_false]; rfl)])
                clear hst hst1 hi hx0 hx1
                go_wp2_with fail
                go_ret
                exact ⟨ret_int hE.out.symm, B2⟩
            · as_aux_lemma =>
                have hx1' : decide (64 ≤ x) = false := by simpa using hx1
                have hst2 : Hid (H.all inG = (H.drop (k + 1)).all inG) := Lib.hid (by rw [hst1, hi, decide_eq_true (show 0 ≤ x by omega), decide_eq_true (show x < 64 by omega)]; rfl)
                clear hst hst1 hi hx0 hx1
                go_wp2_with fail
                go_roundw
                case rel => exact ⟨k + 1, by omega, by go_num, by first | rfl | trivial, hst2⟩
                case measure => simp [intOf]; omega
        · as_aux_lemma =>
            obtain rfl : k = n3 := by omega
            have hlt' : decide ((k : Int) < (k : Int)) = false := by simp
            have hG : Hid (H.all inG = true) := Lib.hid (by rw [hst.out, List.drop_of_length_le (by omega)]; rfl)
            have c2 := k2.cell
            obtain ⟨e1, e2⟩ := minus_nil canL.out canC.out
            have HM2 := HM.out w2 q2 q1
            rw [e1] at HM2
            clear hst hlt HM e1
            by_cases hsub : subF L C = true
            case neg =>
              have hE : Hid (R = 6) := Lib.hid (by rw [← hR'.out, chkH_4 hcl.out.1 hcl.out.2 hG.out (by simpa using hsub)])
              have hpos : 0 < (combF 3 L C).length := List.length_pos_iff.2 (fun h => hsub (e2.1 h))
              generalize combF 3 L C = M at *
              obtain ⟨ml, hml⟩ : ∃ ml, M.length = ml := ⟨_, rfl⟩
              unfold SpansR at HM2
              rw [hml] at HM2 hpos
              have hp' : decide (0 < (ml : Int)) = true := by rw [decide_eq_true_eq]; omega
              have hp2 : decide (0 < ml) = true := by rw [decide_eq_true_eq]; omega
              have HM3 := Lib.hid HM2
              clear e2 hsub HM2
              go_wp2_with fail
              refine HM3.out.mono ?_
              rintro e w3 ⟨A9, c9, rfl, u9, _, _, _, hb3⟩
              go_wp2_with fail
              go_ret
              exact ⟨ret_int hE.out.symm, B2.trans (hb3.mono B2.size)⟩
            case pos =>
              have hM : combF 3 L C = [] := e2.2 hsub
              rw [hM] at HM2
              have HM3 := Lib.hid HM2
              have hsub' := Lib.hid hsub
              unfold SpansR at HM3
              clear e2 hsub HM2 hM
              go_wp2_with fail
              refine HM3.out.mono ?_
              rintro e w3 ⟨A9, c9, rfl, u9, _, _, _, hb3⟩
              have k3 := k2.call hb3
              have p1 := q1.on hb3
              have p3 := RI.on q3 hb3
              have B3 := B2.trans (hb3.mono B2.size)
              clear hb3 q1 q2 q3 B2 k2 c2 HM3 u9
              go_wp2_with fail
              have hst0 : Hid (hugOk C (-1) H = hugOk C (prevH H 0) (H.drop 0)) := Lib.hid rfl
              go_loopw [7] (fun i wr => ∃ j : Nat, j ≤ k ∧ i = .int .i64 j ∧ Below w3.heap.size w3 wr ∧ Hid (hugOk C (-1) H = hugOk C (prevH H j) (H.drop j))) (fun i _ => k - (intOf i).toNat)
              case atStart => exact ⟨0, by omega, rfl, Below.refl _ _, hst0⟩
              case round =>
                clear hst0
                obtain ⟨j, hj, rfl, hB, hst⟩ := hrel
                have k4 := k3.call hB
                have p4 := p1.on hB
                have p5 := RI.on p3 hB
                have B4 := B3.trans (hB.mono B3.size)
                have c4 := k4.cell
                by_cases hlt : j < k
                · have hlt' : decide ((j : Int) < (k : Int)) = true := by simpa using hlt
                  have hst1 := hst.out
                  rw [Go.Pol.drop_cons 0 H j (by omega)] at hst1
                  have hin := inG_iff.1 (List.all_eq_true.1 hG.out _ (getD_memI (bs := H) (k := j) (by omega)))
                  have hpk : 0 < j → prevH H j = H.getD (j - 1) 0 := fun h => by rw [prevH, if_neg (by omega)]
                  have hp0 : j = 0 → prevH H j = -1 := fun h => by rw [prevH, if_pos h]
                  have hpn : prevH H (j + 1) = H.getD j 0 := by rw [prevH, if_neg (by omega)]; rfl
                  obtain ⟨b, o, hA3, _, c5⟩ := p5.at_ (k := j) (by omega)
                  have c7 : 0 < j → wr.cell? ⟨b, o + (j - 1), none⟩ = some (.int .i64 (H.getD (j - 1) 0)) := fun h => by
                    obtain ⟨b', o', e', _, c6⟩ := p5.at_ (k := j - 1) (by omega)
                    rw [hA3] at e'; cases e'; exact c6
                  generalize H.getD j 0 = x at *
                  generalize H.getD (j - 1) 0 = pr at *
                  have hHx := HH.out x wr p4
                  rw [askS_span canC.out hin] at hHx
                  have hbe : (decide ((0 : Int) = 0) && (cntF C (16 * x, 16) == 16)) = decide (16 ≤ grpF C x) := by
                    have := grpF_bound C x
                    unfold grpF at *
                    rw [Bool.eq_iff_iff]; simp; omega
                  rw [hbe] at hHx
                  clear hbe
                  obtain ⟨hb, hhb⟩ : ∃ hb, decide (16 ≤ grpF C x) = hb := ⟨_, rfl⟩
                  rw [hhb] at hHx
                  have hok1 : hugOk C (-1) H = (hb && decide (prevH H j < x) && hugOk C x (H.drop (j + 1))) := by rw [hst1, hugOk, hhb]
                  have G1 := Lib.hid (fun z : Ext wr => Ext.call (x := z) (span13_any x z.w hin))
                  have G2 := Lib.hid (fun (z : Ext wr) => Ext.call (x := z) (by
                    have := HH.out x z.w (p4.on z.le)
                    rw [askS_span canC.out hin] at this
                    rw [show (decide ((0 : Int) = 0) && (cntF C (16 * x, 16) == 16)) = hb by
                      rw [← hhb]
                      have := grpF_bound C x
                      unfold grpF at *
                      rw [Bool.eq_iff_iff]; simp; omega] at this
                    exact this))
                  have e1 := fun z : Ext wr => (z.blk k4).cell
                  have e2 := fun z : Ext wr => z.cell c5
                  subst hA3
                  have c7' := Lib.hid c7
                  have hok' := Lib.hid hok1
                  have hpk' := Lib.hid hpk
                  have hp0' := Lib.hid hp0
                  have hpn' := Lib.hid hpn
                  clear hst1 hst hHx hhb p4 p5 c7 hok1 hpk hp0 hpn
                  go_upto_region 17 with fail
                  refine region_ext (by kernel_rfl) (by kernel_rfl) ?_
                  repeat (go_big_quiet_step ((first | (go_at_call 61; exact G1.out _) | (go_at_call 60; exact G2.out _))))
                  refine wpQuiet_nil ?_
                  rintro w8 ⟨⟨_, hw8⟩, rfl⟩
                  have k8 := k4.call hw8
                  have B8 := B4.trans (hw8.mono B4.size)
                  have hB8 := hB.trans (hw8.mono hB.size)
                  have e8 := fun z : Ext w8 => (z.blk k8).cell
                  have c58 := (hw8.cell (World.block_lt_of_cell? _ _ c5)).trans c5
                  have e9 := fun z : Ext w8 => z.cell c58
                  clear e1 e2 G1 G2 c4
                  cases hb with
                  | false =>
                    have hE : Hid (R = 6) := Lib.hid (by rw [← hR'.out, chkH_5 hcl.out.1 hcl.out.2 hG.out hsub'.out (by rw [hok'.out]; rfl)])
                    go_upto_region 18 with fail
                    refine region_ext (by kernel_rfl) (by kernel_rfl) ?_
                    repeat (go_big_quiet_step (fail))
                    refine wpQuiet_nil ?_
                    rintro w9 ⟨⟨_, hw9⟩, rfl⟩
                    go_wp2_with fail
                    go_ret
                    exact ⟨ret_int hE.out.symm, B8.trans (hw9.mono B8.size)⟩
                  | true =>
                    by_cases hj0 : j = 0
                    · subst hj0
                      have hst2 : Hid (hugOk C (-1) H = hugOk C (prevH H (0 + 1)) (H.drop (0 + 1))) := Lib.hid (by
                        rw [hok'.out, hpn'.out, hp0'.out rfl, decide_eq_true (show (-1 : Int) < x by omega)]; rfl)
                      go_upto_region 18 with fail
                      refine region_ext (by kernel_rfl) (by kernel_rfl) ?_
                      repeat (go_big_quiet_step (fail))
                      refine wpQuiet_nil ?_
                      rintro w9 ⟨⟨_, hw9⟩, rfl⟩
                      go_wp2_with fail
                      go_roundw
                      case rel => exact ⟨1, by omega, by go_num, hB8.trans (hw9.mono hB8.size), hst2⟩
                      case measure => simp [intOf]; omega
                    · have h4k : 0 < j := by omega
                      have c78 := (hw8.cell (World.block_lt_of_cell? _ _ (c7'.out h4k))).trans (c7'.out h4k)
                      have e10 := fun z : Ext w8 => z.cell c78
                      have h1k : (1 : Int) ≤ (j : Int) := by omega
                      have h2k : 1 ≤ j := by omega
                      have h3k : (j : Int) - 1 < (k : Int) := by omega
                      have h5k : (0 : Int) ≤ (j : Int) - 1 := by omega
                      have h6k : decide (0 < (j : Int)) = true := by rw [decide_eq_true_eq]; omega
                      have h7k : decide (0 < j) = true := by rw [decide_eq_true_eq]; omega
                      have hwj : wrap64 ((j : Int) - 1) = (j : Int) - 1 := by unfold wrap64; omega
                      have hpk2 := Lib.hid (hpk'.out h4k)
                      by_cases hle : x ≤ pr
                      · have hle' : decide (x ≤ pr) = true := by simpa using hle
                        have hE : Hid (R = 6) := Lib.hid (by rw [← hR'.out, chkH_5 hcl.out.1 hcl.out.2 hG.out hsub'.out (by rw [hok'.out, hpk2.out, decide_eq_false (show ¬ pr < x by omega)]; rfl)])
                        clear hle hj0
                        go_upto_region 18 with fail
                        refine region_ext (by kernel_rfl) (by kernel_rfl) ?_
                        repeat (go_big_quiet_step (fail))
                        refine wpQuiet_nil ?_
                        rintro w9 ⟨⟨_, hw9⟩, rfl⟩
                        go_wp2_with fail
                        go_ret
                        exact ⟨ret_int hE.out.symm, B8.trans (hw9.mono B8.size)⟩
                      · have hle' : decide (x ≤ pr) = false := by simpa using hle
                        have hst2 : Hid (hugOk C (-1) H = hugOk C (prevH H (j + 1)) (H.drop (j + 1))) := Lib.hid (by
                          rw [hok'.out, hpn'.out, hpk2.out, decide_eq_true (show pr < x by omega)]; rfl)
                        clear hle hj0
                        go_upto_region 18 with fail
                        refine region_ext (by kernel_rfl) (by kernel_rfl) ?_
                        repeat (go_big_quiet_step (fail))
                        refine wpQuiet_nil ?_
                        rintro w9 ⟨⟨_, hw9⟩, rfl⟩
                        go_wp2_with fail
                        go_roundw
                        case rel => exact ⟨j + 1, by omega, by go_num, hB8.trans (hw9.mono hB8.size), hst2⟩
                        case measure => simp [intOf]; omega
                · as_aux_lemma =>
                    obtain rfl : j = k := by omega
                    have hlt' : decide ((j : Int) < (j : Int)) = false := by simp
                    have hE : Hid (R = 0) := Lib.hid (by
                      rw [← hR'.out, chkH_zero]
                      exact ⟨canC.out, canL.out, List.all_eq_true.1 hG.out, hsub'.out, by rw [hst.out, List.drop_of_length_le (by omega)]; rfl⟩)
                    clear hst
                    go_wp2_with fail
                    go_ret
                    exact ⟨ret_int hE.out.symm, B4⟩
end Go.Proofs.YtefnnfcfigcikaaGreat
namespace Go.Pol
open Go Go.RowKit
def condG (C L : List Sp) (H : List Int) (least : Int) (g : Nat) : Bool := decide (16 ≤ grpF C (g : Int)) && !decide ((g : Int) ∈ H) && decide (least ≤ grpF L (g : Int))
def groupsN (C L : List Sp) (H : List Int) (least : Int) (k : Nat) : List Int := ((List.range k).filter (condG C L H least)).map fun (g : Nat) => (g : Int)
theorem groupsN_succ (C L : List Sp) (H : List Int) (least : Int) (k : Nat) : groupsN C L H least (k + 1) = groupsN C L H least k ++ if condG C L H least k = true then [(k : Int)] else [] := by
  unfold groupsN
  rw [List.range_succ, List.filter_append, List.map_append]
  congr 1
  cases h : condG C L H least k <;> simp [h]
theorem groupsN_len (C L : List Sp) (H : List Int) (least : Int) (k : Nat) : (groupsN C L H least k).length ≤ k := by
  unfold groupsN
  rw [List.length_map]
  have := List.length_filter_le (condG C L H least) (List.range k)
  rwa [List.length_range] at this
theorem groupsN_eq (C L : List Sp) (H : List Int) (least : Int) : groupsN C L H least 64 = groupsF C L H least := by
  unfold groupsN groupsF wholeF grps
  rw [List.filter_filter, List.filter_map]
  congr 1
  refine List.filter_congr fun g _ => ?_
  unfold condG
  have := grpF_bound C (g : Int)
  simp only [Function.comp]
  rw [show (grpF C (g : Int) == 16) = decide (16 ≤ grpF C (g : Int)) by rw [Bool.eq_iff_iff]; simp; omega]
  cases decide (16 ≤ grpF C (g : Int)) <;> cases decide ((g : Int) ∈ H) <;> cases decide (least ≤ grpF L (g : Int)) <;> rfl
end Go.Pol
namespace Go.Proofs.YtefnnfcfigcikaaGreat
open Go Go.Proofs Go.RowKit Go.Pol Go.Shelf
attribute [local go_sem] Oper.semAt_some Go.Pol.wide_fn Go.Pol.wide_depth Go.Pol.wide_fn' Go.Pol.wide_depth'

set_option maxRecDepth 100000 in
set_option maxHeartbeats 3200000 in
theorem rgroups13_any (S : Value) (C L : List Sp) (H : List Int) (least : Int) (w : World) (hS : StIs w S C L H) :
    Calls Tryz.prog 84 #[S, .int .i64 least] w (IntsE (groupsA C L H least) w) := by
  have HC := Lib.hid (fun W (h : StIs W S C L H) => rcheck13_any S C L H W h)
  have HLv := Lib.hid (fun g (hg : 0 ≤ g ∧ g < 64) (hL : Go.Pol.Can L) W (h : StIs W S C L H) => live13_any S C L H g W h hg hL)
  obtain ⟨i0, hi, hz0, hz1, hz2⟩ := info_parts infoIn
  have hS' := hS
  obtain ⟨A1, A2, A3, n1, c1, n2, c2, n3, c3, rfl, h1, h2, h3, h4, h5, h6, h7, h8, h9⟩ := hS.ex
  have hb0 := (Below.refl w.heap.size w).alloc (Nat.le_refl _) (.cells #[.slice A1 n1 c1, .slice A2 n2 c2, .slice A3 n3 c3] 52)
  have k0 := Blk.new w 52 #[.slice A1 n1 c1, .slice A2 n2 c2, .slice A3 n3 c3]
  have s0 := hS'.on hb0
  have HH := Lib.hid (fun (g : Int) W h => rHas_any A1 n1 c1 C (16 * g) 16 W h1 h2 h)
  have HI := Lib.hid (fun (g : Int) W h => in13_any g A3 n3 c3 H W h7 h8 h)
  have hA := Lib.hid (show groupsA C L H least = if chkH C L H ≠ 0 then ([], chkH C L H) else if least < 0 ∨ 16 < least then ([], 2) else (groupsF C L H least, 0) from rfl)
  have hcan := Lib.hid (fun h : chkH C L H = 0 => (⟨(chkH_zero.1 h).1, (chkH_zero.1 h).2.1⟩ : Go.Pol.Can C ∧ Go.Pol.Can L))
  generalize groupsA C L H least = R at *
  generalize chkH C L H = er at *
  have c0 := k0.cell
  clear hS hS' h1 h2 h4 h5 h7 h8 h3 h6 h9
  by_cases h0 : er = 0
  case neg =>
    have h0' : (er == 0) = false := by simpa using h0
    have h0'' : (er != 0) = true := by simpa using h0
    have hA' : Hid (R = ([], er)) := Lib.hid (by rw [hA.out, if_pos h0])
    clear hA h0
    go_enter Tryz.func84, Tryz.ntmps84
    go_wp2_with fail
    refine (HC.out _ s0).mono ?_
    rintro e w1 ⟨rfl, hb1⟩
    go_wp2_with fail
    go_ret2
    rw [hA'.out]
    exact IntsE.err (hb0.trans (hb1.mono hb0.size))
  case pos =>
    subst h0
    obtain ⟨canC, canL⟩ := hcan.out rfl
    have hA1 : Hid (R = if least < 0 ∨ 16 < least then ([], 2) else (groupsF C L H least, 0)) := Lib.hid (by rw [hA.out, if_neg (by simp)])
    clear hA hcan
    by_cases hl0 : least < 0
    · have hl0' : decide (least < 0) = true := by simpa using hl0
      have hA2 : Hid (R = ([], 2)) := Lib.hid (by rw [hA1.out, if_pos (.inl hl0)])
      clear hA1 hl0
      go_enter Tryz.func84, Tryz.ntmps84
      go_wp2_with fail
      refine (HC.out _ s0).mono ?_
      rintro e w1 ⟨rfl, hb1⟩
      go_wp2_with fail
      go_ret2
      rw [hA2.out]
      exact IntsE.err (hb0.trans (hb1.mono hb0.size))
    have hl0' : decide (least < 0) = false := by simpa using hl0
    by_cases hl1 : 16 < least
    · have hl1' : decide (16 < least) = true := by simpa using hl1
      have hA2 : Hid (R = ([], 2)) := Lib.hid (by rw [hA1.out, if_pos (.inr hl1)])
      clear hA1 hl0 hl1
      go_enter Tryz.func84, Tryz.ntmps84
      go_wp2_with fail
      refine (HC.out _ s0).mono ?_
      rintro e w1 ⟨rfl, hb1⟩
      go_wp2_with fail
      go_ret2
      rw [hA2.out]
      exact IntsE.err (hb0.trans (hb1.mono hb0.size))
    have hl1' : decide (16 < least) = false := by simpa using hl1
    have hA2 : Hid (R = (groupsN C L H least 64, 0)) := Lib.hid (by rw [hA1.out, if_neg (by omega), groupsN_eq])
    clear hA1 hl0 hl1
    go_enter Tryz.func84, Tryz.ntmps84
    go_wp2_with fail
    refine (HC.out _ s0).mono ?_
    rintro e w1 ⟨rfl, hb1⟩
    have k1 := k0.call hb1
    have s1 := s0.on hb1
    have B1 := hb0.trans (hb1.mono hb0.size)
    clear HC k0 s0 hb0 hb1 c0
    go_wp2_with fail
    have hG0 : groupsN C L H least 0 = [] := rfl
    go_loopw [7, 8] (fun v i wr => ∃ (k : Nat) (l : List Int), k ≤ 64 ∧ i = .int .i64 k ∧ Hid (groupsN C L H least k = l) ∧ l.length ≤ k ∧ wr.ownsRow w1.heap.size 3 1 v l.length (l.map (Value.int .i64)) ∧ Below w1.heap.size w1 wr) (fun _ i _ => 64 - (intOf i).toNat)
    case atStart => exact ⟨0, [], by omega, rfl, Lib.hid hG0, by simp, World.ownsRow_nil _ _ _ _, Below.refl _ _⟩
    case round =>
      clear hG0
      obtain ⟨k, l, hk, rfl, hfl, hlk, hrow, hB⟩ := hrel
      have k2 := k1.call hB
      have s2 := s1.on hB
      have B2 := B1.trans (hB.mono B1.size)
      by_cases hlt : k < 64
      · have hlt' : decide ((k : Int) < 64) = true := by rw [decide_eq_true_eq]; omega
        have hg : 0 ≤ (k : Int) ∧ (k : Int) < 64 := by omega
        have hsu := Lib.hid (groupsN_succ C L H least k)
        rw [hfl.out] at hsu
        obtain ⟨hb, hhb⟩ : ∃ hb, decide (16 ≤ grpF C (k : Int)) = hb := ⟨_, rfl⟩
        have G1 := Lib.hid (fun z : Ext wr => Ext.call (x := z) (span13_any (k : Int) z.w hg))
        have G2 := Lib.hid (fun (z : Ext wr) => Ext.call (x := z) (by
          have s3 := s2.on z.le
          obtain ⟨_, _, _, _, _, _, _, _, _, e, _, _, u, _⟩ := s3.ex
          cases e
          have := HH.out (k : Int) z.w u
          rw [askS_span canC hg] at this
          rw [show (decide ((0 : Int) = 0) && (cntF C (16 * (k : Int), 16) == 16)) = hb by
            rw [← hhb]
            have := grpF_bound C (k : Int)
            unfold grpF at *
            rw [Bool.eq_iff_iff]; simp; omega] at this
          exact this))
        have e1 := fun z : Ext wr => (z.blk k2).cell
        go_upto_region 10 with fail
        refine region_ext (by kernel_rfl) (by kernel_rfl) ?_
        repeat (go_big_quiet_step ((first | (go_at_call 61; exact G1.out _) | (go_at_call 60; exact G2.out _))))
        refine wpQuiet_nil ?_
        rintro w8 ⟨⟨_, hw8⟩, rfl⟩
        have k8 := k2.call hw8
        have s8 := s2.on hw8
        have c8 := k8.cell
        have hB8 := hB.trans (hw8.mono hB.size)
        have hrow8 := ownsRow_call hrow hw8
        clear e1 G1 G2
        have hcond : condG C L H least k = (hb && !decide ((k : Int) ∈ H) && decide (least ≤ grpF L (k : Int))) := by unfold condG; rw [hhb]
        have hcond' := Lib.hid hcond
        clear hcond hhb
        cases hb with
        | false =>
          have hsu2 : Hid (groupsN C L H least (k + 1) = l) := Lib.hid (by rw [hsu.out, hcond'.out]; simp)
          clear hsu
          go_wp2_with fail
          go_roundw
          case rel => exact ⟨k + 1, l, by omega, by go_num, hsu2, by omega, hrow8, hB8⟩
          case measure => simp [intOf]; omega
        | true =>
          have HI8 := Lib.hid (by
            obtain ⟨_, _, _, _, _, _, _, _, _, e, _, _, _, _, _, _, _, _, u⟩ := s8.ex
            cases e
            exact HI.out (k : Int) w8 u)
          have HL8 := Lib.hid (HLv.out (k : Int) hg canL w8 s8)
          by_cases hin : (k : Int) ∈ H
          · rw [decide_eq_true hin] at HI8 hcond'
            have hsu2 : Hid (groupsN C L H least (k + 1) = l) := Lib.hid (by rw [hsu.out, hcond'.out]; simp)
            clear hsu hin hcond'
            go_wp2_with fail
            refine HI8.out.mono ?_
            rintro e w9 ⟨rfl, hw9⟩
            have hw9' := hw9.symm
            clear hw9
            subst hw9'
            go_wp2_with fail
            go_roundw
            case rel => exact ⟨k + 1, l, by omega, by go_num, hsu2, by omega, hrow8, hB8⟩
            case measure => simp [intOf]; omega
          · rw [decide_eq_false hin] at HI8 hcond'
            clear hin
            generalize grpF L (k : Int) = lv at *
            by_cases hlv : least ≤ lv
            · have hlv' : decide (least ≤ lv) = true := by simpa using hlv
              have hsu2 : Hid (groupsN C L H least (k + 1) = l ++ [(k : Int)]) := Lib.hid (by rw [hsu.out, hcond'.out, hlv']; simp)
              clear hsu hcond' hlv
              go_wp2_with fail
              refine HI8.out.mono ?_
              rintro e w9 ⟨rfl, hw9⟩
              have hw9' := hw9.symm
              clear hw9
              subst hw9'
              go_wp2_with fail
              refine HL8.out.mono ?_
              rintro e w9 ⟨rfl, hb9⟩
              have hrow9 := ownsRow_call hrow8 hb9
              have hB9 := hB8.trans (hb9.mono hB8.size)
              obtain ⟨ll, hll⟩ : ∃ ll, l.length = ll := ⟨_, rfl⟩
              rw [hll] at hrow9 hlk
              have kN := Blk.new w9 3 #[.int .i64 (k : Int)]
              have hbN : Below w9.heap.size w9 (w9.alloc (.cells #[.int .i64 (k : Int)] 3)) := (Below.refl _ _).alloc (Nat.le_refl _) _
              clear hrow8 hrow c8
              go_wp2_with (refine wpList_append_own _ rfl (.tmp 53) (.tmp 55) 50 rfl w1.heap.size 3 i0 (.int .i64 0) 1 8 Tryz.underlying50 hi hz0 hz1 hz2 rfl (by decide) _ ll (l.map (Value.int .i64)) rfl (hrow9.alloc _) ⟨w9.heap.size, 0, none⟩ 1 1 [.int .i64 (k : Int)] rfl rfl (news_i kN) ints_one (by unfold maxLen; omega) (by omega) (by have := hB9.size; simp; omega) ?_; intro v' w7 hown' hgrow _; rw [show l.map (Value.int .i64) ++ [Value.int .i64 (k : Int)] = (l ++ [(k : Int)]).map (Value.int .i64) by simp] at hown')
              go_roundw
              case rel => exact ⟨k + 1, l ++ [(k : Int)], by omega, by go_num, hsu2, by rw [List.length_append, List.length_singleton, hll]; omega, by rw [List.length_append, List.length_singleton, hll]; exact hown', (hB9.trans (hbN.mono hB9.size)).grown hgrow (by have := hB9.size; simp; omega) (fun g hg => by have := (hrow9.lt g hg).1; omega)⟩
              case measure => simp [intOf]; omega
            · have hlv' : decide (least ≤ lv) = false := by simpa using hlv
              have hsu2 : Hid (groupsN C L H least (k + 1) = l) := Lib.hid (by rw [hsu.out, hcond'.out, hlv']; simp)
              clear hsu hcond' hlv
              go_wp2_with fail
              refine HI8.out.mono ?_
              rintro e w9 ⟨rfl, hw9⟩
              have hw9' := hw9.symm
              clear hw9
              subst hw9'
              go_wp2_with fail
              refine HL8.out.mono ?_
              rintro e w9 ⟨rfl, hb9⟩
              have hrow9 := ownsRow_call hrow8 hb9
              have hB9 := hB8.trans (hb9.mono hB8.size)
              go_wp2_with fail
              go_roundw
              case rel => exact ⟨k + 1, l, by omega, by go_num, hsu2, by omega, hrow9, hB9⟩
              case measure => simp [intOf]; omega
      · obtain rfl : k = 64 := by omega
        have hlt' : decide (((64 : Nat) : Int) < 64) = false := by decide
        rw [hfl.out] at hA2
        obtain ⟨A', cap', rfl, hru⟩ := own_RIx hrow rfl
        go_wp2_with fail
        go_ret2
        rw [hA2.out]
        exact ⟨A', cap', rfl, hru, B2⟩
end Go.Proofs.YtefnnfcfigcikaaGreat
namespace Go.Pol
open Go Go.RowKit
theorem huge_len {C L : List Sp} {H : List Int} (h : chkH C L H = 0) : H.length ≤ 64 := by
  obtain ⟨_, _, h3, _, h5⟩ := chkH_zero.1 h
  have := huge_grps h3 h5
  rw [← this]
  refine Nat.le_trans (List.length_filter_le _ _) ?_
  simp [grps]
theorem groupsF_zero (C L : List Sp) (H : List Int) : groupsF C L H 0 = wholeF C H := by
  unfold groupsF
  rw [List.filter_eq_self]
  intro g _
  have := grpF_bound L g
  rw [decide_eq_true_eq]; omega
theorem idleF_snoc (L : List Sp) (l : List Int) (g : Int) : idleF L (l ++ [g]) = idleF L l + (16 - grpF L g) := by simp [idleF]
theorem idleF_bound (L : List Sp) : ∀ (l : List Int), 0 ≤ idleF L l ∧ idleF L l ≤ 16 * l.length
  | [] => by simp [idleF]
  | x :: r => by
    have h1 := grpF_bound L x
    have h2 := idleF_bound L r
    simp only [idleF, List.map_cons, List.sum_cons, List.length_cons] at h2 ⊢
    omega
/-- the huge groups that have a page of a set -/
def touchF (ps : List Sp) (H : List Int) : List Int := H.filter fun g => decide (0 < grpF ps g)
theorem touchF_snoc (ps : List Sp) (l : List Int) (g : Int) : touchF ps (l ++ [g]) = touchF ps l ++ if decide (0 < grpF ps g) = true then [g] else [] := by
  unfold touchF
  rw [List.filter_append]
  congr 1
  cases h : decide (0 < grpF ps g) <;> simp [h]
theorem touchF_len (ps : List Sp) (l : List Int) : (touchF ps l).length ≤ l.length := List.length_filter_le _ _
/-- what the reference's Split answers -/
def splitB (C L : List Sp) (H : List Int) (ps : List Sp) : List Int × Int :=
  if chkH C L H ≠ 0 then ([], chkH C L H) else if chkS ps ≠ 0 then ([], chkS ps) else if subF ps C = false then ([], 4) else (touchF ps H, 0)
end Go.Pol
namespace Go.Proofs.YtefnnfcfigcikaaGreat
open Go Go.Proofs Go.RowKit Go.Pol Go.Shelf
attribute [local go_sem] Oper.semAt_some Go.Pol.wide_fn Go.Pol.wide_depth Go.Pol.wide_fn' Go.Pol.wide_depth'

theorem StIs.parts {w : World} {A1 A2 A3 : Option Addr} {n1 c1 n2 c2 n3 c3 : Nat} {C L : List Sp} {H : List Int} (h : StIs w (.agg #[.slice A1 n1 c1, .slice A2 n2 c2, .slice A3 n3 c3]) C L H) : RU w w.heap.size A1 C ∧ RU w w.heap.size A2 L ∧ RI w w.heap.size A3 H := by
  obtain ⟨_, _, _, _, _, _, _, _, _, e, _, _, u, _, _, v, _, _, z⟩ := h.ex
  cases e
  exact ⟨u, v, z⟩
end Go.Proofs.YtefnnfcfigcikaaGreat
namespace Go.Proofs.YtefnnfcfigcikaaGreat
open Go Go.Proofs Go.RowKit Go.Pol Go.Shelf
attribute [local go_sem] Oper.semAt_some Go.Pol.wide_fn Go.Pol.wide_depth Go.Pol.wide_fn' Go.Pol.wide_depth'

def IntsO (l : List Int) (w : World) (e : Ending) (w' : World) : Prop := ∃ (A : Option Addr) (cap : Nat), e = .returned (.slice A l.length cap) ∧ RI w' w'.heap.size A l ∧ Below w.heap.size w w'
set_option maxRecDepth 100000 in
set_option maxHeartbeats 3200000 in
theorem touched13_any (S : Value) (C L : List Sp) (H : List Int) (A : Option Addr) (n cap : Nat) (ps : List Sp) (w : World) (hS : StIs w S C L H) (hin : ∀ g ∈ H, inG g = true) (h64 : H.length ≤ 64) (hn : ps.length = n) (hm : n ≤ maxLen) (hr : RU w w.heap.size A ps) (hc : Go.Pol.Can ps) :
    Calls Tryz.prog 144 #[S, .slice A n cap] w (IntsO (touchF ps H) w) := by
  have HM := Lib.hid (fun (g : Int) W h => rMeets_any A n cap ps (16 * g) 16 W hn hm h)
  obtain ⟨i0, hi, hz0, hz1, hz2⟩ := info_parts infoIn
  have hS' := hS
  obtain ⟨A1, A2, A3, n1, c1, n2, c2, n3, c3, rfl, h1, h2, h3, h4, h5, h6, h7, h8, h9⟩ := hS.ex
  have hb0 := (Below.refl w.heap.size w).alloc (Nat.le_refl _) (.cells #[.slice A1 n1 c1, .slice A2 n2 c2, .slice A3 n3 c3] 52)
  have k0 := Blk.new w 52 #[.slice A1 n1 c1, .slice A2 n2 c2, .slice A3 n3 c3]
  have s0 := hS'.on hb0
  have r0 := hr.on hb0
  have hn3 := h7
  obtain ⟨R, hR⟩ : ∃ R, touchF ps H = R := ⟨_, rfl⟩
  rw [hR]
  have hR' := Lib.hid hR
  have hin' := Lib.hid hin
  rw [hn3] at h64
  clear hS hS' h1 h2 h4 h5 h7 h8 h3 h6 h9 hR hin hr hn
  go_enter Tryz.func144, Tryz.ntmps144
  go_upto_region 1 with fail
  generalize w.alloc (.cells #[.slice A1 n1 c1, .slice A2 n2 c2, .slice A3 n3 c3] 52) = w1 at *
  go_wp2_with fail
  have ht0 : touchF ps (H.take 0) = [] := rfl
  go_loopw [5, 6] (fun v i wr => ∃ (k : Nat) (l : List Int), k ≤ n3 ∧ i = .int .i64 k ∧ Hid (touchF ps (H.take k) = l) ∧ l.length ≤ k ∧ wr.ownsRow w1.heap.size 3 1 v l.length (l.map (Value.int .i64)) ∧ Below w1.heap.size w1 wr) (fun _ i _ => n3 - (intOf i).toNat)
  case atStart => exact ⟨0, [], by omega, rfl, Lib.hid ht0, by simp, World.ownsRow_nil _ _ _ _, Below.refl _ _⟩
  case round =>
    clear ht0
    obtain ⟨k, l, hk, rfl, hfl, hlk, hrow, hB⟩ := hrel
    have k2 := k0.call hB
    have s2 := s0.on hB
    have r2 := r0.on hB
    have B2 := hb0.trans (hB.mono hb0.size)
    have c2 := k2.cell
    by_cases hlt : k < n3
    · have hlt' : decide ((k : Int) < (n3 : Int)) = true := by simpa using hlt
      have hts := take_snocI H k (by omega)
      have hsn := touchF_snoc ps (H.take k) (H.getD k 0)
      rw [← hts, hfl.out] at hsn
      have hg := inG_iff.1 (hin'.out _ (getD_memI (bs := H) (k := k) (by omega)))
      obtain ⟨b, o, rfl, _, c5⟩ := s2.parts.2.2.at_ (k := k) (by omega)
      generalize H.getD k 0 = x at *
      have hsn' := Lib.hid hsn
      have HSp := Lib.hid (span13_any x wr hg)
      have HM2 := fun W h => HM.out x W h
      rw [askS_span hc hg] at HM2
      obtain ⟨tb, htb⟩ : ∃ tb, decide (0 < grpF ps x) = tb := ⟨_, rfl⟩
      rw [show (decide ((0 : Int) = 0) && decide (0 < cntF ps (16 * x, 16))) = tb by rw [← htb, Bool.eq_iff_iff, Bool.and_eq_true, decide_eq_true_iff, decide_eq_true_iff, decide_eq_true_iff]; exact ⟨fun h => h.2, fun h => ⟨rfl, h⟩⟩] at HM2
      rw [htb] at hsn'
      have HM3 := Lib.hid HM2
      clear hsn hts htb HM2
      go_wp2_with fail
      refine HSp.out.mono ?_
      rintro e w3 ⟨rfl, hb3⟩
      have r3 := r2.on hb3
      have k3 := k2.call hb3
      have hB3 := hB.trans (hb3.mono hB.size)
      have hrow3 := ownsRow_call hrow hb3
      have d5 := (hb3.cell (World.block_lt_of_cell? _ _ c5)).trans c5
      go_wp2_with fail
      refine (HM3.out _ r3).mono ?_
      rintro e w4 ⟨rfl, hb4⟩
      have k4 := k3.call hb4
      have c4 := k4.cell
      have hB4 := hB3.trans (hb4.mono hB3.size)
      have hrow4 := ownsRow_call hrow3 hb4
      have d6 := (hb4.cell (World.block_lt_of_cell? _ _ d5)).trans d5
      clear hrow hrow3 c2 c5 d5 r2 r3
      cases tb with
      | false =>
        have hsu2 : Hid (touchF ps (H.take (k + 1)) = l) := Lib.hid (by rw [hsn'.out]; simp)
        clear hsn'
        go_wp2_with fail
        go_roundw
        case rel => exact ⟨k + 1, l, by omega, by go_num, hsu2, by omega, hrow4, hB4⟩
        case measure => simp [intOf]; omega
      | true =>
        have hsu2 : Hid (touchF ps (H.take (k + 1)) = l ++ [x]) := Lib.hid (by rw [hsn'.out]; simp)
        clear hsn'
        obtain ⟨ll, hll⟩ : ∃ ll, l.length = ll := ⟨_, rfl⟩
        rw [hll] at hrow4 hlk
        have kN := Blk.new w4 3 #[.int .i64 x]
        have hbN : Below w4.heap.size w4 (w4.alloc (.cells #[.int .i64 x] 3)) := (Below.refl _ _).alloc (Nat.le_refl _) _
        go_wp2_with (refine wpList_append_own _ rfl (.tmp 28) (.tmp 34) 50 rfl w1.heap.size 3 i0 (.int .i64 0) 1 8 Tryz.underlying50 hi hz0 hz1 hz2 rfl (by decide) _ ll (l.map (Value.int .i64)) rfl (hrow4.alloc _) ⟨w4.heap.size, 0, none⟩ 1 1 [.int .i64 x] rfl rfl (news_i kN) ints_one (by unfold maxLen; omega) (by omega) (by have := hB4.size; simp; omega) ?_; intro v' w7 hown' hgrow _; rw [show l.map (Value.int .i64) ++ [Value.int .i64 x] = (l ++ [x]).map (Value.int .i64) by simp] at hown')
        go_roundw
        case rel => exact ⟨k + 1, l ++ [x], by omega, by go_num, hsu2, by rw [List.length_append, List.length_singleton, hll]; omega, by rw [List.length_append, List.length_singleton, hll]; exact hown', (hB4.trans (hbN.mono hB4.size)).grown hgrow (by have := hB4.size; simp; omega) (fun g hg => by have := (hrow4.lt g hg).1; omega)⟩
        case measure => simp [intOf]; omega
    · obtain rfl : k = n3 := by omega
      have hlt' : decide ((k : Int) < (k : Int)) = false := by simp
      have hR2 : R = l := by rw [← hR'.out, ← hfl.out, List.take_of_length_le (by omega)]
      obtain ⟨A', cap', rfl, hru⟩ := own_RIx hrow rfl
      subst hR2
      go_wp2_with fail
      go_ret
      exact ⟨A', cap', rfl, hru, B2⟩
set_option maxRecDepth 100000 in
set_option maxHeartbeats 3200000 in
theorem rsplit13_any (S : Value) (C L : List Sp) (H : List Int) (A : Option Addr) (n cap : Nat) (ps : List Sp) (w : World) (hS : StIs w S C L H) (hn : ps.length = n) (hm : n ≤ maxLen) (hr : RU w w.heap.size A ps) :
    Calls Tryz.prog 92 #[S, .slice A n cap] w (IntsE (splitB C L H ps) w) := by
  have HCk := Lib.hid (fun W (h : StIs W S C L H) => rcheck13_any S C L H W h)
  have HP := Lib.hid (fun W h => refSpCheck_any A n cap ps W hn hm h)
  have HT := Lib.hid (fun W (h : StIs W S C L H) hin h64 hr hc => touched13_any S C L H A n cap ps W h hin h64 hn hm hr hc)
  have hS' := hS
  obtain ⟨A1, A2, A3, n1, c1, n2, c2, n3, c3, rfl, h1, h2, h3, h4, h5, h6, h7, h8, h9⟩ := hS.ex
  have HM := Lib.hid (fun W (hr1 : RU W W.heap.size A ps) (hr2 : RU W W.heap.size A1 C) => rMinus_any A A1 n cap n1 c1 ps C W hn hm hr1 h1 h2 hr2)
  have hb0 := (Below.refl w.heap.size w).alloc (Nat.le_refl _) (.cells #[.slice A1 n1 c1, .slice A2 n2 c2, .slice A3 n3 c3] 52)
  have k0 := Blk.new w 52 #[.slice A1 n1 c1, .slice A2 n2 c2, .slice A3 n3 c3]
  have s0 := hS'.on hb0
  have r0 := hr.on hb0
  have hA := Lib.hid (show splitB C L H ps = if chkH C L H ≠ 0 then ([], chkH C L H) else if chkS ps ≠ 0 then ([], chkS ps) else if subF ps C = false then ([], 4) else (touchF ps H, 0) from rfl)
  have hcan := Lib.hid (fun h : chkH C L H = 0 => (⟨(chkH_zero.1 h).1, (chkH_zero.1 h).2.2.1, huge_len h⟩ : Go.Pol.Can C ∧ (∀ g ∈ H, inG g = true) ∧ H.length ≤ 64))
  generalize splitB C L H ps = R at *
  generalize chkH C L H = er at *
  have c0 := k0.cell
  clear hS hS' h1 h2 h4 h5 h7 h8 h3 h6 h9 hn hr
  by_cases h0 : er = 0
  case neg =>
    have h0' : (er == 0) = false := by simpa using h0
    have h0'' : (er != 0) = true := by simpa using h0
    have hA' : Hid (R = ([], er)) := Lib.hid (by rw [hA.out, if_pos h0])
    clear hA h0
    go_enter Tryz.func92, Tryz.ntmps92
    go_wp2_with fail
    refine (HCk.out _ s0).mono ?_
    rintro e w1 ⟨rfl, hb1⟩
    go_wp2_with fail
    go_ret2
    rw [hA'.out]
    exact IntsE.err (hb0.trans (hb1.mono hb0.size))
  case pos =>
    subst h0
    obtain ⟨canC, hin, h64⟩ := hcan.out rfl
    have hA1 : Hid (R = if chkS ps ≠ 0 then ([], chkS ps) else if subF ps C = false then ([], 4) else (touchF ps H, 0)) := Lib.hid (by rw [hA.out, if_neg (by simp)])
    clear hA hcan
    by_cases hc : chkS ps = 0
    case neg =>
      have hc2 : (chkS ps != 0) = true := by simpa using hc
      have hA' : Hid (R = ([], chkS ps)) := Lib.hid (by rw [hA1.out, if_pos hc])
      generalize chkS ps = ec at *
      clear hA1 hc
      go_enter Tryz.func92, Tryz.ntmps92
      go_wp2_with fail
      refine (HCk.out _ s0).mono ?_
      rintro e w1 ⟨rfl, hb1⟩
      have B1 := hb0.trans (hb1.mono hb0.size)
      have r1 := r0.on hb1
      go_wp2_with fail
      refine (HP.out _ r1).mono ?_
      rintro e w2 ⟨rfl, hb2⟩
      go_wp2_with fail
      go_ret2
      rw [hA'.out]
      exact IntsE.err (B1.trans (hb2.mono B1.size))
    case pos =>
      rw [hc] at HP
      have hcan := chkS_zero.1 hc
      have hA2 : Hid (R = if subF ps C = false then ([], 4) else (touchF ps H, 0)) := Lib.hid (by rw [hA1.out, if_neg (by simp [hc])])
      obtain ⟨e1, e2⟩ := minus_nil hcan canC
      rw [e1] at HM
      clear hA1 hc e1
      by_cases hsub : subF ps C = true
      case neg =>
        have hA' : Hid (R = ([], 4)) := Lib.hid (by rw [hA2.out, if_pos (by simpa using hsub)])
        have hpos : 0 < (combF 3 ps C).length := List.length_pos_iff.2 (fun h => hsub (e2.1 h))
        generalize combF 3 ps C = M at *
        obtain ⟨ml, hml⟩ : ∃ ml, M.length = ml := ⟨_, rfl⟩
        unfold SpansR at HM
        rw [hml] at HM hpos
        have hp' : decide (0 < (ml : Int)) = true := by rw [decide_eq_true_eq]; omega
        have hp2 : decide (0 < ml) = true := by rw [decide_eq_true_eq]; omega
        clear e2 hsub hA2
        go_enter Tryz.func92, Tryz.ntmps92
        go_wp2_with fail
        refine (HCk.out _ s0).mono ?_
        rintro e w1 ⟨rfl, hb1⟩
        have B1 := hb0.trans (hb1.mono hb0.size)
        have r1 := r0.on hb1
        have k1 := k0.call hb1
        have s1 := s0.on hb1
        go_wp2_with fail
        refine (HP.out _ r1).mono ?_
        rintro e w2 ⟨rfl, hb2⟩
        have B2 := B1.trans (hb2.mono B1.size)
        have r2 := r1.on hb2
        have k2 := k1.call hb2
        have s2 := s1.on hb2
        have c2 := k2.cell
        clear k1 s1 r1 c0 k0 s0 r0
        go_wp2_with fail
        refine (HM.out _ r2 s2.parts.1).mono ?_
        rintro e w3 ⟨A9, c9, rfl, u9, _, _, _, hb3⟩
        go_wp2_with fail
        go_ret2
        rw [hA'.out]
        exact IntsE.err (B2.trans (hb3.mono B2.size))
      case pos =>
        have hM : combF 3 ps C = [] := e2.2 hsub
        rw [hM] at HM
        unfold SpansR at HM
        have hA' : Hid (R = (touchF ps H, 0)) := Lib.hid (by rw [hA2.out, if_neg (by rw [hsub]; decide)])
        have HT2 := Lib.hid (fun W h hr => HT.out W h hin h64 hr hcan)
        unfold IntsO at HT2
        generalize touchF ps H = TF at *
        clear e2 hsub hM hA2 HT hin h64
        go_enter Tryz.func92, Tryz.ntmps92
        go_wp2_with fail
        refine (HCk.out _ s0).mono ?_
        rintro e w1 ⟨rfl, hb1⟩
        have B1 := hb0.trans (hb1.mono hb0.size)
        have r1 := r0.on hb1
        have k1 := k0.call hb1
        have s1 := s0.on hb1
        go_wp2_with fail
        refine (HP.out _ r1).mono ?_
        rintro e w2 ⟨rfl, hb2⟩
        have B2 := B1.trans (hb2.mono B1.size)
        have r2 := r1.on hb2
        have k2 := k1.call hb2
        have s2 := s1.on hb2
        have c2 := k2.cell
        clear k1 s1 r1 c0 k0 s0 r0
        go_wp2_with fail
        refine (HM.out _ r2 s2.parts.1).mono ?_
        rintro e w3 ⟨A9, c9, rfl, u9, _, _, _, hb3⟩
        have B3 := B2.trans (hb3.mono B2.size)
        have r3 := r2.on hb3
        have k3 := k2.call hb3
        have s3 := s2.on hb3
        have c3 := k3.cell
        clear c2 k2 s2 r2
        go_wp2_with fail
        refine (HT2.out _ s3 r3).mono ?_
        rintro e w4 ⟨A8, c8, rfl, u8, hb4⟩
        go_wp2_with fail
        go_ret2
        rw [hA'.out]
        exact ⟨A8, c8, rfl, u8, B3.trans (hb4.mono B3.size)⟩
end Go.Proofs.YtefnnfcfigcikaaGreat
namespace Go.Pol
open Go Go.RowKit
def exC13 : List Sp := [(0, 48)]
def exL13 : List Sp := [(0, 10), (16, 14)]
def exH13 : List Int := [0, 1]
end Go.Pol
namespace Go.Proofs.YtefnnfcfigcikaaGreat
open Go Go.Proofs Go.RowKit Go.Pol Go.Shelf
attribute [local go_sem] Oper.semAt_some Go.Pol.wide_fn Go.Pol.wide_depth Go.Pol.wide_fn' Go.Pol.wide_depth'

theorem ints13_any (A B : Option Addr) (n cap cap' : Nat) (xs : List Int) (w : World) (hn : xs.length = n) (hm : n ≤ 1000000) (hr : RI w w.heap.size A xs) (hs : RI w w.heap.size B xs) :
    Calls Tryz.prog 27 #[.slice A n cap, .slice B n cap'] w fun e w' => e = .returned (.bool true) ∧ Below w.heap.size w w' := by
  have hn' := Lib.hid hn
  clear hn
  have hne : ((n : Int) != n) = false := by simp
  go_enter Tryz.func27, Tryz.ntmps27
  go_wp2_with fail
  go_loopw [5] (fun i wr => ∃ k : Nat, k ≤ n ∧ i = .int .i64 k ∧ Below w.heap.size w wr) (fun i _ => n - (intOf i).toNat)
  case atStart => exact ⟨0, by omega, rfl, Below.refl _ _⟩
  case round =>
    obtain ⟨k, hk, rfl, hB⟩ := hrel
    by_cases hlt : k < n
    · have hlt' : decide ((k : Int) < (n : Int)) = true := by simp; omega
      obtain ⟨b, o, rfl, hbl, hc⟩ := (hr.below hB).at_ (k := k) (by have := hn'.out; omega)
      obtain ⟨b2, o2, rfl, hbl2, hc2⟩ := (hs.below hB).at_ (k := k) (by have := hn'.out; omega)
      generalize xs.getD k 0 = x at *
      have q1 := fun z : Ext wr => z.cell hc
      have q2 := fun z : Ext wr => z.cell hc2
      have hxx : (x != x) = false := by simp
      go_upto_region 6 with fail
      refine region_ext (by kernel_rfl) (by kernel_rfl) ?_
      repeat (go_big_quiet_step (fail))
      refine wpQuiet_nil ?_
      rintro w1 ⟨⟨_, hw1⟩, rfl⟩
      go_wp2_with fail
      go_roundw
      case rel => exact ⟨k + 1, by omega, by go_num, hB.trans (hw1.mono hB.size)⟩
      case measure => simp [intOf]; omega
    · have hlt' : decide ((k : Int) < (n : Int)) = false := by simp; omega
      go_wp2_with fail
      go_ret
      exact ⟨rfl, hB⟩
/-- is a state more than is looked at? -/
def farP (n1 n2 n3 : Nat) (most : Int) : Bool := decide (520 < n1) || decide (520 < n2) || (decide (most < (n3 : Int)) && decide (n3 ≤ 64)) || decide (70 < n3)
set_option maxHeartbeats 1600000 in
theorem far13_any (A1 A2 A3 : Option Addr) (n1 c1 n2 c2 n3 c3 : Nat) (most : Int) (w : World) :
    Calls Tryz.prog 19 #[.agg #[.slice A1 n1 c1, .slice A2 n2 c2, .slice A3 n3 c3], .int .i64 most] w fun e w' => e = .returned (.bool (farP n1 n2 n3 most)) ∧ Below w.heap.size w w' := by
  have hb0 := (Below.refl w.heap.size w).alloc (Nat.le_refl _) (.cells #[.slice A1 n1 c1, .slice A2 n2 c2, .slice A3 n3 c3] 52)
  have k0 := Blk.new w 52 #[.slice A1 n1 c1, .slice A2 n2 c2, .slice A3 n3 c3]
  have c0 := k0.cell
  have e1 : decide (520 < (n1 : Int)) = decide (520 < n1) := by rw [Bool.eq_iff_iff]; simp; omega
  have e2 : decide (520 < (n2 : Int)) = decide (520 < n2) := by rw [Bool.eq_iff_iff]; simp; omega
  have e3 : decide ((n3 : Int) ≤ 64) = decide (n3 ≤ 64) := by rw [Bool.eq_iff_iff]; simp; omega
  have e4 : decide (70 < (n3 : Int)) = decide (70 < n3) := by rw [Bool.eq_iff_iff]; simp; omega
  have hF := Lib.hid (show farP n1 n2 n3 most = (decide (520 < n1) || decide (520 < n2) || (decide (most < (n3 : Int)) && decide (n3 ≤ 64)) || decide (70 < n3)) from rfl)
  generalize farP n1 n2 n3 most = R at *
  rw [← e1, ← e2, ← e3, ← e4] at hF
  clear e1 e2 e3 e4
  cases b1 : decide (520 < (n1 : Int)) <;> cases b2 : decide (520 < (n2 : Int)) <;> cases b3 : decide (most < (n3 : Int)) <;> cases b4 : decide ((n3 : Int) ≤ 64) <;> cases b5 : decide (70 < (n3 : Int)) <;> (
    rw [b1, b2, b3, b4, b5] at hF
    go_enter Tryz.func19, Tryz.ntmps19
    go_wp2_with fail
    go_ret
    exact ⟨ret_bool (by rw [hF.out]; rfl), hb0⟩)
theorem ru_blk {w : World} {g : Nat} {t : TypeId} (us : List Sp) {cs : Array Value} (h : Blk w g t cs) (hc : cs.toList = spCells us) : RU w w.heap.size (some ⟨g, 0, none⟩) us := fun k hk => by
  have := spCells_at us k hk
  refine ⟨g, 0, rfl, h.lt, ?_, ?_⟩
  · rw [h.cell, Nat.zero_add, ← Array.getElem?_toList, hc]; exact this.1
  · rw [h.cell, Nat.zero_add, ← Array.getElem?_toList, hc]; exact this.2
theorem ri_blk {w : World} {g : Nat} {t : TypeId} (us : List Int) {cs : Array Value} (h : Blk w g t cs) (hc : cs.toList = us.map (Value.int .i64)) : RI w w.heap.size (some ⟨g, 0, none⟩) us := by
  intro k hk
  rw [List.length_map] at hk
  refine ⟨g, 0, rfl, h.lt, ?_⟩
  rw [h.cell, Nat.zero_add, ← Array.getElem?_toList, hc]
  rw [List.getElem?_map, List.getElem?_eq_getElem hk]; simp
theorem example13_any (w : World) : Calls Tryz.prog 62 #[] w fun e w' => ∃ S, e = .returned S ∧ StIs w' S exC13 exL13 exH13 ∧ Below w.heap.size w w' := by
  have hSt : ∀ (W : World) (s : Nat) (B : Below s w W), w.heap.size = s → Blk W (s + 1) 134 #[.int .i64 0, .int .i64 48] → Blk W (s + 1 + 1) 134 #[.int .i64 0, .int .i64 10, .int .i64 16, .int .i64 14] → Blk W (s + 1 + 1 + 1) 3 #[.int .i64 0, .int .i64 1] →
      StIs W (.agg #[.slice (some ⟨s + 1, 0, none⟩) 1 1, .slice (some ⟨s + 1 + 1, 0, none⟩) 2 2, .slice (some ⟨s + 1 + 1 + 1, 0, none⟩) 2 2]) exC13 exL13 exH13 := fun W s B _ k1 k2 k3 =>
    ⟨_, _, _, _, _, _, _, _, _, rfl, rfl, by unfold maxLen; omega, ru_blk exC13 k1 rfl, rfl, by unfold maxLen; omega, ru_blk exL13 k2 rfl, rfl, by unfold maxLen; omega, ri_blk exH13 k3 rfl⟩
  have hSt' := Lib.hid hSt
  obtain ⟨W4, hW4⟩ : ∃ W4, ((((w.alloc (.cells #[.slice (some ⟨w.heap.size + 1, 0, none⟩) 1 1, .slice (some ⟨w.heap.size + 1 + 1, 0, none⟩) 2 2, .slice (some ⟨w.heap.size + 1 + 1 + 1, 0, none⟩) 2 2] 52)).alloc (.cells #[.int .i64 0, .int .i64 48] 134)).alloc
    (.cells #[.int .i64 0, .int .i64 10, .int .i64 16, .int .i64 14] 134)).alloc (.cells #[.int .i64 0, .int .i64 1] 3)) = W4 := ⟨_, rfl⟩
  have hB : Below w.heap.size w W4 := by rw [← hW4]; exact ((((Below.refl w.heap.size w).alloc (Nat.le_refl _) _).alloc (by simp) _).alloc (by simp; omega) _).alloc (by simp; omega) _
  have k0 : Blk W4 w.heap.size 52 #[.slice (some ⟨w.heap.size + 1, 0, none⟩) 1 1, .slice (some ⟨w.heap.size + 1 + 1, 0, none⟩) 2 2, .slice (some ⟨w.heap.size + 1 + 1 + 1, 0, none⟩) 2 2] := by
    rw [← hW4]; exact (((Blk.new _ _ _).alloc _).alloc _).alloc _
  have k1 : Blk W4 (w.heap.size + 1) 134 #[.int .i64 0, .int .i64 48] := by
    rw [← hW4]; have := Blk.new (w.alloc (.cells #[.slice (some ⟨w.heap.size + 1, 0, none⟩) 1 1, .slice (some ⟨w.heap.size + 1 + 1, 0, none⟩) 2 2, .slice (some ⟨w.heap.size + 1 + 1 + 1, 0, none⟩) 2 2] 52)) 134 #[.int .i64 0, .int .i64 48]
    rw [World.size_alloc] at this; exact (this.alloc _).alloc _
  have k2 : Blk W4 (w.heap.size + 1 + 1) 134 #[.int .i64 0, .int .i64 10, .int .i64 16, .int .i64 14] := by
    rw [← hW4]; have := Blk.new ((w.alloc (.cells #[.slice (some ⟨w.heap.size + 1, 0, none⟩) 1 1, .slice (some ⟨w.heap.size + 1 + 1, 0, none⟩) 2 2, .slice (some ⟨w.heap.size + 1 + 1 + 1, 0, none⟩) 2 2] 52)).alloc (.cells #[.int .i64 0, .int .i64 48] 134)) 134 #[.int .i64 0, .int .i64 10, .int .i64 16, .int .i64 14]
    rw [World.size_alloc, World.size_alloc] at this; exact this.alloc _
  have k3 : Blk W4 (w.heap.size + 1 + 1 + 1) 3 #[.int .i64 0, .int .i64 1] := by
    rw [← hW4]; have := Blk.new (((w.alloc (.cells #[.slice (some ⟨w.heap.size + 1, 0, none⟩) 1 1, .slice (some ⟨w.heap.size + 1 + 1, 0, none⟩) 2 2, .slice (some ⟨w.heap.size + 1 + 1 + 1, 0, none⟩) 2 2] 52)).alloc (.cells #[.int .i64 0, .int .i64 48] 134)).alloc (.cells #[.int .i64 0, .int .i64 10, .int .i64 16, .int .i64 14] 134)) 3 #[.int .i64 0, .int .i64 1]
    rw [World.size_alloc, World.size_alloc, World.size_alloc] at this; exact this
  have hW4' := Lib.hid hW4
  have hst := Lib.hid (hSt W4 w.heap.size hB rfl k1 k2 k3)
  have c0 := k0.cell
  clear hSt hSt' hW4 k1 k2 k3
  go_enter Tryz.func62, Tryz.ntmps62
  go_wp2_with fail
  rw [hW4'.out]
  exact bodyPost_ret (v := .agg #[.slice (some ⟨w.heap.size + 1, 0, none⟩) 1 1, .slice (some ⟨w.heap.size + 1 + 1, 0, none⟩) 2 2, .slice (some ⟨w.heap.size + 1 + 1 + 1, 0, none⟩) 2 2]) (by simp [results, Tryz.results62, go_sem, c0]) rfl ⟨_, rfl, hst.out, hB⟩
end Go.Proofs.YtefnnfcfigcikaaGreat
namespace Go.Pol
open Go
def exO13 : List Gp := [(0, 16, 10, true), (1, 16, 14, true)]
theorem ex13_groups : groupsA exC13 exL13 exH13 0 = ([2], 0) := by decide +kernel
theorem ex13_score : scoreA exC13 exL13 exH13 = (2, 1, 8, 0) := by decide +kernel
theorem ex13_split : splitA exC13 exL13 exH13 [(8, 13)] = ([0, 1], 0) := by decide +kernel
theorem ex13_huge : (gsH exC13 exL13 exH13).filter hugeP = exO13 := by decide +kernel
theorem ex13_choose17 : chooseA exC13 exL13 exH13 17 exO13 = ([(10, 6), (32, 11)], 0) := by decide +kernel
theorem ex13_choose23 : chooseA exC13 exL13 exH13 23 exO13 = ([(10, 6), (30, 17)], 0) := by decide +kernel
theorem insInner_size {α : Type} [Inhabited α] (lt : α → α → Bool) (a : Nat) : ∀ (j : Nat) (d : Array α), (Sort.insInner lt a j d).size = d.size
  | 0, _ => rfl
  | j + 1, d => by
    rw [Sort.insInner]
    split
    · rw [insInner_size lt a j, Sort.size_swp]
    · rfl
theorem insOuter_size {α : Type} [Inhabited α] (lt : α → α → Bool) (a b : Nat) : ∀ (k i : Nat) (d : Array α), b - i ≤ k → (Sort.insOuter lt a b i d).size = d.size
  | 0, i, d, h => by rw [Sort.insOuter, if_neg (by omega)]
  | k + 1, i, d, h => by
    rw [Sort.insOuter]
    split
    · rw [insOuter_size lt a b k (i + 1) _ (by omega), insInner_size]
    · rfl
theorem insSort_size {α : Type} [Inhabited α] (lt : α → α → Bool) (a b : Nat) (d : Array α) : (Sort.insertionSort lt d a b).size = d.size := insOuter_size lt a b _ _ d (Nat.le_refl _)
end Go.Pol
namespace Go.Proofs.YtefnnfcfigcikaaGreat
open Go Go.Proofs Go.RowKit Go.Pol
theorem ex13_ord : (Sort.insertionSort ltL exO13.toArray 0 2).toList = exO13 := by
  simp [Sort.insertionSort, Sort.insOuter, Sort.insInner, ltL, exO13]
end Go.Proofs.YtefnnfcfigcikaaGreat
namespace Go.Proofs.YtefnnfcfigcikaaGreat
open Go Go.Proofs Go.RowKit Go.Pol Go.Shelf
attribute [local go_sem] Oper.semAt_some Go.Pol.wide_fn Go.Pol.wide_depth Go.Pol.wide_fn' Go.Pol.wide_depth'

theorem exChoose_any (S : Value) (n : Int) (R : List Sp × Int) (hR : chooseA exC13 exL13 exH13 n exO13 = R) (w : World) (hS : StIs w S exC13 exL13 exH13) : Calls Tryz.prog 28 #[S, .int .i64 n] w (SpE R w) := by
  have h := choose_anyF S exC13 exL13 exH13 n (fun d => Sort.insertionSort ltL d 0 2) exO13 w hS (fun _ => by rw [ex13_huge]; exact stable20 2 (by omega)) (fun d => insSort_size _ _ _ d) (by rw [ex13_huge]; exact ex13_ord) (by rw [ex13_huge])
  rw [hR] at h; exact h
theorem exGroups_any (S : Value) (w : World) (hS : StIs w S exC13 exL13 exH13) : Calls Tryz.prog 23 #[S, .int .i64 0] w (IntsE ([2], 0) w) := by
  have h := groups_any S exC13 exL13 exH13 0 w hS
  rw [ex13_groups] at h; exact h
theorem exScore_any (S : Value) (w : World) (hS : StIs w S exC13 exL13 exH13) : Calls Tryz.prog 24 #[S] w fun e w' => e = .returned (.tuple #[.int .i64 2, .int .i64 1, .int .i64 8, .int .i64 0]) ∧ Below w.heap.size w w' := by
  have h := score_any S exC13 exL13 exH13 w hS
  rw [ex13_score] at h; exact h
theorem exSplit_any (S : Value) (A : Option Addr) (w : World) (hS : StIs w S exC13 exL13 exH13) (hr : RU w w.heap.size A [(8, 13)]) : Calls Tryz.prog 63 #[S, .slice A 1 1] w (IntsE ([0, 1], 0) w) := by
  have h := split_any S exC13 exL13 exH13 A 1 1 [(8, 13)] w hS rfl (by unfold maxLen; omega) hr
  rw [ex13_split] at h; exact h
set_option maxRecDepth 100000 in
set_option maxHeartbeats 3200000 in
theorem awake13_any (w : World) : Calls Tryz.prog 21 #[] w fun e w' => e = .returned (.bool true) ∧ Below w.heap.size w w' := by
  obtain ⟨s, hs⟩ : ∃ s, w.heap.size = s := ⟨_, rfl⟩
  have hs' := Lib.hid hs
  have B0 : Hid (Below s w w ∧ s ≤ w.heap.size) := Lib.hid ⟨Below.refl _ _, by omega⟩
  clear hs
  go_enter Tryz.func21, Tryz.ntmps21
  go_wp2_with fail
  refine (example13_any _).mono ?_
  rintro e w1 ⟨S1, rfl, s1, hb1⟩
  go_wp2_with fail
  refine (exGroups_any S1 _ s1).mono ?_
  rintro e w2 ⟨O2, c2, rfl, u2, hb2⟩
  have B2 := hb1.trans (hb2.mono hb1.size)
  clear s1 hb1 hb2
  go_wp2_with fail
  refine (example13_any _).mono ?_
  rintro e w3 ⟨S3, rfl, s3, hb3⟩
  go_wp2_with fail
  refine (exScore_any S3 _ s3).mono ?_
  rintro e w4 ⟨rfl, hb4⟩
  have b34 := hb3.trans (hb4.mono hb3.size)
  have B4 := B2.trans (b34.mono B2.size)
  have u4 := RI.on u2 b34
  clear s3 hb3 hb4 b34 B2 u2
  go_wp2_with fail
  refine (example13_any _).mono ?_
  rintro e w5 ⟨S5, rfl, s5, hb5⟩
  have kP := Blk.new w5 134 #[.int .i64 8, .int .i64 13]
  have hbP : Below w5.heap.size w5 (w5.alloc (.cells #[.int .i64 8, .int .i64 13] 134)) := (Below.refl _ _).alloc (Nat.le_refl _) _
  have sP := s5.on hbP
  have rP := ru_blk [(8, 13)] kP rfl
  go_wp2_with fail
  refine (exSplit_any S5 _ _ sP rP).mono ?_
  rintro e w6 ⟨O6, c6, rfl, u6, hb6⟩
  have b56 := hb5.trans ((hbP.trans (hb6.mono hbP.size)).mono hb5.size)
  have B6 := B4.trans (b56.mono B4.size)
  have v4 := RI.on u4 b56
  clear s5 hb5 hb6 hbP kP sP rP b56 B4 u4
  go_wp2_with fail
  refine (example13_any _).mono ?_
  rintro e w7 ⟨S7, rfl, s7, hb7⟩
  go_wp2_with fail
  refine (exChoose_any S7 17 _ ex13_choose17 _ s7).mono ?_
  rintro e w8 ⟨O8, c8, rfl, u8, _, _, hb8⟩
  have b78 := hb7.trans (hb8.mono hb7.size)
  have B8 := B6.trans (b78.mono B6.size)
  have p4 := RI.on v4 b78
  have p6 := RI.on u6 b78
  clear s7 hb7 hb8 b78 B6 v4 u6
  go_wp2_with fail
  refine (example13_any _).mono ?_
  rintro e w9 ⟨S9, rfl, s9, hb9⟩
  go_wp2_with fail
  refine (exChoose_any S9 23 _ ex13_choose23 _ s9).mono ?_
  rintro e w10 ⟨O10, c10, rfl, u10, _, _, hb10⟩
  have b910 := hb9.trans (hb10.mono hb9.size)
  have B10 := B8.trans (b910.mono B8.size)
  have q4 := RI.on p4 b910
  have q6 := RI.on p6 b910
  have q8 := u8.on b910
  clear s9 hb9 hb10 b910 B8 p4 p6 u8
  have k1 := Blk.new w10 3 #[.int .i64 2]
  have hbA : Below w10.heap.size w10 (w10.alloc (.cells #[.int .i64 2] 3)) := (Below.refl _ _).alloc (Nat.le_refl _) _
  have x4 := RI.on q4 hbA
  have x6 := RI.on q6 hbA
  have x8 := q8.on hbA
  have x10 := u10.on hbA
  have BA := B10.trans (hbA.mono B10.size)
  have y1 := ri_blk [2] k1 rfl
  have HI1 := Lib.hid (ints13_any O2 _ 1 c2 1 [2] _ rfl (by omega) x4 y1)
  clear q4 q6 q8 u10 hbA k1 x4 y1
  go_wp2_with fail
  refine HI1.out.mono ?_
  rintro e w11 ⟨rfl, hb11⟩
  have B11 := BA.trans (hb11.mono BA.size)
  have z6 := RI.on x6 hb11
  have z8 := x8.on hb11
  have z10 := x10.on hb11
  clear hb11 x6 x8 x10 BA HI1
  have k2 := Blk.new w11 3 #[.int .i64 0, .int .i64 1]
  have hbB : Below w11.heap.size w11 (w11.alloc (.cells #[.int .i64 0, .int .i64 1] 3)) := (Below.refl _ _).alloc (Nat.le_refl _) _
  have x6 := RI.on z6 hbB
  have x8 := z8.on hbB
  have x10 := z10.on hbB
  have BB := B11.trans (hbB.mono B11.size)
  have y2 := ri_blk [0, 1] k2 rfl
  have HI2 := Lib.hid (ints13_any O6 _ 2 c6 2 [0, 1] _ rfl (by omega) x6 y2)
  clear z6 z8 z10 hbB k2 x6 y2 B11
  go_wp2_with fail
  refine HI2.out.mono ?_
  rintro e w12 ⟨rfl, hb12⟩
  have B12 := BB.trans (hb12.mono BB.size)
  have z8 := x8.on hb12
  have z10 := x10.on hb12
  clear hb12 x8 x10 BB HI2
  have k3 := Blk.new w12 134 #[.int .i64 10, .int .i64 6, .int .i64 32, .int .i64 11]
  have hbC : Below w12.heap.size w12 (w12.alloc (.cells #[.int .i64 10, .int .i64 6, .int .i64 32, .int .i64 11] 134)) := (Below.refl _ _).alloc (Nat.le_refl _) _
  have x8 := z8.on hbC
  have x10 := z10.on hbC
  have BC := B12.trans (hbC.mono B12.size)
  have y3 := ru_blk [(10, 6), (32, 11)] k3 rfl
  have HI3 := Lib.hid (sameT_any O8 _ 2 c8 2 [(10, 6), (32, 11)] [(10, 6), (32, 11)] _ rfl (by unfold maxLen; omega) rfl x8 y3)
  clear z8 z10 hbC k3 x8 y3 B12
  go_wp2_with fail
  refine HI3.out.mono ?_
  rintro e w13 ⟨rfl, hb13⟩
  have B13 := BC.trans (hb13.mono BC.size)
  have z10 := x10.on hb13
  clear hb13 x10 BC HI3
  have k4 := Blk.new w13 134 #[.int .i64 10, .int .i64 6, .int .i64 30, .int .i64 17]
  have hbD : Below w13.heap.size w13 (w13.alloc (.cells #[.int .i64 10, .int .i64 6, .int .i64 30, .int .i64 17] 134)) := (Below.refl _ _).alloc (Nat.le_refl _) _
  have x10 := z10.on hbD
  have BD := B13.trans (hbD.mono B13.size)
  have y4 := ru_blk [(10, 6), (30, 17)] k4 rfl
  have HI4 := Lib.hid (sameT_any O10 _ 2 c10 2 [(10, 6), (30, 17)] [(10, 6), (30, 17)] _ rfl (by unfold maxLen; omega) rfl x10 y4)
  clear z10 hbD k4 x10 y4 B13
  go_wp2_with fail
  refine HI4.out.mono ?_
  rintro e w14 ⟨rfl, hb14⟩
  go_wp2_with fail
  go_ret
  exact ⟨rfl, BD.trans (hb14.mono BD.size)⟩
end Go.Proofs.YtefnnfcfigcikaaGreat
namespace Go.Pol
open Go Go.RowKit Go.ChangeShapes Go.WideShapes Go.Deep
section
variable {H : Type} {enc : TypeId × Value → H} {P : Program}
/-- The row's last step where the call turned nothing that lay there. -/
theorem post_of_below {f : Func} {s : ChangeSpec} {apart fresh handsOn again : Bool} {W W' : World} {args : Array Value} {v : Value} {ds gs : List (DataW H)} {before pa pv : List MemPlace}
    (hW : DataW.Whole enc P f.params.toList s.vars apart W args.toList ds gs before)
    (hres : ∀ (b : Nat) (sp : Nat → Bool) (hd : Bool), DataW.TrodAll enc P W' b sp hd f.resultTypes.toList (v.resultList f.resultTypes.size) (s.fn H (ds ++ gs)).results [])
    (hargs : ∀ sp : Nat → Bool, (∀ p ∈ before, sp p.block = true) → DataW.TrodAll enc P W' 0 sp true f.params.toList args.toList (s.fn H (ds ++ gs)).args pa)
    (hvars : ∀ sp : Nat → Bool, (∀ p ∈ before, sp p.block = true) → DataW.TrodVars enc P W' sp s.vars (s.fn H (ds ++ gs)).vars pv)
    (hps : before = pa ++ pv) (hb : Below W.heap.size W W')
    (hok : ∀ (j : Nat) (t : TypeId) (r : Value), f.resultTypes[j]? = some t → (v.resultList f.resultTypes.size)[j]? = some r → Value.okWide P W' .any 0 t r) :
    s.post enc P f apart fresh handsOn again W args v W' := by
  have hlt : ∀ p ∈ before, p.block < W.heap.size := fun p hp => hW.lt p hp
  have hold : ∀ p ∈ before, (fun b => decide (b < W.heap.size)) p.block = true := fun p hp => by simpa using hlt p hp
  refine ⟨ds, gs, before, [], pa, pv, hW, hres _ _ _, hargs _ hold, hvars _ hold, World.keptBut_mono (fun p hp => ⟨hp, ?_⟩) (hb.frame (· ∈ before)), fun _ => ?_⟩
  · rw [hps, List.mem_append] at hp
    exact Or.inr hp
  · obtain ⟨_, _, _, _, _, hz, hn⟩ := hW
    refine ⟨hok, _, _, ([] ++ pa) ++ pv, ⟨[] ++ pa, pv, trodAll_append (hargs _ (fun _ _ => rfl)) (hres _ _ _), hvars _ (fun _ _ => rfl), rfl, ?_, ?_⟩, ?_⟩
    · intro b off hp
      have hin : MemPlace.cell b off ∈ before := by rw [hps]; simpa using hp
      rw [hb.frozen (hlt _ hin)]
      exact hz b off hin
    · intro ha
      have := hn ha
      rw [hps] at this
      simpa using this
    · intro p hp _
      rw [hps]
      simpa using hp
end
section
variable {H : Type} {enc : TypeId × Value → H} {P : Program} {w : World} {base : Nat} {spare : Nat → Bool} {held : Bool}
theorem open_agg1 {r : Reach} {b0 : Nat} {t : TypeId} {f0 : Field} {v : Value} {d : DataW H} {p : List MemPlace} (hs : P.underlying t = some (.struct #[f0])) (hone : oneCellFields P #[f0] = true) (hC : P.cellsOf t = 1)
    (hv : Value.okWide P w r b0 t v) (h : DataW.Trod enc P w base spare held t v d p) :
    ∃ (v0 : Value) (y0 : DataW H × List MemPlace) (n : Nat), v = .agg #[v0] ∧ d = .agg [y0.1] ∧ p = y0.2 ∧ DataW.trod enc P w base spare held n f0.type [v0] = some y0 := by
  obtain ⟨cs, rfl, hsz⟩ := okWide_struct hs hv
  obtain ⟨l⟩ := cs
  match l, hsz.trans hC with
  | [c0], _ =>
    obtain ⟨fuel, hf⟩ := h
    obtain ⟨xs, n, _, hx, _, hlen, hg⟩ := DataW.trod_struct hs hf
    obtain ⟨o0, k0⟩ := hone_of hone 0 f0 rfl
    match xs, hlen with
    | [y0], _ =>
      simp only [Prod.mk.injEq] at hx
      exact ⟨c0, y0, n, rfl, by simpa using hx.1, by simpa using hx.2, by simpa [Value.cells, o0, k0] using hg 0 f0 rfl⟩
/-- A slice of integers that came in reads as a list. -/
theorem openI {t e : TypeId} {fuel : Nat} {v : Value} {x : DataW H × List MemPlace} (ht : P.underlying t = some (.slice e)) (he : P.underlying e = some (.int .i64)) (hc : P.cellsOf e = 1)
    (h : DataW.trod enc P w base (fun _ => true) held fuel t [v] = some x) : ∃ (A : Option Addr) (n cap : Nat) (xs : List Int), v = .slice A n cap ∧ xs.length = n ∧ n ≤ maxLen ∧ RI w w.heap.size A xs ∧ ∀ x ∈ xs, (Lit.int .i64 x).wf = true := by
  rcases open_ints ht he hc h with ⟨hcs, _⟩ | ⟨a, len, cap, zs, hcs, _, hl, hm, hz, _, hcell, hwf⟩
  · simp only [List.cons.injEq, and_true] at hcs
    exact ⟨none, 0, 0, [], hcs, rfl, by unfold maxLen; omega, RI.nil, by simp⟩
  · simp only [List.cons.injEq, and_true] at hcs
    simp only [if_true] at hz
    refine ⟨some a, len, cap, zs.take len, hcs, by simp; omega, by omega, ?_, fun x hx => hwf x (List.mem_of_mem_take hx)⟩
    intro k hk
    have hk' : k < len := by simp at hk; omega
    have h1 := hcell k (by omega)
    obtain ⟨b, off, spot⟩ := a
    have hspot : spot = none := by simpa [Addr.add] using World.cell?_spot (hcell 0 (by omega))
    subst hspot
    rw [add_plain] at h1
    refine ⟨b, off, rfl, World.block_lt_of_cell? _ _ h1, ?_⟩
    rw [h1]
    simp [List.getD_eq_getElem?_getD, show k < zs.length by omega]
theorem open_slice_fields {t e : TypeId} {fs : Array Field} {fuel : Nat} {cs : List Value} {x : DataW H × List MemPlace} (ht : P.underlying t = some (.slice e)) (he : P.underlying e = some (.struct fs))
    (hone : oneCellFields P fs = true) (hC : P.cellsOf e = fs.size) (h : DataW.trod enc P w base spare held fuel t cs = some x) :
    (cs = [.slice none 0 0] ∧ x = (.nil, [])) ∨
    ∃ (a : Addr) (len cap m : Nat) (D : Nat → DataW H) (Pl : Nat → List MemPlace), cs = [.slice (some a) len cap] ∧ base ≤ a.block ∧ len ≤ cap ∧ cap ≤ maxLen ∧ m = (if spare a.block then cap else len) ∧
      x = (.slice ((List.range len).map D) ((List.range (m - len)).map fun j => D (len + j)), MemPlace.row a (m * fs.size) ++ (List.range m).flatMap Pl) ∧
      ∀ i, i < m → ∃ (ys : List (DataW H × List MemPlace)) (n : Nat), D i = .agg (ys.map (·.1)) ∧ Pl i = ys.flatMap (·.2) ∧ ys.length = fs.size ∧
        ∀ (j : Nat) (f : Field), fs[j]? = some f → ∃ (v : Value) (y : DataW H × List MemPlace), w.cell? (a.add (i * fs.size + j)) = some v ∧ ys[j]? = some y ∧ DataW.trod enc P w base spare held n f.type [v] = some y := by
  rcases open_slice ht h with h0 | ⟨a, len, cap, m, n, D, Pl, hcs, hb, hl, hm, hmm, hx, hi⟩
  · exact .inl h0
  · refine .inr ⟨a, len, cap, m, D, Pl, hcs, hb, hl, hm, hmm, by rw [hC] at hx; exact hx, fun i him => ?_⟩
    obtain ⟨cs', hc, ht'⟩ := hi i him
    rw [hC] at hc
    obtain ⟨ys, n', hn', hy, hlen, hyl, hf⟩ := DataW.trod_struct he ht'
    obtain ⟨_, hcl, hat⟩ := World.cells?_some hc
    simp only [Prod.mk.injEq] at hy
    refine ⟨ys, n', hy.1, hy.2, hyl, fun j f hj => ?_⟩
    obtain ⟨ho, hk⟩ := hone_of hone j f hj
    have hjl : j < fs.size := (Array.getElem?_eq_some_iff.1 hj).1
    have hcell := hat j hjl
    have hv : cs'[j]? = some (cs'[j]'(by omega)) := List.getElem?_eq_getElem (by omega)
    have h1 := hf j f hj
    rw [ho, hk] at h1
    have hone' : (cs'.drop j).take 1 = [cs'[j]'(by omega)] := by
      rw [List.drop_eq_getElem_cons (by omega)]
      rfl
    rw [hone'] at h1
    have hys : ys[j]? = some (ys[j]'(by omega)) := List.getElem?_eq_getElem (by omega)
    refine ⟨_, _, ?_, hys, h1.trans hys⟩
    rw [← Go.Deep.add_add, hcell, hv]
/-- A slice of pairs of integers that came in reads as a list. -/
theorem openU {t e : TypeId} {f0 f1 : Field} {fuel : Nat} {v : Value} {x : DataW H × List MemPlace} (ht : P.underlying t = some (.slice e)) (he : P.underlying e = some (.struct #[f0, f1])) (hone : oneCellFields P #[f0, f1] = true) (hC : P.cellsOf e = 2)
    (h0 : P.underlying f0.type = some (.int .i64)) (h1 : P.underlying f1.type = some (.int .i64))
    (h : DataW.trod enc P w base (fun _ => true) held fuel t [v] = some x) : ∃ (A : Option Addr) (n cap : Nat) (us : List (Int × Int)), v = .slice A n cap ∧ us.length = n ∧ n ≤ maxLen ∧ RU w w.heap.size A us := by
  rcases open_slice_fields ht he hone hC h with ⟨hcs, _⟩ | ⟨a, len, cap, m, D, Pl, hcs, _, hl, hm, hmm, _, hi⟩
  · simp only [List.cons.injEq, and_true] at hcs
    exact ⟨none, 0, 0, [], hcs, rfl, by unfold maxLen; omega, RU.nil⟩
  · simp only [List.cons.injEq, and_true] at hcs
    simp only [if_true] at hmm
    have each : ∀ i, i < len → ∃ p q : Int, w.cell? (a.add (i * 2)) = some (.int .i64 p) ∧ w.cell? (a.add (i * 2 + 1)) = some (.int .i64 q) := by
      intro i hil
      obtain ⟨ys, n, _, _, _, hf⟩ := hi i (by omega)
      obtain ⟨v0, y0, c0, _, t0⟩ := hf 0 f0 rfl
      obtain ⟨v1, y1, c1, _, t1⟩ := hf 1 f1 rfl
      obtain ⟨p, e0, _⟩ := DataW.trod_int h0 t0
      obtain ⟨q, e1, _⟩ := DataW.trod_int h1 t1
      simp only [List.cons.injEq, and_true] at e0 e1
      subst e0; subst e1
      exact ⟨p, q, c0, c1⟩
    obtain ⟨f, hf⟩ := Classical.axiomOfChoice (r := fun (i : Nat) (pq : Int × Int) => i < len → w.cell? (a.add (i * 2)) = some (.int .i64 pq.1) ∧ w.cell? (a.add (i * 2 + 1)) = some (.int .i64 pq.2)) (fun i => by
      by_cases hil : i < len
      · obtain ⟨p, q, c0, c1⟩ := each i hil
        exact ⟨(p, q), fun _ => ⟨c0, c1⟩⟩
      · exact ⟨(0, 0), fun h => absurd h hil⟩)
    refine ⟨some a, len, cap, (List.range len).map f, hcs, by simp, by omega, ?_⟩
    intro k hk
    have hk' : k < len := by simpa using hk
    obtain ⟨c0, c1⟩ := hf k hk'
    obtain ⟨b, off, spot⟩ := a
    have hspot : spot = none := by
      obtain ⟨c0', _⟩ := hf 0 (by omega)
      simpa [Addr.add] using World.cell?_spot c0'
    subst hspot
    rw [add_plain] at c0 c1
    have e : ((List.range len).map f).getD k (0, 0) = f k := by simp [List.getD_eq_getElem?_getD, hk']
    refine ⟨b, off, rfl, World.block_lt_of_cell? _ _ c0, ?_, ?_⟩
    · rw [e]; exact c0
    · rw [e, Nat.add_assoc]; exact c1
end
end Go.Pol
namespace Go.Proofs.YtefnnfcfigcikaaGreat
open Go Go.Proofs Go.RowKit Go.Pol Go.ChangeShapes Go.WideShapes Go.Deep

theorem own_ : ownKnob Tryz.prog.godebug = none := by kernel_rfl
theorem laidOut_ : laidOutB Tryz.prog = true := by kernel_rfl
set_option maxRecDepth 100000 in
theorem okWide_i64 {w : World} {r : Reach} {b0 : Nat} {v : Value} (h : Value.okWide Tryz.prog w r b0 3 v) : ∃ n : Int, v = .int .i64 n := okWide_int Tryz.underlying3 h
theorem spStruct : ∃ f0 f1 : Field, Tryz.prog.underlying 134 = some (.struct #[f0, f1]) ∧ oneCellFields Tryz.prog #[f0, f1] = true ∧ f0.type = 3 ∧ f1.type = 3 := ⟨_, _, Tryz.underlying134, by kernel_rfl, rfl, rfl⟩
set_option maxRecDepth 100000 in
/-- a list of spans that came in -/
theorem openSps {H : Type} {enc : TypeId × Value → H} {w : World} {base : Nat} {held : Bool} {v : Value} {fuel : Nat} {x : DataW H × List MemPlace} (h : DataW.trod enc Tryz.prog w base (fun _ => true) held fuel 42 v.cells.toList = some x) (hv : Value.okWide Tryz.prog w .any base 42 v) :
    ∃ (A : Option Addr) (n cap : Nat) (us : List Sp), v = .slice A n cap ∧ us.length = n ∧ n ≤ cap ∧ cap ≤ maxLen ∧ (A = none → cap = 0) ∧ RU w w.heap.size A us := by
  obtain ⟨f0, f1, hs, hone, t0, t1⟩ := spStruct
  obtain ⟨A, n, cap, rfl⟩ := okWide_slice Tryz.underlying42 hv
  obtain ⟨A', n', cap', us, e, h1, h2, h3⟩ := openU Tryz.underlying42 hs hone (by kernel_rfl) (by rw [t0]; exact Tryz.underlying3) (by rw [t1]; exact Tryz.underlying3) h
  cases e
  rcases open_slice_fields Tryz.underlying42 hs hone (by kernel_rfl) h with ⟨hcs, _⟩ | ⟨a, len, cap', m, D, Pl, hcs, _, hl, hm, _⟩
  · have e : Value.slice A n cap = .slice none 0 0 := by simpa [Value.cells] using hcs
    cases e
    exact ⟨_, _, _, us, rfl, h1, Nat.le_refl _, by unfold maxLen; omega, fun _ => rfl, h3⟩
  · have e : Value.slice A n cap = .slice (some a) len cap' := by simpa [Value.cells] using hcs
    cases e
    exact ⟨_, _, _, us, rfl, h1, hl, hm, fun e => (by cases e), h3⟩
section
variable {H : Type} {enc : TypeId × Value → H} {w : World} {base b0 : Nat} {held : Bool} {r : Reach} {v : Value} {d : DataW H} {p : List MemPlace}
theorem stCells : Tryz.prog.cellsOf 52 = 3 := by kernel_rfl
theorem spsCells : Tryz.prog.cellsOf 42 = 1 := by kernel_rfl
theorem insCells : Tryz.prog.cellsOf 50 = 1 := by kernel_rfl
theorem intCells : Tryz.prog.cellsOf 3 = 1 := by kernel_rfl
set_option maxRecDepth 100000 in
/-- a state that came in -/
theorem openState (hv : Value.okWide Tryz.prog w r b0 52 v) (h : DataW.Trod enc Tryz.prog w base (fun _ => true) held 52 v d p) :
    ∃ (A1 A2 A3 : Option Addr) (n1 c1 n2 c2 n3 c3 : Nat) (C L : List Sp) (Hu : List Int), v = .agg #[.slice A1 n1 c1, .slice A2 n2 c2, .slice A3 n3 c3] ∧ C.length = n1 ∧ n1 ≤ maxLen ∧ RU w w.heap.size A1 C ∧
      L.length = n2 ∧ n2 ≤ maxLen ∧ RU w w.heap.size A2 L ∧ Hu.length = n3 ∧ n3 ≤ maxLen ∧ RI w w.heap.size A3 Hu := by
  obtain ⟨f0, f1, hs, hone, t0, t1⟩ := spStruct
  obtain ⟨cs, rfl, hsz⟩ := okWide_struct Tryz.underlying52 hv
  obtain ⟨l⟩ := cs
  obtain ⟨fuel, hf⟩ := h
  obtain ⟨xs, m, _, hx, hl, hlen, hg⟩ := DataW.trod_struct Tryz.underlying52 hf
  rw [stCells] at hsz
  match l, hsz with
  | [c0, c1, c2], _ =>
    have g0 : DataW.trod enc Tryz.prog w base (fun _ => true) held m 42 [c0] = xs[0]? := by have := hg 0 _ rfl; simpa [Value.cells, spsCells] using this
    have g1 : DataW.trod enc Tryz.prog w base (fun _ => true) held m 42 [c1] = xs[1]? := by have := hg 1 _ rfl; simpa [Value.cells, spsCells] using this
    have g2 : DataW.trod enc Tryz.prog w base (fun _ => true) held m 50 [c2] = xs[2]? := by have := hg 2 _ rfl; simpa [Value.cells, spsCells, insCells] using this
    match xs, hlen with
    | [y0, y1, y2], _ =>
      obtain ⟨A1, n1, c1, C, rfl, a1, a2, a3⟩ := openU Tryz.underlying42 hs hone (by kernel_rfl) (by rw [t0]; exact Tryz.underlying3) (by rw [t1]; exact Tryz.underlying3) (g0.trans rfl)
      obtain ⟨A2, n2, c2, L, rfl, b1, b2, b3⟩ := openU Tryz.underlying42 hs hone (by kernel_rfl) (by rw [t0]; exact Tryz.underlying3) (by rw [t1]; exact Tryz.underlying3) (g1.trans rfl)
      obtain ⟨A3, n3, c3, Hu, rfl, d1, d2, d3, _⟩ := openI Tryz.underlying50 Tryz.underlying3 intCells (g2.trans rfl)
      exact ⟨A1, A2, A3, n1, c1, n2, c2, n3, c3, C, L, Hu, rfl, a1, a2, a3, b1, b2, b3, d1, d2, d3⟩
end
end Go.Proofs.YtefnnfcfigcikaaGreat
namespace Go.Pol
open Go
/-- fewer live pages, or as many and a lesser number -/
def ltX (x y : Gp) : Bool := decide (x.2.2.1 < y.2.2.1) || (decide (x.2.2.1 = y.2.2.1) && decide (x.1 < y.1))
/-- those with as many live pages are in the order of their numbers -/
def Inv (d : Array Gp) : Prop := ∀ i j, i < j → j < d.size → d[i]!.2.2.1 = d[j]!.2.2.1 → d[i]!.1 < d[j]!.1
theorem ltX_inv {d : Array Gp} (h : Inv d) {j : Nat} (hj : j + 1 < d.size) : ltX d[j + 1]! d[j]! = Go.Proofs.YtefnnfcfigcikaaGreat.ltL d[j + 1]! d[j]! := by
  unfold ltX Go.Proofs.YtefnnfcfigcikaaGreat.ltL
  have := h j (j + 1) (by omega) hj
  by_cases h1 : d[j + 1]!.2.2.1 = d[j]!.2.2.1
  · have := this h1.symm
    rw [decide_eq_false (show ¬ d[j + 1]!.1 < d[j]!.1 by omega)]; simp
  · simp [h1]
theorem inv_swp {d : Array Gp} (h : Inv d) {j : Nat} (hj : j + 1 < d.size) (hl : d[j + 1]!.2.2.1 < d[j]!.2.2.1) : Inv (Sort.swp d (j + 1) j) := by
  have g1 : (Sort.swp d (j + 1) j)[j + 1]! = d[j]! := Sort.swp_left d _ _ hj (by omega)
  have g2 : (Sort.swp d (j + 1) j)[j]! = d[j + 1]! := Sort.swp_right d _ _ (by omega)
  have g3 : ∀ k, k ≠ j + 1 → k ≠ j → (Sort.swp d (j + 1) j)[k]! = d[k]! := fun k a b => Sort.swp_other d _ _ k a b
  intro p q hpq hq he
  rw [Sort.size_swp] at hq
  by_cases p1 : p = j
  · subst p1
    by_cases q1 : q = p + 1
    · subst q1
      rw [g1, g2] at he
      omega
    · rw [g2, g3 q q1 (by omega)] at he ⊢
      exact h _ _ (by omega) hq he
  · by_cases p2 : p = j + 1
    · subst p2
      rw [g1, g3 q (by omega) (by omega)] at he ⊢
      exact h _ _ (by omega) hq he
    · rw [g3 p p2 p1] at he ⊢
      by_cases q1 : q = j + 1
      · subst q1
        rw [g1] at he ⊢
        exact h _ _ (by omega) (by omega) he
      · by_cases q2 : q = j
        · subst q2
          rw [g2] at he ⊢
          exact h _ _ (by omega) hj he
        · rw [g3 q q1 q2] at he ⊢
          exact h _ _ hpq hq he
theorem insInner_X (a : Nat) : ∀ (j : Nat) (d : Array Gp), j < d.size → Inv d → Sort.insInner ltX a j d = Sort.insInner Go.Proofs.YtefnnfcfigcikaaGreat.ltL a j d ∧ Inv (Sort.insInner Go.Proofs.YtefnnfcfigcikaaGreat.ltL a j d)
  | 0, d, _, h => ⟨rfl, h⟩
  | j + 1, d, hj, h => by
    rw [Sort.insInner, Sort.insInner, ltX_inv h hj]
    split
    · rename_i hc
      have hl : d[j + 1]!.2.2.1 < d[j]!.2.2.1 := by
        simp only [Bool.and_eq_true, Go.Proofs.YtefnnfcfigcikaaGreat.ltL, decide_eq_true_eq] at hc
        exact hc.2
      exact insInner_X a j _ (by rw [Sort.size_swp]; omega) (inv_swp h hj hl)
    · exact ⟨rfl, h⟩
theorem insOuter_X (a b : Nat) : ∀ (k i : Nat) (d : Array Gp), b - i ≤ k → b ≤ d.size → Inv d → Sort.insOuter ltX a b i d = Sort.insOuter Go.Proofs.YtefnnfcfigcikaaGreat.ltL a b i d
  | 0, i, d, h, _, _ => by rw [Sort.insOuter.eq_def ltX a b i d, Sort.insOuter.eq_def Go.Proofs.YtefnnfcfigcikaaGreat.ltL a b i d, if_neg (by omega), if_neg (by omega)]
  | k + 1, i, d, h, hb, hI => by
    rw [Sort.insOuter.eq_def ltX a b i d, Sort.insOuter.eq_def Go.Proofs.YtefnnfcfigcikaaGreat.ltL a b i d]
    by_cases hi : i < b
    · rw [if_pos hi, if_pos hi]
      obtain ⟨e, hI2⟩ := insInner_X a i d (by omega) hI
      rw [e]
      exact insOuter_X a b k (i + 1) _ (by omega) (by rw [insInner_size]; exact hb) hI2
    · rw [if_neg hi, if_neg hi]
theorem ltX_swo : Sort.SWO ltX where
  irrefl x := by simp [ltX]
  trans x y z h1 h2 := by
    simp only [ltX, Bool.or_eq_true, Bool.and_eq_true, decide_eq_true_eq] at *
    omega
  ntrans x y z h1 h2 := by
    simp only [ltX, Bool.or_eq_false_iff, Bool.and_eq_false_iff, decide_eq_false_iff_not] at *
    omega
/-- the sorted list -/
theorem insSort_X (l : List Gp) (h : l.Pairwise (fun a b => a.1 < b.1)) : (Sort.insertionSort Go.Proofs.YtefnnfcfigcikaaGreat.ltL l.toArray 0 l.length).toList.Perm l ∧
    (Sort.insertionSort Go.Proofs.YtefnnfcfigcikaaGreat.ltL l.toArray 0 l.length).toList.Pairwise (fun a b => ltX b a = false) := by
  have hI : Inv l.toArray := by
    intro i j hij hj _
    have hj' : j < l.length := by simpa using hj
    rw [getElem!_pos _ i (by simp; omega), getElem!_pos _ j (by simpa using hj)]
    exact List.pairwise_iff_getElem.1 h i j (by omega) hj' hij
  have he : Sort.insertionSort ltX l.toArray 0 l.length = Sort.insertionSort Go.Proofs.YtefnnfcfigcikaaGreat.ltL l.toArray 0 l.length := by
    unfold Sort.insertionSort
    exact insOuter_X 0 l.length _ _ _ (Nat.le_refl _) (by simp) hI
  obtain ⟨hp, hs⟩ := Sort.insertionSort_holds ltX_swo l.toArray 0 l.length (Nat.zero_le _) (by simp)
  rw [he] at hp hs
  generalize Sort.insertionSort Go.Proofs.YtefnnfcfigcikaaGreat.ltL l.toArray 0 l.length = d at *
  obtain ⟨d⟩ := d
  obtain ⟨h1, _, h3⟩ := hp
  have h1' : d.length = l.length := by simpa using h1
  refine ⟨?_, ?_⟩
  · have e1 : (d.toArray.extract 0 l.length).toList = d := by simp [← h1']
    have e2 : (l.toArray.extract 0 l.length).toList = l := by simp
    rw [e1, e2] at h3; exact h3
  · rw [List.pairwise_iff_getElem]
    intro i j hi hj hij
    have := hs i j (Nat.zero_le _) hij (by rw [← h1']; exact hj)
    rw [getElem!_pos _ j (by simpa using hj), getElem!_pos _ i (by simpa using hi)] at this
    simpa using this
end Go.Pol
namespace Go.Pol
open Go
def sumF (f : Int → Int) (l : List Int) : Int := (l.map f).sum
theorem sumF_cons (f : Int → Int) (a : Int) (l : List Int) : sumF f (a :: l) = f a + sumF f l := by simp [sumF]
theorem sumF_append (f : Int → Int) (a b : List Int) : sumF f (a ++ b) = sumF f a + sumF f b := by simp [sumF]
theorem sumF_perm {f : Int → Int} {a b : List Int} (h : a.Perm b) : sumF f a = sumF f b := by
  induction h with
  | nil => rfl
  | cons x _ ih => rw [sumF_cons, sumF_cons, ih]
  | swap x y l => rw [sumF_cons, sumF_cons, sumF_cons, sumF_cons]; omega
  | trans _ _ h1 h2 => rw [h1, h2]
theorem sub_min {f : Int → Int} {s os : List Int} (h : s.Sublist os) : os.Pairwise (fun a b => f a ≤ f b) → sumF f (os.take s.length) ≤ sumF f s := by
  induction h with
  | slnil => intro _; simp [sumF]
  | @cons s os a h ih =>
    intro hp
    obtain ⟨h1, h2⟩ := List.pairwise_cons.1 hp
    have hi := ih h2
    have hle := h.length_le
    cases hs : s.length with
    | zero =>
      have : s = [] := List.eq_nil_of_length_eq_zero hs
      subst this; simp [sumF]
    | succ k =>
      rw [hs] at hi hle
      have e : os.take (k + 1) = os.take k ++ [os[k]'(by omega)] := by
        rw [List.take_add_one, List.getElem?_eq_getElem (by omega)]; rfl
      rw [e, sumF_append] at hi
      rw [List.take_succ_cons, sumF_cons]
      have hk := h1 (os[k]'(by omega)) (List.getElem_mem _)
      have : sumF f [os[k]'(by omega)] = f (os[k]'(by omega)) := by simp [sumF]
      omega
  | @cons_cons s os a h ih =>
    intro hp
    obtain ⟨_, h2⟩ := List.pairwise_cons.1 hp
    have := ih h2
    rw [List.length_cons, List.take_succ_cons, sumF_cons, sumF_cons]
    omega
theorem perm_of_mem {a b : List Int} (ha : a.Nodup) (hb : b.Nodup) (h : ∀ x, x ∈ a ↔ x ∈ b) : a.Perm b := (List.perm_ext_iff_of_nodup ha hb).2 h
theorem set_min {f : Int → Int} {U os : List Int} (hp : os.Pairwise (fun a b => f a ≤ f b)) (hn : os.Nodup) (hU : U.Nodup) (hs : ∀ x ∈ U, x ∈ os) : sumF f (os.take U.length) ≤ sumF f U := by
  have hq : (os.filter fun x => decide (x ∈ U)).Perm U := perm_of_mem (hn.filter _) hU fun x => by
    rw [List.mem_filter, decide_eq_true_eq]
    exact ⟨fun h => h.2, fun h => ⟨hs x h, h⟩⟩
  have := sub_min (f := f) (List.filter_sublist (l := os) (p := fun x => decide (x ∈ U))) hp
  rw [hq.length_eq, sumF_perm hq] at this
  exact this
/-- fewer live pages, or as many and a lesser number -/
def ltG (f : Int → Int) (a b : Int) : Prop := f a < f b ∨ (f a = f b ∧ a < b)
theorem ltG_le {f : Int → Int} {os : List Int} (h : os.Pairwise (ltG f)) : os.Pairwise (fun a b => f a ≤ f b) := h.imp fun h => by rcases h with h | h <;> omega
theorem ltG_nodup {f : Int → Int} {os : List Int} (h : os.Pairwise (ltG f)) : os.Nodup := h.imp fun h => by
  rcases h with h | h
  · intro e; rw [e] at h; omega
  · omega
/-- a set of as many with the least sum: where it differs, the first of the list has the lesser number -/
theorem tie_min {f : Int → Int} {U os : List Int} (hp : os.Pairwise (ltG f)) (hU : U.Nodup) (hs : ∀ x ∈ U, x ∈ os) (he : sumF f U = sumF f (os.take U.length))
    {x y : Int} (hx : x ∈ U) (hx2 : x ∉ os.take U.length) (hy : y ∈ os.take U.length) (hy2 : y ∉ U) : y < x := by
  have hxo := hs x hx
  have hsplit : os.take U.length ++ os.drop U.length = os := List.take_append_drop _ _
  have hxd : x ∈ os.drop U.length := by
    rw [← hsplit] at hxo
    exact (List.mem_append.1 hxo).resolve_left hx2
  have hpp := hp
  rw [← hsplit, List.pairwise_append] at hpp
  have hlt := hpp.2.2 y hy x hxd
  rcases hlt with hlt | hlt
  · exfalso
    have hy3 : y ∈ os := List.mem_of_mem_take hy
    have hn : (y :: U.erase x).Nodup := List.nodup_cons.2 ⟨fun h => hy2 (List.mem_of_mem_erase h), hU.erase x⟩
    have hm := set_min (U := y :: U.erase x) (ltG_le hp) (ltG_nodup hp) hn (fun z hz => by
      rcases List.mem_cons.1 hz with rfl | hz
      · exact hy3
      · exact hs z (List.mem_of_mem_erase hz))
    have hperm := List.perm_cons_erase hx
    have hl : (y :: U.erase x).length = U.length := by rw [hperm.length_eq]; simp
    rw [hl, sumF_cons] at hm
    have h2 := sumF_perm (f := f) hperm
    rw [sumF_cons] at h2
    omega
  · exact hlt.2
end Go.Pol
namespace Go.Pol
open Go
/-- the pages of a list -/
def inL (l : List Int) (p : Nat) : Bool := decide ((p : Int) ∈ l)
/-- what a choice costs -/
def liveS (L : List Sp) (l : List Int) : Int := (l.map fun g => grpF L g).sum
theorem liveS_snoc (L : List Sp) (l : List Int) (g : Int) : liveS L (l ++ [g]) = liveS L l + grpF L g := by simp [liveS]
theorem liveS_bound (L : List Sp) : ∀ (l : List Int), 0 ≤ liveS L l ∧ liveS L l ≤ 16 * l.length
  | [] => by simp [liveS]
  | x :: r => by
    have h1 := grpF_bound L x
    have h2 := liveS_bound L r
    simp only [liveS, List.map_cons, List.sum_cons, List.length_cons] at h2 ⊢
    omega
end Go.Pol
namespace Go.Proofs.YtefnnfcfigcikaaGreat
open Go Go.Proofs Go.RowKit Go.Pol Go.Shelf
attribute [local go_sem] Oper.semAt_some Go.Pol.wide_fn Go.Pol.wide_depth Go.Pol.wide_fn' Go.Pol.wide_depth'

end Go.Proofs.YtefnnfcfigcikaaGreat
namespace Go.Pol
open Go
/-- which of two lists of one length comes first -/
def lexF : List Int → List Int → Bool
  | x :: a, y :: b => if (x != y) = true then decide (x < y) else lexF a b
  | _, _ => false
def numT (H : List Int) (l : List Int) : Int := ((touchF (setA (inL l)) H).length : Int)
def livT (L : List Sp) (H : List Int) (l : List Int) : Int := liveS L (touchF (setA (inL l)) H)
/-- is a choice better than another one? -/
def betF (L : List Sp) (H : List Int) (a b : List Int) : Bool :=
  if (numT H a != numT H b) = true then decide (numT H a < numT H b) else if (livT L H a != livT L H b) = true then decide (livT L H a < livT L H b) else lexF a b
end Go.Pol
namespace Go.Proofs.YtefnnfcfigcikaaGreat
open Go Go.Proofs Go.RowKit Go.Pol Go.Shelf
attribute [local go_sem] Oper.semAt_some Go.Pol.wide_fn Go.Pol.wide_depth Go.Pol.wide_fn' Go.Pol.wide_depth'

def BetS (bx : Nat) (v1 v2 v3 : Value) (W : World) : Prop := W.cell? ⟨bx, 0, none⟩ = some v1 ∧ W.cell? ⟨bx, 1, none⟩ = some v2 ∧ W.cell? ⟨bx, 2, none⟩ = some v3
end Go.Proofs.YtefnnfcfigcikaaGreat
namespace Go.Pol
open Go
/-- is a page in a huge group whose bit is not set? -/
def blkd (H : List Int) (set : Nat) (p : Int) (j : Nat) : Bool := (List.range j).any fun k => (p / 16 == H.getD k 0) && (set / 2 ^ k % 2 == 0)
theorem blkd_succ (H : List Int) (set : Nat) (p : Int) (j : Nat) : blkd H set p (j + 1) = (blkd H set p j || ((p / 16 == H.getD j 0) && (set / 2 ^ j % 2 == 0))) := by
  unfold blkd
  rw [List.range_succ, List.any_append]; simp
/-- the first so many pages that are not -/
def firR (H : List Int) (set : Nat) (n : Nat) (l : List Int) : List Int := (l.filter fun p => !blkd H set p H.length).take n
theorem firR_snoc (H : List Int) (set n : Nat) (l : List Int) (p : Int) (h : (firR H set n l).length < n) : firR H set n (l ++ [p]) = firR H set n l ++ if blkd H set p H.length = true then [] else [p] := by
  unfold firR at h ⊢
  rw [List.filter_append]
  have h1 : (l.filter fun p => !blkd H set p H.length).length < n := by
    rw [List.length_take] at h; omega
  rw [List.take_of_length_le (Nat.le_of_lt h1)]
  cases hb : blkd H set p H.length with
  | true => rw [show [p].filter (fun p => !blkd H set p H.length) = [] by simp [hb], List.append_nil, if_pos rfl, List.append_nil, List.take_of_length_le (Nat.le_of_lt h1)]
  | false => rw [show [p].filter (fun p => !blkd H set p H.length) = [p] by simp [hb], if_neg (by simp), List.take_of_length_le (by rw [List.length_append, List.length_singleton]; omega)]
theorem firR_full (H : List Int) (set n : Nat) (l : List Int) (i : Nat) (h : n ≤ (firR H set n (l.take i)).length) : firR H set n l = firR H set n (l.take i) := by
  unfold firR at h ⊢
  rw [List.length_take] at h
  conv => lhs; rw [← List.take_append_drop i l, List.filter_append]
  rw [List.take_append_of_le_length (by omega)]
theorem firR_len (H : List Int) (set n : Nat) (l : List Int) : (firR H set n l).length ≤ n := by unfold firR; rw [List.length_take]; omega
end Go.Pol
namespace Go.Proofs.YtefnnfcfigcikaaGreat
open Go Go.Proofs Go.RowKit Go.Pol Go.Shelf
attribute [local go_sem] Oper.semAt_some Go.Pol.wide_fn Go.Pol.wide_depth Go.Pol.wide_fn' Go.Pol.wide_depth'

end Go.Proofs.YtefnnfcfigcikaaGreat
namespace Go.Pol
open Go Go.RowKit
/-- the idle pages -/
def idleP (C L : List Sp) : List Int := pagesOf (combF 3 C L)
def stepBst (L : List Sp) (H I : List Int) (n : Nat) (b : Option (List Int)) (set : Nat) : Option (List Int) :=
  if (decide ((firR H set n I).length = n) && (b.isNone || betF L H (firR H set n I) (b.getD []))) = true then some (firR H set n I) else b
def bestL (C L : List Sp) (H : List Int) (n k : Nat) : Option (List Int) := (List.range k).foldl (stepBst L H (idleP C L) n) none
def bestE : Option (List Int) → List Sp × Int
  | none => ([], 4)
  | some l => (setA (inL l), 0)
/-- what the reference's Choose answers -/
def rchooseA (C L : List Sp) (H : List Int) (n : Int) : List Sp × Int :=
  if chkH C L H ≠ 0 then ([], chkH C L H) else if n < 0 ∨ 1024 < n then ([], 2) else
  bestE (bestL C L H n.toNat (2 ^ H.length))
theorem bestL_succ (C L : List Sp) (H : List Int) (n k : Nat) : bestL C L H n (k + 1) = stepBst L H (idleP C L) n (bestL C L H n k) k := by
  unfold bestL
  rw [List.range_succ, List.foldl_append]; rfl
theorem idle_can {C L : List Sp} (hC : Can C) (hL : Can L) : chk2 C L = 0 ∧ Can (combF 3 C L) := by
  have h := (minus_nil hC hL).1
  refine ⟨h, ?_⟩
  unfold combF; rw [if_pos h]; exact setA_can _
theorem idle_range {C L : List Sp} (h : Can (combF 3 C L)) : (idleP C L).length ≤ 1024 ∧ ∀ p ∈ idleP C L, 0 ≤ p ∧ p < 1024 := by
  refine ⟨?_, fun p hp => h.range (mem_pagesOf.1 hp)⟩
  have := pieces_most (us := combF 3 C L) (size := 1)
  rw [← List.length_map (f := (·.1)), pieces_one h] at this
  exact this
theorem firR_mem {H : List Int} {set n : Nat} {l : List Int} {p : Int} (h : p ∈ firR H set n l) : p ∈ l := (List.mem_filter.1 (List.mem_of_mem_take h)).1
theorem stepBst_or {L : List Sp} {H I : List Int} {n : Nat} {b : Option (List Int)} {set : Nat} : stepBst L H I n b set = some (firR H set n I) ∨ stepBst L H I n b set = b := by
  unfold stepBst; split
  · exact .inl rfl
  · exact .inr rfl
end Go.Pol
namespace Go.Proofs.YtefnnfcfigcikaaGreat
open Go Go.Proofs Go.RowKit Go.Pol Go.Shelf
attribute [local go_sem] Oper.semAt_some Go.Pol.wide_fn Go.Pol.wide_depth Go.Pol.wide_fn' Go.Pol.wide_depth'

/-- what a best choice so far reads like -/
structure BestIs (n : Nat) (I : List Int) (b : Option (List Int)) (v fl : Value) (w : World) : Prop where
  ex : ∃ (A : Option Addr) (len cap : Nat), v = .slice A len cap ∧ (b.getD []).length = len ∧ RI w w.heap.size A (b.getD [])
  fl : fl = .bool b.isSome
  len : ∀ l, b = some l → l.length = n
  mem : ∀ p ∈ b.getD [], p ∈ I
theorem BestIs.on {n : Nat} {I : List Int} {b : Option (List Int)} {v fl : Value} {w w' : World} (h : BestIs n I b v fl w) (hb : Below w.heap.size w w') : BestIs n I b v fl w' := by
  obtain ⟨A, len, cap, h1, h2, h3⟩ := h.ex
  exact ⟨⟨A, len, cap, h1, h2, RI.on h3 hb⟩, h.fl, h.len, h.mem⟩
end Go.Proofs.YtefnnfcfigcikaaGreat
namespace Go.Pol
open Go
def freeL (C L : List Sp) (H T : List Int) : List Nat := (List.range 1024).filter (freeP C L H T)
theorem filter_cnt (f : Int → Bool) : ∀ k : Nat, (((List.range k).filter fun (p : Nat) => f (p : Int)).length : Int) = cntN f k 0
  | 0 => rfl
  | k + 1 => by
    rw [List.range_succ, List.filter_append, List.length_append, cntN_snoc, ← filter_cnt f k, Int.zero_add]
    cases h : f (k : Int) <;> simp [h]
theorem cnt_blocks (f : Int → Bool) : ∀ k : Nat, cntN f (16 * k) 0 = ((List.range k).map fun (g : Nat) => cntN f 16 (16 * (g : Int))).sum
  | 0 => rfl
  | k + 1 => by
    rw [show 16 * (k + 1) = 16 * k + 16 by omega, cntN_split, cnt_blocks f k, List.range_succ, List.map_append, List.sum_append]
    have e : (0 : Int) + ((16 * k : Nat) : Int) = 16 * (k : Int) := by omega
    rw [e]; simp
theorem sum_if (f : Int → Int) (p : Int → Bool) : ∀ l : List Int, (l.map fun g => if p g = true then f g else 0).sum = sumF f (l.filter p)
  | [] => rfl
  | a :: r => by
    rw [List.map_cons, List.sum_cons, sum_if f p r, List.filter_cons]
    cases h : p a with
    | true => rw [if_pos rfl, if_pos rfl, sumF_cons]
    | false => rw [if_neg (by simp), if_neg (by simp)]; omega
def freeI (C L : List Sp) (H T : List Int) (q : Int) : Bool := mem q C && !mem q L && !(decide (q / 16 ∈ H) && !decide (q / 16 ∈ T))
theorem group_cnt {C L : List Sp} (hL : Can L) (hs : subF L C = true) (H T : List Int) (g : Int) :
    cntN (freeI C L H T) 16 (16 * g) = if (decide (g ∈ H) && !decide (g ∈ T)) = true then 0 else grpF C g - grpF L g := by
  by_cases hb : (decide (g ∈ H) && !decide (g ∈ T)) = true
  · rw [if_pos hb]
    refine cntN_none _ _ fun q h1 h2 => ?_
    unfold freeI
    rw [show q / 16 = g by omega, hb]; simp
  · rw [if_neg hb]
    have e1 : cntN (freeI C L H T) 16 (16 * g) = cntN (fun q => mem q C && !mem q L) 16 (16 * g) := cntN_congr _ _ fun q h1 h2 => by
      unfold freeI
      rw [show q / 16 = g by omega]
      simp only [Bool.not_eq_true] at hb
      rw [hb]; simp
    have hsub : ∀ q, mem q L = true → mem q C = true := fun q h => (subF_iff hL).1 hs q (mem_pagesOf.2 h)
    have e2 : grpF C g = grpF L g + cntN (fun q => mem q C && !mem q L) 16 (16 * g) := by
      unfold grpF cntF
      show cntN (fun q => mem q C) 16 (16 * g) = cntN (fun q => mem q L) 16 (16 * g) + _
      rw [← cntN_or]
      · refine cntN_congr _ _ fun q _ _ => ?_
        cases h1 : mem q L with
        | true => rw [hsub q h1]; rfl
        | false => simp
      · intro q h1 h2
        simp [h1] at h2
    omega
theorem haveF_sum (C L : List Sp) (H : List Int) : haveF (gsH C L H) = (grps.map fun g => if decide (g ∈ H) = true then 0 else grpF C g - grpF L g).sum := by
  rw [haveF, gsH_map, List.map_map]; rfl
theorem freeP_cnt (C L : List Sp) (H T : List Int) (k : Nat) : (((List.range k).filter (freeP C L H T)).length : Int) = cntN (freeI C L H T) k 0 := filter_cnt (freeI C L H T) k
theorem free_len {C L : List Sp} {H T : List Int} (h : chkH C L H = 0) (hT : T.Nodup) (hTH : ∀ g ∈ T, g ∈ H) :
    ((freeL C L H T).length : Int) = haveF (gsH C L H) + sumF (fun g => 16 - grpF L g) T := by
  obtain ⟨_, canL, hin, hsub, hok⟩ := chkH_zero.1 h
  have e1 : ((freeL C L H T).length : Int) = cntN (freeI C L H T) 1024 0 := freeP_cnt C L H T 1024
  have e2 := cnt_blocks (freeI C L H T) 64
  rw [e1, show (1024 : Nat) = 16 * 64 from rfl, e2, haveF_sum]
  have e3 : ((List.range 64).map fun (g : Nat) => cntN (freeI C L H T) 16 (16 * (g : Int))) = grps.map fun g => cntN (freeI C L H T) 16 (16 * g) := by
    unfold grps; rw [List.map_map]; rfl
  rw [e3]
  have hT2 : (grps.filter fun g => decide (g ∈ T)).Perm T := perm_of_mem ((grps_lt.imp (fun h => by omega)).filter _) hT fun x => by
    rw [List.mem_filter, decide_eq_true_eq]
    exact ⟨fun h => h.2, fun hx => ⟨mem_grps.2 (inG_iff.1 (hin x (hTH x hx))), hx⟩⟩
  rw [← sumF_perm hT2, ← sum_if]
  have hg : ∀ l : List Int, (l.map fun g => cntN (freeI C L H T) 16 (16 * g)).sum = (l.map fun g => if decide (g ∈ H) = true then 0 else grpF C g - grpF L g).sum + (l.map fun g => if decide (g ∈ T) = true then 16 - grpF L g else 0).sum := by
    intro l
    induction l with
    | nil => rfl
    | cons g r ih =>
      rw [List.map_cons, List.map_cons, List.map_cons, List.sum_cons, List.sum_cons, List.sum_cons, ih, group_cnt canL hsub]
      by_cases h1 : g ∈ H
      · have h16 := (hugOk_mem hok g h1).2
        by_cases h2 : g ∈ T
        · simp only [h1, h2, decide_true, Bool.not_true, Bool.and_false, Bool.false_eq_true, if_false, if_true, h16]; omega
        · simp only [h1, h2, decide_true, decide_false, Bool.not_false, Bool.and_true, if_true, Bool.false_eq_true, if_false]; omega
      · have h2 : g ∉ T := fun h => h1 (hTH g h)
        simp only [h1, h2, decide_false, Bool.false_and, Bool.false_eq_true, if_false]; omega
  exact hg grps
end Go.Pol
namespace Go.Pol
open Go
theorem splitG_spec (H : List Int) : ∀ (l o : List Int), l.Pairwise (· < ·) → o.Pairwise (· < ·) → (∀ g ∈ o, ∀ p ∈ l, g ≤ p / 16) →
    (l.foldl (stepS H) o).Pairwise (· < ·) ∧ ∀ g, g ∈ l.foldl (stepS H) o ↔ g ∈ o ∨ (g ∈ H ∧ ∃ p ∈ l, p / 16 = g)
  | [], o, _, ho, _ => ⟨ho, fun g => by simp⟩
  | p :: r, o, hl, ho, hle => by
    obtain ⟨hp, hr⟩ := List.pairwise_cons.1 hl
    rw [List.foldl_cons]
    by_cases hc : (decide (p / 16 ∈ H) && !decide (p / 16 ∈ o)) = true
    · have hs : stepS H o p = o ++ [p / 16] := by unfold stepS; rw [if_pos hc]
      simp only [Bool.and_eq_true, decide_eq_true_eq, Bool.not_eq_true', decide_eq_false_iff_not] at hc
      have ho2 : (o ++ [p / 16]).Pairwise (· < ·) := by
        rw [List.pairwise_append]
        refine ⟨ho, List.pairwise_singleton _ _, fun g hg q hq => ?_⟩
        rw [List.mem_singleton.1 hq]
        have h1 := hle g hg p (by simp)
        have h2 : g ≠ p / 16 := fun e => hc.2 (e ▸ hg)
        omega
      obtain ⟨h1, h2⟩ := splitG_spec H r (o ++ [p / 16]) hr ho2 (fun g hg q hq => by
        have hpq := hp q hq
        rcases List.mem_append.1 hg with h | h
        · exact hle g h q (by simp [hq])
        · rw [List.mem_singleton.1 h]; omega)
      rw [hs]
      refine ⟨h1, fun g => ?_⟩
      rw [h2 g]
      constructor
      · rintro (h | ⟨h, q, hq, e⟩)
        · rcases List.mem_append.1 h with h | h
          · exact .inl h
          · rw [List.mem_singleton.1 h]; exact .inr ⟨hc.1, p, by simp, rfl⟩
        · exact .inr ⟨h, q, by simp [hq], e⟩
      · rintro (h | ⟨h, q, hq, e⟩)
        · exact .inl (by simp [h])
        · rcases List.mem_cons.1 hq with rfl | hq
          · exact .inl (by simp [e])
          · exact .inr ⟨h, q, hq, e⟩
    · have hs : stepS H o p = o := by unfold stepS; rw [if_neg hc]
      have hc2 : p / 16 ∈ H → p / 16 ∈ o := by
        intro h
        by_cases h2 : p / 16 ∈ o
        · exact h2
        · exact absurd (by simp [h, h2]) hc
      obtain ⟨h1, h2⟩ := splitG_spec H r o hr ho (fun g hg q hq => hle g hg q (by simp [hq]))
      rw [hs]
      refine ⟨h1, fun g => ?_⟩
      rw [h2 g]
      constructor
      · rintro (h | ⟨h, q, hq, e⟩)
        · exact .inl h
        · exact .inr ⟨h, q, by simp [hq], e⟩
      · rintro (h | ⟨h, q, hq, e⟩)
        · exact .inl h
        · rcases List.mem_cons.1 hq with rfl | hq
          · exact .inl (e ▸ hc2 (e ▸ h))
          · exact .inr ⟨h, q, hq, e⟩
theorem touch_iff {ps : List Sp} (h : Can ps) (g : Int) : 0 < grpF ps g ↔ ∃ p ∈ pagesOf ps, p / 16 = g := by
  rw [← cntP_pages h g]
  unfold cntP
  rw [show (0 : Int) = ((0 : Nat) : Int) from rfl, Int.ofNat_lt, List.countP_pos_iff]
  simp
theorem split_eq (C L : List Sp) (H : List Int) (ps : List Sp) : splitA C L H ps = splitB C L H ps := by
  by_cases h1 : chkH C L H = 0
  · by_cases h2 : chkS ps = 0
    · have hcan := chkS_zero.1 h2
      have : splitG H (pagesOf ps) = touchF ps H := by
        obtain ⟨a, b⟩ := splitG_spec H (pagesOf ps) [] (pages_lt hcan) .nil (fun _ h => by cases h)
        refine asc_eq a ((hugOk_lt (chkH_zero.1 h1).2.2.2.2).filter _) fun g => ?_
        show g ∈ (pagesOf ps).foldl (stepS H) [] ↔ g ∈ H.filter fun g => decide (0 < grpF ps g)
        rw [b g, List.mem_filter, decide_eq_true_eq, touch_iff hcan]
        simp
      simp only [splitA, splitB, this]
    · simp [splitA, splitB, h1, h2]
  · simp [splitA, splitB, h1]
theorem splitB_len (C L : List Sp) (H : List Int) (ps : List Sp) : (splitB C L H ps).1.length ≤ 64 := by
  unfold splitB
  by_cases h1 : chkH C L H = 0
  · rw [if_neg (by simp [h1])]
    split
    · simp
    · split
      · simp
      · exact Nat.le_trans (touchF_len _ _) (huge_len h1)
  · rw [if_pos h1]; simp
end Go.Pol
namespace Go.Pol
open Go
def castL (l : List Nat) : List Int := l.map fun (p : Nat) => (p : Int)
theorem mem_castL {l : List Nat} {x : Int} : x ∈ castL l ↔ ∃ p ∈ l, (p : Int) = x := by simp [castL]
theorem castL_len (l : List Nat) : (castL l).length = l.length := by simp [castL]
/-- the huge groups that have a page of a list -/
def touI (H : List Int) (l : List Nat) : List Int := H.filter fun g => l.any fun p => decide ((p : Int) / 16 = g)
theorem mem_touI {H : List Int} {l : List Nat} {g : Int} : g ∈ touI H l ↔ g ∈ H ∧ ∃ p ∈ l, (p : Int) / 16 = g := by
  unfold touI
  rw [List.mem_filter, List.any_eq_true]; simp
theorem touch_touI (H : List Int) (l : List Nat) (hl : ∀ p ∈ l, p < 1024) : touchF (setA (inL (castL l))) H = touI H l := by
  unfold touchF touI
  refine List.filter_congr fun g _ => ?_
  rw [Bool.eq_iff_iff, decide_eq_true_eq, touch_iff (setA_can _), List.any_eq_true]
  constructor
  · rintro ⟨p, hp, e⟩
    obtain ⟨h1, h2⟩ := (mem_setA _ _).1 (mem_pagesOf.1 hp)
    simp only [inL, decide_eq_true_eq, mem_castL] at h2
    obtain ⟨q, hq, e2⟩ := h2
    exact ⟨q, hq, by rw [decide_eq_true_eq]; omega⟩
  · rintro ⟨p, hp, e⟩
    rw [decide_eq_true_eq] at e
    refine ⟨(p : Int), mem_pagesOf.2 ((mem_setA _ _).2 ⟨by have := hl p hp; omega, ?_⟩), e⟩
    simp only [inL, decide_eq_true_eq, mem_castL]
    exact ⟨p, hp, by omega⟩
/-- the list with a page in the first group where both differ comes first -/
theorem lex_first (a b : Nat → Bool) (lo hi : Nat) : ∀ (k s n : Nat), (∀ p, s ≤ p → p < lo → a p = b p) → (∀ p, lo ≤ p → p < hi → b p = false) →
    (∃ q ∈ ((List.range' s k).filter a).take n, lo ≤ q ∧ q < hi) → (((List.range' s k).filter b).take n).length = (((List.range' s k).filter a).take n).length →
    lexF (castL (((List.range' s k).filter a).take n)) (castL (((List.range' s k).filter b).take n)) = true
  | 0, s, n, _, _, ⟨q, hq, _⟩, _ => by simp at hq
  | k + 1, s, n, h1, h2, ⟨q, hq, hq1, hq2⟩, hlen => by
    cases n with
    | zero => simp at hq
    | succ n =>
      rw [List.range'_succ, List.filter_cons, List.filter_cons] at *
      have hqs : s ≤ q := by
        have hm := List.mem_of_mem_take hq
        split at hm
        · rcases List.mem_cons.1 hm with rfl | hm
          · exact Nat.le_refl _
          · have := (List.mem_range'_1.1 (List.mem_filter.1 hm).1).1; omega
        · have := (List.mem_range'_1.1 (List.mem_filter.1 hm).1).1; omega
      by_cases hs : s < lo
      · have hab := h1 s (Nat.le_refl _) hs
        rw [← hab] at hlen ⊢
        cases ha : a s with
        | true =>
          simp only [ha, ↓reduceIte, List.take_succ_cons] at hq hlen ⊢
          have ih := lex_first a b lo hi k (s + 1) n (fun p x y => h1 p (by omega) y) h2 ⟨q, (List.mem_cons.1 hq).resolve_left (by omega), hq1, hq2⟩ (by simpa using hlen)
          show lexF ((s : Int) :: castL _) ((s : Int) :: castL _) = true
          rw [lexF, if_neg (by simp)]; exact ih
        | false =>
          simp only [ha, Bool.false_eq_true, ↓reduceIte] at hq hlen ⊢
          exact lex_first a b lo hi k (s + 1) (n + 1) (fun p x y => h1 p (by omega) y) h2 ⟨q, hq, hq1, hq2⟩ hlen
      · have hb := h2 s (by omega) (by omega)
        cases ha : a s with
        | true =>
          simp only [ha, hb, Bool.false_eq_true, ↓reduceIte, List.take_succ_cons] at hlen ⊢
          cases hB : ((List.range' (s + 1) k).filter b).take (n + 1) with
          | nil => rw [hB] at hlen; simp at hlen
          | cons y r =>
            have hy : y ∈ ((List.range' (s + 1) k).filter b).take (n + 1) := by rw [hB]; simp
            have hys := (List.mem_range'_1.1 (List.mem_filter.1 (List.mem_of_mem_take hy)).1).1
            show lexF ((s : Int) :: castL _) ((y : Int) :: castL _) = true
            rw [lexF, if_pos (by simp; omega), decide_eq_true_eq]; omega
        | false =>
          simp only [ha, hb, Bool.false_eq_true, ↓reduceIte] at hq hlen ⊢
          exact lex_first a b lo hi k (s + 1) (n + 1) (fun p x y => h1 p (by omega) y) h2 ⟨q, hq, hq1, hq2⟩ hlen
theorem lexF_asymm : ∀ (a b : List Int), lexF a b = true → lexF b a = false
  | [], _, h => by simp [lexF] at h
  | _ :: _, [], h => by simp [lexF] at h
  | x :: a, y :: b, h => by
    rw [lexF] at h ⊢
    by_cases e : x = y
    · subst e
      rw [if_neg (by simp)] at h ⊢
      exact lexF_asymm a b h
    · rw [if_pos (by simpa using e), decide_eq_true_eq] at h
      rw [if_pos (by simpa using fun h => e h.symm), decide_eq_false_iff_not]
      omega
theorem lexF_irrefl : ∀ (a : List Int), lexF a a = false
  | [] => rfl
  | x :: a => by rw [lexF, if_neg (by simp)]; exact lexF_irrefl a
theorem betF_asymm {L : List Sp} {H a b : List Int} (h : betF L H a b = true) : betF L H b a = false := by
  unfold betF at h ⊢
  by_cases h1 : numT H a = numT H b
  · rw [h1, if_neg (by simp)] at h
    rw [h1, if_neg (by simp)]
    by_cases h2 : livT L H a = livT L H b
    · rw [h2, if_neg (by simp)] at h
      rw [h2, if_neg (by simp)]
      exact lexF_asymm _ _ h
    · rw [if_pos (by simpa using h2), decide_eq_true_eq] at h
      rw [if_pos (by simpa using fun h => h2 h.symm), decide_eq_false_iff_not]; omega
  · rw [if_pos (by simpa using h1), decide_eq_true_eq] at h
    rw [if_pos (by simpa using fun h => h1 h.symm), decide_eq_false_iff_not]; omega
theorem betF_irrefl {L : List Sp} {H a : List Int} : betF L H a a = false := by
  unfold betF; simp [lexF_irrefl]
end Go.Pol
namespace Go.Pol
open Go
theorem freeP_iff {C L : List Sp} {H T : List Int} {p : Nat} : freeP C L H T p = true ↔ (mem (p : Int) C = true ∧ mem (p : Int) L = false) ∧ ((p : Int) / 16 ∈ H → (p : Int) / 16 ∈ T) := by
  unfold freeP
  by_cases h1 : (p : Int) / 16 ∈ H <;> by_cases h2 : (p : Int) / 16 ∈ T <;> simp [h1, h2]
theorem freeL_lt {C L : List Sp} {H T : List Int} {p : Nat} (h : p ∈ freeL C L H T) : p < 1024 := by
  have := (List.mem_filter.1 h).1
  simpa using this
theorem freeL_congr {C L : List Sp} {H T T' : List Int} (h : ∀ g ∈ H, g ∈ T ↔ g ∈ T') : freeL C L H T = freeL C L H T' := by
  unfold freeL
  refine List.filter_congr fun p _ => ?_
  rw [Bool.eq_iff_iff, freeP_iff, freeP_iff]
  constructor
  · rintro ⟨a, b⟩; exact ⟨a, fun x => (h _ x).1 (b x)⟩
  · rintro ⟨a, b⟩; exact ⟨a, fun x => (h _ x).2 (b x)⟩
theorem sumI_eq (f : Int → Int) : ∀ V : List Int, sumF (fun g => 16 - f g) V = 16 * (V.length : Int) - sumF f V
  | [] => rfl
  | a :: r => by rw [sumF_cons, sumF_cons, sumI_eq f r, List.length_cons]; omega
theorem cand_in {C L : List Sp} {H T : List Int} {n : Nat} {g : Int} (h : g ∈ touI H ((freeL C L H T).take n)) : g ∈ T := by
  obtain ⟨h1, p, hp, e⟩ := mem_touI.1 h
  have := (freeP_iff.1 (List.mem_filter.1 (List.mem_of_mem_take hp)).2).2
  rw [e] at this
  exact this h1
theorem cand_free {C L : List Sp} {H T : List Int} (n : Nat) : ∃ r, freeL C L H (touI H ((freeL C L H T).take n)) = (freeL C L H T).take n ++ r := by
  generalize hl : (freeL C L H T).take n = l
  refine ⟨((freeL C L H T).drop n).filter (freeP C L H (touI H l)), ?_⟩
  have e1 : freeL C L H (touI H l) = (freeL C L H T).filter (freeP C L H (touI H l)) := by
    unfold freeL
    rw [List.filter_filter]
    refine List.filter_congr fun p _ => ?_
    rw [Bool.eq_iff_iff, Bool.and_eq_true]
    constructor
    · intro h
      refine ⟨h, ?_⟩
      obtain ⟨a, b⟩ := freeP_iff.1 h
      exact freeP_iff.2 ⟨a, fun x => by have := b x; rw [← hl] at this; exact cand_in this⟩
    · exact fun h => h.1
  have hm : ∀ p ∈ l, freeP C L H (touI H l) p = true := fun p hp => by
    have hp' := hp
    rw [← hl] at hp'
    obtain ⟨a, _⟩ := freeP_iff.1 (List.mem_filter.1 (List.mem_of_mem_take hp')).2
    exact freeP_iff.2 ⟨a, fun x => mem_touI.2 ⟨x, p, hp, rfl⟩⟩
  rw [e1]
  generalize freeL C L H T = F at *
  have e2 : F = l ++ F.drop n := by rw [← hl, List.take_append_drop]
  have e3 := congrArg (List.filter (freeP C L H (touI H l))) e2
  rw [List.filter_append, List.filter_eq_self.2 hm] at e3
  exact e3
/-- the situation of a greedy choice -/
structure Gr (C L : List Sp) (H os : List Int) (nn m : Nat) : Prop where
  hz : chkH C L H = 0
  perm : os.Perm H
  ord : os.Pairwise (ltG (grpF L))
  ml : m ≤ os.length
  enough : (nn : Int) ≤ haveF (gsH C L H) + sumF (fun g => 16 - grpF L g) (os.take m)
  few : ∀ j, j < m → haveF (gsH C L H) + sumF (fun g => 16 - grpF L g) (os.take j) < nn
section
variable {C L : List Sp} {H os : List Int} {nn m : Nat}
theorem Gr.nodupH (h : Gr C L H os nn m) : H.Nodup := (hugOk_lt (chkH_zero.1 h.hz).2.2.2.2).imp (fun h => by omega)
theorem Gr.nodup (h : Gr C L H os nn m) : os.Nodup := ltG_nodup h.ord
theorem Gr.touN (h : Gr C L H os nn m) (l : List Nat) : (touI H l).Nodup := h.nodupH.filter _
theorem Gr.touH {l : List Nat} {g : Int} (hg : g ∈ touI H l) : g ∈ H := (mem_touI.1 hg).1
/-- a choice of so many pages touches at least m groups -/
theorem Gr.least (h : Gr C L H os nn m) {T : List Int} (hlen : ((freeL C L H T).take nn).length = nn) : m ≤ (touI H ((freeL C L H T).take nn)).length := by
  generalize hU : touI H ((freeL C L H T).take nn) = U
  have hUn : U.Nodup := by rw [← hU]; exact h.touN _
  have hUH : ∀ g ∈ U, g ∈ H := fun g hg => by rw [← hU] at hg; exact Gr.touH hg
  obtain ⟨r, hr⟩ := cand_free (C := C) (L := L) (H := H) (T := T) nn
  have h1 : nn ≤ (freeL C L H U).length := by rw [← hU, hr, List.length_append, hlen]; omega
  have h2 := free_len h.hz hUn hUH
  have hmin := set_min (ltG_le h.ord) h.nodup hUn (fun x hx => (h.perm.mem_iff).2 (hUH x hx))
  rw [sumI_eq] at h2
  apply Nat.le_of_not_lt
  intro hlt
  have h3 := h.few U.length hlt
  rw [sumI_eq, List.length_take, Nat.min_eq_left (by have := h.ml; omega)] at h3
  omega
/-- the greedy choice -/
theorem Gr.len (h : Gr C L H os nn m) : ((freeL C L H (os.take m)).take nn).length = nn := by
  rw [List.length_take]
  have := free_len h.hz (h.nodup.sublist (List.take_sublist m os)) (fun g hg => h.perm.mem_iff.1 (List.mem_of_mem_take hg))
  have := h.enough
  omega
theorem Gr.touched (h : Gr C L H os nn m) : (touI H ((freeL C L H (os.take m)).take nn)).Perm (os.take m) := by
  have h1 := h.least h.len
  generalize hU : touI H ((freeL C L H (os.take m)).take nn) = U at *
  have hUn : U.Nodup := by rw [← hU]; exact h.touN _
  have hsub : ∀ g ∈ U, g ∈ os.take m := fun g hg => by rw [← hU] at hg; exact cand_in hg
  have hTn : (os.take m).Nodup := h.nodup.sublist (List.take_sublist m os)
  have hlen : (os.take m).length = m := by rw [List.length_take]; have := h.ml; omega
  have hq : ((os.take m).filter fun x => decide (x ∈ U)).Perm U := perm_of_mem (hTn.filter _) hUn fun x => by
    rw [List.mem_filter, decide_eq_true_eq]
    exact ⟨fun h => h.2, fun h => ⟨hsub x h, h⟩⟩
  have hl2 := hq.length_eq
  have hsl : ((os.take m).filter fun x => decide (x ∈ U)).Sublist (os.take m) := List.filter_sublist
  have := hsl.eq_of_length (by have := hsl.length_le; omega)
  rw [this] at hq
  exact hq.symm
theorem exists_min : ∀ (l : List Int), l ≠ [] → ∃ g ∈ l, ∀ y ∈ l, g ≤ y
  | [], h => absurd rfl h
  | [a], _ => ⟨a, by simp, by simp⟩
  | a :: b :: r, _ => by
    obtain ⟨g, hg, hm⟩ := exists_min (b :: r) (by simp)
    by_cases h : a ≤ g
    · exact ⟨a, by simp, fun y hy => by
        rcases List.mem_cons.1 hy with rfl | hy
        · exact Int.le_refl _
        · have := hm y hy; omega⟩
    · exact ⟨g, List.mem_cons_of_mem _ hg, fun y hy => by
        rcases List.mem_cons.1 hy with rfl | hy
        · omega
        · exact hm y hy⟩
theorem bet_eq (L : List Sp) (H : List Int) {l l' : List Nat} (h : ∀ p ∈ l, p < 1024) (h' : ∀ p ∈ l', p < 1024) : betF L H (castL l) (castL l') =
    if (((touI H l).length : Int) != ((touI H l').length : Int)) = true then decide (((touI H l).length : Int) < ((touI H l').length : Int)) else
    if (sumF (grpF L) (touI H l) != sumF (grpF L) (touI H l')) = true then decide (sumF (grpF L) (touI H l) < sumF (grpF L) (touI H l')) else lexF (castL l) (castL l') := by
  unfold betF numT livT
  rw [touch_touI H l h, touch_touI H l' h']
  rfl
theorem Gr.best (h : Gr C L H os nn m) {T : List Int} (hlen : ((freeL C L H T).take nn).length = nn) :
    (freeL C L H T).take nn = (freeL C L H (os.take m)).take nn ∨ betF L H (castL ((freeL C L H (os.take m)).take nn)) (castL ((freeL C L H T).take nn)) = true := by
  have hge := h.least hlen
  have hperm := h.touched
  obtain ⟨r, hr⟩ := cand_free (C := C) (L := L) (H := H) (T := T) nn
  have hls : ∀ p ∈ (freeL C L H (os.take m)).take nn, p < 1024 := fun p hp => freeL_lt (List.mem_of_mem_take hp)
  have hll : ∀ p ∈ (freeL C L H T).take nn, p < 1024 := fun p hp => freeL_lt (List.mem_of_mem_take hp)
  rw [bet_eq L H hls hll, hperm.length_eq, sumF_perm hperm]
  have hlen2 := h.len
  have hUn := h.touN ((freeL C L H T).take nn)
  have hUH : ∀ g ∈ touI H ((freeL C L H T).take nn), g ∈ H := fun g hg => Gr.touH hg
  have hmst : ∀ g, g ∈ os.take m → ∃ p ∈ (freeL C L H (os.take m)).take nn, (p : Int) / 16 = g := fun g hg => (mem_touI.1 (hperm.mem_iff.2 hg)).2
  have hTl : (os.take m).length = m := by rw [List.length_take]; have := h.ml; omega
  rw [hTl]
  generalize hU : touI H ((freeL C L H T).take nn) = U at *
  have htk : (freeL C L H U).take nn = (freeL C L H T).take nn := by
    rw [hr, List.take_append_of_le_length (by omega), List.take_of_length_le (by omega)]
  by_cases hm : U.length = m
  case neg =>
    right
    rw [if_pos (by simp; omega), decide_eq_true_eq]; omega
  case pos =>
    rw [if_neg (by simp [hm])]
    have hUo : ∀ x ∈ U, x ∈ os := fun x hx => h.perm.mem_iff.2 (hUH x hx)
    have hmin := set_min (ltG_le h.ord) h.nodup hUn hUo
    rw [hm] at hmin
    by_cases he : sumF (grpF L) (os.take m) = sumF (grpF L) U
    case neg =>
      right
      rw [if_pos (by simpa using he), decide_eq_true_eq]; omega
    case pos =>
      rw [if_neg (by simp [he])]
      have hTn : (os.take m).Nodup := h.nodup.sublist (List.take_sublist m os)
      by_cases hD : (os.take m).filter (fun y => !decide (y ∈ U)) = []
      · left
        rw [← htk]
        have hsub : ∀ y ∈ os.take m, y ∈ U := fun y hy => by
          by_cases hyu : y ∈ U
          · exact hyu
          · have : y ∈ (os.take m).filter (fun y => !decide (y ∈ U)) := List.mem_filter.2 ⟨hy, by simp [hyu]⟩
            rw [hD] at this; cases this
        have hq : (U.filter fun x => decide (x ∈ os.take m)).Perm (os.take m) := perm_of_mem (hUn.filter _) hTn fun x => by
          rw [List.mem_filter, decide_eq_true_eq]
          exact ⟨fun h => h.2, fun h => ⟨hsub x h, h⟩⟩
        have hsl : (U.filter fun x => decide (x ∈ os.take m)).Sublist U := List.filter_sublist
        have heq := hsl.eq_of_length (by have := hq.length_eq; omega)
        rw [heq] at hq
        rw [freeL_congr (T := U) (T' := os.take m) (fun g _ => hq.mem_iff)]
      · right
        obtain ⟨g, hg, hgm⟩ := exists_min _ hD
        obtain ⟨hg1, hg2⟩ := List.mem_filter.1 hg
        have hg3 : g ∉ U := by simpa using hg2
        have hgH : g ∈ H := h.perm.mem_iff.1 (List.mem_of_mem_take hg1)
        have hgr := inG_iff.1 ((chkH_zero.1 h.hz).2.2.1 g hgH)
        obtain ⟨gn, rfl⟩ : ∃ gn : Nat, g = (gn : Int) := ⟨g.toNat, by omega⟩
        have hsame : ∀ x : Int, x < gn → (x ∈ os.take m ↔ x ∈ U) := fun x hx => by
          constructor
          · intro hxt
            by_cases hxu : x ∈ U
            · exact hxu
            · have := hgm x (List.mem_filter.2 ⟨hxt, by simp [hxu]⟩); omega
          · intro hxu
            by_cases hxt : x ∈ os.take m
            · exact hxt
            · have := tie_min h.ord hUn hUo (by rw [hm]; exact he.symm) hxu (by rw [hm]; exact hxt) (by rw [hm]; exact hg1) hg3
              omega
        rw [← htk]
        have hr2 : List.range 1024 = List.range' 0 1024 := List.range_eq_range'
        have hlu : ((freeL C L H U).take nn).length = ((freeL C L H (os.take m)).take nn).length := by rw [htk, hlen, hlen2]
        have hq3 := hmst _ hg1
        unfold freeL at hlu hq3 ⊢
        rw [hr2] at hlu hq3 ⊢
        refine lex_first _ _ (16 * gn) (16 * gn + 16) 1024 0 nn (fun p _ hp => ?_) (fun p hp1 hp2 => ?_) ?_ hlu
        · rw [Bool.eq_iff_iff, freeP_iff, freeP_iff]
          have := hsame ((p : Int) / 16) (by omega)
          constructor
          · rintro ⟨a, b⟩; exact ⟨a, fun x => this.1 (b x)⟩
          · rintro ⟨a, b⟩; exact ⟨a, fun x => this.2 (b x)⟩
        · cases hf : freeP C L H U p with
          | false => rfl
          | true =>
            have := (freeP_iff.1 hf).2
            rw [show (p : Int) / 16 = (gn : Int) by omega] at this
            exact absurd (this hgH) hg3
        · obtain ⟨p, hp, e⟩ := hq3
          exact ⟨p, hp, by omega, by omega⟩
end
end Go.Pol
namespace Go.Pol
open Go
/-- the huge groups of a set of bits -/
def tSet (H : List Int) (set : Nat) : List Int := H.filter fun g => (List.range H.length).any fun k => (H.getD k 0 == g) && !(set / 2 ^ k % 2 == 0)
theorem nodup_idx {H : List Int} (h : H.Nodup) {i j : Nat} (hi : i < H.length) (hj : j < H.length) (e : H.getD i 0 = H.getD j 0) : i = j := by
  rw [List.getD_eq_getElem?_getD, List.getD_eq_getElem?_getD, List.getElem?_eq_getElem hi, List.getElem?_eq_getElem hj] at e
  simp only [Option.getD_some] at e
  exact (List.getElem_inj h).1 e
theorem mem_idx {H : List Int} {g : Int} (h : g ∈ H) : ∃ k, k < H.length ∧ H.getD k 0 = g := by
  obtain ⟨k, hk, e⟩ := List.getElem_of_mem h
  exact ⟨k, hk, by rw [List.getD_eq_getElem?_getD, List.getElem?_eq_getElem hk]; simpa using e⟩
theorem mem_tSet {H : List Int} (hn : H.Nodup) {set k : Nat} (hk : k < H.length) : H.getD k 0 ∈ tSet H set ↔ (set / 2 ^ k % 2 == 0) = false := by
  unfold tSet
  rw [List.mem_filter, List.any_eq_true]
  constructor
  · rintro ⟨_, j, hj, e⟩
    rw [List.mem_range] at hj
    rw [Bool.and_eq_true, beq_iff_eq] at e
    have := nodup_idx hn hj hk e.1
    subst this
    simpa using e.2
  · intro h
    refine ⟨?_, k, List.mem_range.2 hk, by rw [h]; simp⟩
    rw [List.getD_eq_getElem?_getD, List.getElem?_eq_getElem hk]; exact List.getElem_mem _
theorem blkd_iff {H : List Int} (hn : H.Nodup) (set : Nat) (p : Int) : blkd H set p H.length = true ↔ p / 16 ∈ H ∧ p / 16 ∉ tSet H set := by
  unfold blkd
  rw [List.any_eq_true]
  constructor
  · rintro ⟨k, hk, e⟩
    rw [List.mem_range] at hk
    rw [Bool.and_eq_true, beq_iff_eq] at e
    rw [e.1]
    refine ⟨by rw [List.getD_eq_getElem?_getD, List.getElem?_eq_getElem hk]; exact List.getElem_mem _, fun h => ?_⟩
    rw [(mem_tSet hn hk).1 h] at e
    exact absurd e.2 (by simp)
  · rintro ⟨h1, h2⟩
    obtain ⟨k, hk, e⟩ := mem_idx h1
    refine ⟨k, List.mem_range.2 hk, ?_⟩
    rw [Bool.and_eq_true, beq_iff_eq]
    refine ⟨e.symm, ?_⟩
    cases hb : (set / 2 ^ k % 2 == 0) with
    | true => rfl
    | false => exact absurd (by rw [← e]; exact (mem_tSet hn hk).2 hb) h2
theorem firR_eq {C L : List Sp} {H : List Int} (hC : Can C) (hL : Can L) (hn : H.Nodup) (set nn : Nat) : firR H set nn (idleP C L) = castL ((freeL C L H (tSet H set)).take nn) := by
  obtain ⟨h1, h2⟩ := idle_can hC hL
  have he : (idleP C L).filter (fun p => !blkd H set p H.length) = castL (freeL C L H (tSet H set)) := by
    refine asc_eq ((pages_lt h2).filter _) ?_ fun x => ?_
    · unfold castL freeL
      rw [List.pairwise_map]
      exact ((List.pairwise_lt_range (n := 1024)).imp (fun h => by omega)).filter _
    · rw [List.mem_filter, mem_castL]
      unfold idleP
      rw [mem_pagesOf]
      have hm : mem x (combF 3 C L) = true ↔ (0 ≤ x ∧ x < 1024) ∧ mem x C = true ∧ mem x L = false := by
        unfold combF
        rw [if_pos h1, mem_setA]
        unfold combG
        rw [if_neg (by decide), if_neg (by decide)]
        constructor
        · rintro ⟨a, b⟩
          rw [show ((x.toNat : Nat) : Int) = x by omega] at b
          exact ⟨a, by simpa using b⟩
        · rintro ⟨a, b⟩
          refine ⟨a, ?_⟩
          rw [show ((x.toNat : Nat) : Int) = x by omega]
          simpa using b
      rw [hm]
      constructor
      · rintro ⟨⟨a, b⟩, c⟩
        refine ⟨x.toNat, List.mem_filter.2 ⟨List.mem_range.2 (by omega), freeP_iff.2 ?_⟩, by omega⟩
        rw [show ((x.toNat : Nat) : Int) = x by omega]
        refine ⟨b, fun hx => ?_⟩
        by_cases ht : x / 16 ∈ tSet H set
        · exact ht
        · rw [(blkd_iff hn set x).2 ⟨hx, ht⟩] at c; simp at c
      · rintro ⟨p, hp, rfl⟩
        obtain ⟨a, b⟩ := freeP_iff.1 (List.mem_filter.1 hp).2
        refine ⟨⟨by have := freeL_lt hp; omega, a⟩, ?_⟩
        cases hb : blkd H set (p : Int) H.length with
        | false => rfl
        | true => obtain ⟨c, d⟩ := (blkd_iff hn set p).1 hb; exact absurd (b c) d
  unfold firR
  rw [he]
  unfold castL
  rw [List.map_take]
theorem bits_ex (f : Nat → Bool) : ∀ n : Nat, ∃ s, s < 2 ^ n ∧ ∀ k, k < n → (s / 2 ^ k % 2 == 0) = !f k
  | 0 => ⟨0, by simp, by omega⟩
  | n + 1 => by
    obtain ⟨s, hs, hk⟩ := bits_ex f n
    refine ⟨s + (if f n = true then 2 ^ n else 0), by rw [Nat.pow_succ]; split <;> omega, fun k hkn => ?_⟩
    by_cases hk2 : k < n
    · rw [← hk k hk2]
      split
      · obtain ⟨d, rfl⟩ : ∃ d, n = k + 1 + d := ⟨n - (k + 1), by omega⟩
        have e : s + 2 ^ (k + 1 + d) = s + 2 ^ k * (2 * 2 ^ d) := by
          rw [Nat.pow_add, Nat.pow_succ, Nat.mul_assoc]
        rw [e, Nat.add_mul_div_left _ _ (Nat.pow_pos (by decide)), Nat.add_mul_mod_self_left]
      · rw [Nat.add_zero]
    · obtain rfl : k = n := by omega
      split
      · rename_i h
        rw [h, Nat.add_div_right _ (Nat.pow_pos (by decide)), Nat.div_eq_of_lt hs]; rfl
      · rename_i h
        rw [Nat.add_zero, Nat.div_eq_of_lt hs]; simp at h; simp [h]
theorem set_ex {H T : List Int} (hn : H.Nodup) : ∃ s, s < 2 ^ H.length ∧ ∀ g ∈ H, g ∈ tSet H s ↔ g ∈ T := by
  obtain ⟨s, hs, hk⟩ := bits_ex (fun k => decide (H.getD k 0 ∈ T)) H.length
  refine ⟨s, hs, fun g hg => ?_⟩
  obtain ⟨k, hkl, rfl⟩ := mem_idx hg
  rw [mem_tSet hn hkl, hk k hkl]; simp
/-- the loop over all sets -/
theorem best_some (L : List Sp) (H I : List Int) (nn : Nat) (b : List Int) (hb : b.length = nn)
    (h1 : ∀ s, (firR H s nn I).length = nn → firR H s nn I = b ∨ betF L H b (firR H s nn I) = true) : ∀ k : Nat,
    (∀ l, (List.range k).foldl (stepBst L H I nn) none = some l → l.length = nn ∧ ∃ s, firR H s nn I = l) ∧
    ((∃ s, s < k ∧ firR H s nn I = b) → (List.range k).foldl (stepBst L H I nn) none = some b)
  | 0 => ⟨fun l h => by simp at h, fun ⟨s, h, _⟩ => by omega⟩
  | k + 1 => by
    obtain ⟨i1, i2⟩ := best_some L H I nn b hb h1 k
    rw [List.range_succ, List.foldl_append, List.foldl_cons, List.foldl_nil]
    generalize (List.range k).foldl (stepBst L H I nn) none = c at *
    unfold stepBst
    by_cases hl : (firR H k nn I).length = nn
    · cases c with
      | none =>
        rw [if_pos (by simp [hl])]
        refine ⟨fun l h => by cases h; exact ⟨hl, k, rfl⟩, fun ⟨s, hs, e⟩ => ?_⟩
        by_cases hsk : s < k
        · exact absurd (i2 ⟨s, hsk, e⟩) (by simp)
        · obtain rfl : s = k := by omega
          rw [e]
      | some d =>
        obtain ⟨hd, sd, hsd⟩ := i1 d rfl
        cases hbt : betF L H (firR H k nn I) d with
        | true =>
          rw [if_pos (by simp [hl, hbt])]
          refine ⟨fun l h => by cases h; exact ⟨hl, k, rfl⟩, fun ⟨s, hs, e⟩ => ?_⟩
          by_cases hsk : s < k
          · have := i2 ⟨s, hsk, e⟩
            cases this
            rcases h1 k hl with h | h
            · rw [h]
            · rw [betF_asymm h] at hbt; cases hbt
          · obtain rfl : s = k := by omega
            rw [e]
        | false =>
          rw [if_neg (by simp [hbt])]
          refine ⟨i1, fun ⟨s, hs, e⟩ => ?_⟩
          by_cases hsk : s < k
          · exact i2 ⟨s, hsk, e⟩
          · obtain rfl : s = k := by omega
            rw [e] at hbt
            rcases h1 sd (by rw [hsd]; exact hd) with h | h
            · rw [← hsd, h]
            · rw [hsd] at h; rw [h] at hbt; cases hbt
    · rw [if_neg (by simp [hl])]
      refine ⟨i1, fun ⟨s, hs, e⟩ => ?_⟩
      by_cases hsk : s < k
      · exact i2 ⟨s, hsk, e⟩
      · obtain rfl : s = k := by omega
        exact absurd (by rw [e]; exact hb) hl
theorem best_none (L : List Sp) (H I : List Int) (nn : Nat) (h : ∀ s, (firR H s nn I).length ≠ nn) : ∀ k : Nat, (List.range k).foldl (stepBst L H I nn) none = none
  | 0 => rfl
  | k + 1 => by
    rw [List.range_succ, List.foldl_append, best_none L H I nn h k, List.foldl_cons, List.foldl_nil]
    unfold stepBst
    rw [if_neg (by simp [h k])]
end Go.Pol
namespace Go.Pol
open Go
theorem cutH_spec (n : Int) : ∀ (h : Int) (l : List Gp), ∃ m, m ≤ l.length ∧ cutH n h l = l.take m ∧ (∀ j, j < m → h + idleG (l.take j) < n) ∧ (n ≤ h + idleG (l.take m) ∨ m = l.length)
  | h, [] => ⟨0, by simp, rfl, by omega, .inr rfl⟩
  | h, g :: r => by
    by_cases hc : n ≤ h
    · exact ⟨0, by simp, by rw [cutH, if_pos hc]; rfl, by omega, .inl (by simpa [idleG] using hc)⟩
    · obtain ⟨m, h1, h2, h3, h4⟩ := cutH_spec n (h + (16 - g.2.2.1)) r
      have e : ∀ j, idleG ((g :: r).take (j + 1)) = (16 - g.2.2.1) + idleG (r.take j) := fun j => by simp [idleG]
      refine ⟨m + 1, by simp; omega, by rw [cutH, if_neg hc, h2, List.take_succ_cons], fun j hj => ?_, ?_⟩
      · cases j with
        | zero => simp [idleG]; omega
        | succ j => rw [e j]; have := h3 j (by omega); omega
      · rw [e m]
        rcases h4 with h4 | h4
        · left; omega
        · right; simp [h4]
theorem sub_le {f : Int → Int} (hf : ∀ x, 0 ≤ f x) {s os : List Int} (h : s.Sublist os) : sumF f s ≤ sumF f os := by
  induction h with
  | slnil => exact Int.le_refl _
  | cons a _ ih => rw [sumF_cons]; have := hf a; omega
  | cons_cons a _ ih => rw [sumF_cons, sumF_cons]; omega
theorem ones_setA (l : List Nat) : setOf (onesF l) = setA (inL (castL l)) := by
  unfold setOf
  congr 1
  funext k
  rw [Bool.eq_iff_iff]
  unfold mem inL onesF
  rw [List.any_eq_true, decide_eq_true_eq, mem_castL]
  constructor
  · rintro ⟨x, hx, h⟩
    obtain ⟨p, hp, rfl⟩ := List.mem_map.1 hx
    refine ⟨p, hp, ?_⟩
    simp only [Bool.and_eq_true, decide_eq_true_eq] at h
    omega
  · rintro ⟨p, hp, e⟩
    refine ⟨((p : Int), 1), List.mem_map.2 ⟨p, hp, rfl⟩, ?_⟩
    simp only [Bool.and_eq_true, decide_eq_true_eq]
    omega
/-- the order in which the program takes the huge groups -/
def OrdOk (C L : List Sp) (H : List Int) (ord : List Gp) : Prop := ord.Perm ((gsH C L H).filter hugeP) ∧ ord.Pairwise (fun a b => ltX b a = false)
theorem choose_law {C L : List Sp} {H : List Int} (n : Int) (ord : List Gp) (ho : chkH C L H = 0 → OrdOk C L H ord) : chooseA C L H n ord = rchooseA C L H n := by
  by_cases hz : chkH C L H = 0
  case neg => simp [chooseA, rchooseA, hz]
  by_cases hn : n < 0 ∨ 1024 < n
  case pos => simp [chooseA, rchooseA, hz, hn]
  obtain ⟨hp, hs⟩ := ho hz
  obtain ⟨canC, canL, hin, hsub, hok⟩ := chkH_zero.1 hz
  have hnH : H.Nodup := (hugOk_lt hok).imp (fun h => by omega)
  rw [gsH_huge hz] at hp
  obtain ⟨nn, rfl⟩ : ∃ nn : Nat, n = (nn : Int) := ⟨n.toNat, by omega⟩
  have hlive : ∀ x ∈ ord, x.2.2.1 = grpF L x.1 := fun x hx => by
    obtain ⟨g, _, rfl⟩ := List.mem_map.1 (hp.mem_iff.1 hx); rfl
  obtain ⟨os, hos⟩ : ∃ os, ord.map (·.1) = os := ⟨_, rfl⟩
  have hperm : os.Perm H := by
    have := hp.map (·.1)
    rw [List.map_map, hos] at this
    have e : H.map ((fun x : Gp => x.1) ∘ fun g => (g, grpF C g, grpF L g, true)) = H := by
      rw [show ((fun x : Gp => x.1) ∘ fun g => (g, grpF C g, grpF L g, true)) = id from rfl, List.map_id]
    rw [e] at this; exact this
  have hon : os.Nodup := hperm.nodup_iff.2 hnH
  have hord : os.Pairwise (ltG (grpF L)) := by
    rw [← hos, List.pairwise_map]
    have hne : ord.Pairwise (fun a b => a.1 ≠ b.1) := by
      have := hon
      rw [← hos] at this
      exact List.pairwise_map.1 this
    refine List.Pairwise.imp_of_mem ?_ (hs.and hne)
    intro a b ha hb h
    obtain ⟨h1, h2⟩ := h
    have la := hlive a ha
    have lb := hlive b hb
    simp only [ltX, Bool.or_eq_false_iff, Bool.and_eq_false_iff, decide_eq_false_iff_not] at h1
    unfold ltG
    rw [← la, ← lb]
    omega
  have hidle : ∀ j, idleG (ord.take j) = sumF (fun g => 16 - grpF L g) (os.take j) := fun j => by
    rw [← hos, ← List.map_take]
    unfold idleG sumF
    rw [List.map_map]
    exact congrArg List.sum (List.map_congr_left fun x hx => by
      show 16 - x.2.2.1 = 16 - grpF L x.1
      rw [hlive x (List.mem_of_mem_take hx)])
  obtain ⟨m, m1, m2, m3, m4⟩ := cutH_spec (nn : Int) (haveF (gsH C L H)) ord
  have hnum : numsF (cutH (nn : Int) (haveF (gsH C L H)) ord) = os.take m := by
    rw [m2, ← hos, ← List.map_take]; rfl
  have hol : os.length = ord.length := by rw [← hos, List.length_map]
  have hcA : chooseA C L H (nn : Int) ord = if haveF (gsH C L H) + sumF (fun g => 16 - grpF L g) (os.take m) < nn then ([], 4) else (setA (inL (castL ((freeL C L H (os.take m)).take nn))), 0) := by
    unfold chooseA
    rw [if_neg (by simp [hz]), if_neg hn, hnum, m2, hidle m, ones_setA]
    rfl
  have hcB : rchooseA C L H (nn : Int) = bestE (bestL C L H nn (2 ^ H.length)) := by
    unfold rchooseA
    rw [if_neg (by simp [hz]), if_neg hn]; rfl
  rw [hcA, hcB]
  have hfir := fun s => firR_eq canC canL hnH s nn
  have htH : ∀ s g, g ∈ tSet H s → g ∈ H := fun s g hg => (List.mem_filter.1 hg).1
  by_cases hlt : haveF (gsH C L H) + sumF (fun g => 16 - grpF L g) (os.take m) < nn
  · rw [if_pos hlt]
    have hm : m = os.length := by
      rcases m4 with h | h
      · rw [hidle m] at h; omega
      · rw [hol]; exact h
    rw [hm, List.take_length] at hlt
    have hnone : bestL C L H nn (2 ^ H.length) = none := by
      refine best_none L H (idleP C L) nn (fun s hlen => ?_) _
      rw [hfir s, castL_len, List.length_take] at hlen
      have h1 := free_len hz (T := tSet H s) (hnH.filter _) (htH s)
      have hq : (os.filter fun x => decide (x ∈ tSet H s)).Perm (tSet H s) := perm_of_mem (hon.filter _) (hnH.filter _) fun x => by
        rw [List.mem_filter, decide_eq_true_eq]
        exact ⟨fun h => h.2, fun h => ⟨hperm.mem_iff.2 (htH s x h), h⟩⟩
      have h2 := sub_le (f := fun g => 16 - grpF L g) (fun x => by have := grpF_bound L x; omega) (List.filter_sublist (l := os) (p := fun x => decide (x ∈ tSet H s)))
      rw [sumF_perm hq] at h2
      omega
    rw [hnone]; rfl
  · rw [if_neg hlt]
    have hG : Gr C L H os nn m := ⟨hz, hperm, hord, by omega, by omega, fun j hj => by rw [← hidle j]; exact m3 j hj⟩
    have hb := best_some L H (idleP C L) nn (castL ((freeL C L H (os.take m)).take nn)) (by rw [castL_len]; exact hG.len) (fun s hlen => by
      rw [hfir s] at hlen ⊢
      rw [castL_len] at hlen
      rcases hG.best (T := tSet H s) hlen with h | h
      · left; rw [h]
      · right; exact h) (2 ^ H.length)
    obtain ⟨s, hs1, hs2⟩ := set_ex (T := os.take m) hnH
    have := hb.2 ⟨s, hs1, by rw [hfir s, freeL_congr hs2]⟩
    unfold bestL
    rw [this]; rfl
theorem ord_ok {C L : List Sp} {H : List Int} : OrdOk C L H (Sort.insertionSort Go.Proofs.YtefnnfcfigcikaaGreat.ltL ((gsH C L H).filter hugeP).toArray 0 ((gsH C L H).filter hugeP).length).toList := by
  refine insSort_X _ (List.Pairwise.filter _ ?_)
  rw [gsH_map, List.pairwise_map]
  exact grps_lt
end Go.Pol
namespace Go.Pol
open Go
/-- fewer live pages, or as many and no greater number -/
def LeX (x y : Gp) : Prop := x.2.2.1 < y.2.2.1 ∨ (x.2.2.1 = y.2.2.1 ∧ x.1 ≤ y.1)
theorem LeX.trans {x y z : Gp} (h : LeX x y) (k : LeX y z) : LeX x z := by unfold LeX at *; omega
theorem leX_iff {x y : Gp} : LeX x y ↔ ltX y x = false := by
  simp only [LeX, ltX, Bool.or_eq_false_iff, Bool.and_eq_false_iff, decide_eq_false_iff_not]
  omega
/-- as many live pages: in the order of their numbers -/
def TieX (x y : Gp) : Prop := x.2.2.1 = y.2.2.1 → x.1 ≤ y.1
theorem LeX.tie {x y : Gp} (h : LeX x y) : TieX x y := by unfold LeX at h; unfold TieX; omega
/-- an exchange -/
def sw (l : List Gp) (p q : Nat) : List Gp := (l.set p (l.getD q gp0)).set q (l.getD p gp0)
theorem sw_len (l : List Gp) (p q : Nat) : (sw l p q).length = l.length := by simp [sw]
theorem getD_sw {l : List Gp} {p q : Nat} (hp : p < l.length) (hq : q < l.length) (i : Nat) : (sw l p q).getD i gp0 = if i = q then l.getD p gp0 else if i = p then l.getD q gp0 else l.getD i gp0 := by
  unfold sw
  simp only [List.getD_eq_getElem?_getD, List.getElem?_set, List.length_set]
  by_cases h1 : q = i
  · subst h1; simp [hq]
  · rw [if_neg h1, if_neg (Ne.symm h1)]
    by_cases h2 : p = i
    · subst h2; simp [hp]
    · rw [if_neg h2, if_neg (Ne.symm h2)]
theorem ext_getD {a b : List Gp} (hl : a.length = b.length) (h : ∀ i, i < a.length → a.getD i gp0 = b.getD i gp0) : a = b := by
  apply List.ext_getElem hl
  intro i h1 h2
  have := h i h1
  rwa [List.getD_eq_getElem?_getD, List.getD_eq_getElem?_getD, List.getElem?_eq_getElem h1, List.getElem?_eq_getElem h2] at this
theorem getD_app (a b : List Gp) (i : Nat) : (a ++ b).getD i gp0 = if i < a.length then a.getD i gp0 else b.getD (i - a.length) gp0 := by
  simp only [List.getD_eq_getElem?_getD, List.getElem?_append]
  split <;> rfl
/-- exchanges, from below on -/
def swpL (a b : Nat) : Nat → List Gp → List Gp
  | 0, l => l
  | k + 1, l => sw (swpL a b k l) (a + k) (b + k)
theorem swpL_len (a b : Nat) : ∀ (k : Nat) (l : List Gp), (swpL a b k l).length = l.length
  | 0, _ => rfl
  | k + 1, l => by rw [swpL, sw_len, swpL_len a b k l]
theorem swpL_getD {a b : Nat} {l : List Gp} : ∀ {k : Nat}, a + k ≤ b → b + k ≤ l.length → ∀ i, (swpL a b k l).getD i gp0 =
    if a ≤ i ∧ i < a + k then l.getD (i - a + b) gp0 else if b ≤ i ∧ i < b + k then l.getD (i - b + a) gp0 else l.getD i gp0
  | 0, _, _, i => by rw [swpL, if_neg (by omega), if_neg (by omega)]
  | k + 1, h1, h2, i => by
    rw [swpL, getD_sw (by rw [swpL_len]; omega) (by rw [swpL_len]; omega), swpL_getD (by omega) (by omega), swpL_getD (by omega) (by omega), swpL_getD (by omega) (by omega)]
    by_cases e1 : i = b + k
    · subst e1
      rw [if_pos rfl, if_neg (by omega), if_neg (by omega), if_neg (by omega), if_pos (by omega)]
      congr 1; omega
    · rw [if_neg e1]
      by_cases e2 : i = a + k
      · subst e2
        rw [if_pos rfl, if_neg (by omega), if_neg (by omega), if_pos (by omega)]
        congr 1; omega
      · rw [if_neg e2]
        by_cases e3 : a ≤ i ∧ i < a + k
        · rw [if_pos e3, if_pos (by omega)]
        · rw [if_neg e3, if_neg (show ¬ (a ≤ i ∧ i < a + (k + 1)) by omega)]
          by_cases e4 : b ≤ i ∧ i < b + k
          · rw [if_pos e4, if_pos (by omega)]
          · rw [if_neg e4, if_neg (show ¬ (b ≤ i ∧ i < b + (k + 1)) by omega)]
/-- two runs of one length change places -/
theorem swpL_app (P A M B S : List Gp) (h : A.length = B.length) : swpL P.length (P.length + A.length + M.length) A.length (P ++ (A ++ (M ++ (B ++ S)))) = P ++ (B ++ (M ++ (A ++ S))) := by
  apply ext_getD
  · rw [swpL_len]; simp; omega
  intro i _
  rw [swpL_getD (by omega) (by simp; omega)]
  simp only [getD_app]
  by_cases h1 : i < P.length
  · rw [if_neg (by omega), if_neg (by omega), if_pos h1, if_pos h1]
  · by_cases h2 : i < P.length + A.length
    · rw [if_pos (by omega), if_neg (by omega), if_neg (by omega), if_neg (by omega), if_pos (by omega), if_neg h1, if_pos (by omega)]
      congr 1; omega
    · by_cases h3 : i < P.length + A.length + M.length
      · rw [if_neg (by omega), if_neg (by omega), if_neg h1, if_neg (by omega), if_pos (by omega), if_neg h1, if_neg (by omega), if_pos (by omega)]
        congr 1; omega
      · by_cases h4 : i < P.length + A.length + M.length + B.length
        · rw [if_neg (by omega), if_pos (by omega), if_neg (by omega), if_pos (by omega), if_neg h1, if_neg (by omega), if_neg (by omega), if_pos (by omega)]
          congr 1; omega
        · rw [if_neg (by omega), if_neg (by omega), if_neg h1, if_neg (by omega), if_neg (by omega), if_neg (by omega), if_neg h1, if_neg (by omega), if_neg (by omega), if_neg (by omega)]
          congr 1; omega
/-- what a rotation has in its hands: the list now, and the list that it shall be -/
def RotS (i j p : Nat) (cur tgt : List Gp) : Prop := ∃ P U V S, P.length = p ∧ U.length = i ∧ V.length = j ∧ cur = P ++ (U ++ (V ++ S)) ∧ tgt = P ++ (V ++ (U ++ S))
theorem RotS.len {i j p : Nat} {cur tgt : List Gp} (h : RotS i j p cur tgt) : p + i + j ≤ cur.length := by
  obtain ⟨P, U, V, S, h1, h2, h3, h4, _⟩ := h
  rw [h4]; simp; omega
theorem RotS.gtr {i j p : Nat} {cur tgt : List Gp} (h : RotS i j p cur tgt) (hij : j < i) : RotS (i - j) j (p + j) (swpL p (p + i) j cur) tgt := by
  obtain ⟨P, U, V, S, h1, h2, h3, h4, h5⟩ := h
  have hU : U = U.take j ++ U.drop j := (List.take_append_drop j U).symm
  refine ⟨P ++ V, U.drop j, U.take j, S, by simp; omega, by simp; omega, by simp; omega, ?_, ?_⟩
  · have := swpL_app P (U.take j) (U.drop j) V S (by simp; omega)
    have e1 : (U.take j).length = j := by simp; omega
    have e2 : (U.drop j).length = i - j := by simp; omega
    rw [e1, e2, h1] at this
    rw [h4]
    rw [show p + j + (i - j) = p + i by omega] at this
    rw [show P ++ (U ++ (V ++ S)) = P ++ (U.take j ++ (U.drop j ++ (V ++ S))) by rw [← List.append_assoc (U.take j), ← hU], this]
    simp
  · rw [h5, List.append_assoc, ← List.append_assoc (U.take j), ← hU]
theorem RotS.lss {i j p : Nat} {cur tgt : List Gp} (h : RotS i j p cur tgt) (hij : i < j) : RotS i (j - i) p (swpL p (p + j) i cur) tgt := by
  obtain ⟨P, U, V, S, h1, h2, h3, h4, h5⟩ := h
  have hV : V = V.take (j - i) ++ V.drop (j - i) := (List.take_append_drop (j - i) V).symm
  refine ⟨P, V.drop (j - i), V.take (j - i), U ++ S, h1, by simp; omega, by simp; omega, ?_, ?_⟩
  · have := swpL_app P U (V.take (j - i)) (V.drop (j - i)) S (by simp; omega)
    have e1 : (V.take (j - i)).length = j - i := by simp; omega
    rw [e1, h1, h2] at this
    rw [h4]
    rw [show p + i + (j - i) = p + j by omega] at this
    rw [show P ++ (U ++ (V ++ S)) = P ++ (U ++ (V.take (j - i) ++ (V.drop (j - i) ++ S))) by rw [← List.append_assoc (V.take (j - i)), ← hV], this]
  · rw [h5, ← List.append_assoc (V.take (j - i)), ← hV]
theorem RotS.eql {i p : Nat} {cur tgt : List Gp} (h : RotS i i p cur tgt) : swpL p (p + i) i cur = tgt := by
  obtain ⟨P, U, V, S, h1, h2, h3, h4, h5⟩ := h
  have := swpL_app P U [] V S (by omega)
  rw [h1, h2] at this
  simpa [h4, h5] using this
/-- one element on its way up through a run -/
def upL (P : List Gp) (x : Gp) (U S : List Gp) (k : Nat) : List Gp := P ++ (U.take k ++ (x :: (U.drop k ++ S)))
theorem upL_len (P : List Gp) (x : Gp) (U S : List Gp) (k : Nat) : (upL P x U S k).length = P.length + U.length + 1 + S.length := by
  simp [upL]; omega
theorem sw_at (A : List Gp) (x y : Gp) (B : List Gp) : sw (A ++ x :: y :: B) A.length (A.length + 1) = A ++ y :: x :: B := by
  unfold sw
  simp [List.getD_eq_getElem?_getD]
theorem sw_at' (A : List Gp) (x y : Gp) (B : List Gp) : sw (A ++ x :: y :: B) (A.length + 1) A.length = A ++ y :: x :: B := by
  unfold sw
  simp [List.getD_eq_getElem?_getD]
theorem upL_succ (P : List Gp) (x : Gp) (U S : List Gp) {k : Nat} (hk : k < U.length) : sw (upL P x U S k) (P.length + k) (P.length + k + 1) = upL P x U S (k + 1) := by
  have e1 : U.drop k = U[k] :: U.drop (k + 1) := List.drop_eq_getElem_cons hk
  have e2 : U.take (k + 1) = U.take k ++ [U[k]] := by rw [List.take_add_one, List.getElem?_eq_getElem hk]; rfl
  have := sw_at (P ++ U.take k) x U[k] (U.drop (k + 1) ++ S)
  unfold upL
  rw [e1, e2]
  have hl : (P ++ U.take k).length = P.length + k := by simp; omega
  rw [hl] at this
  simpa only [List.append_assoc, List.cons_append, List.singleton_append, List.nil_append] using this
theorem upL_pred (P : List Gp) (x : Gp) (U S : List Gp) {k : Nat} (hk : k < U.length) : sw (upL P x U S (k + 1)) (P.length + k + 1) (P.length + k) = upL P x U S k := by
  have e1 : U.drop k = U[k] :: U.drop (k + 1) := List.drop_eq_getElem_cons hk
  have e2 : U.take (k + 1) = U.take k ++ [U[k]] := by rw [List.take_add_one, List.getElem?_eq_getElem hk]; rfl
  have := sw_at' (P ++ U.take k) U[k] x (U.drop (k + 1) ++ S)
  unfold upL
  rw [e1, e2]
  have hl : (P ++ U.take k).length = P.length + k := by simp; omega
  rw [hl] at this
  simpa only [List.append_assoc, List.cons_append, List.singleton_append, List.nil_append] using this
end Go.Pol
