/- The law HugeChooses: Choose of the program and of the reference answer alike, whatever the state (of at most 520 spans each, and 5 huge groups, or too many) and the number of pages, and the examples of the document hold. -/
import Derived.Test.YtmpakobfedgdbaaC7
namespace Go.Proofs.Ytmpakobfedgdbaa
open Go Go.Proofs Go.RowKit Go.Pol Go.ChangeShapes Go.WideShapes Go.Deep
attribute [local go_sem] Oper.semAt_some Go.Pol.wide_fn Go.Pol.wide_depth Go.Pol.wide_fn' Go.Pol.wide_depth'

theorem chooseErr_any (S : Value) (C L : List Sp) (H : List Int) (n : Int) (w : World) (hS : StIs w S C L H) (hne : chkH C L H ≠ 0) :
    Calls Try.prog 13 #[S, .int .i64 n] w (SpE ([], chkH C L H) w) := by
  obtain ⟨A1, A2, A3, n1, c1, n2, c2, n3, c3, rfl, h1, h2, h3, h4, h5, h6, h7, h8, h9⟩ := hS.ex
  have hb0 := (Below.refl w.heap.size w).alloc (Nat.le_refl _) (.cells #[.slice A1 n1 c1, .slice A2 n2 c2, .slice A3 n3 c3] 25)
  have k0 := Blk.new w 25 #[.slice A1 n1 c1, .slice A2 n2 c2, .slice A3 n3 c3]
  have c0 := k0.cell
  have HO := Lib.hid (open_any A1 A2 A3 n1 c1 n2 c2 n3 c3 C L H _ h1 h2 (h3.on hb0) h4 h5 (h6.on hb0) h7 h8 (RI.on h9 hb0))
  generalize hER : chkH C L H = er at *
  have hER' := Lib.hid hER
  have hne' : (er != 0) = true := by simpa using hne
  have hne2 := Lib.hid hne
  clear h1 h2 h3 h4 h5 h6 h7 h8 h9 hS hER k0 hne
  go_enter Try.func13, Try.ntmps13
  go_wp2_with fail
  refine HO.out.mono ?_
  rintro e w1 ⟨hb1, he, _⟩
  have B1 := hb0.trans (hb1.mono hb0.size)
  rw [hER'.out] at he
  obtain rfl := he hne2.out
  go_wp2_with fail
  go_ret2
  exact SpE.err B1
theorem chooseSame_any (S : Value) (C L : List Sp) (H : List Int) (n : Int) (w : World) (hS : StIs w S C L H) (h5 : chkH C L H = 0 → H.length ≤ 5) :
    Calls Try.prog 13 #[S, .int .i64 n] w (SpE (rchooseA C L H n) w) := by
  by_cases hz : chkH C L H = 0
  · have hlen : ((gsH C L H).filter hugeP).length ≤ 19 := by
      rw [gsH_huge hz, List.length_map]; have := h5 hz; omega
    have ho := ord_ok (C := C) (L := L) (H := H)
    have h := choose_any S C L H n (fun d => Sort.insertionSort ltL d 0 ((gsH C L H).filter hugeP).length) _ w hS (fun _ => stable20 _ hlen) (fun d => insSort_size _ _ _ d) rfl ho.1
    rw [choose_law n _ (fun _ => ho)] at h
    exact h
  · have h := chooseErr_any S C L H n w hS hz
    have e : rchooseA C L H n = ([], chkH C L H) := by simp [rchooseA, hz]
    rw [e]; exact h
set_option maxRecDepth 100000 in
set_option maxHeartbeats 3200000 in
theorem choosesLaw_any (A1 A2 A3 : Option Addr) (n1 c1 n2 c2 n3 c3 : Nat) (C L : List Sp) (H : List Int) (n : Int) (w : World) (h1 : C.length = n1) (h2 : n1 ≤ maxLen) (h3 : RU w w.heap.size A1 C)
    (h4 : L.length = n2) (h5 : n2 ≤ maxLen) (h6 : RU w w.heap.size A2 L) (h7 : H.length = n3) (h8 : n3 ≤ maxLen) (h9 : RI w w.heap.size A3 H) :
    Calls Try.prog 4 #[.agg #[.slice A1 n1 c1, .slice A2 n2 c2, .slice A3 n3 c3], .int .i64 n] w fun e w' => e = .returned (.bool true) ∧ Below w.heap.size w w' := by
  have hst : StIs w (.agg #[.slice A1 n1 c1, .slice A2 n2 c2, .slice A3 n3 c3]) C L H := ⟨A1, A2, A3, n1, c1, n2, c2, n3, c3, rfl, h1, h2, h3, h4, h5, h6, h7, h8, h9⟩
  have hb0 := (Below.refl w.heap.size w).alloc (Nat.le_refl _) (.cells #[.slice A1 n1 c1, .slice A2 n2 c2, .slice A3 n3 c3] 25)
  have k0 := Blk.new w 25 #[.slice A1 n1 c1, .slice A2 n2 c2, .slice A3 n3 c3]
  have s0 := hst.on hb0
  have c0 := k0.cell
  have HF := Lib.hid (fun W => far13_any A1 A2 A3 n1 c1 n2 c2 n3 c3 5 W)
  have T0 := Lib.hid (fun W (h : StIs W (.agg #[.slice A1 n1 c1, .slice A2 n2 c2, .slice A3 n3 c3]) C L H) => rcheck13_any _ C L H W h)
  have T1 := Lib.hid (fun (h5 : chkH C L H = 0 → n3 ≤ 5) W (h : StIs W (.agg #[.slice A1 n1 c1, .slice A2 n2 c2, .slice A3 n3 c3]) C L H) => chooseSame_any _ C L H n W h (fun x => by rw [h7]; exact h5 x))
  have T2 := Lib.hid (fun (h5 : chkH C L H = 0 → n3 ≤ 5) W (h : StIs W (.agg #[.slice A1 n1 c1, .slice A2 n2 c2, .slice A3 n3 c3]) C L H) => rchoose13_any _ C L H n W h (fun x => by rw [h7]; exact h5 x))
  generalize rchooseA C L H n = G at *
  generalize chkH C L H = er at *
  obtain ⟨gl, ge⟩ := G
  unfold SpE at T1 T2
  simp only at T1 T2
  have x2 : (ge == ge) = true := by simp
  obtain ⟨m, hm9⟩ : ∃ m, gl.length = m := ⟨_, rfl⟩
  simp only [hm9] at T1 T2
  have hm' := Lib.hid hm9
  clear hst h1 h2 h3 h4 h5 h6 h7 h8 h9 hm9
  cases hfar : farP n1 n2 n3 5 with
  | true =>
    rw [hfar] at HF
    clear T0 T1 T2 hfar
    go_enter Try.func4, Try.ntmps4
    go_wp2_with fail
    refine (HF.out _).mono ?_
    rintro e w1 ⟨rfl, hb1⟩
    have B1 := hb0.trans (hb1.mono hb0.size)
    go_wp2_with fail
    refine (awake13_any _).mono ?_
    rintro e w2 ⟨rfl, hb2⟩
    go_wp2_with fail
    go_ret
    exact ⟨rfl, B1.trans (hb2.mono B1.size)⟩
  | false =>
    rw [hfar] at HF
    clear hfar
    by_cases hl : 5 < n3
    · have hl' : decide (5 < (n3 : Int)) = true := by rw [decide_eq_true_eq]; omega
      have hl2 : decide (5 < n3) = true := by rw [decide_eq_true_eq]; omega
      by_cases h0 : er = 0
      · subst h0
        clear T1 T2 hl
        go_enter Try.func4, Try.ntmps4
        go_wp2_with fail
        refine (HF.out _).mono ?_
        rintro e w1 ⟨rfl, hb1⟩
        have B1 := hb0.trans (hb1.mono hb0.size)
        have k1 := k0.call hb1
        have s1 := s0.on hb1
        have c1 := k1.cell
        go_wp2_with fail
        refine (T0.out _ s1).mono ?_
        rintro e w2 ⟨rfl, hb2⟩
        have B2 := B1.trans (hb2.mono B1.size)
        go_wp2_with fail
        refine (awake13_any _).mono ?_
        rintro e w3 ⟨rfl, hb3⟩
        go_wp2_with fail
        go_ret
        exact ⟨rfl, B2.trans (hb3.mono B2.size)⟩
      · have h0' : (er == 0) = false := by simpa using h0
        have T1' := Lib.hid (T1.out (fun x => absurd x h0))
        have T2' := Lib.hid (T2.out (fun x => absurd x h0))
        clear T1 T2 hl h0
        go_enter Try.func4, Try.ntmps4
        go_wp2_with fail
        refine (HF.out _).mono ?_
        rintro e w1 ⟨rfl, hb1⟩
        have B1 := hb0.trans (hb1.mono hb0.size)
        have k1 := k0.call hb1
        have s1 := s0.on hb1
        have c1 := k1.cell
        clear hb0 hb1 k0 s0 c0
        go_wp2_with fail
        refine (T0.out _ s1).mono ?_
        rintro e w2 ⟨rfl, hb2⟩
        have B2 := B1.trans (hb2.mono B1.size)
        have k2 := k1.call hb2
        have s2 := s1.on hb2
        have c2 := k2.cell
        clear hb2 k1 s1 c1 B1
        go_wp2_with fail
        refine (T1'.out _ s2).mono ?_
        rintro e w4 ⟨O4, p4, rfl, r4, q1, q2, hb4⟩
        have B4 := B2.trans (hb4.mono B2.size)
        have k4 := k2.call hb4
        have s4 := s2.on hb4
        have c4 := k4.cell
        clear hb4 k2 s2 c2 B2
        go_wp2_with fail
        refine (T2'.out _ s4).mono ?_
        rintro e w5 ⟨O5, p5, rfl, r5, _, _, hb5⟩
        have B5 := B4.trans (hb5.mono B4.size)
        have t4 := r4.on hb5
        clear hb5 k4 s4 c4 B4 r4
        have HI := Lib.hid (sameT_any O4 O5 m p4 p5 gl gl w5 hm'.out (Nat.le_trans q1 q2) rfl t4 r5)
        clear t4 r5 q1 q2
        go_wp2_with fail
        refine HI.out.mono ?_
        rintro e w6 ⟨rfl, hb6⟩
        have B6 := B5.trans (hb6.mono B5.size)
        go_wp2_with fail
        refine (awake13_any _).mono ?_
        rintro e w7 ⟨rfl, hb7⟩
        go_wp2_with fail
        go_ret
        exact ⟨rfl, B6.trans (hb7.mono B6.size)⟩
    · have hl' : decide (5 < (n3 : Int)) = false := by rw [decide_eq_false_iff_not]; omega
      have hl2 : decide (5 < n3) = false := by rw [decide_eq_false_iff_not]; omega
      have T1' := Lib.hid (T1.out (fun _ => by omega))
      have T2' := Lib.hid (T2.out (fun _ => by omega))
      clear T0 T1 T2 hl
      go_enter Try.func4, Try.ntmps4
      go_wp2_with fail
      refine (HF.out _).mono ?_
      rintro e w1 ⟨rfl, hb1⟩
      have B2 := hb0.trans (hb1.mono hb0.size)
      have k2 := k0.call hb1
      have s2 := s0.on hb1
      have c2 := k2.cell
      clear hb0 hb1 k0 s0 c0
      go_wp2_with fail
      refine (T1'.out _ s2).mono ?_
      rintro e w4 ⟨O4, p4, rfl, r4, q1, q2, hb4⟩
      have B4 := B2.trans (hb4.mono B2.size)
      have k4 := k2.call hb4
      have s4 := s2.on hb4
      have c4 := k4.cell
      clear hb4 k2 s2 c2 B2
      go_wp2_with fail
      refine (T2'.out _ s4).mono ?_
      rintro e w5 ⟨O5, p5, rfl, r5, _, _, hb5⟩
      have B5 := B4.trans (hb5.mono B4.size)
      have t4 := r4.on hb5
      clear hb5 k4 s4 c4 B4 r4
      have HI := Lib.hid (sameT_any O4 O5 m p4 p5 gl gl w5 hm'.out (Nat.le_trans q1 q2) rfl t4 r5)
      clear t4 r5 q1 q2
      go_wp2_with fail
      refine HI.out.mono ?_
      rintro e w6 ⟨rfl, hb6⟩
      have B6 := B5.trans (hb6.mono B5.size)
      go_wp2_with fail
      refine (awake13_any _).mono ?_
      rintro e w7 ⟨rfl, hb7⟩
      go_wp2_with fail
      go_ret
      exact ⟨rfl, B6.trans (hb7.mono B6.size)⟩

set_option maxRecDepth 100000 in
theorem hugeChooses_lifted (os : Os) (started : os.Started) (H : Type) (enc : TypeId × Value → H) :
    ReturnsInHanded {} Try.checked os 4 .any (Rows.hugeChoosesSpec.pre6 enc Try.prog Try.f4 Rows.hugeChoosesRow.domain false) (Rows.hugeChoosesSpec.post enc Try.prog Try.f4 false true false false) := by
  refine returnsInHanded_of_change (C := Try.checked) own_ started (by kernel_rfl) Try.func4
    (ChangeSpec.witness6 (enc := enc) (C := Try.checked) false ⟨#[], #[.agg #[.slice none 0 0, .slice none 0 0, .slice none 0 0], .int .i64 0], []⟩ 8 (by kernel_rfl) (by kernel_rfl) (by kernel_rfl) (by kernel_rfl)) ?_
  intro W base args ds gs before hval0 hW _ _
  have hval : ∀ (j : Nat) t v, Try.f4.params[j]? = some t → args[j]? = some v → Value.okWide Try.prog W .any base t v := hval0
  have hW' := hW
  obtain ⟨p, q, hA0, hV, rfl, _, _⟩ := hW
  have hA : DataW.TrodAll enc Try.prog W 0 (fun _ => true) true Try.f4.params.toList args.toList ds p := hA0
  rw [Try.params4] at hA hval
  obtain ⟨v0, v1, d0, d1, p0, p1, rfl, rfl, rfl, h0, h1⟩ := trodAll_two hA
  obtain ⟨rfl, rfl⟩ := trodVars_none hV
  obtain ⟨A1, A2, A3, n1, c1, n2, c2, n3, c3, C, L, Hu, rfl, a1, a2, a3, b1, b2, b3, e1, e2, e3⟩ := openState (hval 0 25 v0 rfl rfl) h0
  obtain ⟨n, rfl⟩ := okWide_i64 (hval 1 3 v1 rfl rfl)
  simp only [List.append_nil] at hW'
  refine (choosesLaw_any A1 A2 A3 n1 c1 n2 c2 n3 c3 C L Hu n W a1 a2 a3 b1 b2 b3 e1 e2 e3).mono fun e W' ⟨he, hb⟩ => ?_
  subst he
  exact ⟨_, rfl, post_of_below (pv := []) hW' (fun _ _ _ => trodAll_mk1 (shut_bool Try.underlying4 true))
    (fun sp hsp => by rw [Try.params4]; exact trodAll_mk2 (WideElems.Trod_stays laidOut_ (by kernel_rfl) (of_decide_eq_true (by kernel_rfl)) h0 (fun x hx => hb.same (hW'.lt x (by simp [hx]))) (fun x hx => hsp x (by simp [hx]))) (WideElems.Trod_stays laidOut_ (by kernel_rfl) (of_decide_eq_true (by kernel_rfl)) h1 (fun x hx => hb.same (hW'.lt x (by simp [hx]))) (fun x hx => hsp x (by simp [hx]))))
    (fun _ _ => rfl) (by simp) hb (ok_one (by kernel_rfl) rfl (okWide_bool_mk Try.underlying4 true))⟩
theorem hugeChooses_holds : Rows.HugeChoosesSaid :=
  OpenClaim.holds_of_wide 4 Try.f4 rfl rfl rfl rfl rfl rfl rfl ⟨rfl, rfl, rfl, rfl, rfl⟩ rfl rfl rfl rfl rfl (by kernel_rfl) Try.func4 (by kernel_rfl)
    (of_decide_eq_true (by kernel_rfl)) (by unfold Func.isWrapper; rw [if_neg (of_decide_eq_false (by kernel_rfl))]; exact ⟨rfl, rfl⟩)
    (fun os started H enc _ => hugeChooses_lifted os started H enc)
end Go.Proofs.Ytmpakobfedgdbaa
