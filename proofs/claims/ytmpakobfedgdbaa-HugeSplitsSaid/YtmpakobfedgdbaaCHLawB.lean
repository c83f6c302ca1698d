/- The law HugeSplits: Split of the program and of the reference answer alike, whatever the state and the pages (of at most 520 spans), and the examples of the document hold. -/
import Derived.Test.YtmpakobfedgdbaaC6
namespace Go.Proofs.Ytmpakobfedgdbaa
open Go Go.Proofs Go.RowKit Go.Pol Go.ChangeShapes Go.WideShapes Go.Deep
attribute [local go_sem] Oper.semAt_some Go.Pol.wide_fn Go.Pol.wide_depth Go.Pol.wide_fn' Go.Pol.wide_depth'

set_option maxRecDepth 100000 in
set_option maxHeartbeats 3200000 in
theorem splitsLaw_any (A1 A2 A3 A : Option Addr) (n1 c1 n2 c2 n3 c3 n cap : Nat) (C L : List Sp) (H : List Int) (ps : List Sp) (w : World) (h1 : C.length = n1) (h2 : n1 ≤ maxLen) (h3 : RU w w.heap.size A1 C)
    (h4 : L.length = n2) (h5 : n2 ≤ maxLen) (h6 : RU w w.heap.size A2 L) (h7 : H.length = n3) (h8 : n3 ≤ maxLen) (h9 : RI w w.heap.size A3 H) (hn : ps.length = n) (hm : n ≤ maxLen) (hr : RU w w.heap.size A ps) :
    Calls Try.prog 3 #[.agg #[.slice A1 n1 c1, .slice A2 n2 c2, .slice A3 n3 c3], .slice A n cap] w fun e w' => e = .returned (.bool true) ∧ Below w.heap.size w w' := by
  have hst : StIs w (.agg #[.slice A1 n1 c1, .slice A2 n2 c2, .slice A3 n3 c3]) C L H := ⟨A1, A2, A3, n1, c1, n2, c2, n3, c3, rfl, h1, h2, h3, h4, h5, h6, h7, h8, h9⟩
  have hb0 := (Below.refl w.heap.size w).alloc (Nat.le_refl _) (.cells #[.slice A1 n1 c1, .slice A2 n2 c2, .slice A3 n3 c3] 25)
  have k0 := Blk.new w 25 #[.slice A1 n1 c1, .slice A2 n2 c2, .slice A3 n3 c3]
  have s0 := hst.on hb0
  have r0 := hr.on hb0
  have c0 := k0.cell
  have HF := Lib.hid (fun W => far13_any A1 A2 A3 n1 c1 n2 c2 n3 c3 70 W)
  have T1 := Lib.hid (fun W (h : StIs W (.agg #[.slice A1 n1 c1, .slice A2 n2 c2, .slice A3 n3 c3]) C L H) hr => split_any _ C L H A n cap ps W h hn hm hr)
  have T2 := Lib.hid (fun W (h : StIs W (.agg #[.slice A1 n1 c1, .slice A2 n2 c2, .slice A3 n3 c3]) C L H) hr => rsplit13_any _ C L H A n cap ps W h hn hm hr)
  rw [split_eq] at T1
  have hgl := splitB_len C L H ps
  generalize splitB C L H ps = G at *
  obtain ⟨gl, ge⟩ := G
  simp only at hgl
  unfold IntsE at T1 T2
  simp only at T1 T2
  obtain ⟨m, hm9⟩ : ∃ m, gl.length = m := ⟨_, rfl⟩
  rw [hm9] at T1 T2 hgl
  have hm' := Lib.hid hm9
  have x2 : (ge == ge) = true := by simp
  clear hst h1 h2 h3 h4 h5 h6 h7 h8 h9 hm9 hn hr
  cases hfar : farP n1 n2 n3 70 with
  | true =>
    rw [hfar] at HF
    clear T1 T2 hfar
    go_enter Try.func3, Try.ntmps3
    go_wp2_with fail
    refine (HF.out _).mono ?_
    rintro e w1 ⟨rfl, hb1⟩
    have B1 := hb0.trans (hb1.mono hb0.size)
    go_wp2_with fail
    refine (awake13_any _).mono ?_
    rintro e w2 ⟨rfl, hb2⟩
    go_wp2_with fail
    go_ret
    exact ⟨rfl, B1.trans (hb2.mono B1.size)⟩
  | false =>
    rw [hfar] at HF
    clear hfar
    by_cases hl : 520 < n
    · have hl' : decide (520 < (n : Int)) = true := by rw [decide_eq_true_eq]; omega
      have hl2 : decide (520 < n) = true := by rw [decide_eq_true_eq]; omega
      clear T1 T2 hl
      go_enter Try.func3, Try.ntmps3
      go_wp2_with fail
      refine (HF.out _).mono ?_
      rintro e w1 ⟨rfl, hb1⟩
      have B1 := hb0.trans (hb1.mono hb0.size)
      go_wp2_with fail
      refine (awake13_any _).mono ?_
      rintro e w2 ⟨rfl, hb2⟩
      go_wp2_with fail
      go_ret
      exact ⟨rfl, B1.trans (hb2.mono B1.size)⟩
    have hl' : decide (520 < (n : Int)) = false := by rw [decide_eq_false_iff_not]; omega
    have hl2 : decide (520 < n) = false := by rw [decide_eq_false_iff_not]; omega
    clear hl
    go_enter Try.func3, Try.ntmps3
    go_wp2_with fail
    refine (HF.out _).mono ?_
    rintro e w1 ⟨rfl, hb1⟩
    have B1 := hb0.trans (hb1.mono hb0.size)
    have k1 := k0.call hb1
    have s1 := s0.on hb1
    have r1 := r0.on hb1
    have c1 := k1.cell
    clear hb0 hb1 k0 s0 c0 r0
    go_wp2_with fail
    refine (T1.out _ s1 r1).mono ?_
    rintro e w2 ⟨O2, p2, rfl, u2, hb2⟩
    have B2 := B1.trans (hb2.mono B1.size)
    have k2 := k1.call hb2
    have s2 := s1.on hb2
    have r2 := r1.on hb2
    have c2 := k2.cell
    clear hb2 k1 s1 c1 B1 r1
    go_wp2_with fail
    refine (T2.out _ s2 r2).mono ?_
    rintro e w3 ⟨O3, p3, rfl, u3, hb3⟩
    have B3 := B2.trans (hb3.mono B2.size)
    have v2 := RI.on u2 hb3
    clear hb3 k2 s2 c2 B2 u2 r2
    have HI := Lib.hid (ints13_any O2 O3 m p2 p3 gl w3 hm'.out (by omega) v2 u3)
    clear v2 u3
    go_wp2_with fail
    refine HI.out.mono ?_
    rintro e w4 ⟨rfl, hb4⟩
    have B4 := B3.trans (hb4.mono B3.size)
    go_wp2_with fail
    refine (awake13_any _).mono ?_
    rintro e w5 ⟨rfl, hb5⟩
    go_wp2_with fail
    go_ret
    exact ⟨rfl, B4.trans (hb5.mono B4.size)⟩

set_option maxRecDepth 100000 in
theorem hugeSplits_lifted (os : Os) (started : os.Started) (H : Type) (enc : TypeId × Value → H) :
    ReturnsInHanded {} Try.checked os 3 .any (Rows.hugeSplitsSpec.pre6 enc Try.prog Try.f3 Rows.hugeSplitsRow.domain false) (Rows.hugeSplitsSpec.post enc Try.prog Try.f3 false true false false) := by
  refine returnsInHanded_of_change (C := Try.checked) own_ started (by kernel_rfl) Try.func3
    (ChangeSpec.witness6 (enc := enc) (C := Try.checked) false ⟨#[], #[.agg #[.slice none 0 0, .slice none 0 0, .slice none 0 0], .slice none 0 0], []⟩ 8 (by kernel_rfl) (by kernel_rfl) (by kernel_rfl) (by kernel_rfl)) ?_
  intro W base args ds gs before hval0 hW _ _
  have hval : ∀ (j : Nat) t v, Try.f3.params[j]? = some t → args[j]? = some v → Value.okWide Try.prog W .any base t v := hval0
  have hW' := hW
  obtain ⟨p, q, hA0, hV, rfl, _, _⟩ := hW
  have hA : DataW.TrodAll enc Try.prog W 0 (fun _ => true) true Try.f3.params.toList args.toList ds p := hA0
  rw [Try.params3] at hA hval
  obtain ⟨v0, v1, d0, d1, p0, p1, rfl, rfl, rfl, h0, h1⟩ := trodAll_two hA
  obtain ⟨rfl, rfl⟩ := trodVars_none hV
  obtain ⟨A1, A2, A3, n1, c1, n2, c2, n3, c3, C, L, Hu, rfl, a1, a2, a3, b1, b2, b3, e1, e2, e3⟩ := openState (hval 0 25 v0 rfl rfl) h0
  obtain ⟨fuel, hf⟩ := h1
  obtain ⟨A, n, cap, us, rfl, g1, g2, g3, _, g4⟩ := openSps hf (hval 1 22 v1 rfl rfl)
  replace h1 : DataW.Trod enc Try.prog W 0 (fun _ => true) true 22 _ d1 p1 := ⟨fuel, hf⟩
  simp only [List.append_nil] at hW'
  refine (splitsLaw_any A1 A2 A3 A n1 c1 n2 c2 n3 c3 n cap C L Hu us W a1 a2 a3 b1 b2 b3 e1 e2 e3 g1 (Nat.le_trans g2 g3) g4).mono fun e W' ⟨he, hb⟩ => ?_
  subst he
  exact ⟨_, rfl, post_of_below (pv := []) hW' (fun _ _ _ => trodAll_mk1 (shut_bool Try.underlying4 true))
    (fun sp hsp => by rw [Try.params3]; exact trodAll_mk2 (WideElems.Trod_stays laidOut_ (by kernel_rfl) (of_decide_eq_true (by kernel_rfl)) h0 (fun x hx => hb.same (hW'.lt x (by simp [hx]))) (fun x hx => hsp x (by simp [hx]))) (WideElems.Trod_stays laidOut_ (by kernel_rfl) (of_decide_eq_true (by kernel_rfl)) h1 (fun x hx => hb.same (hW'.lt x (by simp [hx]))) (fun x hx => hsp x (by simp [hx]))))
    (fun _ _ => rfl) (by simp) hb (ok_one (by kernel_rfl) rfl (okWide_bool_mk Try.underlying4 true))⟩
theorem hugeSplits_holds : Rows.HugeSplitsSaid :=
  OpenClaim.holds_of_wide 3 Try.f3 rfl rfl rfl rfl rfl rfl rfl ⟨rfl, rfl, rfl, rfl, rfl⟩ rfl rfl rfl rfl rfl (by kernel_rfl) Try.func3 (by kernel_rfl)
    (of_decide_eq_true (by kernel_rfl)) (by unfold Func.isWrapper; rw [if_neg (of_decide_eq_false (by kernel_rfl))]; exact ⟨rfl, rfl⟩)
    (fun os started H enc _ => hugeSplits_lifted os started H enc)
end Go.Proofs.Ytmpakobfedgdbaa
