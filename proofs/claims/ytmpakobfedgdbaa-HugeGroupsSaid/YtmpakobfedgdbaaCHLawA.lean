/- The law HugeGroups: Check, Groups and Score of the program and of the reference answer alike, whatever the state (of at most 520 spans each, and 70 huge groups) and the number of live pages, and the examples of the document hold. -/
import Derived.Test.YtmpakobfedgdbaaC6
namespace Go.Proofs.Ytmpakobfedgdbaa
open Go Go.Proofs Go.RowKit Go.Pol Go.ChangeShapes Go.WideShapes Go.Deep
attribute [local go_sem] Oper.semAt_some Go.Pol.wide_fn Go.Pol.wide_depth Go.Pol.wide_fn' Go.Pol.wide_depth'

set_option maxRecDepth 100000 in
set_option maxHeartbeats 3200000 in
theorem groupsLaw_any (A1 A2 A3 : Option Addr) (n1 c1 n2 c2 n3 c3 : Nat) (C L : List Sp) (H : List Int) (least : Int) (w : World) (h1 : C.length = n1) (h2 : n1 ≤ maxLen) (h3 : RU w w.heap.size A1 C)
    (h4 : L.length = n2) (h5 : n2 ≤ maxLen) (h6 : RU w w.heap.size A2 L) (h7 : H.length = n3) (h8 : n3 ≤ maxLen) (h9 : RI w w.heap.size A3 H) :
    Calls Try.prog 6 #[.agg #[.slice A1 n1 c1, .slice A2 n2 c2, .slice A3 n3 c3], .int .i64 least] w fun e w' => e = .returned (.bool true) ∧ Below w.heap.size w w' := by
  have hst : StIs w (.agg #[.slice A1 n1 c1, .slice A2 n2 c2, .slice A3 n3 c3]) C L H := ⟨A1, A2, A3, n1, c1, n2, c2, n3, c3, rfl, h1, h2, h3, h4, h5, h6, h7, h8, h9⟩
  have hb0 := (Below.refl w.heap.size w).alloc (Nat.le_refl _) (.cells #[.slice A1 n1 c1, .slice A2 n2 c2, .slice A3 n3 c3] 25)
  have k0 := Blk.new w 25 #[.slice A1 n1 c1, .slice A2 n2 c2, .slice A3 n3 c3]
  have s0 := hst.on hb0
  have c0 := k0.cell
  have HF := Lib.hid (fun W => far13_any A1 A2 A3 n1 c1 n2 c2 n3 c3 70 W)
  have T1 := Lib.hid (fun W (h : StIs W (.agg #[.slice A1 n1 c1, .slice A2 n2 c2, .slice A3 n3 c3]) C L H) => groups_any _ C L H least W h)
  have T2 := Lib.hid (fun W (h : StIs W (.agg #[.slice A1 n1 c1, .slice A2 n2 c2, .slice A3 n3 c3]) C L H) => rgroups13_any _ C L H least W h)
  have T3 := Lib.hid (fun W (h : StIs W (.agg #[.slice A1 n1 c1, .slice A2 n2 c2, .slice A3 n3 c3]) C L H) => score_any _ C L H W h)
  have T4 := Lib.hid (fun W (h : StIs W (.agg #[.slice A1 n1 c1, .slice A2 n2 c2, .slice A3 n3 c3]) C L H) => rscore13_any _ C L H W h)
  have T5 := Lib.hid (fun W (h : StIs W (.agg #[.slice A1 n1 c1, .slice A2 n2 c2, .slice A3 n3 c3]) C L H) => check13_any _ C L H W h)
  have T6 := Lib.hid (fun W (h : StIs W (.agg #[.slice A1 n1 c1, .slice A2 n2 c2, .slice A3 n3 c3]) C L H) => rcheck13_any _ C L H W h)
  have hgl : (groupsA C L H least).1.length ≤ 64 := by
    unfold groupsA
    split
    · simp
    · split
      · simp
      · rw [← groupsN_eq]; exact groupsN_len _ _ _ _ _
  generalize groupsA C L H least = G at *
  generalize scoreA C L H = R at *
  generalize chkH C L H = er at *
  obtain ⟨gl, ge⟩ := G
  obtain ⟨r1, r2, r3, r4⟩ := R
  simp only at T3 T4 hgl
  unfold IntsE at T1 T2
  simp only at T1 T2
  have hgl' := Lib.hid hgl
  obtain ⟨m, hm⟩ : ∃ m, gl.length = m := ⟨_, rfl⟩
  rw [hm] at T1 T2 hgl
  have hm' := Lib.hid hm
  have x1 : (er == er) = true := by simp
  have x2 : (ge == ge) = true := by simp
  have x3 : (r1 == r1) = true := by simp
  have x4 : (r2 == r2) = true := by simp
  have x5 : (r3 == r3) = true := by simp
  have x6 : (r4 == r4) = true := by simp
  clear hst h1 h2 h3 h4 h5 h6 h7 h8 h9 hm
  cases hfar : farP n1 n2 n3 70 with
  | true =>
    rw [hfar] at HF
    clear T1 T2 T3 T4 T5 T6 hfar
    go_enter Try.func6, Try.ntmps6
    go_wp2_with fail
    refine (HF.out _).mono ?_
    rintro e w1 ⟨rfl, hb1⟩
    have B1 := hb0.trans (hb1.mono hb0.size)
    go_wp2_with fail
    refine (awake13_any _).mono ?_
    rintro e w2 ⟨rfl, hb2⟩
    go_wp2_with fail
    go_ret
    exact ⟨rfl, B1.trans (hb2.mono B1.size)⟩
  | false =>
    rw [hfar] at HF
    clear hfar
    go_enter Try.func6, Try.ntmps6
    go_wp2_with fail
    refine (HF.out _).mono ?_
    rintro e w1 ⟨rfl, hb1⟩
    have B1 := hb0.trans (hb1.mono hb0.size)
    have k1 := k0.call hb1
    have s1 := s0.on hb1
    have c1 := k1.cell
    clear hb0 hb1 k0 s0 c0
    go_wp2_with fail
    refine (T1.out _ s1).mono ?_
    rintro e w2 ⟨O2, p2, rfl, u2, hb2⟩
    have B2 := B1.trans (hb2.mono B1.size)
    have k2 := k1.call hb2
    have s2 := s1.on hb2
    have c2 := k2.cell
    clear hb2 k1 s1 c1 B1
    go_wp2_with fail
    refine (T2.out _ s2).mono ?_
    rintro e w3 ⟨O3, p3, rfl, u3, hb3⟩
    have B3 := B2.trans (hb3.mono B2.size)
    have k3 := k2.call hb3
    have s3 := s2.on hb3
    have c3 := k3.cell
    have v2 := RI.on u2 hb3
    clear hb3 k2 s2 c2 B2 u2
    go_wp2_with fail
    refine (T3.out _ s3).mono ?_
    rintro e w4 ⟨rfl, hb4⟩
    have B4 := B3.trans (hb4.mono B3.size)
    have k4 := k3.call hb4
    have s4 := s3.on hb4
    have c4 := k4.cell
    have v4 := RI.on v2 hb4
    have y4 := RI.on u3 hb4
    clear hb4 k3 s3 c3 B3 v2 u3
    go_wp2_with fail
    refine (T4.out _ s4).mono ?_
    rintro e w5 ⟨rfl, hb5⟩
    have B5 := B4.trans (hb5.mono B4.size)
    have k5 := k4.call hb5
    have s5 := s4.on hb5
    have v5 := RI.on v4 hb5
    have y5 := RI.on y4 hb5
    clear hb5 k4 s4 c4 B4 v4 y4
    have e5 := fun z : Ext w5 => (z.blk k5).cell
    have G5 := Lib.hid (fun z : Ext w5 => Ext.call (x := z) (T5.out z.w (s5.on z.le)))
    have G6 := Lib.hid (fun z : Ext w5 => Ext.call (x := z) (T6.out z.w (s5.on z.le)))
    have G7 := Lib.hid (fun z : Ext w5 => Ext.call (x := z) (ints13_any O2 O3 m p2 p3 gl z.w hm'.out (by omega) (RI.on v5 z.le) (RI.on y5 z.le)))
    have G8 := Lib.hid (fun z : Ext w5 => Ext.call (x := z) (awake13_any z.w))
    clear s5 v5 y5 T1 T2 T3 T4 T5 T6
    go_upto_region 7 with fail
    refine region_ext (by kernel_rfl) (by kernel_rfl) ?_
    repeat (go_big_quiet_step ((first | (go_at_call 25; exact G5.out _) | (go_at_call 12; exact G6.out _) | (go_at_call 11; exact G7.out _) | (go_at_call 8; exact G8.out _))))
    refine wpQuiet_nil ?_
    rintro w8 ⟨⟨_, hw8⟩, rfl⟩
    go_wp2_with fail
    go_ret
    exact ⟨rfl, B5.trans (hw8.mono B5.size)⟩

set_option maxRecDepth 100000 in
theorem hugeGroups_lifted (os : Os) (started : os.Started) (H : Type) (enc : TypeId × Value → H) :
    ReturnsInHanded {} Try.checked os 6 .any (Rows.hugeGroupsSpec.pre6 enc Try.prog Try.f6 Rows.hugeGroupsRow.domain false) (Rows.hugeGroupsSpec.post enc Try.prog Try.f6 false true false false) := by
  refine returnsInHanded_of_change (C := Try.checked) own_ started (by kernel_rfl) Try.func6
    (ChangeSpec.witness6 (enc := enc) (C := Try.checked) false ⟨#[], #[.agg #[.slice none 0 0, .slice none 0 0, .slice none 0 0], .int .i64 0], []⟩ 8 (by kernel_rfl) (by kernel_rfl) (by kernel_rfl) (by kernel_rfl)) ?_
  intro W base args ds gs before hval0 hW _ _
  have hval : ∀ (j : Nat) t v, Try.f6.params[j]? = some t → args[j]? = some v → Value.okWide Try.prog W .any base t v := hval0
  have hW' := hW
  obtain ⟨p, q, hA0, hV, rfl, _, _⟩ := hW
  have hA : DataW.TrodAll enc Try.prog W 0 (fun _ => true) true Try.f6.params.toList args.toList ds p := hA0
  rw [Try.params6] at hA hval
  obtain ⟨v0, v1, d0, d1, p0, p1, rfl, rfl, rfl, h0, h1⟩ := trodAll_two hA
  obtain ⟨rfl, rfl⟩ := trodVars_none hV
  obtain ⟨A1, A2, A3, n1, c1, n2, c2, n3, c3, C, L, Hu, rfl, a1, a2, a3, b1, b2, b3, e1, e2, e3⟩ := openState (hval 0 25 v0 rfl rfl) h0
  obtain ⟨n, rfl⟩ := okWide_i64 (hval 1 3 v1 rfl rfl)
  simp only [List.append_nil] at hW'
  refine (groupsLaw_any A1 A2 A3 n1 c1 n2 c2 n3 c3 C L Hu n W a1 a2 a3 b1 b2 b3 e1 e2 e3).mono fun e W' ⟨he, hb⟩ => ?_
  subst he
  exact ⟨_, rfl, post_of_below (pv := []) hW' (fun _ _ _ => trodAll_mk1 (shut_bool Try.underlying4 true))
    (fun sp hsp => by rw [Try.params6]; exact trodAll_mk2 (WideElems.Trod_stays laidOut_ (by kernel_rfl) (of_decide_eq_true (by kernel_rfl)) h0 (fun x hx => hb.same (hW'.lt x (by simp [hx]))) (fun x hx => hsp x (by simp [hx]))) (WideElems.Trod_stays laidOut_ (by kernel_rfl) (of_decide_eq_true (by kernel_rfl)) h1 (fun x hx => hb.same (hW'.lt x (by simp [hx]))) (fun x hx => hsp x (by simp [hx]))))
    (fun _ _ => rfl) (by simp) hb (ok_one (by kernel_rfl) rfl (okWide_bool_mk Try.underlying4 true))⟩
theorem hugeGroups_holds : Rows.HugeGroupsSaid :=
  OpenClaim.holds_of_wide 6 Try.f6 rfl rfl rfl rfl rfl rfl rfl ⟨rfl, rfl, rfl, rfl, rfl⟩ rfl rfl rfl rfl rfl (by kernel_rfl) Try.func6 (by kernel_rfl)
    (of_decide_eq_true (by kernel_rfl)) (by unfold Func.isWrapper; rw [if_neg (of_decide_eq_false (by kernel_rfl))]; exact ⟨rfl, rfl⟩)
    (fun os started H enc _ => hugeGroups_lifted os started H enc)
end Go.Proofs.Ytmpakobfedgdbaa
