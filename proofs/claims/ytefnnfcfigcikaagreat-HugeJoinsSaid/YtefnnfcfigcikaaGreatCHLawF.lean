/- The law HugeJoins: Join of the program and of the reference do alike, whatever the system (of at most 60 spans, 70 huge groups, 100 bytes and 55 rules), the state and the number of live pages. -/
import Derived.Test.YtefnnfcfigcikaaGreatC9
namespace Go.Pol
open Go Go.RowKit
theorem hjS_len : ∀ (l : List Int) (s : Vm × List Int × Int), (l.foldl hjS s).2.1.length ≤ s.2.1.length + l.length
  | [], _ => Nat.le_refl _
  | x :: r, s => by
    have h := hjS_len r (hjS s x)
    have h2 : (hjS s x).2.1.length ≤ s.2.1.length + 1 := by
      unfold hjS
      simp only
      split
      · simp
      · omega
    rw [List.foldl_cons, List.length_cons]
    omega
end Go.Pol
namespace Go.Proofs.YtefnnfcfigcikaaGreat
open Go Go.Proofs Go.RowKit Go.Pol Go.ChangeShapes Go.WideShapes Go.Deep
attribute [local go_sem] Oper.semAt_some Go.Pol.wide_fn Go.Pol.wide_depth Go.Pol.wide_fn' Go.Pol.wide_depth'

set_option maxRecDepth 100000 in
set_option maxHeartbeats 3200000 in
theorem joinsLaw_any (A1 A2 A3 A4 E1 E2 E3 : Option Addr) (n1 c1 n2 c2 n3 c3 n4 c4 m1 d1 m2 d2 m3 d3 : Nat) (us : List (Int × Int)) (hs : List Int) (ws : List (Int × Int)) (l : List Ru) (C L : List Sp) (H : List Int) (least : Int) (w : World)
    (h1 : us.length = n1) (h2 : hs.length = n2) (h3 : ws.length = n3) (h4 : l.length = n4) (hz : A4 = none → c4 = 0)
    (r1 : RU w w.heap.size A1 us) (r2 : RI w w.heap.size A2 hs) (r3 : Rd w w.heap.size A3 (fl wrC ws)) (r4 : Rd w w.heap.size A4 (fl ruC l))
    (hst : StIs w (.agg #[.slice E1 m1 d1, .slice E2 m2 d2, .slice E3 m3 d3]) C L H) :
    Calls Tryz.prog 5 #[.agg #[.slice A1 n1 c1, .slice A2 n2 c2, .slice A3 n3 c3, .slice A4 n4 c4], .agg #[.slice E1 m1 d1, .slice E2 m2 d2, .slice E3 m3 d3], .int .i64 least] w fun e w' => e = .returned (.bool true) ∧ Below w.heap.size w w' := by
  have hb0 := ((Below.refl w.heap.size w).alloc (Nat.le_refl _) (.cells #[.slice A1 n1 c1, .slice A2 n2 c2, .slice A3 n3 c3, .slice A4 n4 c4] 58)).alloc (by simp) (.cells #[.slice E1 m1 d1, .slice E2 m2 d2, .slice E3 m3 d3] 52)
  have k3 := (Blk.new w 58 #[.slice A1 n1 c1, .slice A2 n2 c2, .slice A3 n3 c3, .slice A4 n4 c4]).alloc (.cells #[.slice E1 m1 d1, .slice E2 m2 d2, .slice E3 m3 d3] 52)
  have k4 := Blk.new (w.alloc (.cells #[.slice A1 n1 c1, .slice A2 n2 c2, .slice A3 n3 c3, .slice A4 n4 c4] 58)) 52 #[.slice E1 m1 d1, .slice E2 m2 d2, .slice E3 m3 d3]
  obtain ⟨s, hsz⟩ : ∃ s, w.heap.size = s := ⟨_, rfl⟩
  rw [World.size_alloc, hsz] at k4
  rw [hsz] at k3
  have q1 := Lib.hid ((r1.below hb0).more hb0.size)
  have q2 := Lib.hid (RI.more (RI.below r2 hb0) hb0.size)
  have q3 := Lib.hid (r3.on_ hb0)
  have q4 := Lib.hid (r4.on_ hb0)
  have S0 := Lib.hid (hst.on hb0)
  have HGr := Lib.hid (fun W => great13_any A1 A2 A3 A4 n1 c1 n2 c2 n3 c3 n4 c4 W)
  have HF := Lib.hid (fun W => far13_any E1 E2 E3 m1 d1 m2 d2 m3 d3 70 W)
  have HA := Lib.hid (fun W => awake13_any W)
  have hm : greatP n1 n2 n3 n4 = false → n1 ≤ 1000 ∧ n2 ≤ 1000 ∧ n3 ≤ 1000 ∧ n4 ≤ 1000 := fun h => by
    unfold greatP at h
    simp only [Bool.or_eq_false_iff, decide_eq_false_iff_not] at h
    omega
  have hm' := Lib.hid hm
  have hlen := Lib.hid (And.intro h1 (And.intro h2 (And.intro h3 (And.intro h4 hz))))
  clear r1 r2 r3 r4 hst hm h1 h2 h3 h4 hz
  cases hg : greatP n1 n2 n3 n4 with
  | true =>
    rw [hg] at HGr
    clear hg hm' HF q1 q2 q3 q4 S0 hlen
    go_enter Tryz.func5, Tryz.ntmps5
    go_upto_region 1 with fail
    generalize (w.alloc _).alloc _ = w0 at *
    try simp only [hsz]
    have c0 := k3.cell
    go_wp2_with fail
    refine (HGr.out _).mono ?_
    rintro e w1 ⟨rfl, hb1⟩
    have B1 := hb0.trans (hb1.mono hb0.size)
    go_wp2_with fail
    refine (HA.out _).mono ?_
    rintro e w2 ⟨rfl, hb2⟩
    go_wp2_with fail
    go_ret
    exact ⟨rfl, B1.trans (hb2.mono B1.size)⟩
  | false =>
    rw [hg] at HGr
    have hmm := Lib.hid (hm'.out hg)
    clear hg hm'
    cases hfar : farP m1 m2 m3 70 with
    | true =>
      rw [hfar] at HF
      clear hfar q1 q2 q3 q4 S0 hmm hlen
      go_enter Tryz.func5, Tryz.ntmps5
      go_upto_region 1 with fail
      generalize (w.alloc _).alloc _ = w0 at *
      try simp only [hsz]
      have c0 := k3.cell
      go_wp2_with fail
      refine (HGr.out _).mono ?_
      rintro e w1 ⟨rfl, hb1⟩
      have B1 := hb0.trans (hb1.mono hb0.size)
      have c1 := (k4.call hb1).cell
      go_wp2_with fail
      refine (HF.out _).mono ?_
      rintro e w2 ⟨rfl, hb2⟩
      have B2 := B1.trans (hb2.mono B1.size)
      go_wp2_with fail
      refine (HA.out _).mono ?_
      rintro e w3 ⟨rfl, hb3⟩
      go_wp2_with fail
      go_ret
      exact ⟨rfl, B2.trans (hb3.mono B2.size)⟩
    | false =>
      rw [hfar] at HF
      clear hfar
      go_enter Tryz.func5, Tryz.ntmps5
      go_upto_region 1 with fail
      generalize (w.alloc _).alloc _ = w0 at *
      try simp only [hsz]
      have c0 := k3.cell
      go_wp2_with fail
      refine (HGr.out _).mono ?_
      rintro e w1 ⟨rfl, hb1⟩
      have c1 := (k4.call hb1).cell
      clear c0
      go_wp2_with fail
      refine (HF.out _).mono ?_
      rintro e w2 ⟨rfl, hb2⟩
      have B2 := hb1.trans (hb2.mono hb1.size)
      clear c1 hb1 hb2 HF HGr
      go_upto_region 3 with fail
      obtain ⟨g1, g2, g3, g4, gz⟩ := hlen.out
      refine joins_first _ _ s A1 A2 A3 A4 n1 c1 n2 c2 n3 c3 n4 c4 us hs ws l (Nat.le_of_ble_eq_true rfl) rfl (k3.call B2) g1 g2 g3 g4 hmm.out gz ((q1.out.below B2).more B2.size) (RI.more (RI.below q2.out B2) B2.size) (q3.out.on_ B2) (q4.out.on_ B2) ?_
      intro b1 b2 w3 hb1 hb12 V1 V2 hb3
      simp only [mpput, Act.put, List.setIfInBounds_toArray, List.set_cons_succ, List.set_cons_zero]
      have B3 := B2.trans (hb3.mono B2.size)
      have hsz2 := B2.size
      have S3 := S0.out.on B3
      have c3 := (k4.call B3).cell
      have hGood := Lib.hid (sysF_good us hs ws l)
      generalize sysF us hs ws l = V at *
      obtain ⟨R, hR⟩ : ∃ R, hjF V (groupsA C L H least) = R := ⟨_, rfl⟩
      have hGR : GoodV R.1 := by rw [← hR]; exact hjF_good hGood.out _
      have HJ := Lib.hid (fun W (h : SysIs W b1 V) (hs : StIs W (.agg #[.slice E1 m1 d1, .slice E2 m2 d2, .slice E3 m3 d3]) C L H) => hjoin_any b1 least _ C L H V W h hGood.out.kinds hs)
      have HR := Lib.hid (fun W (h : RefIs W w2.heap.size b2 V) (hs : StIs W (.agg #[.slice E1 m1 d1, .slice E2 m2 d2, .slice E3 m3 d3]) C L H) => rhjoin_any w2.heap.size b2 least _ C L H V W h hGood.out hs)
      have hlR : R.2.1.length ≤ 64 := by
        rw [← hR]
        have hg64 : (groupsA C L H least).1.length ≤ 64 := by
          unfold groupsA
          split
          · simp
          · split
            · simp
            · rw [← groupsN_eq]; exact groupsN_len C L H least 64
        unfold hjF
        split
        · simp
        · have := hjS_len (groupsA C L H least).1 (V, [], 0)
          simp only [List.length_nil] at this
          omega
      rw [hR] at HJ HR
      unfold JoinO at HJ
      unfold RJoinO at HR
      obtain ⟨V', dl, er⟩ := R
      simp only at HJ HR hGR hlR
      have hGR' := Lib.hid hGR
      clear hR hGood q1 q2 q3 q4 k3 hlen hmm g1 g2 g3 g4 gz hb3 B2 hGR
      go_wp2_with fail
      refine (HJ.out _ V1 S3).mono ?_
      rintro e w4 ⟨A6, p6, rfl, x6, f6, V4, F4⟩
      have B4 := B3.trans (F4.below B3.size (fun k hk e => by omega))
      have S4 := S0.out.on B4
      have c4 := (k4.call B4).cell
      have U4 := V2.far F4 (fun k e => by subst e; omega)
      have hb24 := V2.lt
      clear HJ V1 V2 S3 c3 B3
      go_wp2_with fail
      refine (HR.out _ U4 S4).mono ?_
      rintro e w5 ⟨A7, p7, rfl, x7, f7, U5, F5⟩
      have B5 := B4.trans (F5.below B4.size (fun k hk e => by omega))
      have c5 := (k4.call B5).cell
      obtain ⟨ccs, _, _, _, kb2, _⟩ := U4.ex
      have V5 := V4.far F5 (by show ¬ b1 = b2; omega) (fun _ _ _ _ _ _ g _ _ _ hc hg => hc.elim fun cr hcr => Blk.ne_ hcr kb2 (by decide) hg)
      have x6' := RI.more (F5.ri x6 (fun g o e h => by have := f6 g o e; omega)) F5.size
      have HN := Lib.hid (fun W => hjoinNil_any least E1 E2 E3 m1 d1 m2 d2 m3 d3 W)
      clear HR U4 S4 c4 B4 x6 F5 V4 kb2 F4
      go_wp2_with fail
      refine (HN.out _).mono ?_
      rintro e w6 ⟨rfl, hb6⟩
      have B6 := B5.trans (hb6.mono B5.size)
      have y6 := RI.more (RI.below x6' hb6) hb6.size
      have y7 := RI.more (RI.below x7 hb6) hb6.size
      have V6 := V5.call hb6
      have U6 := U5.call hb6
      obtain ⟨m, hm⟩ : ∃ m, dl.length = m := ⟨_, rfl⟩
      have hm' := Lib.hid hm
      rw [hm] at hlR
      try simp only [hm]
      clear c5 HN x6' x7 V5 U5 B5 hb6 f6 f7
      go_wp2_with fail
      refine (ints13_any A6 A7 m p6 p7 dl w6 hm'.out (by omega) y6 y7).mono ?_
      rintro e w7 ⟨rfl, hb7⟩
      have B7 := B6.trans (hb7.mono B6.size)
      have V7 := V6.call hb7
      have U7 := U6.call hb7
      have e1 : (er == er) = true := by simp
      clear y6 y7 V6 U6 B6 hb7
      go_wp2_with fail
      refine (save_any b1 V' w7 V7).mono ?_
      rintro e w8 ⟨X1, rfl, hX1, hb8⟩
      have B8 := B7.trans (hb8.mono B7.size)
      have U8 := U7.call hb8
      have hrl := (chkR_zero.1 V7.ok.plan).1
      clear V7 U7 B7 hb8
      go_wp2_with fail
      refine (save6_any _ b2 V' w8 U8 hGR'.out).mono ?_
      rintro e w9 ⟨X2, rfl, hX2, hb9⟩
      have B9 := B8.trans (hb9.mono B8.size)
      have hX1' := hX1.on hb9
      clear U8 B8 hb9 hX1
      go_wp2_with fail
      refine (same6_any X1 X2 V' w9 hX1' hX2 (by omega)).mono ?_
      rintro e w10 ⟨rfl, hb10⟩
      have B10 := B9.trans (hb10.mono B9.size)
      go_wp2_with fail
      refine (HA.out _).mono ?_
      rintro e w11 ⟨rfl, hb11⟩
      go_wp2_with fail
      go_ret
      exact ⟨rfl, by rw [hsz]; rw [hsz] at hb0; exact hb0.trans ((B10.trans (hb11.mono B10.size)).mono (by have := hb0.size; omega))⟩

set_option maxRecDepth 100000 in
theorem hugeJoins_lifted (os : Os) (started : os.Started) (H : Type) (enc : TypeId × Value → H) :
    ReturnsInHanded {} Tryz.checked os 5 .any (Rows.hugeJoinsSpec.pre6 enc Tryz.prog Tryz.f5 Rows.hugeJoinsRow.domain false) (Rows.hugeJoinsSpec.post enc Tryz.prog Tryz.f5 false true false false) := by
  refine returnsInHanded_of_change (C := Tryz.checked) own_ started (by kernel_rfl) Tryz.func5
    (ChangeSpec.witness6 (enc := enc) (C := Tryz.checked) false ⟨#[], #[.agg #[.slice none 0 0, .slice none 0 0, .slice none 0 0, .slice none 0 0], .agg #[.slice none 0 0, .slice none 0 0, .slice none 0 0], .int .i64 0], []⟩ 8 (by kernel_rfl) (by kernel_rfl) (by kernel_rfl) (by kernel_rfl)) ?_
  intro W base args ds gs before hval0 hW _ _
  have hval : ∀ (j : Nat) t v, Tryz.f5.params[j]? = some t → args[j]? = some v → Value.okWide Tryz.prog W .any base t v := hval0
  have hW' := hW
  obtain ⟨p, q, hA0, hV, rfl, _, _⟩ := hW
  have hA : DataW.TrodAll enc Tryz.prog W 0 (fun _ => true) true Tryz.f5.params.toList args.toList ds p := hA0
  rw [Tryz.params5] at hA hval
  obtain ⟨v0, v1, v2, d0, d1, d2, p0, p1, p2, rfl, rfl, rfl, h0, h1, h2⟩ := trodAll_three hA
  obtain ⟨rfl, rfl⟩ := trodVars_none hV
  obtain ⟨A1, A2, A3, A4, n1, c1, n2, c2, n3, c3, n4, c4, us, hs, ws, l, rfl, q1, r1, q2, r2, q3, r3, q4, r4, hz⟩ := openMade (hval 0 58 v0 rfl rfl) h0
  obtain ⟨E1, E2, E3, m1, g1, m2, g2, m3, g3, C, L, Hu, rfl, a1, a2, a3, b1, b2, b3, e1, e2, e3⟩ := openState (hval 1 52 v1 rfl rfl) h1
  obtain ⟨least, rfl⟩ := okWide_i64 (hval 2 3 v2 rfl rfl)
  simp only [List.append_nil] at hW'
  refine (joinsLaw_any A1 A2 A3 A4 E1 E2 E3 n1 c1 n2 c2 n3 c3 n4 c4 m1 g1 m2 g2 m3 g3 us hs ws l C L Hu least W q1 q2 q3 q4 hz r1 r2 r3 r4 ⟨E1, E2, E3, m1, g1, m2, g2, m3, g3, rfl, a1, a2, a3, b1, b2, b3, e1, e2, e3⟩).mono fun e W' ⟨he, hb⟩ => ?_
  subst he
  exact ⟨_, rfl, post_of_below (pv := []) hW' (fun _ _ _ => trodAll_mk1 (shut_bool Tryz.underlying4 true))
    (fun sp hsp => by rw [Tryz.params5]; exact trodAll_mk3 (WideElems.Trod_stays laidOut_ (by kernel_rfl) (of_decide_eq_true (by kernel_rfl)) h0 (fun x hx => hb.same (hW'.lt x (by simp [hx]))) (fun x hx => hsp x (by simp [hx]))) (WideElems.Trod_stays laidOut_ (by kernel_rfl) (of_decide_eq_true (by kernel_rfl)) h1 (fun x hx => hb.same (hW'.lt x (by simp [hx]))) (fun x hx => hsp x (by simp [hx]))) (WideElems.Trod_stays laidOut_ (by kernel_rfl) (of_decide_eq_true (by kernel_rfl)) h2 (fun x hx => hb.same (hW'.lt x (by simp [hx]))) (fun x hx => hsp x (by simp [hx]))))
    (fun _ _ => rfl) (by simp) hb (ok_one (by kernel_rfl) rfl (okWide_bool_mk Tryz.underlying4 true))⟩
theorem hugeJoins_holds : Rows.HugeJoinsSaid :=
  OpenClaim.holds_of_wide 5 Tryz.f5 rfl rfl rfl rfl rfl rfl rfl ⟨rfl, rfl, rfl, rfl, rfl⟩ rfl rfl rfl rfl rfl (by kernel_rfl) Tryz.func5 (by kernel_rfl)
    (of_decide_eq_true (by kernel_rfl)) (by unfold Func.isWrapper; rw [if_neg (of_decide_eq_false (by kernel_rfl))]; exact ⟨rfl, rfl⟩)
    (fun os started H enc _ => hugeJoins_lifted os started H enc)
end Go.Proofs.YtefnnfcfigcikaaGreat
