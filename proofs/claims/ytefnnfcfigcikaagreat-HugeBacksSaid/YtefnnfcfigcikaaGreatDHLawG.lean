/- The law HugeBacks: Back of the program and of the reference do alike, whatever the system (of at most 60 spans, 70 huge groups, 100 bytes and 55 rules), the state, and the pages (of at most 520 spans). -/
import Derived.Test.YtefnnfcfigcikaaGreatD9
namespace Go.Pol
open Go Go.RowKit
theorem Far.ruB {T : Nat → Prop} {w w' : World} {B : Nat} {A : Option Addr} {us : List Sp} (h : Far T w w') (hr : RU w B A us) (hT : ∀ g o, A = some ⟨g, o, none⟩ → ¬ T g) : RU w' B A us := fun j hj => by
  obtain ⟨b, o, e, hb, h1, h2⟩ := hr j hj
  exact ⟨b, o, e, hb, h.cell h1 (hT b o e), h.cell h2 (hT b o e)⟩
end Go.Pol
namespace Go.Proofs.YtefnnfcfigcikaaGreat
open Go Go.Proofs Go.RowKit Go.Pol Go.ChangeShapes Go.WideShapes Go.Deep
attribute [local go_sem] Oper.semAt_some Go.Pol.wide_fn Go.Pol.wide_depth Go.Pol.wide_fn' Go.Pol.wide_depth'

set_option maxRecDepth 100000 in
set_option maxHeartbeats 3200000 in
theorem backsLaw_any (A1 A2 A3 A4 E1 E2 E3 A : Option Addr) (n1 c1 n2 c2 n3 c3 n4 c4 m1 d1 m2 d2 m3 d3 np cp : Nat) (us : List (Int × Int)) (hs : List Int) (ws : List (Int × Int)) (l : List Ru) (C L : List Sp) (H : List Int) (ps : List Sp) (w : World)
    (h1 : us.length = n1) (h2 : hs.length = n2) (h3 : ws.length = n3) (h4 : l.length = n4) (hz : A4 = none → c4 = 0)
    (r1 : RU w w.heap.size A1 us) (r2 : RI w w.heap.size A2 hs) (r3 : Rd w w.heap.size A3 (fl wrC ws)) (r4 : Rd w w.heap.size A4 (fl ruC l))
    (hst : StIs w (.agg #[.slice E1 m1 d1, .slice E2 m2 d2, .slice E3 m3 d3]) C L H) (hn : ps.length = np) (hcp : np ≤ cp) (hr : RU w w.heap.size A ps) :
    Calls Tryz.prog 6 #[.agg #[.slice A1 n1 c1, .slice A2 n2 c2, .slice A3 n3 c3, .slice A4 n4 c4], .agg #[.slice E1 m1 d1, .slice E2 m2 d2, .slice E3 m3 d3], .slice A np cp] w fun e w' => e = .returned (.bool true) ∧ Below w.heap.size w w' := by
  have hb0 := ((Below.refl w.heap.size w).alloc (Nat.le_refl _) (.cells #[.slice A1 n1 c1, .slice A2 n2 c2, .slice A3 n3 c3, .slice A4 n4 c4] 58)).alloc (by simp) (.cells #[.slice E1 m1 d1, .slice E2 m2 d2, .slice E3 m3 d3] 52)
  have k3 := (Blk.new w 58 #[.slice A1 n1 c1, .slice A2 n2 c2, .slice A3 n3 c3, .slice A4 n4 c4]).alloc (.cells #[.slice E1 m1 d1, .slice E2 m2 d2, .slice E3 m3 d3] 52)
  have k4 := Blk.new (w.alloc (.cells #[.slice A1 n1 c1, .slice A2 n2 c2, .slice A3 n3 c3, .slice A4 n4 c4] 58)) 52 #[.slice E1 m1 d1, .slice E2 m2 d2, .slice E3 m3 d3]
  obtain ⟨s, hsz⟩ : ∃ s, w.heap.size = s := ⟨_, rfl⟩
  have hAs : ∀ g o, A = some ⟨g, o, none⟩ → 0 < np → g < s := fun g o e h0 => by
    obtain ⟨b', o', e', hb', _⟩ := hr 0 (by omega)
    rw [e] at e'
    cases e'
    omega
  rw [World.size_alloc, hsz] at k4
  rw [hsz] at k3
  have q1 := Lib.hid ((r1.below hb0).more hb0.size)
  have q2 := Lib.hid (RI.more (RI.below r2 hb0) hb0.size)
  have q3 := Lib.hid (r3.on_ hb0)
  have q4 := Lib.hid (r4.on_ hb0)
  have q5 := Lib.hid (hr.on hb0)
  have S0 := Lib.hid (hst.on hb0)
  have HGr := Lib.hid (fun W => great13_any A1 A2 A3 A4 n1 c1 n2 c2 n3 c3 n4 c4 W)
  have HF := Lib.hid (fun W => far13_any E1 E2 E3 m1 d1 m2 d2 m3 d3 70 W)
  have HA := Lib.hid (fun W => awake13_any W)
  have hm : greatP n1 n2 n3 n4 = false → n1 ≤ 1000 ∧ n2 ≤ 1000 ∧ n3 ≤ 1000 ∧ n4 ≤ 1000 := fun h => by
    unfold greatP at h
    simp only [Bool.or_eq_false_iff, decide_eq_false_iff_not] at h
    omega
  have hm' := Lib.hid hm
  have hlen := Lib.hid (And.intro h1 (And.intro h2 (And.intro h3 (And.intro h4 hz))))
  have hn' := Lib.hid hn
  clear r1 r2 r3 r4 hst hm h1 h2 h3 h4 hz hn hr
  cases hg : greatP n1 n2 n3 n4 with
  | true =>
    rw [hg] at HGr
    clear hg hm' HF q1 q2 q3 q4 q5 S0 hlen
    go_enter Tryz.func6, Tryz.ntmps6
    go_upto_region 1 with fail
    generalize (w.alloc _).alloc _ = w0 at *
    try simp only [hsz]
    have c0 := k3.cell
    go_wp2_with fail
    refine (HGr.out _).mono ?_
    rintro e w1 ⟨rfl, hb1⟩
    have B1 := hb0.trans (hb1.mono hb0.size)
    go_wp2_with fail
    refine (HA.out _).mono ?_
    rintro e w2 ⟨rfl, hb2⟩
    go_wp2_with fail
    go_ret
    exact ⟨rfl, B1.trans (hb2.mono B1.size)⟩
  | false =>
    rw [hg] at HGr
    have hmm := Lib.hid (hm'.out hg)
    clear hg hm'
    cases hfar : farP m1 m2 m3 70 with
    | true =>
      rw [hfar] at HF
      clear hfar q1 q2 q3 q4 q5 S0 hmm hlen
      go_enter Tryz.func6, Tryz.ntmps6
      go_upto_region 1 with fail
      generalize (w.alloc _).alloc _ = w0 at *
      try simp only [hsz]
      have c0 := k3.cell
      go_wp2_with fail
      refine (HGr.out _).mono ?_
      rintro e w1 ⟨rfl, hb1⟩
      have B1 := hb0.trans (hb1.mono hb0.size)
      have c1 := (k4.call hb1).cell
      go_wp2_with fail
      refine (HF.out _).mono ?_
      rintro e w2 ⟨rfl, hb2⟩
      have B2 := B1.trans (hb2.mono B1.size)
      go_wp2_with fail
      refine (HA.out _).mono ?_
      rintro e w3 ⟨rfl, hb3⟩
      go_wp2_with fail
      go_ret
      exact ⟨rfl, B2.trans (hb3.mono B2.size)⟩
    | false =>
      rw [hfar] at HF
      clear hfar
      by_cases hl : 520 < np
      · have hl' : decide (520 < (np : Int)) = true := by rw [decide_eq_true_eq]; omega
        have hl2 : decide (520 < np) = true := by rw [decide_eq_true_eq]; omega
        clear hl q1 q2 q3 q4 q5 S0 hmm hlen
        go_enter Tryz.func6, Tryz.ntmps6
        go_upto_region 1 with fail
        generalize (w.alloc _).alloc _ = w0 at *
        try simp only [hsz]
        have c0 := k3.cell
        go_wp2_with fail
        refine (HGr.out _).mono ?_
        rintro e w1 ⟨rfl, hb1⟩
        have B1 := hb0.trans (hb1.mono hb0.size)
        have c1 := (k4.call hb1).cell
        go_wp2_with fail
        refine (HF.out _).mono ?_
        rintro e w2 ⟨rfl, hb2⟩
        have B2 := B1.trans (hb2.mono B1.size)
        go_wp2_with fail
        refine (HA.out _).mono ?_
        rintro e w3 ⟨rfl, hb3⟩
        go_wp2_with fail
        go_ret
        exact ⟨rfl, B2.trans (hb3.mono B2.size)⟩
      have hl' : decide (520 < (np : Int)) = false := by rw [decide_eq_false_iff_not]; omega
      have hl2 : decide (520 < np) = false := by rw [decide_eq_false_iff_not]; omega
      have hnp : np ≤ 1000 := by omega
      clear hl
      go_enter Tryz.func6, Tryz.ntmps6
      go_upto_region 1 with fail
      generalize (w.alloc _).alloc _ = w0 at *
      try simp only [hsz]
      have c0 := k3.cell
      go_wp2_with fail
      refine (HGr.out _).mono ?_
      rintro e w1 ⟨rfl, hb1⟩
      have c1 := (k4.call hb1).cell
      clear c0
      go_wp2_with fail
      refine (HF.out _).mono ?_
      rintro e w2 ⟨rfl, hb2⟩
      have B2 := hb1.trans (hb2.mono hb1.size)
      clear c1 hb1 hb2 HF HGr
      go_upto_region 3 with fail
      obtain ⟨g1, g2, g3, g4, gz⟩ := hlen.out
      refine backs_first _ _ s A1 A2 A3 A4 n1 c1 n2 c2 n3 c3 n4 c4 us hs ws l (Nat.le_of_ble_eq_true rfl) rfl (k3.call B2) g1 g2 g3 g4 hmm.out gz ((q1.out.below B2).more B2.size) (RI.more (RI.below q2.out B2) B2.size) (q3.out.on_ B2) (q4.out.on_ B2) ?_
      intro b1 b2 w3 hb1 hb12 V1 V2 hb3
      simp only [bpput, Act.put, List.setIfInBounds_toArray, List.set_cons_succ, List.set_cons_zero]
      have B3 := B2.trans (hb3.mono B2.size)
      have hsz2 := B2.size
      have hsz0 := hb0.size
      have S3 := S0.out.on B3
      have y3 := q5.out.on B3
      have c3 := (k4.call B3).cell
      have hAb1 : ∀ g o, A = some ⟨g, o, none⟩ → 0 < np → g ≠ b1 := fun g o e h0 => by have := hAs g o e h0; omega
      have hAb2 : ∀ g o, A = some ⟨g, o, none⟩ → 0 < np → g ≠ b2 := fun g o e h0 => by have := hAs g o e h0; omega
      have hGood := Lib.hid (sysF_good us hs ws l)
      generalize sysF us hs ws l = V at *
      have hlG : (splitA C L H ps).1.length ≤ 64 := by rw [split_eq]; exact splitB_len C L H ps
      have HJ := Lib.hid (fun W (h : SysIs W b1 V) (hs : StIs W (.agg #[.slice E1 m1 d1, .slice E2 m2 d2, .slice E3 m3 d3]) C L H) hr => hback_any b1 _ C L H A np cp ps V W h hGood.out.kinds hs hn'.out hnp hr hAb1)
      have HR := Lib.hid (fun W (h : RefIs W w2.heap.size b2 V) (hs : StIs W (.agg #[.slice E1 m1 d1, .slice E2 m2 d2, .slice E3 m3 d3]) C L H) hr => rhback_any w2.heap.size b2 _ C L H A np cp ps V W h hs hn'.out hnp hcp hr hAb2)
      have hGR : GoodV (hbF V (splitA C L H ps) ps).2.2.2 := hbF_good hGood.out _ _
      have hbl := hbF_len V (splitA C L H ps) ps
      generalize (splitA C L H ps).1 = gs at *
      generalize hbF V (splitA C L H ps) ps = R at *
      unfold BackO at HJ
      unfold RBackO at HR
      obtain ⟨x1, x2, er, V'⟩ := R
      simp only at HJ HR hGR hbl
      have hGR' := Lib.hid hGR
      have hX1 : Hid ((gs.take x1).length = x1) := Lib.hid (by rw [List.length_take]; omega)
      have hX2 : Hid ((ps.take x2).length = x2) := Lib.hid (by rw [List.length_take]; omega)
      have hx1 : x1 ≤ 64 := by omega
      have hx2 : x2 ≤ 1000 := by have := hn'.out; omega
      generalize gs.take x1 = g9 at *
      generalize hp9 : ps.take x2 = p9 at *
      clear hGood q1 q2 q3 q4 k3 hlen hmm g1 g2 g3 g4 gz hb3 B2 hGR hbl hlG
      go_wp2_with fail
      refine (HJ.out _ V1 S3 y3).mono ?_
      rintro e w4 ⟨A6, p6, A7, p7, rfl, x6, f6, x7, f7, V4, F4⟩
      have B4 := B3.trans (F4.below B3.size (fun k hk e => by omega))
      have S4 := S0.out.on B4
      have y4 := q5.out.on B4
      have c4 := (k4.call B4).cell
      have U4 := V2.far F4 (fun k e => by subst e; omega)
      have hb24 := V2.lt
      clear HJ V1 V2 S3 c3 B3 y3
      go_wp2_with fail
      refine (HR.out _ U4 S4 y4).mono ?_
      rintro e w5 ⟨A8, p8, A9, p9', rfl, x8, x9, U5, F5⟩
      have B5 := B4.trans (F5.below B4.size (fun k hk e => by omega))
      have c5 := (k4.call B5).cell
      obtain ⟨ccs, _, _, _, kb2, _⟩ := U4.ex
      have V5 := V4.far F5 (by show ¬ b1 = b2; omega) (fun _ _ _ _ _ _ g _ _ _ hc hg => hc.elim fun cr hcr => Blk.ne_ hcr kb2 (by decide) hg)
      have x6' := RI.more (F5.ri x6 (fun g o e h => by have := f6 g o e; omega)) F5.size
      have x7' := RU.more (F5.ruB x7 (fun g o e h => by have := f7 g o e; omega)) F5.size
      have HN := Lib.hid (fun W => hbackNil_any A np cp E1 E2 E3 m1 d1 m2 d2 m3 d3 W)
      clear HR U4 S4 c4 B4 x6 x7 F5 V4 kb2 F4 y4
      go_wp2_with fail
      refine (HN.out _).mono ?_
      rintro e w6 ⟨rfl, hb6⟩
      have B6 := B5.trans (hb6.mono B5.size)
      have y6 := RI.more (RI.below x6' hb6) hb6.size
      have y8 := RI.more (RI.below x8 hb6) hb6.size
      have y7 := x7'.on hb6
      have y9 := x9.on hb6
      have V6 := V5.call hb6
      have U6 := U5.call hb6
      clear c5 HN x6' x7' x8 x9 V5 U5 B5 hb6 f6 f7
      go_wp2_with fail
      refine (ints13_any A6 A8 x1 p6 p8 g9 w6 hX1.out (by omega) y6 y8).mono ?_
      rintro e w7 ⟨rfl, hb7⟩
      have B7 := B6.trans (hb7.mono B6.size)
      have V7 := V6.call hb7
      have U7 := U6.call hb7
      have z7 := y7.on hb7
      have z9 := y9.on hb7
      have e1 : (er == er) = true := by simp
      clear y6 y7 y8 y9 V6 U6 B6 hb7
      go_wp2_with fail
      refine (sameT_any A7 A9 x2 p7 p9' p9 p9 w7 hX2.out (by unfold maxLen; omega) rfl z7 z9).mono ?_
      rintro e w8 ⟨rfl, hb8⟩
      have B8 := B7.trans (hb8.mono B7.size)
      have V8 := V7.call hb8
      have U8 := U7.call hb8
      clear z7 z9 V7 U7 B7 hb8
      go_wp2_with fail
      refine (save_any b1 V' w8 V8).mono ?_
      rintro e w9 ⟨X1, rfl, hX1', hb9⟩
      have B9 := B8.trans (hb9.mono B8.size)
      have U9 := U8.call hb9
      have hrl := (chkR_zero.1 V8.ok.plan).1
      clear V8 U8 B8 hb9
      go_wp2_with fail
      refine (save6_any _ b2 V' w9 U9 hGR'.out).mono ?_
      rintro e w10 ⟨X2, rfl, hX2', hb10⟩
      have B10 := B9.trans (hb10.mono B9.size)
      have hX1n := hX1'.on hb10
      clear U9 B9 hb10 hX1'
      go_wp2_with fail
      refine (same6_any X1 X2 V' w10 hX1n hX2' (by omega)).mono ?_
      rintro e w11 ⟨rfl, hb11⟩
      have B11 := B10.trans (hb11.mono B10.size)
      go_wp2_with fail
      refine (HA.out _).mono ?_
      rintro e w12 ⟨rfl, hb12⟩
      go_wp2_with fail
      go_ret
      exact ⟨rfl, by rw [hsz]; rw [hsz] at hb0; exact hb0.trans ((B11.trans (hb12.mono B11.size)).mono (by have := hb0.size; omega))⟩

set_option maxRecDepth 100000 in
theorem hugeBacks_lifted (os : Os) (started : os.Started) (H : Type) (enc : TypeId × Value → H) :
    ReturnsInHanded {} Tryz.checked os 6 .any (Rows.hugeBacksSpec.pre6 enc Tryz.prog Tryz.f6 Rows.hugeBacksRow.domain false) (Rows.hugeBacksSpec.post enc Tryz.prog Tryz.f6 false true false false) := by
  refine returnsInHanded_of_change (C := Tryz.checked) own_ started (by kernel_rfl) Tryz.func6
    (ChangeSpec.witness6 (enc := enc) (C := Tryz.checked) false ⟨#[], #[.agg #[.slice none 0 0, .slice none 0 0, .slice none 0 0, .slice none 0 0], .agg #[.slice none 0 0, .slice none 0 0, .slice none 0 0], .slice none 0 0], []⟩ 8 (by kernel_rfl) (by kernel_rfl) (by kernel_rfl) (by kernel_rfl)) ?_
  intro W base args ds gs before hval0 hW _ _
  have hval : ∀ (j : Nat) t v, Tryz.f6.params[j]? = some t → args[j]? = some v → Value.okWide Tryz.prog W .any base t v := hval0
  have hW' := hW
  obtain ⟨p, q, hA0, hV, rfl, _, _⟩ := hW
  have hA : DataW.TrodAll enc Tryz.prog W 0 (fun _ => true) true Tryz.f6.params.toList args.toList ds p := hA0
  rw [Tryz.params6] at hA hval
  obtain ⟨v0, v1, v2, d0, d1, d2, p0, p1, p2, rfl, rfl, rfl, h0, h1, h2⟩ := trodAll_three hA
  obtain ⟨rfl, rfl⟩ := trodVars_none hV
  obtain ⟨A1, A2, A3, A4, n1, c1, n2, c2, n3, c3, n4, c4, us, hs, ws, l, rfl, q1, r1, q2, r2, q3, r3, q4, r4, hz⟩ := openMade (hval 0 58 v0 rfl rfl) h0
  obtain ⟨E1, E2, E3, m1, g1, m2, g2, m3, g3, C, L, Hu, rfl, a1, a2, a3, b1, b2, b3, e1, e2, e3⟩ := openState (hval 1 52 v1 rfl rfl) h1
  obtain ⟨fuel, hf⟩ := h2
  obtain ⟨A, n, cap, ps, rfl, x1, x2, x3, _, x4⟩ := openSps hf (hval 2 42 v2 rfl rfl)
  replace h2 : DataW.Trod enc Tryz.prog W 0 (fun _ => true) true 42 _ d2 p2 := ⟨fuel, hf⟩
  simp only [List.append_nil] at hW'
  refine (backsLaw_any A1 A2 A3 A4 E1 E2 E3 A n1 c1 n2 c2 n3 c3 n4 c4 m1 g1 m2 g2 m3 g3 n cap us hs ws l C L Hu ps W q1 q2 q3 q4 hz r1 r2 r3 r4 ⟨E1, E2, E3, m1, g1, m2, g2, m3, g3, rfl, a1, a2, a3, b1, b2, b3, e1, e2, e3⟩ x1 x2 x4).mono fun e W' ⟨he, hb⟩ => ?_
  subst he
  exact ⟨_, rfl, post_of_below (pv := []) hW' (fun _ _ _ => trodAll_mk1 (shut_bool Tryz.underlying4 true))
    (fun sp hsp => by rw [Tryz.params6]; exact trodAll_mk3 (WideElems.Trod_stays laidOut_ (by kernel_rfl) (of_decide_eq_true (by kernel_rfl)) h0 (fun x hx => hb.same (hW'.lt x (by simp [hx]))) (fun x hx => hsp x (by simp [hx]))) (WideElems.Trod_stays laidOut_ (by kernel_rfl) (of_decide_eq_true (by kernel_rfl)) h1 (fun x hx => hb.same (hW'.lt x (by simp [hx]))) (fun x hx => hsp x (by simp [hx]))) (WideElems.Trod_stays laidOut_ (by kernel_rfl) (of_decide_eq_true (by kernel_rfl)) h2 (fun x hx => hb.same (hW'.lt x (by simp [hx]))) (fun x hx => hsp x (by simp [hx]))))
    (fun _ _ => rfl) (by simp) hb (ok_one (by kernel_rfl) rfl (okWide_bool_mk Tryz.underlying4 true))⟩
theorem hugeBacks_holds : Rows.HugeBacksSaid :=
  OpenClaim.holds_of_wide 6 Tryz.f6 rfl rfl rfl rfl rfl rfl rfl ⟨rfl, rfl, rfl, rfl, rfl⟩ rfl rfl rfl rfl rfl (by kernel_rfl) Tryz.func6 (by kernel_rfl)
    (of_decide_eq_true (by kernel_rfl)) (by unfold Func.isWrapper; rw [if_neg (of_decide_eq_false (by kernel_rfl))]; exact ⟨rfl, rfl⟩)
    (fun os started H enc _ => hugeBacks_lifted os started H enc)
end Go.Proofs.YtefnnfcfigcikaaGreat
