/- The law GuardsPlaces: Place, and Lift after it, of the program and of the reference do alike, whatever the system (of at most 20 spans of each kind and 55 rules) and the plans; without a system both say so. -/
import Derived.Test.YtdepkmpilipolaaGreatA8
namespace Go.Pol
open Go Go.RowKit
theorem undo_good : ∀ (D : List Sp) (S : List Sp × Vm), GoodV S.2 → GoodV (D.foldl undoStep S).2
  | [], _, h => h
  | _ :: r, _, h => undo_good r _ (h.bec _ _ _ _ _ (by omega))
theorem plcL_good (G : List Sp) : ∀ (r d : List Sp) (V : Vm), GoodV V → GoodV (plcL G d r V).2.2
  | [], _, _, h => h
  | x :: r, d, V, h => by
    rw [plcL]
    split
    · exact plcL_good G r _ _ (h.bec _ _ _ _ _ (by omega))
    · exact undo_good _ _ (h.bec _ _ _ _ _ (by omega))
theorem placeG_good {V : Vm} (h : GoodV V) (ck : Int) (G : List Sp) : GoodV (placeG V ck G).2.2 := by
  unfold placeG
  split
  · exact plcL_good G G [] V h
  · exact h
theorem lft_good : ∀ (G : List Sp) (S : List Sp × Int × Vm), GoodV S.2.2 → GoodV (G.foldl lftStep S).2.2
  | [], _, h => h
  | _ :: r, _, h => lft_good r _ (h.bec _ _ _ _ _ (by omega))
theorem liftG_good {V : Vm} (h : GoodV V) (ck : Int) (G : List Sp) : GoodV (liftG V ck G).2.2 := by
  unfold liftG
  split
  · exact lft_good G _ h
  · exact h
end Go.Pol
namespace Go.Proofs.YtdepkmpilipolaaGreat
open Go Go.Proofs Go.RowKit Go.Pol Go.ChangeShapes Go.WideShapes Go.Deep
attribute [local go_sem] Oper.semAt_some Go.Pol.wide_fn Go.Pol.wide_depth Go.Pol.wide_fn' Go.Pol.wide_depth'

/-- the boxes that the law makes -/
theorem glaw_boxes (a p q : Array Value) (w : World) : ∃ w0 : World, w0 = ((w.alloc (.cells a 27)).alloc (.cells p 31)).alloc (.cells q 31) ∧ w0.heap.size = w.heap.size + 3 ∧ Below w.heap.size w w0 ∧
    Blk w0 w.heap.size 27 a ∧ Blk w0 (w.heap.size + 1) 31 p ∧ Blk w0 (w.heap.size + 1 + 1) 31 q := by
  have e1 := World.size_alloc w (.cells a 27)
  have e2 := World.size_alloc (w.alloc (.cells a 27)) (.cells p 31)
  have e3 := World.size_alloc ((w.alloc (.cells a 27)).alloc (.cells p 31)) (.cells q 31)
  have k1 := ((Blk.new w 27 a).alloc (.cells p 31)).alloc (.cells q 31)
  have k2 := (Blk.new (w.alloc (.cells a 27)) 31 p).alloc (.cells q 31)
  have k3 := Blk.new ((w.alloc (.cells a 27)).alloc (.cells p 31)) 31 q
  have hb := (((Below.refl w.heap.size w).alloc (Nat.le_refl _) (.cells a 27)).alloc (by omega) (.cells p 31)).alloc (by omega) (.cells q 31)
  rw [e1] at k2
  rw [e2, e1] at k3
  exact ⟨_, rfl, by omega, hb, k1, k2, k3⟩
set_option maxRecDepth 100000 in
set_option maxHeartbeats 3200000 in
theorem placesLaw_any (A1 A2 A3 Ar : Option Addr) (n1 c1 n2 c2 n3 c3 nr cr : Nat) (rs cs gs : List (Int × Int)) (l : List Ru) (pg n f bk ev pg2 m2 f2 bk2 ev2 : Int) (w : World)
    (h1 : rs.length = n1) (h2 : cs.length = n2) (h3 : gs.length = n3) (hl : l.length = nr) (hz : Ar = none → cr = 0)
    (r1 : RU w w.heap.size A1 rs) (r2 : RU w w.heap.size A2 cs) (r3 : RU w w.heap.size A3 gs) (rr : Rd w w.heap.size Ar (fl ruC l)) :
    Calls Tryz.prog 3 #[.agg #[.slice A1 n1 c1, .slice A2 n2 c2, .slice A3 n3 c3, .slice Ar nr cr], planV pg n f bk ev, planV pg2 m2 f2 bk2 ev2] w fun e w' => e = .returned (.bool true) ∧ Below w.heap.size w w' := by
  obtain ⟨w0, hw0, hz0, hb0, k3, k4, k5⟩ := glaw_boxes #[.slice A1 n1 c1, .slice A2 n2 c2, .slice A3 n3 c3, .slice Ar nr cr] (planC pg n f bk ev) (planC pg2 m2 f2 bk2 ev2) w
  obtain ⟨s, hsz⟩ : ∃ s, w.heap.size = s := ⟨_, rfl⟩
  rw [hsz] at k3 k4 k5 hz0
  have HGr := Lib.hid (fun W => great11_any A1 A2 A3 Ar n1 c1 n2 c2 n3 c3 nr cr W)
  have HA := Lib.hid (fun W => awake_any W)
  have hmG : greatE n1 n2 n3 nr = false → (n1 ≤ 1000 ∧ n2 ≤ 1000 ∧ n3 ≤ 1000) ∧ nr ≤ 1000 := fun h => by
    unfold greatE at h
    simp only [Bool.or_eq_false_iff, decide_eq_false_iff_not] at h
    omega
  have q1 := Lib.hid ((r1.below hb0).more hb0.size)
  have q2 := Lib.hid ((r2.below hb0).more hb0.size)
  have q3 := Lib.hid ((r3.below hb0).more hb0.size)
  have qr := Lib.hid (rr.below hb0)
  rw [hsz] at qr
  cases hg : greatE n1 n2 n3 nr with
  | true =>
    rw [hg] at HGr
    clear hg hmG q1 q2 q3 qr r1 r2 r3 rr
    go_enter Tryz.func3, Tryz.ntmps3
    go_upto_region 1 with fail
    unfold planC at hw0
    rw [← hw0]
    try simp only [hsz]
    have c0 := k3.cell
    clear hw0
    go_wp2_with fail
    refine (HGr.out _).mono ?_
    rintro e w1 ⟨rfl, hb1⟩
    have B1 := hb0.trans (hb1.mono hb0.size)
    go_wp2_with fail
    refine (HA.out _).mono ?_
    rintro e w2 ⟨rfl, hb2⟩
    go_wp2_with fail
    go_ret
    exact ⟨rfl, B1.trans (hb2.mono B1.size)⟩
  | false =>
    rw [hg] at HGr
    have hm := Lib.hid (hmG hg)
    have hmr : nr ≤ 1000 := (hmG hg).2
    have HS := Lib.hid (fun W a b c d => sys11_any A1 A2 A3 Ar n1 c1 n2 c2 n3 c3 nr cr rs cs gs l W h1 h2 h3 hl hm.out hz a b c d)
    have HM := Lib.hid (fun W a b c d e => mirror11_any s A1 A2 A3 Ar n1 c1 n2 c2 n3 c3 nr cr rs cs gs l W h1 h2 h3 hl hm.out hz a b c d e)
    have hGood := sysE_good rs cs gs l
    generalize sysE rs cs gs l = V at *
    obtain ⟨er, her⟩ : ∃ er, (chkR l).2 = er := ⟨_, rfl⟩
    rw [her] at HS HM
    have hG1 := placeG_good hGood (chkG pg n f bk ev) (guardsF pg n f bk ev)
    have hGl1 := Lib.hid (guardsF_len pg n f bk ev)
    have hGl2 := Lib.hid (guardsF_len pg2 m2 f2 bk2 ev2)
    have HP := Lib.hid (fun b W h => gplace_any b pg n f bk ev V W h hGood.kinds hGl1.out)
    have HQ := Lib.hid (fun b W h => refPlace_any s b pg n f bk ev V W h hGl1.out)
    obtain ⟨R, hR⟩ : ∃ R, placeG V (chkG pg n f bk ev) (guardsF pg n f bk ev) = R := ⟨_, rfl⟩
    rw [hR] at HP HQ hG1
    obtain ⟨L1, e1, V1⟩ := R
    simp only at hG1
    have hG2 := liftG_good hG1 (chkG pg2 m2 f2 bk2 ev2) (guardsF pg2 m2 f2 bk2 ev2)
    have HL := Lib.hid (fun b W h => lift_any b pg2 m2 f2 bk2 ev2 V1 W h hG1.kinds hGl2.out)
    have HK := Lib.hid (fun b W h => refLift_any s b pg2 m2 f2 bk2 ev2 V1 W h hGl2.out)
    obtain ⟨R2, hR2⟩ : ∃ R2, liftG V1 (chkG pg2 m2 f2 bk2 ev2) (guardsF pg2 m2 f2 bk2 ev2) = R2 := ⟨_, rfl⟩
    rw [hR2] at HL HK hG2
    obtain ⟨L2, e2, V2⟩ := R2
    simp only at hG2
    have HPN := Lib.hid (fun W => placeNil_any pg n f bk ev W)
    have HLN := Lib.hid (fun W => liftNil_any pg n f bk ev W)
    have hG1' := Lib.hid hG1
    have hG2' := Lib.hid hG2
    unfold SysOE at HS
    unfold RefOE at HM
    unfold SpanSys at HP HL
    unfold SpanRef at HQ HK
    obtain ⟨m1, hm1⟩ : ∃ m, L1.length = m := ⟨_, rfl⟩
    obtain ⟨mm, hmm⟩ : ∃ m, L2.length = m := ⟨_, rfl⟩
    simp only [hm1] at HP HQ
    simp only [hmm] at HL HK
    have hm1' := Lib.hid hm1
    have hmm' := Lib.hid hmm
    have x0 : (er != er) = false := by simp
    have x1 : (e1 != e1) = false := by simp
    have x2 : (e2 != e2) = false := by simp
    clear hm1 hmm hg hmG r1 r2 r3 rr h1 h2 h3 hl hz hm her hGood hR hR2 hG1 hG2 hGl1 hGl2
    go_enter Tryz.func3, Tryz.ntmps3
    go_upto_region 1 with fail
    unfold planC at hw0
    rw [← hw0]
    try simp only [hsz]
    have c0 := k3.cell
    clear hw0
    go_wp2_with fail
    refine (HGr.out _).mono ?_
    rintro e w1 ⟨rfl, hb1⟩
    have k31 := k3.call hb1
    have c1 := k31.cell
    clear c0 HGr
    go_wp2_with fail
    refine (HS.out _ (q1.out.on hb1) (q2.out.on hb1) (q3.out.on hb1) ((qr.out.below (hb1.mono (by omega))).more (by have := hb1.size; omega))).mono ?_
    rintro e w2 ⟨b1, rfl, S2, hb1s, hb2⟩
    have hb12 := hb1.trans (hb2.mono hb1.size)
    have k32 := k3.call hb12
    have c2' := k32.cell
    have hs12 := hb12.size
    have hs1 := hb1.size
    clear c1 HS
    go_wp2_with fail
    refine (HM.out _ (q1.out.on hb12) (q2.out.on hb12) (q3.out.on hb12) (by omega) (qr.out.below (hb12.mono (by omega)))).mono ?_
    rintro e w3 ⟨b2, rfl, U3, hb2s, hb3⟩
    have S3 := S2.call hb3
    have hbl1 := S2.lt
    have hb13 := hb12.trans (hb3.mono hb12.size)
    have B3 := hb0.trans (hb13.mono hb0.size)
    have k43 := k4.call hb13
    have k53 := k5.call hb13
    have c4 := k43.cell
    clear c2' HM k31 k32 hb1 hb2 hb3 hb12 k3 k4 k5 hb0 q1 q2 q3 qr S2 hb13
    go_wp2_with fail
    refine (HP.out b1 _ S3).mono ?_
    rintro e w4 ⟨A6, p6, rfl, x6, f6, m6, S4, F4⟩
    have B4 := B3.trans (F4.below B3.size (fun k hk e => by omega))
    have k44 := F4.blk k43 (by omega)
    have k54 := F4.blk k53 (by omega)
    have U4 := U3.far F4 (fun k e => by subst e; omega)
    have hbl2 := U3.lt
    have c4' := k44.cell
    clear c4 HP S3 U3 B3 k43 k53 F4
    go_wp2_with fail
    refine (HQ.out b2 _ U4).mono ?_
    rintro e w5 ⟨A8, p8, rfl, x8, f8, _, U5, F5⟩
    have B5 := B4.trans (F5.below B4.size (fun k hk e => by omega))
    have k45 := F5.blk k44 (by omega)
    have k55 := F5.blk k54 (by omega)
    obtain ⟨ccs, _, _, _, kb2, _⟩ := U4.ex
    have S5 := S4.far F5 (by show ¬ b1 = b2; omega) (fun _ _ _ _ _ _ g _ _ _ hc hg => hc.elim fun cr hcr => Blk.ne_ hcr kb2 (by decide) hg)
    have x65 := (F5.ru x6 (fun g o e h => by have := f6 g o e; omega)).more F5.size
    have hs45 := F5.size
    have hs4 := B4.size
    clear c4' HQ S4 U4 B4 k44 k54 F5 x6 f6 f8 kb2
    go_wp2_with fail
    refine (sameT_any A6 A8 m1 p6 p8 L1 L1 w5 hm1'.out m6 rfl x65 x8).mono ?_
    rintro e w6 ⟨rfl, hx6⟩
    have B6 := B5.trans (hx6.mono B5.size)
    have S6 := S5.call hx6
    have U6 := U5.call hx6
    have k46 := k45.call hx6
    have k56 := k55.call hx6
    clear x65 x8 S5 U5 B5 hx6 k45 k55
    go_wp2_with fail
    refine (save_any b1 V1 w6 S6).mono ?_
    rintro e w7 ⟨X7, rfl, hX7, hx7⟩
    have B7 := B6.trans (hx7.mono B6.size)
    have U7 := U6.call hx7
    have S7 := S6.call hx7
    have k47 := k46.call hx7
    have k57 := k56.call hx7
    have hrl7 := (chkR_zero.1 S6.ok.plan).1
    clear S6 U6 B6 hx7 k46 k56
    go_wp2_with fail
    refine (save6_any s b2 V1 w7 U7 hG1'.out).mono ?_
    rintro e w8 ⟨X8, rfl, hX8, hx8⟩
    have B8 := B7.trans (hx8.mono B7.size)
    have U8 := U7.call hx8
    have S8 := S7.call hx8
    have k48 := k47.call hx8
    have k58 := k57.call hx8
    have hX7' := hX7.on hx8
    clear S7 U7 B7 hx8 k47 k57 hX7
    go_wp2_with fail
    refine (same6_any X7 X8 V1 w8 hX7' hX8 (by omega)).mono ?_
    rintro e w9 ⟨rfl, hx9⟩
    have B9 := B8.trans (hx9.mono B8.size)
    have U9 := U8.call hx9
    have S9 := S8.call hx9
    have k49 := k48.call hx9
    have k59 := k58.call hx9
    clear S8 U8 B8 hx9 k48 k58 hX7' hX8 hrl7
    have c59 := k59.cell
    have hs9 := B9.size
    go_wp2_with fail
    refine (HL.out b1 _ S9).mono ?_
    rintro e w10 ⟨A6, p6, rfl, x6, f6, m6, S10, F10⟩
    have hbw1 := S9.lt
    have hbw2 := U9.lt
    have B10 := B9.trans (F10.below B9.size (fun k hk e => by omega))
    have k410 := F10.blk k49 (by omega)
    have k510 := F10.blk k59 (by omega)
    have U10 := U9.far F10 (fun k e => by subst e; omega)
    have c510 := k510.cell
    clear c59 HL S9 U9 B9 k49 k59 F10
    go_wp2_with fail
    refine (HK.out b2 _ U10).mono ?_
    rintro e w11 ⟨A8, p8, rfl, x8, f8, _, U11, F11⟩
    have B11 := B10.trans (F11.below B10.size (fun k hk e => by omega))
    have k411 := F11.blk k410 (by omega)
    have k511 := F11.blk k510 (by omega)
    obtain ⟨ccs, _, _, _, kb2, _⟩ := U10.ex
    have S11 := S10.far F11 (by show ¬ b1 = b2; omega) (fun _ _ _ _ _ _ g _ _ _ hc hg => hc.elim fun cr hcr => Blk.ne_ hcr kb2 (by decide) hg)
    have x611 := (F11.ru x6 (fun g o e h => by have := f6 g o e; omega)).more F11.size
    have hs11 := F11.size
    clear c510 HK S10 U10 B10 k410 k510 F11 x6 f6 f8 kb2
    go_wp2_with fail
    refine (sameT_any A6 A8 mm p6 p8 L2 L2 w11 hmm'.out m6 rfl x611 x8).mono ?_
    rintro e w12 ⟨rfl, hx12⟩
    have B12 := B11.trans (hx12.mono B11.size)
    have S12 := S11.call hx12
    have U12 := U11.call hx12
    have k412 := k411.call hx12
    have k512 := k511.call hx12
    clear x611 x8 S11 U11 B11 hx12 k411 k511
    go_wp2_with fail
    refine (save_any b1 V2 w12 S12).mono ?_
    rintro e w13 ⟨X13, rfl, hX13, hx13⟩
    have B13 := B12.trans (hx13.mono B12.size)
    have U13 := U12.call hx13
    have S13 := S12.call hx13
    have k413 := k412.call hx13
    have k513 := k512.call hx13
    have hrl13 := (chkR_zero.1 S12.ok.plan).1
    clear S12 U12 B12 hx13 k412 k512
    go_wp2_with fail
    refine (save6_any s b2 V2 w13 U13 hG2'.out).mono ?_
    rintro e w14 ⟨X14, rfl, hX14, hx14⟩
    have B14 := B13.trans (hx14.mono B13.size)
    have U14 := U13.call hx14
    have S14 := S13.call hx14
    have k414 := k413.call hx14
    have k514 := k513.call hx14
    have hX13' := hX13.on hx14
    clear S13 U13 B13 hx14 k413 k513 hX13
    go_wp2_with fail
    refine (same6_any X13 X14 V2 w14 hX13' hX14 (by omega)).mono ?_
    rintro e w15 ⟨rfl, hx15⟩
    have B15 := B14.trans (hx15.mono B14.size)
    have U15 := U14.call hx15
    have S15 := S14.call hx15
    have k415 := k414.call hx15
    have k515 := k514.call hx15
    clear S14 U14 B14 hx15 k414 k514 hX13' hX14 hrl13
    have c415 := k415.cell
    go_wp2_with fail
    refine (HPN.out _).mono ?_
    rintro e w16 ⟨rfl, hx16⟩
    have B16 := B15.trans (hx16.mono B15.size)
    have c416 := (k415.call hx16).cell
    clear c415
    go_wp2_with fail
    refine (HLN.out _).mono ?_
    rintro e w17 ⟨rfl, hx17⟩
    have B17 := B16.trans (hx17.mono B16.size)
    go_wp2_with fail
    refine (HA.out _).mono ?_
    rintro e w18 ⟨rfl, hx18⟩
    go_wp2_with fail
    go_ret
    exact ⟨rfl, B17.trans (hx18.mono B17.size)⟩

set_option maxRecDepth 100000 in
theorem guardsPlaces_lifted (os : Os) (started : os.Started) (H : Type) (enc : TypeId × Value → H) :
    ReturnsInHanded {} Tryz.checked os 3 .any (Rows.guardsPlacesSpec.pre6 enc Tryz.prog Tryz.f3 Rows.guardsPlacesRow.domain false) (Rows.guardsPlacesSpec.post enc Tryz.prog Tryz.f3 false true false false) := by
  refine returnsInHanded_of_change (C := Tryz.checked) own_ started (by kernel_rfl) Tryz.func3
    (ChangeSpec.witness6 (enc := enc) (C := Tryz.checked) false ⟨#[], #[.agg #[.slice none 0 0, .slice none 0 0, .slice none 0 0, .slice none 0 0], .agg #[.int .i64 0, .int .i64 0, .int .i64 0, .int .i64 0, .int .i64 0], .agg #[.int .i64 0, .int .i64 0, .int .i64 0, .int .i64 0, .int .i64 0]], []⟩ 8 (by kernel_rfl) (by kernel_rfl) (by kernel_rfl) (by kernel_rfl)) ?_
  intro W base args ds gs before hval0 hW _ _
  have hval : ∀ (j : Nat) t v, Tryz.f3.params[j]? = some t → args[j]? = some v → Value.okWide Tryz.prog W .any base t v := hval0
  have hW' := hW
  obtain ⟨p, q, hA0, hV, rfl, _, _⟩ := hW
  have hA : DataW.TrodAll enc Tryz.prog W 0 (fun _ => true) true Tryz.f3.params.toList args.toList ds p := hA0
  rw [Tryz.params3] at hA hval
  obtain ⟨v0, v1, v2, d0, d1, d2, p0, p1, p2, rfl, rfl, rfl, h0, h1, h2⟩ := trodAll_three hA
  obtain ⟨rfl, rfl⟩ := trodVars_none hV
  obtain ⟨A1, A2, A3, Ar, n1, c1, n2, c2, n3, c3, nr, cr, rs, cs, gs, l, rfl, q1, r1, q2, r2, q3, r3, ql, rl, hz⟩ := openMadeE (hval 0 27 v0 rfl rfl) h0
  obtain ⟨pg, n, f, b, ev, rfl⟩ := openPlan (hval 1 31 v1 rfl rfl) h1
  obtain ⟨pg2, m2, f2, b2, ev2, rfl⟩ := openPlan (hval 2 31 v2 rfl rfl) h2
  simp only [List.append_nil] at hW'
  refine (placesLaw_any A1 A2 A3 Ar n1 c1 n2 c2 n3 c3 nr cr rs cs gs l pg n f b ev pg2 m2 f2 b2 ev2 W q1 q2 q3 ql hz r1 r2 r3 rl).mono fun e W' ⟨he, hb⟩ => ?_
  subst he
  exact ⟨_, rfl, post_of_below (pv := []) hW' (fun _ _ _ => trodAll_mk1 (shut_bool Tryz.underlying4 true))
    (fun sp hsp => by rw [Tryz.params3]; exact trodAll_mk3 (WideElems.Trod_stays laidOut_ (by kernel_rfl) (of_decide_eq_true (by kernel_rfl)) h0 (fun x hx => hb.same (hW'.lt x (by simp [hx]))) (fun x hx => hsp x (by simp [hx]))) (WideElems.Trod_stays laidOut_ (by kernel_rfl) (of_decide_eq_true (by kernel_rfl)) h1 (fun x hx => hb.same (hW'.lt x (by simp [hx]))) (fun x hx => hsp x (by simp [hx]))) (WideElems.Trod_stays laidOut_ (by kernel_rfl) (of_decide_eq_true (by kernel_rfl)) h2 (fun x hx => hb.same (hW'.lt x (by simp [hx]))) (fun x hx => hsp x (by simp [hx]))))
    (fun _ _ => rfl) (by simp) hb (ok_one (by kernel_rfl) rfl (okWide_bool_mk Tryz.underlying4 true))⟩
theorem guardsPlaces_holds : Rows.GuardsPlacesSaid :=
  OpenClaim.holds_of_wide 3 Tryz.f3 rfl rfl rfl rfl rfl rfl rfl ⟨rfl, rfl, rfl, rfl, rfl⟩ rfl rfl rfl rfl rfl (by kernel_rfl) Tryz.func3 (by kernel_rfl)
    (of_decide_eq_true (by kernel_rfl)) (by unfold Func.isWrapper; rw [if_neg (of_decide_eq_false (by kernel_rfl))]; exact ⟨rfl, rfl⟩)
    (fun os started H enc _ => guardsPlaces_lifted os started H enc)
end Go.Proofs.YtdepkmpilipolaaGreat
