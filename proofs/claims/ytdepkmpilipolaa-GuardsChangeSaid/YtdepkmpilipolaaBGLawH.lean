/- The law GuardsChange: if Place returns OK, just the guards of the plan have become guards, otherwise just the pages that are named have; Lift that returns OK makes all pages what they were (whatever the system, of at most 20 spans of each kind and 55 rules, and the plan). -/
import Derived.Test.YtdepkmpilipolaaB5
namespace Go.Pol
open Go Go.RowKit
theorem undo_kind : ∀ (D : List Sp) (S : List Sp × Vm), KindOk S.2 → KindOk (D.foldl undoStep S).2
  | [], _, h => h
  | _ :: r, _, h => undo_kind r _ (h.bec _ _ _ _ (by omega))
theorem plcL_kind (G : List Sp) : ∀ (r d : List Sp) (V : Vm), KindOk V → KindOk (plcL G d r V).2.2
  | [], _, _, h => h
  | x :: r, d, V, h => by
    rw [plcL]
    split
    · exact plcL_kind G r _ _ (h.bec _ _ _ _ (by omega))
    · exact undo_kind _ _ (h.bec _ _ _ _ (by omega))
theorem placeG_kind {V : Vm} (h : KindOk V) (ck : Int) (G : List Sp) : KindOk (placeG V ck G).2.2 := by
  unfold placeG
  split
  · exact plcL_kind G G [] V h
  · exact h
end Go.Pol
namespace Go.Proofs.Ytdepkmpilipolaa
open Go Go.Proofs Go.RowKit Go.Pol Go.ChangeShapes Go.WideShapes Go.Deep
attribute [local go_sem] Oper.semAt_some Go.Pol.wide_fn Go.Pol.wide_depth Go.Pol.wide_fn' Go.Pol.wide_depth'

/-- the guards of a plan are a set, or none -/
theorem guardsF_can (pg n f b ev : Int) : Go.Pol.Can (guardsF pg n f b ev) := by
  by_cases h : chkG pg n f b ev = 0
  · exact (guards_set (chkG_zero.1 h)).1
  · unfold guardsF; rw [if_neg h]; exact ⟨fun x hx => (by cases hx), rfl⟩
theorem z46_ex : ∃ zc : Array Value, Try.zeroCells46 = zc ∧ MarksAre zc (fun _ => false) := ⟨_, rfl, zeros_are⟩
theorem info46 : (Try.prog.info? 46).map (·.size) = some 1024 := by kernel_rfl
structure CopyB (wr : World) (zc cs : Array Value) : Prop where
  new : (wr.alloc (.cells zc 46)).heap[wr.heap.size]? = some (.cells zc 46 (0, 0))
  size : zc.size = cs.size
  info : (Try.prog.info? 46).map (·.size) = some cs.size
  one : cs.all (·.oneCell') = true
  below : Below wr.heap.size wr ((wr.alloc (.cells zc 46)).setRow wr.heap.size cs)
  blk : Blk ((wr.alloc (.cells zc 46)).setRow wr.heap.size cs) wr.heap.size 46 cs
theorem copyB (wr : World) (zc cs : Array Value) (f : Nat → Bool) (hz : zc.size = 1024) (h : MarksAre cs f) : CopyB wr zc cs where
  new := heap_alloc_new wr _
  size := by rw [hz, h.size]
  info := by rw [h.size]; exact info46
  one := h.one
  below := below_setRowK.1
  blk := below_setRowK.2
/-- the boxes that the law makes -/
theorem glaw2_boxes (a p : Array Value) (w : World) : ∃ w0 : World, w0 = (w.alloc (.cells a 27)).alloc (.cells p 31) ∧ w0.heap.size = w.heap.size + 2 ∧ Below w.heap.size w w0 ∧
    Blk w0 w.heap.size 27 a ∧ Blk w0 (w.heap.size + 1) 31 p := by
  have e1 := World.size_alloc w (.cells a 27)
  have e2 := World.size_alloc (w.alloc (.cells a 27)) (.cells p 31)
  have k1 := (Blk.new w 27 a).alloc (.cells p 31)
  have k2 := Blk.new (w.alloc (.cells a 27)) 31 p
  have hb := ((Below.refl w.heap.size w).alloc (Nat.le_refl _) (.cells a 27)).alloc (by omega) (.cells p 31)
  rw [e1] at k2
  exact ⟨_, rfl, by omega, hb, k1, k2⟩
set_option maxRecDepth 100000 in
set_option maxHeartbeats 3200000 in
theorem changeLaw_any (A1 A2 A3 Ar : Option Addr) (n1 c1 n2 c2 n3 c3 nr cr : Nat) (rs cs gs : List (Int × Int)) (l : List Ru) (pg n f bk ev : Int) (w : World)
    (h1 : rs.length = n1) (h2 : cs.length = n2) (h3 : gs.length = n3) (hl : l.length = nr) (hz : Ar = none → cr = 0)
    (r1 : RU w w.heap.size A1 rs) (r2 : RU w w.heap.size A2 cs) (r3 : RU w w.heap.size A3 gs) (rr : Rd w w.heap.size Ar (fl ruC l)) :
    Calls Try.prog 3 #[.agg #[.slice A1 n1 c1, .slice A2 n2 c2, .slice A3 n3 c3, .slice Ar nr cr], planV pg n f bk ev] w fun e w' => e = .returned (.bool true) ∧ Below w.heap.size w w' := by
  obtain ⟨w0, hw0, hz0, hb0, k3, k4⟩ := glaw2_boxes #[.slice A1 n1 c1, .slice A2 n2 c2, .slice A3 n3 c3, .slice Ar nr cr] (planC pg n f bk ev) w
  obtain ⟨s, hsz⟩ : ∃ s, w.heap.size = s := ⟨_, rfl⟩
  rw [hsz] at k3 k4 hz0
  have HGr := Lib.hid (fun W => great11_any A1 A2 A3 Ar n1 c1 n2 c2 n3 c3 nr cr W)
  have HA := Lib.hid (fun W => awake_any W)
  have hmG : greatE n1 n2 n3 nr = false → (n1 ≤ 1000 ∧ n2 ≤ 1000 ∧ n3 ≤ 1000) ∧ nr ≤ 1000 := fun h => by
    unfold greatE at h
    simp only [Bool.or_eq_false_iff, decide_eq_false_iff_not] at h
    omega
  have q1 := Lib.hid ((r1.below hb0).more hb0.size)
  have q2 := Lib.hid ((r2.below hb0).more hb0.size)
  have q3 := Lib.hid ((r3.below hb0).more hb0.size)
  have qr := Lib.hid (rr.on_ hb0)
  cases hg : greatE n1 n2 n3 nr with
  | true =>
    rw [hg] at HGr
    clear hg hmG q1 q2 q3 qr r1 r2 r3 rr
    go_enter Try.func3, Try.ntmps3
    go_upto_region 1 with fail
    unfold planC at hw0
    rw [← hw0]
    try simp only [hsz]
    have c0 := k3.cell
    clear hw0
    go_wp2_with fail
    refine (HGr.out _).mono ?_
    rintro e w1 ⟨rfl, hb1⟩
    have B1 := hb0.trans (hb1.mono hb0.size)
    go_wp2_with fail
    refine (HA.out _).mono ?_
    rintro e w2 ⟨rfl, hb2⟩
    go_wp2_with fail
    go_ret
    exact ⟨rfl, B1.trans (hb2.mono B1.size)⟩
  | false =>
    rw [hg] at HGr
    have hm := Lib.hid (hmG hg)
    have HS := Lib.hid (fun W a b c d => sys11_any A1 A2 A3 Ar n1 c1 n2 c2 n3 c3 nr cr rs cs gs l W h1 h2 h3 hl hm.out hz a b c d)
    have hK := sysE_kind rs cs gs l
    generalize sysE rs cs gs l = V at *
    generalize (chkR l).2 = er at *
    have hGl1 := Lib.hid (guardsF_len pg n f bk ev)
    have hK1 := placeG_kind hK (chkG pg n f bk ev) (guardsF pg n f bk ev)
    have hGc := guardsF_can pg n f bk ev
    have hlaw := place_law V (chkG pg n f bk ev) (guardsF pg n f bk ev) (fun _ => hGc)
    have HP := Lib.hid (fun b W h => gplace_any b pg n f bk ev V W h hK hGl1.out)
    have HG := Lib.hid (fun W => guards_any pg n f bk ev W)
    obtain ⟨R, hR⟩ : ∃ R, placeG V (chkG pg n f bk ev) (guardsF pg n f bk ev) = R := ⟨_, rfl⟩
    rw [hR] at HP hK1 hlaw
    obtain ⟨L1, e1, V1⟩ := R
    simp only at hK1 hlaw
    have HL := Lib.hid (fun b W h => lift_any b pg n f bk ev V1 W h hK1 hGl1.out)
    have hlaw2 := lift_law V1 (chkG pg n f bk ev) (guardsF pg n f bk ev)
    obtain ⟨R2, hR2⟩ : ∃ R2, liftG V1 (chkG pg n f bk ev) (guardsF pg n f bk ev) = R2 := ⟨_, rfl⟩
    rw [hR2] at HL hlaw2
    obtain ⟨L2, e2, V2⟩ := R2
    simp only at hlaw2
    generalize guardsF pg n f bk ev = G at *
    generalize chkG pg n f bk ev = ck at *
    unfold SysOE at HS
    unfold SpanSys at HP HL
    unfold SpansR at HG
    obtain ⟨m1, hm1⟩ : ∃ m, L1.length = m := ⟨_, rfl⟩
    obtain ⟨mm, hmm⟩ : ∃ m, L2.length = m := ⟨_, rfl⟩
    obtain ⟨mg, hmg⟩ : ∃ m, G.length = m := ⟨_, rfl⟩
    simp only [hm1] at HP
    simp only [hmm] at HL
    simp only [hmg] at HG
    have hm1' := Lib.hid hm1
    have hmm' := Lib.hid hmm
    have hmg' := Lib.hid hmg
    have hlaw' := Lib.hid hlaw
    have hlaw2' := Lib.hid hlaw2
    have hGc' := Lib.hid hGc
    have hmgl : mg ≤ 512 := by rw [← hmg]; exact hGc.len
    obtain ⟨Z, hZe, hZ⟩ := z38_ex
    obtain ⟨Y, hYe, hY⟩ := z46_ex
    have hZe' := Lib.hid hZe
    have hYe' := Lib.hid hYe
    clear hm1 hmm hmg hg hmG r1 r2 r3 rr h1 h2 h3 hl hz hm hR hR2 hGl1 hZe hYe hlaw hlaw2 hGc hK hK1
    go_enter Try.func3, Try.ntmps3
    go_upto_region 1 with fail
    unfold planC at hw0
    rw [← hw0]
    try simp only [hsz]
    have c0 := k3.cell
    clear hw0
    go_wp2_with fail
    refine (HGr.out _).mono ?_
    rintro e w1 ⟨rfl, hb1⟩
    have k31 := k3.call hb1
    have c1 := k31.cell
    clear c0 HGr
    go_wp2_with fail
    refine (HS.out _ (q1.out.on hb1) (q2.out.on hb1) (q3.out.on hb1) (qr.out.on_ hb1)).mono ?_
    rintro e w2 ⟨b1, rfl, S2, hb1s, hb2⟩
    have hb12 := hb1.trans (hb2.mono hb1.size)
    have k42 := k4.call hb12
    have B2 := hb0.trans (hb12.mono hb0.size)
    have hs12 := hb12.size
    have hs01 : s + 2 ≤ w1.heap.size := by have := hb1.size; omega
    clear c1 HS k31 hb1 hb2 hb12 k3 k4 hb0 q1 q2 q3 qr
    go_upto_region 7 with (first
      | (go_at_call 7; refine (lawKinds_any b1 V w2 S2).mono ?_; rintro e w3 ⟨ca, rfl, hca, hx3⟩; have hC := Lib.hid (copyN w3 Z ca _ hZ.size hca))
      | (rw [hZe'.out]; refine wpList_store_row rfl 38 (.tmp 7) (.tmp 32) rfl w3.heap.size ca rfl rfl 38 _ hC.out.new hC.out.info hC.out.size hC.out.one ?_))
    have hx33 := hx3.trans (hC.out.below.mono hx3.size)
    have B3 := B2.trans (hx33.mono B2.size)
    have ka := hC.out.blk
    have S3 := S2.call hx33
    have k43 := k42.call hx33
    obtain ⟨q, hq⟩ : ∃ q, w3.heap.size = q := ⟨_, rfl⟩
    have hqs : s ≤ q ∧ b1 < q := by have := hx3.size; have := S2.lt; have := B2.size; omega
    have hq4 : s + 2 ≤ q := by have := hx3.size; have := hx33.size; omega
    obtain ⟨w33, hw33⟩ : ∃ w33, (w3.alloc (.cells Z 38)).setRow w3.heap.size ca = w33 := ⟨_, rfl⟩
    rw [hw33] at B3 ka S3 k43 hx33 ⊢
    rw [hq] at ka
    try simp only [hq]
    have c4 := k43.cell
    clear hC hx3 hx33 S2 B2 k42 hw33 hq
    go_wp2_with fail
    refine (HP.out b1 _ S3).mono ?_
    rintro e w4 ⟨A6, p6, rfl, x6, f6, m6, S4, F4⟩
    have B4 := B3.trans (F4.below B3.size (fun k hk e => by omega))
    have k44 := F4.blk k43 (by omega)
    have ka4 := F4.blk ka (by omega)
    have hs4 := F4.size
    clear c4 HP S3 B3 k43 ka
    go_upto_region 9 with (first
      | (go_at_call 7; refine (lawKinds_any b1 V1 w4 S4).mono ?_; rintro e w5 ⟨cb, rfl, hcb, hx5⟩; have hC5 := Lib.hid (copyN w5 Z cb _ hZ.size hcb))
      | (rw [hZe'.out]; refine wpList_store_row rfl 38 (.tmp 11) (.tmp 43) rfl w5.heap.size cb rfl rfl 38 _ hC5.out.new hC5.out.info hC5.out.size hC5.out.one ?_))
    have hx55 := hx5.trans (hC5.out.below.mono hx5.size)
    have B5 := B4.trans (hx55.mono B4.size)
    have kb := hC5.out.blk
    have S5 := S4.call hx55
    have k45 := k44.call hx55
    have ka5 := ka4.call hx55
    have x65 := x6.on hx55
    obtain ⟨q5, hq5⟩ : ∃ q, w5.heap.size = q := ⟨_, rfl⟩
    have hqs5 : s ≤ q5 ∧ b1 < q5 ∧ q < q5 := by have := hx5.size; have := S4.lt; have := B4.size; have := ka4.lt; omega
    obtain ⟨w55, hw55⟩ : ∃ w55, (w5.alloc (.cells Z 38)).setRow w5.heap.size cb = w55 := ⟨_, rfl⟩
    rw [hw55] at B5 kb S5 k45 ka5 x65 hx55 ⊢
    rw [hq5] at kb
    try simp only [hq5]
    have c5 := k45.cell
    clear hC5 hx5 hx55 S4 B4 k44 ka4 x6 hw55 hq5 hs4 F4
    go_wp2_with fail
    refine (HG.out _).mono ?_
    rintro e w6 ⟨Ag, cg, rfl, xg, hg1, hg2, _, hx6⟩
    have B6 := B5.trans (hx6.mono B5.size)
    have S6 := S5.call hx6
    have k46 := k45.call hx6
    have ka6 := ka5.call hx6
    have kb6 := kb.call hx6
    have x66 := x65.on hx6
    have e0 : (chkS L1 != 0) = false := by rw [chkS_zero.2 hlaw'.out.1]; rfl
    have e00 : (chkS G != 0) = false := by rw [chkS_zero.2 hGc'.out]; rfl
    clear c5 HG S5 B5 k45 ka5 kb x65 hx6
    go_wp2_with fail
    refine (refSpCheck_any A6 m1 p6 L1 w6 hm1'.out m6 x66).mono ?_
    rintro e w7 ⟨rfl, hx7⟩
    have B7 := B6.trans (hx7.mono B6.size)
    have S7 := S6.call hx7
    have k47 := k46.call hx7
    have ka7 := ka6.call hx7
    have kb7 := kb6.call hx7
    have x67 := x66.on hx7
    have xg7 := xg.on hx7
    clear S6 B6 k46 ka6 kb6 x66 xg hx7
    go_wp2_with fail
    refine (refSpCheck_any Ag mg cg G w7 hmg'.out (by unfold maxLen; omega) xg7).mono ?_
    rintro e w8 ⟨rfl, hx8⟩
    have B8 := B7.trans (hx8.mono B7.size)
    have S8 := S7.call hx8
    have k48 := k47.call hx8
    have ka8 := ka7.call hx8
    have kb8 := kb7.call hx8
    have x68 := x67.on hx8
    have xg8 := xg7.on hx8
    clear S7 B7 k47 ka7 kb7 x67 xg7 hx8
    by_cases he1 : e1 = 0
    · subst he1
      obtain ⟨hck, hLG⟩ := hlaw'.out.2.2.2 rfl
      subst hck
      have hmm1 : mg = m1 := by rw [← hmg'.out, ← hm1'.out, hLG]
      subst hmm1
      go_wp2_with fail
      refine (sameT_any A6 Ag mg p6 cg L1 G w8 hm1'.out m6 hLG.symm x68 xg8).mono ?_
      rintro e w9 ⟨rfl, hx9⟩
      have B9 := B8.trans (hx9.mono B8.size)
      have S9 := S8.call hx9
      have k49 := k48.call hx9
      have ka9 := ka8.call hx9
      have kb9 := kb8.call hx9
      have x69 := x68.on hx9
      clear S8 B8 k48 ka8 kb8 x68 xg8 hx9
      go_upto_region 13 with (first
        | (go_at_call 12; refine (marks_any A6 mg p6 L1 w9 hm1'.out (by have := hlaw'.out.1.len; have := hm1'.out; omega) x69 hlaw'.out.1.1).mono ?_; rintro e wm ⟨cm, rfl, hcm, hxm⟩; have hCm := Lib.hid (copyB wm Y cm _ hY.size hcm))
        | (rw [hYe'.out]; refine wpList_store_row rfl 46 (.tmp 15) (.tmp 81) rfl wm.heap.size cm rfl rfl 46 _ hCm.out.new hCm.out.info hCm.out.size hCm.out.one ?_))
      have hxn := hxm.trans (hCm.out.below.mono hxm.size)
      have Bn := (B9).trans (hxn.mono (B9).size)
      have km := hCm.out.blk
      have Sn := (S9).call hxn
      have k4n := (k49).call hxn
      have kan := (ka9).call hxn
      have kbn := (kb9).call hxn
      obtain ⟨qm, hqm⟩ : ∃ q, wm.heap.size = q := ⟨_, rfl⟩
      obtain ⟨wn, hwn⟩ : ∃ wn, (wm.alloc (.cells Y 46)).setRow wm.heap.size cm = wn := ⟨_, rfl⟩
      have hqms : q5 < qm := by have := hxm.size; have := (kb9).lt; omega
      rw [hwn] at Bn km Sn k4n kan kbn ⊢
      rw [hqm] at km
      try simp only [hqm]
      clear hCm hxm hxn hwn hqm S9 B9 k49 ka9 kb9 x69
      have ca0 := Lib.hid hca.at_
      have cb0 := Lib.hid hcb.at_
      have cm0 := Lib.hid hcm.at_
      have Bn' := Lib.hid Bn
      have Sn' := Lib.hid Sn
      go_wp2_with fail
      go_loopw [16] (fun i wr => ∃ k : Nat, k ≤ 1024 ∧ i = .int .i64 k ∧ wr = wn) (fun i _ => 1024 - (intOf i).toNat)
      case atStart => exact ⟨0, by omega, rfl, rfl⟩
      case round =>
        obtain ⟨k, hk, rfl, rfl⟩ := hrel
        by_cases hlt : k < 1024
        · have hlt' : decide ((k : Int) < 1024) = true := by rw [decide_eq_true_eq]; omega
          have za := (kan.cell k).trans (ca0.out k hlt)
          have zb := (kbn.cell k).trans (cb0.out k hlt)
          have zm := (km.cell k).trans (cm0.out k hlt)
          have hl2 := hlaw'.out.2.1 k
          have hl3 := hlaw'.out.2.2.1 k
          have hki : (k : Int) < 1024 := by omega
          cases hmm2 : mem (k : Int) L1 with
          | true =>
            rw [hmm2] at zm
            rw [hmm2, if_pos rfl] at hl2
            rw [hl3 hmm2] at za
            rw [hl2] at zb
            clear hl2 hl3 hmm2
            go_wp2_with fail
            go_roundw
            case rel => exact ⟨k + 1, by omega, by go_num, trivial⟩
            case measure => simp [intOf]; omega
          | false =>
            rw [hmm2] at zm
            rw [hmm2, if_neg (by simp)] at hl2
            rw [hl2] at zb
            have hxx : (kd V k != kd V k) = false := by simp
            generalize kd V k = x at *
            clear hl2 hl3 hmm2
            go_wp2_with fail
            go_roundw
            case rel => exact ⟨k + 1, by omega, by go_num, trivial⟩
            case measure => simp [intOf]; omega
        · have hlt' : decide ((k : Int) < 1024) = false := by rw [decide_eq_false_iff_not]; omega
          have c4n := k4n.cell
          clear hlt
          go_wp2_with fail
          refine (HL.out b1 _ Sn'.out).mono ?_
          rintro e wz ⟨A7, p7, rfl, x7, f7, m7, Sz, Fz⟩
          have Bz := Bn'.out.trans (Fz.below Bn'.out.size (fun k hk e => by omega))
          have kaz := Fz.blk kan (by omega)
          have hs5 := Fz.size
          clear HL c4n
          go_upto_region 25 with (first
            | (go_at_call 7; refine (lawKinds_any b1 V2 wz Sz).mono ?_; rintro e wy ⟨cc, rfl, hcc, hxy⟩; have hCy := Lib.hid (copyN wy Z cc _ hZ.size hcc))
            | (rw [hZe'.out]; refine wpList_store_row rfl 38 (.tmp 18) (.tmp 120) rfl wy.heap.size cc rfl rfl 38 _ hCy.out.new hCy.out.info hCy.out.size hCy.out.one ?_))
          have hxx := hxy.trans (hCy.out.below.mono hxy.size)
          have By := Bz.trans (hxx.mono Bz.size)
          have kc := hCy.out.blk
          have kay := kaz.call hxx
          obtain ⟨qc, hqc⟩ : ∃ q, wy.heap.size = q := ⟨_, rfl⟩
          obtain ⟨wv, hwv⟩ : ∃ wv, (wy.alloc (.cells Z 38)).setRow wy.heap.size cc = wv := ⟨_, rfl⟩
          have hlenA := Lib.hid (copyN wv Z ca _ hZ.size hca).len
          have hlenC := Lib.hid hCy.out.len
          rw [hwv] at By kc kay ⊢
          rw [hqc] at kc
          try simp only [hqc]
          clear hCy hxy hxx hwv hqc Sz Bz kaz Fz
          by_cases he2 : e2 = 0
          · subst he2
            obtain ⟨hL2, hk2⟩ := hlaw2'.out rfl
            have hmm0 : mm = 0 := by rw [← hmm'.out, hL2]; rfl
            have hcc2 : NumsAre cc (kd V) := hcc.congr (fun p _ => by
              rw [hk2 p, hlaw'.out.2.1 p, hLG]
              by_cases hm : mem (p : Int) G = true
              · rw [if_pos hm]; exact (hlaw'.out.2.2.1 p (by rw [hLG]; exact hm)).symm
              · rw [if_neg hm, if_neg hm])
            have hce : cc = ca := hcc2.eq hca
            subst hce
            subst hmm0
            have heq := fun W => eqNums cc _ hcc2 W
            go_wp2_with (first
              | (refine wpList_load_midY 38 (.tmp 18) rfl (by rfl) qc 0 rfl cc.toList _ (rangeAt_blk kc) Try.underlying38 rfl hlenC.out ?_; rw [Array.toArray_toList])
              | (refine wpList_load_midY 38 (.tmp 7) rfl (by rfl) q 0 rfl cc.toList _ (rangeAt_blk kay) Try.underlying38 rfl hlenC.out ?_; rw [Array.toArray_toList]))
            refine (HA.out _).mono ?_
            rintro e wz2 ⟨rfl, hxz⟩
            go_wp2_with fail
            go_ret
            exact ⟨rfl, By.trans (hxz.mono By.size)⟩
          · have he2' : (e2 != 0) = true := by simpa using he2
            go_wp2_with fail
            refine (HA.out _).mono ?_
            rintro e wz2 ⟨rfl, hxz⟩
            go_wp2_with fail
            go_ret
            exact ⟨rfl, By.trans (hxz.mono By.size)⟩
    · have he1' : (e1 == 0) = false := by simpa using he1
      have he1n : (e1 != 0) = true := by simpa using he1
      go_upto_region 13 with (first
        | (go_at_call 12; refine (marks_any A6 m1 p6 L1 w8 hm1'.out (by have := hlaw'.out.1.len; have := hm1'.out; omega) x68 hlaw'.out.1.1).mono ?_; rintro e wm ⟨cm, rfl, hcm, hxm⟩; have hCm := Lib.hid (copyB wm Y cm _ hY.size hcm))
        | (rw [hYe'.out]; refine wpList_store_row rfl 46 (.tmp 15) (.tmp 81) rfl wm.heap.size cm rfl rfl 46 _ hCm.out.new hCm.out.info hCm.out.size hCm.out.one ?_))
      have hxn := hxm.trans (hCm.out.below.mono hxm.size)
      have Bn := (B8).trans (hxn.mono (B8).size)
      have km := hCm.out.blk
      have Sn := (S8).call hxn
      have k4n := (k48).call hxn
      have kan := (ka8).call hxn
      have kbn := (kb8).call hxn
      obtain ⟨qm, hqm⟩ : ∃ q, wm.heap.size = q := ⟨_, rfl⟩
      obtain ⟨wn, hwn⟩ : ∃ wn, (wm.alloc (.cells Y 46)).setRow wm.heap.size cm = wn := ⟨_, rfl⟩
      have hqms : q5 < qm := by have := hxm.size; have := (kb8).lt; omega
      rw [hwn] at Bn km Sn k4n kan kbn ⊢
      rw [hqm] at km
      try simp only [hqm]
      clear hCm hxm hxn hwn hqm S8 B8 k48 ka8 kb8 x68
      have ca0 := Lib.hid hca.at_
      have cb0 := Lib.hid hcb.at_
      have cm0 := Lib.hid hcm.at_
      have Bn' := Lib.hid Bn
      have Sn' := Lib.hid Sn
      go_wp2_with fail
      go_loopw [16] (fun i wr => ∃ k : Nat, k ≤ 1024 ∧ i = .int .i64 k ∧ wr = wn) (fun i _ => 1024 - (intOf i).toNat)
      case atStart => exact ⟨0, by omega, rfl, rfl⟩
      case round =>
        obtain ⟨k, hk, rfl, rfl⟩ := hrel
        by_cases hlt : k < 1024
        · have hlt' : decide ((k : Int) < 1024) = true := by rw [decide_eq_true_eq]; omega
          have za := (kan.cell k).trans (ca0.out k hlt)
          have zb := (kbn.cell k).trans (cb0.out k hlt)
          have zm := (km.cell k).trans (cm0.out k hlt)
          have hl2 := hlaw'.out.2.1 k
          have hl3 := hlaw'.out.2.2.1 k
          have hki : (k : Int) < 1024 := by omega
          cases hmm2 : mem (k : Int) L1 with
          | true =>
            rw [hmm2] at zm
            rw [hmm2, if_pos rfl] at hl2
            rw [hl3 hmm2] at za
            rw [hl2] at zb
            clear hl2 hl3 hmm2
            go_wp2_with fail
            go_roundw
            case rel => exact ⟨k + 1, by omega, by go_num, trivial⟩
            case measure => simp [intOf]; omega
          | false =>
            rw [hmm2] at zm
            rw [hmm2, if_neg (by simp)] at hl2
            rw [hl2] at zb
            have hxx : (kd V k != kd V k) = false := by simp
            generalize kd V k = x at *
            clear hl2 hl3 hmm2
            go_wp2_with fail
            go_roundw
            case rel => exact ⟨k + 1, by omega, by go_num, trivial⟩
            case measure => simp [intOf]; omega
        · have hlt' : decide ((k : Int) < 1024) = false := by rw [decide_eq_false_iff_not]; omega
          have c4n := k4n.cell
          clear hlt
          go_wp2_with fail
          refine (HA.out _).mono ?_
          rintro e wz ⟨rfl, hxz⟩
          go_wp2_with fail
          go_ret
          exact ⟨rfl, Bn'.out.trans (hxz.mono Bn'.out.size)⟩

set_option maxRecDepth 100000 in
theorem guardsChange_lifted (os : Os) (started : os.Started) (H : Type) (enc : TypeId × Value → H) :
    ReturnsInHanded {} Try.checked os 3 .any (Rows.guardsChangeSpec.pre6 enc Try.prog Try.f3 Rows.guardsChangeRow.domain false) (Rows.guardsChangeSpec.post enc Try.prog Try.f3 false true false false) := by
  refine returnsInHanded_of_change (C := Try.checked) own_ started (by kernel_rfl) Try.func3
    (ChangeSpec.witness6 (enc := enc) (C := Try.checked) false ⟨#[], #[.agg #[.slice none 0 0, .slice none 0 0, .slice none 0 0, .slice none 0 0], .agg #[.int .i64 0, .int .i64 0, .int .i64 0, .int .i64 0, .int .i64 0]], []⟩ 8 (by kernel_rfl) (by kernel_rfl) (by kernel_rfl) (by kernel_rfl)) ?_
  intro W base args ds gs before hval0 hW _ _
  have hval : ∀ (j : Nat) t v, Try.f3.params[j]? = some t → args[j]? = some v → Value.okWide Try.prog W .any base t v := hval0
  have hW' := hW
  obtain ⟨p, q, hA0, hV, rfl, _, _⟩ := hW
  have hA : DataW.TrodAll enc Try.prog W 0 (fun _ => true) true Try.f3.params.toList args.toList ds p := hA0
  rw [Try.params3] at hA hval
  obtain ⟨v0, v1, d0, d1, p0, p1, rfl, rfl, rfl, h0, h1⟩ := trodAll_two hA
  obtain ⟨rfl, rfl⟩ := trodVars_none hV
  obtain ⟨A1, A2, A3, Ar, n1, c1, n2, c2, n3, c3, nr, cr, rs, cs, gs, l, rfl, q1, r1, q2, r2, q3, r3, ql, rl, hz⟩ := openMadeE (hval 0 27 v0 rfl rfl) h0
  obtain ⟨pg, n, f, b, ev, rfl⟩ := openPlan (hval 1 31 v1 rfl rfl) h1
  simp only [List.append_nil] at hW'
  refine (changeLaw_any A1 A2 A3 Ar n1 c1 n2 c2 n3 c3 nr cr rs cs gs l pg n f b ev W q1 q2 q3 ql hz r1 r2 r3 rl).mono fun e W' ⟨he, hb⟩ => ?_
  subst he
  exact ⟨_, rfl, post_of_below (pv := []) hW' (fun _ _ _ => trodAll_mk1 (shut_bool Try.underlying4 true))
    (fun sp hsp => by rw [Try.params3]; exact trodAll_mk2 (WideElems.Trod_stays laidOut_ (by kernel_rfl) (of_decide_eq_true (by kernel_rfl)) h0 (fun x hx => hb.same (hW'.lt x (by simp [hx]))) (fun x hx => hsp x (by simp [hx]))) (WideElems.Trod_stays laidOut_ (by kernel_rfl) (of_decide_eq_true (by kernel_rfl)) h1 (fun x hx => hb.same (hW'.lt x (by simp [hx]))) (fun x hx => hsp x (by simp [hx]))))
    (fun _ _ => rfl) (by simp) hb (ok_one (by kernel_rfl) rfl (okWide_bool_mk Try.underlying4 true))⟩
theorem guardsChange_holds : Rows.GuardsChangeSaid :=
  OpenClaim.holds_of_wide 3 Try.f3 rfl rfl rfl rfl rfl rfl rfl ⟨rfl, rfl, rfl, rfl, rfl⟩ rfl rfl rfl rfl rfl (by kernel_rfl) Try.func3 (by kernel_rfl)
    (of_decide_eq_true (by kernel_rfl)) (by unfold Func.isWrapper; rw [if_neg (of_decide_eq_false (by kernel_rfl))]; exact ⟨rfl, rfl⟩)
    (fun os started H enc _ => guardsChange_lifted os started H enc)
end Go.Proofs.Ytdepkmpilipolaa
