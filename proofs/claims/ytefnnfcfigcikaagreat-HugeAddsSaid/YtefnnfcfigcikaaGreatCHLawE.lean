/- The law HugeAdds: in a system that is as a state says, and without refusals, joining what Groups returns adds just this to the huge groups; Score counts it; then there is nothing more to join (whatever the state, of at most 60 spans of committed pages). -/
import Derived.Test.YtefnnfcfigcikaaGreatC9
namespace Go.Proofs.YtefnnfcfigcikaaGreat
open Go Go.Proofs Go.RowKit Go.Pol Go.ChangeShapes Go.WideShapes Go.Deep
attribute [local go_sem] Oper.semAt_some Go.Pol.wide_fn Go.Pol.wide_depth Go.Pol.wide_fn' Go.Pol.wide_depth'

theorem ascHA (C L : List Sp) (H : List Int) : AscX ((gsH C L H).filter hugeP) := by
  unfold AscX
  refine List.Pairwise.filter _ ?_
  rw [gsH_map, List.pairwise_map]
  exact grps_lt
theorem gsH_lenA (C L : List Sp) (H : List Int) : ((gsH C L H).filter hugeP).length ≤ 64 := by
  refine Nat.le_trans (List.length_filter_le _ _) ?_
  rw [gsH_map, List.length_map]
  exact Nat.le_of_eq (by decide)
/-- Choose of no page -/
theorem chooseNone_any (C L : List Sp) (H : List Int) (hz : chkH C L H = 0) (S : Value) (w : World) (hS : StIs w S C L H) :
    Calls Tryz.prog 28 #[S, .int .i64 0] w fun e w' => ∃ (A : Option Addr) (cap : Nat), e = .returned (.tuple #[.slice A 0 cap, .int .i64 0]) ∧ Below w.heap.size w w' := by
  have ho := ord_ok (C := C) (L := L) (H := H)
  have h := choose_any S C L H 0 _ w hS (sortsTo_ord _ _ (ascHA C L H) ho.1 (ho.2.imp fun h => leX_iff.2 h) (by have := gsH_lenA C L H; omega)) ho.1
  rw [choose_none hz] at h
  refine h.mono ?_
  rintro e w' ⟨A, cap, rfl, _, _, _, hb⟩
  exact ⟨A, cap, rfl, hb⟩
set_option maxRecDepth 100000 in
set_option maxHeartbeats 3200000 in
theorem addsLaw_any (A1 A2 A3 : Option Addr) (n1 c1 n2 c2 n3 c3 : Nat) (C L : List Sp) (H : List Int) (w : World) (h1 : C.length = n1) (h2 : n1 ≤ maxLen) (h3 : RU w w.heap.size A1 C)
    (h4 : L.length = n2) (h5 : n2 ≤ maxLen) (h6 : RU w w.heap.size A2 L) (h7 : H.length = n3) (h8 : n3 ≤ maxLen) (h9 : RI w w.heap.size A3 H) :
    Calls Tryz.prog 4 #[.agg #[.slice A1 n1 c1, .slice A2 n2 c2, .slice A3 n3 c3]] w fun e w' => e = .returned (.bool true) ∧ Below w.heap.size w w' := by
  have hst : StIs w (.agg #[.slice A1 n1 c1, .slice A2 n2 c2, .slice A3 n3 c3]) C L H := ⟨A1, A2, A3, n1, c1, n2, c2, n3, c3, rfl, h1, h2, h3, h4, h5, h6, h7, h8, h9⟩
  have hb0 := (Below.refl w.heap.size w).alloc (Nat.le_refl _) (.cells #[.slice A1 n1 c1, .slice A2 n2 c2, .slice A3 n3 c3] 52)
  have k0 := Blk.new w 52 #[.slice A1 n1 c1, .slice A2 n2 c2, .slice A3 n3 c3]
  have s0 := hst.on hb0
  have c0 := k0.cell
  have HF := Lib.hid (fun W => far13_any A1 A2 A3 n1 c1 n2 c2 n3 c3 70 W)
  have HC := Lib.hid (fun W (h : StIs W (.agg #[.slice A1 n1 c1, .slice A2 n2 c2, .slice A3 n3 c3]) C L H) => rcheck13_any _ C L H W h)
  have HA := Lib.hid (fun W => awake13_any W)
  obtain ⟨er, her⟩ : ∃ er, chkH C L H = er := ⟨_, rfl⟩
  rw [her] at HC
  cases hfar : farP n1 n2 n3 70 with
  | true =>
    rw [hfar] at HF
    clear HC hfar her hst h1 h2 h3 h4 h5 h6 h7 h8 h9
    go_enter Tryz.func4, Tryz.ntmps4
    go_wp2_with fail
    refine (HF.out _).mono ?_
    rintro e w1 ⟨rfl, hb1⟩
    have B1 := hb0.trans (hb1.mono hb0.size)
    go_wp2_with fail
    refine (HA.out _).mono ?_
    rintro e w2 ⟨rfl, hb2⟩
    go_wp2_with fail
    go_ret
    exact ⟨rfl, B1.trans (hb2.mono B1.size)⟩
  | false =>
    rw [hfar] at HF
    by_cases hz : er = 0
    · subst hz
      have hgo : Hid (n1 ≤ 60 → n1 ≤ 1000 ∧ n3 ≤ 1000) := Lib.hid (fun h => ⟨by omega, by
        unfold farP at hfar
        simp only [Bool.or_eq_false_iff, decide_eq_false_iff_not] at hfar
        omega⟩)
      by_cases hlt : n1 ≤ 60
      · have hlt' : decide ((60 : Int) < (n1 : Int)) = false := by rw [decide_eq_false_iff_not]; omega
        obtain ⟨m1, m3⟩ := hgo.out hlt
        obtain ⟨hnr, V1, hj, hset, hlive, hck, hlen, hwh⟩ := adds_law her
        have HS := Lib.hid (fun W (r1 : RU W W.heap.size A1 C) (r3 : RI W W.heap.size A3 H) => sys13_any A1 A3 none none n1 c1 n3 c3 0 0 0 0 C H [] [] W h1 h7 rfl rfl ⟨m1, m3, by omega, by omega⟩ (fun _ => rfl) r1 r3 (fun k hk => absurd hk (by simp [fl])) (fun k hk => absurd hk (by simp [fl])))
        have HG := Lib.hid (fun W (h : StIs W (.agg #[.slice A1 n1 c1, .slice A2 n2 c2, .slice A3 n3 c3]) C L H) => groupsN_any _ C L H 0 W h)
        have HSc := Lib.hid (fun S X W (h : StIs W S C L X) => score_any S C L X W h)
        have HJ := Lib.hid (fun b W (hV : SysIs W b (sysF C H [] [])) (h : StIs W (.agg #[.slice A1 n1 c1, .slice A2 n2 c2, .slice A3 n3 c3]) C L H) => hjoin_any b 0 _ C L H _ W hV (sysF_kind _ _ _ _) h)
        have HT := Lib.hid (fun b W (hV : SysIs W b V1) (r : RU W W.heap.size A2 L) => stated_any b A2 n2 c2 L V1 W hV h4 h5 r)
        have HCh := Lib.hid (fun S W (h : StIs W S C L (hugesF V1 1024)) => chooseNone_any C L _ hck S W h)
        have hGA : groupsA C L H 0 = (wholeF C H, 0) := by
          unfold groupsA
          rw [if_neg (by rw [her]; simp), if_neg (by omega), groups_whole]
        have hSA : scoreA C L H = ((H.length : Int), ((wholeF C H).length : Int), idleF L H, (0 : Int)) := by
          unfold scoreA
          rw [if_neg (by rw [her]; simp)]
        have hSB : scoreA C L (hugesF V1 1024) = (((hugesF V1 1024).length : Int), (0 : Int), idleF L (hugesF V1 1024), (0 : Int)) := by
          unfold scoreA
          rw [if_neg (by rw [hck]; simp), hwh]; rfl
        have HSa := Lib.hid (fun W (h : StIs W (.agg #[.slice A1 n1 c1, .slice A2 n2 c2, .slice A3 n3 c3]) C L H) => HSc.out _ H W h)
        have HSb := Lib.hid (fun S W (h : StIs W S C L (hugesF V1 1024)) => HSc.out S _ W h)
        rw [hSA, h7] at HSa
        rw [hSB, hlen, h7] at HSb
        rw [hj] at HJ
        rw [hGA] at HG
        unfold StatedO at HT
        rw [hset, hlive, hck] at HT
        unfold JoinO at HJ
        unfold IntsN at HG
        simp only at HJ HG HSa HSb
        have R0 := Lib.hid (And.intro (h3.on hb0) (And.intro (h6.on hb0) (RI.on h9 hb0)))
        have S0 := Lib.hid s0
        have hm1 : (wholeF C H).length ≤ 64 := by
          unfold wholeF
          exact Nat.le_trans (List.length_filter_le _ _) (Nat.le_of_eq (by decide))
        generalize hugesF V1 1024 = HH at *
        generalize wholeF C H = gs at *
        generalize sysF C H [] [] = V0 at *
        obtain ⟨m, hm⟩ : ∃ m, gs.length = m := ⟨_, rfl⟩
        have hm' := Lib.hid hm
        rw [hm] at HG HSa HJ hm1 HSb
        have K0 := Lib.hid k0
        have x1 : ((n3 : Int) != (n3 : Int)) = false := by simp
        have x2 : ((m : Int) != (m : Int)) = false := by simp
        have x3 : wrap64 ((n3 : Int) + (m : Int)) = (((n3 + m : Nat) : Nat) : Int) := by unfold wrap64; omega
        have x4 : (((n3 + m : Nat) : Int) != ((n3 + m : Nat) : Int)) = false := by simp
        have x5 : (((n3 + m : Nat) : Int) == ((n3 + m : Nat) : Int)) = true := by simp
        have hlen' : Hid (HH.length = n3 + m) := Lib.hid (by rw [hlen, h7, hm])
        clear hj hset hlive hck hwh hGA hSA hSB HSc hgo hnr her hfar hst h1 h2 h3 h4 h5 h6 h7 h8 h9 hlen hm hlt m1 m3
        go_enter Tryz.func4, Tryz.ntmps4
        go_upto_region 1 with fail
        generalize w.alloc _ = w0 at *
        go_wp2_with fail
        refine (HF.out _).mono ?_
        rintro e w1 ⟨rfl, hb1⟩
        have B1 := hb1
        have k1 := k0.call B1
        have s1 := s0.on B1
        have c1 := k1.cell
        clear HF k0 s0 c0 hb1
        go_wp2_with fail
        refine (HC.out _ s1).mono ?_
        rintro e w2 ⟨rfl, hb2⟩
        have B2 := B1.trans (hb2.mono B1.size)
        have k2 := K0.out.call B2
        have c2 := k2.cell
        clear HC B1 k1 s1 c1 hb2
        go_wp2_with fail
        have r1s := R0.out.1.on B2
        have r3s := RI.on R0.out.2.2 B2
        refine (HS.out _ r1s r3s).mono ?_
        rintro e w3 ⟨b, rfl, V3, hbb, hb3⟩
        have B3 := B2.trans (hb3.mono B2.size)
        have k3 := K0.out.call B3
        have s3 := S0.out.on B3
        have c3 := k3.cell
        have hb0b : w0.heap.size ≤ b := Nat.le_trans B2.size hbb
        have hbl3 := V3.lt
        clear HS r1s r3s B2 k2 c2 hb3 hbb
        go_wp2_with fail
        refine (HG.out _ s3).mono ?_
        rintro e w4 ⟨A4, p4, rfl, r4, f4, hb4⟩
        have B4 := B3.trans (hb4.mono B3.size)
        have k4 := K0.out.call B4
        have s4 := S0.out.on B4
        have c4 := k4.cell
        have V4 := V3.call hb4
        clear HG B3 k3 s3 c3 V3 hb4
        go_wp2_with fail
        refine (HSa.out _ s4).mono ?_
        rintro e w5 ⟨rfl, hb5⟩
        have B5 := B4.trans (hb5.mono B4.size)
        have k5 := K0.out.call B5
        have s5 := S0.out.on B5
        have c5 := k5.cell
        have V5 := V4.call hb5
        have r5 := RI.on r4 hb5
        clear HSa B4 k4 s4 c4 V4 r4 hb5
        go_wp2_with fail
        refine (HJ.out b _ V5 s5).mono ?_
        rintro e w6 ⟨A6, p6, rfl, r6, f6, V6, F6⟩
        have B6 := B5.trans (F6.below B5.size (fun k hk e => by omega))
        have k6 := K0.out.call B6
        have c6 := k6.cell
        have x6 := RI.more (F6.ri r5 (fun g o e h => by have := f4 g o e; omega)) F6.size
        have l6 := R0.out.2.1.on B6
        clear HJ B5 k5 s5 c5 V5 r5 F6
        go_wp2_with fail
        refine (HT.out b _ V6 l6).mono ?_
        rintro e w7 ⟨S, rfl, hS, hb7⟩
        have B7 := B6.trans (hb7.mono B6.size)
        have k7 := K0.out.call B7
        have x7 := RI.on x6 hb7
        have r7 := RI.on r6 hb7
        obtain ⟨D1, D2, D3, t1, d1, t2, d2, t3, d3, rfl, _, _, _, _, _, _, hl3, _, _⟩ := hS.ex
        have ht3 : t3 = n3 + m := hl3.symm.trans hlen'.out
        subst ht3
        have hb8 := (Below.refl w7.heap.size w7).alloc (Nat.le_refl _) (.cells #[.slice D1 t1 d1, .slice D2 t2 d2, .slice D3 (n3 + m) d3] 52)
        have kS := Blk.new w7 52 #[.slice D1 t1 d1, .slice D2 t2 d2, .slice D3 (n3 + m) d3]
        have k8 := k7.call hb8
        have S8 := hS.on hb8
        have x8 := RI.on x7 hb8
        have r8 := RI.on r7 hb8
        have B8 := B7.trans (hb8.mono B7.size)
        have c8 := k8.cell
        have cS := kS.cell
        clear HT B6 k6 c6 V6 l6 x6 r6 hb7 B7 k7 x7 r7 hS hb8 f4 f6
        go_upto_region 10 with fail
        generalize w7.alloc _ = w8 at *
        go_wp2_with fail
        refine (ints13_any A4 A6 m p4 p6 gs w8 hm'.out (by omega) x8 r8).mono ?_
        rintro e w9 ⟨rfl, hb9⟩
        have B9 := B8.trans (hb9.mono B8.size)
        have k9 := k8.call hb9
        have kT := kS.call hb9
        have S9 := S8.on hb9
        have c9 := k9.cell
        have cT := kT.cell
        clear x8 r8 B8 k8 kS S8 c8 cS hb9
        go_wp2_with fail
        refine (HSb.out _ _ S9).mono ?_
        rintro e w10 ⟨rfl, hb10⟩
        have B10 := B9.trans (hb10.mono B9.size)
        have kU := kT.call hb10
        have S10 := S9.on hb10
        have cU := kU.cell
        clear B9 k9 kT S9 c9 cT hb10 HSb
        go_wp2_with fail
        refine (HCh.out _ _ S10).mono ?_
        rintro e w11 ⟨A11, p11, rfl, hb11⟩
        have B11 := B10.trans (hb11.mono B10.size)
        have kW := kU.call hb11
        have cW := kW.cell
        clear B10 kU S10 cU hb11 HCh
        go_wp2_with fail
        refine (HA.out _).mono ?_
        rintro e w12 ⟨rfl, hb12⟩
        go_wp2_with fail
        go_ret
        exact ⟨rfl, hb0.trans ((B11.trans (hb12.mono B11.size)).mono hb0.size)⟩
      · have hlt' : decide ((60 : Int) < (n1 : Int)) = true := by rw [decide_eq_true_eq]; omega
        clear hlt hgo hfar her hst h1 h2 h3 h4 h5 h6 h7 h8 h9
        go_enter Tryz.func4, Tryz.ntmps4
        go_wp2_with fail
        refine (HF.out _).mono ?_
        rintro e w1 ⟨rfl, hb1⟩
        have B1 := hb0.trans (hb1.mono hb0.size)
        have k1 := k0.call hb1
        have s1 := s0.on hb1
        have c1 := k1.cell
        clear hb0 hb1 k0 s0 c0
        go_wp2_with fail
        refine (HC.out _ s1).mono ?_
        rintro e w2 ⟨rfl, hb2⟩
        have B2 := B1.trans (hb2.mono B1.size)
        have c2 := (k1.call hb2).cell
        clear hb2 k1 s1 c1 B1
        go_wp2_with fail
        refine (HA.out _).mono ?_
        rintro e w3 ⟨rfl, hb3⟩
        go_wp2_with fail
        go_ret
        exact ⟨rfl, B2.trans (hb3.mono B2.size)⟩
    · have hz' : (er != 0) = true := by simpa using hz
      clear hz hfar her hst h1 h2 h3 h4 h5 h6 h7 h8 h9
      go_enter Tryz.func4, Tryz.ntmps4
      go_wp2_with fail
      refine (HF.out _).mono ?_
      rintro e w1 ⟨rfl, hb1⟩
      have B1 := hb0.trans (hb1.mono hb0.size)
      have k1 := k0.call hb1
      have s1 := s0.on hb1
      have c1 := k1.cell
      clear hb0 hb1 k0 s0 c0
      go_wp2_with fail
      refine (HC.out _ s1).mono ?_
      rintro e w2 ⟨rfl, hb2⟩
      have B2 := B1.trans (hb2.mono B1.size)
      go_wp2_with fail
      refine (HA.out _).mono ?_
      rintro e w3 ⟨rfl, hb3⟩
      go_wp2_with fail
      go_ret
      exact ⟨rfl, B2.trans (hb3.mono B2.size)⟩

set_option maxRecDepth 100000 in
theorem hugeAdds_lifted (os : Os) (started : os.Started) (H : Type) (enc : TypeId × Value → H) :
    ReturnsInHanded {} Tryz.checked os 4 .any (Rows.hugeAddsSpec.pre6 enc Tryz.prog Tryz.f4 Rows.hugeAddsRow.domain false) (Rows.hugeAddsSpec.post enc Tryz.prog Tryz.f4 false true false false) := by
  refine returnsInHanded_of_change (C := Tryz.checked) own_ started (by kernel_rfl) Tryz.func4
    (ChangeSpec.witness6 (enc := enc) (C := Tryz.checked) false ⟨#[], #[.agg #[.slice none 0 0, .slice none 0 0, .slice none 0 0]], []⟩ 8 (by kernel_rfl) (by kernel_rfl) (by kernel_rfl) (by kernel_rfl)) ?_
  intro W base args ds gs before hval0 hW _ _
  have hval : ∀ (j : Nat) t v, Tryz.f4.params[j]? = some t → args[j]? = some v → Value.okWide Tryz.prog W .any base t v := hval0
  have hW' := hW
  obtain ⟨p, q, hA0, hV, rfl, _, _⟩ := hW
  have hA : DataW.TrodAll enc Tryz.prog W 0 (fun _ => true) true Tryz.f4.params.toList args.toList ds p := hA0
  rw [Tryz.params4] at hA hval
  obtain ⟨v0, d0, rfl, rfl, h0⟩ := trodAll_one hA
  obtain ⟨rfl, rfl⟩ := trodVars_none hV
  obtain ⟨A1, A2, A3, n1, c1, n2, c2, n3, c3, C, L, Hu, rfl, a1, a2, a3, b1, b2, b3, e1, e2, e3⟩ := openState (hval 0 52 v0 rfl rfl) h0
  simp only [List.append_nil] at hW'
  refine (addsLaw_any A1 A2 A3 n1 c1 n2 c2 n3 c3 C L Hu W a1 a2 a3 b1 b2 b3 e1 e2 e3).mono fun e W' ⟨he, hb⟩ => ?_
  subst he
  exact ⟨_, rfl, post_of_below (pv := []) hW' (fun _ _ _ => trodAll_mk1 (shut_bool Tryz.underlying4 true))
    (fun sp hsp => by rw [Tryz.params4]; exact trodAll_mk1 (WideElems.Trod_stays laidOut_ (by kernel_rfl) (of_decide_eq_true (by kernel_rfl)) h0 (fun x hx => hb.same (hW'.lt x (by simp [hx]))) (fun x hx => hsp x (by simp [hx]))))
    (fun _ _ => rfl) (by simp) hb (ok_one (by kernel_rfl) rfl (okWide_bool_mk Tryz.underlying4 true))⟩
theorem hugeAdds_holds : Rows.HugeAddsSaid :=
  OpenClaim.holds_of_wide 4 Tryz.f4 rfl rfl rfl rfl rfl rfl rfl ⟨rfl, rfl, rfl, rfl, rfl⟩ rfl rfl rfl rfl rfl (by kernel_rfl) Tryz.func4 (by kernel_rfl)
    (of_decide_eq_true (by kernel_rfl)) (by unfold Func.isWrapper; rw [if_neg (of_decide_eq_false (by kernel_rfl))]; exact ⟨rfl, rfl⟩)
    (fun os started H enc _ => hugeAdds_lifted os started H enc)
end Go.Proofs.YtefnnfcfigcikaaGreat
