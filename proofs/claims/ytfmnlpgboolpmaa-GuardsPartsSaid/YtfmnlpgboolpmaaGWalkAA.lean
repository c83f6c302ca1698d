/- Walk: the law GuardsParts. -/
import Derived.Test.YtfmnlpgboolpmaaGWalkU
import Derived.Test.YtfmnlpgboolpmaaGWalkO
import Derived.Test.YtfmnlpgboolpmaaGSpecG
namespace Go.Proofs.Ytfmnlpgboolpmaa
open Go Go.Proofs Go.RowKit Go.Pol

/-- what the loops of the law ask of the parts of a plan -/
structure PartsF (pg n f b ev : Int) (G L : List Sp) (sm : Int) : Prop where
  guards : ∀ W, Calls Try.prog 27 #[planV pg n f b ev] W (SpansOwn W G 0)
  usable : ∀ W, Calls Try.prog 26 #[planV pg n f b ev] W (SpansR W L 0)
  count : ∀ W, Calls Try.prog 30 #[planV pg n f b ev] W fun e w' => e = .returned (.tuple #[.int .i64 sm, .int .i64 (n - sm), .int .i64 0]) ∧ Below W.heap.size W w'
  meet : ∀ A1 c1 A2 c2 (W : World), G.length ≤ c1 → c1 ≤ maxLen → RU W W.heap.size A1 G → L.length ≤ c2 → c2 ≤ maxLen → RU W W.heap.size A2 L →
    Calls Try.prog 35 #[.slice A1 G.length c1, .slice A2 L.length c2] W (SpansR W [] 0)
  union : ∀ A1 c1 A2 c2 (W : World), G.length ≤ c1 → c1 ≤ maxLen → RU W W.heap.size A1 G → L.length ≤ c2 → c2 ≤ maxLen → RU W W.heap.size A2 L → (A1 = none → c1 = 0) →
    Calls Try.prog 36 #[.slice A1 G.length c1, .slice A2 L.length c2] W fun e w' => ∃ (bb o cap : Nat), e = .returned (.tuple #[.slice (some ⟨bb, o, none⟩) 1 cap, .int .i64 0]) ∧ bb < w'.heap.size ∧ w'.cell? ⟨bb, o, none⟩ = some (.int .i64 pg) ∧ w'.cell? ⟨bb, o + 1, none⟩ = some (.int .i64 n) ∧ 1 ≤ cap ∧ cap ≤ maxLen ∧ Below W.heap.size W w'
  nth : ∀ (k : Nat) W, (k : Int) < sm → Calls Try.prog 17 #[planV pg n f b ev, .int .i64 k] W fun e w' => e = .returned (.tuple #[.int .i64 (pageAt L k), .int .i64 0]) ∧ Below W.heap.size W w'
  past : ∀ W, Calls Try.prog 17 #[planV pg n f b ev, .int .i64 sm] W fun e w' => e = .returned (.tuple #[.int .i64 0, .int .i64 7]) ∧ Below W.heap.size W w'
  index : ∀ (k : Nat) W, (k : Int) < sm → Calls Try.prog 19 #[planV pg n f b ev, .int .i64 (pageAt L k)] W fun e w' => e = .returned (.tuple #[.int .i64 k, .int .i64 0]) ∧ Below W.heap.size W w'
  has : ∀ (k : Nat) A c W, (k : Int) < sm → L.length ≤ c → c ≤ maxLen → RU W W.heap.size A L → Calls Try.prog 37 #[.slice A L.length c, .agg #[.int .i64 (pageAt L k), .int .i64 1]] W fun e w' => e = .returned (.tuple #[.bool true, .int .i64 0]) ∧ Below W.heap.size W w'
  pages : ∀ (k : Nat), (k : Int) < sm → 0 ≤ pageAt L k ∧ pageAt L k < 1024 ∧ lastAt L k < pageAt L k
  every : 0 < ev → ∀ x ∈ L, x.2 ≤ ev
  len : L.length ≤ 512
  lenG : G.length ≤ 512
  sum : 1 ≤ sm ∧ sm ≤ 1024

set_option maxRecDepth 100000 in
set_option maxHeartbeats 1600000 in
theorem partsLaw_of (pg n f b ev : Int) (w : World) (G L : List Sp) (sm : Int) (HP : chkG pg n f b ev = 0 → PartsF pg n f b ev G L sm) :
    Calls Try.prog 8 #[planV pg n f b ev] w fun e w' => e = .returned (.bool true) ∧ Below w.heap.size w w' := by
  have hb0 := (Below.refl w.heap.size w).alloc (Nat.le_refl _) (.cells (planC pg n f b ev) 25)
  have k0 := Blk.new w 25 (planC pg n f b ev)
  have z0 := k0.cell
  by_cases hc : chkG pg n f b ev = 0
  · obtain ⟨H1, H2, H3, H4, H5, H6, H7, H8, H9, hpg, hev, hlL, hlG, hsm⟩ := HP hc
    have hn1 := (chkG_zero.1 hc).n1
    have hn0 := (chkG_zero.1 hc).n0
    have hp0 := (chkG_zero.1 hc).pg0
    clear HP
    replace H1 := Lib.hid H1
    replace H2 := Lib.hid H2
    replace H3 := Lib.hid H3
    replace H4 := Lib.hid H4
    replace H5 := Lib.hid H5
    replace H6 := Lib.hid H6
    replace H7 := Lib.hid H7
    replace H8 := Lib.hid H8
    replace H9 := Lib.hid H9
    replace hpg := Lib.hid hpg
    replace hev := Lib.hid hev
    obtain ⟨gl, hgl⟩ : ∃ gl, G.length = gl := ⟨_, rfl⟩
    obtain ⟨ll, hll⟩ : ∃ ll, L.length = ll := ⟨_, rfl⟩
    have hll' := Lib.hid hll
    rw [hgl] at H4 H5 hlG
    rw [hll] at H4 H5 H9 hlL
    unfold SpansOwn at H1
    unfold SpansR at H2 H4
    rw [hgl] at H1
    rw [hll] at H2
    clear hc hgl hll
    go_enter Try.func8, Try.ntmps8
    go_wp2_with fail
    refine (H1.out _).mono ?_
    rintro e w1 ⟨A1, a1, rfl, r1, m1, n1, _, hb1, hz1⟩
    have B1 := hb0.trans (hb1.mono hb0.size)
    have k1 := k0.call hb1
    have z1 := k1.cell
    clear hb1 k0 z0 H1 hb0
    replace hz1 := Lib.hid hz1
    go_wp2_with fail
    refine (H2.out _).mono ?_
    rintro e w2 ⟨A2, a2, rfl, r2, m2, n2, _, hb2⟩
    have B2 := B1.trans (hb2.mono B1.size)
    have k2 := k1.call hb2
    have z2 := k2.cell
    have r1b := r1.on hb2
    clear hb2 k1 z1 r1 H2 B1
    go_wp2_with fail
    refine (H3.out _).mono ?_
    rintro e w3 ⟨rfl, hb3⟩
    have B3 := B2.trans (hb3.mono B2.size)
    have k3 := k2.call hb3
    have z3 := k3.cell
    have r1c := r1b.on hb3
    have r2c := r2.on hb3
    clear hb3 k2 z2 r1b r2 H3 B2
    go_wp2_with fail
    refine (H4.out _ _ _ _ _ m1 n1 r1c m2 n2 r2c).mono ?_
    rintro e w4 ⟨A4, a4, rfl, _, _, _, _, hb4⟩
    have B4 := B3.trans (hb4.mono B3.size)
    have k4 := k3.call hb4
    have z4 := k4.cell
    have r1d := r1c.on hb4
    have r2d := r2c.on hb4
    clear hb4 k3 z3 r1c r2c H4 B3
    go_wp2_with fail
    refine (H5.out _ _ _ _ _ m1 n1 r1d m2 n2 r2d hz1.out).mono ?_
    rintro e w5 ⟨bb, o, a5, rfl, hbl, hc5, hd5, i1, i2, hb5⟩
    have B5 := B4.trans (hb5.mono B4.size)
    have k5 := k4.call hb5
    have r2e := r2d.on hb5
    clear hb5 k4 z4 r1d r2d H5 B4
    have q1 := fun z : Ext w5 => (z.blk k5).cell
    have q2 := fun z : Ext w5 => z.cell hc5
    have q3 := fun z : Ext w5 => z.cell hd5
    have y1 : decide (sm < 1) = false := by simp; omega
    have y2 : decide (1024 < sm) = false := by simp; omega
    have y4 : (sm + (n - sm) != n) = false := by have : sm + (n - sm) = n := by omega
                                                 simp [this]
    go_upto_region 8 with fail
    refine region_ext (by kernel_rfl) (by kernel_rfl) ?_
    repeat (go_big_quiet_step (fail))
    refine wpQuiet_nil ?_
    rintro w6 ⟨⟨_, hw6⟩, rfl⟩
    have B6 := B5.trans (hw6.mono B5.size)
    have k6 := k5.call hw6
    have r2f := r2e.on hw6
    clear q1 q2 q3 hc5 hd5 hbl k5 r2e B5 hw6 y1 y2 y4 hz1
    go_wp2_with fail
    go_loopw [14] (fun i wr => ∃ k : Nat, k ≤ ll ∧ i = .int .i64 k ∧ Blk wr w.heap.size 25 (planC pg n f b ev) ∧ RU wr wr.heap.size A2 L ∧ Below w.heap.size w wr) (fun i _ => ll - (intOf i).toNat)
    case atStart => exact ⟨0, by omega, rfl, k6, r2f, B6⟩
    case round =>
      obtain ⟨k, hk, rfl, kS, hr, hB⟩ := hrel
      by_cases hlt : k < ll
      · have hlt' : decide ((k : Int) < (ll : Int)) = true := by simpa using hlt
        obtain ⟨bb, o, rfl, hbl, hc, hd⟩ := RU.at_' hr (k := k) (by have := hll'.out; omega)
        have hvx : Hid (0 < ev → (L.getD k (0,0)).2 ≤ ev) := Lib.hid (fun h => hev.out h _ (by rw [List.getD_eq_getElem?_getD, List.getElem?_eq_getElem (by have := hll'.out; omega)]; simp))
        generalize L.getD k (0,0) = z at *
        obtain ⟨xa, xb⟩ := z
        dsimp only at hc hd hvx
        have q1 := fun z : Ext wr => z.cell hd
        have q2 := fun z : Ext wr => (z.blk kS).cell
        by_cases h0 : 0 < ev
        · have h0' : decide (0 < ev) = true := by simpa using h0
          have h1' : decide (ev < xb) = false := by have := hvx.out h0; simp; omega
          go_upto_region 13 with fail
          refine region_ext (by kernel_rfl) (by kernel_rfl) ?_
          repeat (go_big_quiet_step (fail))
          refine wpQuiet_nil ?_
          rintro w7 ⟨⟨_, hw7⟩, rfl⟩
          have kS7 := kS.call hw7
          have hr7 := hr.on hw7
          have hB7 := hB.trans (hw7.mono hB.size)
          go_wp2_with fail
          go_roundw
          case rel => exact ⟨k + 1, by omega, by go_num, kS7, hr7, hB7⟩
          case measure => simp [intOf]; omega
        · have h0' : decide (0 < ev) = false := by simpa using h0
          go_upto_region 13 with fail
          refine region_ext (by kernel_rfl) (by kernel_rfl) ?_
          repeat (go_big_quiet_step (fail))
          refine wpQuiet_nil ?_
          rintro w7 ⟨⟨_, hw7⟩, rfl⟩
          have kS7 := kS.call hw7
          have hr7 := hr.on hw7
          have hB7 := hB.trans (hw7.mono hB.size)
          go_wp2_with fail
          go_roundw
          case rel => exact ⟨k + 1, by omega, by go_num, kS7, hr7, hB7⟩
          case measure => simp [intOf]; omega
      · have hlt' : decide ((k : Int) < (ll : Int)) = false := by simp; omega
        go_wp2_with fail
        clear k6 r2f B6 hk hlt
        go_loopw [15, 16] (fun la i wr => ∃ k : Nat, (k : Int) ≤ sm ∧ i = .int .i64 k ∧ la = .int .i64 (lastAt L k) ∧ Blk wr w.heap.size 25 (planC pg n f b ev) ∧ RU wr wr.heap.size A2 L ∧ Below w.heap.size w wr) (fun _ i _ => sm.toNat - (intOf i).toNat)
        case atStart => exact ⟨0, by omega, rfl, rfl, kS, hr, hB⟩
        case round =>
          clear kS hr hB hlt'
          obtain ⟨k, hk, rfl, rfl, kS, hr, hB⟩ := hrel
          by_cases hlt : (k : Int) < sm
          · have hlt' : decide ((k : Int) < sm) = true := by simpa using hlt
            have N1 := Lib.hid (fun W => H6.out k W hlt)
            have N2 := Lib.hid (fun W => H8.out k W hlt)
            have N3 := Lib.hid (fun A c W => H9.out k A c W hlt)
            obtain ⟨p0, p1, p2⟩ := hpg.out k hlt
            have hsucc := Lib.hid (lastAt_succ L k)
            generalize pageAt L k = q at *
            generalize lastAt L k = la at *
            have y1 : decide (q ≤ la) = false := by simp; omega
            have y2 : decide (1024 ≤ q) = false := by simp; omega
            have z1 := kS.cell
            go_wp2_with fail
            refine (N1.out _).mono ?_
            rintro e w7 ⟨rfl, hb7⟩
            have B7 := hB.trans (hb7.mono hB.size)
            have k7 := kS.call hb7
            have z7 := k7.cell
            have r7 := hr.on hb7
            clear N1 z1 kS hr hB hb7
            go_wp2_with fail
            refine (N2.out _).mono ?_
            rintro e w8 ⟨rfl, hb8⟩
            have B8 := B7.trans (hb8.mono B7.size)
            have k8 := k7.call hb8
            have r8 := r7.on hb8
            clear N2 z7 k7 r7 B7 hb8
            go_wp2_with fail
            refine (N3.out _ _ _ m2 n2 r8).mono ?_
            rintro e w9 ⟨rfl, hb9⟩
            have B9 := B8.trans (hb9.mono B8.size)
            have k9 := k8.call hb9
            have r9 := r8.on hb9
            clear N3 k8 r8 B8 hb9
            go_wp2_with fail
            go_roundw
            case rel => exact ⟨k + 1, by omega, by go_num, by rw [hsucc.out], k9, r9, B9⟩
            case measure => simp [intOf]; omega
          · have hlt' : decide ((k : Int) < sm) = false := by simp; omega
            have z1 := kS.cell
            go_wp2_with fail
            refine (H7.out _).mono ?_
            rintro e w7 ⟨rfl, hb7⟩
            have B7 := hB.trans (hb7.mono hB.size)
            go_wp2_with fail
            refine (awake_any _).mono ?_
            rintro e w8 ⟨rfl, hb8⟩
            go_wp2_with fail
            go_ret
            exact ⟨rfl, B7.trans (hb8.mono B7.size)⟩
  · clear HP
    have H1 := Lib.hid (fun W => guards_any pg n f b ev W)
    have H2 := Lib.hid (fun W => usable_any pg n f b ev W)
    have H3 := Lib.hid (fun W => count_any pg n f b ev W)
    have H4 := Lib.hid (fun W => gcheck_any pg n f b ev W)
    unfold guardsF at H1
    unfold countF at H3
    rw [if_neg hc] at H1 H2 H3
    have hc' : (chkG pg n f b ev != 0) = true := by simpa using hc
    have x1 : (chkG pg n f b ev == chkG pg n f b ev) = true := by simp
    generalize chkG pg n f b ev = er at *
    clear hc
    unfold SpansR at H1 H2
    go_enter Try.func8, Try.ntmps8
    go_wp2_with fail
    refine (H1.out _).mono ?_
    rintro e w1 ⟨A1, a1, rfl, _, _, _, _, hb1⟩
    have B1 := hb0.trans (hb1.mono hb0.size)
    have k1 := k0.call hb1
    have z1 := k1.cell
    clear hb1 k0 z0 H1
    go_wp2_with fail
    refine (H2.out _).mono ?_
    rintro e w2 ⟨A2, a2, rfl, _, _, _, _, hb2⟩
    have B2 := B1.trans (hb2.mono B1.size)
    have k2 := k1.call hb2
    have z2 := k2.cell
    clear hb2 k1 z1 H2 B1
    go_wp2_with fail
    refine (H3.out _).mono ?_
    rintro e w3 ⟨rfl, hb3⟩
    have B3 := B2.trans (hb3.mono B2.size)
    have k3 := k2.call hb3
    have z3 := k3.cell
    clear hb3 k2 z2 H3 B2
    go_wp2_with fail
    refine (H4.out _).mono ?_
    rintro e w4 ⟨rfl, hb4⟩
    have B4 := B3.trans (hb4.mono B3.size)
    go_wp2_with fail
    refine (awake_any _).mono ?_
    rintro e w5 ⟨rfl, hb5⟩
    go_wp2_with fail
    go_ret
    exact ⟨rfl, B4.trans (hb5.mono B4.size)⟩

end Go.Proofs.Ytfmnlpgboolpmaa
