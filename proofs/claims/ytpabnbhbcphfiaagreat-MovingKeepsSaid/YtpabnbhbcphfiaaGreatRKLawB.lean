/- The law MovingKeeps: whatever is done and refused, each block has in the place where it is then the committed pages and the bytes that it had; whatever the system (of at most 70 spans of each kind, 70 huge groups, 100 bytes and 55 rules), the blocks (of at most 12, and 100 pages together) and the moves (of at most 40). -/
import Derived.Test.YtpabnbhbcphfiaaGreatR8
namespace Go.Pol
open Go Go.RowKit
/-- what is read of two blocks -/
structure PairS (w : World) (s : Nat) (A : Value) (ab ao cb co : Nat) (pa pc o : Int) (pin : Bool) : Prop where
  a : w.cell? ⟨s, 1, none⟩ = some A
  a0 : w.cell? ⟨ab, ao, none⟩ = some (.int .i64 pa)
  a1 : w.cell? ⟨ab, ao + 1, none⟩ = some (.int .i64 o)
  a2 : w.cell? ⟨ab, ao + 2, none⟩ = some (.bool pin)
  c0 : w.cell? ⟨cb, co, none⟩ = some (.int .i64 pc)
  c1 : w.cell? ⟨cb, co + 1, none⟩ = some (.int .i64 o)
  c2 : w.cell? ⟨cb, co + 2, none⟩ = some (.bool pin)
theorem PairS.on {w w' : World} {s : Nat} {A : Value} {ab ao cb co : Nat} {pa pc o : Int} {pin : Bool} (h : PairS w s A ab ao cb co pa pc o pin) (hb : Below w.heap.size w w') : PairS w' s A ab ao cb co pa pc o pin :=
  ⟨(hb.cell (World.block_lt_of_cell? _ _ h.a)).trans h.a, (hb.cell (World.block_lt_of_cell? _ _ h.a0)).trans h.a0, (hb.cell (World.block_lt_of_cell? _ _ h.a1)).trans h.a1, (hb.cell (World.block_lt_of_cell? _ _ h.a2)).trans h.a2,
    (hb.cell (World.block_lt_of_cell? _ _ h.c0)).trans h.c0, (hb.cell (World.block_lt_of_cell? _ _ h.c1)).trans h.c1, (hb.cell (World.block_lt_of_cell? _ _ h.c2)).trans h.c2⟩
end Go.Pol
namespace Go.Proofs.YtpabnbhbcphfiaaGreat
open Go Go.Proofs Go.RowKit Go.Pol Go.ChangeShapes Go.WideShapes Go.Deep
attribute [local go_sem] Oper.semAt_some Go.Pol.wide_fn Go.Pol.wide_depth Go.Pol.wide_fn' Go.Pol.wide_depth'

theorem put64 (X Z : Array Value) (W : World) (g : Nat) (hX : X.size = 64) (hZ : Z.size = 64) (hk : Blk W g 85 Z) : Blk (W.setCells g 0 X.toList) g 85 X ∧ Far (fun k => k = g) W (W.setCells g 0 X.toList) ∧ W.there g 0 X.size := by
  have kP := Blk.puts (g := g) (t := 85) (w := W) (cs := #[]) X.toList 0 _ _ hk
  rw [putA_all (by rw [Array.length_toList, hX, hZ])] at kP
  exact ⟨kP, Far.puts (T := fun k => k = g) rfl X.toList 0 W _ (Far.refl _ W), z_there hk 0 _ (by omega)⟩
theorem put3 (X Z : Array Value) (W : World) (g : Nat) (hX : X.size = 3) (hZ : Z.size = 3) (hk : Blk W g 65 Z) : Blk (W.setCells g 0 X.toList) g 65 X ∧ Far (fun k => k = g) W (W.setCells g 0 X.toList) ∧ W.there g 0 X.size := by
  have kP := Blk.puts (g := g) (t := 65) (w := W) (cs := #[]) X.toList 0 _ _ hk
  rw [putA_all (by rw [Array.length_toList, hX, hZ])] at kP
  exact ⟨kP, Far.puts (T := fun k => k = g) rfl X.toList 0 W _ (Far.refl _ W), z_there hk 0 _ (by omega)⟩
theorem all3 (a b : Int) (c : Bool) : (#[.int .i64 a, .int .i64 b, .bool c] : Array Value).all (·.oneCell') = true :=
  Go.all_oneCell_toArray (cs := [.int .i64 a, .int .i64 b, .bool c]) (fun x hx => by simp only [List.mem_cons, List.not_mem_nil, or_false] at hx; rcases hx with rfl | rfl | rfl <;> rfl)
theorem infoMvS : (Tryz.prog.info? 65).map (·.size) = some 3 := by kernel_rfl
theorem comX_size (g : Pg) : (comX g).size = 64 := by simp [comX, arrI]
theorem comX_one (g : Pg) : (comX g).all (·.oneCell') = true := by
  unfold comX arrI
  exact Go.all_oneCell_toArray (fun x hx => by simp only [List.mem_map] at hx; obtain ⟨i, _, rfl⟩ := hx; rfl)
theorem comX_eq (g : Pg) (W : World) : (Op.equalIn 10000 85 (.agg (comX g)) (.agg (comX g))).run Tryz.prog W = .ok true W := by
  have h := eq64_any (fun k => if g.kind = 2 then g.byt k else 0) (fun k => if g.kind = 2 then g.byt k else 0) W
  rw [show (List.range 64).all (fun i => (if g.kind = 2 then g.byt i else 0) == (if g.kind = 2 then g.byt i else 0)) = true by simp] at h
  exact h
theorem CE.results {V U : Vm} {p q : Nat} (hp : p < 1024) (hq : q < 1024) (h : CE V U (p : Int) (q : Int)) : ((U.pg q).kind == 2) = ((V.pg p).kind == 2) ∧ comX (U.pg q) = comX (V.pg p) := by
  obtain ⟨h1, h2⟩ := h
  unfold kindF at h1 h2
  rw [if_pos (by omega), if_pos (by omega)] at h1
  rw [if_pos (by omega)] at h2
  simp only [Int.toNat_natCast] at h1 h2
  by_cases hk : (V.pg p).kind = 2
  · have hk2 := h1.1 hk
    refine ⟨by rw [hk, hk2], ?_⟩
    unfold comX
    exact arrI_congr fun k hkk => by rw [if_pos hk, if_pos hk2, h2 hk k hkk]
  · have hk2 : ¬ (U.pg q).kind = 2 := fun e => hk (h1.2 e)
    refine ⟨by rw [beq_eq_false_iff_ne.2 hk, beq_eq_false_iff_ne.2 hk2], ?_⟩
    unfold comX
    exact arrI_congr fun k _ => by rw [if_neg hk, if_neg hk2]
set_option maxRecDepth 100000 in
set_option maxHeartbeats 6400000 in
theorem keepsLaw_any (A1 A2 A3 Ah Aw Ar A M : Option Addr) (n1 c1 n2 c2 n3 c3 nh ch nw cw nr cr nb cb nm cm : Nat) (rs cs gs : List (Int × Int)) (hs : List Int) (ws : List (Int × Int)) (l : List Ru) (pages : Int) (bs : List B3) (ms : List (Int × Int)) (w : World)
    (h1 : rs.length = n1) (h2 : cs.length = n2) (h3 : gs.length = n3) (hhs : hs.length = nh) (hws : ws.length = nw) (hl : l.length = nr) (hz : Ar = none → cr = 0)
    (r1 : RU w w.heap.size A1 rs) (r2 : RU w w.heap.size A2 cs) (r3 : RU w w.heap.size A3 gs) (ri : RI w w.heap.size Ah hs) (rb : Rd w w.heap.size Aw (fl wrC ws)) (rr : Rd w w.heap.size Ar (fl ruC l))
    (hn : bs.length = nb) (hm : nb ≤ maxLen) (hzb : A = none → cb = 0) (hr : RT w w.heap.size A bs) (hmn : ms.length = nm) (hmm : nm ≤ maxLen) (hu : RU w w.heap.size M ms) :
    Calls Tryz.prog 6 #[.agg #[.slice A1 n1 c1, .slice A2 n2 c2, .slice A3 n3 c3, .slice Ah nh ch, .slice Aw nw cw, .slice Ar nr cr], .agg #[.int .i64 pages, .slice A nb cb, .slice M nm cm]] w fun e w' => e = .returned (.bool true) ∧ Below w.heap.size w w' := by
  have hb0 := ((Below.refl w.heap.size w).alloc (Nat.le_refl _) (.cells #[.slice A1 n1 c1, .slice A2 n2 c2, .slice A3 n3 c3, .slice Ah nh ch, .slice Aw nw cw, .slice Ar nr cr] 78)).alloc (by simp) (.cells #[.int .i64 pages, .slice A nb cb, .slice M nm cm] 59)
  have k3 := (Blk.new w 78 #[.slice A1 n1 c1, .slice A2 n2 c2, .slice A3 n3 c3, .slice Ah nh ch, .slice Aw nw cw, .slice Ar nr cr]).alloc (.cells #[.int .i64 pages, .slice A nb cb, .slice M nm cm] 59)
  have k4 := Blk.new (w.alloc (.cells #[.slice A1 n1 c1, .slice A2 n2 c2, .slice A3 n3 c3, .slice Ah nh ch, .slice Aw nw cw, .slice Ar nr cr] 78)) 59 #[.int .i64 pages, .slice A nb cb, .slice M nm cm]
  obtain ⟨s, hsz⟩ : ∃ s, w.heap.size = s := ⟨_, rfl⟩
  rw [World.size_alloc, hsz] at k4
  rw [hsz] at k3
  have q1 := Lib.hid ((r1.below hb0).more hb0.size)
  have q2 := Lib.hid ((r2.below hb0).more hb0.size)
  have q3 := Lib.hid ((r3.below hb0).more hb0.size)
  have qi := Lib.hid (RI.more (RI.below ri hb0) hb0.size)
  have qb := Lib.hid (rb.on_ hb0)
  have qr := Lib.hid (rr.on_ hb0)
  have qB := Lib.hid (hr.on hb0)
  have qM := Lib.hid ((hu.below hb0).more hb0.size)
  have qMs := Lib.hid (fun g o (e : M = some ⟨g, o, none⟩) (h : 0 < nm) => show g < s from by
    obtain ⟨b', o', e2, hb', _⟩ := hu 0 (by rw [hmn]; exact h)
    rw [e] at e2
    cases e2
    rw [hsz] at hb'; exact hb')
  have HGr := Lib.hid (fun W => great24_any A1 A2 A3 Ah Aw Ar n1 c1 n2 c2 n3 c3 nh ch nw cw nr cr W)
  have HCk := Lib.hid (fun W h => refCheck_any pages A nb cb bs W hn hm h)
  have HA := Lib.hid (fun W => awake24_any W)
  have hmG : greatG n1 n2 n3 nh nw nr = false → (n1 ≤ 1000 ∧ n2 ≤ 1000 ∧ n3 ≤ 1000) ∧ nh ≤ 1000 ∧ nw ≤ 1000 ∧ nr ≤ 1000 := fun h => by
    unfold greatG at h
    simp only [Bool.or_eq_false_iff, decide_eq_false_iff_not] at h
    omega
  have hmG' := Lib.hid hmG
  have hlen := Lib.hid (And.intro h1 (And.intro h2 (And.intro h3 (And.intro hhs (And.intro hws (And.intro hl hz))))))
  have hlenB := Lib.hid (And.intro hn (And.intro hm (And.intro hzb (And.intro hmn hmm))))
  clear r1 r2 r3 ri rb rr hr hu hmG h1 h2 h3 hhs hws hl hz hn hm hzb hmn hmm
  have hend : ∀ w1 w2 : World, Below w.heap.size w w1 → Below w1.heap.size w1 w2 → Below w.heap.size w w2 := fun w1 w2 h1 h2 => h1.trans (h2.mono h1.size)
  have hend' := Lib.hid hend
  clear hend
  cases hg : greatG n1 n2 n3 nh nw nr with
  | true =>
    rw [hg] at HGr
    clear hg hmG' HCk q1 q2 q3 qi qb qr qB qM qMs hlen hlenB
    go_enter Tryz.func6, Tryz.ntmps6
    go_upto_region 1 with fail
    generalize (w.alloc _).alloc _ = w0 at *
    try simp only [hsz]
    have c0 := k3.cell
    go_wp2_with fail
    refine (HGr.out _).mono ?_
    rintro e w1 ⟨rfl, hb1⟩
    have B1 := hb0.trans (hb1.mono hb0.size)
    have k41 := k4.call hb1
    have c1 := k41.cell
    clear c0
    go_wp2_with fail
    refine (HA.out _).mono ?_
    rintro e wz ⟨rfl, hbz⟩
    go_wp2_with fail
    go_ret
    exact ⟨rfl, hend'.out _ _ B1 hbz⟩
  | false =>
    rw [hg] at HGr
    have hmmG := Lib.hid (hmG'.out hg)
    clear hg hmG'
    by_cases h12 : 12 < nb
    · have h12' : decide ((12 : Int) < (nb : Int)) = true := by rw [decide_eq_true_eq]; omega
      clear HCk q1 q2 q3 qi qb qr qB qM qMs hlen hlenB hmmG h12
      go_enter Tryz.func6, Tryz.ntmps6
      go_upto_region 1 with fail
      generalize (w.alloc _).alloc _ = w0 at *
      try simp only [hsz]
      have c0 := k3.cell
      go_wp2_with fail
      refine (HGr.out _).mono ?_
      rintro e w1 ⟨rfl, hb1⟩
      have B1 := hb0.trans (hb1.mono hb0.size)
      have k41 := k4.call hb1
      have c1 := k41.cell
      clear c0
      go_wp2_with fail
      refine (HA.out _).mono ?_
      rintro e wz ⟨rfl, hbz⟩
      go_wp2_with fail
      go_ret
      exact ⟨rfl, hend'.out _ _ B1 hbz⟩
    have h12' : decide ((12 : Int) < (nb : Int)) = false := by rw [decide_eq_false_iff_not]; omega
    by_cases h40 : 40 < nm
    · have h40' : decide ((40 : Int) < (nm : Int)) = true := by rw [decide_eq_true_eq]; omega
      clear HCk q1 q2 q3 qi qb qr qB qM qMs hlen hlenB hmmG h12 h40
      go_enter Tryz.func6, Tryz.ntmps6
      go_upto_region 1 with fail
      generalize (w.alloc _).alloc _ = w0 at *
      try simp only [hsz]
      have c0 := k3.cell
      go_wp2_with fail
      refine (HGr.out _).mono ?_
      rintro e w1 ⟨rfl, hb1⟩
      have B1 := hb0.trans (hb1.mono hb0.size)
      have k41 := k4.call hb1
      have c1 := k41.cell
      clear c0
      go_wp2_with fail
      refine (HA.out _).mono ?_
      rintro e wz ⟨rfl, hbz⟩
      go_wp2_with fail
      go_ret
      exact ⟨rfl, hend'.out _ _ B1 hbz⟩
    have h40' : decide ((40 : Int) < (nm : Int)) = false := by rw [decide_eq_false_iff_not]; omega
    by_cases hck : chkB pages bs = 0
    case neg =>
      have hck' : (chkB pages bs != 0) = true := by simpa using hck
      generalize chkB pages bs = ck at *
      clear q1 q2 q3 qi qb qr qM qMs hlen hlenB hmmG h12 h40 hck
      go_enter Tryz.func6, Tryz.ntmps6
      go_upto_region 1 with fail
      generalize (w.alloc _).alloc _ = w0 at *
      try simp only [hsz]
      have c0 := k3.cell
      go_wp2_with fail
      refine (HGr.out _).mono ?_
      rintro e w1 ⟨rfl, hb1⟩
      have B1 := hb0.trans (hb1.mono hb0.size)
      have k41 := k4.call hb1
      have c1 := k41.cell
      clear c0
      go_wp2_with fail
      refine (HCk.out _ (qB.out.on hb1)).mono ?_
      rintro e w2 ⟨rfl, hb2⟩
      have B2 := hend'.out _ _ B1 hb2
      go_wp2_with fail
      refine (HA.out _).mono ?_
      rintro e wz ⟨rfl, hbz⟩
      go_wp2_with fail
      go_ret
      exact ⟨rfl, hend'.out _ _ B2 hbz⟩
    rw [hck] at HCk
    have ok0 := chkB_ok hck
    have hckH := Lib.hid hck
    obtain ⟨hp1, hnb64, hins⟩ := chk_ins hck
    have hibs := Lib.hid (fun i (hi : i < nb) => ins_bounds hp1 (hins (bs.getD i b0) (by rw [List.getD_eq_getElem?_getD, List.getElem?_eq_getElem (by rw [hlenB.out.1]; exact hi)]; exact List.getElem_mem _)))
    have hinb := Lib.hid (fun i (hi : i < nb) => ok_in ok0 (i := i) (by rw [hlenB.out.1]; exact hi))
    clear hck hins hnb64 ok0 hp1
    go_enter Tryz.func6, Tryz.ntmps6
    go_upto_region 1 with fail
    generalize (w.alloc _).alloc _ = w0 at *
    try simp only [hsz]
    have c0 := k3.cell
    go_wp2_with fail
    refine (HGr.out _).mono ?_
    rintro e w1 ⟨rfl, hb1⟩
    have B1 := hb0.trans (hb1.mono hb0.size)
    have k41 := k4.call hb1
    have c1 := k41.cell
    clear c0
    go_wp2_with fail
    refine (HCk.out _ (qB.out.on hb1)).mono ?_
    rintro e w2 ⟨rfl, hb2⟩
    have b02 := hb1.trans (hb2.mono hb1.size)
    have k42 := k41.call hb2
    clear HGr HCk c1 k41 B1 hb1 hb2
    go_wp2_with fail
    go_loopw [5, 6] (fun t v wr => ∃ (k : Nat) (x : Int), k ≤ nb ∧ v = .int .i64 k ∧ t = .int .i64 x ∧ (0 ≤ x ∧ x ≤ 1024 * (k : Int)) ∧ wr = w2) (fun _ v _ => nb - (intOf v).toNat)
    case atStart => exact ⟨0, 0, by omega, rfl, rfl, by omega, rfl⟩
    case round =>
      obtain ⟨k, x, hk, rfl, rfl, hxb, hw⟩ := hrel
      have hw' := hw.symm
      clear hw
      subst hw'
      have c4 := k42.cell
      by_cases hlt : k < nb
      · have hlt' : decide ((k : Int) < (nb : Int)) = true := by simpa using hlt
        obtain ⟨ab, ao, rfl, hab, p0, p1, p2⟩ := (qB.out.on b02).at_ (k := k) (by rw [hlenB.out.1]; exact hlt)
        have hib := hibs.out k hlt
        generalize bs.getD k b0 = blk at *
        obtain ⟨p, o, pin⟩ := blk
        simp only at p0 p1 p2 hib
        obtain ⟨n, hpn⟩ : ∃ n : Nat, pw o = (n : Int) := Int.eq_ofNat_of_zero_le (by have := pw_pos o; omega)
        have hn1 : n ≤ 1024 := by have := pw_le hib.1.2; omega
        have HSz := Lib.hid (fun W => refSize_any o W hib.1)
        rw [hpn] at HSz
        clear hpn p0 p2
        go_wp2_with fail
        refine (HSz.out _).mono ?_
        rintro e wy ⟨rfl, hwy⟩
        replace hwy := hwy.symm
        subst hwy
        clear c4 p1
        go_wp2_with fail
        go_roundw
        case rel => exact ⟨k + 1, x + n, by omega, by go_num, rfl, by omega, trivial⟩
        case measure => simp [intOf]; omega
      · obtain rfl : k = nb := by omega
        have hlt' : decide ((k : Int) < (k : Int)) = false := by simp
        by_cases h100 : 100 < x
        · have h100' : decide ((100 : Int) < x) = true := by simpa using h100
          clear q1 q2 q3 qi qb qr qM qMs hlen hmmG h100
          go_wp2_with fail
          refine (HA.out _).mono ?_
          rintro e wz ⟨rfl, hbz⟩
          go_wp2_with fail
          go_ret
          exact ⟨rfl, hend'.out _ _ (hend'.out _ _ (by rw [hsz]; rw [hsz] at hb0; exact hb0) b02) hbz⟩
        have h100' : decide ((100 : Int) < x) = false := by simpa using h100
        have B2 := b02
        clear h100
        go_upto_region 10 with fail
        clear c4
        obtain ⟨g1, g2, g3, gh, gw, gr, gz⟩ := hlen.out
        have k32 := k3.call b02
        refine keeps_first _ _ s A1 A2 A3 Ah Aw Ar n1 c1 n2 c2 n3 c3 nh ch nw cw nr cr rs cs gs hs ws l (Nat.le_of_ble_eq_true rfl) rfl k32 g1 g2 g3 gh gw gr hmmG.out gz ((q1.out.below B2).more B2.size) ((q2.out.below B2).more B2.size) ((q3.out.below B2).more B2.size) (RI.more (RI.below qi.out B2) B2.size) (qb.out.on_ B2) (qr.out.on_ B2) ?_
        intro b1 b2 w3 hb1 hb12 V1 V2 hb3
        simp only [mkput, Act.put, List.setIfInBounds_toArray, List.set_cons_succ, List.set_cons_zero]
        have B3 := B2.trans (hb3.mono B2.size)
        have hsz2 := B2.size
        have hsw0 := hb0.size
        have hKind := Lib.hid (sysG_kind rs cs gs hs ws l)
        generalize sysG rs cs gs hs ws l = V at *
        obtain ⟨gn, gm, gzb, gmn, gmm⟩ := hlenB.out
        obtain ⟨R, hR⟩ : ∃ R, doF V pages bs ms = R := ⟨_, rfl⟩
        have hkd := keeps_do (V := V) (ms := ms) hckH.out
        have hlR := doF_len V pages bs ms
        have HD := Lib.hid (fun W (h : SysIs W b1 V) (ht : RT W W.heap.size A bs) (hu : RU W W.heap.size M ms) => do24_any b1 pages A M k cb nm cm bs ms V W h hKind.out gn gm gzb ht gmn gmm hu (fun g o e h0 => by have := qMs.out g o e h0; omega))
        rw [hR] at HD hkd hlR
        rw [gn] at hlR
        unfold DoO at HD
        obtain ⟨rB, rS, er, V'⟩ := R
        simp only at HD hlR hkd
        have hkd' := Lib.hid hkd
        have hs1w := k42.lt
        have k43 := k42.call hb3
        have c43 := k43.cell
        have rt3 := qB.out.on B3
        have ru3 := (qM.out.below B3).more B3.size
        have hgn := Lib.hid gn
        clear hR q1 q2 q3 qi qb qr k3 k32 hlen hlenB hmmG g1 g2 g3 gh gw gr gz B2 gn gm gzb gmn gmm hkd hKind k42
        go_wp2_with fail
        refine (HD.out _ V1 rt3 ru3).mono ?_
        rintro e w4 ⟨A6, p6, A7, p7, rfl, x6, f6, x7, f7, V4, F4⟩
        have hb24 := V2.lt
        have hb12' : b2 ≠ b1 := by omega
        obtain ⟨ccs, _, _, _, kb1, _⟩ := V1.ex
        have V24 := V2.far F4 (by show ¬ b2 = b1; exact hb12') (fun _ _ _ _ _ _ g _ _ _ hc hg => hc.elim fun cr hcr => Blk.ne_ hcr kb1 (by decide) hg)
        have B4 := B3.trans (F4.below B3.size (fun k hk e => by omega))
        have k44 := F4.blk k43 (by show ¬ s + 1 = b1; omega)
        have c44 := k44.cell
        obtain ⟨m, hmr⟩ : ∃ m, rB.length = m := ⟨_, rfl⟩
        obtain ⟨m2, hmr2⟩ : ∃ m2, rS.length = m2 := ⟨_, rfl⟩
        have hm' := Lib.hid hmr
        have hm2' := Lib.hid hmr2
        rw [hmr] at hlR
        try simp only [hmr, hmr2]
        clear HD V1 V2 c43 rt3 ru3 kb1 hmr hmr2 k43
        rcases hkd'.out with ⟨he, hB0, hS0', hV0⟩ | ⟨hKI, hck2, he0⟩
        · have he' : (er != 0) = true := by simpa using he
          obtain rfl : m = 0 := by rw [← hm'.out, hB0]; rfl
          obtain rfl : m2 = 0 := by rw [← hm2'.out, hS0']; rfl
          subst hV0
          have hrl := (chkR_zero.1 V24.ok.plan).1
          clear hkd' he hlR
          go_wp2_with fail
          refine (save_any b1 V' w4 V4).mono ?_
          rintro e w5 ⟨X1, rfl, hX1, hb5⟩
          have B5 := B4.trans (hb5.mono B4.size)
          have V25 := V24.call hb5
          clear V4 V24 c44 k44
          go_wp2_with fail
          refine (save_any b2 V' w5 V25).mono ?_
          rintro e w6 ⟨X2, rfl, hX2, hb6⟩
          have B6 := B5.trans (hb6.mono B5.size)
          have hX1' := hX1.on hb6
          clear V25 hX1
          go_wp2_with fail
          refine (same6_any X1 X2 V' w6 hX1' hX2 (by omega)).mono ?_
          rintro e w7 ⟨rfl, hb7⟩
          have B7 := B6.trans (hb7.mono B6.size)
          go_wp2_with fail
          refine (HA.out _).mono ?_
          rintro e wz ⟨rfl, hbz⟩
          go_wp2_with fail
          go_ret
          exact ⟨rfl, hend'.out _ _ (hend'.out _ _ (by rw [hsz]; rw [hsz] at hb0; exact hb0) B7) hbz⟩
        · have hmk : m = k := by rw [← hm'.out, hKI.len, hgn.out]
          have hcond : m ≠ 0 ∨ er = 0 := by
            by_cases e : m = 0
            · exact .inr (he0 (List.eq_nil_of_length_eq_zero (by rw [hm'.out]; exact e)))
            · exact .inl e
          have HC2 := Lib.hid (refCheck_any pages A6 m p6 rB w4 hm'.out (by unfold maxLen; omega) x6)
          rw [hck2] at HC2
          have hKI' := Lib.hid hKI
          subst hmk
          clear hkd' hKI he0 hck2 f7 x7
          by_cases hm0 : m = 0
          · have he : er = 0 := hcond.resolve_left (fun h => h hm0)
            subst he
            subst hm0
            clear hcond
            go_wp2_with fail
            refine HC2.out.mono ?_
            rintro e w5 ⟨rfl, hb5⟩
            have V15 := Lib.hid (V4.call hb5)
            have V25 := Lib.hid (V24.call hb5)
            have k45 := k44.call hb5
            have x65 := Lib.hid (x6.on hb5)
            have B5 := B4.trans (hb5.mono B4.size)
            have qB5 := Lib.hid (qB.out.on B5)
            have c45 := k45.cell
            have hB5 := Lib.hid B5
            clear HC2 V4 V24 k44 c44 B4 x6 hb5 B5
            go_wp2_with fail
            clear c45
            go_loopw [12] (fun v wr => ∃ i : Nat, i ≤ 0 ∧ v = .int .i64 i ∧ Below w5.heap.size w5 wr) (fun v _ => 0 - (intOf v).toNat)
            case atStart => exact ⟨0, by omega, rfl, Below.refl _ _⟩
            case round =>
              obtain ⟨i, hi, rfl, hBi⟩ := hrel
              by_cases hlti : i < 0
              case neg =>
                have hlti' : decide ((i : Int) < (0 : Int)) = false := by rw [decide_eq_false_iff_not]; omega
                go_wp2_with fail
                refine (HA.out _).mono ?_
                rintro e wz ⟨rfl, hbz⟩
                go_wp2_with fail
                go_ret
                exact ⟨rfl, hend'.out _ _ (hend'.out _ _ (hend'.out _ _ (by rw [hsz]; rw [hsz] at hb0; exact hb0) hB5.out) hBi) hbz⟩
              have hlti' : decide ((i : Int) < (0 : Int)) = true := by rw [decide_eq_true_eq]; omega
              exact absurd hlti (by omega)
          · have hm0' : ((m : Int) == 0) = false := by rw [beq_eq_false_iff_ne]; omega
            clear hcond
            go_wp2_with fail
            refine HC2.out.mono ?_
            rintro e w5 ⟨rfl, hb5⟩
            have V15 := Lib.hid (V4.call hb5)
            have V25 := Lib.hid (V24.call hb5)
            have k45 := k44.call hb5
            have x65 := Lib.hid (x6.on hb5)
            have B5 := B4.trans (hb5.mono B4.size)
            have qB5 := Lib.hid (qB.out.on B5)
            have c45 := k45.cell
            have hB5 := Lib.hid B5
            clear HC2 V4 V24 k44 c44 B4 x6 hb5 B5
            go_wp2_with fail
            clear c45
            go_loopw [12] (fun v wr => ∃ i : Nat, i ≤ m ∧ v = .int .i64 i ∧ Below w5.heap.size w5 wr) (fun v _ => m - (intOf v).toNat)
            case atStart => exact ⟨0, by omega, rfl, Below.refl _ _⟩
            case round =>
              obtain ⟨i, hi, rfl, hBi⟩ := hrel
              by_cases hlti : i < m
              case neg =>
                have hlti' : decide ((i : Int) < (m : Int)) = false := by rw [decide_eq_false_iff_not]; omega
                go_wp2_with fail
                refine (HA.out _).mono ?_
                rintro e wz ⟨rfl, hbz⟩
                go_wp2_with fail
                go_ret
                exact ⟨rfl, hend'.out _ _ (hend'.out _ _ (hend'.out _ _ (by rw [hsz]; rw [hsz] at hb0; exact hb0) hB5.out) hBi) hbz⟩
              have hlti' : decide ((i : Int) < (m : Int)) = true := by rw [decide_eq_true_eq]; omega
              obtain ⟨ab, ao, rfl, hab, p0, p1, p2⟩ := (qB5.out.below hBi).at_ (k := i) (by rw [hgn.out]; exact hlti)
              obtain ⟨eb, eo, rfl, heb, d0, d1, d2⟩ := (x65.out.below hBi).at_ (k := i) (by rw [hm'.out]; exact hlti)
              have hib := hibs.out i hlti
              have hnA := hinb.out i hlti
              have hnC := ok_in hKI'.out.ok (i := i) (by rw [hm'.out]; exact hlti)
              obtain ⟨s1, s2⟩ := hKI'.out.same i (by rw [hgn.out]; exact hlti)
              have hcE := Lib.hid (hKI'.out.ce i (by rw [hgn.out]; exact hlti))
              generalize bs.getD i b0 = blk at *
              generalize rB.getD i b0 = blc at *
              obtain ⟨pa, o1, pin1⟩ := blk
              obtain ⟨pc, o, pin⟩ := blc
              simp only [Prod.mk.injEq] at p0 p1 p2 d0 d1 d2 hib hnA hnC s1 s2 hcE
              obtain ⟨rfl, rfl⟩ := s1
              have hpin := s2
              clear s2
              obtain ⟨n, hpn⟩ : ∃ n : Nat, pw o = (n : Int) := Int.eq_ofNat_of_zero_le (by have := pw_pos o; omega)
              have HSz := Lib.hid (fun W => refSize_any o W hib.1)
              rw [hpn] at HSz hnA hnC
              have hcE : Hid (∀ k : Nat, k < n → CE V V' (pa + (k : Int)) (pc + (k : Int))) := Lib.hid (fun k hk => hcE.out k (by rw [hpn]; omega))
              clear hib hpn
              have k4i := k45.call hBi
              have hS00 : PairS wr (s + 1) (.slice (some ⟨ab, ao, none⟩) m cb) ab (ao + i * 3) eb (eo + i * 3) pa pc o pin := ⟨k4i.cell 1, p0, p1, p2, d0, d1, d2⟩
              have hbd : Below wr.heap.size wr wr.drew := (Below.refl _ wr).drew
              have hS0 := hS00.on hbd
              have hBd := hBi.trans (hbd.mono hBi.size)
              go_upto_region 21 with fail
              refine wp_noPanic ?_
              refine wp_region_T (fun W => PairS W (s + 1) (.slice (some ⟨ab, ao, none⟩) m cb) ab (ao + i * 3) eb (eo + i * 3) pa pc o pin) [] (by kernel_rfl) ?_
              generalize wr.drew = wd at *
              have hS := hS0
              clear p0 p1 p2 d0 d1 d2 hS00 k4i hbd
              refine' wpAnyT_take (i := 0) (v := _) ?hiT0 (by kernel_rfl) ?hQT0 (Or.inl ⟨?hwT0, ?hyT0⟩) hS ?reT0
              case hiT0 => (simp only [List.getElem?_toArray, List.getElem?_cons_zero]; rfl)
              case hQT0 => exact fun _ _ _ h => h
              case hwT0 => rfl
              case hyT0 => (intro wS hSw; obtain ⟨_, _, _, _, _, _, _⟩ := hSw; go_simp; (try with_reducible rfl))
              try simp only [Act.put, List.setIfInBounds_toArray, List.set_cons_zero, List.set_cons_succ]
              refine' wpAnyT_take (i := 1) (v := _) ?hiT1 (by kernel_rfl) ?hQT1 (Or.inl ⟨?hwT1, ?hyT1⟩) hS ?reT1
              case hiT1 => (simp only [List.getElem?_toArray, List.getElem?_cons_succ, List.getElem?_cons_zero]; rfl)
              case hQT1 => exact fun _ _ _ h => h
              case hwT1 => rfl
              case hyT1 => (intro wS hSw; obtain ⟨_, _, _, _, _, _, _⟩ := hSw; go_simp; (try with_reducible rfl))
              try simp only [Act.put, List.setIfInBounds_toArray, List.set_cons_zero, List.set_cons_succ]
              refine' wpAnyT_take (i := 2) (v := _) ?hiT2 (by kernel_rfl) ?hQT2 (Or.inl ⟨?hwT2, ?hyT2⟩) hS ?reT2
              case hiT2 => (simp only [List.getElem?_toArray, List.getElem?_cons_succ, List.getElem?_cons_zero]; rfl)
              case hQT2 => exact fun _ _ _ h => h
              case hwT2 => rfl
              case hyT2 => (intro wS hSw; obtain ⟨_, _, _, _, _, _, _⟩ := hSw; go_simp; (try with_reducible rfl))
              try simp only [Act.put, List.setIfInBounds_toArray, List.set_cons_zero, List.set_cons_succ]
              refine' wpAnyT_take (i := 3) (v := _) ?hiT3 (by kernel_rfl) ?hQT3 (Or.inl ⟨?hwT3, ?hyT3⟩) hS ?reT3
              case hiT3 => (simp only [List.getElem?_toArray, List.getElem?_cons_succ, List.getElem?_cons_zero]; rfl)
              case hQT3 => exact fun _ _ _ h => h
              case hwT3 => rfl
              case hyT3 => (intro wS hSw; obtain ⟨_, _, _, _, _, _, _⟩ := hSw; go_simp; (try with_reducible rfl))
              try simp only [Act.put, List.setIfInBounds_toArray, List.set_cons_zero, List.set_cons_succ]
              refine' wpAnyT_take (i := 4) (v := _) ?hiT4 (by kernel_rfl) ?hQT4 (Or.inl ⟨?hwT4, ?hyT4⟩) hS ?reT4
              case hiT4 => (simp only [List.getElem?_toArray, List.getElem?_cons_succ, List.getElem?_cons_zero]; rfl)
              case hQT4 => exact fun _ _ _ h => h
              case hwT4 => rfl
              case hyT4 => (intro wS hSw; obtain ⟨_, _, _, _, _, _, _⟩ := hSw; go_simp; (try with_reducible rfl))
              try simp only [Act.put, List.setIfInBounds_toArray, List.set_cons_zero, List.set_cons_succ]
              refine' wpAnyT_take (i := 5) (v := _) ?hiT5 (by kernel_rfl) ?hQT5 (Or.inl ⟨?hwT5, ?hyT5⟩) hS ?reT5
              case hiT5 => (simp only [List.getElem?_toArray, List.getElem?_cons_succ, List.getElem?_cons_zero]; rfl)
              case hQT5 => exact fun _ _ _ h => h
              case hwT5 => rfl
              case hyT5 => (intro wS hSw; obtain ⟨_, _, _, _, _, _, _⟩ := hSw; go_simp; (try with_reducible rfl))
              try simp only [Act.put, List.setIfInBounds_toArray, List.set_cons_zero, List.set_cons_succ]
              refine' wpAnyT_take (i := 6) (v := _) ?hiT6 (by kernel_rfl) ?hQT6 (Or.inl ⟨?hwT6, ?hyT6⟩) hS ?reT6
              case hiT6 => (simp only [List.getElem?_toArray, List.getElem?_cons_succ, List.getElem?_cons_zero]; rfl)
              case hQT6 => exact fun _ _ _ h => h
              case hwT6 => rfl
              case hyT6 => (intro wS hSw; obtain ⟨_, _, _, _, _, _, _⟩ := hSw; go_simp; (try with_reducible rfl))
              try simp only [Act.put, List.setIfInBounds_toArray, List.set_cons_zero, List.set_cons_succ]
              refine' wpAnyT_take (i := 7) (v := _) ?hiT7 (by kernel_rfl) ?hQT7 (Or.inl ⟨?hwT7, ?hyT7⟩) hS ?reT7
              case hiT7 => (simp only [List.getElem?_toArray, List.getElem?_cons_succ, List.getElem?_cons_zero]; rfl)
              case hQT7 => exact fun _ _ _ h => h
              case hwT7 => rfl
              case hyT7 => (intro wS hSw; obtain ⟨_, _, _, _, _, _, _⟩ := hSw; go_simp; (try with_reducible rfl))
              try simp only [Act.put, List.setIfInBounds_toArray, List.set_cons_zero, List.set_cons_succ]
              refine' wpAnyT_take (i := 8) (v := _) ?hiT8 (by kernel_rfl) ?hQT8 (Or.inl ⟨?hwT8, ?hyT8⟩) hS ?reT8
              case hiT8 => (simp only [List.getElem?_toArray, List.getElem?_cons_succ, List.getElem?_cons_zero]; rfl)
              case hQT8 => exact fun _ _ _ h => h
              case hwT8 => rfl
              case hyT8 => (intro wS hSw; obtain ⟨_, _, _, _, _, _, _⟩ := hSw; go_simp; (try with_reducible rfl))
              try simp only [Act.put, List.setIfInBounds_toArray, List.set_cons_zero, List.set_cons_succ]
              refine wpAnyT_ready (rs := [9, 10]) (by kernel_rfl) (by simp) ?_
              refine' AllReadyT.cons ?hi9 (fun K hK => ?st9) (AllReadyT.cons ?hi10 (fun K hK => ?st10) AllReadyT.nil)
              case hi9 => (simp only [List.getElem?_toArray, List.getElem?_cons_succ, List.getElem?_cons_zero]; rfl)
              case hi10 => (simp only [List.getElem?_toArray, List.getElem?_cons_succ, List.getElem?_cons_zero]; rfl)
              case st9 =>
                go_simp
                have hbz1 : Below wd.heap.size wd (wd.alloc (.cells #[.int .i64 0, .int .i64 0, .bool false] 65)) := (Below.refl _ _).alloc (Nat.le_refl _) _
                have kZ1 := Blk.new wd 65 #[.int .i64 0, .int .i64 0, .bool false]
                refine hK.out _ _ (fun _ => hS0.on hbz1) (fun hS => ?_)
                clear hK K
                replace hS := hS rfl
                refine wpAnyT_ready (rs := [10]) (by kernel_rfl) (by simp) ?_
                refine' AllReadyT.cons ?hi10ga (fun K hK => ?st10ga) AllReadyT.nil
                case hi10ga => (simp only [List.getElem?_toArray, List.getElem?_cons_succ, List.getElem?_cons_zero]; rfl)
                go_simp
                generalize hwa : wd.alloc _ = wa at *
                have hga : wa.heap.size = wd.heap.size + 1 := by rw [← hwa, World.size_alloc]
                have hbz2 : Below wa.heap.size wa (wa.alloc (.cells #[.int .i64 0, .int .i64 0, .bool false] 65)) := (Below.refl _ _).alloc (Nat.le_refl _) _
                have kZ2 := Blk.new wa 65 #[.int .i64 0, .int .i64 0, .bool false]
                have kZ12 := kZ1.call hbz2
                have Bz := hbz1.trans (hbz2.mono hbz1.size)
                refine hK.out _ _ (fun _ => hS0.on Bz) (fun hS => ?_)
                clear hK K
                replace hS := hS rfl
                obtain ⟨ga, hgaa⟩ : ∃ ga, wd.heap.size = ga := ⟨_, rfl⟩
                obtain ⟨gb, hgbb⟩ : ∃ gb, wa.heap.size = gb := ⟨_, rfl⟩
                have hne : ga ≠ gb := by omega
                try simp only [hgaa]
                have hgb1 : ga + 1 = gb := by omega
                try simp only [hgb1]
                rw [hgaa] at kZ12
                rw [hgbb] at kZ2
                generalize hwb : wa.alloc _ = wb at *
                try simp only [Act.put, List.setIfInBounds_toArray, List.set_cons_zero, List.set_cons_succ]
                have kp : Blk wb ga 65 #[.int .i64 0, .int .i64 0, .bool false] := by first | exact kZ12 | exact kZ2
                have kq : Blk wb gb 65 #[.int .i64 0, .int .i64 0, .bool false] := by first | exact kZ2 | exact kZ12
                obtain ⟨kA, FA, htA⟩ := put3 #[.int .i64 pa, .int .i64 o, .bool pin] _ wb ga rfl rfl kp
                refine wpAnyT_ready (rs := [11]) (by kernel_rfl) (by simp) ?_
                refine' AllReadyT.cons ?hi11ga (fun K hK => ?st11ga) AllReadyT.nil
                case hi11ga => (simp only [List.getElem?_toArray, List.getElem?_cons_succ, List.getElem?_cons_zero]; rfl)
                rw [if_pos (by simp [Region.wanted])]
                refine wp_store_mid 65 (.tmp 13) (.tmp 129) rfl ga 0 #[.int .i64 pa, .int .i64 o, .bool pin] rfl rfl htA infoMvS (all3 _ _ _) ?_
                have Bz3 := Bz.trans (FA.below (n := wd.heap.size) (by have := Bz.size; omega) (fun k hk e => by omega))
                refine hK.out _ _ (fun _ => hS0.on Bz3) (fun hS => ?_)
                clear hK K
                replace hS := hS rfl
                try simp only [Act.put]
                have kq2 := FA.blk kq (by show ¬ gb = ga; omega)
                generalize World.setCells wb ga 0 _ = wc at *
                obtain ⟨kC, FC, htC⟩ := put3 #[.int .i64 pc, .int .i64 o, .bool pin] _ wc gb rfl rfl kq2
                refine wpAnyT_ready (rs := [12]) (by kernel_rfl) (by simp) ?_
                refine' AllReadyT.cons ?hi12ga (fun K hK => ?st12ga) AllReadyT.nil
                case hi12ga => (simp only [List.getElem?_toArray, List.getElem?_cons_succ, List.getElem?_cons_zero]; rfl)
                rw [if_pos (by simp [Region.wanted])]
                refine wp_store_mid 65 (.tmp 14) (.tmp 133) rfl gb 0 #[.int .i64 pc, .int .i64 o, .bool pin] rfl rfl htC infoMvS (all3 _ _ _) ?_
                have BzX := Bz3.trans (FC.below (n := wd.heap.size) (by have := Bz3.size; omega) (fun k hk e => by omega))
                refine hK.out _ _ (fun _ => hS0.on BzX) (fun hS => ?_)
                clear hK K hS
                have kA2 := FC.blk kA (by show ¬ ga = gb; omega)
                generalize World.setCells wc gb 0 _ = wX at *
                try simp only [Act.put]
                refine wpAnyT_done (by kernel_rfl) ?_ _
                refine noPanic_normal ?_
                clear kA kq kq2 kp FA FC htA htC kZ1 kZ2 kZ12 hbz1 hbz2 Bz Bz3 hS0
                have kA := kA2
                clear kA2
                have BX := hBd.trans (BzX.mono hBd.size)
                have V1X := Lib.hid (V15.out.call BX)
                have V2X := Lib.hid (V25.out.call BX)
                have cA := kA.cell
                have cC := kC.cell
                cases pin with
                | true =>
                  have hne2 : (pa != pc) = false := by rw [hpin rfl]; simp
                  clear hpin
                  go_wp2_with fail
                  go_loopw [15] (fun v wr => ∃ k : Nat, k ≤ n ∧ v = .int .i64 k ∧ Below wX.heap.size wX wr) (fun v _ => n - (intOf v).toNat)
                  case atStart => exact ⟨0, by omega, rfl, Below.refl _ _⟩
                  case round =>
                    obtain ⟨k, hk, rfl, hBk⟩ := hrel
                    have kAk := kA.call hBk
                    have kCk := kC.call hBk
                    have cAk := kAk.cell
                    have cCk := kCk.cell
                    by_cases hlt2 : k < n
                    · have hlt2' : decide ((k : Int) < (n : Int)) = true := by simpa using hlt2
                      obtain ⟨pA, hpA⟩ : ∃ pA : Nat, pa + (k : Int) = (pA : Int) := ⟨(pa + k).toNat, by omega⟩
                      obtain ⟨pC, hpC⟩ : ∃ pC : Nat, pc + (k : Int) = (pC : Int) := ⟨(pc + k).toNat, by omega⟩
                      have hce := hcE.out k hlt2
                      rw [hpA, hpC] at hce
                      obtain ⟨h21, h22⟩ := CE.results (by omega) (by omega) hce
                      have V2k := V2X.out.call hBk
                      have HC1 := Lib.hid (fun W h => committed_any b2 pA V W h (by omega))
                      have HC2 := Lib.hid (fun W h => committed_any b1 pC V' W h (by omega))
                      rw [h21, h22] at HC2
                      obtain ⟨X, hX⟩ : ∃ X, comX (V.pg pA) = X := ⟨_, rfl⟩
                      have hXs : X.size = 64 := by rw [← hX]; exact comX_size _
                      have hinfX : (Tryz.prog.info? 85).map (·.size) = some X.size := by rw [hXs]; exact infoKinds
                      have hinfL : (Tryz.prog.info? 85).map (·.size) = some X.toList.length := by rw [Array.length_toList]; exact hinfX
                      have honeX : X.all (·.oneCell') = true := by rw [← hX]; exact comX_one _
                      have heqX : ∀ W, (Op.equalIn 10000 85 (.agg X) (.agg X)).run Tryz.prog W = .ok true W := fun W => by rw [← hX]; exact comX_eq _ W
                      rw [hX] at HC1 HC2
                      generalize ((V.pg pA).kind == 2) = cb at *
                      have hcb : (cb != cb) = false := by cases cb <;> rfl
                      have hpA' := Lib.hid hpA
                      have hpC' := Lib.hid hpC
                      clear hX hce h21 h22 hpA hpC
                      go_wp2_with fail
                      refine (HSz.out _).mono ?_
                      rintro e wy ⟨rfl, hwy⟩
                      replace hwy := hwy.symm
                      subst hwy
                      go_wp2_with fail
                      rw [hpA'.out]
                      refine (HC1.out _ V2k).mono ?_
                      rintro e w6 ⟨rfl, hb6⟩
                      have B6 := hBk.trans (hb6.mono hBk.size)
                      have kC6 := kCk.call hb6
                      clear HC1 V2k cAk cCk kAk kCk hb6
                      have kz := Blk.new w6 85 #[.int .u8 0, .int .u8 0, .int .u8 0, .int .u8 0, .int .u8 0, .int .u8 0, .int .u8 0, .int .u8 0, .int .u8 0, .int .u8 0, .int .u8 0, .int .u8 0, .int .u8 0, .int .u8 0, .int .u8 0, .int .u8 0, .int .u8 0, .int .u8 0, .int .u8 0, .int .u8 0, .int .u8 0, .int .u8 0, .int .u8 0, .int .u8 0, .int .u8 0, .int .u8 0, .int .u8 0, .int .u8 0, .int .u8 0, .int .u8 0, .int .u8 0, .int .u8 0, .int .u8 0, .int .u8 0, .int .u8 0, .int .u8 0, .int .u8 0, .int .u8 0, .int .u8 0, .int .u8 0, .int .u8 0, .int .u8 0, .int .u8 0, .int .u8 0, .int .u8 0, .int .u8 0, .int .u8 0, .int .u8 0, .int .u8 0, .int .u8 0, .int .u8 0, .int .u8 0, .int .u8 0, .int .u8 0, .int .u8 0, .int .u8 0, .int .u8 0, .int .u8 0, .int .u8 0, .int .u8 0, .int .u8 0, .int .u8 0, .int .u8 0, .int .u8 0]
                      obtain ⟨q9, hq9⟩ : ∃ q, (w6).heap.size = q := ⟨_, rfl⟩
                      rw [hq9] at kz
                      obtain ⟨kP9, _, hthz⟩ := put64 X _ _ q9 hXs rfl kz
                      have hFz := Far.puts (T := fun k => k = q9) rfl X.toList 0 w6 _ ((Far.refl _ w6).alloc (.cells #[.int .u8 0, .int .u8 0, .int .u8 0, .int .u8 0, .int .u8 0, .int .u8 0, .int .u8 0, .int .u8 0, .int .u8 0, .int .u8 0, .int .u8 0, .int .u8 0, .int .u8 0, .int .u8 0, .int .u8 0, .int .u8 0, .int .u8 0, .int .u8 0, .int .u8 0, .int .u8 0, .int .u8 0, .int .u8 0, .int .u8 0, .int .u8 0, .int .u8 0, .int .u8 0, .int .u8 0, .int .u8 0, .int .u8 0, .int .u8 0, .int .u8 0, .int .u8 0, .int .u8 0, .int .u8 0, .int .u8 0, .int .u8 0, .int .u8 0, .int .u8 0, .int .u8 0, .int .u8 0, .int .u8 0, .int .u8 0, .int .u8 0, .int .u8 0, .int .u8 0, .int .u8 0, .int .u8 0, .int .u8 0, .int .u8 0, .int .u8 0, .int .u8 0, .int .u8 0, .int .u8 0, .int .u8 0, .int .u8 0, .int .u8 0, .int .u8 0, .int .u8 0, .int .u8 0, .int .u8 0, .int .u8 0, .int .u8 0, .int .u8 0, .int .u8 0] 85))
                      have hbz := hFz.below (n := (w6).heap.size) (Nat.le_refl _) (fun k hk e => by omega)
                      clear kz hFz
                      go_upto_region 28 with (refine wpList_store_mid rfl 85 (.tmp 17) (.tmp 172) rfl q9 0 X rfl rfl hthz hinfX honeX ?_)
                      generalize World.setCells _ q9 0 _ = w9 at *
                      clear hthz
                      have B9 := B6.trans (hbz.mono B6.size)
                      have kC9 := kC6.call hbz
                      have V19 := V1X.out.call B9
                      have cC9 := kC9.cell
                      clear kC6 hbz hBk B6
                      go_wp2_with fail
                      rw [hpC'.out]
                      refine (HC2.out _ V19).mono ?_
                      rintro e w7 ⟨rfl, hb7⟩
                      have B7 := B9.trans (hb7.mono B9.size)
                      have kP97 := kP9.call hb7
                      clear HC2 V19 cC9 kC9 hb7 kP9
                      have kz := Blk.new w7 85 #[.int .u8 0, .int .u8 0, .int .u8 0, .int .u8 0, .int .u8 0, .int .u8 0, .int .u8 0, .int .u8 0, .int .u8 0, .int .u8 0, .int .u8 0, .int .u8 0, .int .u8 0, .int .u8 0, .int .u8 0, .int .u8 0, .int .u8 0, .int .u8 0, .int .u8 0, .int .u8 0, .int .u8 0, .int .u8 0, .int .u8 0, .int .u8 0, .int .u8 0, .int .u8 0, .int .u8 0, .int .u8 0, .int .u8 0, .int .u8 0, .int .u8 0, .int .u8 0, .int .u8 0, .int .u8 0, .int .u8 0, .int .u8 0, .int .u8 0, .int .u8 0, .int .u8 0, .int .u8 0, .int .u8 0, .int .u8 0, .int .u8 0, .int .u8 0, .int .u8 0, .int .u8 0, .int .u8 0, .int .u8 0, .int .u8 0, .int .u8 0, .int .u8 0, .int .u8 0, .int .u8 0, .int .u8 0, .int .u8 0, .int .u8 0, .int .u8 0, .int .u8 0, .int .u8 0, .int .u8 0, .int .u8 0, .int .u8 0, .int .u8 0, .int .u8 0]
                      obtain ⟨q10, hq10⟩ : ∃ q, (w7).heap.size = q := ⟨_, rfl⟩
                      rw [hq10] at kz
                      obtain ⟨kP10, _, hthz⟩ := put64 X _ _ q10 hXs rfl kz
                      have hFz := Far.puts (T := fun k => k = q10) rfl X.toList 0 w7 _ ((Far.refl _ w7).alloc (.cells #[.int .u8 0, .int .u8 0, .int .u8 0, .int .u8 0, .int .u8 0, .int .u8 0, .int .u8 0, .int .u8 0, .int .u8 0, .int .u8 0, .int .u8 0, .int .u8 0, .int .u8 0, .int .u8 0, .int .u8 0, .int .u8 0, .int .u8 0, .int .u8 0, .int .u8 0, .int .u8 0, .int .u8 0, .int .u8 0, .int .u8 0, .int .u8 0, .int .u8 0, .int .u8 0, .int .u8 0, .int .u8 0, .int .u8 0, .int .u8 0, .int .u8 0, .int .u8 0, .int .u8 0, .int .u8 0, .int .u8 0, .int .u8 0, .int .u8 0, .int .u8 0, .int .u8 0, .int .u8 0, .int .u8 0, .int .u8 0, .int .u8 0, .int .u8 0, .int .u8 0, .int .u8 0, .int .u8 0, .int .u8 0, .int .u8 0, .int .u8 0, .int .u8 0, .int .u8 0, .int .u8 0, .int .u8 0, .int .u8 0, .int .u8 0, .int .u8 0, .int .u8 0, .int .u8 0, .int .u8 0, .int .u8 0, .int .u8 0, .int .u8 0, .int .u8 0] 85))
                      have hbz := hFz.below (n := (w7).heap.size) (Nat.le_refl _) (fun k hk e => by omega)
                      clear kz hFz
                      go_upto_region 29 with (refine wpList_store_mid rfl 85 (.tmp 20) (.tmp 182) rfl q10 0 X rfl rfl hthz hinfX honeX ?_)
                      generalize World.setCells _ q10 0 _ = w10 at *
                      clear hthz
                      have B10 := B7.trans (hbz.mono B7.size)
                      have kP910 := kP97.call hbz
                      have hr9 : w10.rangeAt q9 0 X.toList := fun j v hj => by rw [Nat.zero_add, kP910.cell]; simpa using hj
                      have hr10 : w10.rangeAt q10 0 X.toList := fun j v hj => by rw [Nat.zero_add, kP10.cell]; simpa using hj
                      clear hbz kP97
                      go_wp2_with (first
                        | (refine wpList_load_midW 85 (.tmp 17) rfl rfl q9 0 rfl X.toList _ hr9 Tryz.underlying85 rfl hinfL ?_; rw [Array.toArray_toList])
                        | (refine wpList_load_midW 85 (.tmp 20) rfl rfl q10 0 rfl X.toList _ hr10 Tryz.underlying85 rfl hinfL ?_; rw [Array.toArray_toList]))
                      go_roundw
                      case rel => exact ⟨k + 1, by omega, by go_num, B10⟩
                      case measure => simp [intOf]; omega
                    · obtain rfl : k = n := by omega
                      have hlt2' : decide ((k : Int) < (k : Int)) = false := by simp
                      have BXk := BX.trans (hBk.mono BX.size)
                      go_wp2_with fail
                      refine (HSz.out _).mono ?_
                      rintro e wy ⟨rfl, hwy⟩
                      replace hwy := hwy.symm
                      subst hwy
                      clear cAk cCk kAk kCk
                      go_wp2_with fail
                      go_roundw
                      case rel => exact ⟨i + 1, by omega, by go_num, BXk⟩
                      case measure => simp [intOf]; omega
                | false =>
                  clear hpin
                  go_wp2_with fail
                  go_loopw [15] (fun v wr => ∃ k : Nat, k ≤ n ∧ v = .int .i64 k ∧ Below wX.heap.size wX wr) (fun v _ => n - (intOf v).toNat)
                  case atStart => exact ⟨0, by omega, rfl, Below.refl _ _⟩
                  case round =>
                    obtain ⟨k, hk, rfl, hBk⟩ := hrel
                    have kAk := kA.call hBk
                    have kCk := kC.call hBk
                    have cAk := kAk.cell
                    have cCk := kCk.cell
                    by_cases hlt2 : k < n
                    · have hlt2' : decide ((k : Int) < (n : Int)) = true := by simpa using hlt2
                      obtain ⟨pA, hpA⟩ : ∃ pA : Nat, pa + (k : Int) = (pA : Int) := ⟨(pa + k).toNat, by omega⟩
                      obtain ⟨pC, hpC⟩ : ∃ pC : Nat, pc + (k : Int) = (pC : Int) := ⟨(pc + k).toNat, by omega⟩
                      have hce := hcE.out k hlt2
                      rw [hpA, hpC] at hce
                      obtain ⟨h21, h22⟩ := CE.results (by omega) (by omega) hce
                      have V2k := V2X.out.call hBk
                      have HC1 := Lib.hid (fun W h => committed_any b2 pA V W h (by omega))
                      have HC2 := Lib.hid (fun W h => committed_any b1 pC V' W h (by omega))
                      rw [h21, h22] at HC2
                      obtain ⟨X, hX⟩ : ∃ X, comX (V.pg pA) = X := ⟨_, rfl⟩
                      have hXs : X.size = 64 := by rw [← hX]; exact comX_size _
                      have hinfX : (Tryz.prog.info? 85).map (·.size) = some X.size := by rw [hXs]; exact infoKinds
                      have hinfL : (Tryz.prog.info? 85).map (·.size) = some X.toList.length := by rw [Array.length_toList]; exact hinfX
                      have honeX : X.all (·.oneCell') = true := by rw [← hX]; exact comX_one _
                      have heqX : ∀ W, (Op.equalIn 10000 85 (.agg X) (.agg X)).run Tryz.prog W = .ok true W := fun W => by rw [← hX]; exact comX_eq _ W
                      rw [hX] at HC1 HC2
                      generalize ((V.pg pA).kind == 2) = cb at *
                      have hcb : (cb != cb) = false := by cases cb <;> rfl
                      have hpA' := Lib.hid hpA
                      have hpC' := Lib.hid hpC
                      clear hX hce h21 h22 hpA hpC
                      go_wp2_with fail
                      refine (HSz.out _).mono ?_
                      rintro e wy ⟨rfl, hwy⟩
                      replace hwy := hwy.symm
                      subst hwy
                      go_wp2_with fail
                      rw [hpA'.out]
                      refine (HC1.out _ V2k).mono ?_
                      rintro e w6 ⟨rfl, hb6⟩
                      have B6 := hBk.trans (hb6.mono hBk.size)
                      have kC6 := kCk.call hb6
                      clear HC1 V2k cAk cCk kAk kCk hb6
                      have kz := Blk.new w6 85 #[.int .u8 0, .int .u8 0, .int .u8 0, .int .u8 0, .int .u8 0, .int .u8 0, .int .u8 0, .int .u8 0, .int .u8 0, .int .u8 0, .int .u8 0, .int .u8 0, .int .u8 0, .int .u8 0, .int .u8 0, .int .u8 0, .int .u8 0, .int .u8 0, .int .u8 0, .int .u8 0, .int .u8 0, .int .u8 0, .int .u8 0, .int .u8 0, .int .u8 0, .int .u8 0, .int .u8 0, .int .u8 0, .int .u8 0, .int .u8 0, .int .u8 0, .int .u8 0, .int .u8 0, .int .u8 0, .int .u8 0, .int .u8 0, .int .u8 0, .int .u8 0, .int .u8 0, .int .u8 0, .int .u8 0, .int .u8 0, .int .u8 0, .int .u8 0, .int .u8 0, .int .u8 0, .int .u8 0, .int .u8 0, .int .u8 0, .int .u8 0, .int .u8 0, .int .u8 0, .int .u8 0, .int .u8 0, .int .u8 0, .int .u8 0, .int .u8 0, .int .u8 0, .int .u8 0, .int .u8 0, .int .u8 0, .int .u8 0, .int .u8 0, .int .u8 0]
                      obtain ⟨q9, hq9⟩ : ∃ q, (w6).heap.size = q := ⟨_, rfl⟩
                      rw [hq9] at kz
                      obtain ⟨kP9, _, hthz⟩ := put64 X _ _ q9 hXs rfl kz
                      have hFz := Far.puts (T := fun k => k = q9) rfl X.toList 0 w6 _ ((Far.refl _ w6).alloc (.cells #[.int .u8 0, .int .u8 0, .int .u8 0, .int .u8 0, .int .u8 0, .int .u8 0, .int .u8 0, .int .u8 0, .int .u8 0, .int .u8 0, .int .u8 0, .int .u8 0, .int .u8 0, .int .u8 0, .int .u8 0, .int .u8 0, .int .u8 0, .int .u8 0, .int .u8 0, .int .u8 0, .int .u8 0, .int .u8 0, .int .u8 0, .int .u8 0, .int .u8 0, .int .u8 0, .int .u8 0, .int .u8 0, .int .u8 0, .int .u8 0, .int .u8 0, .int .u8 0, .int .u8 0, .int .u8 0, .int .u8 0, .int .u8 0, .int .u8 0, .int .u8 0, .int .u8 0, .int .u8 0, .int .u8 0, .int .u8 0, .int .u8 0, .int .u8 0, .int .u8 0, .int .u8 0, .int .u8 0, .int .u8 0, .int .u8 0, .int .u8 0, .int .u8 0, .int .u8 0, .int .u8 0, .int .u8 0, .int .u8 0, .int .u8 0, .int .u8 0, .int .u8 0, .int .u8 0, .int .u8 0, .int .u8 0, .int .u8 0, .int .u8 0, .int .u8 0] 85))
                      have hbz := hFz.below (n := (w6).heap.size) (Nat.le_refl _) (fun k hk e => by omega)
                      clear kz hFz
                      go_upto_region 28 with (refine wpList_store_mid rfl 85 (.tmp 17) (.tmp 172) rfl q9 0 X rfl rfl hthz hinfX honeX ?_)
                      generalize World.setCells _ q9 0 _ = w9 at *
                      clear hthz
                      have B9 := B6.trans (hbz.mono B6.size)
                      have kC9 := kC6.call hbz
                      have V19 := V1X.out.call B9
                      have cC9 := kC9.cell
                      clear kC6 hbz hBk B6
                      go_wp2_with fail
                      rw [hpC'.out]
                      refine (HC2.out _ V19).mono ?_
                      rintro e w7 ⟨rfl, hb7⟩
                      have B7 := B9.trans (hb7.mono B9.size)
                      have kP97 := kP9.call hb7
                      clear HC2 V19 cC9 kC9 hb7 kP9
                      have kz := Blk.new w7 85 #[.int .u8 0, .int .u8 0, .int .u8 0, .int .u8 0, .int .u8 0, .int .u8 0, .int .u8 0, .int .u8 0, .int .u8 0, .int .u8 0, .int .u8 0, .int .u8 0, .int .u8 0, .int .u8 0, .int .u8 0, .int .u8 0, .int .u8 0, .int .u8 0, .int .u8 0, .int .u8 0, .int .u8 0, .int .u8 0, .int .u8 0, .int .u8 0, .int .u8 0, .int .u8 0, .int .u8 0, .int .u8 0, .int .u8 0, .int .u8 0, .int .u8 0, .int .u8 0, .int .u8 0, .int .u8 0, .int .u8 0, .int .u8 0, .int .u8 0, .int .u8 0, .int .u8 0, .int .u8 0, .int .u8 0, .int .u8 0, .int .u8 0, .int .u8 0, .int .u8 0, .int .u8 0, .int .u8 0, .int .u8 0, .int .u8 0, .int .u8 0, .int .u8 0, .int .u8 0, .int .u8 0, .int .u8 0, .int .u8 0, .int .u8 0, .int .u8 0, .int .u8 0, .int .u8 0, .int .u8 0, .int .u8 0, .int .u8 0, .int .u8 0, .int .u8 0]
                      obtain ⟨q10, hq10⟩ : ∃ q, (w7).heap.size = q := ⟨_, rfl⟩
                      rw [hq10] at kz
                      obtain ⟨kP10, _, hthz⟩ := put64 X _ _ q10 hXs rfl kz
                      have hFz := Far.puts (T := fun k => k = q10) rfl X.toList 0 w7 _ ((Far.refl _ w7).alloc (.cells #[.int .u8 0, .int .u8 0, .int .u8 0, .int .u8 0, .int .u8 0, .int .u8 0, .int .u8 0, .int .u8 0, .int .u8 0, .int .u8 0, .int .u8 0, .int .u8 0, .int .u8 0, .int .u8 0, .int .u8 0, .int .u8 0, .int .u8 0, .int .u8 0, .int .u8 0, .int .u8 0, .int .u8 0, .int .u8 0, .int .u8 0, .int .u8 0, .int .u8 0, .int .u8 0, .int .u8 0, .int .u8 0, .int .u8 0, .int .u8 0, .int .u8 0, .int .u8 0, .int .u8 0, .int .u8 0, .int .u8 0, .int .u8 0, .int .u8 0, .int .u8 0, .int .u8 0, .int .u8 0, .int .u8 0, .int .u8 0, .int .u8 0, .int .u8 0, .int .u8 0, .int .u8 0, .int .u8 0, .int .u8 0, .int .u8 0, .int .u8 0, .int .u8 0, .int .u8 0, .int .u8 0, .int .u8 0, .int .u8 0, .int .u8 0, .int .u8 0, .int .u8 0, .int .u8 0, .int .u8 0, .int .u8 0, .int .u8 0, .int .u8 0, .int .u8 0] 85))
                      have hbz := hFz.below (n := (w7).heap.size) (Nat.le_refl _) (fun k hk e => by omega)
                      clear kz hFz
                      go_upto_region 29 with (refine wpList_store_mid rfl 85 (.tmp 20) (.tmp 182) rfl q10 0 X rfl rfl hthz hinfX honeX ?_)
                      generalize World.setCells _ q10 0 _ = w10 at *
                      clear hthz
                      have B10 := B7.trans (hbz.mono B7.size)
                      have kP910 := kP97.call hbz
                      have hr9 : w10.rangeAt q9 0 X.toList := fun j v hj => by rw [Nat.zero_add, kP910.cell]; simpa using hj
                      have hr10 : w10.rangeAt q10 0 X.toList := fun j v hj => by rw [Nat.zero_add, kP10.cell]; simpa using hj
                      clear hbz kP97
                      go_wp2_with (first
                        | (refine wpList_load_midW 85 (.tmp 17) rfl rfl q9 0 rfl X.toList _ hr9 Tryz.underlying85 rfl hinfL ?_; rw [Array.toArray_toList])
                        | (refine wpList_load_midW 85 (.tmp 20) rfl rfl q10 0 rfl X.toList _ hr10 Tryz.underlying85 rfl hinfL ?_; rw [Array.toArray_toList]))
                      go_roundw
                      case rel => exact ⟨k + 1, by omega, by go_num, B10⟩
                      case measure => simp [intOf]; omega
                    · obtain rfl : k = n := by omega
                      have hlt2' : decide ((k : Int) < (k : Int)) = false := by simp
                      have BXk := BX.trans (hBk.mono BX.size)
                      go_wp2_with fail
                      refine (HSz.out _).mono ?_
                      rintro e wy ⟨rfl, hwy⟩
                      replace hwy := hwy.symm
                      subst hwy
                      clear cAk cCk kAk kCk
                      go_wp2_with fail
                      go_roundw
                      case rel => exact ⟨i + 1, by omega, by go_num, BXk⟩
                      case measure => simp [intOf]; omega
              case st10 =>
                go_simp
                have hbz1 : Below wd.heap.size wd (wd.alloc (.cells #[.int .i64 0, .int .i64 0, .bool false] 65)) := (Below.refl _ _).alloc (Nat.le_refl _) _
                have kZ1 := Blk.new wd 65 #[.int .i64 0, .int .i64 0, .bool false]
                refine hK.out _ _ (fun _ => hS0.on hbz1) (fun hS => ?_)
                clear hK K
                replace hS := hS rfl
                refine wpAnyT_ready (rs := [9]) (by kernel_rfl) (by simp) ?_
                refine' AllReadyT.cons ?hi9gb (fun K hK => ?st9gb) AllReadyT.nil
                case hi9gb => (simp only [List.getElem?_toArray, List.getElem?_cons_succ, List.getElem?_cons_zero]; rfl)
                go_simp
                generalize hwa : wd.alloc _ = wa at *
                have hga : wa.heap.size = wd.heap.size + 1 := by rw [← hwa, World.size_alloc]
                have hbz2 : Below wa.heap.size wa (wa.alloc (.cells #[.int .i64 0, .int .i64 0, .bool false] 65)) := (Below.refl _ _).alloc (Nat.le_refl _) _
                have kZ2 := Blk.new wa 65 #[.int .i64 0, .int .i64 0, .bool false]
                have kZ12 := kZ1.call hbz2
                have Bz := hbz1.trans (hbz2.mono hbz1.size)
                refine hK.out _ _ (fun _ => hS0.on Bz) (fun hS => ?_)
                clear hK K
                replace hS := hS rfl
                obtain ⟨ga, hgaa⟩ : ∃ ga, wd.heap.size = ga := ⟨_, rfl⟩
                obtain ⟨gb, hgbb⟩ : ∃ gb, wa.heap.size = gb := ⟨_, rfl⟩
                have hne : ga ≠ gb := by omega
                try simp only [hgaa]
                have hgb1 : ga + 1 = gb := by omega
                try simp only [hgb1]
                rw [hgaa] at kZ12
                rw [hgbb] at kZ2
                generalize hwb : wa.alloc _ = wb at *
                try simp only [Act.put, List.setIfInBounds_toArray, List.set_cons_zero, List.set_cons_succ]
                have kp : Blk wb gb 65 #[.int .i64 0, .int .i64 0, .bool false] := by first | exact kZ12 | exact kZ2
                have kq : Blk wb ga 65 #[.int .i64 0, .int .i64 0, .bool false] := by first | exact kZ2 | exact kZ12
                obtain ⟨kA, FA, htA⟩ := put3 #[.int .i64 pa, .int .i64 o, .bool pin] _ wb gb rfl rfl kp
                refine wpAnyT_ready (rs := [11]) (by kernel_rfl) (by simp) ?_
                refine' AllReadyT.cons ?hi11gb (fun K hK => ?st11gb) AllReadyT.nil
                case hi11gb => (simp only [List.getElem?_toArray, List.getElem?_cons_succ, List.getElem?_cons_zero]; rfl)
                rw [if_pos (by simp [Region.wanted])]
                refine wp_store_mid 65 (.tmp 13) (.tmp 129) rfl gb 0 #[.int .i64 pa, .int .i64 o, .bool pin] rfl rfl htA infoMvS (all3 _ _ _) ?_
                have Bz3 := Bz.trans (FA.below (n := wd.heap.size) (by have := Bz.size; omega) (fun k hk e => by omega))
                refine hK.out _ _ (fun _ => hS0.on Bz3) (fun hS => ?_)
                clear hK K
                replace hS := hS rfl
                try simp only [Act.put]
                have kq2 := FA.blk kq (by show ¬ ga = gb; omega)
                generalize World.setCells wb gb 0 _ = wc at *
                obtain ⟨kC, FC, htC⟩ := put3 #[.int .i64 pc, .int .i64 o, .bool pin] _ wc ga rfl rfl kq2
                refine wpAnyT_ready (rs := [12]) (by kernel_rfl) (by simp) ?_
                refine' AllReadyT.cons ?hi12gb (fun K hK => ?st12gb) AllReadyT.nil
                case hi12gb => (simp only [List.getElem?_toArray, List.getElem?_cons_succ, List.getElem?_cons_zero]; rfl)
                rw [if_pos (by simp [Region.wanted])]
                refine wp_store_mid 65 (.tmp 14) (.tmp 133) rfl ga 0 #[.int .i64 pc, .int .i64 o, .bool pin] rfl rfl htC infoMvS (all3 _ _ _) ?_
                have BzX := Bz3.trans (FC.below (n := wd.heap.size) (by have := Bz3.size; omega) (fun k hk e => by omega))
                refine hK.out _ _ (fun _ => hS0.on BzX) (fun hS => ?_)
                clear hK K hS
                have kA2 := FC.blk kA (by show ¬ gb = ga; omega)
                generalize World.setCells wc ga 0 _ = wX at *
                try simp only [Act.put]
                refine wpAnyT_done (by kernel_rfl) ?_ _
                refine noPanic_normal ?_
                clear kA kq kq2 kp FA FC htA htC kZ1 kZ2 kZ12 hbz1 hbz2 Bz Bz3 hS0
                have kA := kA2
                clear kA2
                have BX := hBd.trans (BzX.mono hBd.size)
                have V1X := Lib.hid (V15.out.call BX)
                have V2X := Lib.hid (V25.out.call BX)
                have cA := kA.cell
                have cC := kC.cell
                cases pin with
                | true =>
                  have hne2 : (pa != pc) = false := by rw [hpin rfl]; simp
                  clear hpin
                  go_wp2_with fail
                  go_loopw [15] (fun v wr => ∃ k : Nat, k ≤ n ∧ v = .int .i64 k ∧ Below wX.heap.size wX wr) (fun v _ => n - (intOf v).toNat)
                  case atStart => exact ⟨0, by omega, rfl, Below.refl _ _⟩
                  case round =>
                    obtain ⟨k, hk, rfl, hBk⟩ := hrel
                    have kAk := kA.call hBk
                    have kCk := kC.call hBk
                    have cAk := kAk.cell
                    have cCk := kCk.cell
                    by_cases hlt2 : k < n
                    · have hlt2' : decide ((k : Int) < (n : Int)) = true := by simpa using hlt2
                      obtain ⟨pA, hpA⟩ : ∃ pA : Nat, pa + (k : Int) = (pA : Int) := ⟨(pa + k).toNat, by omega⟩
                      obtain ⟨pC, hpC⟩ : ∃ pC : Nat, pc + (k : Int) = (pC : Int) := ⟨(pc + k).toNat, by omega⟩
                      have hce := hcE.out k hlt2
                      rw [hpA, hpC] at hce
                      obtain ⟨h21, h22⟩ := CE.results (by omega) (by omega) hce
                      have V2k := V2X.out.call hBk
                      have HC1 := Lib.hid (fun W h => committed_any b2 pA V W h (by omega))
                      have HC2 := Lib.hid (fun W h => committed_any b1 pC V' W h (by omega))
                      rw [h21, h22] at HC2
                      obtain ⟨X, hX⟩ : ∃ X, comX (V.pg pA) = X := ⟨_, rfl⟩
                      have hXs : X.size = 64 := by rw [← hX]; exact comX_size _
                      have hinfX : (Tryz.prog.info? 85).map (·.size) = some X.size := by rw [hXs]; exact infoKinds
                      have hinfL : (Tryz.prog.info? 85).map (·.size) = some X.toList.length := by rw [Array.length_toList]; exact hinfX
                      have honeX : X.all (·.oneCell') = true := by rw [← hX]; exact comX_one _
                      have heqX : ∀ W, (Op.equalIn 10000 85 (.agg X) (.agg X)).run Tryz.prog W = .ok true W := fun W => by rw [← hX]; exact comX_eq _ W
                      rw [hX] at HC1 HC2
                      generalize ((V.pg pA).kind == 2) = cb at *
                      have hcb : (cb != cb) = false := by cases cb <;> rfl
                      have hpA' := Lib.hid hpA
                      have hpC' := Lib.hid hpC
                      clear hX hce h21 h22 hpA hpC
                      go_wp2_with fail
                      refine (HSz.out _).mono ?_
                      rintro e wy ⟨rfl, hwy⟩
                      replace hwy := hwy.symm
                      subst hwy
                      go_wp2_with fail
                      rw [hpA'.out]
                      refine (HC1.out _ V2k).mono ?_
                      rintro e w6 ⟨rfl, hb6⟩
                      have B6 := hBk.trans (hb6.mono hBk.size)
                      have kC6 := kCk.call hb6
                      clear HC1 V2k cAk cCk kAk kCk hb6
                      have kz := Blk.new w6 85 #[.int .u8 0, .int .u8 0, .int .u8 0, .int .u8 0, .int .u8 0, .int .u8 0, .int .u8 0, .int .u8 0, .int .u8 0, .int .u8 0, .int .u8 0, .int .u8 0, .int .u8 0, .int .u8 0, .int .u8 0, .int .u8 0, .int .u8 0, .int .u8 0, .int .u8 0, .int .u8 0, .int .u8 0, .int .u8 0, .int .u8 0, .int .u8 0, .int .u8 0, .int .u8 0, .int .u8 0, .int .u8 0, .int .u8 0, .int .u8 0, .int .u8 0, .int .u8 0, .int .u8 0, .int .u8 0, .int .u8 0, .int .u8 0, .int .u8 0, .int .u8 0, .int .u8 0, .int .u8 0, .int .u8 0, .int .u8 0, .int .u8 0, .int .u8 0, .int .u8 0, .int .u8 0, .int .u8 0, .int .u8 0, .int .u8 0, .int .u8 0, .int .u8 0, .int .u8 0, .int .u8 0, .int .u8 0, .int .u8 0, .int .u8 0, .int .u8 0, .int .u8 0, .int .u8 0, .int .u8 0, .int .u8 0, .int .u8 0, .int .u8 0, .int .u8 0]
                      obtain ⟨q9, hq9⟩ : ∃ q, (w6).heap.size = q := ⟨_, rfl⟩
                      rw [hq9] at kz
                      obtain ⟨kP9, _, hthz⟩ := put64 X _ _ q9 hXs rfl kz
                      have hFz := Far.puts (T := fun k => k = q9) rfl X.toList 0 w6 _ ((Far.refl _ w6).alloc (.cells #[.int .u8 0, .int .u8 0, .int .u8 0, .int .u8 0, .int .u8 0, .int .u8 0, .int .u8 0, .int .u8 0, .int .u8 0, .int .u8 0, .int .u8 0, .int .u8 0, .int .u8 0, .int .u8 0, .int .u8 0, .int .u8 0, .int .u8 0, .int .u8 0, .int .u8 0, .int .u8 0, .int .u8 0, .int .u8 0, .int .u8 0, .int .u8 0, .int .u8 0, .int .u8 0, .int .u8 0, .int .u8 0, .int .u8 0, .int .u8 0, .int .u8 0, .int .u8 0, .int .u8 0, .int .u8 0, .int .u8 0, .int .u8 0, .int .u8 0, .int .u8 0, .int .u8 0, .int .u8 0, .int .u8 0, .int .u8 0, .int .u8 0, .int .u8 0, .int .u8 0, .int .u8 0, .int .u8 0, .int .u8 0, .int .u8 0, .int .u8 0, .int .u8 0, .int .u8 0, .int .u8 0, .int .u8 0, .int .u8 0, .int .u8 0, .int .u8 0, .int .u8 0, .int .u8 0, .int .u8 0, .int .u8 0, .int .u8 0, .int .u8 0, .int .u8 0] 85))
                      have hbz := hFz.below (n := (w6).heap.size) (Nat.le_refl _) (fun k hk e => by omega)
                      clear kz hFz
                      go_upto_region 28 with (refine wpList_store_mid rfl 85 (.tmp 17) (.tmp 172) rfl q9 0 X rfl rfl hthz hinfX honeX ?_)
                      generalize World.setCells _ q9 0 _ = w9 at *
                      clear hthz
                      have B9 := B6.trans (hbz.mono B6.size)
                      have kC9 := kC6.call hbz
                      have V19 := V1X.out.call B9
                      have cC9 := kC9.cell
                      clear kC6 hbz hBk B6
                      go_wp2_with fail
                      rw [hpC'.out]
                      refine (HC2.out _ V19).mono ?_
                      rintro e w7 ⟨rfl, hb7⟩
                      have B7 := B9.trans (hb7.mono B9.size)
                      have kP97 := kP9.call hb7
                      clear HC2 V19 cC9 kC9 hb7 kP9
                      have kz := Blk.new w7 85 #[.int .u8 0, .int .u8 0, .int .u8 0, .int .u8 0, .int .u8 0, .int .u8 0, .int .u8 0, .int .u8 0, .int .u8 0, .int .u8 0, .int .u8 0, .int .u8 0, .int .u8 0, .int .u8 0, .int .u8 0, .int .u8 0, .int .u8 0, .int .u8 0, .int .u8 0, .int .u8 0, .int .u8 0, .int .u8 0, .int .u8 0, .int .u8 0, .int .u8 0, .int .u8 0, .int .u8 0, .int .u8 0, .int .u8 0, .int .u8 0, .int .u8 0, .int .u8 0, .int .u8 0, .int .u8 0, .int .u8 0, .int .u8 0, .int .u8 0, .int .u8 0, .int .u8 0, .int .u8 0, .int .u8 0, .int .u8 0, .int .u8 0, .int .u8 0, .int .u8 0, .int .u8 0, .int .u8 0, .int .u8 0, .int .u8 0, .int .u8 0, .int .u8 0, .int .u8 0, .int .u8 0, .int .u8 0, .int .u8 0, .int .u8 0, .int .u8 0, .int .u8 0, .int .u8 0, .int .u8 0, .int .u8 0, .int .u8 0, .int .u8 0, .int .u8 0]
                      obtain ⟨q10, hq10⟩ : ∃ q, (w7).heap.size = q := ⟨_, rfl⟩
                      rw [hq10] at kz
                      obtain ⟨kP10, _, hthz⟩ := put64 X _ _ q10 hXs rfl kz
                      have hFz := Far.puts (T := fun k => k = q10) rfl X.toList 0 w7 _ ((Far.refl _ w7).alloc (.cells #[.int .u8 0, .int .u8 0, .int .u8 0, .int .u8 0, .int .u8 0, .int .u8 0, .int .u8 0, .int .u8 0, .int .u8 0, .int .u8 0, .int .u8 0, .int .u8 0, .int .u8 0, .int .u8 0, .int .u8 0, .int .u8 0, .int .u8 0, .int .u8 0, .int .u8 0, .int .u8 0, .int .u8 0, .int .u8 0, .int .u8 0, .int .u8 0, .int .u8 0, .int .u8 0, .int .u8 0, .int .u8 0, .int .u8 0, .int .u8 0, .int .u8 0, .int .u8 0, .int .u8 0, .int .u8 0, .int .u8 0, .int .u8 0, .int .u8 0, .int .u8 0, .int .u8 0, .int .u8 0, .int .u8 0, .int .u8 0, .int .u8 0, .int .u8 0, .int .u8 0, .int .u8 0, .int .u8 0, .int .u8 0, .int .u8 0, .int .u8 0, .int .u8 0, .int .u8 0, .int .u8 0, .int .u8 0, .int .u8 0, .int .u8 0, .int .u8 0, .int .u8 0, .int .u8 0, .int .u8 0, .int .u8 0, .int .u8 0, .int .u8 0, .int .u8 0] 85))
                      have hbz := hFz.below (n := (w7).heap.size) (Nat.le_refl _) (fun k hk e => by omega)
                      clear kz hFz
                      go_upto_region 29 with (refine wpList_store_mid rfl 85 (.tmp 20) (.tmp 182) rfl q10 0 X rfl rfl hthz hinfX honeX ?_)
                      generalize World.setCells _ q10 0 _ = w10 at *
                      clear hthz
                      have B10 := B7.trans (hbz.mono B7.size)
                      have kP910 := kP97.call hbz
                      have hr9 : w10.rangeAt q9 0 X.toList := fun j v hj => by rw [Nat.zero_add, kP910.cell]; simpa using hj
                      have hr10 : w10.rangeAt q10 0 X.toList := fun j v hj => by rw [Nat.zero_add, kP10.cell]; simpa using hj
                      clear hbz kP97
                      go_wp2_with (first
                        | (refine wpList_load_midW 85 (.tmp 17) rfl rfl q9 0 rfl X.toList _ hr9 Tryz.underlying85 rfl hinfL ?_; rw [Array.toArray_toList])
                        | (refine wpList_load_midW 85 (.tmp 20) rfl rfl q10 0 rfl X.toList _ hr10 Tryz.underlying85 rfl hinfL ?_; rw [Array.toArray_toList]))
                      go_roundw
                      case rel => exact ⟨k + 1, by omega, by go_num, B10⟩
                      case measure => simp [intOf]; omega
                    · obtain rfl : k = n := by omega
                      have hlt2' : decide ((k : Int) < (k : Int)) = false := by simp
                      have BXk := BX.trans (hBk.mono BX.size)
                      go_wp2_with fail
                      refine (HSz.out _).mono ?_
                      rintro e wy ⟨rfl, hwy⟩
                      replace hwy := hwy.symm
                      subst hwy
                      clear cAk cCk kAk kCk
                      go_wp2_with fail
                      go_roundw
                      case rel => exact ⟨i + 1, by omega, by go_num, BXk⟩
                      case measure => simp [intOf]; omega
                | false =>
                  clear hpin
                  go_wp2_with fail
                  go_loopw [15] (fun v wr => ∃ k : Nat, k ≤ n ∧ v = .int .i64 k ∧ Below wX.heap.size wX wr) (fun v _ => n - (intOf v).toNat)
                  case atStart => exact ⟨0, by omega, rfl, Below.refl _ _⟩
                  case round =>
                    obtain ⟨k, hk, rfl, hBk⟩ := hrel
                    have kAk := kA.call hBk
                    have kCk := kC.call hBk
                    have cAk := kAk.cell
                    have cCk := kCk.cell
                    by_cases hlt2 : k < n
                    · have hlt2' : decide ((k : Int) < (n : Int)) = true := by simpa using hlt2
                      obtain ⟨pA, hpA⟩ : ∃ pA : Nat, pa + (k : Int) = (pA : Int) := ⟨(pa + k).toNat, by omega⟩
                      obtain ⟨pC, hpC⟩ : ∃ pC : Nat, pc + (k : Int) = (pC : Int) := ⟨(pc + k).toNat, by omega⟩
                      have hce := hcE.out k hlt2
                      rw [hpA, hpC] at hce
                      obtain ⟨h21, h22⟩ := CE.results (by omega) (by omega) hce
                      have V2k := V2X.out.call hBk
                      have HC1 := Lib.hid (fun W h => committed_any b2 pA V W h (by omega))
                      have HC2 := Lib.hid (fun W h => committed_any b1 pC V' W h (by omega))
                      rw [h21, h22] at HC2
                      obtain ⟨X, hX⟩ : ∃ X, comX (V.pg pA) = X := ⟨_, rfl⟩
                      have hXs : X.size = 64 := by rw [← hX]; exact comX_size _
                      have hinfX : (Tryz.prog.info? 85).map (·.size) = some X.size := by rw [hXs]; exact infoKinds
                      have hinfL : (Tryz.prog.info? 85).map (·.size) = some X.toList.length := by rw [Array.length_toList]; exact hinfX
                      have honeX : X.all (·.oneCell') = true := by rw [← hX]; exact comX_one _
                      have heqX : ∀ W, (Op.equalIn 10000 85 (.agg X) (.agg X)).run Tryz.prog W = .ok true W := fun W => by rw [← hX]; exact comX_eq _ W
                      rw [hX] at HC1 HC2
                      generalize ((V.pg pA).kind == 2) = cb at *
                      have hcb : (cb != cb) = false := by cases cb <;> rfl
                      have hpA' := Lib.hid hpA
                      have hpC' := Lib.hid hpC
                      clear hX hce h21 h22 hpA hpC
                      go_wp2_with fail
                      refine (HSz.out _).mono ?_
                      rintro e wy ⟨rfl, hwy⟩
                      replace hwy := hwy.symm
                      subst hwy
                      go_wp2_with fail
                      rw [hpA'.out]
                      refine (HC1.out _ V2k).mono ?_
                      rintro e w6 ⟨rfl, hb6⟩
                      have B6 := hBk.trans (hb6.mono hBk.size)
                      have kC6 := kCk.call hb6
                      clear HC1 V2k cAk cCk kAk kCk hb6
                      have kz := Blk.new w6 85 #[.int .u8 0, .int .u8 0, .int .u8 0, .int .u8 0, .int .u8 0, .int .u8 0, .int .u8 0, .int .u8 0, .int .u8 0, .int .u8 0, .int .u8 0, .int .u8 0, .int .u8 0, .int .u8 0, .int .u8 0, .int .u8 0, .int .u8 0, .int .u8 0, .int .u8 0, .int .u8 0, .int .u8 0, .int .u8 0, .int .u8 0, .int .u8 0, .int .u8 0, .int .u8 0, .int .u8 0, .int .u8 0, .int .u8 0, .int .u8 0, .int .u8 0, .int .u8 0, .int .u8 0, .int .u8 0, .int .u8 0, .int .u8 0, .int .u8 0, .int .u8 0, .int .u8 0, .int .u8 0, .int .u8 0, .int .u8 0, .int .u8 0, .int .u8 0, .int .u8 0, .int .u8 0, .int .u8 0, .int .u8 0, .int .u8 0, .int .u8 0, .int .u8 0, .int .u8 0, .int .u8 0, .int .u8 0, .int .u8 0, .int .u8 0, .int .u8 0, .int .u8 0, .int .u8 0, .int .u8 0, .int .u8 0, .int .u8 0, .int .u8 0, .int .u8 0]
                      obtain ⟨q9, hq9⟩ : ∃ q, (w6).heap.size = q := ⟨_, rfl⟩
                      rw [hq9] at kz
                      obtain ⟨kP9, _, hthz⟩ := put64 X _ _ q9 hXs rfl kz
                      have hFz := Far.puts (T := fun k => k = q9) rfl X.toList 0 w6 _ ((Far.refl _ w6).alloc (.cells #[.int .u8 0, .int .u8 0, .int .u8 0, .int .u8 0, .int .u8 0, .int .u8 0, .int .u8 0, .int .u8 0, .int .u8 0, .int .u8 0, .int .u8 0, .int .u8 0, .int .u8 0, .int .u8 0, .int .u8 0, .int .u8 0, .int .u8 0, .int .u8 0, .int .u8 0, .int .u8 0, .int .u8 0, .int .u8 0, .int .u8 0, .int .u8 0, .int .u8 0, .int .u8 0, .int .u8 0, .int .u8 0, .int .u8 0, .int .u8 0, .int .u8 0, .int .u8 0, .int .u8 0, .int .u8 0, .int .u8 0, .int .u8 0, .int .u8 0, .int .u8 0, .int .u8 0, .int .u8 0, .int .u8 0, .int .u8 0, .int .u8 0, .int .u8 0, .int .u8 0, .int .u8 0, .int .u8 0, .int .u8 0, .int .u8 0, .int .u8 0, .int .u8 0, .int .u8 0, .int .u8 0, .int .u8 0, .int .u8 0, .int .u8 0, .int .u8 0, .int .u8 0, .int .u8 0, .int .u8 0, .int .u8 0, .int .u8 0, .int .u8 0, .int .u8 0] 85))
                      have hbz := hFz.below (n := (w6).heap.size) (Nat.le_refl _) (fun k hk e => by omega)
                      clear kz hFz
                      go_upto_region 28 with (refine wpList_store_mid rfl 85 (.tmp 17) (.tmp 172) rfl q9 0 X rfl rfl hthz hinfX honeX ?_)
                      generalize World.setCells _ q9 0 _ = w9 at *
                      clear hthz
                      have B9 := B6.trans (hbz.mono B6.size)
                      have kC9 := kC6.call hbz
                      have V19 := V1X.out.call B9
                      have cC9 := kC9.cell
                      clear kC6 hbz hBk B6
                      go_wp2_with fail
                      rw [hpC'.out]
                      refine (HC2.out _ V19).mono ?_
                      rintro e w7 ⟨rfl, hb7⟩
                      have B7 := B9.trans (hb7.mono B9.size)
                      have kP97 := kP9.call hb7
                      clear HC2 V19 cC9 kC9 hb7 kP9
                      have kz := Blk.new w7 85 #[.int .u8 0, .int .u8 0, .int .u8 0, .int .u8 0, .int .u8 0, .int .u8 0, .int .u8 0, .int .u8 0, .int .u8 0, .int .u8 0, .int .u8 0, .int .u8 0, .int .u8 0, .int .u8 0, .int .u8 0, .int .u8 0, .int .u8 0, .int .u8 0, .int .u8 0, .int .u8 0, .int .u8 0, .int .u8 0, .int .u8 0, .int .u8 0, .int .u8 0, .int .u8 0, .int .u8 0, .int .u8 0, .int .u8 0, .int .u8 0, .int .u8 0, .int .u8 0, .int .u8 0, .int .u8 0, .int .u8 0, .int .u8 0, .int .u8 0, .int .u8 0, .int .u8 0, .int .u8 0, .int .u8 0, .int .u8 0, .int .u8 0, .int .u8 0, .int .u8 0, .int .u8 0, .int .u8 0, .int .u8 0, .int .u8 0, .int .u8 0, .int .u8 0, .int .u8 0, .int .u8 0, .int .u8 0, .int .u8 0, .int .u8 0, .int .u8 0, .int .u8 0, .int .u8 0, .int .u8 0, .int .u8 0, .int .u8 0, .int .u8 0, .int .u8 0]
                      obtain ⟨q10, hq10⟩ : ∃ q, (w7).heap.size = q := ⟨_, rfl⟩
                      rw [hq10] at kz
                      obtain ⟨kP10, _, hthz⟩ := put64 X _ _ q10 hXs rfl kz
                      have hFz := Far.puts (T := fun k => k = q10) rfl X.toList 0 w7 _ ((Far.refl _ w7).alloc (.cells #[.int .u8 0, .int .u8 0, .int .u8 0, .int .u8 0, .int .u8 0, .int .u8 0, .int .u8 0, .int .u8 0, .int .u8 0, .int .u8 0, .int .u8 0, .int .u8 0, .int .u8 0, .int .u8 0, .int .u8 0, .int .u8 0, .int .u8 0, .int .u8 0, .int .u8 0, .int .u8 0, .int .u8 0, .int .u8 0, .int .u8 0, .int .u8 0, .int .u8 0, .int .u8 0, .int .u8 0, .int .u8 0, .int .u8 0, .int .u8 0, .int .u8 0, .int .u8 0, .int .u8 0, .int .u8 0, .int .u8 0, .int .u8 0, .int .u8 0, .int .u8 0, .int .u8 0, .int .u8 0, .int .u8 0, .int .u8 0, .int .u8 0, .int .u8 0, .int .u8 0, .int .u8 0, .int .u8 0, .int .u8 0, .int .u8 0, .int .u8 0, .int .u8 0, .int .u8 0, .int .u8 0, .int .u8 0, .int .u8 0, .int .u8 0, .int .u8 0, .int .u8 0, .int .u8 0, .int .u8 0, .int .u8 0, .int .u8 0, .int .u8 0, .int .u8 0] 85))
                      have hbz := hFz.below (n := (w7).heap.size) (Nat.le_refl _) (fun k hk e => by omega)
                      clear kz hFz
                      go_upto_region 29 with (refine wpList_store_mid rfl 85 (.tmp 20) (.tmp 182) rfl q10 0 X rfl rfl hthz hinfX honeX ?_)
                      generalize World.setCells _ q10 0 _ = w10 at *
                      clear hthz
                      have B10 := B7.trans (hbz.mono B7.size)
                      have kP910 := kP97.call hbz
                      have hr9 : w10.rangeAt q9 0 X.toList := fun j v hj => by rw [Nat.zero_add, kP910.cell]; simpa using hj
                      have hr10 : w10.rangeAt q10 0 X.toList := fun j v hj => by rw [Nat.zero_add, kP10.cell]; simpa using hj
                      clear hbz kP97
                      go_wp2_with (first
                        | (refine wpList_load_midW 85 (.tmp 17) rfl rfl q9 0 rfl X.toList _ hr9 Tryz.underlying85 rfl hinfL ?_; rw [Array.toArray_toList])
                        | (refine wpList_load_midW 85 (.tmp 20) rfl rfl q10 0 rfl X.toList _ hr10 Tryz.underlying85 rfl hinfL ?_; rw [Array.toArray_toList]))
                      go_roundw
                      case rel => exact ⟨k + 1, by omega, by go_num, B10⟩
                      case measure => simp [intOf]; omega
                    · obtain rfl : k = n := by omega
                      have hlt2' : decide ((k : Int) < (k : Int)) = false := by simp
                      have BXk := BX.trans (hBk.mono BX.size)
                      go_wp2_with fail
                      refine (HSz.out _).mono ?_
                      rintro e wy ⟨rfl, hwy⟩
                      replace hwy := hwy.symm
                      subst hwy
                      clear cAk cCk kAk kCk
                      go_wp2_with fail
                      go_roundw
                      case rel => exact ⟨i + 1, by omega, by go_num, BXk⟩
                      case measure => simp [intOf]; omega
set_option maxRecDepth 100000 in
theorem movingKeeps_lifted (os : Os) (started : os.Started) (H : Type) (enc : TypeId × Value → H) :
    ReturnsInHanded {} Tryz.checked os 6 .any (Rows.movingKeepsSpec.pre6 enc Tryz.prog Tryz.f6 Rows.movingKeepsRow.domain false) (Rows.movingKeepsSpec.post enc Tryz.prog Tryz.f6 false true false false) := by
  refine returnsInHanded_of_change (C := Tryz.checked) own_ started (by kernel_rfl) Tryz.func6
    (ChangeSpec.witness6 (enc := enc) (C := Tryz.checked) false ⟨#[], #[.agg #[.slice none 0 0, .slice none 0 0, .slice none 0 0, .slice none 0 0, .slice none 0 0, .slice none 0 0], .agg #[.int .i64 0, .slice none 0 0, .slice none 0 0]], []⟩ 8 (by kernel_rfl) (by kernel_rfl) (by kernel_rfl) (by kernel_rfl)) ?_
  intro W base args ds gs before hval0 hW _ _
  have hval : ∀ (j : Nat) t v, Tryz.f6.params[j]? = some t → args[j]? = some v → Value.okWide Tryz.prog W .any base t v := hval0
  have hW' := hW
  obtain ⟨p, q, hA0, hV, rfl, _, _⟩ := hW
  have hA : DataW.TrodAll enc Tryz.prog W 0 (fun _ => true) true Tryz.f6.params.toList args.toList ds p := hA0
  rw [Tryz.params6] at hA hval
  obtain ⟨v0, v1, d0, d1, p0, p1, rfl, rfl, rfl, h0, h1⟩ := trodAll_two hA
  obtain ⟨rfl, rfl⟩ := trodVars_none hV
  obtain ⟨A1, A2, A3, Ah, Aw, Ar, n1, c1, n2, c2, n3, c3, nh, ch, nw, cw, nr, cr, rs, cs, gs, hs, ws, l, rfl, q1, r1, q2, r2, q3, r3, qh, rh, qw, rw', ql, rl, hz⟩ := openMadeG (hval 0 78 v0 rfl rfl) h0
  obtain ⟨pages, A, M, n, cap, mn, mcap, bs, ms, rfl, e1, e2, e3, e4, g1, g2, g3⟩ := openCaseK (hval 1 59 v1 rfl rfl) h1
  simp only [List.append_nil] at hW'
  refine (keepsLaw_any A1 A2 A3 Ah Aw Ar A M n1 c1 n2 c2 n3 c3 nh ch nw cw nr cr n cap mn mcap rs cs gs hs ws l pages bs ms W q1 q2 q3 qh qw ql hz r1 r2 r3 rh rw' rl e1 e2 e3 e4 g1 g2 g3).mono fun e W' ⟨he, hb⟩ => ?_
  subst he
  exact ⟨_, rfl, post_of_below (pv := []) hW' (fun _ _ _ => trodAll_mk1 (shut_bool Tryz.underlying4 true))
    (fun sp hsp => by rw [Tryz.params6]; exact trodAll_mk2 (WideElems.Trod_stays laidOut_ (by kernel_rfl) (of_decide_eq_true (by kernel_rfl)) h0 (fun x hx => hb.same (hW'.lt x (by simp [hx]))) (fun x hx => hsp x (by simp [hx]))) (WideElems.Trod_stays laidOut_ (by kernel_rfl) (of_decide_eq_true (by kernel_rfl)) h1 (fun x hx => hb.same (hW'.lt x (by simp [hx]))) (fun x hx => hsp x (by simp [hx]))))
    (fun _ _ => rfl) (by simp) hb (ok_one (by kernel_rfl) rfl (okWide_bool_mk Tryz.underlying4 true))⟩
theorem movingKeeps_holds : Rows.MovingKeepsSaid :=
  OpenClaim.holds_of_wide 6 Tryz.f6 rfl rfl rfl rfl rfl rfl rfl ⟨rfl, rfl, rfl, rfl, rfl⟩ rfl rfl rfl rfl rfl (by kernel_rfl) Tryz.func6 (by kernel_rfl)
    (of_decide_eq_true (by kernel_rfl)) (by unfold Func.isWrapper; rw [if_neg (of_decide_eq_false (by kernel_rfl))]; exact ⟨rfl, rfl⟩)
    (fun os started H enc _ => movingKeeps_lifted os started H enc)
end Go.Proofs.YtpabnbhbcphfiaaGreat
