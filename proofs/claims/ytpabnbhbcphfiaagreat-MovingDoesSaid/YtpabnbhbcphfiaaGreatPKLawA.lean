/- The law MovingDoes: Do of the program and of the reference do alike, whatever the system (of at most 70 spans of each kind, 70 huge groups, 100 bytes and 55 rules), the blocks (of at most 80) and the moves (of at most 40). -/
import Derived.Test.YtpabnbhbcphfiaaGreatP9
namespace Go.Pol
open Go Go.RowKit
theorem doL_good : ∀ (ms : List (Int × Int)) (V : Vm) (bs : List B3) (st : List Sp), GoodV V → GoodV (doL V bs st ms).2.2.2 := by
  have hcm : ∀ (q : Int) (l : List Sp) (V : Vm), GoodV V → GoodV (cmF q l V).2.2 := fun q l => by
    induction l with
    | nil => exact fun V h => h
    | cons x r ih =>
      intro V h
      unfold cmF
      split
      · exact ih _ (h.bec _ _ _ _ _ (by omega))
      · exact h.bec _ _ _ _ _ (by omega)
  have her : ∀ (p : Int) (l : List Sp) (s : List Int × Vm), GoodV s.2 → GoodV (l.foldl (errsS p) s).2 := fun p l => by
    induction l with
    | nil => exact fun s h => h
    | cons x r ih => exact fun s h => ih _ (h.bec _ _ _ _ _ (by omega))
  have hlv : ∀ (V : Vm) (p n : Int) (l : List Sp), GoodV V → GoodV (leaveF V p n l).2 := fun V p n l h => (her p l ([], V) h).bec _ _ _ _ _ (by omega)
  have hcp : ∀ (a b : Int) (m : Nat) (V : Vm), GoodV V → GoodV (copyF V a b m) := fun a b m => by
    induction m with
    | zero => exact fun V h => h
    | succ m ih => exact fun V h => (ih V h).write _ _
  have hcs : ∀ (p q : Int) (l : List Sp) (V : Vm), GoodV V → GoodV (l.foldl (copyS p q) V) := fun p q l => by
    induction l with
    | nil => exact fun V h => h
    | cons x r ih => exact fun V h => ih _ (hcp _ _ _ _ h)
  have hmv : ∀ (V : Vm) (p q n : Int), GoodV V → GoodV (moveF V p q n).2.2.2 := fun V p q n h => by
    unfold moveF
    split
    · exact h.bec _ _ _ _ _ (by omega)
    · simp only
      split
      · exact hlv _ _ _ _ (hcm _ _ _ (h.bec _ _ _ _ _ (by omega)))
      · exact hlv _ _ _ _ (hcs _ _ _ _ (hcm _ _ _ (h.bec _ _ _ _ _ (by omega))))
  intro ms
  induction ms with
  | nil => exact fun V bs st h => h
  | cons m r ih =>
    intro V bs st h
    rw [doL_cons]
    split
    · exact hmv _ _ _ _ h
    · exact ih _ _ _ (hmv _ _ _ _ h)
theorem doF_good {V : Vm} (h : GoodV V) (pages : Int) (bs : List B3) (ms : List (Int × Int)) : GoodV (doF V pages bs ms).2.2.2 := by
  unfold doF
  split
  · exact h
  · split
    · exact h
    · exact doL_good ms V bs [] h
theorem doL_len : ∀ (ms : List (Int × Int)) (V : Vm) (bs : List B3) (st : List Sp), (doL V bs st ms).1.length = bs.length ∧ (doL V bs st ms).2.1.length ≤ st.length + ms.length := by
  have hb : ∀ (bs : List B3) (k : Nat) (q : Int) (r : Int × Bool × Bool × Vm), (movBs bs k q r).length = bs.length := fun bs k q r => by
    unfold movBs
    split
    · rw [List.length_set]
    · rfl
  have hs : ∀ (st : List Sp) (p q n : Int) (r : Int × Bool × Bool × Vm), (movSt st p q n r).length ≤ st.length + 1 := fun st p q n r => by
    unfold movSt
    split
    · rw [List.length_append]; exact Nat.le_refl _
    · omega
  intro ms
  induction ms with
  | nil => exact fun V bs st => ⟨rfl, Nat.le_refl _⟩
  | cons m r ih =>
    intro V bs st
    rw [doL_cons, List.length_cons]
    split
    · exact ⟨hb _ _ _ _, by have := hs st (bs.getD m.1.toNat b0).1 m.2 (pw (bs.getD m.1.toNat b0).2.1) (moveM V bs m); simp only; omega⟩
    · obtain ⟨a, b⟩ := ih (moveM V bs m).2.2.2 (movBs bs m.1.toNat m.2 (moveM V bs m)) (movSt st (bs.getD m.1.toNat b0).1 m.2 (pw (bs.getD m.1.toNat b0).2.1) (moveM V bs m))
      rw [hb] at a
      exact ⟨a, by have := hs st (bs.getD m.1.toNat b0).1 m.2 (pw (bs.getD m.1.toNat b0).2.1) (moveM V bs m); omega⟩
theorem doF_len (V : Vm) (pages : Int) (bs : List B3) (ms : List (Int × Int)) : (doF V pages bs ms).1.length ≤ bs.length ∧ (doF V pages bs ms).2.1.length ≤ ms.length := by
  unfold doF
  split
  · simp
  · split
    · simp
    · have := doL_len ms V bs []
      simp only [List.length_nil, Nat.zero_add] at this
      exact ⟨by omega, this.2⟩
end Go.Pol
namespace Go.Proofs.YtpabnbhbcphfiaaGreat
open Go Go.Proofs Go.RowKit Go.Pol Go.ChangeShapes Go.WideShapes Go.Deep
attribute [local go_sem] Oper.semAt_some Go.Pol.wide_fn Go.Pol.wide_depth Go.Pol.wide_fn' Go.Pol.wide_depth'

set_option maxRecDepth 100000 in
set_option maxHeartbeats 3200000 in
theorem doesLaw_any (A1 A2 A3 Ah Aw Ar A M : Option Addr) (n1 c1 n2 c2 n3 c3 nh ch nw cw nr cr nb cb nm cm : Nat) (rs cs gs : List (Int × Int)) (hs : List Int) (ws : List (Int × Int)) (l : List Ru) (pages : Int) (bs : List B3) (ms : List (Int × Int)) (w : World)
    (h1 : rs.length = n1) (h2 : cs.length = n2) (h3 : gs.length = n3) (hhs : hs.length = nh) (hws : ws.length = nw) (hl : l.length = nr) (hz : Ar = none → cr = 0)
    (r1 : RU w w.heap.size A1 rs) (r2 : RU w w.heap.size A2 cs) (r3 : RU w w.heap.size A3 gs) (ri : RI w w.heap.size Ah hs) (rb : Rd w w.heap.size Aw (fl wrC ws)) (rr : Rd w w.heap.size Ar (fl ruC l))
    (hn : bs.length = nb) (hm : nb ≤ maxLen) (hzb : A = none → cb = 0) (hr : RT w w.heap.size A bs) (hmn : ms.length = nm) (hmm : nm ≤ maxLen) (hu : RU w w.heap.size M ms) :
    Calls Tryz.prog 5 #[.agg #[.slice A1 n1 c1, .slice A2 n2 c2, .slice A3 n3 c3, .slice Ah nh ch, .slice Aw nw cw, .slice Ar nr cr], .agg #[.int .i64 pages, .slice A nb cb, .slice M nm cm]] w fun e w' => e = .returned (.bool true) ∧ Below w.heap.size w w' := by
  have hb0 := ((Below.refl w.heap.size w).alloc (Nat.le_refl _) (.cells #[.slice A1 n1 c1, .slice A2 n2 c2, .slice A3 n3 c3, .slice Ah nh ch, .slice Aw nw cw, .slice Ar nr cr] 78)).alloc (by simp) (.cells #[.int .i64 pages, .slice A nb cb, .slice M nm cm] 59)
  have k3 := (Blk.new w 78 #[.slice A1 n1 c1, .slice A2 n2 c2, .slice A3 n3 c3, .slice Ah nh ch, .slice Aw nw cw, .slice Ar nr cr]).alloc (.cells #[.int .i64 pages, .slice A nb cb, .slice M nm cm] 59)
  have k4 := Blk.new (w.alloc (.cells #[.slice A1 n1 c1, .slice A2 n2 c2, .slice A3 n3 c3, .slice Ah nh ch, .slice Aw nw cw, .slice Ar nr cr] 78)) 59 #[.int .i64 pages, .slice A nb cb, .slice M nm cm]
  obtain ⟨s, hsz⟩ : ∃ s, w.heap.size = s := ⟨_, rfl⟩
  rw [World.size_alloc, hsz] at k4
  rw [hsz] at k3
  have q1 := Lib.hid ((r1.below hb0).more hb0.size)
  have q2 := Lib.hid ((r2.below hb0).more hb0.size)
  have q3 := Lib.hid ((r3.below hb0).more hb0.size)
  have qi := Lib.hid (RI.more (RI.below ri hb0) hb0.size)
  have qb := Lib.hid (rb.on_ hb0)
  have qr := Lib.hid (rr.on_ hb0)
  have qB := Lib.hid (hr.on hb0)
  have qM := Lib.hid ((hu.below hb0).more hb0.size)
  have qMs := Lib.hid (fun g o (e : M = some ⟨g, o, none⟩) (h : 0 < nm) => show g < s from by
    obtain ⟨b', o', e2, hb', _⟩ := hu 0 (by rw [hmn]; exact h)
    rw [e] at e2
    cases e2
    rw [hsz] at hb'; exact hb')
  have HGr := Lib.hid (fun W => great24_any A1 A2 A3 Ah Aw Ar n1 c1 n2 c2 n3 c3 nh ch nw cw nr cr W)
  have HF := Lib.hid (fun W => far_any A nb cb 80 W hm)
  have HA := Lib.hid (fun W => awake24_any W)
  have hmG : greatG n1 n2 n3 nh nw nr = false → (n1 ≤ 1000 ∧ n2 ≤ 1000 ∧ n3 ≤ 1000) ∧ nh ≤ 1000 ∧ nw ≤ 1000 ∧ nr ≤ 1000 := fun h => by
    unfold greatG at h
    simp only [Bool.or_eq_false_iff, decide_eq_false_iff_not] at h
    omega
  have hmG' := Lib.hid hmG
  have hlen := Lib.hid (And.intro h1 (And.intro h2 (And.intro h3 (And.intro hhs (And.intro hws (And.intro hl hz))))))
  have hlenB := Lib.hid (And.intro hn (And.intro hm (And.intro hzb (And.intro hmn hmm))))
  clear r1 r2 r3 ri rb rr hr hu hmG h1 h2 h3 hhs hws hl hz hn hm hzb hmn hmm
  cases hg : greatG n1 n2 n3 nh nw nr with
  | true =>
    rw [hg] at HGr
    clear hg hmG' HF q1 q2 q3 qi qb qr qB qM qMs hlen hlenB
    go_enter Tryz.func5, Tryz.ntmps5
    go_upto_region 1 with fail
    generalize (w.alloc _).alloc _ = w0 at *
    try simp only [hsz]
    have c0 := k3.cell
    go_wp2_with fail
    refine (HGr.out _).mono ?_
    rintro e w1 ⟨rfl, hb1⟩
    have B1 := hb0.trans (hb1.mono hb0.size)
    go_wp2_with fail
    refine (HA.out _).mono ?_
    rintro e w2 ⟨rfl, hb2⟩
    go_wp2_with fail
    go_ret
    exact ⟨rfl, B1.trans (hb2.mono B1.size)⟩
  | false =>
    rw [hg] at HGr
    have hmmG := Lib.hid (hmG'.out hg)
    clear hg hmG'
    cases hfar : (decide ((80 : Int) < (nb : Int)) && decide (nb ≤ 64) || decide (80 < nb)) with
    | true =>
      rw [hfar] at HF
      clear hfar q1 q2 q3 qi qb qr qB qM qMs hlen hlenB hmmG
      go_enter Tryz.func5, Tryz.ntmps5
      go_upto_region 1 with fail
      generalize (w.alloc _).alloc _ = w0 at *
      try simp only [hsz]
      have c0 := k3.cell
      go_wp2_with fail
      refine (HGr.out _).mono ?_
      rintro e w1 ⟨rfl, hb1⟩
      have B1 := hb0.trans (hb1.mono hb0.size)
      have c1 := (k4.call hb1).cell
      go_wp2_with fail
      refine (HF.out _).mono ?_
      rintro e w2 ⟨rfl, hw2⟩
      replace hw2 := hw2.symm
      subst hw2
      go_wp2_with fail
      refine (HA.out _).mono ?_
      rintro e w3 ⟨rfl, hb3⟩
      go_wp2_with fail
      go_ret
      exact ⟨rfl, B1.trans (hb3.mono B1.size)⟩
    | false =>
      rw [hfar] at HF
      have hnb80 : nb ≤ 80 := by
        simp only [Bool.or_eq_false_iff, decide_eq_false_iff_not] at hfar
        omega
      clear hfar
      by_cases h40 : 40 < nm
      · have h40' : decide ((40 : Int) < (nm : Int)) = true := by rw [decide_eq_true_eq]; omega
        clear q1 q2 q3 qi qb qr qB qM qMs hlen hlenB hmmG
        go_enter Tryz.func5, Tryz.ntmps5
        go_upto_region 1 with fail
        generalize (w.alloc _).alloc _ = w0 at *
        try simp only [hsz]
        have c0 := k3.cell
        go_wp2_with fail
        refine (HGr.out _).mono ?_
        rintro e w1 ⟨rfl, hb1⟩
        have B1 := hb0.trans (hb1.mono hb0.size)
        have c1 := (k4.call hb1).cell
        go_wp2_with fail
        refine (HF.out _).mono ?_
        rintro e w2 ⟨rfl, hw2⟩
        replace hw2 := hw2.symm
        subst hw2
        go_wp2_with fail
        refine (HA.out _).mono ?_
        rintro e w3 ⟨rfl, hb3⟩
        go_wp2_with fail
        go_ret
        exact ⟨rfl, B1.trans (hb3.mono B1.size)⟩
      · have h40' : decide ((40 : Int) < (nm : Int)) = false := by rw [decide_eq_false_iff_not]; omega
        go_enter Tryz.func5, Tryz.ntmps5
        go_upto_region 1 with fail
        generalize (w.alloc _).alloc _ = w0 at *
        try simp only [hsz]
        have c0 := k3.cell
        go_wp2_with fail
        refine (HGr.out _).mono ?_
        rintro e w1 ⟨rfl, hb1⟩
        have c1 := (k4.call hb1).cell
        clear c0
        go_wp2_with fail
        refine (HF.out _).mono ?_
        rintro e w2 ⟨rfl, hw2⟩
        replace hw2 := hw2.symm
        subst hw2
        have B2 := hb1
        go_upto_region 3 with fail
        clear c1 hb1 HF HGr
        obtain ⟨g1, g2, g3, gh, gw, gr, gz⟩ := hlen.out
        refine does_first _ _ s A1 A2 A3 Ah Aw Ar n1 c1 n2 c2 n3 c3 nh ch nw cw nr cr rs cs gs hs ws l (Nat.le_of_ble_eq_true rfl) rfl (k3.call B2) g1 g2 g3 gh gw gr hmmG.out gz ((q1.out.below B2).more B2.size) ((q2.out.below B2).more B2.size) ((q3.out.below B2).more B2.size) (RI.more (RI.below qi.out B2) B2.size) (qb.out.on_ B2) (qr.out.on_ B2) ?_
        intro b1 b2 w3 hb1 hb12 V1 V2 hb3
        simp only [mgput, Act.put, List.setIfInBounds_toArray, List.set_cons_succ, List.set_cons_zero]
        have B3 := B2.trans (hb3.mono B2.size)
        have hsz2 := B2.size
        have c3 := (k4.call B3).cell
        have hGood := Lib.hid (sysG_good rs cs gs hs ws l)
        generalize sysG rs cs gs hs ws l = V at *
        obtain ⟨R, hR⟩ : ∃ R, doF V pages bs ms = R := ⟨_, rfl⟩
        have hGR : GoodV R.2.2.2 := by rw [← hR]; exact doF_good hGood.out _ _ _
        obtain ⟨gn, gm, gzb, gmn, gmm⟩ := hlenB.out
        have hsw : s ≤ w1.heap.size := by have := hb0.size; omega
        have HD := Lib.hid (fun W (h : SysIs W b1 V) (ht : RT W W.heap.size A bs) (hu : RU W W.heap.size M ms) => do24_any b1 pages A M nb cb nm cm bs ms V W h hGood.out.kinds gn gm gzb ht gmn gmm hu (fun g o e h0 => by have := qMs.out g o e h0; omega))
        have HR := Lib.hid (fun W (h : RefIs W w1.heap.size b2 V) (ht : RT W W.heap.size A bs) (hu : RU W W.heap.size M ms) => do6_any w1.heap.size b2 pages A M nb cb nm cm bs ms V W h gn gm gzb ht gmn gmm hu (fun g o e h0 => by have := qMs.out g o e h0; omega))
        have hlR := doF_len V pages bs ms
        rw [hR] at HD HR hlR
        rw [gn, gmn] at hlR
        unfold DoO at HD
        unfold RDoO at HR
        obtain ⟨rB, rS, er, V'⟩ := R
        simp only at HD HR hGR hlR
        have hGR' := Lib.hid hGR
        have B30 := Lib.hid B3
        have rt3 := qB.out.on B3
        have ru3 := (qM.out.below B3).more B3.size
        clear hR hGood q1 q2 q3 qi qb qr k3 hlen hlenB hmmG g1 g2 g3 gh gw gr gz hb3 B2 hGR gn gm gzb gmn gmm
        go_wp2_with fail
        refine (HD.out _ V1 rt3 ru3).mono ?_
        rintro e w4 ⟨A6, p6, A7, p7, rfl, x6, f6, x7, f7, V4, F4⟩
        have B4 := B3.trans (F4.below B3.size (fun k hk e => by omega))
        have c4 := (k4.call B4).cell
        have U4 := V2.far F4 (fun k e => by subst e; omega)
        have hb24 := V2.lt
        have rt4 := qB.out.on B4
        have ru4 := (qM.out.below B4).more B4.size
        clear HD V1 V2 c3 B3 rt3 ru3
        go_wp2_with fail
        refine (HR.out _ U4 rt4 ru4).mono ?_
        rintro e w5 ⟨A8, p8, A9, p9, rfl, x8, f8, x9, f9, U5, F5⟩
        have B5 := B4.trans (F5.below B4.size (fun k hk e => by omega))
        have c5 := (k4.call B5).cell
        obtain ⟨ccs, _, _, _, kb2, _⟩ := U4.ex
        have V5 := V4.far F5 (by show ¬ b1 = b2; omega) (fun _ _ _ _ _ _ g _ _ _ hc hg => hc.elim fun cr hcr => Blk.ne_ hcr kb2 (by decide) hg)
        have x65 : RT w5 w5.heap.size A6 rB := fun k hk => by
          obtain ⟨b', o', e', hb', d1, d2, d3⟩ := x6 k hk
          have := f6 b' o' e'
          exact ⟨b', o', e', by have := F5.size; omega, F5.cell d1 (by show ¬ b' = b2; omega), F5.cell d2 (by show ¬ b' = b2; omega), F5.cell d3 (by show ¬ b' = b2; omega)⟩
        have x75 : RU w5 w5.heap.size A7 rS := fun k hk => by
          obtain ⟨b', o', e', hb', d1, d2⟩ := x7 k hk
          have := f7 b' o' e'
          exact ⟨b', o', e', by have := F5.size; omega, F5.cell d1 (by show ¬ b' = b2; omega), F5.cell d2 (by show ¬ b' = b2; omega)⟩
        have HN := Lib.hid (fun W => doNil_any pages A M nb cb nm cm W)
        clear HR U4 c4 B4 x6 x7 F5 V4 kb2 F4 rt4 ru4
        go_wp2_with fail
        refine (HN.out _).mono ?_
        rintro e w6 ⟨rfl, hb6⟩
        have B6 := B5.trans (hb6.mono B5.size)
        have y6 := x65.on hb6
        have y7 := (x75.below hb6).more hb6.size
        have y8 := x8.on hb6
        have y9 := (x9.below hb6).more hb6.size
        have V6 := V5.call hb6
        have U6 := U5.call hb6
        obtain ⟨m, hm⟩ : ∃ m, rB.length = m := ⟨_, rfl⟩
        obtain ⟨m2, hm2⟩ : ∃ m2, rS.length = m2 := ⟨_, rfl⟩
        have hm' := Lib.hid hm
        have hm2' := Lib.hid hm2
        rw [hm, hm2] at hlR
        try simp only [hm, hm2]
        have hmx : m ≤ maxLen ∧ m2 ≤ maxLen := by unfold maxLen; omega
        clear c5 HN x65 x75 x8 x9 V5 U5 B5 hb6 f6 f7 f8 f9 hm hm2
        go_wp2_with fail
        refine (sameBlocks_any A6 A8 m p6 p8 rB w6 hm'.out hmx.1 y6 y8).mono ?_
        rintro e w7 ⟨rfl, hb7⟩
        have B7 := B6.trans (hb7.mono B6.size)
        have V7 := V6.call hb7
        have U7 := U6.call hb7
        have z7 := (y7.below hb7).more hb7.size
        have z9 := (y9.below hb7).more hb7.size
        clear y6 y7 y8 y9 V6 U6 B6 hb7
        go_wp2_with fail
        refine (sameT_any A7 A9 m2 p7 p9 rS rS w7 hm2'.out hmx.2 rfl z7 z9).mono ?_
        rintro e w8 ⟨rfl, hb8⟩
        have B8 := B7.trans (hb8.mono B7.size)
        have V8 := V7.call hb8
        have U8 := U7.call hb8
        have e1 : (er == er) = true := by simp
        clear z7 z9 V7 U7 B7 hb8
        go_wp2_with fail
        refine (save_any b1 V' w8 V8).mono ?_
        rintro e w9 ⟨X1, rfl, hX1, hb9⟩
        have B9 := B8.trans (hb9.mono B8.size)
        have U9 := U8.call hb9
        have hrl := (chkR_zero.1 V8.ok.plan).1
        clear V8 U8 B8 hb9
        go_wp2_with fail
        refine (save6_any _ b2 V' w9 U9 hGR'.out).mono ?_
        rintro e w10 ⟨X2, rfl, hX2, hb10⟩
        have B10 := B9.trans (hb10.mono B9.size)
        have hX1' := hX1.on hb10
        clear U9 B9 hb10 hX1
        go_wp2_with fail
        refine (same6_any X1 X2 V' w10 hX1' hX2 (by omega)).mono ?_
        rintro e w11 ⟨rfl, hb11⟩
        have B11 := B10.trans (hb11.mono B10.size)
        go_wp2_with fail
        refine (HA.out _).mono ?_
        rintro e w12 ⟨rfl, hb12⟩
        go_wp2_with fail
        go_ret
        exact ⟨rfl, by rw [hsz]; rw [hsz] at hb0; exact hb0.trans ((B11.trans (hb12.mono B11.size)).mono (by have := hb0.size; omega))⟩

set_option maxRecDepth 100000 in
theorem movingDoes_lifted (os : Os) (started : os.Started) (H : Type) (enc : TypeId × Value → H) :
    ReturnsInHanded {} Tryz.checked os 5 .any (Rows.movingDoesSpec.pre6 enc Tryz.prog Tryz.f5 Rows.movingDoesRow.domain false) (Rows.movingDoesSpec.post enc Tryz.prog Tryz.f5 false true false false) := by
  refine returnsInHanded_of_change (C := Tryz.checked) own_ started (by kernel_rfl) Tryz.func5
    (ChangeSpec.witness6 (enc := enc) (C := Tryz.checked) false ⟨#[], #[.agg #[.slice none 0 0, .slice none 0 0, .slice none 0 0, .slice none 0 0, .slice none 0 0, .slice none 0 0], .agg #[.int .i64 0, .slice none 0 0, .slice none 0 0]], []⟩ 8 (by kernel_rfl) (by kernel_rfl) (by kernel_rfl) (by kernel_rfl)) ?_
  intro W base args ds gs before hval0 hW _ _
  have hval : ∀ (j : Nat) t v, Tryz.f5.params[j]? = some t → args[j]? = some v → Value.okWide Tryz.prog W .any base t v := hval0
  have hW' := hW
  obtain ⟨p, q, hA0, hV, rfl, _, _⟩ := hW
  have hA : DataW.TrodAll enc Tryz.prog W 0 (fun _ => true) true Tryz.f5.params.toList args.toList ds p := hA0
  rw [Tryz.params5] at hA hval
  obtain ⟨v0, v1, d0, d1, p0, p1, rfl, rfl, rfl, h0, h1⟩ := trodAll_two hA
  obtain ⟨rfl, rfl⟩ := trodVars_none hV
  obtain ⟨A1, A2, A3, Ah, Aw, Ar, n1, c1, n2, c2, n3, c3, nh, ch, nw, cw, nr, cr, rs, cs, gs, hs, ws, l, rfl, q1, r1, q2, r2, q3, r3, qh, rh, qw, rw', ql, rl, hz⟩ := openMadeG (hval 0 78 v0 rfl rfl) h0
  obtain ⟨pages, A, M, n, cap, mn, mcap, bs, ms, rfl, e1, e2, e3, e4, g1, g2, g3⟩ := openCaseK (hval 1 59 v1 rfl rfl) h1
  simp only [List.append_nil] at hW'
  refine (doesLaw_any A1 A2 A3 Ah Aw Ar A M n1 c1 n2 c2 n3 c3 nh ch nw cw nr cr n cap mn mcap rs cs gs hs ws l pages bs ms W q1 q2 q3 qh qw ql hz r1 r2 r3 rh rw' rl e1 e2 e3 e4 g1 g2 g3).mono fun e W' ⟨he, hb⟩ => ?_
  subst he
  exact ⟨_, rfl, post_of_below (pv := []) hW' (fun _ _ _ => trodAll_mk1 (shut_bool Tryz.underlying4 true))
    (fun sp hsp => by rw [Tryz.params5]; exact trodAll_mk2 (WideElems.Trod_stays laidOut_ (by kernel_rfl) (of_decide_eq_true (by kernel_rfl)) h0 (fun x hx => hb.same (hW'.lt x (by simp [hx]))) (fun x hx => hsp x (by simp [hx]))) (WideElems.Trod_stays laidOut_ (by kernel_rfl) (of_decide_eq_true (by kernel_rfl)) h1 (fun x hx => hb.same (hW'.lt x (by simp [hx]))) (fun x hx => hsp x (by simp [hx]))))
    (fun _ _ => rfl) (by simp) hb (ok_one (by kernel_rfl) rfl (okWide_bool_mk Tryz.underlying4 true))⟩
theorem movingDoes_holds : Rows.MovingDoesSaid :=
  OpenClaim.holds_of_wide 5 Tryz.f5 rfl rfl rfl rfl rfl rfl rfl ⟨rfl, rfl, rfl, rfl, rfl⟩ rfl rfl rfl rfl rfl (by kernel_rfl) Tryz.func5 (by kernel_rfl)
    (of_decide_eq_true (by kernel_rfl)) (by unfold Func.isWrapper; rw [if_neg (of_decide_eq_false (by kernel_rfl))]; exact ⟨rfl, rfl⟩)
    (fun os started H enc _ => movingDoes_lifted os started H enc)
end Go.Proofs.YtpabnbhbcphfiaaGreat
