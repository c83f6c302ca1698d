/- The law ClassesLeast: no table with at most k classes wastes less than Best says; with one class more the waste is not greater; all classes of the best table are requested (usages with at most 100 entries); and the examples hold. -/
import Derived.Test.YtiohcegkkpeodaaSpecZ
import Derived.Test.YtiohcegkkpeodaaLawD
namespace Go.Pol
def foundB (us : List (Int × Int)) (x : Int) : Nat → Bool
  | 0 => false
  | j + 1 => foundB us x j || ((us.getD j (0,0)).1 == x)
theorem foundB_true (us : List (Int × Int)) (x : Int) : ∀ n, (∃ j, j < n ∧ x = (us.getD j (0,0)).1) → foundB us x n = true
  | 0, h => by obtain ⟨j, hj, _⟩ := h; omega
  | n + 1, ⟨j, hj, e⟩ => by
    unfold foundB
    by_cases hjn : j = n
    · subst hjn; simp [e]
    · rw [foundB_true us x n ⟨j, by omega, e⟩]; rfl
theorem bestF_bad {us : List (Int × Int)} {k : Int} (h : (bestF us k).2.2 ≠ 0) : (bestF us k).1 = [] ∧ (bestF us k).2.1 = 0 := by
  unfold bestF at h ⊢
  split
  · rename_i h1
    rw [if_pos h1] at h
    split
    · exact ⟨rfl, rfl⟩
    · rename_i h2
      rw [if_neg h2] at h
      split
      · exact ⟨rfl, rfl⟩
      · rename_i h3; rw [if_neg h3] at h; exact absurd rfl h
  · exact ⟨rfl, rfl⟩
theorem bestF_good {us : List (Int × Int)} {k : Int} (h : (bestF us k).2.2 = 0) : chkU us = 0 ∧ 1 ≤ us.length ∧ 1 ≤ k ∧ k ≤ 64 ∧ bestF us k = (recon us (mSel us (min k.toNat us.length) (min k.toNat us.length)) 0, rowF us (min k.toNat us.length) 0, 0) := by
  unfold bestF at h ⊢
  by_cases h1 : chkU us = 0
  · rw [if_pos h1] at h ⊢
    by_cases h2 : us.length = 0
    · rw [if_pos h2] at h; simp at h
    · rw [if_neg h2] at h ⊢
      by_cases h3 : k < 1 ∨ 64 < k
      · rw [if_pos h3] at h; simp at h
      · rw [if_neg h3]; exact ⟨h1, by omega, by omega, by omega, rfl⟩
  · rw [if_neg h1] at h; exact absurd h h1
/-- what the law of the least waste asks of the best table -/
structure LeastF (us : List (Int × Int)) (k : Int) (l : List Int) (m : Int) : Prop where
  k1 : 1 ≤ k
  k2 : k ≤ 64
  waste : wasteT l us = (m, 0)
  len : (l.length : Int) ≤ k
  len64 : l.length ≤ 64
  req : ∀ x ∈ l, ∃ j, j < us.length ∧ x = (us.getD j (0,0)).1
  more : ∀ k' : Int, k ≤ k' → k' ≤ 64 → (bestF us k').2.2 = 0 ∧ (bestF us k').2.1 ≤ m
  least : ∀ xs : List Int, (wasteT xs us).2 = 0 → (xs.length : Int) ≤ k → m ≤ (wasteT xs us).1 ∧ ((wasteT xs us).1 = m → l.length ≤ xs.length)
theorem leastF_of {us : List (Int × Int)} {k : Int} (h : (bestF us k).2.2 = 0) : LeastF us k (bestF us k).1 (bestF us k).2.1 := by
  obtain ⟨h1, h2, h3, h4, h5⟩ := bestF_good h
  rw [h5]
  have ok := chkU_ok h1
  obtain ⟨b1, b2, b3, b4, b5⟩ := best_table ok k.toNat (min k.toNat us.length) h2 (by omega) (by omega) rfl
  simp only
  refine ⟨h3, h4, ?_, by rw [b3]; omega, by rw [b3]; omega, b5, fun k' hk1 hk2 => ?_, fun xs hx hl => ?_⟩
  · unfold wasteT; rw [if_pos b1, if_pos h1, b2]
  · have e : bestF us k' = (recon us (mSel us (min k'.toNat us.length) (min k'.toNat us.length)) 0, rowF us (min k'.toNat us.length) 0, 0) := by
      unfold bestF; rw [if_pos h1, if_neg (by omega), if_neg (by omega)]
    rw [e]
    refine ⟨rfl, ?_⟩
    have := row_mono' ok (min k.toNat us.length) (by omega) (min k'.toNat us.length - min k.toNat us.length) (by omega)
    rw [show min k.toNat us.length + (min k'.toNat us.length - min k.toNat us.length) = min k'.toNat us.length by omega] at this
    exact this.2
  · unfold wasteT at hx ⊢
    by_cases c1 : chkT xs = 0
    · rw [if_pos c1, if_pos h1] at hx ⊢
      cases hw : wstL xs 0 us with
      | none => rw [hw] at hx; simp at hx
      | some v =>
        have := least_law ok k.toNat (min k.toNat us.length) h2 (by omega) rfl xs v hw (by omega)
        simp only
        rw [b3]
        exact this
    · rw [if_neg c1] at hx; exact absurd hx c1
end Go.Pol
namespace Go.Proofs.Ytiohcegkkpeodaa
open Go Go.Proofs Go.RowKit Go.Pol Go.ChangeShapes Go.WideShapes Go.Deep
set_option maxRecDepth 100000 in
set_option maxHeartbeats 1600000 in
theorem leastLaw_any (A U : Option Addr) (n cap m ucap : Nat) (xs : List Int) (us : List (Int × Int)) (k : Int) (w : World) (hn : xs.length = n) (hm : us.length = m) (hn2 : n ≤ maxLen) (hm2 : m ≤ maxLen) (hr : RI w w.heap.size A xs) (hu : RU w w.heap.size U us) :
    Calls Try.prog 6 #[.slice U m ucap, .int .i64 k, .agg #[.slice A n cap]] w fun e w' => e = .returned (.bool true) ∧ Below w.heap.size w w' := by
  have hb0 := (Below.refl w.heap.size w).alloc (Nat.le_refl _) (.cells #[.slice A n cap] 24)
  have k0 := Blk.new w 24 #[.slice A n cap]
  have hr0 := RI.laterQ hr hb0
  have hu0 := RU.laterQ hu hb0
  have c0 := k0.cell
  by_cases h100 : 100 < m
  · have hd : decide (100 < m) = true := by simpa using h100
    unfold maxLen at hm2
    go_enter Try.func6, Try.ntmps6
    go_wp2_with fail
    refine (shown_any _).mono ?_
    rintro e wZ ⟨rfl, hbZ⟩
    go_wp2_with fail
    go_ret
    exact ⟨rfl, (hb0).trans (hbZ.mono (hb0).size)⟩
  · have hd : decide (100 < m) = false := by simpa using h100
    by_cases hf : 70 < n
    · have HFC := Lib.hid (far_any A U n cap m ucap (w.alloc (.cells #[.slice A n cap] 24)) true (by simp [hf]) hn2 hm2)
      unfold maxLen at hm2
      go_enter Try.func6, Try.ntmps6
      go_wp2_with fail
      refine HFC.out.mono ?_
      rintro e w1 ⟨rfl, hb1⟩
      have B1 := hb0.trans (hb1.mono hb0.size)
      go_wp2_with fail
      refine (shown_any _).mono ?_
      rintro e wZ ⟨rfl, hbZ⟩
      go_wp2_with fail
      go_ret
      exact ⟨rfl, (B1).trans (hbZ.mono (B1).size)⟩
    · have HFC := Lib.hid (far_any A U n cap m ucap (w.alloc (.cells #[.slice A n cap] 24)) false (by simp [hf]; omega) hn2 hm2)
      have HB := Lib.hid (fun W (h : RU W W.heap.size U us) kk => best_any U m ucap us kk W hm hm2 h)
      have HWT := Lib.hid (fun W (h : RI W W.heap.size A xs) (h2 : RU W W.heap.size U us) => waste_any A U n cap m ucap xs us W hn hm hn2 hm2 h h2)
      unfold maxLen at hm2
      have HBK := Lib.hid (fun W h => HB.out W h k)
      by_cases her : (bestF us k).2.2 = 0
      case neg =>
        have hz := bestF_bad her
        generalize bestF us k = R at *
        obtain ⟨l, mm, er⟩ := R
        simp only at her hz
        obtain ⟨rfl, rfl⟩ := hz
        have her' : (er != 0) = true := by simpa using her
        clear her HB HWT hn
        go_enter Try.func6, Try.ntmps6
        go_wp2_with fail
        refine HFC.out.mono ?_
        rintro e w1 ⟨rfl, hb1⟩
        have B1 := hb0.trans (hb1.mono hb0.size)
        have hu1 := RU.laterQ hu0 hb1
        go_wp2_with fail
        refine (HBK.out _ hu1).mono ?_
        rintro e w2 ⟨A2, c2, rfl, _, hb2⟩
        have B2 := (B1.trans (hb2.mono B1.size)).alloc (Nat.le_trans B1.size hb2.size) (.cells #[.slice A2 0 c2] 24)
        go_wp2_with fail
        refine (shown_any _).mono ?_
        rintro e wZ ⟨rfl, hbZ⟩
        go_wp2_with fail
        go_ret
        exact ⟨rfl, (B2).trans (hbZ.mono (B2).size)⟩
      case pos =>
        have HF := Lib.hid (leastF_of her)
        generalize bestF us k = R at *
        obtain ⟨l, mm, er⟩ := R
        simp only at her HF
        subst her
        obtain ⟨q, hq⟩ : ∃ q, l.length = q := ⟨_, rfl⟩
        have HQ := Lib.hid hq
        have hq64 : q ≤ 64 := by have := HF.out.len64; omega
        have hqk : (q : Int) ≤ k := by have := HF.out.len; omega
        have hk1 := HF.out.k1
        have hk2 := HF.out.k2
        have HWA := Lib.hid (fun W B bc (h : RI W W.heap.size B l) (h2 : RU W W.heap.size U us) => waste_any B U q bc m ucap l us W hq hm (by unfold maxLen; omega) (by unfold maxLen; omega) h h2)
        rw [HF.out.waste] at HWA
        have HM := Lib.hid hm
        have HNX := Lib.hid hn
        clear hq hm hn
        have hd2 : decide (k < q) = false := by simp; omega
        have hmm : (mm != mm) = false := by simp
        go_enter Try.func6, Try.ntmps6
        go_wp2_with fail
        refine HFC.out.mono ?_
        rintro e w1 ⟨rfl, hb1⟩
        have B1 := hb0.trans (hb1.mono hb0.size)
        have k1 := k0.call hb1
        have hr1 := RI.laterQ hr0 hb1
        have hu1 := RU.laterQ hu0 hb1
        clear hb0 k0 hr0 hu0 c0 hb1
        go_wp2_with fail
        refine (HBK.out _ hu1).mono ?_
        rintro e w2 ⟨A2, c2, rfl, hl2, hb2⟩
        try simp only at hl2 ⊢
        rw [HQ.out]
        have hbx := (Below.refl w2.heap.size w2).alloc (Nat.le_refl _) (.cells #[.slice A2 q c2] 24)
        have kA := Blk.new w2 24 #[.slice A2 q c2]
        have k2 := (k1.call hb2).call hbx
        have hr2 := RI.laterQ (RI.laterQ hr1 hb2) hbx
        have hu2 := RU.laterQ (RU.laterQ hu1 hb2) hbx
        have hl3 := RI.laterQ hl2 hbx
        have B2 := (B1.trans (hb2.mono B1.size)).trans (hbx.mono (Nat.le_trans B1.size hb2.size))
        obtain ⟨W2, hW2⟩ : ∃ W, w2.alloc (.cells #[.slice A2 q c2] 24) = W := ⟨_, rfl⟩
        rw [hW2] at kA k2 hr2 hu2 hl3 B2
        have cA := kA.cell
        clear k1 hr1 hu1 hl2 B1 hb2 hbx HBK
        go_wp2_with fail
        clear hW2
        refine (HWA.out _ _ _ hl3 hu2).mono ?_
        rintro e w3 ⟨rfl, hb3⟩
        have kA3 := kA.call hb3
        have k3 := k2.call hb3
        have hr3 := RI.laterQ hr2 hb3
        have hu3 := RU.laterQ hu2 hb3
        have hl4 := RI.laterQ hl3 hb3
        have B3 := B2.trans (hb3.mono B2.size)
        have cA3 := kA3.cell
        clear kA k2 hr2 hu2 hl3 B2 cA hb3 HWA
        go_wp2_with fail
        clear cA3
        go_loopw [12] (fun s12 wr => ∃ i : Nat, i ≤ q ∧ s12 = .int .i64 i ∧ Below w.heap.size w wr ∧ Blk wr w2.heap.size 24 #[.slice A2 q c2] ∧ Blk wr w.heap.size 24 #[.slice A n cap] ∧ RI wr wr.heap.size A2 l ∧ RI wr wr.heap.size A xs ∧ RU wr wr.heap.size U us) (fun s12 _ => q - (intOf s12).toNat)
        case atStart => exact ⟨0, by omega, rfl, B3, kA3, k3, hl4, hr3, hu3⟩
        case round =>
          clear B3 kA3 k3 hl4 hr3 hu3
          obtain ⟨i, hi, rfl, B3, kA3, k3, hl4, hr3, hu3⟩ := hrel
          have cA3 := kA3.cell
          have c3 := k3.cell
          by_cases hlt : i < q
          · as_aux_lemma =>
            obtain ⟨ga, oa, rfl, _, hax⟩ := RI.at_ hl4 (k := i) (by have := HQ.out; omega)
            have HFT : Hid (foundB us (l.getD i 0) m = true) := Lib.hid (by
              refine foundB_true us _ m ?_
              have := HF.out.req (l.getD i 0) (by rw [List.getD_eq_getElem?_getD, List.getElem?_eq_getElem (by have := HQ.out; omega)]; simp)
              rw [HM.out] at this
              exact this)
            generalize l.getD i 0 = x at *
            go_wp2_with fail
            clear cA3 c3
            go_loopw [13, 14] (fun s13 s14 wx => ∃ j : Nat, j ≤ m ∧ s14 = .int .i64 j ∧ s13 = .bool (foundB us x j) ∧ Below w.heap.size w wx ∧ Blk wx w2.heap.size 24 #[.slice (some ⟨ga, oa, none⟩) q c2] ∧ Blk wx w.heap.size 24 #[.slice A n cap] ∧ RI wx wx.heap.size (some ⟨ga, oa, none⟩) l ∧ RI wx wx.heap.size A xs ∧ RU wx wx.heap.size U us ∧ wx.cell? ⟨ga, oa + i, none⟩ = some (.int .i64 x)) (fun _ s14 _ => m - (intOf s14).toNat)
            case atStart => exact ⟨0, by omega, rfl, rfl, B3, kA3, k3, hl4, hr3, hu3, hax⟩
            case round =>
              clear B3 kA3 k3 hl4 hr3 hu3 hax
              obtain ⟨j, hj, rfl, rfl, B3, kA3, k3, hl4, hr3, hu3, hax⟩ := hrel
              by_cases hjm : j < m
              · obtain ⟨gu, ou, rfl, _, hux, _⟩ := RU.at_' hu3 (k := j) (by have := HM.out; omega)
                have hst : Hid (foundB us x (j + 1) = (foundB us x j || ((us.getD j (0,0)).1 == x))) := Lib.hid rfl
                generalize (us.getD j (0,0)).1 = y at *
                have q0 := fun z : Ext wr => (z.blk kA3).cell
                have q1 := fun z : Ext wr => z.cell hax
                have q2 := fun z : Ext wr => z.cell hux
                cases hE : foundB us x j with
                | true =>
                  have hst2 : Hid (foundB us x (j + 1) = true) := Lib.hid (by rw [hst.out, hE]; rfl)
                  clear hst hE
                  go_upto_region 16 with fail
                  refine region_ext (by kernel_rfl) (by kernel_rfl) ?_
                  repeat (go_big_quiet_step (fail))
                  refine wpQuiet_nil ?_
                  rintro wq ⟨⟨_, hwq⟩, rfl⟩
                  go_wp2_with fail
                  go_roundw
                  case rel => exact ⟨j + 1, by omega, by go_num, by rw [hst2.out], B3.trans (hwq.mono B3.size), kA3.call hwq, k3.call hwq, RI.laterQ hl4 hwq, RI.laterQ hr3 hwq, RU.laterQ hu3 hwq, (Ext.mk wq hwq : Ext wr).cell hax⟩
                  case measure => simp [intOf]; omega
                | false =>
                  have hst2 : Hid (foundB us x (j + 1) = (y == x)) := Lib.hid (by rw [hst.out, hE]; rfl)
                  clear hst hE
                  go_upto_region 16 with fail
                  refine region_ext (by kernel_rfl) (by kernel_rfl) ?_
                  repeat (go_big_quiet_step (fail))
                  refine wpQuiet_nil ?_
                  rintro wq ⟨⟨_, hwq⟩, rfl⟩
                  go_wp2_with fail
                  go_roundw
                  case rel => exact ⟨j + 1, by omega, by go_num, by rw [hst2.out], B3.trans (hwq.mono B3.size), kA3.call hwq, k3.call hwq, RI.laterQ hl4 hwq, RI.laterQ hr3 hwq, RU.laterQ hu3 hwq, (Ext.mk wq hwq : Ext wr).cell hax⟩
                  case measure => simp [intOf]; omega
              · obtain rfl : m = j := by omega
                rw [HFT.out]
                go_wp2_with fail
                go_roundw
                case rel => exact ⟨i + 1, by omega, by go_num, B3, kA3, k3, hl4, hr3, hu3⟩
                case measure => simp [intOf]; omega
          · as_aux_lemma =>
            have hmore := HF.out.more (if k < 64 then k + 1 else 64) (by split <;> omega) (by split <;> omega)
            have HB2 := Lib.hid (HB.out wr hu3 (if k < 64 then k + 1 else 64))
            generalize bestF us (if k < 64 then k + 1 else 64) = R2 at *
            obtain ⟨l2, m2, er2⟩ := R2
            simp only at hmore
            obtain ⟨rfl, hm2⟩ := hmore
            have hd3 : decide (mm < m2) = false := by simp; omega
            obtain ⟨q2, hq2⟩ : ∃ q2, l2.length = q2 := ⟨_, rfl⟩
            have HQ2 := Lib.hid hq2
            clear hq2
            by_cases hk64 : k < 64
            · rw [if_pos hk64] at HB2
              have HLS : Hid ((wasteT xs us).2 = 0 → (n : Int) ≤ k → mm ≤ (wasteT xs us).1 ∧ ((wasteT xs us).1 = mm → q ≤ n)) := Lib.hid (fun h1 h2 => by
                have := HF.out.least xs h1 (by rw [HNX.out]; exact h2)
                rw [HQ.out, HNX.out] at this
                exact this)
              generalize wasteT xs us = RW at *
              obtain ⟨rw1, rw2⟩ := RW
              simp only at HLS
              go_wp2_with fail
              refine HB2.out.mono ?_
              rintro e w5 ⟨A5, c5, rfl, _, hb5⟩
              try simp only
              rw [HQ2.out]
              have hbx := (Below.refl w5.heap.size w5).alloc (Nat.le_refl _) (.cells #[.slice A5 q2 c5] 24)
              have kA5 := (kA3.call hb5).call hbx
              have k5 := (k3.call hb5).call hbx
              have hr5 := RI.laterQ (RI.laterQ hr3 hb5) hbx
              have hu5 := RU.laterQ (RU.laterQ hu3 hb5) hbx
              have B5 := (B3.trans (hb5.mono B3.size)).trans (hbx.mono (Nat.le_trans B3.size hb5.size))
              have c5x := k5.cell
              clear hb5 hbx B3 kA3 k3 hl4 hr3 hu3 cA3 c3 HB2 HB
              go_wp2_with fail
              refine (HWT.out _ hr5 hu5).mono ?_
              rintro e w6 ⟨rfl, hb6⟩
              have kA6 := kA5.call hb6
              have k6 := k5.call hb6
              have B6 := B5.trans (hb6.mono B5.size)
              have cA6 := kA6.cell
              have c6 := k6.cell
              clear hb6 B5 kA5 k5 hr5 hu5 c5x HWT
              by_cases z1 : rw2 = 0
              · have z1' : (rw2 != 0) = false := by simp [z1]
                by_cases z2 : k < n
                · have z2' : decide (k < (n : Int)) = true := by simpa using z2
                  clear z1
                  go_wp2_with fail
                  refine (shown_any _).mono ?_
                  rintro e wZ ⟨rfl, hbZ⟩
                  go_wp2_with fail
                  go_ret
                  exact ⟨rfl, (B6).trans (hbZ.mono (B6).size)⟩
                · have z2' : decide (k < (n : Int)) = false := by simpa using z2
                  obtain ⟨y1, y2⟩ := HLS.out z1 (by omega)
                  have y1' : decide (mm ≤ rw1) = true := by simpa using y1
                  by_cases z3 : mm < rw1
                  · have z3' : decide (mm < rw1) = true := by simpa using z3
                    clear z1 y2
                    go_wp2_with fail
                    refine (shown_any _).mono ?_
                    rintro e wZ ⟨rfl, hbZ⟩
                    go_wp2_with fail
                    go_ret
                    exact ⟨rfl, (B6).trans (hbZ.mono (B6).size)⟩
                  · have z3' : decide (mm < rw1) = false := by simpa using z3
                    have y3 := y2 (by omega)
                    have y3' : decide (q ≤ n) = true := by simpa using y3
                    clear z1 y2
                    go_wp2_with fail
                    refine (shown_any _).mono ?_
                    rintro e wZ ⟨rfl, hbZ⟩
                    go_wp2_with fail
                    go_ret
                    exact ⟨rfl, (B6).trans (hbZ.mono (B6).size)⟩
              · have z1' : (rw2 != 0) = true := by simpa using z1
                clear z1
                go_wp2_with fail
                refine (shown_any _).mono ?_
                rintro e wZ ⟨rfl, hbZ⟩
                go_wp2_with fail
                go_ret
                exact ⟨rfl, (B6).trans (hbZ.mono (B6).size)⟩
            · rw [if_neg hk64] at HB2
              have HLS : Hid ((wasteT xs us).2 = 0 → (n : Int) ≤ k → mm ≤ (wasteT xs us).1 ∧ ((wasteT xs us).1 = mm → q ≤ n)) := Lib.hid (fun h1 h2 => by
                have := HF.out.least xs h1 (by rw [HNX.out]; exact h2)
                rw [HQ.out, HNX.out] at this
                exact this)
              generalize wasteT xs us = RW at *
              obtain ⟨rw1, rw2⟩ := RW
              simp only at HLS
              go_wp2_with fail
              refine HB2.out.mono ?_
              rintro e w5 ⟨A5, c5, rfl, _, hb5⟩
              try simp only
              rw [HQ2.out]
              have hbx := (Below.refl w5.heap.size w5).alloc (Nat.le_refl _) (.cells #[.slice A5 q2 c5] 24)
              have kA5 := (kA3.call hb5).call hbx
              have k5 := (k3.call hb5).call hbx
              have hr5 := RI.laterQ (RI.laterQ hr3 hb5) hbx
              have hu5 := RU.laterQ (RU.laterQ hu3 hb5) hbx
              have B5 := (B3.trans (hb5.mono B3.size)).trans (hbx.mono (Nat.le_trans B3.size hb5.size))
              have c5x := k5.cell
              clear hb5 hbx B3 kA3 k3 hl4 hr3 hu3 cA3 c3 HB2 HB
              go_wp2_with fail
              refine (HWT.out _ hr5 hu5).mono ?_
              rintro e w6 ⟨rfl, hb6⟩
              have kA6 := kA5.call hb6
              have k6 := k5.call hb6
              have B6 := B5.trans (hb6.mono B5.size)
              have cA6 := kA6.cell
              have c6 := k6.cell
              clear hb6 B5 kA5 k5 hr5 hu5 c5x HWT
              by_cases z1 : rw2 = 0
              · have z1' : (rw2 != 0) = false := by simp [z1]
                by_cases z2 : k < n
                · have z2' : decide (k < (n : Int)) = true := by simpa using z2
                  clear z1
                  go_wp2_with fail
                  refine (shown_any _).mono ?_
                  rintro e wZ ⟨rfl, hbZ⟩
                  go_wp2_with fail
                  go_ret
                  exact ⟨rfl, (B6).trans (hbZ.mono (B6).size)⟩
                · have z2' : decide (k < (n : Int)) = false := by simpa using z2
                  obtain ⟨y1, y2⟩ := HLS.out z1 (by omega)
                  have y1' : decide (mm ≤ rw1) = true := by simpa using y1
                  by_cases z3 : mm < rw1
                  · have z3' : decide (mm < rw1) = true := by simpa using z3
                    clear z1 y2
                    go_wp2_with fail
                    refine (shown_any _).mono ?_
                    rintro e wZ ⟨rfl, hbZ⟩
                    go_wp2_with fail
                    go_ret
                    exact ⟨rfl, (B6).trans (hbZ.mono (B6).size)⟩
                  · have z3' : decide (mm < rw1) = false := by simpa using z3
                    have y3 := y2 (by omega)
                    have y3' : decide (q ≤ n) = true := by simpa using y3
                    clear z1 y2
                    go_wp2_with fail
                    refine (shown_any _).mono ?_
                    rintro e wZ ⟨rfl, hbZ⟩
                    go_wp2_with fail
                    go_ret
                    exact ⟨rfl, (B6).trans (hbZ.mono (B6).size)⟩
              · have z1' : (rw2 != 0) = true := by simpa using z1
                clear z1
                go_wp2_with fail
                refine (shown_any _).mono ?_
                rintro e wZ ⟨rfl, hbZ⟩
                go_wp2_with fail
                go_ret
                exact ⟨rfl, (B6).trans (hbZ.mono (B6).size)⟩
set_option maxRecDepth 100000 in
theorem classesLeast_lifted (os : Os) (started : os.Started) (H : Type) (enc : TypeId × Value → H) :
    ReturnsInHanded {} Try.checked os 6 .any (Rows.classesLeastSpec.pre6 enc Try.prog Try.f6 Rows.classesLeastRow.domain false) (Rows.classesLeastSpec.post enc Try.prog Try.f6 false true false false) := by
  refine returnsInHanded_of_change (C := Try.checked) own_ started (by kernel_rfl) Try.func6
    (ChangeSpec.witness6 (enc := enc) (C := Try.checked) false ⟨#[], #[.slice none 0 0, .int .i64 0, .agg #[.slice none 0 0]], []⟩ 8 (by kernel_rfl) (by kernel_rfl) (by kernel_rfl) (by kernel_rfl)) ?_
  intro W base args ds gs before hval0 hW _ _
  have hval : ∀ (j : Nat) t v, Try.f6.params[j]? = some t → args[j]? = some v → Value.okWide Try.prog W .any base t v := hval0
  have hW' := hW
  obtain ⟨p, q, hA0, hV, rfl, _, _⟩ := hW
  have hA : DataW.TrodAll enc Try.prog W 0 (fun _ => true) true Try.f6.params.toList args.toList ds p := hA0
  rw [Try.params6] at hA hval
  obtain ⟨v0, v1, v2, d0, d1, d2, p0, p1, p2, rfl, rfl, rfl, h0, h1, h2⟩ := trodAll_three hA
  obtain ⟨rfl, rfl⟩ := trodVars_none hV
  obtain ⟨A, n, cap, xs, rfl, e1, e2, e3⟩ := openTab (hval 2 24 v2 rfl rfl) h2
  obtain ⟨fuel, hf⟩ := h0
  obtain ⟨U, m, ucap, us, rfl, g1, g2, g3⟩ := openUse hf (hval 0 36 v0 rfl rfl)
  replace h0 : DataW.Trod enc Try.prog W 0 (fun _ => true) true 36 _ d0 p0 := ⟨fuel, hf⟩
  obtain ⟨n1, rfl⟩ := okWide_i64 (hval 1 3 v1 rfl rfl)
  simp only [List.append_nil] at hW'
  refine (leastLaw_any A U n cap m ucap xs us n1 W e1 g1 e2 g2 e3 g3).mono fun e W' ⟨he, hb⟩ => ?_
  subst he
  exact ⟨_, rfl, post_of_below (pv := []) hW' (fun _ _ _ => trodAll_mk1 (shut_bool Try.underlying4 true))
    (fun sp hsp => by rw [Try.params6]; exact trodAll_mk3 (WideElems.Trod_stays laidOut_ (by kernel_rfl) (of_decide_eq_true (by kernel_rfl)) h0 (fun x hx => hb.same (hW'.lt x (by simp [hx]))) (fun x hx => hsp x (by simp [hx]))) (WideElems.Trod_stays laidOut_ (by kernel_rfl) (of_decide_eq_true (by kernel_rfl)) h1 (fun x hx => hb.same (hW'.lt x (by simp [hx]))) (fun x hx => hsp x (by simp [hx]))) (WideElems.Trod_stays laidOut_ (by kernel_rfl) (of_decide_eq_true (by kernel_rfl)) h2 (fun x hx => hb.same (hW'.lt x (by simp [hx]))) (fun x hx => hsp x (by simp [hx]))))
    (fun _ _ => rfl) (by simp) hb (ok_one (by kernel_rfl) rfl (okWide_bool_mk Try.underlying4 true))⟩
theorem classesLeast_holds : Rows.ClassesLeastSaid :=
  OpenClaim.holds_of_wide 6 Try.f6 rfl rfl rfl rfl rfl rfl rfl ⟨rfl, rfl, rfl, rfl, rfl⟩ rfl rfl rfl rfl rfl (by kernel_rfl) Try.func6 (by kernel_rfl)
    (of_decide_eq_true (by kernel_rfl)) (by unfold Func.isWrapper; rw [if_neg (of_decide_eq_false (by kernel_rfl))]; exact ⟨rfl, rfl⟩)
    (fun os started H enc _ => classesLeast_lifted os started H enc)
end Go.Proofs.Ytiohcegkkpeodaa
