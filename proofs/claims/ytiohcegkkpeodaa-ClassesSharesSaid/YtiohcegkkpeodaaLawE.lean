/- The law ClassesShares: for every table of at most 70 classes and every size (taken modulo the greatest class, from 1 on), the worst size is 1 or 1 greater than a class, no size has a greater share of waste, no smaller one the same; and the examples hold. -/
import Derived.Test.YtiohcegkkpeodaaSpecY
import Derived.Test.YtiohcegkkpeodaaLawD
namespace Go.Pol
def edgeB (xs : List Int) (size : Int) : Nat → Bool
  | 0 => size == 1
  | k + 1 => edgeB xs size k || (size == xs.getD k 0 + 1)
theorem edgeB_true (xs : List Int) (size : Int) : ∀ n, (size = 1 ∨ ∃ i, i < n ∧ size = xs.getD i 0 + 1) → edgeB xs size n = true
  | 0, h => by
    rcases h with h | ⟨i, hi, _⟩
    · simp [edgeB, h]
    · omega
  | n + 1, h => by
    unfold edgeB
    rcases h with h | ⟨i, hi, h⟩
    · rw [edgeB_true xs size n (.inl h)]; rfl
    · by_cases e : i = n
      · subst e; simp [h]
      · rw [edgeB_true xs size n (.inr ⟨i, by omega, h⟩)]; rfl
end Go.Pol
namespace Go.Proofs.Ytiohcegkkpeodaa
open Go Go.Proofs Go.RowKit Go.Pol Go.ChangeShapes Go.WideShapes Go.Deep
set_option maxRecDepth 100000 in
set_option maxHeartbeats 1600000 in
theorem sharesLaw_any (A : Option Addr) (n cap : Nat) (xs : List Int) (u : Int) (w : World) (hn : xs.length = n) (hm : n ≤ maxLen) (hr : RI w w.heap.size A xs) (hu : 0 ≤ u ∧ u ≤ 65535) :
    Calls Try.prog 8 #[.agg #[.slice A n cap], .int .u16 u] w fun e w' => e = .returned (.bool true) ∧ Below w.heap.size w w' := by
  have HW := Lib.hid (fun W (h : RI W W.heap.size A xs) => worst_any A n cap xs W hn hm h)
  have hb0 := (Below.refl w.heap.size w).alloc (Nat.le_refl _) (.cells #[.slice A n cap] 24)
  have k0 := Blk.new w 24 #[.slice A n cap]
  have hr0 := RI.laterQ hr hb0
  by_cases h70 : 70 < n
  · clear HW
    go_enter Try.func8, Try.ntmps8
    go_wp2_with fail
    refine (far_any _ _ _ _ _ _ _ true (by simp [h70]) hm (by unfold maxLen; omega)).mono ?_
    rintro e w1 ⟨rfl, hb1⟩
    have B1 := hb0.trans (hb1.mono hb0.size)
    go_wp2_with fail
    refine (shown_any _).mono ?_
    rintro e wZ ⟨rfl, hbZ⟩
    go_wp2_with fail
    go_ret
    exact ⟨rfl, (B1).trans (hbZ.mono (B1).size)⟩
  · by_cases hck : chkT xs = 0
    case neg =>
      have HR : wrsT xs = (0, 0, 0, chkT xs) := by unfold wrsT; rw [if_neg hck]
      rw [HR] at HW
      have hck' : (chkT xs != 0) = true := by simpa using hck
      clear HR hck hn
      generalize chkT xs = ck at *
      go_enter Try.func8, Try.ntmps8
      go_wp2_with fail
      refine (far_any _ _ _ _ _ _ _ false (by simp [h70]) hm (by unfold maxLen; omega)).mono ?_
      rintro e w1 ⟨rfl, hb1⟩
      have k1 := k0.call hb1
      have hr1 := RI.laterQ hr0 hb1
      have B1 := hb0.trans (hb1.mono hb0.size)
      have c1 := k1.cell
      go_wp2_with fail
      refine (HW.out _ hr1).mono ?_
      rintro e w2 ⟨rfl, hb2⟩
      have B2 := B1.trans (hb2.mono B1.size)
      go_wp2_with fail
      refine (shown_any _).mono ?_
      rintro e wZ ⟨rfl, hbZ⟩
      go_wp2_with fail
      go_ret
      exact ⟨rfl, (B2).trans (hbZ.mono (B2).size)⟩
    case pos =>
      obtain ⟨hs0, hsh⟩ := shares_law hck
      have hok := chkT_ok hck
      have hL := hok.at_ (n - 1) (by have := hok.pos; omega)
      have hn1 : 1 ≤ n := by have := hok.pos; omega
      have hin := Lib.hid (fun m (h : m ≤ xs.getD (n - 1) 0) => cls_in hok m (by rw [hn]; exact h))
      have hCl := Lib.hid (fun m (h1 : 1 ≤ m) (h2 : m ≤ xs.getD (n - 1) 0) => show classT xs m = (((cls xs m : Nat) : Int), 0) by
        unfold classT
        rw [if_pos hck, if_pos (isSz_iff.2 ⟨h1, by omega⟩), if_neg (by have := cls_in hok m (by rw [hn]; exact h2); omega)])
      have HCA := Lib.hid (fun W (h : RI W W.heap.size A xs) s => class_any A n cap xs s W hn hm h)
      have HOK := Lib.hid hok
      have HN := Lib.hid hn
      generalize wrsT xs = R at *
      obtain ⟨size, num, den, er⟩ := R
      simp only at hs0 hsh
      obtain rfl : er = 0 := hs0
      have HS := Lib.hid hsh
      obtain ⟨s1, s2, s3, s4, s5, s6, _, _, _⟩ := hsh
      rw [hn] at s6
      have HED : Hid (edgeB xs size n = true) := Lib.hid (edgeB_true xs size n (by have := HS.out.edge; rw [HN.out] at this; exact this))
      obtain ⟨L, hLe⟩ : ∃ L, xs.getD (n - 1) 0 = L := ⟨_, rfl⟩
      have hc0 := RI.at_ hr (k := n - 1) (by omega)
      rw [hLe] at hL s6 hin hCl hc0
      obtain ⟨L1, L2, _⟩ := hL
      obtain ⟨g, o, rfl, hg, hcL⟩ := hc0
      have HLe := Lib.hid hLe
      clear hck hok hn hLe
      have hd1 : decide (L < 1) = false := by simp; omega
      have hd2 : decide (den < 1) = false := by simp; omega
      have hd3 : decide (num < 0) = false := by simp; omega
      have hd4 : decide (den ≤ num) = false := by simp; omega
      have hn0 : ((n : Int) == 0) = false := by simp; omega
      go_enter Try.func8, Try.ntmps8
      go_wp2_with fail
      refine (far_any _ _ _ _ _ _ _ false (by simp [h70]) hm (by unfold maxLen; omega)).mono ?_
      rintro e w1 ⟨rfl, hb1⟩
      have k1 := k0.call hb1
      have hr1 := RI.laterQ hr0 hb1
      have B1 := hb0.trans (hb1.mono hb0.size)
      have c1 := k1.cell
      clear k0 hr0 hb0 hb1
      go_wp2_with fail
      refine (HW.out _ hr1).mono ?_
      rintro e w2 ⟨rfl, hb2⟩
      have k2 := k1.call hb2
      have hr2 := RI.laterQ hr1 hb2
      have B2 := B1.trans (hb2.mono B1.size)
      have c2 := k2.cell
      have hcL2 := (B2.cell (p := ⟨g, o + (n - 1), none⟩) hg).trans hcL
      clear k1 hr1 c1 hb2 B1 HW
      go_wp2_with fail
      go_loop [9, 10] (fun s9 s10 => ∃ k : Nat, k ≤ n ∧ s10 = .int .i64 k ∧ s9 = .bool (edgeB xs size k)) (fun _ s10 => n - (intOf s10).toNat)
      case atStart => exact ⟨0, by omega, rfl, rfl⟩
      case round =>
        obtain ⟨k, hk, rfl, rfl⟩ := hrel
        by_cases hlt : k < n
        · obtain ⟨g', o', had, _, hcx⟩ := RI.at_ hr2 (k := k) (by have := HN.out; omega)
          obtain ⟨rfl, rfl⟩ : g = g' ∧ o = o' := by simpa using had
          clear had
          have hst : Hid (edgeB xs size (k + 1) = (edgeB xs size k || (size == xs.getD k 0 + 1))) := Lib.hid rfl
          have hxk := HOK.out.at_ k (by have := HN.out; omega)
          generalize xs.getD k 0 = x at *
          obtain ⟨x1, x2, _⟩ := hxk
          cases hE : edgeB xs size k with
          | true =>
            have hst2 : Hid (edgeB xs size (k + 1) = true) := Lib.hid (by rw [hst.out, hE]; rfl)
            clear hst hE
            go_wp2_with fail
            go_round
            case rel => exact ⟨k + 1, by omega, by go_num, by rw [hst2.out]⟩
            case measure => simp [intOf]; omega
          | false =>
            have hst2 : Hid (edgeB xs size (k + 1) = (size == x + 1)) := Lib.hid (by rw [hst.out, hE]; rfl)
            clear hst hE
            go_wp2_with fail
            go_round
            case rel => exact ⟨k + 1, by omega, by go_num, by rw [hst2.out]⟩
            case measure => simp [intOf]; omega
        · obtain rfl : n = k := by omega
          rw [HED.out]
          have ho1 := Int.emod_nonneg u (show L ≠ 0 by omega)
          have ho2 := Int.emod_lt_of_pos u (show 0 < L by omega)
          obtain ⟨ot, hot⟩ : ∃ ot, u % L = ot := ⟨_, rfl⟩
          have HCO := Lib.hid (hCl.out (1 + ot) (by omega) (by omega))
          have HCS := Lib.hid (hCl.out size (by omega) (by omega))
          have i1 := hin.out (1 + ot) (by omega)
          have i2 := hin.out size (by omega)
          rw [HN.out] at i1 i2
          have HA1 := Lib.hid (HS.out.all (1 + ot) (by omega) (by rw [HN.out, HLe.out]; omega))
          have HOW := Lib.hid HS.out.own
          obtain ⟨_, _, had1, _, hv1⟩ := RI.at_ hr2 (k := cls xs (1 + ot)) (by have := HN.out; omega)
          obtain ⟨rfl, rfl⟩ := (by simpa using had1 : g = _ ∧ o = _)
          obtain ⟨_, _, had2, _, hv2⟩ := RI.at_ hr2 (k := cls xs size) (by have := HN.out; omega)
          obtain ⟨rfl, rfl⟩ := (by simpa using had2 : g = _ ∧ o = _)
          clear had1 had2
          have z1 := HOK.out.at_ (cls xs (1 + ot)) (by have := HN.out; omega)
          have z2 := HOK.out.at_ (cls xs size) (by have := HN.out; omega)
          obtain ⟨ci, hci⟩ : ∃ ci, cls xs (1 + ot) = ci := ⟨_, rfl⟩
          obtain ⟨cj, hcj⟩ : ∃ cj, cls xs size = cj := ⟨_, rfl⟩
          rw [hci] at HCO HA1 i1 z1 hv1
          rw [hcj] at HCS HOW i2 z2 hv2
          clear hci hcj
          generalize xs.getD ci 0 = c at *
          generalize xs.getD cj 0 = d at *
          obtain ⟨z11, z12, _⟩ := z1
          obtain ⟨z21, z22, _⟩ := z2
          have HC1 := Lib.hid (fun W (h : RI W W.heap.size (some ⟨g, o, none⟩) xs) => HCA.out W h (1 + ot))
          have HC2 := Lib.hid (fun W (h : RI W W.heap.size (some ⟨g, o, none⟩) xs) => HCA.out W h size)
          rw [HCO.out] at HC1
          rw [HCS.out] at HC2
          rw [hot] at ho1 ho2
          go_wp2_with fail
          clear hot
          refine (HC1.out _ hr2).mono ?_
          rintro e w3 ⟨rfl, hb3⟩
          have k3 := k2.call hb3
          have hr3 := RI.laterQ hr2 hb3
          have B3 := B2.trans (hb3.mono B2.size)
          have c3 := k3.cell
          have hw1 : w3.cell? ⟨g, o + ci, none⟩ = some (.int .i64 c) := (Ext.mk w3 hb3 : Ext w2).cell hv1
          have hw2 : w3.cell? ⟨g, o + cj, none⟩ = some (.int .i64 d) := (Ext.mk w3 hb3 : Ext w2).cell hv2
          clear k2 hr2 c2 hb3 B2 hcL2 HC1 hv1 hv2
          go_wp2_with fail
          refine (HC2.out _ hr3).mono ?_
          rintro e w4 ⟨rfl, hb4⟩
          have k4 := k3.call hb4
          have B4 := B3.trans (hb4.mono B3.size)
          have c4 := k4.cell
          have hx1 : w4.cell? ⟨g, o + ci, none⟩ = some (.int .i64 c) := (Ext.mk w4 hb4 : Ext w3).cell hw1
          have hx2 : w4.cell? ⟨g, o + cj, none⟩ = some (.int .i64 d) := (Ext.mk w4 hb4 : Ext w3).cell hw2
          clear k3 hr3 c3 hb4 B3 HC2 hw1 hw2
          have e1 : decide ((ci : Int) < 0) = false := by simp
          have e2 : decide ((n : Int) ≤ (ci : Int)) = false := by simp; omega
          have e3 : decide ((cj : Int) < 0) = false := by simp
          have e4 : decide ((n : Int) ≤ (cj : Int)) = false := by simp; omega
          have q0 := fun z : Ext w4 => (z.blk k4).cell
          have q1 := fun z : Ext w4 => z.cell hx1
          have q2 := fun z : Ext w4 => z.cell hx2
          go_upto_region 18 with fail
          refine region_ext (by kernel_rfl) (by kernel_rfl) ?_
          repeat (go_big_quiet_step (fail))
          refine wpQuiet_nil ?_
          rintro w5 ⟨⟨_, hw5⟩, rfl⟩
          have B5 := B4.trans (hw5.mono B4.size)
          clear q0 q1 q2 hx1 hx2 c4 k4
          have m1 := mul_wrap64 (d - size) den (by omega) (by omega)
          have m2 := mul_wrap64 num d (by omega) (by omega)
          have m3 := mul_wrap64 (c - (1 + ot)) den (by omega) (by omega)
          have m4 := mul_wrap64 num c (by omega) (by omega)
          have f1 : ((d - size) * den != num * d) = false := by rw [HOW.out]; simp
          have f2 : decide (num * c < (c - (1 + ot)) * den) = false := by have := HA1.out.1; simp; omega
          by_cases f3 : (c - (1 + ot)) * den = num * c
          · have f3' : ((c - (1 + ot)) * den == num * c) = true := by simpa using f3
            have f4 : decide (1 + ot < size) = false := by have := HA1.out.2 f3; simp; omega
            clear f3
            go_wp2_with fail
            refine (shown_any _).mono ?_
            rintro e wZ ⟨rfl, hbZ⟩
            go_wp2_with fail
            go_ret
            exact ⟨rfl, (B5).trans (hbZ.mono (B5).size)⟩
          · have f3' : ((c - (1 + ot)) * den == num * c) = false := by simpa using f3
            clear f3
            go_wp2_with fail
            refine (shown_any _).mono ?_
            rintro e wZ ⟨rfl, hbZ⟩
            go_wp2_with fail
            go_ret
            exact ⟨rfl, (B5).trans (hbZ.mono (B5).size)⟩
set_option maxRecDepth 100000 in
theorem classesShares_lifted (os : Os) (started : os.Started) (H : Type) (enc : TypeId × Value → H) :
    ReturnsInHanded {} Try.checked os 8 .any (Rows.classesSharesSpec.pre6 enc Try.prog Try.f8 Rows.classesSharesRow.domain false) (Rows.classesSharesSpec.post enc Try.prog Try.f8 false true false false) := by
  refine returnsInHanded_of_change (C := Try.checked) own_ started (by kernel_rfl) Try.func8
    (ChangeSpec.witness6 (enc := enc) (C := Try.checked) false ⟨#[], #[.agg #[.slice none 0 0], .int .u16 0], []⟩ 8 (by kernel_rfl) (by kernel_rfl) (by kernel_rfl) (by kernel_rfl)) ?_
  intro W base args ds gs before hval0 hW _ _
  have hval : ∀ (j : Nat) t v, Try.f8.params[j]? = some t → args[j]? = some v → Value.okWide Try.prog W .any base t v := hval0
  have hW' := hW
  obtain ⟨p, q, hA0, hV, rfl, _, _⟩ := hW
  have hA : DataW.TrodAll enc Try.prog W 0 (fun _ => true) true Try.f8.params.toList args.toList ds p := hA0
  rw [Try.params8] at hA hval
  obtain ⟨v0, v1, d0, d1, p0, p1, rfl, rfl, rfl, h0, h1⟩ := trodAll_two hA
  obtain ⟨rfl, rfl⟩ := trodVars_none hV
  obtain ⟨A, n, cap, xs, rfl, e1, e2, e3⟩ := openTab (hval 0 24 v0 rfl rfl) h0
  obtain ⟨u, hv1, _, _, wu⟩ := open_int Try.underlying49 (hval 1 49 v1 rfl rfl) h1
  subst hv1
  simp only [List.append_nil] at hW'
  have hu : 0 ≤ u ∧ u ≤ 65535 := by
    simp only [Lit.wf, Bool.and_eq_true, decide_eq_true_eq] at wu
    exact wu
  refine (sharesLaw_any A n cap xs u W e1 e2 e3 hu).mono fun e W' ⟨he, hb⟩ => ?_
  subst he
  exact ⟨_, rfl, post_of_below (pv := []) hW' (fun _ _ _ => trodAll_mk1 (shut_bool Try.underlying4 true))
    (fun sp hsp => by rw [Try.params8]; exact trodAll_mk2 (WideElems.Trod_stays laidOut_ (by kernel_rfl) (of_decide_eq_true (by kernel_rfl)) h0 (fun x hx => hb.same (hW'.lt x (by simp [hx]))) (fun x hx => hsp x (by simp [hx]))) (WideElems.Trod_stays laidOut_ (by kernel_rfl) (of_decide_eq_true (by kernel_rfl)) h1 (fun x hx => hb.same (hW'.lt x (by simp [hx]))) (fun x hx => hsp x (by simp [hx]))))
    (fun _ _ => rfl) (by simp) hb (ok_one (by kernel_rfl) rfl (okWide_bool_mk Try.underlying4 true))⟩
theorem classesShares_holds : Rows.ClassesSharesSaid :=
  OpenClaim.holds_of_wide 8 Try.f8 rfl rfl rfl rfl rfl rfl rfl ⟨rfl, rfl, rfl, rfl, rfl⟩ rfl rfl rfl rfl rfl (by kernel_rfl) Try.func8 (by kernel_rfl)
    (of_decide_eq_true (by kernel_rfl)) (by unfold Func.isWrapper; rw [if_neg (of_decide_eq_false (by kernel_rfl))]; exact ⟨rfl, rfl⟩)
    (fun os started H enc _ => classesShares_lifted os started H enc)
end Go.Proofs.Ytiohcegkkpeodaa
