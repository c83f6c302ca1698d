/- The law ClassesSteps: for all numbers, Steps of the program and of the reference answer alike, classes that follow each other are near, what Steps makes is a table, and the examples hold. -/
import Derived.Test.YtiohcegkkpeodaaWalkM
import Derived.Test.YtiohcegkkpeodaaSpecT
import Derived.Test.YtiohcegkkpeodaaLawA
namespace Go.Proofs.Ytiohcegkkpeodaa
open Go Go.Proofs Go.RowKit Go.Pol Go.ChangeShapes Go.WideShapes Go.Deep

set_option maxHeartbeats 800000 in
theorem stepsLaw_any (mn mx per : Int) (w : World) :
    Calls Try.prog 4 #[.int .i64 mn, .int .i64 mx, .int .i64 per] w fun e w' => e = .returned (.bool true) ∧ Below w.heap.size w w' := by
  have HP := Lib.hid (fun W => steps_any mn mx per W)
  have HQ := Lib.hid (fun W => refSteps_any mn mx per W)
  have HF : Hid ((stepsF mn mx per).2 = 0 → chkT (stepsF mn mx per).1 = 0 ∧ near 4096 per (stepsF mn mx per).1 ∧ 1 ≤ per ∧ per ≤ 8) := Lib.hid (fun h => by
    cases ho : okS mn mx per
    · rw [stepsF, if_neg (by simp [ho])] at h; simp at h
    · rw [stepsF, if_pos ho]
      have := steps_law mn mx per ho
      have h2 := okS_iff.1 ho
      exact ⟨this.2, this.1, h2.2.2.2.2.1, h2.2.2.2.2.2⟩)
  have HZ : Hid ((stepsF mn mx per).2 ≠ 0 → (stepsF mn mx per).1 = []) := Lib.hid (fun h => by
    cases ho : okS mn mx per
    · rw [stepsF, if_neg (by simp [ho])]
    · rw [stepsF, if_pos ho] at h; simp at h)
  generalize stepsF mn mx per = R at *
  obtain ⟨l, er⟩ := R
  simp only at HF HZ
  have hlen : l.length ≤ 64 := by
    by_cases h : er = 0
    · exact (chkT_ok (HF.out h).1).len
    · rw [HZ.out h]; simp
  obtain ⟨n, hn⟩ : ∃ n, l.length = n := ⟨_, rfl⟩
  rw [hn] at hlen
  have HN := Lib.hid hn
  clear hn
  go_enter Try.func4, Try.ntmps4
  go_wp2_with fail
  refine (HP.out _).mono ?_
  rintro e w1 ⟨v, rfl, hown, hb1⟩
  obtain ⟨A, cap, rfl, hr1⟩ := own_RI hown
  rw [HN.out]
  have k7 := Blk.new w1 24 #[.slice A n cap]
  have hr7 := RI.later hr1 ((Below.refl w1.heap.size w1).alloc (Nat.le_refl _) (.cells #[.slice A n cap] 24))
  have B7 := hb1.alloc hb1.size (.cells #[.slice A n cap] 24)
  clear hown hr1 hb1
  go_wp2_with fail
  refine (HQ.out _).mono ?_
  rintro e w2 ⟨v2, rfl, hown, hb2⟩
  obtain ⟨A2, cap2, rfl, hr2⟩ := own_RI hown
  rw [HN.out]
  have k7b := k7.call hb2
  have hr7b := RI.later hr7 hb2
  have B2 := B7.trans (hb2.mono B7.size)
  clear hown k7 hr7 B7 hb2
  have k9 := Blk.new w2 24 #[.slice A2 n cap2]
  have hbx := (Below.refl w2.heap.size w2).alloc (Nat.le_refl _) (.cells #[.slice A2 n cap2] 24)
  have k7c := k7b.call hbx
  have hr9 := RI.later hr2 hbx
  have hr7c := RI.later hr7b hbx
  have B9 := B2.trans (hbx.mono B2.size)
  obtain ⟨W9, hW9⟩ : ∃ W, w2.alloc (.cells #[.slice A2 n cap2] 24) = W := ⟨_, rfl⟩
  rw [hW9] at k9 k7c hr9 hr7c B9
  have c7 := k7c.cell
  have c9 := k9.cell
  clear k7b hr7b B2 hr2 hbx HP HQ
  go_wp2_with fail
  clear hW9
  refine (sameTable_any A A2 n n cap cap2 l l _ HN.out (by unfold maxLen; omega) HN.out (by unfold maxLen; omega) hr7c hr9).mono ?_
  rintro e w3 ⟨rfl, hb3⟩
  rw [decide_eq_true (rfl : l = l)]
  have k7d := k7c.call hb3
  have hr7d := RI.later hr7c hb3
  have B3 := B9.trans (hb3.mono B9.size)
  clear c7 c9 k7c k9 hr9 hr7c B9 hb3
  have her : (er != er) = false := by simp
  go_wp2_with fail
  go_loopw [11] (fun s11 wr => ∃ k : Nat, 1 ≤ k ∧ k ≤ 64 ∧ s11 = .int .i64 k ∧ (k ≤ n ∨ k = 1) ∧ Below w.heap.size w wr ∧ Blk wr w1.heap.size 24 #[.slice A n cap] ∧ RI wr wr.heap.size A l) (fun s11 _ => 100 - (intOf s11).toNat)
  case atStart => exact ⟨1, by omega, by omega, rfl, .inr rfl, B3, k7d, hr7d⟩
  case round =>
    clear k7d hr7d B3
    obtain ⟨k, hk1, hk64, rfl, hkn, hB, k7, hr⟩ := hrel
    have c7 := k7.cell
    by_cases hlt : k < n
    · have he0 : er = 0 := by
        by_cases h : er = 0
        · exact h
        · exfalso; have h1 := HZ.out h; have h2 := HN.out; rw [h1] at h2; simp at h2; omega
      obtain ⟨hck, hnear, hp1, hp2⟩ := HF.out he0
      have hok := chkT_ok hck
      have x1 := hok.at_ k (by have := HN.out; omega)
      have x2 := hok.at_ (k - 1) (by have := HN.out; omega)
      have x3 := hnear (k - 1) (by have := HN.out; omega)
      rw [show k - 1 + 1 = k by omega] at x3
      obtain ⟨g, o, rfl, _, y1⟩ := RI.at_ hr (k := k) (by have := HN.out; omega)
      obtain ⟨g', o', had, _, y2⟩ := RI.at_ hr (k := k - 1) (by have := HN.out; omega)
      obtain ⟨rfl, rfl⟩ : g = g' ∧ o = o' := by simpa using had
      clear had he0 hck hok
      clear hnear
      generalize l.getD k 0 = x at *
      generalize l.getD (k - 1) 0 = y at *
      obtain ⟨x11, x12, _⟩ := x1
      obtain ⟨x21, x22, _⟩ := x2
      obtain ⟨_, x31, _⟩ := x3
      have q1 := fun z : Ext wr => (z.blk k7).cell
      have q2 := fun z : Ext wr => z.cell y1
      have q3 := fun z : Ext wr => z.cell y2
      have hwm := mul_wrap (x - y) per (by omega) (by omega)
      have hd : decide (y + 8 * per ≤ (x - y) * per) = false := by simp; omega
      go_upto_region 8 with fail
      refine region_ext (by kernel_rfl) (by kernel_rfl) ?_
      repeat (go_big_quiet_step (fail))
      refine wpQuiet_nil ?_
      rintro wq ⟨⟨_, hwq⟩, rfl⟩
      go_wp2_with fail
      go_roundw
      case rel => exact ⟨k + 1, by omega, by omega, by go_num, by omega, hB.trans (hwq.mono hB.size), k7.call hwq, RI.later hr hwq⟩
      case measure => simp [intOf]; omega
    · by_cases he0 : er = 0
      · have hck := Lib.hid (HF.out he0).1
        have he' : (er != 0) = false := by simp [he0]
        clear he0
        have HC := Lib.hid (check_any A n cap l wr HN.out (by unfold maxLen; omega) hr)
        rw [hck.out] at HC
        go_wp2_with fail
        refine HC.out.mono ?_
        rintro e w5 ⟨rfl, hb5⟩
        have B5 := hB.trans (hb5.mono hB.size)
        clear c7 k7 hr hB hb5 HC
        go_wp2_with fail
        refine (shown_any _).mono ?_
        rintro e w6 ⟨rfl, hb6⟩
        go_wp2_with fail
        go_ret
        exact ⟨rfl, B5.trans (hb6.mono B5.size)⟩
      · have he' : (er != 0) = true := by simp [he0]
        clear he0
        go_wp2_with fail
        refine (shown_any _).mono ?_
        rintro e w6 ⟨rfl, hb6⟩
        go_wp2_with fail
        go_ret
        exact ⟨rfl, hB.trans (hb6.mono hB.size)⟩
set_option maxRecDepth 100000 in
theorem okWide_i64 {w : World} {r : Reach} {b0 : Nat} {v : Value} (h : Value.okWide Try.prog w r b0 3 v) : ∃ n : Int, v = .int .i64 n := okWide_int Try.underlying3 h
set_option maxRecDepth 100000 in
theorem classesSteps_lifted (os : Os) (started : os.Started) (H : Type) (enc : TypeId × Value → H) :
    ReturnsInHanded {} Try.checked os 4 .any (Rows.classesStepsSpec.pre6 enc Try.prog Try.f4 Rows.classesStepsRow.domain false) (Rows.classesStepsSpec.post enc Try.prog Try.f4 false true false false) := by
  refine returnsInHanded_of_change (C := Try.checked) own_ started (by kernel_rfl) Try.func4
    (ChangeSpec.witness6 (enc := enc) (C := Try.checked) false ⟨#[], #[.int .i64 0, .int .i64 0, .int .i64 0], []⟩ 8 (by kernel_rfl) (by kernel_rfl) (by kernel_rfl) (by kernel_rfl)) ?_
  intro W base args ds gs before hval0 hW _ _
  have hval : ∀ (j : Nat) t v, Try.f4.params[j]? = some t → args[j]? = some v → Value.okWide Try.prog W .any base t v := hval0
  have hW' := hW
  obtain ⟨p, q, hA0, hV, rfl, _, _⟩ := hW
  have hA : DataW.TrodAll enc Try.prog W 0 (fun _ => true) true Try.f4.params.toList args.toList ds p := hA0
  rw [Try.params4] at hA hval
  obtain ⟨v0, v1, v2, d0, d1, d2, p0, p1, p2, rfl, rfl, rfl, h0, h1, h2⟩ := trodAll_three hA
  obtain ⟨rfl, rfl⟩ := trodVars_none hV
  obtain ⟨n0, rfl⟩ := okWide_i64 (hval 0 3 v0 rfl rfl)
  obtain ⟨n1, rfl⟩ := okWide_i64 (hval 1 3 v1 rfl rfl)
  obtain ⟨n2, rfl⟩ := okWide_i64 (hval 2 3 v2 rfl rfl)
  simp only [List.append_nil] at hW'
  refine (stepsLaw_any n0 n1 n2 W).mono fun e W' ⟨he, hb⟩ => ?_
  subst he
  exact ⟨_, rfl, post_of_below (pv := []) hW' (fun _ _ _ => trodAll_mk1 (shut_bool Try.underlying4 true))
    (fun sp hsp => by rw [Try.params4]; exact trodAll_mk3 (WideElems.Trod_stays laidOut_ (by kernel_rfl) (of_decide_eq_true (by kernel_rfl)) h0 (fun x hx => hb.same (hW'.lt x (by simp [hx]))) (fun x hx => hsp x (by simp [hx]))) (WideElems.Trod_stays laidOut_ (by kernel_rfl) (of_decide_eq_true (by kernel_rfl)) h1 (fun x hx => hb.same (hW'.lt x (by simp [hx]))) (fun x hx => hsp x (by simp [hx]))) (WideElems.Trod_stays laidOut_ (by kernel_rfl) (of_decide_eq_true (by kernel_rfl)) h2 (fun x hx => hb.same (hW'.lt x (by simp [hx]))) (fun x hx => hsp x (by simp [hx]))))
    (fun _ _ => rfl) (by simp) hb (ok_one (by kernel_rfl) rfl (okWide_bool_mk Try.underlying4 true))⟩
theorem classesSteps_holds : Rows.ClassesStepsSaid :=
  OpenClaim.holds_of_wide 4 Try.f4 rfl rfl rfl rfl rfl rfl rfl ⟨rfl, rfl, rfl, rfl, rfl⟩ rfl rfl rfl rfl rfl (by kernel_rfl) Try.func4 (by kernel_rfl)
    (of_decide_eq_true (by kernel_rfl)) (by unfold Func.isWrapper; rw [if_neg (of_decide_eq_false (by kernel_rfl))]; exact ⟨rfl, rfl⟩)
    (fun os started H enc _ => classesSteps_lifted os started H enc)
end Go.Proofs.Ytiohcegkkpeodaa
