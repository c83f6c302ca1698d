/- The law ClassesBest: for every usage with at most 9 entries, or too many, and every number of classes, Best of the program and of the reference answer alike, and the examples hold. -/
import Derived.Test.YtiohcegkkpeodaaWalkP
import Derived.Test.YtiohcegkkpeodaaLawB
namespace Go.Proofs.Ytiohcegkkpeodaa
open Go Go.Proofs Go.RowKit Go.Pol Go.ChangeShapes Go.WideShapes Go.Deep
theorem bestF_len (us : List (Int × Int)) (k : Int) : (bestF us k).1.length ≤ 64 := by
  unfold bestF
  split
  · rename_i h
    split
    · simp
    · rename_i hn
      split
      · simp
      · have ok := chkU_ok h
        have hM := mSel_le us (min k.toNat us.length) (min k.toNat us.length)
        have hMr := mSel_row us (min k.toNat us.length) (min k.toNat us.length) rfl (by omega)
        have h0 := row_nonneg ok (min k.toNat us.length) 0 (by omega) (by omega)
        have hR := reconI_spec (us := us) (mSel us (min k.toNat us.length) (min k.toNat us.length)) 0 (by omega) (by rw [hMr]; exact h0)
        simp only
        rw [recon_map, List.length_map, hR.2.1]
        omega
  · simp
theorem useStruct : ∃ f0 f1 : Field, Try.prog.underlying 43 = some (.struct #[f0, f1]) ∧ oneCellFields Try.prog #[f0, f1] = true ∧ f0.type = 3 ∧ f1.type = 2 := ⟨_, _, Try.underlying43, by kernel_rfl, rfl, rfl⟩
set_option maxRecDepth 100000 in
/-- a usage that came in -/
theorem openUse {H : Type} {enc : TypeId × Value → H} {w : World} {base : Nat} {held : Bool} {v : Value} {fuel : Nat} {x : DataW H × List MemPlace} (h : DataW.trod enc Try.prog w base (fun _ => true) held fuel 36 v.cells.toList = some x) (hv : Value.okWide Try.prog w .any base 36 v) :
    ∃ (A : Option Addr) (n cap : Nat) (us : List (Int × Int)), v = .slice A n cap ∧ us.length = n ∧ n ≤ maxLen ∧ RU w w.heap.size A us := by
  obtain ⟨f0, f1, hs, hone, t0, t1⟩ := useStruct
  obtain ⟨A, n, cap, rfl⟩ := okWide_slice Try.underlying36 hv
  exact openU Try.underlying36 hs hone (by kernel_rfl) (by rw [t0]; exact Try.underlying3) (by rw [t1]; exact Try.underlying2) h
set_option maxHeartbeats 800000 in
theorem bestLaw_any (A : Option Addr) (n cap : Nat) (us : List (Int × Int)) (k : Int) (w : World) (hn : us.length = n) (hm : n ≤ maxLen) (hr : RU w w.heap.size A us) :
    Calls Try.prog 5 #[.slice A n cap, .int .i64 k] w fun e w' => e = .returned (.bool true) ∧ Below w.heap.size w w' := by
  have HP := Lib.hid (fun W (h : RU W W.heap.size A us) => best_any A n cap us k W hn hm h)
  have HQ := Lib.hid (fun W (h : RU W W.heap.size A us) => refBest_any A n cap us k W hn hm h)
  have hlen := bestF_len us k
  unfold maxLen at hm
  clear hn
  generalize bestF us k = R at *
  obtain ⟨l, m, er⟩ := R
  simp only at hlen
  obtain ⟨q, hq⟩ : ∃ q, l.length = q := ⟨_, rfl⟩
  rw [hq] at hlen
  have HL := Lib.hid hq
  clear hq
  have hbr := Below.refl w.heap.size w
  by_cases c1 : (9 < n ∧ n ≤ 200) ∨ 210 < n
  · rcases c1 with ⟨c1, c2⟩ | c3
    · have d1 : decide ((9 : Int) < n) = true := by simp; omega
      have d2 : decide ((n : Int) ≤ 200) = true := by simp; omega
      go_enter Try.func5, Try.ntmps5
      go_wp2_with fail
      refine (shown_any _).mono ?_
      rintro e wZ ⟨rfl, hbZ⟩
      go_wp2_with fail
      go_ret
      exact ⟨rfl, (hbr).trans (hbZ.mono (hbr).size)⟩
    · have d1 : decide ((9 : Int) < n) = true := by simp; omega
      have d2 : decide ((n : Int) ≤ 200) = false := by simp; omega
      have d3 : decide ((210 : Int) < n) = true := by simp; omega
      go_enter Try.func5, Try.ntmps5
      go_wp2_with fail
      refine (shown_any _).mono ?_
      rintro e wZ ⟨rfl, hbZ⟩
      go_wp2_with fail
      go_ret
      exact ⟨rfl, (hbr).trans (hbZ.mono (hbr).size)⟩
  · have d3 : decide ((210 : Int) < n) = false := by simp; omega
    by_cases c4 : 9 < n
    · have d1 : decide ((9 : Int) < n) = true := by simp; omega
      have d2 : decide ((n : Int) ≤ 200) = false := by simp; omega
      clear c1
      go_enter Try.func5, Try.ntmps5
      go_wp2_with fail
      refine (HP.out _ hr).mono ?_
      rintro e w1 ⟨A1, c1, rfl, hr1, hb1⟩
      try simp only at hr1 ⊢
      rw [HL.out]
      have k1 := Blk.new w1 24 #[.slice A1 q c1]
      have hbx := (Below.refl w1.heap.size w1).alloc (Nat.le_refl _) (.cells #[.slice A1 q c1] 24)
      have hr1b := RI.later hr1 hbx
      have B1 := hb1.trans (hbx.mono hb1.size)
      have hu1 := RU.later hr B1
      go_wp2_with fail
      refine (HQ.out _ hu1).mono ?_
      rintro e w2 ⟨A2, c2, rfl, hr2, hb2⟩
      try simp only at hr2 ⊢
      rw [HL.out]
      have k1b := k1.call hb2
      have hr1c := RI.later hr1b hb2
      have B2 := B1.trans (hb2.mono B1.size)
      clear hr1 hb1 hbx hr1b B1 hu1 k1 hb2 HP HQ
      have k2 := Blk.new w2 24 #[.slice A2 q c2]
      have hby := (Below.refl w2.heap.size w2).alloc (Nat.le_refl _) (.cells #[.slice A2 q c2] 24)
      have k1c := k1b.call hby
      have hr2b := RI.later hr2 hby
      have hr1d := RI.later hr1c hby
      have B3 := B2.trans (hby.mono B2.size)
      obtain ⟨W3, hW3⟩ : ∃ W, w2.alloc (.cells #[.slice A2 q c2] 24) = W := ⟨_, rfl⟩
      rw [hW3] at k2 k1c hr2b hr1d B3
      have x1 := k1c.cell
      have x2 := k2.cell
      clear k1b hr2 hr1c B2 hby
      go_wp2_with fail
      clear hW3
      refine (sameTable_any A1 A2 q q c1 c2 l l _ HL.out (by unfold maxLen; omega) HL.out (by unfold maxLen; omega) hr1d hr2b).mono ?_
      rintro e w4 ⟨rfl, hb4⟩
      rw [decide_eq_true (rfl : l = l)]
      have B4 := B3.trans (hb4.mono B3.size)
      clear x1 x2 k1c k2 hr2b hr1d B3 hb4
      have hm1 : (m == m) = true := by simp
      have he1 : (er == er) = true := by simp
      go_wp2_with fail
      refine (shown_any _).mono ?_
      rintro e wZ ⟨rfl, hbZ⟩
      go_wp2_with fail
      go_ret
      exact ⟨rfl, (B4).trans (hbZ.mono (B4).size)⟩
    · have d1 : decide ((9 : Int) < n) = false := by simp; omega
      clear c1
      go_enter Try.func5, Try.ntmps5
      go_wp2_with fail
      refine (HP.out _ hr).mono ?_
      rintro e w1 ⟨A1, c1, rfl, hr1, hb1⟩
      try simp only at hr1 ⊢
      rw [HL.out]
      have k1 := Blk.new w1 24 #[.slice A1 q c1]
      have hbx := (Below.refl w1.heap.size w1).alloc (Nat.le_refl _) (.cells #[.slice A1 q c1] 24)
      have hr1b := RI.later hr1 hbx
      have B1 := hb1.trans (hbx.mono hb1.size)
      have hu1 := RU.later hr B1
      go_wp2_with fail
      refine (HQ.out _ hu1).mono ?_
      rintro e w2 ⟨A2, c2, rfl, hr2, hb2⟩
      try simp only at hr2 ⊢
      rw [HL.out]
      have k1b := k1.call hb2
      have hr1c := RI.later hr1b hb2
      have B2 := B1.trans (hb2.mono B1.size)
      clear hr1 hb1 hbx hr1b B1 hu1 k1 hb2 HP HQ
      have k2 := Blk.new w2 24 #[.slice A2 q c2]
      have hby := (Below.refl w2.heap.size w2).alloc (Nat.le_refl _) (.cells #[.slice A2 q c2] 24)
      have k1c := k1b.call hby
      have hr2b := RI.later hr2 hby
      have hr1d := RI.later hr1c hby
      have B3 := B2.trans (hby.mono B2.size)
      obtain ⟨W3, hW3⟩ : ∃ W, w2.alloc (.cells #[.slice A2 q c2] 24) = W := ⟨_, rfl⟩
      rw [hW3] at k2 k1c hr2b hr1d B3
      have x1 := k1c.cell
      have x2 := k2.cell
      clear k1b hr2 hr1c B2 hby
      go_wp2_with fail
      clear hW3
      refine (sameTable_any A1 A2 q q c1 c2 l l _ HL.out (by unfold maxLen; omega) HL.out (by unfold maxLen; omega) hr1d hr2b).mono ?_
      rintro e w4 ⟨rfl, hb4⟩
      rw [decide_eq_true (rfl : l = l)]
      have B4 := B3.trans (hb4.mono B3.size)
      clear x1 x2 k1c k2 hr2b hr1d B3 hb4
      have hm1 : (m == m) = true := by simp
      have he1 : (er == er) = true := by simp
      go_wp2_with fail
      refine (shown_any _).mono ?_
      rintro e wZ ⟨rfl, hbZ⟩
      go_wp2_with fail
      go_ret
      exact ⟨rfl, (B4).trans (hbZ.mono (B4).size)⟩
set_option maxRecDepth 100000 in
theorem classesBest_lifted (os : Os) (started : os.Started) (H : Type) (enc : TypeId × Value → H) :
    ReturnsInHanded {} Try.checked os 5 .any (Rows.classesBestSpec.pre6 enc Try.prog Try.f5 Rows.classesBestRow.domain false) (Rows.classesBestSpec.post enc Try.prog Try.f5 false true false false) := by
  refine returnsInHanded_of_change (C := Try.checked) own_ started (by kernel_rfl) Try.func5
    (ChangeSpec.witness6 (enc := enc) (C := Try.checked) false ⟨#[], #[.slice none 0 0, .int .i64 0], []⟩ 8 (by kernel_rfl) (by kernel_rfl) (by kernel_rfl) (by kernel_rfl)) ?_
  intro W base args ds gs before hval0 hW _ _
  have hval : ∀ (j : Nat) t v, Try.f5.params[j]? = some t → args[j]? = some v → Value.okWide Try.prog W .any base t v := hval0
  have hW' := hW
  obtain ⟨p, q, hA0, hV, rfl, _, _⟩ := hW
  have hA : DataW.TrodAll enc Try.prog W 0 (fun _ => true) true Try.f5.params.toList args.toList ds p := hA0
  rw [Try.params5] at hA hval
  obtain ⟨v0, v1, d0, d1, p0, p1, rfl, rfl, rfl, h0, h1⟩ := trodAll_two hA
  obtain ⟨rfl, rfl⟩ := trodVars_none hV
  obtain ⟨fuel, hf⟩ := h0
  obtain ⟨A, n, cap, us, rfl, e1, e2, e3⟩ := openUse hf (hval 0 36 v0 rfl rfl)
  replace h0 : DataW.Trod enc Try.prog W 0 (fun _ => true) true 36 _ d0 p0 := ⟨fuel, hf⟩
  obtain ⟨n1, rfl⟩ := okWide_i64 (hval 1 3 v1 rfl rfl)
  simp only [List.append_nil] at hW'
  refine (bestLaw_any A n cap us n1 W e1 e2 e3).mono fun e W' ⟨he, hb⟩ => ?_
  subst he
  exact ⟨_, rfl, post_of_below (pv := []) hW' (fun _ _ _ => trodAll_mk1 (shut_bool Try.underlying4 true))
    (fun sp hsp => by rw [Try.params5]; exact trodAll_mk2 (WideElems.Trod_stays laidOut_ (by kernel_rfl) (of_decide_eq_true (by kernel_rfl)) h0 (fun x hx => hb.same (hW'.lt x (by simp [hx]))) (fun x hx => hsp x (by simp [hx]))) (WideElems.Trod_stays laidOut_ (by kernel_rfl) (of_decide_eq_true (by kernel_rfl)) h1 (fun x hx => hb.same (hW'.lt x (by simp [hx]))) (fun x hx => hsp x (by simp [hx]))))
    (fun _ _ => rfl) (by simp) hb (ok_one (by kernel_rfl) rfl (okWide_bool_mk Try.underlying4 true))⟩
theorem classesBest_holds : Rows.ClassesBestSaid :=
  OpenClaim.holds_of_wide 5 Try.f5 rfl rfl rfl rfl rfl rfl rfl ⟨rfl, rfl, rfl, rfl, rfl⟩ rfl rfl rfl rfl rfl (by kernel_rfl) Try.func5 (by kernel_rfl)
    (of_decide_eq_true (by kernel_rfl)) (by unfold Func.isWrapper; rw [if_neg (of_decide_eq_false (by kernel_rfl))]; exact ⟨rfl, rfl⟩)
    (fun os started H enc _ => classesBest_lifted os started H enc)
end Go.Proofs.Ytiohcegkkpeodaa
