/- The law ClassesMonotone: greater sizes have no lesser classes, the waste of two usages together is the sum, and one more class does not increase the waste, for every table, two usages and two sizes (more than 70 classes or 210 entries are not looked at), and the examples hold. -/
import Derived.Test.YtiohcegkkpeodaaMWalkE
import Derived.Test.YtiohcegkkpeodaaMRow
namespace Go.Proofs.Ytiohcegkkpeodaa
open Go Go.Proofs Go.RowKit Go.Pol Go.ChangeShapes Go.WideShapes Go.Deep

theorem monoLaw_any (A U V : Option Addr) (n cap m ucap m2 vcap : Nat) (xs : List Int) (us vs : List (Int × Int)) (x1 x2 : Int) (w : World) (hn : xs.length = n) (hnc : n ≤ cap) (hcm : cap ≤ maxLen) (hr : RI w w.heap.size A xs)
    (hun : us.length = m) (hum : m ≤ maxLen) (hur : RU w w.heap.size U us) (huz : U = none → ucap = 0) (hvn : vs.length = m2) (hvm : m2 ≤ maxLen) (hvr : RU w w.heap.size V vs) (hvz : V = none → vcap = 0) :
    Calls Try.prog 9 #[.agg #[.slice A n cap], .agg #[.slice U m ucap, .slice V m2 vcap], .agg #[.int .i64 x1, .int .i64 x2]] w fun e w' => e = .returned (.bool true) ∧ Below w.heap.size w w' := by
  cases h1 : (decide (70 < n) || decide (210 < m))
  · cases h2 : (decide (70 < n) || decide (210 < m2))
    · exact monoNear_any A U V n cap m ucap m2 vcap xs us vs x1 x2 w hn hnc hcm hr hun hum hur huz hvn hvm hvr hvz h1 h2
    · exact monoFar_any A U V n cap m ucap m2 vcap x1 x2 w (Nat.le_trans hnc hcm) hum hvm (by rw [h1, h2]; rfl)
  · exact monoFar_any A U V n cap m ucap m2 vcap x1 x2 w (Nat.le_trans hnc hcm) hum hvm (by rw [h1]; rfl)
set_option maxRecDepth 100000 in
theorem classesMonotone_lifted (os : Os) (started : os.Started) (H : Type) (enc : TypeId × Value → H) :
    ReturnsInHanded {} Try.checked os 9 .any (Rows.classesMonotoneSpec.pre6 enc Try.prog Try.f9 Rows.classesMonotoneRow.domain false) (Rows.classesMonotoneSpec.post enc Try.prog Try.f9 false true false false) := by
  refine returnsInHanded_of_change (C := Try.checked) own_ started (by kernel_rfl) Try.func9
    (ChangeSpec.witness6 (enc := enc) (C := Try.checked) false ⟨#[], #[.agg #[.slice none 0 0], .agg #[.slice none 0 0, .slice none 0 0], .agg #[.int .i64 0, .int .i64 0]], []⟩ 8 (by kernel_rfl) (by kernel_rfl) (by kernel_rfl) (by kernel_rfl)) ?_
  intro W base args ds gs before hval0 hW _ _
  have hval : ∀ (j : Nat) t v, Try.f9.params[j]? = some t → args[j]? = some v → Value.okWide Try.prog W .any base t v := hval0
  have hW' := hW
  obtain ⟨p, q, hA0, hV, rfl, _, _⟩ := hW
  have hA : DataW.TrodAll enc Try.prog W 0 (fun _ => true) true Try.f9.params.toList args.toList ds p := hA0
  rw [Try.params9] at hA hval
  obtain ⟨v0, v1, v2, d0, d1, d2, p0, p1, p2, rfl, rfl, rfl, h0, h1, h2⟩ := trodAll_three hA
  obtain ⟨rfl, rfl⟩ := trodVars_none hV
  obtain ⟨A, n, cap, xs, rfl, e1, e2, e3, e4⟩ := openTab2 (hval 0 24 v0 rfl rfl) h0
  obtain ⟨U, V, m, ucap, m2, vcap, us, vs, rfl, ⟨g1, g2, g3, g4, g5⟩, k1, k2, k3, k4, k5⟩ := openTwo (hval 1 52 v1 rfl rfl) h1
  obtain ⟨x1, x2, rfl⟩ := openPair (hval 2 54 v2 rfl rfl) h2
  simp only [List.append_nil] at hW'
  refine (monoLaw_any A U V n cap m ucap m2 vcap xs us vs x1 x2 W e1 e2 e3 e4 g1 (Nat.le_trans g2 g3) g5 g4 k1 (Nat.le_trans k2 k3) k5 k4).mono fun e W' ⟨he, hb⟩ => ?_
  subst he
  exact ⟨_, rfl, post_of_below (pv := []) hW' (fun _ _ _ => trodAll_mk1 (shut_bool Try.underlying4 true))
    (fun sp hsp => by rw [Try.params9]; exact trodAll_mk3 (WideElems.Trod_stays laidOut_ (by kernel_rfl) (of_decide_eq_true (by kernel_rfl)) h0 (fun x hx => hb.same (hW'.lt x (by simp [hx]))) (fun x hx => hsp x (by simp [hx]))) (WideElems.Trod_stays laidOut_ (by kernel_rfl) (of_decide_eq_true (by kernel_rfl)) h1 (fun x hx => hb.same (hW'.lt x (by simp [hx]))) (fun x hx => hsp x (by simp [hx]))) (WideElems.Trod_stays laidOut_ (by kernel_rfl) (of_decide_eq_true (by kernel_rfl)) h2 (fun x hx => hb.same (hW'.lt x (by simp [hx]))) (fun x hx => hsp x (by simp [hx]))))
    (fun _ _ => rfl) (by simp) hb (ok_one (by kernel_rfl) rfl (okWide_bool_mk Try.underlying4 true))⟩
theorem classesMonotone_holds : Rows.ClassesMonotoneSaid :=
  OpenClaim.holds_of_wide 9 Try.f9 rfl rfl rfl rfl rfl rfl rfl ⟨rfl, rfl, rfl, rfl, rfl⟩ rfl rfl rfl rfl rfl (by kernel_rfl) Try.func9 (by kernel_rfl)
    (of_decide_eq_true (by kernel_rfl)) (by unfold Func.isWrapper; rw [if_neg (of_decide_eq_false (by kernel_rfl))]; exact ⟨rfl, rfl⟩)
    (fun os started H enc _ => classesMonotone_lifted os started H enc)
end Go.Proofs.Ytiohcegkkpeodaa
