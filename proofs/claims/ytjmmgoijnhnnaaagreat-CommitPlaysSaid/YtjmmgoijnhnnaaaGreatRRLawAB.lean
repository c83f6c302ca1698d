/- The law CommitPlays in the row's form: the walk of RLawA at a play that came in. -/
import Derived.Test.YtjmmgoijnhnnaaaGreatR20
set_option maxRecDepth 100000
set_option maxHeartbeats 12800000
namespace Go.Proofs.YtjmmgoijnhnnaaaGreat
open Go Go.Proofs Go.RowKit Go.Pol Go.Shelf Go.ChangeShapes Go.WideShapes Go.Deep Tryz
theorem commitPlays_lifted (os : Os) (started : os.Started) (H : Type) (enc : TypeId × Value → H) :
  ReturnsInHanded {} Tryz.checked os 6 .any (Rows.commitPlaysSpec.pre6 enc prog Tryz.f6 Rows.commitPlaysRow.domain false) (Rows.commitPlaysSpec.post enc prog Tryz.f6 false true false false) := by
 refine returnsInHanded_of_change (C := Tryz.checked) ajb started (by kernel_rfl) func6
  (ChangeSpec.witness6 (enc := enc) (C := Tryz.checked) false ⟨#[], #[.agg #[.int .i64 0, .int .i64 0, .int .i64 0, .int .i64 0, .int .i64 0, .int .i64 0, .slice none 0 0, .slice none 0 0]], []⟩ 8 (by kernel_rfl) (by kernel_rfl) (by kernel_rfl) (by kernel_rfl)) ?_
 intro W base args ds gs before hval0 hW _ _;have hval : ∀ (j : Nat) t v, Tryz.f6.params[j]? = some t → args[j]? = some v → Value.okWide prog W .any base t v := hval0;have hW' := hW;obtain ⟨p, q, yA, hV, rfl, _, _⟩ := hW;have hA : DataW.TrodAll enc prog W 0 (fun _ => true) true Tryz.f6.params.toList args.toList ds p := yA;rw [Tryz.params6] at hA hval;obtain ⟨v0, d0, rfl, rfl, h0⟩ := trodAll_one hA;obtain ⟨rfl, rfl⟩ := trodVars_none hV;obtain ⟨A1, A2, n1, c1, n2, c2, pg, n, f, bk, ev, lim, l, us, rfl, q1, q2, q3, q4, q5, q6, q7, _, _⟩ := WC (hval 0 31 v0 rfl rfl) h0;simp only [List.append_nil] at hW';refine (J9 A1 A2 n1 c1 n2 c2 pg n f bk ev lim l us W q1 q2 q3 q4 q5 q6 q7).mono fun e W' ⟨he, hb⟩ => ?_
 subst he;exact ⟨_, rfl, Hu (pv := []) hW' (fun _ _ _ => trodAll_mk1 (shut_bool underlying4 true))
  (fun sp hsp => by rw [Tryz.params6]; exact trodAll_mk1 (WideElems.Trod_stays Wj (by kernel_rfl) (of_decide_eq_true (by kernel_rfl)) h0 (fun x hx => hb.same (hW'.lt x (by simp [hx]))) (fun x hx => hsp x (by simp [hx]))))
  (fun _ _ => rfl) (by simp) hb (ok_one (by kernel_rfl) rfl (okWide_bool_mk underlying4 true))⟩
theorem commitPlays_holds : Rows.CommitPlaysSaid :=
 OpenClaim.holds_of_wide 6 Tryz.f6 rfl rfl rfl rfl rfl rfl rfl ⟨rfl, rfl, rfl, rfl, rfl⟩ rfl rfl rfl rfl rfl (by kernel_rfl) func6 (by kernel_rfl)
  (of_decide_eq_true (by kernel_rfl)) (by unfold Func.isWrapper; rw [if_neg (of_decide_eq_false (by kernel_rfl))]; exact ⟨rfl, rfl⟩)
  (fun os started H enc _ => commitPlays_lifted os started H enc)
end Go.Proofs.YtjmmgoijnhnnaaaGreat
