/- Texts RLawCB. -/
import Derived.Test.YtlgcpjhimomiaaaGreatO18
set_option maxRecDepth 100000
set_option maxHeartbeats 12800000
namespace Go.Proofs.YtlgcpjhimomiaaaGreat
open Go Go.Proofs Go.RowKit Go.Pol Go.Shelf Go.ChangeShapes Go.WideShapes Go.Deep Tryz
theorem commitChecks_lifted (os : Os) (started : os.Started) (H : Type) (enc : TypeId × Value -> H) :
  ReturnsInHanded {} Tryz.checked os 3 .any (Rows.commitChecksSpec.pre6 enc prog Tryz.f3 Rows.commitChecksRow.domain false) (Rows.commitChecksSpec.post enc prog Tryz.f3 false true false false) := by
 refine returnsInHanded_of_change (C := Tryz.checked) arI started (by kernel_rfl) func3
  (ChangeSpec.witness6 (enc := enc) (C := Tryz.checked) false ⟨#[], #[.agg #[.int .i64 0, .int .i64 0, .int .i64 0, .int .i64 0, .int .i64 0, .int .i64 0, .int .i64 0, .slice none 0 0, .bool false], .agg #[.int .i64 0, .int .i64 0, .int .i64 0, .int .i64 0, .int .i64 0, .int .i64 0, .slice none 0 0, .slice none 0 0]], []⟩ 8 (by kernel_rfl) (by kernel_rfl) (by kernel_rfl) (by kernel_rfl)) ?_
 intro W base args ds gs before hval0 hW _ _;have hval : ∀ (j : Nat) t v, Tryz.f3.params[j]? = some t -> args[j]? = some v -> Value.okWide prog W .any base t v := hval0;have hW' := hW;obtain ⟨p, q, C8, hV, rfl, _, _⟩ := hW;have hA : DataW.TrodAll enc prog W 0 (λ_ => true) true Tryz.f3.params.toList args.toList ds p := C8;rw [Tryz.params3] at hA hval;obtain ⟨v0, v1, d0, d1, p0, p1, rfl, rfl, rfl, h0, h1⟩ := trodAll_two hA;obtain ⟨rfl, rfl⟩ := trodVars_none hV;obtain ⟨A, m, cap, x, rfl, k1, k2, k3, k4⟩ := ahw (hval 0 28 v0 rfl rfl) h0;obtain ⟨A1, A2, n1, c1, n2, c2, pg, n, f, bk, ev, lim, l, us, rfl, q1, q2, q3, q4, _, q6, q7, _, _⟩ := aaZ (hval 1 34 v1 rfl rfl) h1;simp only [List.append_nil] at hW';refine (LC x A m cap A1 A2 n1 c1 n2 c2 pg n f bk ev lim l us W k1 k2 k3 k4 q1 q2 q3 q4 q6 q7).mono λe W' ⟨he, hb⟩ => ?_
 subst he;exact ⟨_, rfl, KT (pv := []) hW' (λ_ _ _ => trodAll_mk1 (shut_bool underlying4 true))
  (λsp hsp => by rw [Tryz.params3]; exact trodAll_mk2 (WideElems.Trod_stays Oi (by kernel_rfl) (of_decide_eq_true (by kernel_rfl)) h0 (λx hx => hb.same (hW'.lt x (by simp [hx]))) (λx hx => hsp x (by simp [hx]))) (WideElems.Trod_stays Oi (by kernel_rfl) (of_decide_eq_true (by kernel_rfl)) h1 (λx hx => hb.same (hW'.lt x (by simp [hx]))) (λx hx => hsp x (by simp [hx]))))
  (λ_ _ => rfl) (by simp) hb (ok_one (by kernel_rfl) rfl (okWide_bool_mk underlying4 true))⟩
theorem commitChecks_holds : Rows.CommitChecksSaid :=
 OpenClaim.holds_of_wide 3 Tryz.f3 rfl rfl rfl rfl rfl rfl rfl ⟨rfl, rfl, rfl, rfl, rfl⟩ rfl rfl rfl rfl rfl (by kernel_rfl) func3 (by kernel_rfl)
  (of_decide_eq_true (by kernel_rfl)) (by unfold Func.isWrapper; rw [if_neg (of_decide_eq_false (by kernel_rfl))]; exact ⟨rfl, rfl⟩)
  (λos started H enc _ => commitChecks_lifted os started H enc)
end Go.Proofs.YtlgcpjhimomiaaaGreat
