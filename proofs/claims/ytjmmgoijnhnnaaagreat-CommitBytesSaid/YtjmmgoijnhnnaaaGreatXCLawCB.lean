/- The law CommitBytes in the row's form: the walk of CLawC at a play, two numbers and a byte that came in. -/
import Derived.Test.YtjmmgoijnhnnaaaGreatX16
namespace Go.Proofs.YtjmmgoijnhnnaaaGreat
open Go Go.Proofs Go.RowKit Go.Pol Go.Shelf Go.ChangeShapes Go.WideShapes Go.Deep
section
variable {H : Type} {enc : TypeId × Value → H} {w : World} {base b0 : Nat} {held : Bool} {r : Reach} {v : Value} {d : DataW H} {p : List MemPlace}
theorem u8Cells : Tryz.prog.cellsOf 5 = 1 := by kernel_rfl
theorem pair8Cells : Tryz.prog.cellsOf 32 = 2 := by kernel_rfl
theorem u8_bounds {m : Int} (wf : (Lit.int .u8 m).wf = true) : 0 ≤ m ∧ m ≤ 255 := by
 simp only [Lit.wf, Bool.and_eq_true, decide_eq_true_eq] at wf
 have e1 : IntKind.u8.min = 0 := by rfl
 have e2 : IntKind.u8.max = 255 := by rfl
 rw [e1, e2] at wf
 exact wf
set_option maxRecDepth 100000 in
theorem openByte (hv : Value.okWide Tryz.prog w r b0 5 v) (h : DataW.Trod enc Tryz.prog w base (fun _ => true) held 5 v d p) : ∃ n : Int, v = .int .u8 n ∧ 0 ≤ n ∧ n ≤ 255 := by
 obtain ⟨n, rfl⟩ : ∃ n : Int, v = .int .u8 n := okWide_int Tryz.underlying5 hv
 obtain ⟨fuel, hf⟩ := h
 obtain ⟨m, e, _, wf⟩ := DataW.trod_int Tryz.underlying5 hf
 simp only [Value.cells, List.cons.injEq, and_true, Value.int.injEq, true_and] at e
 subst e
 exact ⟨n, rfl, u8_bounds wf⟩
set_option maxRecDepth 100000 in
theorem openPair8 (h : DataW.Trod enc Tryz.prog w base (fun _ => true) held 32 v d p) :
  ∃ a b : Int, v = .agg #[.int .u8 a, .int .u8 b] ∧ (0 ≤ a ∧ a ≤ 255) ∧ (0 ≤ b ∧ b ≤ 255) := by
 obtain ⟨cs, rfl, hsz⟩ : ∃ cs : Array Value, v = .agg cs ∧ cs.size = Tryz.prog.cellsOf 32 := by
  cases v with
  | agg cs =>
   obtain ⟨fuel, hf⟩ := h
   obtain ⟨xs, m, _, hx, hl, hlen, hg⟩ := DataW.trod_array Tryz.underlying32 hf
   exact ⟨cs, rfl, by simpa [Value.cells] using hl⟩
  | _ =>
   exfalso
   obtain ⟨fuel, hf⟩ := h
   obtain ⟨xs, m, _, hx, hl, hlen, hg⟩ := DataW.trod_array Tryz.underlying32 hf
   rw [pair8Cells] at hl
   simp [Value.cells] at hl
 obtain ⟨l⟩ := cs
 obtain ⟨fuel, hf⟩ := h
 obtain ⟨xs, m, _, hx, hl, hlen, hg⟩ := DataW.trod_array Tryz.underlying32 hf
 rw [pair8Cells] at hsz
 match l, hsz with
 | [c0, c1], _ =>
  have g0 : DataW.trod enc Tryz.prog w base (fun _ => true) held m 5 [c0] = xs[0]? := by have := hg 0 (by omega); simpa [Value.cells, u8Cells] using this
  have g1 : DataW.trod enc Tryz.prog w base (fun _ => true) held m 5 [c1] = xs[1]? := by have := hg 1 (by omega); simpa [Value.cells, u8Cells] using this
  match xs, hlen with
  | [y0, y1], _ =>
   obtain ⟨n0, e0, _, w0⟩ := DataW.trod_int Tryz.underlying5 (g0.trans rfl)
   obtain ⟨n1, e1, _, w1⟩ := DataW.trod_int Tryz.underlying5 (g1.trans rfl)
   simp only [List.cons.injEq, and_true] at e0 e1
   subst e0; subst e1
   exact ⟨n0, n1, rfl, u8_bounds w0, u8_bounds w1⟩
end
set_option maxRecDepth 100000 in
theorem commitBytes_lifted (os : Os) (started : os.Started) (H : Type) (enc : TypeId × Value → H) :
  ReturnsInHanded {} Tryz.checked os 3 .any (Rows.commitBytesSpec.pre6 enc Tryz.prog Tryz.f3 Rows.commitBytesRow.domain false) (Rows.commitBytesSpec.post enc Tryz.prog Tryz.f3 false true false false) := by
 refine returnsInHanded_of_change (C := Tryz.checked) own_ started (by kernel_rfl) Tryz.func3
  (ChangeSpec.witness6 (enc := enc) (C := Tryz.checked) false ⟨#[], #[.agg #[.int .i64 0, .int .i64 0, .int .i64 0, .int .i64 0, .int .i64 0, .int .i64 0, .slice none 0 0, .slice none 0 0], .agg #[.int .u8 0, .int .u8 0], .int .u8 0], []⟩ 8 (by kernel_rfl) (by kernel_rfl) (by kernel_rfl) (by kernel_rfl)) ?_
 intro W base args ds gs before hval0 hW _ _
 have hval : ∀ (j : Nat) t v, Tryz.f3.params[j]? = some t → args[j]? = some v → Value.okWide Tryz.prog W .any base t v := hval0
 have hW' := hW
 obtain ⟨p, q, hA0, hV, rfl, _, _⟩ := hW
 have hA : DataW.TrodAll enc Tryz.prog W 0 (fun _ => true) true Tryz.f3.params.toList args.toList ds p := hA0
 rw [Tryz.params3] at hA hval
 obtain ⟨v0, v1, v2, d0, d1, d2, p0, p1, p2, rfl, rfl, rfl, h0, h1, h2⟩ := trodAll_three hA
 obtain ⟨rfl, rfl⟩ := trodVars_none hV
 obtain ⟨A1, A2, n1, c1, n2, c2, pg, n, f, bk, ev, lim, l, us, rfl, _, _, _, q4, _, q6, q7, _, _⟩ := openPlay (hval 0 31 v0 rfl rfl) h0
 obtain ⟨y0, y1, rfl, hy0, hy1⟩ := openPair8 h1
 obtain ⟨bv, rfl, _, _⟩ := openByte (hval 2 5 v2 rfl rfl) h2
 simp only [List.append_nil] at hW'
 refine (bytesLaw_any A1 A2 n1 c1 n2 c2 pg n f bk ev lim y0 y1 bv us W q4 q6 q7 hy0 hy1).mono fun e W' ⟨he, hb⟩ => ?_
 subst he
 exact ⟨_, rfl, post_of_below (pv := []) hW' (fun _ _ _ => trodAll_mk1 (shut_bool Tryz.underlying4 true))
  (fun sp hsp => by rw [Tryz.params3]; exact trodAll_mk3 (WideElems.Trod_stays laidOut_ (by kernel_rfl) (of_decide_eq_true (by kernel_rfl)) h0 (fun x hx => hb.same (hW'.lt x (by simp [hx]))) (fun x hx => hsp x (by simp [hx]))) (WideElems.Trod_stays laidOut_ (by kernel_rfl) (of_decide_eq_true (by kernel_rfl)) h1 (fun x hx => hb.same (hW'.lt x (by simp [hx]))) (fun x hx => hsp x (by simp [hx]))) (WideElems.Trod_stays laidOut_ (by kernel_rfl) (of_decide_eq_true (by kernel_rfl)) h2 (fun x hx => hb.same (hW'.lt x (by simp [hx]))) (fun x hx => hsp x (by simp [hx]))))
  (fun _ _ => rfl) (by simp) hb (ok_one (by kernel_rfl) rfl (okWide_bool_mk Tryz.underlying4 true))⟩
theorem commitBytes_holds : Rows.CommitBytesSaid :=
 OpenClaim.holds_of_wide 3 Tryz.f3 rfl rfl rfl rfl rfl rfl rfl ⟨rfl, rfl, rfl, rfl, rfl⟩ rfl rfl rfl rfl rfl (by kernel_rfl) Tryz.func3 (by kernel_rfl)
  (of_decide_eq_true (by kernel_rfl)) (by unfold Func.isWrapper; rw [if_neg (of_decide_eq_false (by kernel_rfl))]; exact ⟨rfl, rfl⟩)
  (fun os started H enc _ => commitBytes_lifted os started H enc)
end Go.Proofs.YtjmmgoijnhnnaaaGreat
