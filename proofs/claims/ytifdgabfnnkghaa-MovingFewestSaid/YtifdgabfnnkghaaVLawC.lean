/- The law MovingFewest: moves that are given, are possible, and empty a candidate by moving its blocks alone, out of it, do not cost less than those of Plan, and there is a plan then; whatever the space, the blocks, the moves, the order and the candidate, and the examples of the document hold. -/
import Derived.Test.YtifdgabfnnkghaaVWalkY
import Derived.Test.YtifdgabfnnkghaaVRow
namespace Go.Proofs.Ytifdgabfnnkghaa
open Go Go.Proofs Go.RowKit Go.Pol Go.ChangeShapes Go.WideShapes Go.Deep

theorem fewestLaw_any (pages : Int) (A M : Option Addr) (n cap mn mcap : Nat) (bs : List B3) (mvs : List (Int × Int)) (o cand : Int) (w : World) (hn : bs.length = n) (hm : n ≤ maxLen) (hz : A = none → cap = 0) (hr : RT w w.heap.size A bs) (hmn : mvs.length = mn) (hmm : mn ≤ maxLen) (hu : RU w w.heap.size M mvs) :
    Calls Try.prog 6 #[.agg #[.int .i64 pages, .slice A n cap, .slice M mn mcap], .int .i64 o, .int .i64 cand] w fun e w' => e = .returned (.bool true) ∧ Below w.heap.size w w' := by
  by_cases hb : chkB pages bs ≠ 0 ∨ 64 < mn ∨ isOrd o = false ∨ pages < pw o
  · exact fewestBad_any pages A M n cap mn mcap bs o cand w hn hm hmm hr hb
  · have hc : chkB pages bs = 0 := by
      by_cases h : chkB pages bs = 0
      · exact h
      · exact absurd (.inl h) hb
    have h64 : mn ≤ 64 := by
      by_cases h : 64 < mn
      · exact absurd (.inr (.inl h)) hb
      · omega
    have ho : isOrd o = true := by
      cases h : isOrd o with
      | true => rfl
      | false => exact absurd (.inr (.inr (.inl h))) hb
    have hle : pw o ≤ pages := by
      by_cases h : pages < pw o
      · exact absurd (.inr (.inr (.inr h))) hb
      · omega
    obtain ⟨h0, h10⟩ := isOrd_iff.1 ho
    obtain ⟨od, rfl⟩ := Int.eq_ofNat_of_zero_le h0
    obtain ⟨P, hP, hpg⟩ := spaceB_pow (chkB_ok hc).space
    rw [pw_nat, hpg] at hle
    subst hpg
    exact fewestOk_any (2 ^ P) P A M n cap mn mcap bs mvs od cand w hn hz hmn h64 hr hu hP rfl (pow_le_int.1 hle) hc
section
variable {H : Type} {enc : TypeId × Value → H} {w : World} {base b0 : Nat} {held : Bool} {r : Reach} {v : Value} {d : DataW H} {p : List MemPlace}
theorem caseCells : Try.prog.cellsOf 46 = 3 := by kernel_rfl
theorem blsCells : Try.prog.cellsOf 22 = 1 := by kernel_rfl
theorem mvsCells : Try.prog.cellsOf 23 = 1 := by kernel_rfl
theorem intCells : Try.prog.cellsOf 3 = 1 := by kernel_rfl
set_option maxRecDepth 100000 in
theorem openBl1 {fuel : Nat} {x : DataW H × List MemPlace} (h : DataW.trod enc Try.prog w base (fun _ => true) held fuel 22 [v] = some x) :
    ∃ (A : Option Addr) (n cap : Nat) (us : List B3), v = .slice A n cap ∧ us.length = n ∧ n ≤ maxLen ∧ (A = none → cap = 0) ∧ RT w w.heap.size A us := by
  obtain ⟨f0, f1, f2, hs, hone, t0, t1, t2⟩ := blStruct
  obtain ⟨A, n, cap, us, rfl, h1, h2, h3⟩ := openT Try.underlying22 hs hone (by kernel_rfl) (by rw [t0]; exact Try.underlying3) (by rw [t1]; exact Try.underlying3) (by rw [t2]; exact Try.underlying4) h
  rcases open_slice_fields Try.underlying22 hs hone (by kernel_rfl) h with ⟨hcs, _⟩ | ⟨a, len, cap', m, D, Pl, hcs, _, hl, hm, _⟩
  · have e : Value.slice A n cap = .slice none 0 0 := by simpa using hcs
    cases e
    exact ⟨_, _, _, us, rfl, h1, h2, fun _ => rfl, h3⟩
  · have e : Value.slice A n cap = .slice (some a) len cap' := by simpa using hcs
    cases e
    exact ⟨_, _, _, us, rfl, h1, h2, fun e => (by cases e), h3⟩
set_option maxRecDepth 100000 in
/-- a case that came in -/
theorem openCase (hv : Value.okWide Try.prog w r b0 46 v) (h : DataW.Trod enc Try.prog w base (fun _ => true) held 46 v d p) :
    ∃ (pages : Int) (A M : Option Addr) (n cap mn mcap : Nat) (bs : List B3) (ms : List (Int × Int)), v = .agg #[.int .i64 pages, .slice A n cap, .slice M mn mcap] ∧ bs.length = n ∧ n ≤ maxLen ∧ (A = none → cap = 0) ∧ RT w w.heap.size A bs ∧ ms.length = mn ∧ mn ≤ maxLen ∧ RU w w.heap.size M ms := by
  obtain ⟨cs, rfl, hsz⟩ := okWide_struct Try.underlying46 hv
  obtain ⟨l⟩ := cs
  obtain ⟨fuel, hf⟩ := h
  obtain ⟨xs, m, _, hx, hl, hlen, hg⟩ := DataW.trod_struct Try.underlying46 hf
  rw [caseCells] at hsz
  match l, hsz with
  | [c0, c1, c2], _ =>
    have g0 : DataW.trod enc Try.prog w base (fun _ => true) held m 3 [c0] = xs[0]? := by have := hg 0 _ rfl; simpa [Value.cells, intCells] using this
    have g1 : DataW.trod enc Try.prog w base (fun _ => true) held m 22 [c1] = xs[1]? := by have := hg 1 _ rfl; simpa [Value.cells, blsCells] using this
    have g2 : DataW.trod enc Try.prog w base (fun _ => true) held m 23 [c2] = xs[2]? := by have := hg 2 _ rfl; simpa [Value.cells, mvsCells] using this
    match xs, hlen with
    | [y0, y1, y2], _ =>
      obtain ⟨n0, e0, _⟩ := DataW.trod_int Try.underlying3 (g0.trans rfl)
      simp only [List.cons.injEq, and_true] at e0
      subst e0
      obtain ⟨A, n, cap, bs, rfl, h1, h2, h3, h4⟩ := openBl1 (g1.trans rfl)
      obtain ⟨f0, f1, hs, hone, t0, t1⟩ := mvStruct
      obtain ⟨M, mn, mcap, ms, rfl, k1, k2, k3⟩ := openU Try.underlying23 hs hone (by kernel_rfl) (by rw [t0]; exact Try.underlying3) (by rw [t1]; exact Try.underlying3) (g2.trans rfl)
      exact ⟨n0, A, M, n, cap, mn, mcap, bs, ms, rfl, h1, h2, h3, h4, k1, k2, k3⟩
end
set_option maxRecDepth 100000 in
theorem movingFewest_lifted (os : Os) (started : os.Started) (H : Type) (enc : TypeId × Value → H) :
    ReturnsInHanded {} Try.checked os 6 .any (Rows.movingFewestSpec.pre6 enc Try.prog Try.f6 Rows.movingFewestRow.domain false) (Rows.movingFewestSpec.post enc Try.prog Try.f6 false true false false) := by
  refine returnsInHanded_of_change (C := Try.checked) own_ started (by kernel_rfl) Try.func6
    (ChangeSpec.witness6 (enc := enc) (C := Try.checked) false ⟨#[], #[.agg #[.int .i64 0, .slice none 0 0, .slice none 0 0], .int .i64 0, .int .i64 0], []⟩ 8 (by kernel_rfl) (by kernel_rfl) (by kernel_rfl) (by kernel_rfl)) ?_
  intro W base args ds gs before hval0 hW _ _
  have hval : ∀ (j : Nat) t v, Try.f6.params[j]? = some t → args[j]? = some v → Value.okWide Try.prog W .any base t v := hval0
  have hW' := hW
  obtain ⟨p, q, hA0, hV, rfl, _, _⟩ := hW
  have hA : DataW.TrodAll enc Try.prog W 0 (fun _ => true) true Try.f6.params.toList args.toList ds p := hA0
  rw [Try.params6] at hA hval
  obtain ⟨v0, v1, v2, d0, d1, d2, p0, p1, p2, rfl, rfl, rfl, h0, h1, h2⟩ := trodAll_three hA
  obtain ⟨rfl, rfl⟩ := trodVars_none hV
  obtain ⟨pages, A, M, n, cap, mn, mcap, bs, ms, rfl, e1, e2, e3, e4, g1, g2, g3⟩ := openCase (hval 0 46 v0 rfl rfl) h0
  obtain ⟨o, rfl⟩ := okWide_i64 (hval 1 3 v1 rfl rfl)
  obtain ⟨cand, rfl⟩ := okWide_i64 (hval 2 3 v2 rfl rfl)
  simp only [List.append_nil] at hW'
  refine (fewestLaw_any pages A M n cap mn mcap bs ms o cand W e1 e2 e3 e4 g1 g2 g3).mono fun e W' ⟨he, hb⟩ => ?_
  subst he
  exact ⟨_, rfl, post_of_below (pv := []) hW' (fun _ _ _ => trodAll_mk1 (shut_bool Try.underlying4 true))
    (fun sp hsp => by rw [Try.params6]; exact trodAll_mk3 (WideElems.Trod_stays laidOut_ (by kernel_rfl) (of_decide_eq_true (by kernel_rfl)) h0 (fun x hx => hb.same (hW'.lt x (by simp [hx]))) (fun x hx => hsp x (by simp [hx]))) (WideElems.Trod_stays laidOut_ (by kernel_rfl) (of_decide_eq_true (by kernel_rfl)) h1 (fun x hx => hb.same (hW'.lt x (by simp [hx]))) (fun x hx => hsp x (by simp [hx]))) (WideElems.Trod_stays laidOut_ (by kernel_rfl) (of_decide_eq_true (by kernel_rfl)) h2 (fun x hx => hb.same (hW'.lt x (by simp [hx]))) (fun x hx => hsp x (by simp [hx]))))
    (fun _ _ => rfl) (by simp) hb (ok_one (by kernel_rfl) rfl (okWide_bool_mk Try.underlying4 true))⟩
theorem movingFewest_holds : Rows.MovingFewestSaid :=
  OpenClaim.holds_of_wide 6 Try.f6 rfl rfl rfl rfl rfl rfl rfl ⟨rfl, rfl, rfl, rfl, rfl⟩ rfl rfl rfl rfl rfl (by kernel_rfl) Try.func6 (by kernel_rfl)
    (of_decide_eq_true (by kernel_rfl)) (by unfold Func.isWrapper; rw [if_neg (of_decide_eq_false (by kernel_rfl))]; exact ⟨rfl, rfl⟩)
    (fun os started H enc _ => movingFewest_lifted os started H enc)
end Go.Proofs.Ytifdgabfnnkghaa
