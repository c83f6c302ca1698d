/- The law ClassesMerges: Merge and Order of the program and of the reference answer alike, for two usages, a table and a class (more than 70 classes or 210 entries are not looked at), where the package-level variable 'none' reads as it is laid, and the examples hold. -/
import Derived.Test.YtiohcegkkpeodaaDoorMWalkH
import Derived.Test.YtiohcegkkpeodaaDoorLawG
namespace Go.Proofs.YtiohcegkkpeodaaDoor
open Go Go.Proofs Go.RowKit Go.Pol Go.ChangeShapes Go.ChangeAt Go.WideShapes Go.WideElems Go.Deep

theorem laidOut_ : laidOutB Tryd.prog = true := by kernel_rfl
theorem tabCells : Tryd.prog.cellsOf 27 = 1 := by kernel_rfl
theorem tabStruct : ∃ f0 : Field, Tryd.prog.underlying 27 = some (.struct #[f0]) ∧ oneCellFields Tryd.prog #[f0] = true ∧ f0.type = 25 := ⟨_, Tryd.underlying27, by kernel_rfl, rfl⟩
theorem useStruct : ∃ f0 f1 : Field, Tryd.prog.underlying 48 = some (.struct #[f0, f1]) ∧ oneCellFields Tryd.prog #[f0, f1] = true ∧ f0.type = 3 ∧ f1.type = 2 := ⟨_, _, Tryd.underlying48, by kernel_rfl, rfl, rfl⟩
set_option maxRecDepth 100000 in
theorem okWide_i64 {w : World} {r : Reach} {b0 : Nat} {v : Value} (h : Value.okWide Tryd.prog w r b0 3 v) : ∃ n : Int, v = .int .i64 n := okWide_int Tryd.underlying3 h
section
variable {H : Type} {enc : TypeId × Value → H} {w : World} {base b0 : Nat} {held : Bool} {r : Reach} {v : Value} {d : DataW H} {p : List MemPlace}
set_option maxRecDepth 100000 in
/-- a usage that came in -/
theorem openSz {fuel : Nat} {x : DataW H × List MemPlace} (h : DataW.trod enc Tryd.prog w base (fun _ => true) held fuel 31 [v] = some x) :
    ∃ (A : Option Addr) (n cap : Nat) (us : List (Int × Int)), v = .slice A n cap ∧ us.length = n ∧ n ≤ cap ∧ cap ≤ maxLen ∧ (A = none → cap = 0) ∧ RU w w.heap.size A us := by
  obtain ⟨f0, f1, hs, hone, t0, t1⟩ := useStruct
  obtain ⟨A', n', cap', us, rfl, h1, h2, h3⟩ := openU Tryd.underlying31 hs hone (by kernel_rfl) (by rw [t0]; exact Tryd.underlying3) (by rw [t1]; exact Tryd.underlying2) h
  rcases open_slice_fields Tryd.underlying31 hs hone (by kernel_rfl) h with ⟨hcs, _⟩ | ⟨a, len, cap', m, D, Pl, hcs, _, hl, hm, _⟩
  · simp only [List.cons.injEq, and_true] at hcs
    cases hcs
    exact ⟨_, _, _, us, rfl, h1, Nat.le_refl _, by unfold maxLen; omega, fun _ => rfl, h3⟩
  · simp only [List.cons.injEq, and_true] at hcs
    cases hcs
    exact ⟨_, _, _, us, rfl, h1, hl, hm, fun e => (by cases e), h3⟩
set_option maxRecDepth 100000 in
/-- a table that came in, with its capacity -/
theorem openTab2 (hv : Value.okWide Tryd.prog w r b0 27 v) (h : DataW.Trod enc Tryd.prog w base (fun _ => true) held 27 v d p) :
    ∃ (A : Option Addr) (n cap : Nat) (xs : List Int), v = .agg #[.slice A n cap] ∧ xs.length = n ∧ n ≤ cap ∧ cap ≤ maxLen ∧ RI w w.heap.size A xs := by
  obtain ⟨f0, hs, hone, ht⟩ := tabStruct
  obtain ⟨v0, y0, k, rfl, _, _, h0⟩ := open_agg1 hs hone tabCells hv h
  rw [ht] at h0
  obtain ⟨A, n, cap, xs, rfl, h1, h2, h3, _⟩ := openI Tryd.underlying25 Tryd.underlying3 (by kernel_rfl) h0
  rcases open_ints Tryd.underlying25 Tryd.underlying3 (by kernel_rfl) h0 with ⟨hcs, _⟩ | ⟨a, len, cap', zs, hcs, _, hl, hm, _⟩
  · simp only [List.cons.injEq, and_true] at hcs
    cases hcs
    exact ⟨_, _, _, xs, rfl, h1, Nat.le_refl _, by unfold maxLen; omega, h3⟩
  · simp only [List.cons.injEq, and_true] at hcs
    cases hcs
    exact ⟨_, _, _, xs, rfl, h1, hl, hm, h3⟩
theorem twoStruct : ∃ f0 f1 : Field, Tryd.prog.underlying 36 = some (.struct #[f0, f1]) ∧ f0.type = 31 ∧ f1.type = 31 := ⟨_, _, Tryd.underlying36, rfl, rfl⟩
theorem twoCells : Tryd.prog.cellsOf 36 = 2 := by kernel_rfl
theorem useCells1 : Tryd.prog.cellsOf 31 = 1 := by kernel_rfl
theorem intCells1 : Tryd.prog.cellsOf 3 = 1 := by kernel_rfl
set_option maxRecDepth 100000 in
/-- two usages that came in -/
theorem openTwo (hv : Value.okWide Tryd.prog w r b0 36 v) (h : DataW.Trod enc Tryd.prog w base (fun _ => true) held 36 v d p) :
    ∃ (U V : Option Addr) (m ucap m2 vcap : Nat) (us vs : List (Int × Int)), v = .agg #[.slice U m ucap, .slice V m2 vcap] ∧ (us.length = m ∧ m ≤ ucap ∧ ucap ≤ maxLen ∧ (U = none → ucap = 0) ∧ RU w w.heap.size U us) ∧ (vs.length = m2 ∧ m2 ≤ vcap ∧ vcap ≤ maxLen ∧ (V = none → vcap = 0) ∧ RU w w.heap.size V vs) := by
  obtain ⟨cs, rfl, hsz⟩ := okWide_struct Tryd.underlying36 hv
  obtain ⟨l⟩ := cs
  obtain ⟨fuel, hf⟩ := h
  obtain ⟨xs, m, _, hx, hl, hlen, hg⟩ := DataW.trod_struct Tryd.underlying36 hf
  rw [twoCells] at hsz
  match l, hsz with
  | [c0, c1], _ =>
    have g0 : DataW.trod enc Tryd.prog w base (fun _ => true) held m 31 [c0] = xs[0]? := by have := hg 0 _ rfl; simpa [Value.cells, useCells1] using this
    have g1 : DataW.trod enc Tryd.prog w base (fun _ => true) held m 31 [c1] = xs[1]? := by have := hg 1 _ rfl; simpa [Value.cells, useCells1] using this
    match xs, hlen with
    | [y0, y1], _ =>
      obtain ⟨U, a, b, us, rfl, hU⟩ := openSz (g0.trans rfl)
      obtain ⟨V, c, e, vs, rfl, hV⟩ := openSz (g1.trans rfl)
      exact ⟨U, V, a, b, c, e, us, vs, rfl, hU, hV⟩
end

theorem mergesLaw_any (A U V : Option Addr) (n cap m ucap m2 vcap : Nat) (xs : List Int) (us vs : List (Int × Int)) (c : Int) (w : World) (hn : xs.length = n) (hn2 : n ≤ maxLen) (hr : RI w w.heap.size A xs)
    (hun : us.length = m) (hum : m ≤ maxLen) (hur : RU w w.heap.size U us) (huz : U = none → ucap = 0) (hvn : vs.length = m2) (hvm : m2 ≤ maxLen) (hvr : RU w w.heap.size V vs) (hvz : V = none → vcap = 0) (hz : NoneIs w) :
    Calls Tryd.prog 4 #[.agg #[.slice U m ucap, .slice V m2 vcap], .agg #[.slice A n cap], .int .i64 c] w fun e w' => e = .returned (.bool true) ∧ Below w.heap.size w w' := by
  cases h1 : (decide (70 < n) || decide (210 < m))
  · cases h2 : (decide (70 < n) || decide (210 < m2))
    · exact mergesNear_any A U V n cap m ucap m2 vcap xs us vs c w hn hn2 hr hun hum hur huz hvn hvm hvr hvz hz h1 h2
    · exact mergesFar_any A U V n cap m ucap m2 vcap c w hn2 hum hvm (by rw [h1, h2]; rfl)
  · exact mergesFar_any A U V n cap m ucap m2 vcap c w hn2 hum hvm (by rw [h1]; rfl)

set_option maxRecDepth 100000 in
theorem merges_lifted (os : Os) (started : os.Started) (H : Type) (enc : TypeId × Value → H) :
    ReturnsInHanded {} Tryd.checked os 4 .any (fun w args => (Rows.classesMergesSpec.pre enc Tryd.prog Tryd.f4 [] false w args ∧ laidMetH Tryd.prog laidK w) ∧ sizedMet enc Tryd.prog Tryd.f4 (OpenSpec.ofChange Rows.classesMergesSpec) false w args)
      (Rows.classesMergesSpec.post enc Tryd.prog Tryd.f4 false true false false) := by
  refine returnsInHanded_of_change_and (C := Tryd.checked) (X := fun w _ => laidMetH Tryd.prog laidK w) (fun _ _ _ hh h => h.of_heap hh) own_ started (by kernel_rfl) Tryd.func4
    (ChangeSpec.witness_shaped (enc := enc) (C := Tryd.checked) (os := os) (X := fun w _ => laidMetH Tryd.prog laidK w) false (World.doorLaid Tryd.prog 400 os) #[.agg #[.slice none 0 0, .slice none 0 0], .agg #[.slice none 0 0], .int .i64 0] 8 rfl (World.shaped_of_RefB (by kernel_rfl) (by kernel_rfl)) (by kernel_rfl) (by kernel_rfl) (by kernel_rfl) (door_met os _)) ?_
  intro W base args ds gs before hval0 hW _ _ hL _
  have hval : ∀ (j : Nat) t v, Tryd.f4.params[j]? = some t → args[j]? = some v → Value.okWide Tryd.prog W .any base t v := hval0
  have hW' := hW
  obtain ⟨p, q, hA0, hV, rfl, _, _⟩ := hW
  have hA : DataW.TrodAll enc Tryd.prog W 0 (fun _ => true) true Tryd.f4.params.toList args.toList ds p := hA0
  rw [Tryd.params4] at hA hval
  obtain ⟨v0, v1, v2, d0, d1, d2, p0, p1, p2, rfl, rfl, rfl, h0, h1, h2⟩ := trodAll_three hA
  obtain ⟨rfl, rfl⟩ := trodVars_none hV
  obtain ⟨U, V, m, ucap, m2, vcap, us, vs, rfl, ⟨g1, g2, g3, g4, g5⟩, k1, k2, k3, k4, k5⟩ := openTwo (hval 0 36 v0 rfl rfl) h0
  obtain ⟨A, n, cap, xs, rfl, e1, e2, e3, e4⟩ := openTab2 (hval 1 27 v1 rfl rfl) h1
  obtain ⟨c, rfl⟩ := okWide_i64 (hval 2 3 v2 rfl rfl)
  simp only [List.append_nil] at hW'
  refine (mergesLaw_any A U V n cap m ucap m2 vcap xs us vs c W e1 (Nat.le_trans e2 e3) e4 g1 (Nat.le_trans g2 g3) g5 g4 k1 (Nat.le_trans k2 k3) k5 k4 (none_of_laid hL)).mono fun e W' ⟨he, hb⟩ => ?_
  subst he
  exact ⟨_, rfl, post_of_below (pv := []) hW' (fun _ _ _ => trodAll_mk1 (shut_bool Tryd.underlying4 true))
    (fun sp hsp => by rw [Tryd.params4]; exact trodAll_mk3 (WideElems.Trod_stays laidOut_ (by kernel_rfl) (of_decide_eq_true (by kernel_rfl)) h0 (fun x hx => hb.same (hW'.lt x (by simp [hx]))) (fun x hx => hsp x (by simp [hx]))) (WideElems.Trod_stays laidOut_ (by kernel_rfl) (of_decide_eq_true (by kernel_rfl)) h1 (fun x hx => hb.same (hW'.lt x (by simp [hx]))) (fun x hx => hsp x (by simp [hx]))) (WideElems.Trod_stays laidOut_ (by kernel_rfl) (of_decide_eq_true (by kernel_rfl)) h2 (fun x hx => hb.same (hW'.lt x (by simp [hx]))) (fun x hx => hsp x (by simp [hx]))))
    (fun _ _ => rfl) (by simp) hb (ok_one (by kernel_rfl) rfl (okWide_bool_mk Tryd.underlying4 true))⟩

theorem classesMerges_row : Rows.ClassesMergesSaid :=
  OpenClaim.holds_of_wide 4 Tryd.f4 rfl rfl rfl rfl rfl rfl rfl ⟨rfl, rfl, rfl, rfl, rfl⟩ rfl rfl rfl rfl rfl (by kernel_rfl) Tryd.func4 (by kernel_rfl)
    (of_decide_eq_true (by kernel_rfl)) (by unfold Func.isWrapper; rw [if_neg (of_decide_eq_false (by kernel_rfl))]; exact ⟨rfl, rfl⟩)
    (fun os started H enc _ => merges_lifted os started H enc)

theorem classesMerges_holds : Rows.ClassesMergesCardSaid :=
  Claim7.holds_tied_plain_at .later [] [.data] true (true, "830f0ccded5f6187198ed2480c424fc44f3e0e6612872d2de3895b97e4b4ebe6") false
    classesMerges_row (fun _ h => by cases h) (by kernel_rfl) (fun _ h => by cases h) classesMerges_row_tie rfl ⟨rfl, rfl⟩ (by kernel_rfl) rfl
    (fun f fn hf hfn => by
      obtain rfl : f = 4 := Option.some.inj ((show Tryd.prog.funcNamed "polder/polderlaw18.ClassesMerges" = some 4 by kernel_rfl).symm.trans hf) |>.symm
      obtain rfl : fn = Tryd.f4 := (Option.some.inj (Tryd.func4.symm.trans hfn)).symm
      exact ⟨by kernel_rfl, fun j t ht => by
        rw [Tryd.params4] at ht
        rcases j with _ | _ | _ | j
        · simp at ht; subst ht; kernel_rfl
        · simp at ht; subst ht; kernel_rfl
        · simp at ht; subst ht; kernel_rfl
        · simp at ht⟩)
    (by kernel_rfl)
end Go.Proofs.YtiohcegkkpeodaaDoor
