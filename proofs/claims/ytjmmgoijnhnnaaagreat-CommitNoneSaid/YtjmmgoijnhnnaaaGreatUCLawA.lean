/- That the law CommitNone returns true whatever the range and the number are: a nil system, nil budgets, and a system and budgets that were not made by their packages are refused by every call with the error of what is nil; the document's example is as the document says. No condition. -/
import Derived.Test.YtjmmgoijnhnnaaaGreatU9
namespace Go.Pol
open Go Go.RowKit
theorem zero_head {zc : Array Value} {r : List Value} (h : stS zc.toList = some r) : zc[0]? = some (.bool false) := by
  unfold stS at h
  split at h
  · rename_i r' hr
    rw [← Array.getElem?_toList, hr]; rfl
  · cases h
end Go.Pol
namespace Go.Proofs.YtjmmgoijnhnnaaaGreat
open Go Go.Proofs Go.RowKit Go.Pol Go.Shelf Go.ChangeShapes Go.WideShapes Go.Deep
attribute [local go_sem] Oper.semAt_some Go.Pol.wide_fn Go.Pol.wide_depth Go.Pol.wide_fn' Go.Pol.wide_depth'

set_option maxRecDepth 100000 in
set_option maxHeartbeats 3200000 in
theorem noneLaw_any (r : Cr) (A : Option Addr) (m cap : Nat) (tt : Int) (w : World) (_ : r.kept.length = m) :
    Calls Tryz.prog 4 #[.agg (crC r (.slice A m cap)), .int .i64 tt] w fun e w' => e = .returned (.bool true) ∧ Below w.heap.size w w' := by
  have HG1 := Lib.hid (fun (b : Option Addr) W => growNo_any none b r A m cap tt W (fun W' _ => readyNil_any (.pointer b) r (.slice A m cap) W'))
  have HG2 := Lib.hid (fun (bs : Nat) W (hV : SysIs W bs newVm) => growNo_any (some ⟨bs, 0, none⟩) none r A m cap tt W (fun W' hb => readyBNo_any bs newVm (.pointer none) r (.slice A m cap) W' (hV.call hb) newVm_kind (fun W2 _ => overNil_any W2)))
  have HP := Lib.hid (fun (g : Nat) (t : TypeId) (cs : Array Value) (b : Option Addr) W (k : Blk W g t cs) (h0 : cs[0]? = some (.bool false)) => purgeNo_any (.pointer (some ⟨g, 0, none⟩)) (.pointer b) r A m cap tt W (fun W' hb => readyRaw_any g t cs (.pointer b) r (.slice A m cap) W' (k.call hb) h0))
  have HC := Lib.hid (fun (bs g : Nat) (u : Value) W (hV : SysIs W bs newVm) (k : Blk W g 75 #[.bool false, u]) => closeNo_any (some ⟨bs, 0, none⟩) (some ⟨g, 0, none⟩) r A m cap W (fun W' hb => readyBNo_any bs newVm (.pointer (some ⟨g, 0, none⟩)) r (.slice A m cap) W' (hV.call hb) newVm_kind (fun W2 hb2 => overRaw_any g u W2 ((k.call hb).call hb2))))
  have HF := Lib.hid (fun W => fitsNo_any r A m cap W)
  have HO := Lib.hid (fun (g : Nat) (t : TypeId) (cs : Array Value) W (k : Blk W g t cs) (h0 : cs[0]? = some (.bool false)) => openNo_any g t cs r.pg r.n r.f r.bk r.ev r.node W k h0)
  have hb0 := (Below.refl w.heap.size w).alloc (Nat.le_refl _) (.cells (crC r (.slice A m cap)) 43)
  have k0 := Blk.new w 43 (crC r (.slice A m cap))
  obtain ⟨pg, n, f, bk, ev, node, live, K, cl⟩ := r
  dsimp only [crC] at hb0 k0 HG1 HG2 HP HC HF HO ⊢
  unfold planV at HO
  obtain ⟨s, hs⟩ : ∃ s, w.heap.size = s := ⟨_, rfl⟩
  rw [hs] at k0
  go_enter Tryz.func4, Tryz.ntmps4
  go_upto_region 1 with fail
  generalize w.alloc _ = w0 at *
  try simp only [hs]
  go_wp2_with fail
  refine (new_any _).mono ?_
  rintro e w1 ⟨bs, rfl, hV1, hbs, hb1⟩
  have B1 := hb0.trans (hb1.mono hb0.size)
  have k1 := k0.call hb1
  go_wp2_with fail
  refine (newB_any 9 w1).mono ?_
  rintro e w2 ⟨he, hb2⟩
  rw [if_neg (by decide)] at he
  obtain ⟨bb, rfl, hbb, hB2⟩ := he
  have hV2 := hV1.call hb2
  have B2 := B1.trans (hb2.mono B1.size)
  have k2 := k1.call hb2
  clear hV1 hb1 hb2 B1 k1 hb0 k0 hB2
  have c2 := k2.cell
  by_cases h1 : 100 < n
  · have d1 : decide (100 < n) = true := by simpa using h1
    clear h1
    go_wp2_with fail
    refine (shown_any _).mono ?_
    rintro e w3 ⟨rfl, hb3⟩
    go_wp2_with fail
    go_ret
    exact ⟨rfl, B2.trans (hb3.mono B2.size)⟩
  have d1 : decide (100 < n) = false := by simpa using h1
  clear h1
  by_cases h2 : 600 < (m : Int)
  · have d2 : decide (600 < (m : Int)) = true := by simpa using h2
    clear h2
    go_wp2_with fail
    refine (shown_any _).mono ?_
    rintro e w3 ⟨rfl, hb3⟩
    go_wp2_with fail
    go_ret
    exact ⟨rfl, B2.trans (hb3.mono B2.size)⟩
  have d2 : decide (600 < (m : Int)) = false := by simpa using h2
  clear h2
  go_wp2_with fail
  refine (HG1.out (some ⟨bb, 0, none⟩) w2).mono ?_
  rintro e w3 ⟨⟨v3, rfl⟩, hb3⟩
  have hV3 := hV2.call hb3
  have B3 := B2.trans (hb3.mono B2.size)
  have k3 := k2.call hb3
  have c3 := k3.cell
  clear c2 hV2 B2 k2 hb3
  go_wp2_with fail
  refine (HG2.out bs w3 hV3).mono ?_
  rintro e w4 ⟨⟨v4, rfl⟩, hb4⟩
  have hV4 := hV3.call hb4
  have B4 := B3.trans (hb4.mono B3.size)
  have k4 := k3.call hb4
  have c4 := k4.cell
  clear c3 hV3 B3 k3 hb4 HG1 HG2
  have hzs := Tryz.zeroCells71_size
  have hzz := Lib.hid (zero_head zeroSys)
  obtain ⟨zc, hzc⟩ : ∃ zc, Tryz.zeroCells71 = zc := ⟨_, rfl⟩
  rw [hzc] at hzs hzz
  have hne : ¬ zc = #[] := fun e => by rw [e] at hzs; simp at hzs
  have hba := (Below.refl w4.heap.size w4).alloc (Nat.le_refl _) (.cells zc 71)
  have kz := Blk.new w4 71 zc
  have k5 := k4.call hba
  have hV5 := hV4.call hba
  have B5 := B4.trans (hba.mono B4.size)
  have c5 := k5.cell
  clear c4 k4 hV4 B4 hba
  go_wp2_with fail
  refine (HP.out _ _ zc (some ⟨bb, 0, none⟩) _ kz hzz.out).mono ?_
  rintro e w6 ⟨rfl, hb6⟩
  have hV6 := hV5.call hb6
  have B6 := B5.trans (hb6.mono B5.size)
  have k6 := k5.call hb6
  clear c5 k5 hV5 B5 hb6 kz HP
  go_upto_region 8 with fail
  have hba := (Below.refl w6.heap.size w6).alloc (Nat.le_refl _) (.cells #[.int .i64 pg, .int .i64 n, .int .i64 f, .int .i64 bk, .int .i64 ev, .int .i64 node, .int .i64 live, .slice A m cap, .bool cl] 43)
  have k7 := k6.call hba
  have hV7 := hV6.call hba
  have B7 := B6.trans (hba.mono B6.size)
  generalize w6.alloc _ = w7 at *
  clear k6 hV6 B6 hba
  have hba := (Below.refl w7.heap.size w7).alloc (Nat.le_refl _) (.cells #[.bool false, .slice none 0 0] 75)
  have kB := Blk.new w7 75 #[.bool false, .slice none 0 0]
  have k8 := k7.call hba
  have hV8 := hV7.call hba
  have B8 := B7.trans (hba.mono B7.size)
  have c8 := k8.cell
  go_wp2_with fail
  refine (HC.out bs _ _ _ hV8 kB).mono ?_
  rintro e w9 ⟨rfl, hb9⟩
  have B9 := B8.trans (hb9.mono B8.size)
  have k9 := k8.call hb9
  clear c8 k8 hV8 B8 hb9 kB HC k7 hV7 B7 hba
  go_upto_region 9 with fail
  have hba := (Below.refl w9.heap.size w9).alloc (Nat.le_refl _) (.cells #[.int .i64 pg, .int .i64 n, .int .i64 f, .int .i64 bk, .int .i64 ev, .int .i64 node, .int .i64 live, .slice A m cap, .bool cl] 43)
  have k10 := k9.call hba
  have B10 := B9.trans (hba.mono B9.size)
  generalize w9.alloc _ = w10 at *
  clear k9 B9 hba
  have c10 := k10.cell
  go_wp2_with fail
  refine (HF.out _).mono ?_
  rintro e w11 ⟨rfl, hb11⟩
  have B11 := B10.trans (hb11.mono B10.size)
  have k11 := k10.call hb11
  clear c10 k10 B10 hb11 HF
  go_upto_region 10 with fail
  have hba := (Below.refl w11.heap.size w11).alloc (Nat.le_refl _) (.cells zc 71)
  have kz := Blk.new w11 71 zc
  have k12 := k11.call hba
  have B12 := B11.trans (hba.mono B11.size)
  have c12 := k12.cell
  clear k11 B11 hba
  go_wp2_with fail
  refine (HO.out _ _ zc _ kz hzz.out).mono ?_
  rintro e w13 ⟨rfl, hb13⟩
  have B13 := B12.trans (hb13.mono B12.size)
  dsimp only [crC, cr0]
  clear c12 k12 B12 hb13 kz HO
  go_upto_region 11 with fail
  have B14 := B13.alloc B13.size (.cells #[.int .i64 0, .int .i64 0, .int .i64 0, .int .i64 0, .int .i64 0, .int .i64 0, .int .i64 0, .slice none 0 0, .bool false] 43)
  generalize w13.alloc _ = w14 at *
  go_wp2_with fail
  refine (shown_any _).mono ?_
  rintro e w15 ⟨rfl, hb15⟩
  go_wp2_with fail
  go_ret
  exact ⟨rfl, B14.trans (hb15.mono B14.size)⟩

set_option maxRecDepth 100000 in
theorem commitNone_lifted (os : Os) (started : os.Started) (H : Type) (enc : TypeId × Value → H) :
    ReturnsInHanded {} Tryz.checked os 4 .any (Rows.commitNoneSpec.pre6 enc Tryz.prog Tryz.f4 Rows.commitNoneRow.domain false) (Rows.commitNoneSpec.post enc Tryz.prog Tryz.f4 false true false false) := by
  refine returnsInHanded_of_change (C := Tryz.checked) own_ started (by kernel_rfl) Tryz.func4
    (ChangeSpec.witness6 (enc := enc) (C := Tryz.checked) false ⟨#[], #[.agg #[.int .i64 0, .int .i64 0, .int .i64 0, .int .i64 0, .int .i64 0, .int .i64 0, .int .i64 0, .slice none 0 0, .bool false], .int .i64 0], []⟩ 8 (by kernel_rfl) (by kernel_rfl) (by kernel_rfl) (by kernel_rfl)) ?_
  intro W base args ds gs before hval0 hW _ _
  have hval : ∀ (j : Nat) t v, Tryz.f4.params[j]? = some t → args[j]? = some v → Value.okWide Tryz.prog W .any base t v := hval0
  have hW' := hW
  obtain ⟨p, q, hA0, hV, rfl, _, _⟩ := hW
  have hA : DataW.TrodAll enc Tryz.prog W 0 (fun _ => true) true Tryz.f4.params.toList args.toList ds p := hA0
  rw [Tryz.params4] at hA hval
  obtain ⟨v0, v1, d0, d1, p0, p1, rfl, rfl, rfl, h0, h1⟩ := trodAll_two hA
  obtain ⟨rfl, rfl⟩ := trodVars_none hV
  obtain ⟨A, m, cap, x, rfl, q1, _⟩ := openCr (hval 0 43 v0 rfl rfl) h0
  obtain ⟨tt, rfl⟩ := okWide_iC (hval 1 3 v1 rfl rfl)
  simp only [List.append_nil] at hW'
  refine (noneLaw_any x A m cap tt W q1).mono fun e W' ⟨he, hb⟩ => ?_
  subst he
  exact ⟨_, rfl, post_of_below (pv := []) hW' (fun _ _ _ => trodAll_mk1 (shut_bool Tryz.underlying4 true))
    (fun sp hsp => by rw [Tryz.params4]; exact trodAll_mk2 (WideElems.Trod_stays laidOut_ (by kernel_rfl) (of_decide_eq_true (by kernel_rfl)) h0 (fun x hx => hb.same (hW'.lt x (by simp [hx]))) (fun x hx => hsp x (by simp [hx]))) (WideElems.Trod_stays laidOut_ (by kernel_rfl) (of_decide_eq_true (by kernel_rfl)) h1 (fun x hx => hb.same (hW'.lt x (by simp [hx]))) (fun x hx => hsp x (by simp [hx]))))
    (fun _ _ => rfl) (by simp) hb (ok_one (by kernel_rfl) rfl (okWide_bool_mk Tryz.underlying4 true))⟩
theorem commitNone_holds : Rows.CommitNoneSaid :=
  OpenClaim.holds_of_wide 4 Tryz.f4 rfl rfl rfl rfl rfl rfl rfl ⟨rfl, rfl, rfl, rfl, rfl⟩ rfl rfl rfl rfl rfl (by kernel_rfl) Tryz.func4 (by kernel_rfl)
    (of_decide_eq_true (by kernel_rfl)) (by unfold Func.isWrapper; rw [if_neg (of_decide_eq_false (by kernel_rfl))]; exact ⟨rfl, rfl⟩)
    (fun os started H enc _ => commitNone_lifted os started H enc)
end Go.Proofs.YtjmmgoijnhnnaaaGreat
