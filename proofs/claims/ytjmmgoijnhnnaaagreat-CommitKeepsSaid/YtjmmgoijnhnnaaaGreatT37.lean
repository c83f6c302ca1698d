/- That the law CommitKeeps returns true whatever the play and the number are: Grow that returns an error keeps Live and all bytes below it, and keeps no pages tha. -/
import Derived.Deep.CutRange
import Derived.Test.YtjmmgoijnhnnaaaGreatT36
namespace Go.Pol
open Go Go.RowKit
structure KeepN (V : Vm) (r : Cr) (tt : Int) (sr : Cr) (se : Int) (sV : Vm) : Prop where
 live : r.live ≤ sr.live
 plan : sr.pg = r.pg ∧ sr.n = r.n ∧ sr.f = r.f ∧ sr.bk = r.bk ∧ sr.ev = r.ev ∧ sr.node = r.node ∧ sr.cl = r.cl
 ok : se = 0 → sr.live = tt
 no : se ≠ 0 → sr.live = r.live ∧ sumS r.kept ≤ sumS sr.kept ∧ V.rf.hits 3 ≤ sV.rf.hits 3 ∧ (sr = r ∨ V.rf.hits 3 < sV.rf.hits 3)
theorem growC_plan (V : Vm) (L : List Nd) (r : Cr) (tt : Int) : (growC V L r tt).1.pg = r.pg ∧ (growC V L r tt).1.n = r.n ∧ (growC V L r tt).1.f = r.f ∧ (growC V L r tt).1.bk = r.bk ∧ (growC V L r tt).1.ev = r.ev ∧ (growC V L r tt).1.node = r.node ∧ (growC V L r tt).1.cl = r.cl := by
 unfold growC
 split
 ·exact ⟨rfl, rfl, rfl, rfl, rfl, rfl, rfl⟩
 ·split
  ·exact ⟨rfl, rfl, rfl, rfl, rfl, rfl, rfl⟩
  ·split
   ·exact ⟨rfl, rfl, rfl, rfl, rfl, rfl, rfl⟩
   ·dsimp only
    split
    ·exact ⟨rfl, rfl, rfl, rfl, rfl, rfl, rfl⟩
    ·split <;> exact ⟨rfl, rfl, rfl, rfl, rfl, rfl, rfl⟩
theorem growC_num {V : Vm} {L : List Nd} {r : Cr} (h : CmI V L r) (tt : Int) : KeepN V r tt (growC V L r tt).1 (growC V L r tt).2.1 (growC V L r tt).2.2.1 := by
 by_cases he : (growC V L r tt).2.1 = 0
 ·obtain ⟨a, b⟩ := growC_live he
  exact ⟨by rw [a]; exact b, growC_plan V L r tt, fun _ => a, fun h => absurd he h⟩
 ·obtain ⟨⟨K, e, hk⟩, h2, h3⟩ := growC_keeps h tt he
  have hl : (growC V L r tt).1.live = r.live := by rw [e]
  refine ⟨by rw [hl]; exact Int.le_refl _, growC_plan V L r tt, fun h => absurd h he, fun _ => ⟨hl, by rw [e]; exact hk, h2, h3⟩⟩
theorem keep_bytes {V sV : Vm} {L sL : List Nd} {r sr : Cr} {tt se : Int} (h : CmI V L r) (hg : CmI sV sL sr) (ho : CrOk r) (hK : KeepN V r tt sr se sV) (hH : Hold V sV) : ∀ i, i < 8 * r.live.toNat → (byL sV (runsL sr.pg sr.n sr.f sr.bk sr.ev) sr.live.toNat).getD i 0 = (byL V (runsL r.pg r.n r.f r.bk r.ev) r.live.toNat).getD i 0 := fun i hi => by
 have hcl : r.cl = false := by
  cases hc : r.cl with
  | false => rfl
  | true => have := (ho.cl hc).1; rw [this] at hi; simp at hi
 obtain ⟨p1, p2, p3, p4, p5, _, p7⟩ := hK.plan
 have ho' : CrOk sr := by
  rcases hg.kept with e | e
  ·exfalso
   have := ho.n1
   rw [← p2, e] at this
   exact absurd this (by decide)
  ·exact e
 have e := byL_hold h hg ho hcl hH ⟨p1, p2, p3, p4, p5⟩ (by rw [p7]; exact hcl) hK.live ho'
 rw [p1, p2, p3, p4, p5, ← e]
 have hle : r.live.toNat ≤ sr.live.toNat := by have := hK.live; omega
 have hp := byL_pre sV (runsL r.pg r.n r.f r.bk r.ev) r.live.toNat (sr.live.toNat - r.live.toNat)
 rw [show r.live.toNat + (sr.live.toNat - r.live.toNat) = sr.live.toNat by omega] at hp
 exact pre_at hp (by rw [byL_len]; exact hi)
theorem hits_bound {s : Rf} (h : RfOk s) {k : Nat} (hk : k < 7) : 0 ≤ s.hits k ∧ s.hits k ≤ 1000000 := by
 have h1 := h.hits k hk
 have h2 := h.calls k hk
 have := hitN_bound s.rules k (s.calls k).toNat
 omega
theorem SysIs.hits {w : World} {b : Nat} {V : Vm} (h : SysIs w b V) : 0 ≤ V.rf.hits 3 ∧ V.rf.hits 3 ≤ 1000000 := hits_bound h.ok (by omega)
theorem BytAt.elem {W : World} {A : Option Addr} {xs : List Int} (h : BytAt W A xs) {i : Nat} (hi : i < xs.length) : ∃ b o, A = some ⟨b, o, none⟩ ∧ b < W.heap.size ∧ W.cell? ⟨b, o + i, none⟩ = some (.int .u8 (xs.getD i 0)) := by
 obtain ⟨b, o, e, hb, hc⟩ := h.rd i (by rw [List.length_map]; exact hi)
 refine ⟨b, o, e, hb, ?_⟩
 rw [hc, List.getElem_map, List.getD_eq_getElem?_getD, List.getElem?_eq_getElem hi]
 rfl
structure KpA (W : World) (g8 gh : Nat) (r : Cr) (A8 : Option Addr) (cap8 : Nat) (hs : Nat → Int) (A9 : Option Addr) (xs : List Int) : Prop where
 k8 : Blk W g8 43 (crC r (.slice A8 r.kept.length cap8))
 kr8 : KeptAt W A8 r.kept
 kh : Blk W gh 67 #[.int .i64 (hs 0), .int .i64 (hs 1), .int .i64 (hs 2), .int .i64 (hs 3), .int .i64 (hs 4), .int .i64 (hs 5), .int .i64 (hs 6)]
 byt : BytAt W A9 xs
section
variable {W W' : World} {g8 gh : Nat} {r : Cr} {A8 : Option Addr} {cap8 : Nat} {hs : Nat → Int} {A9 : Option Addr} {xs : List Int}
theorem KpA.far {T : Nat → Prop} (h : KpA W g8 gh r A8 cap8 hs A9 xs) (hF : Far T W W') (h8 : ¬ T g8) (hT : ∀ g t cs, Blk W g t cs → (t = 140 ∨ t = 67 ∨ t = 5) → ¬ T g) : KpA W' g8 gh r A8 cap8 hs A9 xs :=
 ⟨hF.blk h.k8 h8, h.kr8.far hF (fun g cs hg => hT g _ cs hg (.inl rfl)), hF.blk h.kh (hT _ _ _ h.kh (.inr (.inl rfl))), h.byt.far hF (fun g cs hg => hT g _ cs hg (.inr (.inr rfl)))⟩
theorem KpA.call (h : KpA W g8 gh r A8 cap8 hs A9 xs) (hb : Below W.heap.size W W') : KpA W' g8 gh r A8 cap8 hs A9 xs := h.far (T := fun _ => False) (Far.of_below hb) id (fun _ _ _ _ _ => id)
theorem KpA.both {bs bb : Nat} {V V0 : Vm} {L : List Nd} (h : KpA W g8 gh r A8 cap8 hs A9 xs) (T : BothTo bs bb V L W W') (h0 : SysIs W bs V0) : KpA W' g8 gh r A8 cap8 hs A9 xs :=
 h.far T.far (TwoT.not h0 h.k8 (by decide) (by decide)) (fun g t cs hg ht => TwoT.not h0 hg (by rcases ht with rfl | rfl | rfl <;> decide) (by rcases ht with rfl | rfl | rfl <;> decide))
end
end Go.Pol
namespace Go.Proofs.YtjmmgoijnhnnaaaGreat
open Go Go.Proofs Go.RowKit Go.Pol Go.Shelf Go.ChangeShapes Go.WideShapes Go.Deep
attribute [local go_sem] Oper.semAt_some Go.Pol.wide_fn Go.Pol.wide_depth Go.Pol.wide_fn' Go.Pol.wide_depth'
theorem fieldRf (v1 v2 v3 v4 : Value) (cs hs : Nat → Int) (W : World) : (Instr.field 87 (.agg (stC v1 v2 v3 v4 cs hs).toArray) 3).run Tryz.prog W = .ok (.agg (rfC v4 cs hs).toArray) W := by
 have u := Tryz.underlying87
 have a3 := Tryz.isAgg69
 have z3 := Tryz.sizeOf69
 unfold Instr.field
 simp only [Sem.run_bind, run_underlying u, Result.andThen_ok]
 simp [part, asAgg, Sem.run_bind, a3, z3, Result.andThen, stC, rfC]
theorem fieldHits (v4 : Value) (cs hs : Nat → Int) (W : World) : (Instr.field 69 (.agg (rfC v4 cs hs).toArray) 2).run Tryz.prog W = .ok (.agg #[.int .i64 (hs 0), .int .i64 (hs 1), .int .i64 (hs 2), .int .i64 (hs 3), .int .i64 (hs 4), .int .i64 (hs 5), .int .i64 (hs 6)]) W := by
 have u := Tryz.underlying69
 have a3 := Tryz.isAgg67
 have z3 := Tryz.sizeOf67
 unfold Instr.field
 simp only [Sem.run_bind, run_underlying u, Result.andThen_ok]
 simp [part, asAgg, Sem.run_bind, a3, z3, Result.andThen, rfC]
theorem idxHits (hs : Nat → Int) (W : World) : (Instr.index 67 (.agg #[.int .i64 (hs 0), .int .i64 (hs 1), .int .i64 (hs 2), .int .i64 (hs 3), .int .i64 (hs 4), .int .i64 (hs 5), .int .i64 (hs 6)]) (.int .i64 3)).run Tryz.prog W = .ok (.int .i64 (hs 3)) W := by
 have u := Tryz.underlying67
 have a3 := Tryz.isAgg3
 have z3 := Tryz.sizeOf3
 unfold Instr.index
 simp only [Sem.run_bind, run_underlying u, Result.andThen_ok]
 simp [go_sem, a3, z3, part, Sem.run_bind, Result.andThen]
set_option maxRecDepth 100000 in
set_option maxHeartbeats 6400000 in
theorem keepsLaw_any (A1 A2 : Option Addr) (n1 c1 n2 c2 : Nat) (pg n f bk ev lim tt : Int) (l : List Ru) (us : List (Int × Int)) (w : World) (hl : l.length = n1) (hr : Rd w w.heap.size A1 (fl ruC l)) (hz : A1 = none → c1 = 0) (hul : us.length = n2) (hA2 : Rd w w.heap.size A2 (fl acC us))
  (hus : ∀ x ∈ us, 0 ≤ x.1 ∧ x.1 ≤ 255 ∧ -9223372036854775808 ≤ x.2 ∧ x.2 ≤ 9223372036854775807) :
  Calls Tryz.prog 8 #[.agg #[.int .i64 pg, .int .i64 n, .int .i64 f, .int .i64 bk, .int .i64 ev, .int .i64 lim, .slice A1 n1 c1, .slice A2 n2 c2], .int .i64 tt] w fun e w' => e = .returned (.bool true) ∧ Below w.heap.size w w' := by
 have HFa := Lib.hid (fun W => far12_any A1 A2 n1 c1 n2 c2 pg n f bk ev lim W)
 have hb0 := (Below.refl w.heap.size w).alloc (Nat.le_refl _) (.cells #[.int .i64 pg, .int .i64 n, .int .i64 f, .int .i64 bk, .int .i64 ev, .int .i64 lim, .slice A1 n1 c1, .slice A2 n2 c2] 31)
 have k0 := Blk.new w 31 #[.int .i64 pg, .int .i64 n, .int .i64 f, .int .i64 bk, .int .i64 ev, .int .i64 lim, .slice A1 n1 c1, .slice A2 n2 c2]
 have hA2H := Lib.hid hA2
 have hulH := Lib.hid hul
 have husH := Lib.hid hus
 have hr0 := hr.on_ hb0
 obtain ⟨s, hs⟩ : ∃ s, w.heap.size = s := ⟨_, rfl⟩
 rw [hs] at k0
 clear hA2 hul hus hr
 by_cases hfar : ((decide (100 < n) || decide (30 < (n2 : Int))) || decide (60 < (n1 : Int))) = true
 ·rw [hfar] at HFa
  clear hfar
  go_enter Tryz.func8, Tryz.ntmps8
  go_upto_region 1 with fail
  generalize w.alloc _ = w0 at *
  try simp only [hs]
  have c0 := k0.cell
  go_wp2_with fail
  refine (HFa.out _).mono ?_
  rintro e w1 ⟨rfl, hb1⟩
  have B1 := hb0.trans (hb1.mono hb0.size)
  go_wp2_with fail
  refine (shown_any _).mono ?_
  rintro e w2 ⟨rfl, hb2⟩
  go_wp2_with fail
  go_ret
  exact ⟨rfl, B1.trans (hb2.mono B1.size)⟩
 have hfar' : ((decide (100 < n) || decide (30 < (n2 : Int))) || decide (60 < (n1 : Int))) = false := by simpa using hfar
 rw [hfar'] at HFa
 have hn1 : n1 ≤ 60 := by simp at hfar'; omega
 have hn2 : n2 ≤ 30 := by simp at hfar'; omega
 clear hfar hfar'
 have HPl := Lib.hid (fun W h => played_any A1 A2 n1 c1 n2 c2 pg n f bk ev lim l W hl (by omega) hz h)
 clear hl hz
 go_enter Tryz.func8, Tryz.ntmps8
 go_upto_region 1 with fail
 generalize w.alloc _ = w0 at *
 try simp only [hs]
 have c0 := k0.cell
 go_wp2_with fail
 refine (HFa.out _).mono ?_
 rintro e w1 ⟨rfl, hb1⟩
 have B1 := hb0.trans (hb1.mono hb0.size)
 have k1 := k0.call hb1
 have hr1 := hr0.on_ hb1
 have c1' := k1.cell
 clear c0 k0 hb0 hb1 hr0 HFa
 go_wp2_with fail
 refine (HPl.out _ hr1).mono ?_
 rintro e w2 ⟨hcase, hb2⟩
 have B2 := B1.trans (hb2.mono B1.size)
 have k2 := k1.call hb2
 have hB1 := B1.size
 have hk1s := k1.lt
 have hb2s := hb2.size
 clear c1' k1 hb2 hr1 HPl B1
 rcases hcase with rfl | ⟨y, bs, bb, V, L, rfl, hP⟩
 ·go_wp2_with fail
  refine (shown_any _).mono ?_
  rintro e w3 ⟨rfl, hb3⟩
  go_wp2_with fail
  go_ret
  exact ⟨rfl, B2.trans (hb3.mono B2.size)⟩
 obtain ⟨N, hN⟩ : ∃ N, w1.heap.size = N := ⟨_, rfl⟩
 rw [hN] at hP hB1
 have hsN : s < N := by rw [← hN]; exact hk1s
 have hNw2 : N ≤ w2.heap.size := by rw [← hN]; exact hb2s
 clear hN hb2s hk1s
 go_upto_region 7 with fail
 go_loopw [7] (fun u wr => ∃ (i : Nat) (V : Vm) (L : List Nd) (r : Cr), u = .int .i64 i ∧ i ≤ n2 ∧ PlyAt wr N y bs bb V L r ∧ Below w.heap.size w wr ∧ N ≤ wr.heap.size ∧ Blk wr s 31 #[.int .i64 pg, .int .i64 n, .int .i64 f, .int .i64 bk, .int .i64 ev, .int .i64 lim, .slice A1 n1 c1, .slice A2 n2 c2]) (fun u _ => n2 - (intOf u).toNat)
 case atStart => exact ⟨0, V, L, _, rfl, by omega, hP, B2, hNw2, k2⟩
 case round =>
  clear k2 B2 hP hNw2
  obtain ⟨i, V, L, r, rfl, hi, hP, hB, hNw, kp⟩ := hrel
  have cp := kp.cell
  obtain ⟨A, cap, ky, hk, hlen, hmax⟩ := hP.two
  have cy := ky.cell
  by_cases hrn : 0 < r.n
  ·have d2 : decide (0 < r.n) = true := by simpa using hrn
   by_cases hin : i < n2
   ·have d1 : decide ((i : Int) < (n2 : Int)) = true := by simpa using hin
    obtain ⟨ab, ao, rfl, hab, hac⟩ := (hA2H.out).elem acC_len (by omega) (0, 0) (k := i) (by have := hulH.out; omega)
    have hx := husH.out (us.getD i (0, 0)) (getD_mem _ (by have := hulH.out; omega))
    generalize us.getD i (0, 0) = x at *
    obtain ⟨xa, xb⟩ := x
    have x0 := (hB.cell (p := ⟨ab, ao + i * 2 + 0, none⟩) hab).trans (hac 0 _ rfl)
    have x1 := (hB.cell (p := ⟨ab, ao + i * 2 + 1, none⟩) hab).trans (hac 1 _ rfl)
    simp only [Nat.add_zero] at x0
    simp only at hx
    as_aux_lemma =>
     have HA := Lib.hid (alone_any N y bs bb V L r xa xb wr hP hNw ⟨hx.1, hx.2.1⟩ hx.2.2.1 hx.2.2.2)
     clear hac ky hk
     go_upto_region 9 with fail
     clear cy
     go_wp2_with fail
     refine HA.out.mono ?_
     rintro e w3 ⟨⟨er, rfl⟩, hP3, hb3⟩
     have kp3 : Blk w3 s 31 _ := (hb3.block s hsN).trans kp
     have B3 := hB.trans (hb3.mono (by omega))
     have hN3 : N ≤ w3.heap.size := Nat.le_trans hNw hb3.size
     generalize acF (V, L, r) (xa, xb) = S at *
     go_wp2_with fail
     go_roundw
     case rel => exact ⟨i + 1, S.1, S.2.1, S.2.2, by go_num, by omega, hP3, B3, hN3, kp3⟩
     case measure => simp [intOf]; omega
   ·have d1 : decide ((i : Int) < (n2 : Int)) = false := by simpa using hin
    have hne : (r.n == 0) = false := by simp; omega
    have ho : CrOk r := by
     rcases hP.inv.kept with h | h
     ·rw [h] at hrn; exact absurd hrn (by decide)
     ·exact h
    go_upto_region 12 with fail
    clear hne d1 d2 hin cp cy
    go_cut [8, 9] from 67 to 72 (fun s8 s9 W => ∃ (g A9 c9 : _), s8 = .pointer (some ⟨g, 0, none⟩) ∧ s9 = .slice A9 (8 * r.live.toNat) c9 ∧ Blk W g 43 (crC r (.slice A r.kept.length cap)) ∧ N ≤ g ∧ BytAt W A9 (byL V (runsL r.pg r.n r.f r.bk r.ev) r.live.toNat) ∧ Below wr.heap.size wr W)
    case first =>
     have HBy := Lib.hid (fun W h => bytes_any N y bs bb V L r W h)
     have hbd := (Below.refl wr.heap.size wr).drew
     have P1 := hP.call hbd
     have ky1 := ky.call hbd
     refine wp_noPanic ?_
     refine wp_region_T (TwR y bs bb r (.slice A r.kept.length cap)) [7, 8] (by kernel_rfl) ?_
     generalize wr.drew = wd at *
     have hS := TwR.of ky1
     dsimp only [TwR] at hS ⊢
     refine tkQ 0 hS ?_
     try simp only [Act.put, qsA, qsB, qsC]
     refine tkQ 1 hS ?_
     try simp only [Act.put, qsA, qsB, qsC]
     refine tkQ 2 hS ?_
     try simp only [Act.put, qsA, qsB, qsC]
     refine tkQ 3 hS ?_
     try simp only [Act.put, qsA, qsB, qsC]
     refine tkQ 4 hS ?_
     try simp only [Act.put, qsA, qsB, qsC]
     refine wpAnyT_ready (rs := [5, 6]) (by kernel_rfl) (by simp) ?_
     refine' AllReadyT.cons ?hic5ka (fun K hK => ?stc5ka) (AllReadyT.cons ?hic6ka (fun K hK => ?stc6ka) AllReadyT.nil)
     case hic5ka => (simp only [List.getElem?_toArray, List.getElem?_cons_succ, List.getElem?_cons_zero]; rfl)
     case hic6ka => (simp only [List.getElem?_toArray, List.getElem?_cons_succ, List.getElem?_cons_zero]; rfl)
     case stc5ka =>
      go_simp
      refine (HBy.out wd P1).mono ?_
      rintro e w2 ⟨⟨A9, c9, rfl, hrd, hc1, hc2⟩, hb2⟩
      have ky2 := ky1.call hb2
      refine hK.out _ _ (fun _ => TwR.of ky2) (fun hS => ?_)
      clear hK K
      replace hS := hS rfl
      try simp only [Act.put, qsA, qsB, qsC]
      refine tkR 6 fun K hK => ?_
      go_simp
      have kZ := Blk.new w2 43 (crC cr0 (.slice none 0 0))
      have hbz := (Below.refl w2.heap.size w2).alloc (Nat.le_refl _) (.cells (crC cr0 (.slice none 0 0)) 43)
      have ky3 := ky2.call hbz
      dsimp only [crC, cr0] at kZ ky3
      refine hK.out _ _ (fun _ => TwR.of ky3) (fun hS => ?_)
      clear hK K hS
      have cZ := kZ.cell
      have fZ := kZ.frozen
      try simp only [Act.put, qsA, qsB, qsC]
      refine tkR 7 fun K hK => ?_
      go_simp
      refine hK.out _ _ (fun h => absurd h (by decide)) (fun _ => ?_)
      clear hK K
      try simp only [Act.put, qsA, qsB, qsC]
      refine tkV 8 ?_
      try simp only [Act.put, qsA, qsB, qsC]
      refine wpAnyT_done (by kernel_rfl) ?_ _
      refine noPanic_normal ?_
      have kX := Blk.new w2 43 (crC r (.slice A r.kept.length cap))
      have hbx := (Below.refl w2.heap.size w2).alloc (Nat.le_refl _) (.cells (crC r (.slice A r.kept.length cap)) 43)
      have hgN : N ≤ w2.heap.size := Nat.le_trans hNw (Nat.le_trans hbd.size hb2.size)
      have hrd2 := hrd.call hbx
      have hbA := hbd.trans (hb2.mono hbd.size) |>.trans (hbx.mono (Nat.le_trans hbd.size hb2.size))
      go_wp2_with fail
      go_meet
      case rel => exact ⟨w2.heap.size, A9, c9, rfl, rfl, kX, hgN, hrd2, hbA⟩
     case stc6ka =>
      go_simp
      have kZ := Blk.new wd 43 (crC cr0 (.slice none 0 0))
      have hbz := (Below.refl wd.heap.size wd).alloc (Nat.le_refl _) (.cells (crC cr0 (.slice none 0 0)) 43)
      have P2 := P1.call hbz
      have ky2 := ky1.call hbz
      dsimp only [crC, cr0] at kZ ky2 P2 hbz
      refine hK.out _ _ (fun _ => TwR.of ky2) (fun hS => ?_)
      clear hK K
      replace hS := hS rfl
      obtain ⟨gz, hgz⟩ : ∃ gz, wd.heap.size = gz := ⟨_, rfl⟩
      have hgN : N ≤ gz := by rw [← hgz]; exact Nat.le_trans hNw hbd.size
      rw [hgz] at kZ
      generalize wd.alloc _ = w2 at *
      try simp only [Act.put, qsA, qsB, qsC]
      refine tkR 5 fun K hK => ?_
      go_simp
      refine (HBy.out w2 P2).mono ?_
      rintro e w3 ⟨⟨A9, c9, rfl, hrd, hc1, hc2⟩, hb3⟩
      have ky3 := ky2.call hb3
      have kZ3 := kZ.call hb3
      refine hK.out _ _ (fun _ => TwR.of ky3) (fun hS => ?_)
      clear hK K hS
      have cZ := kZ3.cell
      have fZ := kZ3.frozen
      try simp only [Act.put, qsA, qsB, qsC]
      refine tkR 7 fun K hK => ?_
      go_simp
      refine hK.out _ (put9 w3 gz r (.slice A r.kept.length cap)) (fun h => absurd h (by decide)) (fun _ => ?_)
      clear hK K
      try simp only [Act.put, qsA, qsB, qsC]
      refine tkV 8 ?_
      try simp only [Act.put, qsA, qsB, qsC]
      refine wpAnyT_done (by kernel_rfl) ?_ _
      refine noPanic_normal ?_
      have kX := put9_blk kZ3 r (.slice A r.kept.length cap)
      have hbA := put9_below ((hbd.trans (hbz.mono hbd.size)).trans (hb3.mono (Nat.le_trans hbd.size hbz.size))) (g := gz) (by rw [← hgz]; exact hbd.size) r (.slice A r.kept.length cap)
      have hrd2 := hrd.far (put9_far w3 gz r (.slice A r.kept.length cap)) (fun g cs hg e => by have e : g = gz := e; subst e; exact hg.ne kZ3 (by decide))
      go_wp2_with fail
      go_meet
      case rel => exact ⟨gz, A9, c9, rfl, rfl, kX, hgN, hrd2, hbA⟩
    case rest =>
     obtain ⟨g8, A9, c9, rfl, rfl, k8, hg8, hrd9, hbc⟩ := hcut
     have hP1 := hP.call hbc
     have kp1 := kp.call hbc
     have B1 := hB.trans (hbc.mono hB.size)
     have hN1 := Nat.le_trans hNw hbc.size
     have hGn := Lib.hid (growC_num hP.inv tt)
     have hGi := Lib.hid (hP.inv.grow tt)
     have hGb := Lib.hid (Hold.grow hP.inv.pln L r tt)
     have hinv := Lib.hid hP.inv
     have HU := Lib.hid (fun W h => usedB_any bb 1 L W h hinv.out.bok (by rw [hinv.out.two]; decide))
     have HG := Lib.hid (fun W A cap hcap hcm h1 h2 h3 => cmGrow_any bs bb V L r tt A cap W h1 hinv.out.kindOk h2 hinv.out.bok (hnl_of hinv.out) hcap hcm h3)
     rw [show ((1 : Nat) : Int) = 1 from rfl] at HU
     have hown := Lib.hid hinv.out.own
     have hmany := Lib.hid hinv.out.many
     obtain ⟨ow, how⟩ : ∃ ow, (L.getD 1 nd0).own = ow := ⟨_, rfl⟩
     rw [how] at HU hown
     clear how
     generalize growC V L r tt = S at *
     obtain ⟨sr, se, sV, sL⟩ := S
     simp only at hGn hGi hGb HG
     have hk81 := hk.call hbc
     obtain ⟨A8, hA8⟩ : ∃ A8, A = A8 := ⟨_, rfl⟩
     obtain ⟨cap8, hcap8⟩ : ∃ cap8, cap = cap8 := ⟨_, rfl⟩
     rw [hA8, hcap8] at k8
     rw [hA8] at hk81
     obtain ⟨A, cap, ky, hk, hlen, hmax⟩ := hP1.two
     have cy := ky.cell
     clear hP kp hB hNw hbc
     go_wp2_with fail
     refine (HU.out wc hP1.bud).mono ?_
     rintro e w1 ⟨rfl, hb1⟩
     have hP2 := hP1.call hb1
     have k82 := k8.call hb1
     have hk82 := hk81.call hb1
     have hrd2 := hrd9.call hb1
     have B2 := B1.trans (hb1.mono B1.size)
     have hN2 := Nat.le_trans hN1 hb1.size
     obtain ⟨A, cap, ky2, hk2, hlen, hmax⟩ := hP2.two
     have cy2 := ky2.cell
     clear hP1 kp1 k8 hrd9 B1 hN1 hb1 cy
     go_wp2_with fail
     refine (save_any bs V w1 hP2.sys).mono ?_
     rintro e w2 ⟨X, rfl, hX, hb2⟩
     obtain ⟨X1, X2, X3, X4, x1, y1, x2, y2, x3, y3, x4, y4, rfl, _⟩ := hX.ex
     have hP3 := hP2.call hb2
     have k83 := k82.call hb2
     have hk83 := hk82.call hb2
     have hrd3 := hrd2.call hb2
     have B3 := B2.trans (hb2.mono B2.size)
     have hN3 := Nat.le_trans hN2 hb2.size
     clear hP2 k82 hrd2 B2 hN2 hb2 cy2 hX
     have hf1 := fun W => fieldRf (.slice X1 x1 y1) (.slice X2 x2 y2) (.slice X3 x3 y3) (.slice X4 x4 y4) V.rf.calls V.rf.hits W
     have hf2 := fun W => fieldHits (.slice X4 x4 y4) V.rf.calls V.rf.hits W
     generalize (stC (.slice X1 x1 y1) (.slice X2 x2 y2) (.slice X3 x3 y3) (.slice X4 x4 y4) V.rf.calls V.rf.hits).toArray = ST at *
     generalize (rfC (.slice X4 x4 y4) V.rf.calls V.rf.hits).toArray = RT at *
     go_upto_region 15 with fail
     have hba := (Below.refl w2.heap.size w2).alloc (Nat.le_refl _) (.cells #[.int .i64 (V.rf.hits 0), .int .i64 (V.rf.hits 1), .int .i64 (V.rf.hits 2), .int .i64 (V.rf.hits 3), .int .i64 (V.rf.hits 4), .int .i64 (V.rf.hits 5), .int .i64 (V.rf.hits 6)] 67)
     have kh := Blk.new w2 67 #[.int .i64 (V.rf.hits 0), .int .i64 (V.rf.hits 1), .int .i64 (V.rf.hits 2), .int .i64 (V.rf.hits 3), .int .i64 (V.rf.hits 4), .int .i64 (V.rf.hits 5), .int .i64 (V.rf.hits 6)]
     obtain ⟨gh, hgh⟩ : ∃ gh, w2.heap.size = gh := ⟨_, rfl⟩
     have hP4 := hP3.call hba
     have KA : KpA _ g8 gh r A8 cap8 V.rf.hits A9 _ := ⟨k83.call hba, hk83.call hba, by rw [← hgh]; exact kh, hrd3.call hba⟩
     have B4 := B3.trans (hba.mono B3.size)
     have hN4 := Nat.le_trans hN3 hba.size
     clear hP3 k83 hk83 hrd3 B3 hN3 hba kh hf1 hf2
     generalize w2.alloc _ = w4 at *
     try simp only [hgh]
     obtain ⟨A, cap, ky, hk, hlen, hmax⟩ := hP4.two
     generalize hxs : byL V (runsL r.pg r.n r.f r.bk r.ev) r.live.toNat = xs at *
     go_cut [13, 14] from 89 to 105 (fun s13 s14 W => ∃ (g A2 c2 : _), s13 = .pointer (some ⟨g, 0, none⟩) ∧ s14 = .int .i64 se ∧ Blk W g 43 (crC sr (.slice A2 sr.kept.length c2)) ∧ KeptAt W A2 sr.kept ∧ sr.kept.length ≤ c2 ∧ c2 ≤ maxLen ∧ SysIs W bs sV ∧ BudIs W bb sL ∧ Blk W y 49 (twC (some ⟨bs, 0, none⟩) (some ⟨bb, 0, none⟩) r (.slice A r.kept.length cap)) ∧ KpA W g8 gh r A8 cap8 V.rf.hits A9 xs ∧ Below w.heap.size w W ∧ N ≤ W.heap.size)
     case first =>
      have hbd := (Below.refl w4.heap.size w4).drew
      have P1 := hP4.call hbd
      have ky1 := ky.call hbd
      have hk1 := hk.call hbd
      have KA1 := KA.call hbd
      have B5 := B4.trans (hbd.mono B4.size)
      have hN5 := Nat.le_trans hN4 hbd.size
      refine wp_noPanic ?_
      refine wp_region_T (TwR y bs bb r (.slice A r.kept.length cap)) [16, 18, 19] (by kernel_rfl) ?_
      generalize w4.drew = wd at *
      have hS := TwR.of ky1
      dsimp only [TwR] at hS ⊢
      clear hP4 KA B4 hN4 ky hk hbd
      refine tkQ 0 hS ?_
      try simp only [Act.put, qsA, qsB, qsC]
      refine tkQ 1 hS ?_
      try simp only [Act.put, qsA, qsB, qsC]
      refine tkQ 2 hS ?_
      try simp only [Act.put, qsA, qsB, qsC]
      refine tkQ 3 hS ?_
      try simp only [Act.put, qsA, qsB, qsC]
      refine tkQ 4 hS ?_
      try simp only [Act.put, qsA, qsB, qsC]
      refine tkQ 5 hS ?_
      try simp only [Act.put, qsA, qsB, qsC]
      refine tkQ 6 hS ?_
      try simp only [Act.put, qsA, qsB, qsC]
      refine tkQ 7 hS ?_
      try simp only [Act.put, qsA, qsB, qsC]
      refine tkQ 8 hS ?_
      try simp only [Act.put, qsA, qsB, qsC]
      refine tkQ 9 hS ?_
      try simp only [Act.put, qsA, qsB, qsC]
      refine tkQ 10 hS ?_
      try simp only [Act.put, qsA, qsB, qsC]
      refine tkQ 11 hS ?_
      try simp only [Act.put, qsA, qsB, qsC]
      refine tkQ 12 hS ?_
      try simp only [Act.put, qsA, qsB, qsC]
      refine wpAnyT_ready (rs := [13, 17]) (by kernel_rfl) (by simp) ?_
      refine' AllReadyT.cons ?hic13kd (fun K hK => ?stc13kd) (AllReadyT.cons ?hic17kd (fun K hK => ?stc17kd) AllReadyT.nil)
      case hic13kd => (simp only [List.getElem?_toArray, List.getElem?_cons_succ, List.getElem?_cons_zero]; rfl)
      case hic17kd => (simp only [List.getElem?_toArray, List.getElem?_cons_succ, List.getElem?_cons_zero]; rfl)
      case stc13kd =>
       go_simp
       refine (HG.out wd A cap hlen hmax P1.sys P1.bud hk1).mono ?_
       rintro e w5 ⟨v5, rfl, ⟨A5, c5, rfl, hl5, hm5, hk5⟩, T5⟩
       have ky5 := T5.blk P1.sys ky1 (by decide) (by decide)
       have KA5 := KA1.both T5 P1.sys
       have B6 := B5.trans (T5.far.below (by have := B5.size; omega) (fun k hk e => by have := P1.lo; rcases e with rfl | ⟨e, _⟩ <;> omega))
       have hN6 := Nat.le_trans hN5 T5.size
       refine hK.out _ _ (fun _ => TwR.of ky5) (fun hS => ?_)
       clear hK K
       replace hS := hS rfl
       try simp only [Act.put, qsA, qsB, qsC]
       clear KA1 B5 hN5 ky1
       refine tkQ 14 hS ?_
       try simp only [Act.put, qsA, qsB, qsC]
       refine tkV 16 ?_
       try simp only [Act.put, qsA, qsB, qsC]
       refine tkL 15 hS ?_
       try simp only [Act.put, qsA, qsB, qsC]
       refine tkR 17 fun K hK => ?_
       go_simp
       have kZ := Blk.new w5 43 (crC cr0 (.slice none 0 0))
       have hbz := (Below.refl w5.heap.size w5).alloc (Nat.le_refl _) (.cells (crC cr0 (.slice none 0 0)) 43)
       have ky6 := ky5.call hbz
       dsimp only [crC, cr0] at kZ ky6
       refine hK.out _ _ (fun _ => TwR.of ky6) (fun hS => ?_)
       clear hK K hS
       have cZ := kZ.cell
       have fZ := kZ.frozen
       try simp only [Act.put, qsA, qsB, qsC]
       refine tkR 18 fun K hK => ?_
       go_simp
       refine hK.out _ _ (fun h => absurd h (by decide)) (fun _ => ?_)
       clear hK K
       try simp only [Act.put, qsA, qsB, qsC]
       refine tkV 19 ?_
       try simp only [Act.put, qsA, qsB, qsC]
       refine wpAnyT_done (by kernel_rfl) ?_ _
       refine noPanic_normal ?_
       have kX := Blk.new w5 43 (crC sr (.slice A5 sr.kept.length c5))
       have hbx := (Below.refl w5.heap.size w5).alloc (Nat.le_refl _) (.cells (crC sr (.slice A5 sr.kept.length c5)) 43)
       go_wp2_with fail
       go_meet
       case rel => exact ⟨w5.heap.size, A5, c5, rfl, rfl, kX, hk5.call hbx, hl5, hm5, T5.sys.call hbx, T5.bud.call hbx, ky5.call hbx, KA5.call hbx, B6.trans (hbx.mono B6.size), Nat.le_trans hN6 hbx.size⟩
      case stc17kd =>
       go_simp
       have kZ := Blk.new wd 43 (crC cr0 (.slice none 0 0))
       have hbz := (Below.refl wd.heap.size wd).alloc (Nat.le_refl _) (.cells (crC cr0 (.slice none 0 0)) 43)
       have P2 := P1.call hbz
       have ky2 := ky1.call hbz
       have hk2 := hk1.call hbz
       have KA2 := KA1.call hbz
       have B6 := B5.trans (hbz.mono B5.size)
       have hN6 := Nat.le_trans hN5 hbz.size
       dsimp only [crC, cr0] at kZ ky2 P2 hk2 KA2 B6 hN6
       refine hK.out _ _ (fun _ => TwR.of ky2) (fun hS => ?_)
       clear hK K
       replace hS := hS rfl
       obtain ⟨gz, hgz⟩ : ∃ gz, wd.heap.size = gz := ⟨_, rfl⟩
       have hgw : w.heap.size ≤ gz := by rw [← hgz]; exact B5.size
       have hyz : y ≠ gz := by have := ky1.lt; omega
       have hg8z : g8 ≠ gz := by have := KA1.k8.lt; omega
       rw [hgz] at kZ
       clear P1 ky1 hk1 KA1 B5 hN5 hbz
       generalize wd.alloc _ = w2' at *
       try simp only [Act.put, qsA, qsB, qsC]
       refine tkR 13 fun K hK => ?_
       go_simp
       refine (HG.out w2' A cap hlen hmax P2.sys P2.bud hk2).mono ?_
       rintro e w5 ⟨v5, rfl, ⟨A5, c5, rfl, hl5, hm5, hk5⟩, T5⟩
       have ky5 := T5.blk P2.sys ky2 (by decide) (by decide)
       have kZ5 := T5.blk P2.sys kZ (by decide) (by decide)
       have KA5 := KA2.both T5 P2.sys
       have B7 := B6.trans (T5.far.below (by have := B6.size; omega) (fun k hk e => by have := P2.lo; rcases e with rfl | ⟨e, _⟩ <;> omega))
       have hN7 := Nat.le_trans hN6 T5.size
       refine hK.out _ _ (fun _ => TwR.of ky5) (fun hS => ?_)
       clear hK K
       replace hS := hS rfl
       have cZ := kZ5.cell
       have fZ := kZ5.frozen
       try simp only [Act.put, qsA, qsB, qsC]
       refine tkQ 14 hS ?_
       try simp only [Act.put, qsA, qsB, qsC]
       refine tkV 16 ?_
       try simp only [Act.put, qsA, qsB, qsC]
       refine tkL 15 hS ?_
       try simp only [Act.put, qsA, qsB, qsC]
       refine tkR 18 fun K hK => ?_
       go_simp
       refine hK.out _ (put9 w5 gz sr (.slice A5 sr.kept.length c5)) (fun h => absurd h (by decide)) (fun _ => ?_)
       clear hK K
       try simp only [Act.put, qsA, qsB, qsC]
       refine tkV 19 ?_
       try simp only [Act.put, qsA, qsB, qsC]
       refine wpAnyT_done (by kernel_rfl) ?_ _
       refine noPanic_normal ?_
       have F9 := put9_far w5 gz sr (.slice A5 sr.kept.length c5)
       have kX := put9_blk kZ5 sr (.slice A5 sr.kept.length c5)
       have hty : ∀ g t cs, Blk w5 g t cs → t ≠ 43 → ¬ g = gz := fun g t cs hg ht e => by subst e; exact hg.ne kZ5 ht
       go_wp2_with fail
       go_meet
       case rel => exact ⟨gz, A5, c5, rfl, rfl, kX, hk5.far F9 (fun g cs hg => hty g _ cs hg (by decide)), hl5, hm5, T5.sys.far F9 (by obtain ⟨cv, hcv⟩ := T5.sys.typed; exact hty _ _ _ hcv (by decide)) (fun _ _ _ _ _ _ q _ _ _ ⟨_, hq⟩ => hty _ _ _ hq (by decide)), T5.bud.far F9 (by obtain ⟨_, _, kq, _⟩ := T5.bud.ex; exact hty _ _ _ kq (by decide)) (fun q ⟨_, _, hq⟩ => hty _ _ _ hq (by decide)), F9.blk ky5 hyz, KA5.far F9 hg8z (fun g t cs hg ht => hty g t cs hg (by rcases ht with rfl | rfl | rfl <;> decide)), B7.trans (F9.below B7.size (fun k hk e => by have e : k = gz := e; omega)), Nat.le_trans hN7 F9.size⟩
     case rest =>
      have hlo := hP4.lo
      have hh0 := SysIs.hits hP4.sys
      clear hP4 KA B4 hN4 ky hk HG HU
      obtain ⟨g13, A5, c5, rfl, rfl, k13, hk5, hl5, hm5, V5, Bu5, ky5, KA5, B5, hN5⟩ := hcut
      have c13 := k13.cell
      have cy5 := ky5.cell
      have fy5 := ky5.frozen
      go_upto_region 17 with fail
      have F6 := putT_far wc y sr (.slice A5 sr.kept.length c5)
      have ky6 := putT_blk ky5 sr (.slice A5 sr.kept.length c5)
      have hty : ∀ g t cs, Blk wc g t cs → t ≠ 49 → ¬ g = y := fun g t cs hg ht e => by subst e; exact hg.ne ky5 ht
      have k136 := F6.blk k13 (hty _ _ _ k13 (by decide))
      have hk56 := hk5.far F6 (fun g cs hg => hty g _ cs hg (by decide))
      have KA6 := KA5.far F6 (hty _ _ _ KA5.k8 (by decide)) (fun g t cs hg ht => hty g t cs hg (by rcases ht with rfl | rfl | rfl <;> decide))
      have hP6 : PlyAt (putT wc y sr (.slice A5 sr.kept.length c5)) N y bs bb sV sL sr := ⟨V5.far F6 (by obtain ⟨cv, hcv⟩ := V5.typed; exact hty _ _ _ hcv (by decide)) (fun _ _ _ _ _ _ q _ _ _ ⟨_, hq⟩ => hty _ _ _ hq (by decide)), Bu5.far F6 (by obtain ⟨_, _, kq, _⟩ := Bu5.ex; exact hty _ _ _ kq (by decide)) (fun q ⟨_, _, hq⟩ => hty _ _ _ hq (by decide)), ⟨A5, c5, ky6, hk56, hl5, hm5⟩, hlo, hGi.out⟩
      have B6 := B5.trans (F6.below B5.size (fun k hk e => by have e : k = y := e; have := hlo.1; omega))
      have hN6 := Nat.le_trans hN5 F6.size
      change Code.wp _ _ _ _ (putT wc y sr (.slice A5 sr.kept.length c5))
      generalize putT wc y sr (.slice A5 sr.kept.length c5) = w6 at *
      have hh1 := SysIs.hits V5
      have HU := Lib.hid (fun W h => usedB_any bb 1 sL W h hGi.out.bok (by rw [hGi.out.two]; decide))
      rw [show ((1 : Nat) : Int) = 1 from rfl] at HU
      have hown2 := Lib.hid hGi.out.own
      have hmany2 := Lib.hid hGi.out.many
      obtain ⟨ow2, how2⟩ : ∃ ow2, (sL.getD 1 nd0).own = ow2 := ⟨_, rfl⟩
      rw [how2] at HU hown2
      have cy6 := ky6.cell
      clear how2 c13 cy5 fy5 k13 hk5 V5 Bu5 ky5 KA5 B5 hN5 F6 hty
      go_wp2_with fail
      refine (HU.out w6 hP6.bud).mono ?_
      rintro e w7 ⟨rfl, hb7⟩
      have hP7 := hP6.call hb7
      have KA7 := KA6.call hb7
      have k137 := k136.call hb7
      have hk57 := hk56.call hb7
      have B7 := B6.trans (hb7.mono B6.size)
      clear hP6 KA6 k136 hk56 B6 hN6 hb7 HU cy6 ky6
      go_wp2_with fail
      refine (fit_any N y bs bb _ _ _ w7 hP7).mono ?_
      rintro e w8 ⟨rfl, hb8⟩
      have hP8 := hP7.call hb8
      have KA8 := KA7.call hb8
      have k138 := k137.call hb8
      have hk58 := hk57.call hb8
      have B8 := B7.trans (hb8.mono B7.size)
      clear hP7 KA7 k137 hk57 B7 hb8
      go_wp2_with fail
      refine (bytes_any N y bs bb _ _ _ w8 hP8).mono ?_
      rintro e w9 ⟨⟨A20, c20, rfl, hby20, hc20, hc20m⟩, hb9⟩
      have hP9 := hP8.call hb9
      have KA9 := KA8.call hb9
      have k139 := k138.call hb9
      have hk59 := hk58.call hb9
      have B9 := B8.trans (hb9.mono B8.size)
      clear hP8 KA8 k138 hk58 B8 hb9
      have heqb := Lib.hid (keep_bytes hinv.out hGi.out ho hGn.out hGb.out)
      have hlx : Hid (xs.length = 8 * r.live.toNat) := Lib.hid (by rw [← hxs, byL_len])
      rw [hxs] at heqb
      have hly := Lib.hid (byL_len sV (runsL sr.pg sr.n sr.f sr.bk sr.ev) sr.live.toNat)
      generalize byL sV (runsL sr.pg sr.n sr.f sr.bk sr.ev) sr.live.toNat = ys at *
      have hm12 : 8 * r.live.toNat ≤ 8 * sr.live.toNat := by have := hGn.out.live; omega
      have hm13 : 8 * sr.live.toNat ≤ 9223372036854775807 := by unfold maxLen at hc20m; omega
      obtain ⟨m1, hm1⟩ : ∃ m1, 8 * r.live.toNat = m1 := ⟨_, rfl⟩
      obtain ⟨m2, hm2⟩ : ∃ m2, 8 * sr.live.toNat = m2 := ⟨_, rfl⟩
      simp only [hm1, hm2] at *
      clear hm1 hm2 hxs hc20 hc20m hGb hGi
      have dm : decide ((m2 : Int) < (m1 : Int)) = false := by simp; omega
      go_upto_region 24 with fail
      go_loopw [19] (fun u wr => ∃ i : Nat, u = .int .i64 i ∧ i ≤ m1 ∧ Below w9.heap.size w9 wr) (fun u _ => m1 - (intOf u).toNat)
      case atStart => exact ⟨0, rfl, by omega, Below.refl _ _⟩
      case round =>
       obtain ⟨i, rfl, him, hBr⟩ := hrel
       by_cases hlt : i < m1
       ·have d1 : decide ((i : Int) < (m1 : Int)) = true := by simpa using hlt
        obtain ⟨b1, o1, rfl, hb1, e1⟩ := (KA9.call hBr).byt.elem (i := i) (by rw [hlx.out]; exact hlt)
        obtain ⟨b2, o2, rfl, hb2, e2⟩ := (hby20.call hBr).elem (i := i) (by rw [hly.out]; omega)
        rw [heqb.out i hlt] at e2
        generalize xs.getD i 0 = x at *
        have q1 := fun z : Ext wr => z.cell e1
        have q2 := fun z : Ext wr => z.cell e2
        go_upto_region 26 with fail
        refine region_ext (by kernel_rfl) (by kernel_rfl) ?_
        repeat (go_big_quiet_step (fail))
        refine wpQuiet_nil ?_
        rintro w10 ⟨⟨_, hw10⟩, rfl⟩
        go_wp2_with fail
        go_roundw
        case rel => exact ⟨i + 1, by go_num, by omega, hBr.trans (hw10.mono hBr.size)⟩
        case measure => simp [intOf]; omega
       ·obtain rfl : i = m1 := by omega
        have d1 : decide ((i : Int) < (i : Int)) = false := by simp
        have hPx := hP9.call hBr
        have KAx := KA9.call hBr
        have k13x := k139.call hBr
        have hk5x := hk59.call hBr
        have Bx := B9.trans (hBr.mono B9.size)
        have c13 := k13x.cell
        by_cases hse : se = 0
        ·have hz : (se == 0) = true := by simpa using hse
         have ht : (sr.live == tt) = true := by simpa using hGn.out.ok hse
         clear hse
         go_wp2_with fail
         refine (shown_any _).mono ?_
         rintro e w10 ⟨rfl, hb10⟩
         go_wp2_with fail
         go_ret
         exact ⟨rfl, Bx.trans (hb10.mono Bx.size)⟩
        ·have hz : (se == 0) = false := by simpa using hse
         go_upto_region 30 with fail
         have hbd := (Below.refl wr.heap.size wr).drew
         have hP10 := hPx.call hbd
         have KA10 := KAx.call hbd
         have k1310 := k13x.call hbd
         have hk510 := hk5x.call hbd
         have B10 := Bx.trans (hbd.mono Bx.size)
         obtain ⟨A, cap, ky10, _, _, _⟩ := hP10.two
         refine wp_noPanic ?_
         refine wp_region_T (fun W => W.cell? ⟨gh, 3, none⟩ = some (.int .i64 (V.rf.hits 3)) ∧ W.cell? ⟨y, 0, none⟩ = some (.pointer (some ⟨bs, 0, none⟩))) [] (by kernel_rfl) ?_
         generalize wr.drew = wd at *
         have hS : wd.cell? ⟨gh, 3, none⟩ = some (.int .i64 (V.rf.hits 3)) ∧ wd.cell? ⟨y, 0, none⟩ = some (.pointer (some ⟨bs, 0, none⟩)) := ⟨KA10.kh.cell 3, ky10.cell 0⟩
         clear hPx KAx k13x hk5x Bx hbd hP9 KA9 k139 hk59 B9 hBr c13
         refine tkQ 0 hS ?_
         try simp only [Act.put, qsA, qsB, qsC]
         refine tkQ 1 hS ?_
         try simp only [Act.put, qsA, qsB, qsC]
         refine tkQ 2 hS ?_
         try simp only [Act.put, qsA, qsB, qsC]
         refine tkQ 3 hS ?_
         try simp only [Act.put, qsA, qsB, qsC]
         refine tkQ 8 hS ?_
         try simp only [Act.put, qsA, qsB, qsC]
         refine tkQ 9 hS ?_
         try simp only [Act.put, qsA, qsB, qsC]
         refine tkR 4 fun K hK => ?_
         go_simp
         refine (save_any bs sV wd hP10.sys).mono ?_
         rintro e w11 ⟨X, rfl, hX, hb11⟩
         obtain ⟨X1, X2, X3, X4, x1, y1, x2, y2, x3, y3, x4, y4, rfl, _⟩ := hX.ex
         refine hK.out _ _ (fun _ => ⟨(KA10.kh.call hb11).cell 3, (ky10.call hb11).cell 0⟩) (fun hS => ?_)
         clear hK K hX
         replace hS := hS rfl
         have hf1 := fun W => fieldRf (.slice X1 x1 y1) (.slice X2 x2 y2) (.slice X3 x3 y3) (.slice X4 x4 y4) sV.rf.calls sV.rf.hits W
         have hf2 := fun W => fieldHits (.slice X4 x4 y4) sV.rf.calls sV.rf.hits W
         have hf3 := fun W => idxHits sV.rf.hits W
         generalize (stC (.slice X1 x1 y1) (.slice X2 x2 y2) (.slice X3 x3 y3) (.slice X4 x4 y4) sV.rf.calls sV.rf.hits).toArray = ST at *
         generalize (rfC (.slice X4 x4 y4) sV.rf.calls sV.rf.hits).toArray = RT at *
         try simp only [Act.put, qsA, qsB, qsC]
         refine tkQ 5 hS ?_
         try simp only [Act.put, qsA, qsB, qsC]
         refine tkQ 6 hS ?_
         try simp only [Act.put, qsA, qsB, qsC]
         refine tkQ 7 hS ?_
         try simp only [Act.put, qsA, qsB, qsC]
         refine tkQ 10 hS ?_
         try simp only [Act.put, qsA, qsB, qsC]
         refine tkQ 11 hS ?_
         refine wpAnyT_done (by kernel_rfl) ?_ _
         refine noPanic_normal ?_
         have hP11 := hP10.call hb11
         have KA11 := KA10.call hb11
         have k1311 := k1310.call hb11
         have hk511 := hk510.call hb11
         have B11 := B10.trans (hb11.mono B10.size)
         have hno := Lib.hid (hGn.out.no hse)
         have hwr : IntKind.i64.wrap (sV.rf.hits 3 - V.rf.hits 3) = sV.rf.hits 3 - V.rf.hits 3 := IntWalk.i64_in _ (by omega)
         rw [hwr]
         clear hwr hf1 hf2 hf3 hP10 KA10 k1310 hk510 B10 hS ky10
         obtain ⟨mn, hmn⟩ : ∃ mn, sV.rf.hits 3 - V.rf.hits 3 = mn := ⟨_, rfl⟩
         rw [hmn]
         have hmnH := Lib.hid hmn
         obtain ⟨p1, p2, p3, p4, p5, p6, p7⟩ := hGn.out.plan
         dsimp only [crC] at k1311
         rw [p1, p2, p3, p4, p5, p6, p7, hno.out.1] at k1311
         clear p1 p2 p3 p4 p5 p6 p7
         have c8 := KA11.k8.cell
         have c13 := k1311.cell
         have hqp := fun W => eqPlan r.pg r.n r.f r.bk r.ev W
         have e1 : (r.live == r.live) = true := by simp
         have e2 : (r.node == r.node) = true := by simp
         have hge : decide (ow ≤ ow2) = true := by
          have h1 := hown.out; have h2 := hmany.out; have h3 := hown2.out; have h4 := hmany2.out; have h5 := hno.out
          simp
          omega
         by_cases hpos : 0 < mn
         ·have d5 : decide (0 < mn) = true := by simpa using hpos
          cases hoe : (ow2 == ow) with
          | true =>
           clear hpos hmn
           go_wp2_with fail
           refine (shown_any _).mono ?_
           rintro e w12 ⟨rfl, hb12⟩
           go_wp2_with fail
           go_ret
           exact ⟨rfl, B11.trans (hb12.mono B11.size)⟩
          | false =>
           clear hpos hmn
           go_wp2_with fail
           refine (shown_any _).mono ?_
           rintro e w12 ⟨rfl, hb12⟩
           go_wp2_with fail
           go_ret
           exact ⟨rfl, B11.trans (hb12.mono B11.size)⟩
         ·have d5 : decide (0 < mn) = false := by simpa using hpos
          have hsr : sr = r := by
           rcases hno.out.2.2.2 with h | h
           ·exact h
           ·have := hmnH.out; omega
          have how : ow2 = ow := by
           have h1 := hown.out; have h2 := hmany.out; have h3 := hown2.out; have h4 := hmany2.out
           rw [hsr] at h4
           omega
          subst how
          have hoe : (ow2 == ow2) = true := by simp
          clear hpos hmn c13
          rw [hsr] at k1311 hk511
          have c13 := k1311.cell
          have hkm : r.kept.length ≤ maxLen := by rw [← hsr]; exact Nat.le_trans hl5 hm5
          have HS := Lib.hid (fun W h1 h2 => same12_any r A5 A8 c5 cap8 W hkm h1 h2)
          dsimp only [crC] at HS
          clear hsr
          go_wp2_with fail
          refine (HS.out w11 hk511.ru KA11.kr8.ru).mono ?_
          rintro e w12 ⟨rfl, hb12⟩
          have B12 := B11.trans (hb12.mono B11.size)
          go_wp2_with fail
          refine (shown_any _).mono ?_
          rintro e w13 ⟨rfl, hb13⟩
          go_wp2_with fail
          go_ret
          exact ⟨rfl, B12.trans (hb13.mono B12.size)⟩
  ·obtain rfl : r = cr0 := (hP.inv.closed (by omega)).1
   have d2 : decide (0 < cr0.n) = false := rfl
   have hz : (cr0.n == 0) = true := rfl
   by_cases hin : i < n2
   ·have d1 : decide ((i : Int) < (n2 : Int)) = true := by simpa using hin
    go_wp2_with fail
    refine (shown_any _).mono ?_
    rintro e w2 ⟨rfl, hb2⟩
    go_wp2_with fail
    go_ret
    exact ⟨rfl, hB.trans (hb2.mono hB.size)⟩
   ·have d1 : decide ((i : Int) < (n2 : Int)) = false := by simpa using hin
    go_wp2_with fail
    refine (shown_any _).mono ?_
    rintro e w2 ⟨rfl, hb2⟩
    go_wp2_with fail
    go_ret
    exact ⟨rfl, hB.trans (hb2.mono hB.size)⟩
end Go.Proofs.YtjmmgoijnhnnaaaGreat
