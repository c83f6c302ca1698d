/- Walks of layer 12 (commit): does a range fit a system? -/
import Derived.Test.YtjmmgoijnhnnaaaGreatT32
namespace Go.Proofs.YtjmmgoijnhnnaaaGreat
open Go Go.Proofs Go.RowKit Go.Pol Go.Shelf
attribute [local go_sem] Oper.semAt_some Go.Pol.wide_fn Go.Pol.wide_depth Go.Pol.wide_fn' Go.Pol.wide_depth'
theorem keyedInt : Maps.Keyed Tryz.prog 3 := Maps.int_keyed Tryz.underlying3
theorem zeroInt (w : World) : (zeroValue 3).run Tryz.prog w = .ok (.int .i64 0) w := by kernel_rfl
theorem has_kept {K : List Sp} (hK : Go.Pol.Can K) {j : Nat} (hj : j < 1024) : askS K ((j : Int), 1) = 0 ∧ (decide (askS K ((j : Int), 1) = 0) && (gapsF K ((j : Int), 1)).isEmpty) = mem (j : Int) K := by
 have hv : vld ((j : Int), 1) = true := vld_iff.2 ⟨by show (0 : Int) ≤ j; omega, by show (j : Int) < 1024; omega, by show (1 : Int) ≤ 1; omega, by show (1 : Int) ≤ 1024 - j; omega⟩
 have ha : askS K ((j : Int), 1) = 0 := by
  unfold askS
  rw [if_pos (chkS_zero.2 hK), if_pos hv]
 exact ⟨ha, by rw [ha, has_one hK hv]; rfl⟩
theorem upM_twice (f : Int → Option Int) (p c d : Int) : upM (upM f p c) p d = upM f p d := by
 funext q
 unfold upM
 split <;> rfl
set_option maxRecDepth 100000 in
set_option maxHeartbeats 6400000 in
theorem fits_any (bs : Nat) (V : Vm) (r : Cr) (A : Option Addr) (cap : Nat) (w : World) (hV : SysIs w bs V) (hKd : KindOk V) (hcap : r.kept.length ≤ cap) (hcm : cap ≤ maxLen) (hk : KeptAt w A r.kept) :
  Calls Tryz.prog 22 #[.pointer (some ⟨bs, 0, none⟩), .agg (crC r (.slice A r.kept.length cap))] w fun e w' => e = .returned (.tuple #[.bool (fitsC V r).1, .int .i64 (fitsC V r).2.1, .int .i64 (fitsC V r).2.2]) ∧ Below w.heap.size w w' := by
 have hr := hk.ru
 have HCt := Lib.hid (fun W h => countsV_any bs V W h hKd)
 have HCk := Lib.hid (fun W h => cmCheck_any r A cap W hcap hcm h)
 have hmm := @run_makeMap Tryz.prog
 obtain ⟨R, hR⟩ : ∃ R, fitsC V r = R := ⟨_, rfl⟩
 rw [hR]
 unfold fitsC at hR
 have hck0 := Lib.hid (@chkCm_zero r)
 obtain ⟨ck, hck⟩ : ∃ ck, chkCm r = ck := ⟨_, rfl⟩
 rw [hck] at hR HCk hck0
 obtain ⟨pg, n, f, bk, ev, node, live, K, cl⟩ := r
 dsimp only [crC] at HCk hcap hr hR ⊢
 obtain ⟨nk, hnk0⟩ : ∃ nk, K.length = nk := ⟨_, rfl⟩
 have hnk := Lib.hid hnk0
 rw [hnk0] at HCk hcap ⊢
 clear hnk0
 have hb0 := (Below.refl w.heap.size w).alloc (Nat.le_refl _) (.cells #[.int .i64 pg, .int .i64 n, .int .i64 f, .int .i64 bk, .int .i64 ev, .int .i64 node, .int .i64 live, .slice A nk cap, .bool cl] 43)
 have k0 := Blk.new w 43 #[.int .i64 pg, .int .i64 n, .int .i64 f, .int .i64 bk, .int .i64 ev, .int .i64 node, .int .i64 live, .slice A nk cap, .bool cl]
 have hV0 := hV.call hb0
 have hrw := Lib.hid hr
 have hVH := Lib.hid hV
 obtain ⟨s, hs⟩ : ∃ s, w.heap.size = s := ⟨_, rfl⟩
 have hsH := Lib.hid hs
 rw [hs] at k0
 clear hV hr hk hck
 refine calls_of_marks Tryz.func22 rfl ?_
 simp only [Tryz.ntmps22, List.size_toArray, List.length_cons, List.length_nil, Nat.reduceAdd, Nat.reduceSub, Array.replicate_succ, Array.replicate_zero, List.push_toArray, List.append_toArray, List.nil_append, List.cons_append]
 go_upto_region 1 with fail
 generalize w.alloc _ = w0 at *
 try simp only [hs]
 go_wp2_with fail
 refine (HCt.out _ hV0).mono ?_
 rintro e w1 ⟨rfl, hb1⟩
 have B1 := hb0.trans (hb1.mono hb0.size)
 have V1 := hV0.call hb1
 have k1 := k0.call hb1
 clear hb0 hV0 k0 hb1 HCt
 go_upto_region 2 with fail
 have hba := (Below.refl w1.heap.size w1).alloc (Nat.le_refl _) (.cells (numsA V 1024) 106)
 have k2 := k1.call hba
 have V2 := V1.call hba
 have B2 := B1.trans (hba.mono B1.size)
 generalize w1.alloc _ = w2 at *
 have c2 := k2.cell
 clear k1 V1 B1 hba
 go_wp2_with fail
 refine (HCk.out _ (hrw.out.on B2)).mono ?_
 rintro e w3 ⟨rfl, hb3⟩
 have B3 := B2.trans (hb3.mono B2.size)
 have k3 := k2.call hb3
 have V3 := V2.call hb3
 have c3 := k3.cell
 clear k2 V2 B2 hb3 c2 HCk
 by_cases h0 : ck = 0
 case neg =>
  have d0 : (ck != 0) = true := by simpa using h0
  rw [if_pos h0] at hR
  subst hR
  clear h0 hck0
  go_wp2_with fail
  exact leave_none (v := .tuple #[.bool false, .int .i64 0, .int .i64 ck]) (by simp [results, Tryz.results22, go_sem]) ⟨rfl, by have q := B3; rw [hsH.out] at q; exact q⟩
 subst h0
 rw [if_neg (by simp)] at hR
 have hOk := hck0.out.1 rfl
 have hp := hOk.plan
 have hKC := hOk.can
 simp only at hp hKC
 have HU := Lib.hid (fun W => usableY_any pg n f bk ev W (chkG_zero.2 hp))
 unfold planV at HU
 have hLC := runsL_can hp
 have hpo := Lib.hid (pieces_one hLC)
 have hpm : (pagesOf (runsL pg n f bk ev)).length ≤ 1024 := by
  have h1 := pagesOf_len (runsL pg n f bk ev) (fun x hx => by have := runs_pos hp x hx; omega)
  have := (runs_sum hp).2
  omega
 have hpin : Hid (∀ p ∈ pagesOf (runsL pg n f bk ev), 0 ≤ p ∧ p < 1024) := Lib.hid (fun p h => hLC.range (mem_pagesOf.1 h))
 have hfin : Hid (∀ p, wantM ⟨pg, n, f, bk, ev, node, live, K, cl⟩ (pagesOf (runsL pg n f bk ev)) 0 (fun _ => none) p = if mem p (runsL pg n f bk ev) = true then some (wantC ⟨pg, n, f, bk, ev, node, live, K, cl⟩ p) else none) := Lib.hid (wantM_law (r := ⟨pg, n, f, bk, ev, node, live, K, cl⟩) hp)
 have hwn : Hid (∀ p, ¬ mem p (runsL pg n f bk ev) = true → wantC ⟨pg, n, f, bk, ev, node, live, K, cl⟩ p = 3) := Lib.hid (fun p h => wantC_none (r := ⟨pg, n, f, bk, ev, node, live, K, cl⟩) h)
 have hLlen := hLC.len
 have M4 := MapIs.made (P := Tryz.prog) (ti := 3) w3
 have hbA := (Below.refl w3.heap.size w3).alloc (Nat.le_refl _) (.map #[] 0)
 have k4 := k3.call hbA
 have V4 := V3.call hbA
 have B4 := B3.trans (hbA.mono B3.size)
 obtain ⟨bm, hbm⟩ : ∃ bm, w3.heap.size = bm := ⟨_, rfl⟩
 have hsm : s < bm := by rw [← hbm]; exact k3.lt
 rw [hbm] at M4
 clear k3 V3 B3 hck0 hOk c3 hbA
 go_upto_region 8 with fail
 have hz4 : (w3.alloc (.map #[] 0)).heap.size = bm + 1 := by simp [hbm]
 generalize w3.alloc _ = w4 at *
 obtain ⟨gm, hgm⟩ : ∃ gm, bm + 1 = gm := ⟨_, rfl⟩
 rw [hgm] at hz4
 try simp only [hgm]
 have hbB := (Below.refl w4.heap.size w4).alloc (Nat.le_refl _) (.cells #[.map (some bm)] 146)
 have kG := Blk.new w4 146 #[.map (some bm)]
 have k5 := k4.call hbB
 have V5 := V4.call hbB
 have M5 := M4.call hbB
 have B5 := B4.trans (hbB.mono B4.size)
 have hmg : bm < gm := by omega
 rw [hz4] at kG
 generalize w4.alloc _ = w5 at *
 clear hgm
 have c5 := k5.cell
 clear k4 V4 B4 M4 hbB
 go_wp2_with fail
 refine (HU.out w5).mono ?_
 rintro e w6 ⟨A2, cu, rfl, hku, hlu, hcu, hb6⟩
 have k6 := k5.call hb6
 have V6 := V5.call hb6
 have M6 := M5.call hb6
 have kG6 := kG.call hb6
 have B6 := B5.trans (hb6.mono B5.size)
 clear k5 V5 B5 M5 kG hb6 HU c5
 go_upto_region 10 with fail
 have hbN := (Below.refl w6.heap.size w6).alloc (Nat.le_refl _) (.cells #[.int .i64 0] 3)
 have kN := Blk.new w6 3 #[.int .i64 0]
 have k7 := k6.call hbN
 have V7 := V6.call hbN
 have M7 := M6.call hbN
 have kG7 := kG6.call hbN
 have hku7 := hku.call hbN
 have B7 := B6.trans (hbN.mono B6.size)
 obtain ⟨gn, hgn⟩ : ∃ gn, w6.heap.size = gn := ⟨_, rfl⟩
 have hgg : gm < gn := by rw [← hgn]; exact kG6.lt
 rw [hgn] at kN
 generalize w6.alloc _ = w7 at *
 try simp only [hgn]
 clear k6 V6 B6 M6 kG6 hku hbN
 have HPg := Lib.hid (pagesTop_any A2 (runsL pg n f bk ev).length cu (runsL pg n f bk ev) w7 rfl (by unfold maxLen at hcu; omega) hku7.ru)
 generalize runsL pg n f bk ev = LL at *
 go_wp2_with fail
 refine HPg.out.mono ?_
 rintro e w8 ⟨lb, Kk, rfl, hseq, hKk, hb8⟩
 have k8 := k7.call hb8
 have V8 := V7.call hb8
 have M8 := M7.call hb8
 have kG8 := kG7.call hb8
 have kN8 := kN.call hb8
 have B8 := B7.trans (hb8.mono B7.size)
 have h78 := hb8.size
 have hlN := kN.lt
 unfold fsts at hseq
 rw [hpo.out] at hseq
 clear k7 V7 B7 M7 kG7 kN hku7 hb8 HPg
 generalize hxs : pagesOf LL = xs at *
 obtain ⟨d0, hd0⟩ : ∃ d, w8.heap.size = d := ⟨_, rfl⟩
 have hgd : gn < d0 := by omega
 have hlen : ∀ (pre : List Int) (x : Int), pre ++ [x] <+: xs → pre.length < 1024 ∧ 0 ≤ x ∧ x < 1024 := fun pre x h => by
  have h1 := h.length_le
  have h2 := hpin.out x (h.subset (by simp))
  simp at h1
  exact ⟨by omega, h2.1, h2.2⟩
 go_wp2_with fail
 refine rangeYI 14 45 (gf := 132) (lb := lb) rfl pages_enters hseq rfl (fun _ h => h.elim) (fun k h => (hKk k h).2)
  (fun X pre W => MapIs Tryz.prog 3 W bm (3 * pre.length) (wantM ⟨pg, n, f, bk, ev, node, live, K, cl⟩ pre 0 (fun _ => none)) ∧ ¬ X bm ∧ Blk W gm 146 #[.map (some bm)] ∧ ¬ X gm ∧ Blk W gn 3 #[.int .i64 pre.length] ∧ ¬ X gn ∧ Blk W s 43 #[.int .i64 pg, .int .i64 n, .int .i64 f, .int .i64 bk, .int .i64 ev, .int .i64 node, .int .i64 live, .slice A nk cap, .bool cl] ∧ ¬ X s ∧ Below w.heap.size w W ∧ ∀ k, X k → s ≤ k)
  (fun _ _ _ _ => False)
  ?hI (fun _ _ _ _ _ h _ => h.elim) ?hnew ⟨M8, id, kG8, id, kN8, id, k8, id, B8, fun _ h => h.elim⟩ ?assign ?body ?done (fun _ _ _ _ _ _ h _ => h.elim)
 case hI =>
  rintro X pre W W' ⟨hM, nM, kG, nG, kN, nN, kS, nS, hB, hX⟩ hf
  rw [hd0] at hf
  exact ⟨hM.far hf (by rintro (h | h | h | h) <;> first | exact h | exact nM h | omega), nM, hf.blk kG (by rintro (h | h | h | h) <;> first | exact h | exact nG h | omega), nG, hf.blk kN (by rintro (h | h | h | h) <;> first | exact h | exact nN h | omega), nN,
   hf.blk kS (by rintro (h | h | h | h) <;> first | exact h | exact nS h | omega), nS, hB.trans (hf.below hB.size (fun k hk => by rintro (h | h | h | h) <;> first | exact h | (have := hX k h; omega) | omega)), hX⟩
 case hnew =>
  rintro X X' pre W ⟨hM, nM, kG, nG, kN, nN, kS, nS, hB, hX⟩ hX'
  exact ⟨hM, fun h' => (hX' _ h').elim nM (fun h' => by have := hM.lt; omega), kG, fun h' => (hX' _ h').elim nG (fun h' => by have := kG.lt; omega), kN, fun h' => (hX' _ h').elim nN (fun h' => by have := kN.lt; omega), kS, fun h' => (hX' _ h').elim nS (fun h' => by have := kS.lt; omega), hB,
   fun k hk => (hX' _ hk).elim (hX k) (fun h' => by have := kS.lt; omega)⟩
 case assign =>
  intro m l x W C hC
  simp only [List.setIfInBounds_toArray, List.set_cons_succ, List.set_cons_zero] at hC ⊢
  gi_wp2
  exact hC
 case body =>
  rintro m l X pre x Wa W hsz hXlt ⟨hM, nM, kG, nG, kN, nN, kS, nS, hB, hX⟩ hpre hBa
  simp only [List.setIfInBounds_toArray, List.set_cons_succ, List.set_cons_zero]
  rw [hd0] at hXlt hsz ⊢
  obtain ⟨hj, hx0, hx1⟩ := hlen pre x hpre
  have hn1 : (pre ++ [x]).length = pre.length + 1 := by simp
  have hw := wantM_snoc ⟨pg, n, f, bk, ev, node, live, K, cl⟩ x pre 0 (fun _ => none)
  obtain ⟨j, hjj⟩ : ∃ j, pre.length = j := ⟨_, rfl⟩
  rw [hjj] at hM kN hj hn1 hw
  generalize wantM ⟨pg, n, f, bk, ev, node, live, K, cl⟩ pre 0 (fun _ => none) = ff at *
  have hrW := hrw.out.on hB
  have HH := Lib.hid (fun W h => has_any A nk cap K (j : Int) 1 W hnk.out hcap hcm h)
  rw [(has_kept hKC hj).2, (has_kept hKC hj).1] at HH
  have hkey : keyOf Tryz.prog 3 (.int .i64 x) = some (.int .i64 x) := Maps.keyOf_int_mk Tryz.underlying3 (WalkArith.wf_i64 (by omega))
  have hv1 := plainElem_int (H := Unit) (P := Tryz.prog) Tryz.underlying3 (a := 1) (q := .i64) (by decide)
  have hv2 := plainElem_int (H := Unit) (P := Tryz.prog) Tryz.underlying3 (a := 2) (q := .i64) (by decide)
  have cG := kG.cell
  have cN := kN.cell
  have cS := kS.cell
  have fN := kN.frozen
  have FA : Far (fun k => k = bm ∨ k = gn) W W := Far.refl _ W
  have huse : useC ⟨pg, n, f, bk, ev, node, live, K, cl⟩ (0 + (j : Int)) = (decide ((j : Int) < live) || mem (j : Int) K) := by unfold useC; simp
  rw [huse] at hw
  clear huse hpo hfin
  by_cases hl : (j : Int) < live
  ·have d1 : decide ((j : Int) < live) = true := by simpa using hl
   rw [d1] at hw
   cases hmk : mem (j : Int) K with
   | true =>
    rw [hmk] at HH
    obtain ⟨Dw1, how1, hiw1, hhw1⟩ := hM
    gi_upto_region 13 with (gi_at_mapUpdate; refine wpListIn_mapUpdate_own _ rfl _ _ _ 146 rfl 3 3 keyedInt Tryz.underlying146 _ bm _ _ rfl how1 (by unfold maxLen; omega) _ _ _ rfl rfl hkey _ [] hv1 ?_; intro w1 hownw1 hgroww1)
    have Mw1 := MapIs.put hiw1 hhw1 hownw1
    have Fw1 : Far (fun k => k = bm) W w1 := (Far.refl _ W).grown hgroww1 (fun r hr _ => by cases hr; rfl)
    have FAw1 := FA.trans' Fw1 (fun i _ h => .inl h)
    have kGw1 := Fw1.blk kG (by omega)
    have kNw1 := Fw1.blk kN (by omega)
    have kSw1 := Fw1.blk kS (by omega)
    have Bw1 := hB.trans (Fw1.below (by have := hB.size; omega) (fun k hk => by omega))
    have cGw1 := kGw1.cell
    have cNw1 := kNw1.cell
    have cSw1 := kSw1.cell
    have fNw1 := kNw1.frozen
    obtain ⟨Dw2, how2, hiw2, hhw2⟩ := Mw1
    gi_upto_region 15 with (gi_at_mapUpdate; refine wpListIn_mapUpdate_own _ rfl _ _ _ 146 rfl 3 3 keyedInt Tryz.underlying146 _ bm _ _ rfl how2 (by unfold maxLen; omega) _ _ _ rfl rfl hkey _ [] hv2 ?_; intro w2 hownw2 hgroww2)
    have Mw2 := MapIs.put hiw2 hhw2 hownw2
    have Fw2 : Far (fun k => k = bm) w1 w2 := (Far.refl _ w1).grown hgroww2 (fun r hr _ => by cases hr; rfl)
    have FAw2 := FAw1.trans' Fw2 (fun i _ h => .inl h)
    have kGw2 := Fw2.blk kGw1 (by omega)
    have kNw2 := Fw2.blk kNw1 (by omega)
    have kSw2 := Fw2.blk kSw1 (by omega)
    have Bw2 := Bw1.trans (Fw2.below (by have := Bw1.size; omega) (fun k hk => by omega))
    have cGw2 := kGw2.cell
    have cNw2 := kNw2.cell
    have cSw2 := kSw2.cell
    have fNw2 := kNw2.frozen
    gi_upto_region 16 with (gi_at_call 64; refine (CallsIn.inRound l (callsIn_wide.2 (HH.out _ (hrw.out.on Bw2)))).mono ?_; rintro e w3 ⟨rfl, hbw3⟩)
    have Mw3 := Mw2.call hbw3
    have FAw3 := FAw2.call hbw3
    have kGw3 := kGw2.call hbw3
    have kNw3 := kNw2.call hbw3
    have kSw3 := kSw2.call hbw3
    have Bw3 := Bw2.trans (hbw3.mono Bw2.size)
    have cGw3 := kGw3.cell
    have cNw3 := kNw3.cell
    have cSw3 := kSw3.cell
    have fNw3 := kNw3.frozen
    obtain ⟨Dw4, how4, hiw4, hhw4⟩ := Mw3
    gi_upto_region 18 with (gi_at_mapUpdate; refine wpListIn_mapUpdate_own _ rfl _ _ _ 146 rfl 3 3 keyedInt Tryz.underlying146 _ bm _ _ rfl how4 (by unfold maxLen; omega) _ _ _ rfl rfl hkey _ [] hv2 ?_; intro w4 hownw4 hgroww4)
    have Mw4 := MapIs.put hiw4 hhw4 hownw4
    have Fw4 : Far (fun k => k = bm) w3 w4 := (Far.refl _ w3).grown hgroww4 (fun r hr _ => by cases hr; rfl)
    have FAw4 := FAw3.trans' Fw4 (fun i _ h => .inl h)
    have kGw4 := Fw4.blk kGw3 (by omega)
    have kNw4 := Fw4.blk kNw3 (by omega)
    have kSw4 := Fw4.blk kSw3 (by omega)
    have Bw4 := Bw3.trans (Fw4.below (by have := Bw3.size; omega) (fun k hk => by omega))
    have cGw4 := kGw4.cell
    have cNw4 := kNw4.cell
    have cSw4 := kSw4.cell
    have fNw4 := kNw4.frozen
    gi_wp2_with fail
    have FZ := FAw4.setCell (p := ⟨gn, 0, none⟩) (fun _ => .inr rfl) (.int .i64 ((j : Int) + 1))
    have F1 : Far (fun k => k = gn) w4 (w4.setCell ⟨gn, 0, none⟩ (.int .i64 ((j : Int) + 1))) := Far.setCell (T := fun k => k = gn) (p := ⟨gn, 0, none⟩) (Far.refl _ _) (fun _ => rfl) _
    have M5 := (Mw4.far F1 (by omega)).mono (m := 3 * (pre ++ [x]).length) (by rw [hn1]; omega)
    have kG5 := F1.blk kGw4 (by omega)
    have kS5 := F1.blk kSw4 (by omega)
    have kN5 := kNw4.set_ 0 (.int .i64 ((j : Int) + 1))
    have B5 := Bw4.trans (F1.below (by have := Bw4.size; omega) (fun k hk => by omega))
    refine ⟨FZ.mono fun k _ h => ?_, ?_, nM, kG5, nG, ?_, nN, kS5, nS, B5, hX⟩
    ·rintro (h' | h' | h' | h')
     ·have := hKk k h'; omega
     ·rcases h with h | h
      ·exact nM (h ▸ h')
      ·exact nN (h ▸ h')
     ·omega
     ·omega
    ·rw [hw]
     simpa [upM_twice] using M5
    ·rw [hn1]
     exact kN5
   | false =>
    rw [hmk] at HH
    rw [hmk] at hw
    obtain ⟨Dw1, how1, hiw1, hhw1⟩ := hM
    gi_upto_region 13 with (gi_at_mapUpdate; refine wpListIn_mapUpdate_own _ rfl _ _ _ 146 rfl 3 3 keyedInt Tryz.underlying146 _ bm _ _ rfl how1 (by unfold maxLen; omega) _ _ _ rfl rfl hkey _ [] hv1 ?_; intro w1 hownw1 hgroww1)
    have Mw1 := MapIs.put hiw1 hhw1 hownw1
    have Fw1 : Far (fun k => k = bm) W w1 := (Far.refl _ W).grown hgroww1 (fun r hr _ => by cases hr; rfl)
    have FAw1 := FA.trans' Fw1 (fun i _ h => .inl h)
    have kGw1 := Fw1.blk kG (by omega)
    have kNw1 := Fw1.blk kN (by omega)
    have kSw1 := Fw1.blk kS (by omega)
    have Bw1 := hB.trans (Fw1.below (by have := hB.size; omega) (fun k hk => by omega))
    have cGw1 := kGw1.cell
    have cNw1 := kNw1.cell
    have cSw1 := kSw1.cell
    have fNw1 := kNw1.frozen
    obtain ⟨Dw2, how2, hiw2, hhw2⟩ := Mw1
    gi_upto_region 15 with (gi_at_mapUpdate; refine wpListIn_mapUpdate_own _ rfl _ _ _ 146 rfl 3 3 keyedInt Tryz.underlying146 _ bm _ _ rfl how2 (by unfold maxLen; omega) _ _ _ rfl rfl hkey _ [] hv2 ?_; intro w2 hownw2 hgroww2)
    have Mw2 := MapIs.put hiw2 hhw2 hownw2
    have Fw2 : Far (fun k => k = bm) w1 w2 := (Far.refl _ w1).grown hgroww2 (fun r hr _ => by cases hr; rfl)
    have FAw2 := FAw1.trans' Fw2 (fun i _ h => .inl h)
    have kGw2 := Fw2.blk kGw1 (by omega)
    have kNw2 := Fw2.blk kNw1 (by omega)
    have kSw2 := Fw2.blk kSw1 (by omega)
    have Bw2 := Bw1.trans (Fw2.below (by have := Bw1.size; omega) (fun k hk => by omega))
    have cGw2 := kGw2.cell
    have cNw2 := kNw2.cell
    have cSw2 := kSw2.cell
    have fNw2 := kNw2.frozen
    gi_upto_region 16 with (gi_at_call 64; refine (CallsIn.inRound l (callsIn_wide.2 (HH.out _ (hrw.out.on Bw2)))).mono ?_; rintro e w3 ⟨rfl, hbw3⟩)
    have Mw3 := Mw2.call hbw3
    have FAw3 := FAw2.call hbw3
    have kGw3 := kGw2.call hbw3
    have kNw3 := kNw2.call hbw3
    have kSw3 := kSw2.call hbw3
    have Bw3 := Bw2.trans (hbw3.mono Bw2.size)
    have cGw3 := kGw3.cell
    have cNw3 := kNw3.cell
    have cSw3 := kSw3.cell
    have fNw3 := kNw3.frozen
    gi_wp2_with fail
    have FZ := FAw3.setCell (p := ⟨gn, 0, none⟩) (fun _ => .inr rfl) (.int .i64 ((j : Int) + 1))
    have F1 : Far (fun k => k = gn) w3 (w3.setCell ⟨gn, 0, none⟩ (.int .i64 ((j : Int) + 1))) := Far.setCell (T := fun k => k = gn) (p := ⟨gn, 0, none⟩) (Far.refl _ _) (fun _ => rfl) _
    have M5 := (Mw3.far F1 (by omega)).mono (m := 3 * (pre ++ [x]).length) (by rw [hn1]; omega)
    have kG5 := F1.blk kGw3 (by omega)
    have kS5 := F1.blk kSw3 (by omega)
    have kN5 := kNw3.set_ 0 (.int .i64 ((j : Int) + 1))
    have B5 := Bw3.trans (F1.below (by have := Bw3.size; omega) (fun k hk => by omega))
    refine ⟨FZ.mono fun k _ h => ?_, ?_, nM, kG5, nG, ?_, nN, kS5, nS, B5, hX⟩
    ·rintro (h' | h' | h' | h')
     ·have := hKk k h'; omega
     ·rcases h with h | h
      ·exact nM (h ▸ h')
      ·exact nN (h ▸ h')
     ·omega
     ·omega
    ·rw [hw]
     simpa [upM_twice] using M5
    ·rw [hn1]
     exact kN5
  ·have d1 : decide ((j : Int) < live) = false := by simpa using hl
   rw [d1] at hw
   cases hmk : mem (j : Int) K with
   | true =>
    rw [hmk] at HH
    rw [hmk] at hw
    obtain ⟨Dw1, how1, hiw1, hhw1⟩ := hM
    gi_upto_region 13 with (gi_at_mapUpdate; refine wpListIn_mapUpdate_own _ rfl _ _ _ 146 rfl 3 3 keyedInt Tryz.underlying146 _ bm _ _ rfl how1 (by unfold maxLen; omega) _ _ _ rfl rfl hkey _ [] hv1 ?_; intro w1 hownw1 hgroww1)
    have Mw1 := MapIs.put hiw1 hhw1 hownw1
    have Fw1 : Far (fun k => k = bm) W w1 := (Far.refl _ W).grown hgroww1 (fun r hr _ => by cases hr; rfl)
    have FAw1 := FA.trans' Fw1 (fun i _ h => .inl h)
    have kGw1 := Fw1.blk kG (by omega)
    have kNw1 := Fw1.blk kN (by omega)
    have kSw1 := Fw1.blk kS (by omega)
    have Bw1 := hB.trans (Fw1.below (by have := hB.size; omega) (fun k hk => by omega))
    have cGw1 := kGw1.cell
    have cNw1 := kNw1.cell
    have cSw1 := kSw1.cell
    have fNw1 := kNw1.frozen
    gi_upto_region 16 with (gi_at_call 64; refine (CallsIn.inRound l (callsIn_wide.2 (HH.out _ (hrw.out.on Bw1)))).mono ?_; rintro e w3 ⟨rfl, hbw3⟩)
    have Mw3 := Mw1.call hbw3
    have FAw3 := FAw1.call hbw3
    have kGw3 := kGw1.call hbw3
    have kNw3 := kNw1.call hbw3
    have kSw3 := kSw1.call hbw3
    have Bw3 := Bw1.trans (hbw3.mono Bw1.size)
    have cGw3 := kGw3.cell
    have cNw3 := kNw3.cell
    have cSw3 := kSw3.cell
    have fNw3 := kNw3.frozen
    obtain ⟨Dw4, how4, hiw4, hhw4⟩ := Mw3
    gi_upto_region 18 with (gi_at_mapUpdate; refine wpListIn_mapUpdate_own _ rfl _ _ _ 146 rfl 3 3 keyedInt Tryz.underlying146 _ bm _ _ rfl how4 (by unfold maxLen; omega) _ _ _ rfl rfl hkey _ [] hv2 ?_; intro w4 hownw4 hgroww4)
    have Mw4 := MapIs.put hiw4 hhw4 hownw4
    have Fw4 : Far (fun k => k = bm) w3 w4 := (Far.refl _ w3).grown hgroww4 (fun r hr _ => by cases hr; rfl)
    have FAw4 := FAw3.trans' Fw4 (fun i _ h => .inl h)
    have kGw4 := Fw4.blk kGw3 (by omega)
    have kNw4 := Fw4.blk kNw3 (by omega)
    have kSw4 := Fw4.blk kSw3 (by omega)
    have Bw4 := Bw3.trans (Fw4.below (by have := Bw3.size; omega) (fun k hk => by omega))
    have cGw4 := kGw4.cell
    have cNw4 := kNw4.cell
    have cSw4 := kSw4.cell
    have fNw4 := kNw4.frozen
    gi_wp2_with fail
    have FZ := FAw4.setCell (p := ⟨gn, 0, none⟩) (fun _ => .inr rfl) (.int .i64 ((j : Int) + 1))
    have F1 : Far (fun k => k = gn) w4 (w4.setCell ⟨gn, 0, none⟩ (.int .i64 ((j : Int) + 1))) := Far.setCell (T := fun k => k = gn) (p := ⟨gn, 0, none⟩) (Far.refl _ _) (fun _ => rfl) _
    have M5 := (Mw4.far F1 (by omega)).mono (m := 3 * (pre ++ [x]).length) (by rw [hn1]; omega)
    have kG5 := F1.blk kGw4 (by omega)
    have kS5 := F1.blk kSw4 (by omega)
    have kN5 := kNw4.set_ 0 (.int .i64 ((j : Int) + 1))
    have B5 := Bw4.trans (F1.below (by have := Bw4.size; omega) (fun k hk => by omega))
    refine ⟨FZ.mono fun k _ h => ?_, ?_, nM, kG5, nG, ?_, nN, kS5, nS, B5, hX⟩
    ·rintro (h' | h' | h' | h')
     ·have := hKk k h'; omega
     ·rcases h with h | h
      ·exact nM (h ▸ h')
      ·exact nN (h ▸ h')
     ·omega
     ·omega
    ·rw [hw]
     simpa [upM_twice] using M5
    ·rw [hn1]
     exact kN5
   | false =>
    rw [hmk] at HH
    rw [hmk] at hw
    obtain ⟨Dw1, how1, hiw1, hhw1⟩ := hM
    gi_upto_region 13 with (gi_at_mapUpdate; refine wpListIn_mapUpdate_own _ rfl _ _ _ 146 rfl 3 3 keyedInt Tryz.underlying146 _ bm _ _ rfl how1 (by unfold maxLen; omega) _ _ _ rfl rfl hkey _ [] hv1 ?_; intro w1 hownw1 hgroww1)
    have Mw1 := MapIs.put hiw1 hhw1 hownw1
    have Fw1 : Far (fun k => k = bm) W w1 := (Far.refl _ W).grown hgroww1 (fun r hr _ => by cases hr; rfl)
    have FAw1 := FA.trans' Fw1 (fun i _ h => .inl h)
    have kGw1 := Fw1.blk kG (by omega)
    have kNw1 := Fw1.blk kN (by omega)
    have kSw1 := Fw1.blk kS (by omega)
    have Bw1 := hB.trans (Fw1.below (by have := hB.size; omega) (fun k hk => by omega))
    have cGw1 := kGw1.cell
    have cNw1 := kNw1.cell
    have cSw1 := kSw1.cell
    have fNw1 := kNw1.frozen
    gi_upto_region 16 with (gi_at_call 64; refine (CallsIn.inRound l (callsIn_wide.2 (HH.out _ (hrw.out.on Bw1)))).mono ?_; rintro e w3 ⟨rfl, hbw3⟩)
    have Mw3 := Mw1.call hbw3
    have FAw3 := FAw1.call hbw3
    have kGw3 := kGw1.call hbw3
    have kNw3 := kNw1.call hbw3
    have kSw3 := kSw1.call hbw3
    have Bw3 := Bw1.trans (hbw3.mono Bw1.size)
    have cGw3 := kGw3.cell
    have cNw3 := kNw3.cell
    have cSw3 := kSw3.cell
    have fNw3 := kNw3.frozen
    gi_wp2_with fail
    have FZ := FAw3.setCell (p := ⟨gn, 0, none⟩) (fun _ => .inr rfl) (.int .i64 ((j : Int) + 1))
    have F1 : Far (fun k => k = gn) w3 (w3.setCell ⟨gn, 0, none⟩ (.int .i64 ((j : Int) + 1))) := Far.setCell (T := fun k => k = gn) (p := ⟨gn, 0, none⟩) (Far.refl _ _) (fun _ => rfl) _
    have M5 := (Mw3.far F1 (by omega)).mono (m := 3 * (pre ++ [x]).length) (by rw [hn1]; omega)
    have kG5 := F1.blk kGw3 (by omega)
    have kS5 := F1.blk kSw3 (by omega)
    have kN5 := kNw3.set_ 0 (.int .i64 ((j : Int) + 1))
    have B5 := Bw3.trans (F1.below (by have := Bw3.size; omega) (fun k hk => by omega))
    refine ⟨FZ.mono fun k _ h => ?_, ?_, nM, kG5, nG, ?_, nN, kS5, nS, B5, hX⟩
    ·rintro (h' | h' | h' | h')
     ·have := hKk k h'; omega
     ·rcases h with h | h
      ·exact nM (h ▸ h')
      ·exact nN (h ▸ h')
     ·omega
     ·omega
    ·rw [hw]
     simpa [upM_twice] using M5
    ·rw [hn1]
     exact kN5
 case done =>
  rintro X W hsz ⟨hM, nM, kG, nG, kN, nN, kS, nS, hB, hX⟩ hd
  rw [hd0] at hsz hd ⊢
  rw [funext hfin.out] at hM
  have hV9 := hVH.out.call hB
  have hp0 := hp.pg0
  have hpn := hp.n1
  have hpn0 := hp.n0
  have cS := kS.cell
  clear V8 M8 kG8 kN8 k8 B8 nM nG nN nS hX kN hKk hseq hfin hp
  obtain ⟨nn, rfl⟩ : ∃ nn : Nat, n = nn := ⟨n.toNat, by omega⟩
  rw [Int.toNat_natCast] at hR
  go_upto_region 20 with fail
  go_loopw [17] (fun u wr => ∃ k : Nat, u = .int .i64 (pg + (k : Int)) ∧ k ≤ nn ∧ fitL V ⟨pg, nn, f, bk, ev, node, live, K, cl⟩ nn pg = fitL V ⟨pg, nn, f, bk, ev, node, live, K, cl⟩ (nn - k) (pg + (k : Int)) ∧ MapIs Tryz.prog 3 wr bm (3 * xs.length) (fun q => if mem q LL = true then some (wantC ⟨pg, nn, f, bk, ev, node, live, K, cl⟩ q) else none) ∧
   Blk wr gm 146 #[.map (some bm)] ∧ Blk wr s 43 #[.int .i64 pg, .int .i64 nn, .int .i64 f, .int .i64 bk, .int .i64 ev, .int .i64 node, .int .i64 live, .slice A nk cap, .bool cl] ∧ SysIs wr bs V ∧ Below w.heap.size w wr ∧ wr.heap[d0]? = some (.deferred (some []))) (fun u _ => (pg + (nn : Int)).toNat - (intOf u).toNat)
  case atStart => exact ⟨0, by simp, by omega, by simp, hM, kG, kS, hV9, hB, hd⟩
  case round =>
   clear hM kG kS hV9 hB hd cS
   obtain ⟨k, rfl, hkn, hfk, hM9, kG9, kS9, hV9, hB9, hd9⟩ := hrel
   have cG9 := kG9.cell
   have cS9 := kS9.cell
   by_cases hlt : k < nn
   ·have dlt : decide (pg + (k : Int) < pg + (nn : Int)) = true := by simp; omega
    have HK := Lib.hid (fun W h => vkind_any bs (pg + (k : Int)) V W h)
    rw [if_pos (show 0 ≤ pg + (k : Int) ∧ pg + (k : Int) < 1024 by omega), if_pos (show 0 ≤ pg + (k : Int) ∧ pg + (k : Int) < 1024 by omega), if_pos (show 0 ≤ pg + (k : Int) ∧ pg + (k : Int) < 1024 by omega)] at HK
    have hkd : Hid ((V.pg (pg + (k : Int)).toNat).kind = Go.Pol.kd V (pg + (k : Int)).toNat) := Lib.hid rfl
    rw [hkd.out] at HK
    have hnk1 := hfk
    rw [show nn - k = (nn - (k + 1)) + 1 by omega, fitL] at hnk1
    have hkey : keyOf Tryz.prog 3 (.int .i64 (pg + (k : Int))) = some (.int .i64 (pg + (k : Int))) := Maps.keyOf_int_mk Tryz.underlying3 (WalkArith.wf_i64 (by omega))
    have hcw : ∀ (D : DataW Unit) (c : Int), ((if mem (pg + (k : Int)) LL = true then some (wantC ⟨pg, nn, f, bk, ev, node, live, K, cl⟩ (pg + (k : Int))) else none) = none ∧ Maps.has D (.int .i64 (pg + (k : Int))) = false) ∨ ((if mem (pg + (k : Int)) LL = true then some (wantC ⟨pg, nn, f, bk, ev, node, live, K, cl⟩ (pg + (k : Int))) else none) = some c ∧ Maps.has D (.int .i64 (pg + (k : Int))) = true) → (Maps.has D (.int .i64 (pg + (k : Int))) = false ∧ wantC ⟨pg, nn, f, bk, ev, node, live, K, cl⟩ (pg + (k : Int)) = 3) ∨ (Maps.has D (.int .i64 (pg + (k : Int))) = true ∧ wantC ⟨pg, nn, f, bk, ev, node, live, K, cl⟩ (pg + (k : Int)) = c) := by
     intro D c h
     by_cases hm : mem (pg + (k : Int)) LL = true
     ·rw [if_pos hm] at h
      rcases h with ⟨h, _⟩ | ⟨h, h2⟩
      ·cases h
      ·exact .inr ⟨h2, by injection h⟩
     ·rw [if_neg hm] at h
      rcases h with ⟨_, h2⟩ | ⟨h, _⟩
      ·exact .inl ⟨h2, hwn.out _ hm⟩
      ·cases h
    go_wp2_with fail
    refine (HK.out _ hV9).mono ?_
    rintro e w1 ⟨rfl, hb1⟩
    have hM1 := hM9.call hb1
    have kG1 := kG9.call hb1
    have kS1 := kS9.call hb1
    have V1 := hV9.call hb1
    have B1 := hB9.trans (hb1.mono hB9.size)
    have hd1 : w1.heap[d0]? = some (.deferred (some [])) := (hb1.block d0 (Array.getElem?_eq_some_iff.1 hd9).1).trans hd9
    have cG1 := kG1.cell
    have cS1 := kS1.cell
    obtain ⟨D, ho, hi, hh⟩ := hM1
    have hM1 : MapIs Tryz.prog 3 w1 bm (3 * xs.length) (fun q => if mem q LL = true then some (wantC ⟨pg, nn, f, bk, ev, node, live, K, cl⟩ q) else none) := ⟨D, ho, hi, hh⟩
    clear hM9 kG9 kS9 hV9 hB9 hd9 cG9 cS9 hb1 HK
    go_upto_region 24 with (at_lookup; refine wpList_lookup_own_ok_int _ rfl _ _ 146 rfl 3 3 .i64 keyedInt Tryz.underlying146 Tryz.underlying3 (zeroInt _) bm _ _ rfl ho _ _ rfl hkey ?_; intro c hat hwc)
    have hW := Lib.hid (hcw D c (MapIs.look (f := fun q => if mem q LL = true then some (wantC ⟨pg, nn, f, bk, ev, node, live, K, cl⟩ q) else none) (p := pg + (k : Int)) (hh _) hat))
    clear hcw hh hi ho hat hwc hkey
    generalize Maps.has D (.int .i64 (pg + (k : Int))) = hb at *
    generalize hto : wantC ⟨pg, nn, f, bk, ev, node, live, K, cl⟩ (pg + (k : Int)) = tq at *
    generalize hkk : Go.Pol.kd V (pg + (k : Int)).toNat = kk at *
    have hbd : badC V ⟨pg, nn, f, bk, ev, node, live, K, cl⟩ (pg + (k : Int)) = (if cl = true then (kk != 1 && kk != 3) else kk != tq) := by unfold badC; rw [hto, hkk]
    rw [hbd] at hnk1
    clear hto hkk hkd hbd
    have hW' := hW.out
    clear hW
    rcases hW' with ⟨rfl, rfl⟩ | ⟨rfl, rfl⟩
    ·cases cl with
     | true =>
      cases e1 : (kk != 1) with
      | false =>
       simp only [e1, if_true, Bool.false_and, Bool.false_eq_true, if_false] at hnk1
       have hN := Lib.hid hnk1
       clear hnk1
       go_wp2_with fail
       go_roundw
       case rel => exact ⟨k + 1, by go_num, by omega, by rw [hN.out]; rw [show pg + ((k + 1 : Nat) : Int) = pg + (k : Int) + 1 by omega], hM1, kG1, kS1, V1, B1, hd1⟩
       case measure => simp [intOf]; omega
      | true =>
       cases e3 : (kk != 3) with
       | false =>
        simp only [e1, e3, if_true, Bool.true_and, Bool.false_eq_true, if_false] at hnk1
        have hN := Lib.hid hnk1
        clear hnk1
        go_wp2_with fail
        go_roundw
        case rel => exact ⟨k + 1, by go_num, by omega, by rw [hN.out]; rw [show pg + ((k + 1 : Nat) : Int) = pg + (k : Int) + 1 by omega], hM1, kG1, kS1, V1, B1, hd1⟩
        case measure => simp [intOf]; omega
       | true =>
        simp only [e1, e3, if_true, Bool.true_and] at hnk1
        have hN := Lib.hid hnk1
        clear hnk1
        go_wp2_with fail
        exact leave_mark (v := .tuple #[.bool false, .int .i64 (pg + (k : Int)), .int .i64 0]) hd1 (by simp [results, Tryz.results22, go_sem]) ⟨by rw [← hR, hN.out], far_leave B1 (D := d0) (by rw [hsH.out]; omega) (.deferred none)⟩
     | false =>
      cases et : (kk != 3) with
      | false =>
       simp only [et, Bool.false_eq_true, if_false] at hnk1
       have hN := Lib.hid hnk1
       clear hnk1
       go_wp2_with fail
       go_roundw
       case rel => exact ⟨k + 1, by go_num, by omega, by rw [hN.out]; rw [show pg + ((k + 1 : Nat) : Int) = pg + (k : Int) + 1 by omega], hM1, kG1, kS1, V1, B1, hd1⟩
       case measure => simp [intOf]; omega
      | true =>
       simp only [et, if_true, Bool.false_eq_true, if_false] at hnk1
       have hN := Lib.hid hnk1
       clear hnk1
       go_wp2_with fail
       exact leave_mark (v := .tuple #[.bool false, .int .i64 (pg + (k : Int)), .int .i64 0]) hd1 (by simp [results, Tryz.results22, go_sem]) ⟨by rw [← hR, hN.out], far_leave B1 (D := d0) (by rw [hsH.out]; omega) (.deferred none)⟩
    ·cases cl with
     | true =>
      cases e1 : (kk != 1) with
      | false =>
       simp only [e1, if_true, Bool.false_and, Bool.false_eq_true, if_false] at hnk1
       have hN := Lib.hid hnk1
       clear hnk1
       go_wp2_with fail
       go_roundw
       case rel => exact ⟨k + 1, by go_num, by omega, by rw [hN.out]; rw [show pg + ((k + 1 : Nat) : Int) = pg + (k : Int) + 1 by omega], hM1, kG1, kS1, V1, B1, hd1⟩
       case measure => simp [intOf]; omega
      | true =>
       cases e3 : (kk != 3) with
       | false =>
        simp only [e1, e3, if_true, Bool.true_and, Bool.false_eq_true, if_false] at hnk1
        have hN := Lib.hid hnk1
        clear hnk1
        go_wp2_with fail
        go_roundw
        case rel => exact ⟨k + 1, by go_num, by omega, by rw [hN.out]; rw [show pg + ((k + 1 : Nat) : Int) = pg + (k : Int) + 1 by omega], hM1, kG1, kS1, V1, B1, hd1⟩
        case measure => simp [intOf]; omega
       | true =>
        simp only [e1, e3, if_true, Bool.true_and] at hnk1
        have hN := Lib.hid hnk1
        clear hnk1
        go_wp2_with fail
        exact leave_mark (v := .tuple #[.bool false, .int .i64 (pg + (k : Int)), .int .i64 0]) hd1 (by simp [results, Tryz.results22, go_sem]) ⟨by rw [← hR, hN.out], far_leave B1 (D := d0) (by rw [hsH.out]; omega) (.deferred none)⟩
     | false =>
      cases et : (kk != tq) with
      | false =>
       simp only [et, Bool.false_eq_true, if_false] at hnk1
       have hN := Lib.hid hnk1
       clear hnk1
       go_wp2_with fail
       go_roundw
       case rel => exact ⟨k + 1, by go_num, by omega, by rw [hN.out]; rw [show pg + ((k + 1 : Nat) : Int) = pg + (k : Int) + 1 by omega], hM1, kG1, kS1, V1, B1, hd1⟩
       case measure => simp [intOf]; omega
      | true =>
       simp only [et, if_true, Bool.false_eq_true, if_false] at hnk1
       have hN := Lib.hid hnk1
       clear hnk1
       go_wp2_with fail
       exact leave_mark (v := .tuple #[.bool false, .int .i64 (pg + (k : Int)), .int .i64 0]) hd1 (by simp [results, Tryz.results22, go_sem]) ⟨by rw [← hR, hN.out], far_leave B1 (D := d0) (by rw [hsH.out]; omega) (.deferred none)⟩
   ·obtain rfl : k = nn := by omega
    have dlt : decide (pg + (k : Int) < pg + (k : Int)) = false := by simp
    rw [Nat.sub_self, fitL] at hfk
    rw [hfk] at hR
    go_wp2_with fail
    exact leave_mark (v := .tuple #[.bool true, .int .i64 (-1), .int .i64 0]) hd9 (by simp [results, Tryz.results22, go_sem]) ⟨by rw [← hR], by have q := far_leave hB9 (D := d0) (by rw [hsH.out]; omega) (.deferred none); rw [hsH.out] at q; exact q⟩
end Go.Proofs.YtjmmgoijnhnnaaaGreat
