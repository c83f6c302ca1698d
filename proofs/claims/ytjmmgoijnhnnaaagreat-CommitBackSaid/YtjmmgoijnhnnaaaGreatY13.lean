/- Merged texts. That the law CommitBack returns true whatever the play is: whatever was done before, Close without refusals leaves all pages free and nothing charged. No condition. -/
import Derived.Test.YtjmmgoijnhnnaaaGreatY12
namespace Go.Pol
open Go Go.RowKit
theorem CmI.closed {V : Vm} {L : List Nd} {r : Cr} (h : CmI V L r) (hn : r.n ≤ 0) : r = cr0 ∧ (∀ p, Go.Pol.kd V p = 0) ∧ (L.getD 1 nd0).own = 0 ∧ (L.getD 1 nd0).all = 0 := by
 rcases h.st with ⟨h1, h2⟩ | ⟨h1, _⟩
 ·have hz : cmN V = 0 := by unfold cmN; exact cntN_none _ _ (fun q _ _ => by rw [h2]; rfl)
  have ho : (L.getD 1 nd0).own = 0 := by rw [h.own, hz]
  refine ⟨h1, h2, ho, ?_⟩
  have h3 := h.two
  rw [h.bok.all 1 (by omega)]
  match L, h3, ho with
  | [a, b], _, ho =>
   simp only [List.getD_cons_succ, List.getD_cons_zero] at ho
   show sumB [b] = 0
   simp only [sumB, ho]; rfl
 ·have := h1.n1; omega
theorem vruns_none {V : Vm} (h : ∀ p, kd V p = 0) : ∀ k, vrunsL V k = []
 | 0 => rfl
 | k + 1 => by rw [vrunsL_succ, if_pos (show (V.pg k).kind = 0 from h k), vruns_none h k]
theorem dat_free {V : Vm} (hP : Plain V) (h : ∀ p, kd V p = 0) : ∀ k, datL V k = []
 | 0 => rfl
 | k + 1 => by
  rw [datL, if_neg, dat_free hP h k]
  unfold nzB
  rw [List.any_eq_true]
  rintro ⟨j, _, hj⟩
  rw [hP.byt k (by rw [h]; decide) j] at hj
  cases hj
theorem PlyAt.plan {W W' : World} {N y bs bb : Nat} {V : Vm} {L : List Nd} {r : Cr} {l : List Ru} (h : PlyAt W N y bs bb V L r) (k : SysTo bs (planF V l) W W') : PlyAt W' N y bs bb (planF V l) L r := by
 have T := BothTo.bySys h.sys h.bud k
 obtain ⟨A, cap, ky, hk, h1, h2⟩ := h.two
 exact ⟨T.sys, T.bud, ⟨A, cap, T.blk h.sys ky (by decide) (by decide), T.kept h.sys hk, h1, h2⟩, h.lo, h.inv.plan l⟩
end Go.Pol
namespace Go.Proofs.YtjmmgoijnhnnaaaGreat
open Go Go.Proofs Go.RowKit Go.Pol Go.Shelf Go.ChangeShapes Go.WideShapes Go.Deep
attribute [local go_sem] Oper.semAt_some Go.Pol.wide_fn Go.Pol.wide_depth Go.Pol.wide_fn' Go.Pol.wide_depth'
abbrev zeroVs : Array Value := #[.slice none 0 0, .slice none 0 0, .slice none 0 0, .slice none 0 0, .int .i64 0, .int .i64 0, .int .i64 0, .int .i64 0, .int .i64 0, .int .i64 0, .int .i64 0, .int .i64 0, .int .i64 0, .int .i64 0, .int .i64 0, .int .i64 0, .int .i64 0, .int .i64 0]
theorem infoVs : (Tryz.prog.info? 87).map (·.size) = some 18 := by kernel_rfl
theorem infoCr : (Tryz.prog.info? 43).map (·.size) = some 9 := by kernel_rfl
theorem far12_any (A1 A2 : Option Addr) (n1 c1 n2 c2 : Nat) (pg n f bk ev lim : Int) (w : World) :
  Calls Tryz.prog 10 #[.agg #[.int .i64 pg, .int .i64 n, .int .i64 f, .int .i64 bk, .int .i64 ev, .int .i64 lim, .slice A1 n1 c1, .slice A2 n2 c2]] w fun e w' => e = .returned (.bool ((decide (100 < n) || decide (30 < (n2 : Int))) || decide (60 < (n1 : Int)))) ∧ Below w.heap.size w w' := by
 have hb0 := (Below.refl w.heap.size w).alloc (Nat.le_refl _) (.cells #[.int .i64 pg, .int .i64 n, .int .i64 f, .int .i64 bk, .int .i64 ev, .int .i64 lim, .slice A1 n1 c1, .slice A2 n2 c2] 31)
 have k0 := Blk.new w 31 #[.int .i64 pg, .int .i64 n, .int .i64 f, .int .i64 bk, .int .i64 ev, .int .i64 lim, .slice A1 n1 c1, .slice A2 n2 c2]
 have c0 := k0.cell
 by_cases h1 : 100 < n
 ·have d1 : decide (100 < n) = true := by simpa using h1
  rw [d1]
  clear h1
  go_enter Tryz.func10, Tryz.ntmps10
  go_wp2_with fail
  go_ret
  exact ⟨rfl, hb0⟩
 have d1 : decide (100 < n) = false := by simpa using h1
 rw [d1]
 clear h1
 by_cases h2 : 30 < (n2 : Int)
 ·have d2 : decide (30 < (n2 : Int)) = true := by simpa using h2
  rw [d2]
  clear h2
  go_enter Tryz.func10, Tryz.ntmps10
  go_wp2_with fail
  go_ret
  exact ⟨rfl, hb0⟩
 have d2 : decide (30 < (n2 : Int)) = false := by simpa using h2
 rw [d2]
 clear h2
 have d3 := Lib.hid (Eq.refl (decide (60 < (n1 : Int))))
 generalize hd : decide (60 < (n1 : Int)) = d at *
 clear d3
 go_enter Tryz.func10, Tryz.ntmps10
 go_wp2_with fail
 go_ret
 exact ⟨by simp, hb0⟩
set_option maxRecDepth 100000 in
set_option maxHeartbeats 6400000 in
theorem backLaw_any (A1 A2 : Option Addr) (n1 c1 n2 c2 : Nat) (pg n f bk ev lim : Int) (l : List Ru) (us : List (Int × Int)) (w : World) (hl : l.length = n1) (hr : Rd w w.heap.size A1 (fl ruC l)) (hz : A1 = none → c1 = 0) (hul : us.length = n2) (hm2 : n2 ≤ maxLen) (hA2 : Rd w w.heap.size A2 (fl acC us))
  (hus : ∀ x ∈ us, 0 ≤ x.1 ∧ x.1 ≤ 255 ∧ -9223372036854775808 ≤ x.2 ∧ x.2 ≤ 9223372036854775807) :
  Calls Tryz.prog 5 #[.agg #[.int .i64 pg, .int .i64 n, .int .i64 f, .int .i64 bk, .int .i64 ev, .int .i64 lim, .slice A1 n1 c1, .slice A2 n2 c2]] w fun e w' => e = .returned (.bool true) ∧ Below w.heap.size w w' := by
 have HFa := Lib.hid (fun W => far12_any A1 A2 n1 c1 n2 c2 pg n f bk ev lim W)
 have hb0 := (Below.refl w.heap.size w).alloc (Nat.le_refl _) (.cells #[.int .i64 pg, .int .i64 n, .int .i64 f, .int .i64 bk, .int .i64 ev, .int .i64 lim, .slice A1 n1 c1, .slice A2 n2 c2] 31)
 have k0 := Blk.new w 31 #[.int .i64 pg, .int .i64 n, .int .i64 f, .int .i64 bk, .int .i64 ev, .int .i64 lim, .slice A1 n1 c1, .slice A2 n2 c2]
 have hA2H := Lib.hid hA2
 have hulH := Lib.hid hul
 have husH := Lib.hid hus
 have hr0 := hr.on_ hb0
 obtain ⟨s, hs⟩ : ∃ s, w.heap.size = s := ⟨_, rfl⟩
 rw [hs] at k0
 clear hA2 hul hus hr
 by_cases hfar : ((decide (100 < n) || decide (30 < (n2 : Int))) || decide (60 < (n1 : Int))) = true
 ·rw [hfar] at HFa
  clear hfar
  go_enter Tryz.func5, Tryz.ntmps5
  go_upto_region 1 with fail
  generalize w.alloc _ = w0 at *
  try simp only [hs]
  have c0 := k0.cell
  go_wp2_with fail
  refine (HFa.out _).mono ?_
  rintro e w1 ⟨rfl, hb1⟩
  have B1 := hb0.trans (hb1.mono hb0.size)
  go_wp2_with fail
  refine (shown_any _).mono ?_
  rintro e w2 ⟨rfl, hb2⟩
  go_wp2_with fail
  go_ret
  exact ⟨rfl, B1.trans (hb2.mono B1.size)⟩
 have hfar' : ((decide (100 < n) || decide (30 < (n2 : Int))) || decide (60 < (n1 : Int))) = false := by simpa using hfar
 rw [hfar'] at HFa
 have hn1 : n1 ≤ 60 := by simp at hfar'; omega
 have hn2 : n2 ≤ 30 := by simp at hfar'; omega
 clear hfar hfar'
 have HPl := Lib.hid (fun W h => played_any A1 A2 n1 c1 n2 c2 pg n f bk ev lim l W hl (by omega) hz h)
 clear hl hz
 go_enter Tryz.func5, Tryz.ntmps5
 go_upto_region 1 with fail
 generalize w.alloc _ = w0 at *
 try simp only [hs]
 have c0 := k0.cell
 go_wp2_with fail
 refine (HFa.out _).mono ?_
 rintro e w1 ⟨rfl, hb1⟩
 have B1 := hb0.trans (hb1.mono hb0.size)
 have k1 := k0.call hb1
 have hr1 := hr0.on_ hb1
 have c1' := k1.cell
 clear c0 k0 hb0 hb1 hr0 HFa
 go_wp2_with fail
 refine (HPl.out _ hr1).mono ?_
 rintro e w2 ⟨hcase, hb2⟩
 have B2 := B1.trans (hb2.mono B1.size)
 have k2 := k1.call hb2
 have hB1 := B1.size
 have hk1s := k1.lt
 have hb2s := hb2.size
 clear c1' k1 hb2 hr1 HPl B1
 rcases hcase with rfl | ⟨y, bs, bb, V, L, rfl, hP⟩
 ·go_wp2_with fail
  refine (shown_any _).mono ?_
  rintro e w3 ⟨rfl, hb3⟩
  go_wp2_with fail
  go_ret
  exact ⟨rfl, B2.trans (hb3.mono B2.size)⟩
 obtain ⟨N, hN⟩ : ∃ N, w1.heap.size = N := ⟨_, rfl⟩
 rw [hN] at hP hB1
 have hsN : s < N := by rw [← hN]; exact hk1s
 have hNw2 : N ≤ w2.heap.size := by rw [← hN]; exact hb2s
 clear hN
 go_upto_region 7 with fail
 go_loopw [5] (fun u wr => ∃ (i : Nat) (V : Vm) (L : List Nd) (r : Cr), u = .int .i64 i ∧ i ≤ n2 ∧ PlyAt wr N y bs bb V L r ∧ Below w.heap.size w wr ∧ N ≤ wr.heap.size ∧ Blk wr s 31 #[.int .i64 pg, .int .i64 n, .int .i64 f, .int .i64 bk, .int .i64 ev, .int .i64 lim, .slice A1 n1 c1, .slice A2 n2 c2]) (fun u _ => n2 - (intOf u).toNat)
 case atStart => exact ⟨0, V, L, _, rfl, by omega, hP, B2, hNw2, k2⟩
 case round =>
  clear k2 B2 hP hNw2
  obtain ⟨i, V, L, r, rfl, hi, hP, hB, hNw, kp⟩ := hrel
  have cp := kp.cell
  obtain ⟨A, cap, ky, hk, hlen, hmax⟩ := hP.two
  have cy := ky.cell
  by_cases hin : i < n2
  ·by_cases hrn : 0 < r.n
   ·have d1 : decide ((i : Int) < (n2 : Int)) = true := by simpa using hin
    have d2 : decide (0 < r.n) = true := by simpa using hrn
    obtain ⟨ab, ao, rfl, hab, hac⟩ := (hA2H.out).elem acC_len (by omega) (0, 0) (k := i) (by have := hulH.out; omega)
    have hx := husH.out (us.getD i (0, 0)) (getD_mem _ (by have := hulH.out; omega))
    generalize us.getD i (0, 0) = x at *
    obtain ⟨xa, xb⟩ := x
    have x0 := (hB.cell (p := ⟨ab, ao + i * 2 + 0, none⟩) hab).trans (hac 0 _ rfl)
    have x1 := (hB.cell (p := ⟨ab, ao + i * 2 + 1, none⟩) hab).trans (hac 1 _ rfl)
    simp only [Nat.add_zero] at x0
    simp only at hx
    as_aux_lemma =>
     have HA := Lib.hid (alone_any N y bs bb V L r xa xb wr hP hNw ⟨hx.1, hx.2.1⟩ hx.2.2.1 hx.2.2.2)
     clear hac ky hk
     go_upto_region 9 with fail
     clear cy
     go_wp2_with fail
     refine HA.out.mono ?_
     rintro e w3 ⟨⟨er, rfl⟩, hP3, hb3⟩
     have kp3 : Blk w3 s 31 _ := (hb3.block s hsN).trans kp
     have B3 := hB.trans (hb3.mono (by omega))
     have hN3 : N ≤ w3.heap.size := Nat.le_trans hNw hb3.size
     generalize acF (V, L, r) (xa, xb) = S at *
     go_wp2_with fail
     go_roundw
     case rel => exact ⟨i + 1, S.1, S.2.1, S.2.2, by go_num, by omega, hP3, B3, hN3, kp3⟩
     case measure => simp [intOf]; omega
   ·have d1 : decide ((i : Int) < (n2 : Int)) = true := by simpa using hin
    have d2 : decide (0 < r.n) = false := by simpa using hrn
    clear ky hk hlen hmax
    as_aux_lemma =>
     go_upto_region 10 with fail
     have HPn := Lib.hid (plan_any bs none 0 0 [] V wr hP.sys rfl (by omega) (fun _ => rfl) (fun k hk => absurd hk (by simp [fl])))
     go_wp2_with fail
     refine HPn.out.mono ?_
     rintro e w4 ⟨rfl, h4⟩
     have hP4 := hP.plan h4
     have B4 := hB.trans (h4.2.below (by have := hB.size; omega) (fun k hk e => by have e : k = bs := e; have := hP.lo; omega))
     have hN4 : N ≤ w4.heap.size := Nat.le_trans hNw h4.2.size
     have kp4 := h4.blk hP.sys kp (by decide)
     have hrl : Hid ((planF V []).rf.rules = []) := Lib.hid rfl
     have dch : ((chkR []).2 != 0) = false := rfl
     generalize planF V [] = V4 at *
     obtain ⟨A, cap, ky, hk, hlen, hmax⟩ := hP4.two
     have cy := ky.cell
     clear h4 hP HPn hB cp hNw kp
     go_upto_region 16 with fail
     obtain rfl : r = cr0 := (hP4.inv.closed (by omega)).1
     have hP5 := hP4
     have B5 := B4
     clear hP4 B4 ky hk hlen hmax cy d1 d2
     obtain ⟨A, cap, ky, hk, hlen, hmax⟩ := hP5.two
     have cy := ky.cell
     obtain ⟨hcr, hfree, hown, hall⟩ := hP5.inv.closed (by simp [cr0])
     have HU := Lib.hid (usedB_any bb 1 L w4 hP5.bud hP5.inv.bok (by rw [hP5.inv.two]; decide))
     rw [hown, hall, show ((1 : Nat) : Int) = 1 from rfl] at HU
     clear hcr hown hall
     go_wp2_with fail
     refine HU.out.mono ?_
     rintro e w6 ⟨rfl, hb6⟩
     have hP6 := hP5.call hb6
     have B6 := B5.trans (hb6.mono B5.size)
     have ky6 := ky.call hb6
     have hk6 := hk.call hb6
     have cy6 := ky6.cell
     clear cy ky hk HU hb6
     go_wp2_with fail
     refine (save_any bs V4 w6 hP6.sys).mono ?_
     rintro e w7 ⟨X, rfl, hX, hb7⟩
     obtain ⟨X1, X2, X3, X4, x1, y1, x2, y2, x3, y3, x4, y4, rfl, q1, _, _, _, q5, _, _, _⟩ := hX.ex
     rw [vruns_none hfree] at q1
     rw [dat_free hP5.inv.pln hfree] at q5
     obtain rfl : 0 = x1 := q1
     obtain rfl : 0 = x3 := q5
     have hP7 := hP6.call hb7
     have B7 := B6.trans (hb7.mono B6.size)
     have ky7 := ky6.call hb7
     have hk7 := hk6.call hb7
     clear cy6 ky6 hk6 hb7 hX hP6 hP5 B5 B6
     obtain ⟨S, hS⟩ : ∃ S, (stC (.slice X1 0 y1) (.slice X2 x2 y2) (.slice X3 0 y3) (.slice X4 x4 y4) V4.rf.calls V4.rf.hits).toArray = S := ⟨_, rfl⟩
     have hSz : S.size = 18 := by rw [← hS]; rfl
     have hS0 : S[0]? = some (.slice X1 0 y1) := by rw [← hS]; rfl
     have hS2 : S[2]? = some (.slice X3 0 y3) := by rw [← hS]; rfl
     have hSo : S.all (·.oneCell') = true := by rw [← hS]; exact Go.all_oneCell_toArray (stC_one rfl rfl rfl rfl _ _)
     have hSi : (Tryz.prog.info? 87).map (·.size) = some S.size := by rw [hSz]; exact infoVs
     rw [hS]
     clear hS
     have kz0 := Blk.new w7 87 zeroVs
     have hba := (Below.refl w7.heap.size w7).alloc (Nat.le_refl _) (.cells zeroVs 87)
     dsimp only [zeroVs] at kz0 hba
     have ky8 := ky7.call hba
     have hk8 := hk7.call hba
     have B8 := B7.trans (hba.mono B7.size)
     obtain ⟨g, hg⟩ : ∃ g, w7.heap.size = g := ⟨_, rfl⟩
     have hgw : w.heap.size ≤ g := by rw [← hg]; exact B7.size
     have hyg : y ≠ g := by have := ky7.lt; omega
     rw [hg] at kz0
     have ht0 := z_there kz0 0 18 (by simp)
     rw [← hSz] at ht0
     go_upto_region 18 with (refine wpList_store_mid rfl 87 (.tmp 8) (.tmp 95) rfl g 0 S rfl rfl ht0 hSi hSo ?_)
     have kzS := Blk.puts (g := g) (t := 87) (w := w7) (cs := #[]) S.toList 0 _ _ kz0
     rw [putA_all (by rw [Array.length_toList, hSz]; rfl), Array.toArray_toList] at kzS
     have FS := Far.puts (T := fun k => k = g) rfl S.toList 0 (w7.alloc (.cells #[.slice none 0 0, .slice none 0 0, .slice none 0 0, .slice none 0 0, .int .i64 0, .int .i64 0, .int .i64 0, .int .i64 0, .int .i64 0, .int .i64 0, .int .i64 0, .int .i64 0, .int .i64 0, .int .i64 0, .int .i64 0, .int .i64 0, .int .i64 0, .int .i64 0] 87)) _ (Far.refl _ _)
     have ky9 := FS.blk ky8 hyg
     have hk9 := hk8.far FS (fun g' cs hG e => by have e : g' = g := e; rw [e] at hG; exact hG.ne kz0 (by decide))
     have B9 := B8.trans (FS.below B8.size (fun k hk e => by have e : k = g := e; omega))
     generalize World.setCells _ g 0 S.toList = w8 at *
     clear kz0 ht0 hSi hSo hSz FS ky8 hk8 B8 hba B7 ky7 hk7 hP7 hyg hgw
     try dsimp only [twC, cr0, List.length_nil] at ky9
     have cz0 := (kzS.cell 0).trans hS0
     have cz2 := (kzS.cell 2).trans hS2
     have cy9 := ky9.cell
     have HS := same12_any cr0 A none cap 0 w8 (by show (0 : Nat) ≤ maxLen; unfold maxLen; omega) hk9.ru RU.nil
     dsimp only [crC, cr0, List.length_nil] at HS
     clear kzS hS0 hS2 ky9 hk9
     go_wp2_with fail
     refine HS.mono ?_
     rintro e w9 ⟨rfl, hb9⟩
     have B10 := B9.trans (hb9.mono B9.size)
     go_wp2_with fail
     refine (shown_any _).mono ?_
     rintro e w10 ⟨rfl, hb10⟩
     go_wp2_with fail
     go_ret
     exact ⟨rfl, B10.trans (hb10.mono B10.size)⟩
  ·obtain rfl : i = n2 := by omega
   have d1 : decide ((i : Int) < (i : Int)) = false := by simp
   clear ky hk hlen hmax
   go_upto_region 10 with fail
   have HPn := Lib.hid (plan_any bs none 0 0 [] V wr hP.sys rfl (by omega) (fun _ => rfl) (fun k hk => absurd hk (by simp [fl])))
   go_wp2_with fail
   refine HPn.out.mono ?_
   rintro e w4 ⟨rfl, h4⟩
   have hP4 := hP.plan h4
   have B4 := hB.trans (h4.2.below (by have := hB.size; omega) (fun k hk e => by have e : k = bs := e; have := hP.lo; omega))
   have hN4 : N ≤ w4.heap.size := Nat.le_trans hNw h4.2.size
   have kp4 := h4.blk hP.sys kp (by decide)
   have hrl : Hid ((planF V []).rf.rules = []) := Lib.hid rfl
   have dch : ((chkR []).2 != 0) = false := rfl
   generalize planF V [] = V4 at *
   obtain ⟨A, cap, ky, hk, hlen, hmax⟩ := hP4.two
   have cy := ky.cell
   clear h4 hP HPn hB cp hNw kp
   by_cases hrn : 0 < r.n
   ·have d2 : decide (0 < r.n) = true := by simpa using hrn
    focus
     have ho : CrOk r := by
      rcases hP4.inv.kept with h | h
      ·rw [h] at hrn; exact absurd hrn (by decide)
      ·exact h
     have HG := Lib.hid (fun W h1 h2 h3 => cmClose_any bs bb V4 L r A cap W h1 hP4.inv.kindOk h2 hP4.inv.bok (hnl_of hP4.inv) hlen hmax h3)
     obtain ⟨hinv, hcl⟩ := hP4.inv.close
     obtain ⟨hce, hcr⟩ := hcl hrl.out ho
     rw [hce] at HG
     generalize closeC V4 L r = S at *
     obtain ⟨sr, se, V5, L5⟩ := S
     simp only at HG hinv hcr
     have hsr := Lib.hid hcr
     clear hcl hce hcr ho hrn
     go_upto_region 13 with fail
     have hbd := (Below.refl w4.heap.size w4).drew
     have V1 := hP4.sys.call hbd
     have Bu1 := hP4.bud.call hbd
     have ky1 := ky.call hbd
     have kx1 := kp4.call hbd
     have hk1 := hk.call hbd
     have B1 := B4.trans (hbd.mono B4.size)
     have hN1 := Nat.le_trans hN4 hbd.size
     refine wp_noPanic ?_
     refine wp_region_T (TwS y bs bb s r (.slice A r.kept.length cap) n) [0, 15, 16, 17, 18, 19, 20] (by kernel_rfl) ?_
     generalize w4.drew = wd at *
     have hS : TwS y bs bb s r (.slice A r.kept.length cap) n wd := ⟨ky1.cell 0, ky1.cell 1, ky1.cell 2, ky1.cell 3, ky1.cell 4, ky1.cell 5, ky1.cell 6, ky1.cell 7, ky1.cell 8, ky1.cell 9, ky1.cell 10, kx1.cell 1⟩
     dsimp only [TwS] at hS ⊢
     refine' wpAnyT_takeV (i := 0) (v := _) ?hiT0sq (by kernel_rfl) ?hQT0sq (Or.inl ⟨?hwT0sq, ?hyT0sq⟩) ?reT0sq
     case hiT0sq => (simp only [List.getElem?_toArray, List.getElem?_cons_zero]; rfl)
     case hQT0sq => exact fun _ _ _ h => h
     case hwT0sq => rfl
     case hyT0sq => (intro wS hSw; go_simp; (try with_reducible rfl))
     try simp only [Act.put, List.setIfInBounds_toArray, List.set_cons_zero, List.set_cons_succ]
     refine' wpAnyT_takeL (i := 1) (v := _) ?hiT1sq (by kernel_rfl) ?hQT1sq (Or.inl ⟨?hwT1sq, ?hyT1sq⟩) hS ?reT1sq
     case hiT1sq => (simp only [List.getElem?_toArray, List.getElem?_cons_succ, List.getElem?_cons_zero]; rfl)
     case hQT1sq => exact fun _ _ _ h => h
     case hwT1sq => rfl
     case hyT1sq => (intro wS hSw; obtain ⟨_, _⟩ := hSw; go_simp; (try with_reducible rfl))
     try simp only [Act.put, List.setIfInBounds_toArray, List.set_cons_zero, List.set_cons_succ]
     refine' wpAnyT_takeL (i := 2) (v := _) ?hiT2sq (by kernel_rfl) ?hQT2sq (Or.inl ⟨?hwT2sq, ?hyT2sq⟩) hS ?reT2sq
     case hiT2sq => (simp only [List.getElem?_toArray, List.getElem?_cons_succ, List.getElem?_cons_zero]; rfl)
     case hQT2sq => exact fun _ _ _ h => h
     case hwT2sq => rfl
     case hyT2sq => (intro wS hSw; obtain ⟨_, _⟩ := hSw; go_simp; (try with_reducible rfl))
     try simp only [Act.put, List.setIfInBounds_toArray, List.set_cons_zero, List.set_cons_succ]
     refine' wpAnyT_takeL (i := 3) (v := _) ?hiT3sq (by kernel_rfl) ?hQT3sq (Or.inl ⟨?hwT3sq, ?hyT3sq⟩) hS ?reT3sq
     case hiT3sq => (simp only [List.getElem?_toArray, List.getElem?_cons_succ, List.getElem?_cons_zero]; rfl)
     case hQT3sq => exact fun _ _ _ h => h
     case hwT3sq => rfl
     case hyT3sq => (intro wS hSw; obtain ⟨_, _⟩ := hSw; go_simp; (try with_reducible rfl))
     try simp only [Act.put, List.setIfInBounds_toArray, List.set_cons_zero, List.set_cons_succ]
     refine' wpAnyT_takeL (i := 4) (v := _) ?hiT4sq (by kernel_rfl) ?hQT4sq (Or.inl ⟨?hwT4sq, ?hyT4sq⟩) hS ?reT4sq
     case hiT4sq => (simp only [List.getElem?_toArray, List.getElem?_cons_succ, List.getElem?_cons_zero]; rfl)
     case hQT4sq => exact fun _ _ _ h => h
     case hwT4sq => rfl
     case hyT4sq => (intro wS hSw; obtain ⟨_, _⟩ := hSw; go_simp; (try with_reducible rfl))
     try simp only [Act.put, List.setIfInBounds_toArray, List.set_cons_zero, List.set_cons_succ]
     refine' wpAnyT_takeL (i := 5) (v := _) ?hiT5sq (by kernel_rfl) ?hQT5sq (Or.inl ⟨?hwT5sq, ?hyT5sq⟩) hS ?reT5sq
     case hiT5sq => (simp only [List.getElem?_toArray, List.getElem?_cons_succ, List.getElem?_cons_zero]; rfl)
     case hQT5sq => exact fun _ _ _ h => h
     case hwT5sq => rfl
     case hyT5sq => (intro wS hSw; obtain ⟨_, _⟩ := hSw; go_simp; (try with_reducible rfl))
     try simp only [Act.put, List.setIfInBounds_toArray, List.set_cons_zero, List.set_cons_succ]
     refine' wpAnyT_takeL (i := 6) (v := _) ?hiT6sq (by kernel_rfl) ?hQT6sq (Or.inl ⟨?hwT6sq, ?hyT6sq⟩) hS ?reT6sq
     case hiT6sq => (simp only [List.getElem?_toArray, List.getElem?_cons_succ, List.getElem?_cons_zero]; rfl)
     case hQT6sq => exact fun _ _ _ h => h
     case hwT6sq => rfl
     case hyT6sq => (intro wS hSw; obtain ⟨_, _⟩ := hSw; go_simp; (try with_reducible rfl))
     try simp only [Act.put, List.setIfInBounds_toArray, List.set_cons_zero, List.set_cons_succ]
     refine' wpAnyT_takeL (i := 7) (v := _) ?hiT7sq (by kernel_rfl) ?hQT7sq (Or.inl ⟨?hwT7sq, ?hyT7sq⟩) hS ?reT7sq
     case hiT7sq => (simp only [List.getElem?_toArray, List.getElem?_cons_succ, List.getElem?_cons_zero]; rfl)
     case hQT7sq => exact fun _ _ _ h => h
     case hwT7sq => rfl
     case hyT7sq => (intro wS hSw; obtain ⟨_, _⟩ := hSw; go_simp; (try with_reducible rfl))
     try simp only [Act.put, List.setIfInBounds_toArray, List.set_cons_zero, List.set_cons_succ]
     refine' wpAnyT_takeL (i := 8) (v := _) ?hiT8sq (by kernel_rfl) ?hQT8sq (Or.inl ⟨?hwT8sq, ?hyT8sq⟩) hS ?reT8sq
     case hiT8sq => (simp only [List.getElem?_toArray, List.getElem?_cons_succ, List.getElem?_cons_zero]; rfl)
     case hQT8sq => exact fun _ _ _ h => h
     case hwT8sq => rfl
     case hyT8sq => (intro wS hSw; obtain ⟨_, _⟩ := hSw; go_simp; (try with_reducible rfl))
     try simp only [Act.put, List.setIfInBounds_toArray, List.set_cons_zero, List.set_cons_succ]
     refine' wpAnyT_takeL (i := 9) (v := _) ?hiT9sq (by kernel_rfl) ?hQT9sq (Or.inl ⟨?hwT9sq, ?hyT9sq⟩) hS ?reT9sq
     case hiT9sq => (simp only [List.getElem?_toArray, List.getElem?_cons_succ, List.getElem?_cons_zero]; rfl)
     case hQT9sq => exact fun _ _ _ h => h
     case hwT9sq => rfl
     case hyT9sq => (intro wS hSw; obtain ⟨_, _⟩ := hSw; go_simp; (try with_reducible rfl))
     try simp only [Act.put, List.setIfInBounds_toArray, List.set_cons_zero, List.set_cons_succ]
     refine' wpAnyT_takeL (i := 10) (v := _) ?hiT10sq (by kernel_rfl) ?hQT10sq (Or.inl ⟨?hwT10sq, ?hyT10sq⟩) hS ?reT10sq
     case hiT10sq => (simp only [List.getElem?_toArray, List.getElem?_cons_succ, List.getElem?_cons_zero]; rfl)
     case hQT10sq => exact fun _ _ _ h => h
     case hwT10sq => rfl
     case hyT10sq => (intro wS hSw; obtain ⟨_, _⟩ := hSw; go_simp; (try with_reducible rfl))
     try simp only [Act.put, List.setIfInBounds_toArray, List.set_cons_zero, List.set_cons_succ]
     refine' wpAnyT_takeL (i := 11) (v := _) ?hiT11sq (by kernel_rfl) ?hQT11sq (Or.inl ⟨?hwT11sq, ?hyT11sq⟩) hS ?reT11sq
     case hiT11sq => (simp only [List.getElem?_toArray, List.getElem?_cons_succ, List.getElem?_cons_zero]; rfl)
     case hQT11sq => exact fun _ _ _ h => h
     case hwT11sq => rfl
     case hyT11sq => (intro wS hSw; obtain ⟨_, _⟩ := hSw; go_simp; (try with_reducible rfl))
     try simp only [Act.put, List.setIfInBounds_toArray, List.set_cons_zero, List.set_cons_succ]
     refine' wpAnyT_takeL (i := 12) (v := _) ?hiT12sq (by kernel_rfl) ?hQT12sq (Or.inl ⟨?hwT12sq, ?hyT12sq⟩) hS ?reT12sq
     case hiT12sq => (simp only [List.getElem?_toArray, List.getElem?_cons_succ, List.getElem?_cons_zero]; rfl)
     case hQT12sq => exact fun _ _ _ h => h
     case hwT12sq => rfl
     case hyT12sq => (intro wS hSw; obtain ⟨_, _⟩ := hSw; go_simp; (try with_reducible rfl))
     try simp only [Act.put, List.setIfInBounds_toArray, List.set_cons_zero, List.set_cons_succ]
     refine wpAnyT_ready (rs := [13]) (by kernel_rfl) (by simp) ?_
     refine' AllReadyT.cons ?hic13sq (fun K hK => ?stc13sq) AllReadyT.nil
     case hic13sq => (simp only [List.getElem?_toArray, List.getElem?_cons_succ, List.getElem?_cons_zero]; rfl)
     go_simp
     refine ((HG.out wd V1 Bu1 hk1)).mono ?_
     rintro (e w2 ⟨v2, rfl, ⟨A2', c2', rfl, hl2, hm2', hk2⟩, T2⟩)
     refine hK.out _ _ (fun _ => (fun (a : Blk w2 y _ _) (b : Blk w2 s _ _) => ⟨a.cell 0, a.cell 1, a.cell 2, a.cell 3, a.cell 4, a.cell 5, a.cell 6, a.cell 7, a.cell 8, a.cell 9, a.cell 10, b.cell 1⟩ : Blk w2 y 49 (twC (some ⟨bs, 0, none⟩) (some ⟨bb, 0, none⟩) r (.slice A r.kept.length cap)) → Blk w2 s 31 #[.int .i64 pg, .int .i64 n, .int .i64 f, .int .i64 bk, .int .i64 ev, .int .i64 lim, .slice A1 n1 c1, .slice A2 i c2] → TwS y bs bb s r (.slice A r.kept.length cap) n w2) (T2.blk V1 ky1 (by decide) (by decide)) (T2.blk V1 kx1 (by decide) (by decide))) (fun hS => ?_)
     clear hK K
     replace hS := hS rfl
     try simp only [Act.put, List.setIfInBounds_toArray, List.set_cons_zero, List.set_cons_succ]
     have ky2 := T2.blk V1 ky1 (by decide) (by decide)
     have hlo := hP4.lo
     have hNw : w.heap.size ≤ N := by omega
     have B2 := B1.trans (T2.far.below (by have := B1.size; omega) (fun k hk e => by rcases e with rfl | ⟨e, _⟩ <;> omega))
     refine' wpAnyT_takeL (i := 14) (v := _) ?hiT14sq (by kernel_rfl) ?hQT14sq (Or.inl ⟨?hwT14sq, ?hyT14sq⟩) hS ?reT14sq
     case hiT14sq => (simp only [List.getElem?_toArray, List.getElem?_cons_succ, List.getElem?_cons_zero]; rfl)
     case hQT14sq => exact fun _ _ _ h => h
     case hwT14sq => rfl
     case hyT14sq => (intro wS hSw; obtain ⟨_, _⟩ := hSw; go_simp; (try with_reducible rfl))
     try simp only [Act.put, List.setIfInBounds_toArray, List.set_cons_zero, List.set_cons_succ]
     refine' wpAnyT_takeV (i := 15) (v := _) ?hiT15sq (by kernel_rfl) ?hQT15sq (Or.inl ⟨?hwT15sq, ?hyT15sq⟩) ?reT15sq
     case hiT15sq => (simp only [List.getElem?_toArray, List.getElem?_cons_succ, List.getElem?_cons_zero]; rfl)
     case hQT15sq => exact fun _ _ _ h => h
     case hwT15sq => rfl
     case hyT15sq => (intro wS hSw; go_simp; (try with_reducible rfl))
     try simp only [Act.put, List.setIfInBounds_toArray, List.set_cons_zero, List.set_cons_succ]
     refine' wpAnyT_takeV (i := 16) (v := _) ?hiT16sq (by kernel_rfl) ?hQT16sq (Or.inl ⟨?hwT16sq, ?hyT16sq⟩) ?reT16sq
     case hiT16sq => (simp only [List.getElem?_toArray, List.getElem?_cons_succ, List.getElem?_cons_zero]; rfl)
     case hQT16sq => exact fun _ _ _ h => h
     case hwT16sq => rfl
     case hyT16sq => (intro wS hSw; go_simp; (try with_reducible rfl))
     try simp only [Act.put, List.setIfInBounds_toArray, List.set_cons_zero, List.set_cons_succ]
     refine' wpAnyT_takeV (i := 17) (v := _) ?hiT17sq (by kernel_rfl) ?hQT17sq (Or.inl ⟨?hwT17sq, ?hyT17sq⟩) ?reT17sq
     case hiT17sq => (simp only [List.getElem?_toArray, List.getElem?_cons_succ, List.getElem?_cons_zero]; rfl)
     case hQT17sq => exact fun _ _ _ h => h
     case hwT17sq => rfl
     case hyT17sq => (intro wS hSw; go_simp; (try with_reducible rfl))
     try simp only [Act.put, List.setIfInBounds_toArray, List.set_cons_zero, List.set_cons_succ]
     refine' wpAnyT_takeV (i := 18) (v := _) ?hiT18sq (by kernel_rfl) ?hQT18sq (Or.inl ⟨?hwT18sq, ?hyT18sq⟩) ?reT18sq
     case hiT18sq => (simp only [List.getElem?_toArray, List.getElem?_cons_succ, List.getElem?_cons_zero]; rfl)
     case hQT18sq => exact fun _ _ _ h => h
     case hwT18sq => rfl
     case hyT18sq => (intro wS hSw; go_simp; (try with_reducible rfl))
     try simp only [Act.put, List.setIfInBounds_toArray, List.set_cons_zero, List.set_cons_succ]
     have F3 := putT_far w2 y sr (.slice A2' sr.kept.length c2')
     have ky3 := putT_blk ky2 sr (.slice A2' sr.kept.length c2')
     have hP5 := PlyAt.putR hlo hinv T2 ky2 hk2 hl2 hm2' F3 ky3
     have B5 := B2.trans (F3.below B2.size (fun k hk e => by have e : k = y := e; omega))
     have ht2 : w2.there y 2 9 := z_there ky2 2 9 (by simp [twC])
     clear hlo hP4 B4 ky hk hlen hmax cy V1 Bu1 ky1 kx1 hk1 B1 hN1 T2 B2 hk2 hl2 hm2' hinv HG hS
     refine wpAnyT_ready (rs := [19]) (by kernel_rfl) (by simp) ?_
     refine' AllReadyT.cons ?hi19sq (fun KK hKK => ?st19sq) AllReadyT.nil
     case hi19sq => (simp only [List.getElem?_toArray, List.getElem?_cons_succ, List.getElem?_cons_zero]; rfl)
     refine Eq.mpr (if_pos rfl) ?_
     refine wp_store_mid 43 (.tmp 79) (.tmp 76) rfl y 2 #[.int .i64 sr.pg, .int .i64 sr.n, .int .i64 sr.f, .int .i64 sr.bk, .int .i64 sr.ev, .int .i64 sr.node, .int .i64 sr.live, .slice A2' sr.kept.length c2', .bool sr.cl] rfl rfl ht2 infoCr (by simp [Value.oneCell']) (hKK.out _ _ (fun h => absurd h (by decide)) (fun hTw => ?_))
     clear hTw
     rw [show w2.setCells y 2 (#[.int .i64 sr.pg, .int .i64 sr.n, .int .i64 sr.f, .int .i64 sr.bk, .int .i64 sr.ev, .int .i64 sr.node, .int .i64 sr.live, .slice A2' sr.kept.length c2', .bool sr.cl] : Array Value).toList = putT w2 y sr (.slice A2' sr.kept.length c2') from rfl]
     clear hKK KK
     generalize putT w2 y sr (.slice A2' sr.kept.length c2') = w5 at *
     obtain rfl := hsr.out
     clear hsr hS
     try simp only [Act.put]
     refine' wpAnyT_takeV (i := 20) (v := _) ?hiT20sq (by kernel_rfl) ?hQT20sq (Or.inl ⟨?hwT20sq, ?hyT20sq⟩) ?reT20sq
     case hiT20sq => (simp only [List.getElem?_toArray, List.getElem?_cons_succ, List.getElem?_cons_zero]; rfl)
     case hQT20sq => exact fun _ _ _ h => h
     case hwT20sq => rfl
     case hyT20sq => (intro wS hSw; go_simp; (try with_reducible rfl))
     try simp only [Act.put, List.setIfInBounds_toArray, List.set_cons_zero, List.set_cons_succ]
     refine wpAnyT_done (by kernel_rfl) ?_ _
     refine noPanic_normal ?_
     go_upto_region 16 with fail
     clear ky2 F3 ky3 ht2
     obtain ⟨A, cap, ky, hk, hlen, hmax⟩ := hP5.two
     have cy := ky.cell
     obtain ⟨hcr, hfree, hown, hall⟩ := hP5.inv.closed (by simp [cr0])
     have HU := Lib.hid (usedB_any bb 1 L5 w5 hP5.bud hP5.inv.bok (by rw [hP5.inv.two]; decide))
     rw [hown, hall, show ((1 : Nat) : Int) = 1 from rfl] at HU
     clear hcr hown hall
     go_wp2_with fail
     refine HU.out.mono ?_
     rintro e w6 ⟨rfl, hb6⟩
     have hP6 := hP5.call hb6
     have B6 := B5.trans (hb6.mono B5.size)
     have ky6 := ky.call hb6
     have hk6 := hk.call hb6
     have cy6 := ky6.cell
     clear cy ky hk HU hb6
     go_wp2_with fail
     refine (save_any bs V5 w6 hP6.sys).mono ?_
     rintro e w7 ⟨X, rfl, hX, hb7⟩
     obtain ⟨X1, X2, X3, X4, x1, y1, x2, y2, x3, y3, x4, y4, rfl, q1, _, _, _, q5, _, _, _⟩ := hX.ex
     rw [vruns_none hfree] at q1
     rw [dat_free hP5.inv.pln hfree] at q5
     obtain rfl : 0 = x1 := q1
     obtain rfl : 0 = x3 := q5
     have hP7 := hP6.call hb7
     have B7 := B6.trans (hb7.mono B6.size)
     have ky7 := ky6.call hb7
     have hk7 := hk6.call hb7
     clear cy6 ky6 hk6 hb7 hX hP6 hP5 B5 B6
     obtain ⟨S, hS⟩ : ∃ S, (stC (.slice X1 0 y1) (.slice X2 x2 y2) (.slice X3 0 y3) (.slice X4 x4 y4) V5.rf.calls V5.rf.hits).toArray = S := ⟨_, rfl⟩
     have hSz : S.size = 18 := by rw [← hS]; rfl
     have hS0 : S[0]? = some (.slice X1 0 y1) := by rw [← hS]; rfl
     have hS2 : S[2]? = some (.slice X3 0 y3) := by rw [← hS]; rfl
     have hSo : S.all (·.oneCell') = true := by rw [← hS]; exact Go.all_oneCell_toArray (stC_one rfl rfl rfl rfl _ _)
     have hSi : (Tryz.prog.info? 87).map (·.size) = some S.size := by rw [hSz]; exact infoVs
     rw [hS]
     clear hS
     have kz0 := Blk.new w7 87 zeroVs
     have hba := (Below.refl w7.heap.size w7).alloc (Nat.le_refl _) (.cells zeroVs 87)
     dsimp only [zeroVs] at kz0 hba
     have ky8 := ky7.call hba
     have hk8 := hk7.call hba
     have B8 := B7.trans (hba.mono B7.size)
     obtain ⟨g, hg⟩ : ∃ g, w7.heap.size = g := ⟨_, rfl⟩
     have hgw : w.heap.size ≤ g := by rw [← hg]; exact B7.size
     have hyg : y ≠ g := by have := ky7.lt; omega
     rw [hg] at kz0
     have ht0 := z_there kz0 0 18 (by simp)
     rw [← hSz] at ht0
     go_upto_region 18 with (refine wpList_store_mid rfl 87 (.tmp 8) (.tmp 95) rfl g 0 S rfl rfl ht0 hSi hSo ?_)
     have kzS := Blk.puts (g := g) (t := 87) (w := w7) (cs := #[]) S.toList 0 _ _ kz0
     rw [putA_all (by rw [Array.length_toList, hSz]; rfl), Array.toArray_toList] at kzS
     have FS := Far.puts (T := fun k => k = g) rfl S.toList 0 (w7.alloc (.cells #[.slice none 0 0, .slice none 0 0, .slice none 0 0, .slice none 0 0, .int .i64 0, .int .i64 0, .int .i64 0, .int .i64 0, .int .i64 0, .int .i64 0, .int .i64 0, .int .i64 0, .int .i64 0, .int .i64 0, .int .i64 0, .int .i64 0, .int .i64 0, .int .i64 0] 87)) _ (Far.refl _ _)
     have ky9 := FS.blk ky8 hyg
     have hk9 := hk8.far FS (fun g' cs hG e => by have e : g' = g := e; rw [e] at hG; exact hG.ne kz0 (by decide))
     have B9 := B8.trans (FS.below B8.size (fun k hk e => by have e : k = g := e; omega))
     generalize World.setCells _ g 0 S.toList = w8 at *
     clear kz0 ht0 hSi hSo hSz FS ky8 hk8 B8 hba B7 ky7 hk7 hP7 hyg hgw
     try dsimp only [twC, cr0, List.length_nil] at ky9
     have cz0 := (kzS.cell 0).trans hS0
     have cz2 := (kzS.cell 2).trans hS2
     have cy9 := ky9.cell
     have HS := same12_any cr0 A none cap 0 w8 (by show (0 : Nat) ≤ maxLen; unfold maxLen; omega) hk9.ru RU.nil
     dsimp only [crC, cr0, List.length_nil] at HS
     clear kzS hS0 hS2 ky9 hk9
     go_wp2_with fail
     refine HS.mono ?_
     rintro e w9 ⟨rfl, hb9⟩
     have B10 := B9.trans (hb9.mono B9.size)
     go_wp2_with fail
     refine (shown_any _).mono ?_
     rintro e w10 ⟨rfl, hb10⟩
     go_wp2_with fail
     go_ret
     exact ⟨rfl, B10.trans (hb10.mono B10.size)⟩
   ·have d2 : decide (0 < r.n) = false := by simpa using hrn
    as_aux_lemma =>
     go_upto_region 16 with fail
     obtain rfl : r = cr0 := (hP4.inv.closed (by omega)).1
     have hP5 := hP4
     have B5 := B4
     clear hP4 B4 ky hk hlen hmax cy d1 d2
     obtain ⟨A, cap, ky, hk, hlen, hmax⟩ := hP5.two
     have cy := ky.cell
     obtain ⟨hcr, hfree, hown, hall⟩ := hP5.inv.closed (by simp [cr0])
     have HU := Lib.hid (usedB_any bb 1 L w4 hP5.bud hP5.inv.bok (by rw [hP5.inv.two]; decide))
     rw [hown, hall, show ((1 : Nat) : Int) = 1 from rfl] at HU
     clear hcr hown hall
     go_wp2_with fail
     refine HU.out.mono ?_
     rintro e w6 ⟨rfl, hb6⟩
     have hP6 := hP5.call hb6
     have B6 := B5.trans (hb6.mono B5.size)
     have ky6 := ky.call hb6
     have hk6 := hk.call hb6
     have cy6 := ky6.cell
     clear cy ky hk HU hb6
     go_wp2_with fail
     refine (save_any bs V4 w6 hP6.sys).mono ?_
     rintro e w7 ⟨X, rfl, hX, hb7⟩
     obtain ⟨X1, X2, X3, X4, x1, y1, x2, y2, x3, y3, x4, y4, rfl, q1, _, _, _, q5, _, _, _⟩ := hX.ex
     rw [vruns_none hfree] at q1
     rw [dat_free hP5.inv.pln hfree] at q5
     obtain rfl : 0 = x1 := q1
     obtain rfl : 0 = x3 := q5
     have hP7 := hP6.call hb7
     have B7 := B6.trans (hb7.mono B6.size)
     have ky7 := ky6.call hb7
     have hk7 := hk6.call hb7
     clear cy6 ky6 hk6 hb7 hX hP6 hP5 B5 B6
     obtain ⟨S, hS⟩ : ∃ S, (stC (.slice X1 0 y1) (.slice X2 x2 y2) (.slice X3 0 y3) (.slice X4 x4 y4) V4.rf.calls V4.rf.hits).toArray = S := ⟨_, rfl⟩
     have hSz : S.size = 18 := by rw [← hS]; rfl
     have hS0 : S[0]? = some (.slice X1 0 y1) := by rw [← hS]; rfl
     have hS2 : S[2]? = some (.slice X3 0 y3) := by rw [← hS]; rfl
     have hSo : S.all (·.oneCell') = true := by rw [← hS]; exact Go.all_oneCell_toArray (stC_one rfl rfl rfl rfl _ _)
     have hSi : (Tryz.prog.info? 87).map (·.size) = some S.size := by rw [hSz]; exact infoVs
     rw [hS]
     clear hS
     have kz0 := Blk.new w7 87 zeroVs
     have hba := (Below.refl w7.heap.size w7).alloc (Nat.le_refl _) (.cells zeroVs 87)
     dsimp only [zeroVs] at kz0 hba
     have ky8 := ky7.call hba
     have hk8 := hk7.call hba
     have B8 := B7.trans (hba.mono B7.size)
     obtain ⟨g, hg⟩ : ∃ g, w7.heap.size = g := ⟨_, rfl⟩
     have hgw : w.heap.size ≤ g := by rw [← hg]; exact B7.size
     have hyg : y ≠ g := by have := ky7.lt; omega
     rw [hg] at kz0
     have ht0 := z_there kz0 0 18 (by simp)
     rw [← hSz] at ht0
     go_upto_region 18 with (refine wpList_store_mid rfl 87 (.tmp 8) (.tmp 95) rfl g 0 S rfl rfl ht0 hSi hSo ?_)
     have kzS := Blk.puts (g := g) (t := 87) (w := w7) (cs := #[]) S.toList 0 _ _ kz0
     rw [putA_all (by rw [Array.length_toList, hSz]; rfl), Array.toArray_toList] at kzS
     have FS := Far.puts (T := fun k => k = g) rfl S.toList 0 (w7.alloc (.cells #[.slice none 0 0, .slice none 0 0, .slice none 0 0, .slice none 0 0, .int .i64 0, .int .i64 0, .int .i64 0, .int .i64 0, .int .i64 0, .int .i64 0, .int .i64 0, .int .i64 0, .int .i64 0, .int .i64 0, .int .i64 0, .int .i64 0, .int .i64 0, .int .i64 0] 87)) _ (Far.refl _ _)
     have ky9 := FS.blk ky8 hyg
     have hk9 := hk8.far FS (fun g' cs hG e => by have e : g' = g := e; rw [e] at hG; exact hG.ne kz0 (by decide))
     have B9 := B8.trans (FS.below B8.size (fun k hk e => by have e : k = g := e; omega))
     generalize World.setCells _ g 0 S.toList = w8 at *
     clear kz0 ht0 hSi hSo hSz FS ky8 hk8 B8 hba B7 ky7 hk7 hP7 hyg hgw
     try dsimp only [twC, cr0, List.length_nil] at ky9
     have cz0 := (kzS.cell 0).trans hS0
     have cz2 := (kzS.cell 2).trans hS2
     have cy9 := ky9.cell
     have HS := same12_any cr0 A none cap 0 w8 (by show (0 : Nat) ≤ maxLen; unfold maxLen; omega) hk9.ru RU.nil
     dsimp only [crC, cr0, List.length_nil] at HS
     clear kzS hS0 hS2 ky9 hk9
     go_wp2_with fail
     refine HS.mono ?_
     rintro e w9 ⟨rfl, hb9⟩
     have B10 := B9.trans (hb9.mono B9.size)
     go_wp2_with fail
     refine (shown_any _).mono ?_
     rintro e w10 ⟨rfl, hb10⟩
     go_wp2_with fail
     go_ret
     exact ⟨rfl, B10.trans (hb10.mono B10.size)⟩
end Go.Proofs.YtjmmgoijnhnnaaaGreat
