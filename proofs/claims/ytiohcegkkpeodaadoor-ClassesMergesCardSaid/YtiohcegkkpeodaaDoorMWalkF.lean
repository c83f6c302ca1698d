/- Walks: the reference's times, Merge, Same and Order. -/
import Derived.Test.YtiohcegkkpeodaaDoorMWalkC
import Derived.Test.YtiohcegkkpeodaaDoorWalkR
namespace Go.Pol
theorem timesF_drop (us : List (Int × Int)) (s : Int) (k : Nat) (h : k < us.length) : timesF (us.drop k) s = if (us.getD k (0,0)).1 = s then (us.getD k (0,0)).2 else timesF (us.drop (k+1)) s := by
  rw [drop_cons' (0,0) us k h, timesF]
theorem timesF_bound {us : List (Int × Int)} (h : okU us) (s : Int) : 0 ≤ timesF us s ∧ timesF us s ≤ 1000000 := by
  have hm := fun u (hu : u ∈ us) => okU_mem h hu
  clear h
  induction us with
  | nil => simp [timesF]
  | cons u r ih =>
    rw [timesF]
    split
    · have := hm u (by simp); omega
    · exact ih (fun v hv => hm v (by simp [hv]))
end Go.Pol
namespace Go.Proofs.YtiohcegkkpeodaaDoor
open Go Go.Proofs Go.RowKit Go.Pol

theorem times_any (A : Option Addr) (n cap : Nat) (us : List (Int × Int)) (s : Int) (w : World) (hn : us.length = n) (hm : n ≤ maxLen) (hr : RU w w.heap.size A us) :
    Calls Tryd.prog 31 #[.slice A n cap, .int .i64 s] w fun e w' => e = .returned (.int .i64 (timesF us s)) ∧ w' = w := by
  unfold maxLen at hm
  obtain ⟨R, hR⟩ : ∃ R, timesF us s = R := ⟨_, rfl⟩
  rw [hR]
  have hn' := Lib.hid hn
  have hR' := Lib.hid hR
  clear hn hR
  go_enter Tryd.func31, Tryd.ntmps31
  go_wp2_with fail
  go_loopw [5] (fun i wr => ∃ k : Nat, k ≤ n ∧ i = .int .i64 k ∧ wr = w ∧ Hid (timesF (us.drop k) s = R)) (fun i _ => n - (intOf i).toNat)
  case atStart => exact ⟨0, by omega, rfl, rfl, by simpa using hR'⟩
  case round =>
    obtain ⟨k, hk, rfl, hw, hH⟩ := hrel
    have hw' := hw.symm
    clear hw
    subst hw'
    by_cases hlt : k < n
    · have hlt' : decide ((k : Int) < (n : Int)) = true := by simpa using hlt
      have hst := hH.out
      rw [timesF_drop us s k (by have := hn'.out; omega)] at hst
      obtain ⟨b, o, rfl, _, c1, c2⟩ := RU.at_' hr (k := k) (by have := hn'.out; omega)
      generalize us.getD k (0,0) = x at *
      obtain ⟨xa, xb⟩ := x
      dsimp only at hst c1 c2
      by_cases he : xa = s
      · have he' : (xa == s) = true := by simpa using he
        rw [if_pos he] at hst
        have hst' := Lib.hid hst
        clear hst he hH
        go_wp2_with fail
        go_ret
        exact ⟨ret_int hst'.out, rfl⟩
      · have he' : (xa == s) = false := by simpa using he
        rw [if_neg he] at hst
        have hst' := Lib.hid hst
        clear hst he hH
        go_wp2_with fail
        go_roundw
        case rel => exact ⟨k + 1, by omega, by go_num, by first | rfl | trivial, hst'⟩
        case measure => simp [intOf]; omega
    · obtain rfl : k = n := by omega
      have hlt' : decide ((k : Int) < (k : Int)) = false := by simp
      have hst := hH.out
      rw [List.drop_of_length_le (by have := hn'.out; omega)] at hst
      have hst' := Lib.hid (show 0 = R from hst)
      clear hst hH
      go_wp2_with fail
      go_ret
      exact ⟨ret_int hst'.out, rfl⟩

theorem refL_succ (us vs : List (Int × Int)) (k : Nat) : refL us vs (k + 1) = if 0 < timesF us ((k : Int) + 1) + timesF vs ((k : Int) + 1) then refL us vs k ++ [((k : Int) + 1, timesF us ((k : Int) + 1) + timesF vs ((k : Int) + 1))] else refL us vs k := rfl
set_option maxRecDepth 100000 in
set_option maxHeartbeats 3200000 in
theorem refMergeOk_any (A1 A2 : Option Addr) (n1 c1 n2 c2 : Nat) (us vs : List (Int × Int)) (w : World) (hn1 : us.length = n1) (hm1 : n1 ≤ maxLen) (hr1 : RU w w.heap.size A1 us) (hn2 : vs.length = n2) (hm2 : n2 ≤ maxLen) (hr2 : RU w w.heap.size A2 vs) (h1 : chkU us = 0) (h2 : chkU vs = 0) :
    Calls Tryd.prog 14 #[.slice A1 n1 c1, .slice A2 n2 c2] w (MergeR (mergeT us vs) w) := by
  have hU := chkU_ok h1
  have hV := chkU_ok h2
  obtain ⟨i0, hi, hz0, hy1, hy2⟩ := infoSz_parts
  have HU := Lib.hid (fun W (h : RU W W.heap.size A1 us) => refCheckUse_any A1 n1 c1 us W hn1 hm1 h)
  have HV := Lib.hid (fun W (h : RU W W.heap.size A2 vs) => refCheckUse_any A2 n2 c2 vs W hn2 hm2 h)
  have HT1 := Lib.hid (fun s W (h : RU W W.heap.size A1 us) => times_any A1 n1 c1 us s W hn1 hm1 h)
  have HT2 := Lib.hid (fun s W (h : RU W W.heap.size A2 vs) => times_any A2 n2 c2 vs s W hn2 hm2 h)
  rw [h1] at HU
  rw [h2] at HV
  obtain ⟨N, hN⟩ : ∃ N : Nat, N = 4096 := ⟨_, rfl⟩
  have hM := Lib.hid (show mergeT us vs = if 200 < (refL us vs N).length then ([], 3) else if bigU (refL us vs N) = true then ([], 7) else (refL us vs N, 0) from by unfold mergeT; rw [if_pos h1, if_pos h2, hN])
  have hbU := Lib.hid (fun s => timesF_bound hU s)
  have hbV := Lib.hid (fun s => timesF_bound hV s)
  have hN' := Lib.hid hN
  clear h1 h2 hU hV hn1 hn2 hm1 hm2
  generalize mergeT us vs = R at *
  go_enter Tryd.func14, Tryd.ntmps14
  go_wp2_with fail
  refine (HU.out _ hr1).mono ?_
  rintro e w1 ⟨rfl, hb1⟩
  have hr1a := hr1.on hb1
  have hr2a := hr2.on hb1
  go_wp2_with fail
  refine (HV.out _ hr2a).mono ?_
  rintro e w2 ⟨rfl, hb2⟩
  have B2 := hb1.trans (hb2.mono hb1.size)
  have hr1b := hr1a.on hb2
  have hr2b := hr2a.on hb2
  clear hr1 hr2 hr1a hr2a hb1 hb2 HU HV
  go_wp2_with fail
  go_loopw [7, 8, 9] (fun v g i wq => ∃ k : Nat, k ≤ 4096 ∧ i = .int .i64 ((k : Int) + 1) ∧ wq.ownsRow w2.heap.size 48 2 v (refL us vs k).length (spCells (refL us vs k)) ∧ g = .bool (bigU (refL us vs k)) ∧ Below w2.heap.size w2 wq) (fun _ _ i _ => 4097 - (intOf i).toNat)
  case atStart => exact ⟨0, by omega, rfl, by simpa [refL, spCells] using World.ownsRow_nil _ _ _ _, rfl, Below.refl _ _⟩
  case round =>
    obtain ⟨k, hk, rfl, hrow2, rfl, hBq⟩ := hrel
    have hBs := hBq.size
    by_cases hlt : k < 4096
    · have hlt' : decide ((k : Int) + 1 ≤ 4096) = true := by simp; omega
      have T1 := Lib.hid (HT1.out ((k : Int) + 1) wr (hr1b.on hBq))
      have T2 := Lib.hid (HT2.out ((k : Int) + 1) wr (hr2b.on hBq))
      have hb1 := hbU.out ((k : Int) + 1)
      have hb2 := hbV.out ((k : Int) + 1)
      have hS := refL_succ us vs k
      have hlen := refL_len us vs k
      generalize timesF us ((k : Int) + 1) = t1 at *
      generalize timesF vs ((k : Int) + 1) = t2 at *
      by_cases hp : 0 < t1 + t2
      · rw [if_pos hp] at hS
        have hS' := Lib.hid hS
        have hp' : decide (0 < t1 + t2) = true := by simpa using hp
        have hbig : Hid ((bigU (refL us vs k) || decide (1000000 < t1 + t2)) = bigU (refL us vs (k + 1))) := Lib.hid (by rw [hS, bigU_snoc])
        clear hS hp
        generalize hL : refL us vs k = L at *
        clear hL
        generalize bigU L = gb at *
        go_wp2_with fail
        refine T1.out.mono ?_
        rintro e wr ⟨rfl, rfl⟩
        go_wp2_with fail
        refine T2.out.mono ?_
        rintro e wr ⟨rfl, rfl⟩
        go_upto_region 13 with fail
        have kN := Blk.new wr 48 #[.int .i64 ((k : Int) + 1), .int .i64 (t1 + t2)]
        go_upto_region 14 with (refine wpList_append_own _ rfl (.tmp 33) (.tmp 37) 31 rfl w2.heap.size 48 i0 (.agg #[.int .i64 0, .int .i64 0]) 2 16 Tryd.underlying31 hi hz0 hy1 hy2 rfl (by decide) _ L.length (spCells L) rfl (hrow2.alloc _) ⟨wr.heap.size, 0, none⟩ 1 1 [.int .i64 ((k : Int) + 1), .int .i64 (t1 + t2)] rfl rfl (news_two kN) news_one2 (by unfold maxLen; omega) (by omega) (by simp; omega) ?_; intro v' w6 hown' hgrow _)
        rw [← spCells_snoc L ((k : Int) + 1, t1 + t2)] at hown'
        have hend : Hid ((L ++ [((k : Int) + 1, t1 + t2)]).length = L.length + 1) := Lib.hid (by simp)
        have B6 := (hBq.alloc hBs _).grown hgrow (by simp; omega) (fun j hj => (hrow2.lt j hj).1)
        cases gb
        · go_wp2_with fail
          go_roundw
          case rel => exact ⟨k + 1, by omega, by go_num, by rw [hS'.out, hend.out]; exact hown', by rw [← hbig.out]; rfl, B6⟩
          case measure => simp [intOf]; omega
        · go_wp2_with fail
          go_roundw
          case rel => exact ⟨k + 1, by omega, by go_num, by rw [hS'.out, hend.out]; exact hown', by rw [← hbig.out]; rfl, B6⟩
          case measure => simp [intOf]; omega
      · rw [if_neg hp] at hS
        have hS' := Lib.hid hS
        have hp' : decide (0 < t1 + t2) = false := by simpa using hp
        clear hS hp
        go_wp2_with fail
        refine T1.out.mono ?_
        rintro e wr ⟨rfl, rfl⟩
        go_wp2_with fail
        refine T2.out.mono ?_
        rintro e wr ⟨rfl, rfl⟩
        go_wp2_with fail
        go_roundw
        case rel => exact ⟨k + 1, by omega, by go_num, by rw [hS'.out]; exact hrow2, by rw [hS'.out], hBq⟩
        case measure => simp [intOf]; omega
    · obtain rfl : k = N := by omega
      have hlt' : decide ((k : Int) + 1 ≤ 4096) = false := by simp; omega
      obtain ⟨m, hm⟩ : ∃ m, (refL us vs k).length = m := ⟨_, rfl⟩
      have hlq := refL_len us vs k
      have hRo := hM.out
      rw [hm] at hrow2 hlq hRo
      obtain ⟨A9, c9, e9, hru, hc9, hc9', _, _⟩ := own_RU hrow2 hm
      subst e9
      have hRo' := Lib.hid hRo
      have hm' := Lib.hid hm
      have hru' := Lib.hid hru
      have hBB := B2.trans (hBq.mono B2.size)
      clear hRo hm hrow2 hru hM hr1b hr2b HT1 HT2 hbU hbV
      generalize refL us vs k = L at *
      generalize bigU L = gb at *
      by_cases hl : 200 < m
      · have hl' : decide ((200 : Int) < (m : Int)) = true := by simp; omega
        have e2 := Lib.hid (show R = ([], 3) by rw [hRo'.out, if_pos hl])
        clear hRo'
        go_wp2_with fail
        go_ret2
        rw [e2.out]
        exact mergeR_err hBB
      · have hl' : decide ((200 : Int) < (m : Int)) = false := by simp; omega
        have e0 : Hid (gb = false → R = (L, 0)) := Lib.hid (fun h => by rw [hRo'.out, if_neg hl, h]; rfl)
        have e1 : Hid (gb = true → R = ([], 7)) := Lib.hid (fun h => by rw [hRo'.out, if_neg hl, h]; rfl)
        cases gb
        · have e2 := Lib.hid (e0.out rfl)
          clear e0 e1 hRo'
          go_wp2_with fail
          go_ret2
          rw [e2.out]
          exact ⟨A9, c9, by rw [hm'.out]; rfl, hru'.out, by rw [hm'.out]; exact hc9, hc9', hBB⟩
        · have e2 := Lib.hid (e1.out rfl)
          clear e0 e1 hRo'
          go_wp2_with fail
          go_ret2
          rw [e2.out]
          exact mergeR_err hBB

set_option maxRecDepth 100000 in
theorem refMergeErr_any (A1 A2 : Option Addr) (n1 c1 n2 c2 : Nat) (us vs : List (Int × Int)) (w : World) (hn1 : us.length = n1) (hm1 : n1 ≤ maxLen) (hr1 : RU w w.heap.size A1 us) (hn2 : vs.length = n2) (hm2 : n2 ≤ maxLen) (hr2 : RU w w.heap.size A2 vs) (hbad : ¬ (chkU us = 0 ∧ chkU vs = 0)) :
    Calls Tryd.prog 14 #[.slice A1 n1 c1, .slice A2 n2 c2] w (MergeR (mergeT us vs) w) := by
  have HU := Lib.hid (fun W (h : RU W W.heap.size A1 us) => refCheckUse_any A1 n1 c1 us W hn1 hm1 h)
  have HV := Lib.hid (fun W (h : RU W W.heap.size A2 vs) => refCheckUse_any A2 n2 c2 vs W hn2 hm2 h)
  by_cases h1 : chkU us = 0
  · have h2 : chkU vs ≠ 0 := fun h => hbad ⟨h1, h⟩
    have hE : Hid (mergeT us vs = ([], chkU vs)) := Lib.hid (by unfold mergeT; rw [if_pos h1, if_neg h2])
    have h1' : (chkU us == 0) = true := by simp [h1]
    have h2' : (chkU vs != 0) = true := by simpa using h2
    clear h1 h2 hbad hn1 hn2
    generalize mergeT us vs = R at *
    generalize chkU us = cu at *
    generalize chkU vs = cv at *
    go_enter Tryd.func14, Tryd.ntmps14
    go_wp2_with fail
    refine (HU.out _ hr1).mono ?_
    rintro e w1 ⟨rfl, hb1⟩
    go_wp2_with fail
    refine (HV.out _ (hr2.on hb1)).mono ?_
    rintro e w2 ⟨rfl, hb2⟩
    go_wp2_with fail
    go_ret2
    rw [hE.out]
    exact mergeR_err (hb1.trans (hb2.mono hb1.size))
  · have hE : Hid (mergeT us vs = ([], chkU us)) := Lib.hid (by unfold mergeT; rw [if_neg h1])
    have h1' : (chkU us == 0) = false := by simpa using h1
    have h1'' : (chkU us != 0) = true := by simpa using h1
    clear h1 hbad hn1 hn2 HV
    generalize mergeT us vs = R at *
    generalize chkU us = cu at *
    go_enter Tryd.func14, Tryd.ntmps14
    go_wp2_with fail
    refine (HU.out _ hr1).mono ?_
    rintro e w1 ⟨rfl, hb1⟩
    go_wp2_with fail
    go_ret2
    rw [hE.out]
    exact mergeR_err hb1
theorem refMerge_any (A1 A2 : Option Addr) (n1 c1 n2 c2 : Nat) (us vs : List (Int × Int)) (w : World) (hn1 : us.length = n1) (hm1 : n1 ≤ maxLen) (hr1 : RU w w.heap.size A1 us) (hn2 : vs.length = n2) (hm2 : n2 ≤ maxLen) (hr2 : RU w w.heap.size A2 vs) :
    Calls Tryd.prog 14 #[.slice A1 n1 c1, .slice A2 n2 c2] w (MergeR (mergeT us vs) w) := by
  by_cases h : chkU us = 0 ∧ chkU vs = 0
  · exact refMergeOk_any A1 A2 n1 c1 n2 c2 us vs w hn1 hm1 hr1 hn2 hm2 hr2 h.1 h.2
  · exact refMergeErr_any A1 A2 n1 c1 n2 c2 us vs w hn1 hm1 hr1 hn2 hm2 hr2 h
set_option maxRecDepth 100000 in
theorem eqSz (x1 x2 y1 y2 : Int) (w : World) : (Op.equalIn 10000 48 (.agg #[.int .i64 x1, .int .i64 x2]) (.agg #[.int .i64 y1, .int .i64 y2])).run Tryd.prog w = .ok (decide (x1 = y1 ∧ x2 = y2)) w := by
  have u3 := Tryd.underlying3
  have a3 := Tryd.isAgg3
  have z3 := Tryd.sizeOf3
  have u2 := Tryd.underlying2
  have a2 := Tryd.isAgg2
  have z2 := Tryd.sizeOf2
  rw [show (10000 : Nat) = 9999 + 1 from rfl]
  by_cases h1 : x1 = y1 <;> by_cases h2 : x2 = y2 <;> go_simp <;> simp [h1, h2]
set_option maxHeartbeats 400000 in
theorem sameU_any (A B : Option Addr) (n m cap cap' : Nat) (xs ys : List (Int × Int)) (w : World) (hn : xs.length = n) (hm : n ≤ maxLen) (hn2 : ys.length = m) (hm2 : m ≤ maxLen) (hr : RU w w.heap.size A xs) (hs : RU w w.heap.size B ys) :
    Calls Tryd.prog 16 #[.slice A n cap, .slice B m cap'] w fun e w' => e = .returned (.bool (decide (xs = ys))) ∧ Below w.heap.size w w' := by
  unfold maxLen at hm hm2
  have hn' := Lib.hid hn
  have hm' := Lib.hid hn2
  clear hn hn2
  by_cases hnm : n = m
  case neg =>
    have hne : ((n : Int) != m) = true := by rw [bne_iff_ne]; omega
    have H : Hid (decide (xs = ys) = false) := Lib.hid (by rw [decide_eq_false_iff_not]; rintro rfl; exact hnm (hn'.out.symm.trans hm'.out))
    go_enter Tryd.func16, Tryd.ntmps16
    go_wp2
    go_ret
    exact ⟨ret_bool H.out.symm, Below.refl _ _⟩
  case pos =>
    subst hnm
    have hne : ((n : Int) != n) = false := by simp
    go_enter Tryd.func16, Tryd.ntmps16
    go_wp2
    go_loopw [5] (fun i wr => ∃ (k : Int), 0 ≤ k ∧ k ≤ n ∧ i = .int .i64 k ∧ Below w.heap.size w wr ∧ Hid (xs = ys ↔ xs.drop k.toNat = ys.drop k.toNat)) (fun i _ => n - (intOf i).toNat)
    case atStart => exact ⟨0, by omega, by omega, rfl, Below.refl _ _, Lib.hid (by simp)⟩
    case round =>
      obtain ⟨k, hk1, hk, rfl, hB, hL⟩ := hrel
      have hr1 := hr.below hB
      have hs1 := hs.below hB
      by_cases hlt : k < n
      · have hlt' : decide (k < (n : Int)) = true := by simpa using hlt
        obtain ⟨b, o, rfl, _, hc, hd⟩ := RU.at_' hr1 (k := k.toNat) (by have := hn'.out; omega)
        obtain ⟨b2, o2, rfl, _, hc2, hd2⟩ := RU.at_' hs1 (k := k.toNat) (by have := hm'.out; omega)
        have hd1 := Lib.hid (drop_cons (0,0) xs k.toNat (by have := hn'.out; omega))
        have hd2' := Lib.hid (drop_cons (0,0) ys k.toNat (by have := hm'.out; omega))
        have hsucc : Hid ((k+1).toNat = k.toNat + 1) := Lib.hid (by omega)
        generalize xs.getD k.toNat (0,0) = x at *
        generalize ys.getD k.toNat (0,0) = y at *
        obtain ⟨x1, x2⟩ := x
        obtain ⟨y1, y2⟩ := y
        dsimp only at hc hd hc2 hd2
        have hcx := fun y : Ext wr => y.cell hc
        have hcy := fun y : Ext wr => y.cell hc2
        have hdx := fun y : Ext wr => y.cell hd
        have hdy := fun y : Ext wr => y.cell hd2
        have hq := fun (W : World) => eqSz x1 x2 y1 y2 W
        by_cases hxy : x1 = y1 ∧ x2 = y2
        · have hxy' : decide (x1 = y1 ∧ x2 = y2) = true := by simpa using hxy
          have hst : Hid (xs = ys ↔ xs.drop (k+1).toNat = ys.drop (k+1).toNat) := Lib.hid (by rw [hL.out, hd1.out, hd2'.out, hsucc.out]; simp [hxy])
          rw [hxy'] at hq
          clear hxy hxy'
          go_upto_region 6 with fail
          refine region_ext (by kernel_rfl) (by kernel_rfl) ?_
          repeat (go_big_quiet_step (fail))
          refine wpQuiet_nil ?_
          rintro w1 ⟨⟨_, hw1⟩, rfl⟩
          go_wp2_with fail
          go_roundw
          case rel => exact ⟨k+1, by omega, by omega, rfl, hB.trans (hw1.mono hB.size), hst⟩
          case measure => simp [intOf]; omega
        · have hxy' : decide (x1 = y1 ∧ x2 = y2) = false := by simpa using hxy
          have hE : Hid (decide (xs = ys) = false) := Lib.hid (by
            rw [decide_eq_false_iff_not, hL.out, hd1.out, hd2'.out]
            intro h
            injection h with h1 _
            exact hxy (by simpa using h1))
          rw [hxy'] at hq
          clear hxy hxy'
          go_upto_region 6 with fail
          refine region_ext (by kernel_rfl) (by kernel_rfl) ?_
          repeat (go_big_quiet_step (fail))
          refine wpQuiet_nil ?_
          rintro w1 ⟨⟨_, hw1⟩, rfl⟩
          go_wp2_with fail
          go_ret
          exact ⟨ret_bool hE.out.symm, hB.trans (hw1.mono hB.size)⟩
      · have hlt' : decide (k < (n : Int)) = false := by simp; omega
        go_wp2_with fail
        go_ret
        have : decide (xs = ys) = true := by rw [decide_eq_true_eq, hL.out, List.drop_of_length_le (by have := hn'.out; omega), List.drop_of_length_le (by have := hm'.out; omega)]
        exact ⟨ret_bool this.symm, hB⟩


end Go.Proofs.YtiohcegkkpeodaaDoor
