/- Walks: Better, Plan, Largest (the reference). -/
import Derived.Test.YtifdgabfnnkghaaVWalkZB
namespace Go.Pol
theorem betterB_cost {bs : List B3} {a b : List (Int × Int)} {x y : Int} (hx : (costB bs a).1 = x) (hy : (costB bs b).1 = y) : betterB bs a b = if x = y then if a.length = b.length then decide (listN a b < 0) else decide (a.length < b.length) else decide (x < y) := by
  unfold betterB
  rw [hx, hy]
  by_cases h1 : x = y
  · have e1 : orN [cmpN x y, cmpN a.length b.length, listN a b] = orN [cmpN (a.length : Int) b.length, listN a b] := by
      rw [orN, if_pos (cmpN_zero.2 h1)]
    rw [e1, if_pos h1]
    by_cases h2 : a.length = b.length
    · have e2 : orN [cmpN (a.length : Int) b.length, listN a b] = listN a b := by
        rw [orN, if_pos (cmpN_zero.2 (by omega)), orN]
        split
        · rename_i h; rw [h]; rfl
        · rfl
      rw [e2, if_pos h2]
    · have e2 : orN [cmpN (a.length : Int) b.length, listN a b] = cmpN (a.length : Int) b.length := by
        rw [orN, if_neg (fun h => h2 (by have := cmpN_zero.1 h; omega))]
      rw [e2, if_neg h2]
      exact decide_eq_decide.2 (by rw [cmpN_lt]; omega)
  · have e1 : orN [cmpN x y, cmpN a.length b.length, listN a b] = cmpN x y := by
      rw [orN, if_neg (fun h => h1 (cmpN_zero.1 h))]
    rw [e1, if_neg h1]
    exact decide_eq_decide.2 cmpN_lt
theorem costB_bound (bs : List B3) (ms : List (Int × Int)) (hm : ms.length ≤ 256) : 0 ≤ (costB bs ms).1 ∧ (costB bs ms).1 ≤ 1024 * 256 := by
  have key : ∀ (ms : List (Int × Int)) (z : Int), 0 ≤ z → z ≤ 1024 * 256 - 1024 * ms.length → 0 ≤ (costL bs z ms).1 ∧ (costL bs z ms).1 ≤ 1024 * 256 := by
    intro ms
    induction ms with
    | nil => intro z h1 h2; simp only [costL]; simp at h2; omega
    | cons m r ih =>
      intro z h1 h2
      simp only [List.length_cons] at h2
      rw [costL]
      split
      · simp
      · split
        · simp
        · rename_i h3 h4
          have h5 : isOrd (bs.getD m.1.toNat b0).2.1 = true := by
            cases h6 : isOrd (bs.getD m.1.toNat b0).2.1 with
            | true => rfl
            | false => exact absurd h6 h4
          have ho := isOrd_iff.1 h5
          have hp1 := pw_pos (bs.getD m.1.toNat b0).2.1
          have hp2 := pw_le ho.2
          have h2' : z + 1024 ≤ 1024 * 256 - 1024 * (r.length : Int) := by have := h2; simp only [Int.natCast_add, Int.natCast_one] at this; omega
          exact ih (z + pw (bs.getD m.1.toNat b0).2.1) (by omega) (by omega)
  unfold costB
  rw [if_neg (by omega)]
  exact key ms 0 (by omega) (by omega)
end Go.Pol
namespace Go.Proofs.Ytifdgabfnnkghaa
open Go Go.Proofs Go.RowKit Go.Pol Go.Shelf Go.Deep

set_option maxRecDepth 100000 in
set_option maxHeartbeats 1600000 in
theorem better_any (A U V : Option Addr) (n cap un ucap vn vcap : Nat) (bs : List B3) (us vs : List (Int × Int)) (w : World) (hn : bs.length = n) (hm : n ≤ maxLen) (hr : RT w w.heap.size A bs) (hu : us.length = un) (hv : vs.length = vn) (hu64 : un ≤ 64) (hv64 : vn ≤ 64) (hru : RU w w.heap.size U us) (hrv : RU w w.heap.size V vs) :
    Calls Try.prog 45 #[.slice A n cap, .slice U un ucap, .slice V vn vcap] w fun e w' => e = .returned (.bool (betterB bs us vs)) ∧ Below w.heap.size w w' := by
  have HU := Lib.hid (fun W (h : RT W W.heap.size A bs) (h' : RU W W.heap.size U us) => refCost_any A U n cap un ucap bs us W hn hm h hu (by unfold maxLen; omega) h')
  have HV := Lib.hid (fun W (h : RT W W.heap.size A bs) (h' : RU W W.heap.size V vs) => refCost_any A V n cap vn vcap bs vs W hn hm h hv (by unfold maxLen; omega) h')
  have hbU := costB_bound bs us (by omega)
  have hbV := costB_bound bs vs (by omega)
  obtain ⟨cu, hcu⟩ : ∃ c, costB bs us = c := ⟨_, rfl⟩
  obtain ⟨cv, hcv⟩ : ∃ c, costB bs vs = c := ⟨_, rfl⟩
  obtain ⟨R, hR⟩ : ∃ R, betterB bs us vs = R := ⟨_, rfl⟩
  rw [hR]
  have hE := Lib.hid (betterB_cost (a := us) (b := vs) (congrArg Prod.fst hcu) (congrArg Prod.fst hcv))
  rw [hR, hu, hv] at hE
  rw [hcu] at HU hbU
  rw [hcv] at HV hbV
  obtain ⟨x, xe⟩ := cu
  obtain ⟨y, ye⟩ := cv
  unfold CostR at HU HV
  simp only at HU HV hE hbU hbV
  have hu' := Lib.hid hu
  have hv' := Lib.hid hv
  clear hcu hcv hR hu hv hn
  go_enter Try.func45, Try.ntmps45
  go_upto_region 3 with (first
    | (go_at_call 13; have hno := b1; refine (HV.out _ r1 v1).mono ?_; rintro e w2 ⟨rfl, hb2⟩)
    | (go_at_call 13; refine (HU.out _ hr hru).mono ?_; rintro e w1 ⟨rfl, hb1⟩; have b1 := hb1.size; have r1 := hr.on hb1; have v1 := (hrv.below hb1).more hb1.size))
  have B2 := hb1.trans (hb2.mono hb1.size)
  have u2 := (hru.below B2).more B2.size
  have v2 := (hrv.below B2).more B2.size
  clear HU HV hb1 hb2 r1 v1 b1
  by_cases h1 : x = y
  case neg =>
    have h1' : (x != y) = true := by simpa using h1
    have hRR : Hid (R = decide (x < y)) := Lib.hid (by rw [hE.out, if_neg h1])
    clear hE h1
    generalize hq : decide (x < y) = d at *
    go_wp2_with fail
    go_ret
    exact ⟨ret_bool hRR.out.symm, B2⟩
  have h1' : (x != y) = false := by simp [h1]
  by_cases h2 : un = vn
  case neg =>
    have h2' : ((un : Int) != (vn : Int)) = true := by rw [bne_iff_ne]; omega
    have hRR : Hid (R = decide (un < vn)) := Lib.hid (by rw [hE.out, if_pos h1, if_neg h2])
    clear hE h1 h2
    go_wp2_with fail
    go_ret
    exact ⟨ret_bool hRR.out.symm, B2⟩
  have h2' : ((un : Int) != (vn : Int)) = false := by simp [h2]
  have hRR : Hid (R = decide (listN us vs < 0)) := Lib.hid (by rw [hE.out, if_pos h1, if_pos h2])
  subst h2
  clear hE h1 h2'
  have h2' : ((un : Int) != (un : Int)) = false := by simp
  go_wp2_with fail
  go_loopw [11] (fun i wr => ∃ k : Nat, k ≤ un ∧ i = .int .i64 k ∧ Below w2.heap.size w2 wr ∧ Hid (listN us vs = listN (us.drop k) (vs.drop k))) (fun i _ => un - (intOf i).toNat)
  case atStart => exact ⟨0, by omega, rfl, Below.refl _ _, Lib.hid (by simp)⟩
  case round =>
    obtain ⟨k, hk, rfl, hB, hH⟩ := hrel
    by_cases hlt : k < un
    · have hlt' : decide ((k : Int) < (un : Int)) = true := by simpa using hlt
      have hlt2 : decide (k < un) = true := by simpa using hlt
      obtain ⟨b, o, rfl, _, c1, c2⟩ := RU.at_' ((u2.below hB).more hB.size) (k := k) (by have := hu'.out; omega)
      obtain ⟨b', o', rfl, _, d1, d2⟩ := RU.at_' ((v2.below hB).more hB.size) (k := k) (by have := hv'.out; omega)
      have hst := Lib.hid (show listN us vs = if moveN (us.getD k (0,0)) (vs.getD k (0,0)) = 0 then listN (us.drop (k + 1)) (vs.drop (k + 1)) else moveN (us.getD k (0,0)) (vs.getD k (0,0)) from by
        rw [hH.out, Go.Pol.drop_cons (0,0) us k (by have := hu'.out; omega), Go.Pol.drop_cons (0,0) vs k (by have := hv'.out; omega), listN])
      generalize us.getD k (0,0) = p at *
      generalize vs.getD k (0,0) = q at *
      obtain ⟨p1, p2⟩ := p
      obtain ⟨t1, t2⟩ := q
      simp only at c1 c2 d1 d2
      have q1 := fun z : Ext wr => z.cell c1
      have q2 := fun z : Ext wr => z.cell c2
      have q3 := fun z : Ext wr => z.cell d1
      have q4 := fun z : Ext wr => z.cell d2
      by_cases g1 : p1 = t1
      case neg =>
        have g1' : (p1 != t1) = true := by simpa using g1
        have hm : moveN (p1, p2) (t1, t2) = cmpN p1 t1 := by unfold moveN; simp only [orN]; rw [if_neg (fun h => g1 (cmpN_zero.1 h))]
        have hRd : Hid (R = decide (p1 < t1)) := Lib.hid (by
          rw [hRR.out, hst.out, hm, if_neg (fun h => g1 (cmpN_zero.1 h))]
          exact decide_eq_decide.2 cmpN_lt)
        clear hst hm g1 hH
        go_upto_region 10 with fail
        refine region_ext (by kernel_rfl) (by kernel_rfl) ?_
        repeat (go_big_quiet_step (fail))
        refine wpQuiet_nil ?_
        rintro w5 ⟨⟨_, hw5⟩, rfl⟩
        have q5 := (hw5.cell (World.block_lt_of_cell? _ _ c1)).trans c1
        have q6 := (hw5.cell (World.block_lt_of_cell? _ _ d1)).trans d1
        have B5 := hB.trans (hw5.mono hB.size)
        clear q1 q2 q3 q4
        have q7 := fun z : Ext w5 => z.cell q5
        have q8 := fun z : Ext w5 => z.cell q6
        generalize hdd : decide (p1 < t1) = dd at *
        go_upto_region 11 with fail
        refine region_ext (by kernel_rfl) (by kernel_rfl) ?_
        repeat (go_big_quiet_step (fail))
        refine wpQuiet_nil ?_
        rintro w6 ⟨⟨_, hw6⟩, rfl⟩
        go_wp2_with fail
        go_ret
        exact ⟨ret_bool hRd.out.symm, B2.trans ((B5.trans (hw6.mono (by have := B5.size; omega))).mono B2.size)⟩
      subst g1
      have g1' : (p1 != p1) = false := by simp
      by_cases g2 : p2 = t2
      case neg =>
        have g2' : (p2 != t2) = true := by simpa using g2
        have hm : moveN (p1, p2) (p1, t2) = cmpN p2 t2 := by unfold moveN; simp only [orN]; rw [if_pos (cmpN_zero.2 rfl), if_neg (fun h => g2 (cmpN_zero.1 h))]
        have hRd : Hid (R = decide (p2 < t2)) := Lib.hid (by
          rw [hRR.out, hst.out, hm, if_neg (fun h => g2 (cmpN_zero.1 h))]
          exact decide_eq_decide.2 cmpN_lt)
        clear hst hm g2 hH
        go_upto_region 10 with fail
        refine region_ext (by kernel_rfl) (by kernel_rfl) ?_
        repeat (go_big_quiet_step (fail))
        refine wpQuiet_nil ?_
        rintro w5 ⟨⟨_, hw5⟩, rfl⟩
        have q5 := (hw5.cell (World.block_lt_of_cell? _ _ c2)).trans c2
        have q6 := (hw5.cell (World.block_lt_of_cell? _ _ d2)).trans d2
        have B5 := hB.trans (hw5.mono hB.size)
        clear q1 q2 q3 q4
        have q7 := fun z : Ext w5 => z.cell q5
        have q8 := fun z : Ext w5 => z.cell q6
        go_upto_region 12 with fail
        refine region_ext (by kernel_rfl) (by kernel_rfl) ?_
        repeat (go_big_quiet_step (fail))
        refine wpQuiet_nil ?_
        rintro w6 ⟨⟨_, hw6⟩, rfl⟩
        have q5b := (hw6.cell (World.block_lt_of_cell? _ _ q5)).trans q5
        have q6b := (hw6.cell (World.block_lt_of_cell? _ _ q6)).trans q6
        have B6 := B5.trans (hw6.mono (by have := B5.size; omega))
        clear q7 q8
        have q7 := fun z : Ext w6 => z.cell q5b
        have q8 := fun z : Ext w6 => z.cell q6b
        generalize hdd : decide (p2 < t2) = dd at *
        go_upto_region 13 with fail
        refine region_ext (by kernel_rfl) (by kernel_rfl) ?_
        repeat (go_big_quiet_step (fail))
        refine wpQuiet_nil ?_
        rintro w7 ⟨⟨_, hw7⟩, rfl⟩
        go_wp2_with fail
        go_ret
        exact ⟨ret_bool hRd.out.symm, B2.trans ((B6.trans (hw7.mono (by have := B6.size; omega))).mono B2.size)⟩
      subst g2
      have g2' : (p2 != p2) = false := by simp
      have hN : Hid (listN us vs = listN (us.drop (k + 1)) (vs.drop (k + 1))) := Lib.hid (by rw [hst.out, if_pos (moveN_zero.2 rfl)])
      clear hst hH
      go_upto_region 10 with fail
      refine region_ext (by kernel_rfl) (by kernel_rfl) ?_
      repeat (go_big_quiet_step (fail))
      refine wpQuiet_nil ?_
      rintro w5 ⟨⟨_, hw5⟩, rfl⟩
      have q5 := (hw5.cell (World.block_lt_of_cell? _ _ c2)).trans c2
      have q6 := (hw5.cell (World.block_lt_of_cell? _ _ d2)).trans d2
      have B5 := hB.trans (hw5.mono hB.size)
      clear q1 q2 q3 q4
      have q7 := fun z : Ext w5 => z.cell q5
      have q8 := fun z : Ext w5 => z.cell q6
      go_upto_region 12 with fail
      refine region_ext (by kernel_rfl) (by kernel_rfl) ?_
      repeat (go_big_quiet_step (fail))
      refine wpQuiet_nil ?_
      rintro w6 ⟨⟨_, hw6⟩, rfl⟩
      go_wp2_with fail
      go_roundw
      case rel => exact ⟨k + 1, by omega, by go_num, B5.trans (hw6.mono (by have := B5.size; omega)), hN⟩
      case measure => simp [intOf]; omega
    · obtain rfl : k = un := by omega
      have hlt' : decide ((k : Int) < (k : Int)) = false := by simp
      have hF : Hid (R = false) := Lib.hid (by
        rw [hRR.out, hH.out, List.drop_of_length_le (by have := hu'.out; omega), List.drop_of_length_le (by have := hv'.out; omega)]; rfl)
      clear hH hRR
      go_wp2_with fail
      go_ret
      exact ⟨ret_bool hF.out.symm, B2.trans (hB.mono B2.size)⟩
end Go.Proofs.Ytifdgabfnnkghaa
