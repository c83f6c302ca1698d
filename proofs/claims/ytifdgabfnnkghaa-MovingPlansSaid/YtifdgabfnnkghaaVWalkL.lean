/- Walks: the cost of moves (both); the law's comparisons and bounds. -/
import Derived.Test.YtifdgabfnnkghaaVWalkK
namespace Go.Proofs.Ytifdgabfnnkghaa
open Go Go.Proofs Go.RowKit Go.Pol Go.Shelf

def CostR (r : Int × Int) (w : World) (e : Ending) (w' : World) : Prop := e = .returned (.tuple #[.int .i64 r.1, .int .i64 r.2]) ∧ Below w.heap.size w w'
set_option maxRecDepth 100000 in
set_option maxHeartbeats 1600000 in
theorem cost_any (A M : Option Addr) (n cap mn mcap : Nat) (bs : List B3) (ms : List (Int × Int)) (w : World) (hn : bs.length = n) (_hm : n ≤ maxLen) (hr : RT w w.heap.size A bs) (hmn : ms.length = mn) (hmm : mn ≤ maxLen) (hru : RU w w.heap.size M ms) :
    Calls Try.prog 12 #[.slice A n cap, .slice M mn mcap] w (CostR (costB bs ms) w) := by
  unfold maxLen at hmm
  have hn' := Lib.hid hn
  have hmn' := Lib.hid hmn
  by_cases h2 : 256 < mn
  · have h2' : decide ((256 : Int) < (mn : Int)) = true := by simp; omega
    have hE : Hid (costB bs ms = (0, 3)) := Lib.hid (by unfold costB; rw [if_pos (by omega)])
    clear h2 hn hmn
    generalize costB bs ms = R at *
    go_enter Try.func12, Try.ntmps12
    go_wp2_with fail
    go_ret2
    rw [hE.out]
    exact ⟨rfl, Below.refl _ _⟩
  · have h2' : decide ((256 : Int) < (mn : Int)) = false := by simp; omega
    have hE : Hid (costB bs ms = costL bs 0 ms) := Lib.hid (by unfold costB; rw [if_neg (by omega)])
    clear hn hmn
    generalize costB bs ms = R at *
    go_enter Try.func12, Try.ntmps12
    go_wp2_with fail
    go_loopw [6, 15] (fun s i wr => ∃ (k : Nat) (z : Int), k ≤ mn ∧ i = .int .i64 k ∧ s = .int .i64 z ∧ 0 ≤ z ∧ z ≤ 1024 * k ∧ Below w.heap.size w wr ∧ Hid (R = costL bs z (ms.drop k))) (fun _ i _ => mn - (intOf i).toNat)
    case atStart => exact ⟨0, 0, by omega, rfl, rfl, by omega, by omega, Below.refl _ _, by simpa using hE⟩
    case round =>
      obtain ⟨k, z, hk, rfl, rfl, hz0, hz1, hB, hR⟩ := hrel
      by_cases hlt : k < mn
      · have hlt' : decide ((k : Int) < (mn : Int)) = true := by simpa using hlt
        obtain ⟨b, o, rfl, hbl, c1, c2⟩ := RU.at_' ((hru.below hB).more hB.size) (k := k) (by have := hmn'.out; omega)
        have hst := Lib.hid (show R = if (ms.getD k (0,0)).1 < 0 ∨ (n : Int) ≤ (ms.getD k (0,0)).1 then (0, 4) else if isOrd (bs.getD (ms.getD k (0,0)).1.toNat b0).2.1 = false then (0, 7) else costL bs (z + pw (bs.getD (ms.getD k (0,0)).1.toNat b0).2.1) (ms.drop (k + 1)) by
          rw [hR.out, Go.Pol.drop_cons (0,0) ms k (by have := hmn'.out; omega), costL, hn'.out])
        generalize ms.getD k (0,0) = m at *
        obtain ⟨mk, mt⟩ := m
        simp only at c1 c2 hst
        clear hR
        have hbm := hB.alloc hB.size (.cells #[.int .i64 mk, .int .i64 mt] 42)
        by_cases h1 : mk < 0
        · have h1' : decide (mk < 0) = true := by simpa using h1
          have hRR : Hid (R = (0, 4)) := Lib.hid (by rw [hst.out, if_pos (.inl h1)])
          clear hst h1
          go_wp2_with fail
          go_ret2
          rw [hRR.out]
          exact ⟨rfl, hbm⟩
        · have h1' : decide (mk < 0) = false := by simpa using h1
          by_cases h3 : (n : Int) ≤ mk
          · have h3' : decide ((n : Int) ≤ mk) = true := by simpa using h3
            have hRR : Hid (R = (0, 4)) := Lib.hid (by rw [hst.out, if_pos (.inr h3)])
            clear hst h1 h3
            go_wp2_with fail
            go_ret2
            rw [hRR.out]
            exact ⟨rfl, hbm⟩
          · obtain ⟨q, rfl⟩ := Int.eq_ofNat_of_zero_le (show 0 ≤ mk by omega)
            have hqn : q < n := by omega
            have hq' : decide ((n : Int) ≤ (q : Int)) = false := by simp; omega
            have hst2 : Hid (R = if isOrd (bs.getD q b0).2.1 = false then (0, 7) else costL bs (z + pw (bs.getD q b0).2.1) (ms.drop (k + 1))) := Lib.hid (by rw [hst.out, if_neg (by omega)]; rfl)
            obtain ⟨b', o', rfl, _, _, d2, _⟩ := ((hr.below hB).more hB.size).at_ (k := q) (by have := hn'.out; omega)
            obtain ⟨xo, hxo⟩ : ∃ xo, (bs.getD q b0).2.1 = xo := ⟨_, rfl⟩
            rw [hxo] at hst2 d2
            clear hst h1 h3 hxo
            by_cases ho : 0 ≤ xo ∧ xo ≤ 10
            · have e1 : decide (xo < 0) = false := by simp; omega
              have e2 : decide (10 < xo) = false := by simp; omega
              have HS := Lib.hid (fun W => size_any xo W ho)
              have hp1 := pw_pos xo
              have hp2 := pw_le ho.2
              have hRR : Hid (R = costL bs (z + pw xo) (ms.drop (k + 1))) := Lib.hid (by rw [hst2.out, if_neg (by rw [isOrd_iff.2 ho]; simp)])
              generalize pw xo = p at *
              clear hst2
              go_wp2_with (go_at_call 29; refine (HS.out _).mono ?_; rintro e wS ⟨rfl, hwS⟩; subst hwS)
              go_roundw
              case rel => exact ⟨k + 1, z + p, by omega, by go_num, rfl, by omega, by omega, hbm, hRR⟩
              case measure => simp [intOf]; omega
            · have hRR : Hid (R = (0, 7)) := Lib.hid (by
                rw [hst2.out, if_pos]
                cases h : isOrd xo with
                | false => rfl
                | true => exact absurd (isOrd_iff.1 h) ho)
              by_cases e1 : xo < 0
              · have e1' : decide (xo < 0) = true := by simpa using e1
                clear hst2 e1 ho
                go_wp2_with fail
                go_ret2
                rw [hRR.out]
                exact ⟨rfl, hbm⟩
              · have e1' : decide (xo < 0) = false := by simpa using e1
                have e2' : decide (10 < xo) = true := by simp; omega
                clear hst2 e1 ho
                go_wp2_with fail
                go_ret2
                rw [hRR.out]
                exact ⟨rfl, hbm⟩
      · obtain rfl : k = mn := by omega
        have hlt' : decide ((k : Int) < (k : Int)) = false := by simp
        have hRR : Hid (R = (z, 0)) := Lib.hid (by rw [hR.out, List.drop_of_length_le (by have := hmn'.out; omega), costL])
        clear hR
        go_wp2_with fail
        go_ret2
        rw [hRR.out]
        exact ⟨rfl, hB⟩
set_option maxRecDepth 100000 in
set_option maxHeartbeats 1600000 in
theorem refCost_any (A M : Option Addr) (n cap mn mcap : Nat) (bs : List B3) (ms : List (Int × Int)) (w : World) (hn : bs.length = n) (_hm : n ≤ maxLen) (hr : RT w w.heap.size A bs) (hmn : ms.length = mn) (hmm : mn ≤ maxLen) (hru : RU w w.heap.size M ms) :
    Calls Try.prog 13 #[.slice A n cap, .slice M mn mcap] w (CostR (costB bs ms) w) := by
  unfold maxLen at hmm
  have hn' := Lib.hid hn
  have hmn' := Lib.hid hmn
  by_cases h2 : 256 < mn
  · have h2' : decide ((256 : Int) < (mn : Int)) = true := by simp; omega
    have hE : Hid (costB bs ms = (0, 3)) := Lib.hid (by unfold costB; rw [if_pos (by omega)])
    clear h2 hn hmn
    generalize costB bs ms = R at *
    go_enter Try.func13, Try.ntmps13
    go_wp2_with fail
    go_ret2
    rw [hE.out]
    exact ⟨rfl, Below.refl _ _⟩
  · have h2' : decide ((256 : Int) < (mn : Int)) = false := by simp; omega
    have hE : Hid (costB bs ms = costL bs 0 ms) := Lib.hid (by unfold costB; rw [if_neg (by omega)])
    clear hn hmn
    generalize costB bs ms = R at *
    go_enter Try.func13, Try.ntmps13
    go_wp2_with fail
    go_loopw [6, 7] (fun s i wr => ∃ (k : Nat) (z : Int), k ≤ mn ∧ i = .int .i64 k ∧ s = .int .i64 z ∧ 0 ≤ z ∧ z ≤ 1024 * k ∧ Below w.heap.size w wr ∧ Hid (R = costL bs z (ms.drop k))) (fun _ i _ => mn - (intOf i).toNat)
    case atStart => exact ⟨0, 0, by omega, rfl, rfl, by omega, by omega, Below.refl _ _, by simpa using hE⟩
    case round =>
      obtain ⟨k, z, hk, rfl, rfl, hz0, hz1, hB, hR⟩ := hrel
      by_cases hlt : k < mn
      · have hlt' : decide ((k : Int) < (mn : Int)) = true := by simpa using hlt
        obtain ⟨b, o, rfl, hbl, c1, c2⟩ := RU.at_' ((hru.below hB).more hB.size) (k := k) (by have := hmn'.out; omega)
        have hst := Lib.hid (show R = if (ms.getD k (0,0)).1 < 0 ∨ (n : Int) ≤ (ms.getD k (0,0)).1 then (0, 4) else if isOrd (bs.getD (ms.getD k (0,0)).1.toNat b0).2.1 = false then (0, 7) else costL bs (z + pw (bs.getD (ms.getD k (0,0)).1.toNat b0).2.1) (ms.drop (k + 1)) by
          rw [hR.out, Go.Pol.drop_cons (0,0) ms k (by have := hmn'.out; omega), costL, hn'.out])
        generalize ms.getD k (0,0) = m at *
        obtain ⟨mk, mt⟩ := m
        simp only at c1 c2 hst
        clear hR
        have hbm := hB
        by_cases h1 : mk < 0
        · have h1' : decide (mk < 0) = true := by simpa using h1
          have hRR : Hid (R = (0, 4)) := Lib.hid (by rw [hst.out, if_pos (.inl h1)])
          clear hst h1
          go_wp2_with fail
          go_ret2
          rw [hRR.out]
          exact ⟨rfl, hbm⟩
        · have h1' : decide (mk < 0) = false := by simpa using h1
          by_cases h3 : (n : Int) ≤ mk
          · have h3' : decide ((n : Int) ≤ mk) = true := by simpa using h3
            have hRR : Hid (R = (0, 4)) := Lib.hid (by rw [hst.out, if_pos (.inr h3)])
            clear hst h1 h3
            go_wp2_with fail
            go_ret2
            rw [hRR.out]
            exact ⟨rfl, hbm⟩
          · obtain ⟨q, rfl⟩ := Int.eq_ofNat_of_zero_le (show 0 ≤ mk by omega)
            have hqn : q < n := by omega
            have hq' : decide ((n : Int) ≤ (q : Int)) = false := by simp; omega
            have hst2 : Hid (R = if isOrd (bs.getD q b0).2.1 = false then (0, 7) else costL bs (z + pw (bs.getD q b0).2.1) (ms.drop (k + 1))) := Lib.hid (by rw [hst.out, if_neg (by omega)]; rfl)
            obtain ⟨b', o', rfl, _, _, d2, _⟩ := ((hr.below hB).more hB.size).at_ (k := q) (by have := hn'.out; omega)
            obtain ⟨xo, hxo⟩ : ∃ xo, (bs.getD q b0).2.1 = xo := ⟨_, rfl⟩
            rw [hxo] at hst2 d2
            clear hst h1 h3 hxo
            have HO := Lib.hid (fun W => refOrd_any xo W)
            by_cases ho : 0 ≤ xo ∧ xo ≤ 10
            · rw [isOrd_iff.2 ho] at HO
              have HS := Lib.hid (fun W => refSize_any xo W ho)
              have hp1 := pw_pos xo
              have hp2 := pw_le ho.2
              have hRR : Hid (R = costL bs (z + pw xo) (ms.drop (k + 1))) := Lib.hid (by rw [hst2.out, if_neg (by rw [isOrd_iff.2 ho]; simp)])
              generalize pw xo = p at *
              clear hst2
              go_wp2_with (first | (go_at_call 30; refine (HO.out _).mono ?_; rintro e wS ⟨rfl, hwS⟩; subst hwS) | (go_at_call 22; refine (HS.out _).mono ?_; rintro e wS ⟨rfl, hwS⟩; subst hwS))
              go_roundw
              case rel => exact ⟨k + 1, z + p, by omega, by go_num, rfl, by omega, by omega, hbm, hRR⟩
              case measure => simp [intOf]; omega
            · have hO : isOrd xo = false := by
                cases h : isOrd xo with
                | false => rfl
                | true => exact absurd (isOrd_iff.1 h) ho
              rw [hO] at HO
              have hRR : Hid (R = (0, 7)) := Lib.hid (by rw [hst2.out, if_pos hO])
              clear hst2 ho hO
              go_wp2_with (go_at_call 30; refine (HO.out _).mono ?_; rintro e wS ⟨rfl, hwS⟩; subst hwS)
              go_ret2
              rw [hRR.out]
              exact ⟨rfl, hbm⟩
      · obtain rfl : k = mn := by omega
        have hlt' : decide ((k : Int) < (k : Int)) = false := by simp
        have hRR : Hid (R = (z, 0)) := Lib.hid (by rw [hR.out, List.drop_of_length_le (by have := hmn'.out; omega), costL])
        clear hR
        go_wp2_with fail
        go_ret2
        rw [hRR.out]
        exact ⟨rfl, hB⟩
set_option maxRecDepth 100000 in
theorem eqMm (x1 x2 y1 y2 : Int) (w : World) : (Op.equalIn 10000 42 (.agg #[.int .i64 x1, .int .i64 x2]) (.agg #[.int .i64 y1, .int .i64 y2])).run Try.prog w = .ok (decide (x1 = y1 ∧ x2 = y2)) w := by
  have u3 := Try.underlying3
  have a3 := Try.isAgg3
  have z3 := Try.sizeOf3
  rw [show (10000 : Nat) = 9999 + 1 from rfl]
  by_cases h1 : x1 = y1 <;> by_cases h2 : x2 = y2 <;> go_simp <;> simp [h1, h2]
set_option maxHeartbeats 400000 in
theorem lawMoves_any (A B : Option Addr) (n m cap cap' : Nat) (xs ys : List (Int × Int)) (w : World) (hn : xs.length = n) (hm : n ≤ maxLen) (hn2 : ys.length = m) (hm2 : m ≤ maxLen) (hr : RU w w.heap.size A xs) (hs : RU w w.heap.size B ys) :
    Calls Try.prog 21 #[.slice A n cap, .slice B m cap'] w fun e w' => e = .returned (.bool (decide (xs = ys))) ∧ Below w.heap.size w w' := by
  unfold maxLen at hm hm2
  have hn' := Lib.hid hn
  have hm' := Lib.hid hn2
  clear hn hn2
  by_cases hnm : n = m
  case neg =>
    have hne : ((n : Int) != m) = true := by rw [bne_iff_ne]; omega
    have H : Hid (decide (xs = ys) = false) := Lib.hid (by rw [decide_eq_false_iff_not]; rintro rfl; exact hnm (hn'.out.symm.trans hm'.out))
    go_enter Try.func21, Try.ntmps21
    go_wp2
    go_ret
    exact ⟨ret_bool H.out.symm, Below.refl _ _⟩
  case pos =>
    subst hnm
    have hne : ((n : Int) != n) = false := by simp
    go_enter Try.func21, Try.ntmps21
    go_wp2
    go_loopw [5] (fun i wr => ∃ (k : Int), 0 ≤ k ∧ k ≤ n ∧ i = .int .i64 k ∧ Below w.heap.size w wr ∧ Hid (xs = ys ↔ xs.drop k.toNat = ys.drop k.toNat)) (fun i _ => n - (intOf i).toNat)
    case atStart => exact ⟨0, by omega, by omega, rfl, Below.refl _ _, Lib.hid (by simp)⟩
    case round =>
      obtain ⟨k, hk1, hk, rfl, hB, hL⟩ := hrel
      have hr1 := hr.below hB
      have hs1 := hs.below hB
      by_cases hlt : k < n
      · have hlt' : decide (k < (n : Int)) = true := by simpa using hlt
        obtain ⟨b, o, rfl, _, hc, hd⟩ := RU.at_' hr1 (k := k.toNat) (by have := hn'.out; omega)
        obtain ⟨b2, o2, rfl, _, hc2, hd2⟩ := RU.at_' hs1 (k := k.toNat) (by have := hm'.out; omega)
        have hd1 := Lib.hid (drop_cons (0,0) xs k.toNat (by have := hn'.out; omega))
        have hd2' := Lib.hid (drop_cons (0,0) ys k.toNat (by have := hm'.out; omega))
        have hsucc : Hid ((k+1).toNat = k.toNat + 1) := Lib.hid (by omega)
        generalize xs.getD k.toNat (0,0) = x at *
        generalize ys.getD k.toNat (0,0) = y at *
        obtain ⟨x1, x2⟩ := x
        obtain ⟨y1, y2⟩ := y
        dsimp only at hc hd hc2 hd2
        have hcx := fun y : Ext wr => y.cell hc
        have hcy := fun y : Ext wr => y.cell hc2
        have hdx := fun y : Ext wr => y.cell hd
        have hdy := fun y : Ext wr => y.cell hd2
        have hq := fun (W : World) => eqMm x1 x2 y1 y2 W
        by_cases hxy : x1 = y1 ∧ x2 = y2
        · have hxy' : decide (x1 = y1 ∧ x2 = y2) = true := by simpa using hxy
          have hst : Hid (xs = ys ↔ xs.drop (k+1).toNat = ys.drop (k+1).toNat) := Lib.hid (by rw [hL.out, hd1.out, hd2'.out, hsucc.out]; simp [hxy])
          rw [hxy'] at hq
          clear hxy hxy'
          go_upto_region 6 with fail
          refine region_ext (by kernel_rfl) (by kernel_rfl) ?_
          repeat (go_big_quiet_step (fail))
          refine wpQuiet_nil ?_
          rintro w1 ⟨⟨_, hw1⟩, rfl⟩
          go_wp2_with fail
          go_roundw
          case rel => exact ⟨k+1, by omega, by omega, rfl, hB.trans (hw1.mono hB.size), hst⟩
          case measure => simp [intOf]; omega
        · have hxy' : decide (x1 = y1 ∧ x2 = y2) = false := by simpa using hxy
          have hE : Hid (decide (xs = ys) = false) := Lib.hid (by
            rw [decide_eq_false_iff_not, hL.out, hd1.out, hd2'.out]
            intro h
            injection h with h1 _
            exact hxy (by simpa using h1))
          rw [hxy'] at hq
          clear hxy hxy'
          go_upto_region 6 with fail
          refine region_ext (by kernel_rfl) (by kernel_rfl) ?_
          repeat (go_big_quiet_step (fail))
          refine wpQuiet_nil ?_
          rintro w1 ⟨⟨_, hw1⟩, rfl⟩
          go_wp2_with fail
          go_ret
          exact ⟨ret_bool hE.out.symm, hB.trans (hw1.mono hB.size)⟩
      · have hlt' : decide (k < (n : Int)) = false := by simp; omega
        go_wp2_with fail
        go_ret
        have : decide (xs = ys) = true := by rw [decide_eq_true_eq, hL.out, List.drop_of_length_le (by have := hn'.out; omega), List.drop_of_length_le (by have := hm'.out; omega)]
        exact ⟨ret_bool this.symm, hB⟩


set_option maxRecDepth 100000 in
theorem eqMb (x1 x2 : Int) (x3 : Bool) (y1 y2 : Int) (y3 : Bool) (w : World) : (Op.equalIn 10000 44 (.agg #[.int .i64 x1, .int .i64 x2, .bool x3]) (.agg #[.int .i64 y1, .int .i64 y2, .bool y3])).run Try.prog w = .ok (decide (x1 = y1 ∧ x2 = y2 ∧ x3 = y3)) w := by
  have u3 := Try.underlying3
  have a3 := Try.isAgg3
  have z3 := Try.sizeOf3
  rw [show (10000 : Nat) = 9999 + 1 from rfl]
  have u4 := Try.underlying4
  have a4 := Try.isAgg4
  have z4 := Try.sizeOf4
  by_cases h1 : x1 = y1 <;> by_cases h2 : x2 = y2 <;> by_cases h3 : x3 = y3 <;> go_simp <;> simp [h1, h2, h3]
set_option maxHeartbeats 400000 in
theorem lawBlocks_any (A B : Option Addr) (n m cap cap' : Nat) (xs ys : List B3) (w : World) (hn : xs.length = n) (hm : n ≤ maxLen) (hn2 : ys.length = m) (hm2 : m ≤ maxLen) (hr : RT w w.heap.size A xs) (hs : RT w w.heap.size B ys) :
    Calls Try.prog 16 #[.slice A n cap, .slice B m cap'] w fun e w' => e = .returned (.bool (decide (xs = ys))) ∧ Below w.heap.size w w' := by
  unfold maxLen at hm hm2
  have hn' := Lib.hid hn
  have hm' := Lib.hid hn2
  clear hn hn2
  by_cases hnm : n = m
  case neg =>
    have hne : ((n : Int) != m) = true := by rw [bne_iff_ne]; omega
    have H : Hid (decide (xs = ys) = false) := Lib.hid (by rw [decide_eq_false_iff_not]; rintro rfl; exact hnm (hn'.out.symm.trans hm'.out))
    go_enter Try.func16, Try.ntmps16
    go_wp2
    go_ret
    exact ⟨ret_bool H.out.symm, Below.refl _ _⟩
  case pos =>
    subst hnm
    have hne : ((n : Int) != n) = false := by simp
    go_enter Try.func16, Try.ntmps16
    go_wp2
    go_loopw [5] (fun i wr => ∃ (k : Int), 0 ≤ k ∧ k ≤ n ∧ i = .int .i64 k ∧ Below w.heap.size w wr ∧ Hid (xs = ys ↔ xs.drop k.toNat = ys.drop k.toNat)) (fun i _ => n - (intOf i).toNat)
    case atStart => exact ⟨0, by omega, by omega, rfl, Below.refl _ _, Lib.hid (by simp)⟩
    case round =>
      obtain ⟨k, hk1, hk, rfl, hB, hL⟩ := hrel
      have hr1 := hr.below hB
      have hs1 := hs.below hB
      by_cases hlt : k < n
      · have hlt' : decide (k < (n : Int)) = true := by simpa using hlt
        obtain ⟨b, o, rfl, _, hc, hd, he⟩ := RT.at_ hr1 (k := k.toNat) (by have := hn'.out; omega)
        obtain ⟨b2, o2, rfl, _, hc2, hd2, he2⟩ := RT.at_ hs1 (k := k.toNat) (by have := hm'.out; omega)
        have hd1 := Lib.hid (drop_cons b0 xs k.toNat (by have := hn'.out; omega))
        have hd2' := Lib.hid (drop_cons b0 ys k.toNat (by have := hm'.out; omega))
        have hsucc : Hid ((k+1).toNat = k.toNat + 1) := Lib.hid (by omega)
        generalize xs.getD k.toNat b0 = x at *
        generalize ys.getD k.toNat b0 = y at *
        obtain ⟨x1, x2, x3⟩ := x
        obtain ⟨y1, y2, y3⟩ := y
        dsimp only at hc hd hc2 hd2 he he2
        have hcx := fun y : Ext wr => y.cell hc
        have hcy := fun y : Ext wr => y.cell hc2
        have hdx := fun y : Ext wr => y.cell hd
        have hdy := fun y : Ext wr => y.cell hd2
        have hex := fun y : Ext wr => y.cell he
        have hey := fun y : Ext wr => y.cell he2
        have hq := fun (W : World) => eqMb x1 x2 x3 y1 y2 y3 W
        by_cases hxy : x1 = y1 ∧ x2 = y2 ∧ x3 = y3
        · have hxy' : decide (x1 = y1 ∧ x2 = y2 ∧ x3 = y3) = true := by simpa using hxy
          have hst : Hid (xs = ys ↔ xs.drop (k+1).toNat = ys.drop (k+1).toNat) := Lib.hid (by rw [hL.out, hd1.out, hd2'.out, hsucc.out]; simp [hxy])
          rw [hxy'] at hq
          clear hxy hxy'
          go_upto_region 6 with fail
          refine region_ext (by kernel_rfl) (by kernel_rfl) ?_
          repeat (go_big_quiet_step (fail))
          refine wpQuiet_nil ?_
          rintro w1 ⟨⟨_, hw1⟩, rfl⟩
          go_wp2_with fail
          go_roundw
          case rel => exact ⟨k+1, by omega, by omega, rfl, hB.trans (hw1.mono hB.size), hst⟩
          case measure => simp [intOf]; omega
        · have hxy' : decide (x1 = y1 ∧ x2 = y2 ∧ x3 = y3) = false := by simpa using hxy
          have hE : Hid (decide (xs = ys) = false) := Lib.hid (by
            rw [decide_eq_false_iff_not, hL.out, hd1.out, hd2'.out]
            intro h
            injection h with h1 _
            exact hxy (by simpa using h1))
          rw [hxy'] at hq
          clear hxy hxy'
          go_upto_region 6 with fail
          refine region_ext (by kernel_rfl) (by kernel_rfl) ?_
          repeat (go_big_quiet_step (fail))
          refine wpQuiet_nil ?_
          rintro w1 ⟨⟨_, hw1⟩, rfl⟩
          go_wp2_with fail
          go_ret
          exact ⟨ret_bool hE.out.symm, hB.trans (hw1.mono hB.size)⟩
      · have hlt' : decide (k < (n : Int)) = false := by simp; omega
        go_wp2_with fail
        go_ret
        have : decide (xs = ys) = true := by rw [decide_eq_true_eq, hL.out, List.drop_of_length_le (by have := hn'.out; omega), List.drop_of_length_le (by have := hm'.out; omega)]
        exact ⟨ret_bool this.symm, hB⟩



theorem far_any (A : Option Addr) (n cap : Nat) (most : Int) (w : World) (hn : n ≤ maxLen) : Calls Try.prog 8 #[.slice A n cap, .int .i64 most] w fun e w' => e = .returned (.bool (decide (most < n) && decide (n ≤ 64) || decide (80 < n))) ∧ w' = w := by
  unfold maxLen at hn
  obtain ⟨R, hR⟩ : ∃ R, (decide (most < (n : Int)) && decide (n ≤ 64) || decide (80 < n)) = R := ⟨_, rfl⟩
  rw [hR]
  have hE := Lib.hid hR
  clear hR
  by_cases h1 : most < n
  · have h1' : decide (most < (n : Int)) = true := by simpa using h1
    rw [h1'] at hE
    by_cases h2 : n ≤ 64
    · have h2' : decide ((n : Int) ≤ 64) = true := by simp; omega
      rw [decide_eq_true h2] at hE
      clear h1 h2
      go_enter Try.func8, Try.ntmps8
      go_wp2_with fail
      go_ret
      exact ⟨ret_bool (by rw [← hE.out]; simp), rfl⟩
    · have h2' : decide ((n : Int) ≤ 64) = false := by simp; omega
      rw [decide_eq_false h2] at hE
      clear h1
      by_cases h3 : 80 < n
      · have h3' : decide ((80 : Int) < (n : Int)) = true := by simp; omega
        rw [decide_eq_true h3] at hE
        clear h2 h3
        go_enter Try.func8, Try.ntmps8
        go_wp2_with fail
        go_ret
        exact ⟨ret_bool (by rw [← hE.out]; simp), rfl⟩
      · have h3' : decide ((80 : Int) < (n : Int)) = false := by simp; omega
        rw [decide_eq_false h3] at hE
        clear h2 h3
        go_enter Try.func8, Try.ntmps8
        go_wp2_with fail
        go_ret
        exact ⟨ret_bool (by rw [← hE.out]; simp), rfl⟩
  · have h1' : decide (most < (n : Int)) = false := by simpa using h1
    rw [h1'] at hE
    clear h1
    by_cases h3 : 80 < n
    · have h3' : decide ((80 : Int) < (n : Int)) = true := by simp; omega
      rw [decide_eq_true h3] at hE
      clear h3
      go_enter Try.func8, Try.ntmps8
      go_wp2_with fail
      go_ret
      exact ⟨ret_bool (by rw [← hE.out]; simp), rfl⟩
    · have h3' : decide ((80 : Int) < (n : Int)) = false := by simp; omega
      rw [decide_eq_false h3] at hE
      clear h3
      go_enter Try.func8, Try.ntmps8
      go_wp2_with fail
      go_ret
      exact ⟨ret_bool (by rw [← hE.out]; simp), rfl⟩
end Go.Proofs.Ytifdgabfnnkghaa
