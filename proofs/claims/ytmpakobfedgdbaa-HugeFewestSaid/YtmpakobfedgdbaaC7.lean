/- Merged texts. Walks of layer 13: slices.symMergeCmpFunc of groups, where the second run is one element. Plain law of a stable merge in place: what the two halves of a step begin with. Plain law of the stable sort: blocks are sorted, then merged two by two. Walks of layer 13: slices.insertionSortCmpFunc of groups, of a piece of a list. Walks of layer 13: slices.symMergeCmpFunc of groups: two sorted runs become one. Walks of layer 13: slices.stableCmpFunc of groups whose numbers ascend. The stable sort of a list of groups whose numbers ascend, of whatever length up to 1000. -/
import Derived.Test.YtmpakobfedgdbaaC6
namespace Go.Proofs.Ytmpakobfedgdbaa
open Go Go.Proofs Go.RowKit Go.Pol Go.Shelf
attribute [local go_sem] Oper.semAt_some Go.Pol.wide_fn Go.Pol.wide_depth Go.Pol.wide_fn' Go.Pol.wide_depth'

set_option maxRecDepth 100000 in
set_option maxHeartbeats 1600000 in
theorem symOneY_any (g n cap a m b : Nat) (t : TypeId) (sz : Nat) (l : List Gp) (w : World) (hr : RowB w g t sz l) (hn : l.length = n) (ham : a + 1 < m) (hmb : m + 1 = b) (hb : b ≤ n) (hn64 : n ≤ 1000)
    (hY : (cut l a m).Pairwise LeX) (hT : ∀ x ∈ cut l a m, ∀ y ∈ cut l m b, TieX x y) :
    Calls Try.prog 77 #[.slice (some ⟨g, 0, none⟩) n cap, .int .i64 a, .int .i64 m, .int .i64 b, .func (.func 38) #[] #[]] w fun e w' => e = .returned (.tuple #[]) ∧
      ∃ l', MergeTo a b l l' ∧ RowB w' g t sz l' ∧ Far (fun k => k = g) w w' := by
  subst hmb
  have hT' : ∀ x ∈ cut l a m, TieX x (l.getD m gp0) := fun x hx => hT x hx _ (by
    unfold cut
    rw [List.drop_eq_getElem_cons (show m < (l.take (m + 1)).length by simp; omega), List.getD_eq_getElem?_getD, List.getElem?_eq_getElem (show m < l.length by omega)]
    simp)
  obtain ⟨cs, hk, hcs, hl⟩ := hr
  have hsp := up_split' (l := l) (a := a) (m := m) (by omega) (by omega)
  have hx := hl.at_ m (by omega)
  have hone := Lib.hid (fun i h1 h2 f1 f2 => one_y (l := l) (a := a) (i := i) (m := m) h1 h2 (by omega) hY hT' f1 f2)
  have hlv := Lib.hid (show lvd l m = (l.getD m gp0).2.2.1 from rfl)
  have hPl : (l.take a).length = a := by simp; omega
  have hUl : (cut l a m).length = m - a := cut_len (by omega)
  generalize l.getD m gp0 = x at *
  have hl' := Lib.hid hl
  have hU := Lib.hid (And.intro hPl hUl)
  generalize cut l a m = U at *
  generalize hPP : l.take a = P at *
  generalize hSS : l.drop (m + 1) = S at *
  have hsp' := Lib.hid hsp
  have hn' := Lib.hid hn
  have hcs' := Lib.hid hcs
  clear hY hT hT' hl hsp hn hPl hUl hPP hSS hcs
  obtain ⟨b, hm⟩ : ∃ b, m + 1 = b := ⟨_, rfl⟩
  rw [hm] at hone hb ⊢
  obtain ⟨d, hd⟩ : ∃ d, m - a = d := ⟨_, rfl⟩
  have hw1 : IntKind.i64.wrap ((m : Int) - (a : Int)) = (d : Int) := by rw [IntKind.wrap_i64]; omega
  have hd1 : ((d : Int) == 1) = false := by simp; omega
  have hw2 : IntKind.i64.wrap ((b : Int) - (m : Int)) = 1 := by rw [IntKind.wrap_i64]; omega
  obtain ⟨xn, xc, xl, xh⟩ := x
  obtain ⟨x0, x1, x2, x3⟩ := hx
  rw [← hk.cell] at x0 x1 x2 x3
  go_enter Try.func77, Try.ntmps77
  go_wp2_with fail
  go_loopw [14, 15] (fun u v wr => ∃ (i j : Nat), a ≤ i ∧ i ≤ j ∧ j ≤ m ∧ u = .int .i64 i ∧ v = .int .i64 j ∧ Hid ((a < i → ¬ lvd l m < lvd l (i - 1)) ∧ (j < m → lvd l m < lvd l j)) ∧ Below w.heap.size w wr) (fun u v _ => (intOf v).toNat - (intOf u).toNat)
  case atStart => exact ⟨a, m, by omega, by omega, by omega, rfl, rfl, Lib.hid ⟨fun h => absurd h (Nat.lt_irrefl _), fun h => absurd h (Nat.lt_irrefl _)⟩, Below.refl _ _⟩
  case round =>
    obtain ⟨i, j, hi, hij, hjb, rfl, rfl, hf, hB⟩ := hrel
    by_cases hlt : i < j
    · have h1 : decide ((i : Int) < (j : Int)) = true := by simpa using hlt
      obtain ⟨h, hh⟩ : ∃ h : Nat, ((i : Int) + (j : Int)) / 2 = (h : Int) := ⟨(i + j) / 2, by omega⟩
      have hih : i ≤ h := by omega
      have hhj : h < j := by omega
      have hhn : (h : Int) < (n : Int) := by omega
      have hmn : (m : Int) < (n : Int) := by omega
      have hkr := hk.call hB
      obtain ⟨y0, y1, y2, y3⟩ := hl'.out.at_ h (by have := hn'.out; omega)
      rw [← hkr.cell] at y0 y1 y2 y3
      have hlh := Lib.hid (show lvd l h = (l.getD h gp0).2.2.1 from rfl)
      generalize l.getD h gp0 = y at *
      obtain ⟨yn, yc, yl, yh⟩ := y
      have z0 := fun z : Ext wr => z.cell ((hB.cell (by have := hk.lt; exact this)).trans x0)
      have z1 := fun z : Ext wr => z.cell ((hB.cell (by have := hk.lt; exact this)).trans x1)
      have z2 := fun z : Ext wr => z.cell ((hB.cell (by have := hk.lt; exact this)).trans x2)
      have z3 := fun z : Ext wr => z.cell ((hB.cell (by have := hk.lt; exact this)).trans x3)
      have v0 := fun z : Ext wr => z.cell y0
      have v1 := fun z : Ext wr => z.cell y1
      have v2 := fun z : Ext wr => z.cell y2
      have v3 := fun z : Ext wr => z.cell y3
      have HC := Lib.hid (fun z : Ext wr => Ext.call (x := z) (choose1_below (xn, xc, xl, xh) (yn, yc, yl, yh) z.w))
      simp only at HC
      have hcl := cmpI_lt xl yl
      generalize cmpI xl yl = c at *
      by_cases hc : xl < yl
      · have hc2 : decide (c < 0) = true := by rw [hcl]; simpa using hc
        clear hcl
        have hf2 := Lib.hid (And.intro hf.out.1 (fun _ : h < m => show lvd l m < lvd l h by rw [hlh.out, hlv.out]; exact hc))
        go_upto_region 17 with fail
        refine region_ext (by kernel_rfl) (by kernel_rfl) ?_
        repeat (go_big_quiet_step ((go_at_call 38; exact HC.out _)))
        refine wpQuiet_nil ?_
        rintro w8 ⟨⟨_, hw8⟩, rfl⟩
        clear hf hc
        go_wp2_with fail
        go_roundw
        case rel => exact ⟨i, h, hi, hih, by omega, rfl, rfl, hf2, hB.trans (hw8.mono hB.size)⟩
        case measure => simp [intOf]; omega
      · have hc2 : decide (c < 0) = false := by rw [hcl]; simpa using hc
        clear hcl
        have hf2 := Lib.hid (And.intro (fun _ : a < h + 1 => show ¬ lvd l m < lvd l (h + 1 - 1) by rw [show h + 1 - 1 = h by omega, hlh.out, hlv.out]; exact hc) hf.out.2)
        go_upto_region 17 with fail
        refine region_ext (by kernel_rfl) (by kernel_rfl) ?_
        repeat (go_big_quiet_step ((go_at_call 38; exact HC.out _)))
        refine wpQuiet_nil ?_
        rintro w8 ⟨⟨_, hw8⟩, rfl⟩
        clear hf hc
        go_wp2_with fail
        go_roundw
        case rel => exact ⟨h + 1, j, by omega, by omega, hjb, by go_num, rfl, hf2, hB.trans (hw8.mono hB.size)⟩
        case measure => simp [intOf]; omega
    · have h1 : decide ((i : Int) < (j : Int)) = false := by simpa using hlt
      obtain rfl : i = j := by omega
      have hMT := Lib.hid (hone.out i (by omega) hjb (fun h => Int.not_lt.1 (hf.out.1 h)) hf.out.2)
      have hsp0 : l = upL P (xn, xc, xl, xh) U S (m - a) := hsp'.out
      have hlens : ∀ k, (upL P (xn, xc, xl, xh) U S k).length = n := fun k => by
        rw [upL_len, ← hn'.out, hsp0, upL_len]
      have hstep := Lib.hid (fun k (hk : k < U.length) => upL_pred P (xn, xc, xl, xh) U S hk)
      rw [hU.out.1, hU.out.2] at hstep
      have hrow0 : RowG cs (upL P (xn, xc, xl, xh) U S (m - a)) := by rw [← hsp0]; exact hl'.out
      generalize upL P (xn, xc, xl, xh) U S = L at *
      have hrow0' := Lib.hid hrow0
      have hlens' := Lib.hid hlens
      have hkr := hk.call hB
      clear hf hone hlv x0 x1 x2 x3 hrow0 hlens hsp0 hsp' hl' hk
      go_wp2_with fail
      go_loopw [17] (fun u wr2 => ∃ (k p : Nat) (ds : Array Value), a + k = p ∧ i ≤ p ∧ p ≤ m ∧ u = .int .i64 p ∧ Blk wr2 g t ds ∧ Hid (ds.size = sz) ∧ Hid (RowG ds (L k)) ∧ Far (fun k => k = g) w wr2) (fun u _ => (intOf u).toNat)
      case atStart => exact ⟨m - a, m, cs, by omega, by omega, by omega, rfl, hkr, hcs', hrow0', .of_below hB⟩
      case round =>
        clear hrow0' hkr
        obtain ⟨k, p, ds, hkp, hip, hpm, rfl, hkd, hsz, hRd, hF⟩ := hrel
        by_cases hlt : i < p
        · have hlt' : decide ((i : Int) < (p : Int)) = true := by simpa using hlt
          obtain ⟨q, hq⟩ : ∃ q, p - 1 = q := ⟨_, rfl⟩
          obtain ⟨k0, hk0⟩ : ∃ k0, k - 1 = k0 := ⟨_, rfl⟩
          have hqa : IntKind.i64.wrap ((p : Int) - 1) = (q : Int) := by rw [IntKind.wrap_i64]; omega
          have hpn : (p : Int) < (n : Int) := by omega
          have hqn : (q : Int) < (n : Int) := by omega
          have hlen := hlens'.out k
          have hnext := Lib.hid (show L k0 = ((L k).set p ((L k).getD q gp0)).set q ((L k).getD p gp0) by
            have h := hstep.out k0 (by omega)
            rw [show k0 + 1 = k by omega, show a + k0 + 1 = p by omega, show a + k0 = q by omega] at h
            rw [← h, sw])
          have hS0 := hRd.out.sw hkd (p := p) (q := q) (by omega) (by omega)
          generalize L k = lk at *
          have hput := hRd.out.put (p := p) (by omega) (lk.getD q gp0)
          have hput2 := Lib.hid (hput.put (p := q) (by rw [List.length_set]; omega) (lk.getD p gp0))
          rw [← hnext.out] at hput2
          have hput' := Lib.hid hput
          clear hput hnext hRd
          generalize hX : lk.getD p gp0 = x at *
          generalize hY : lk.getD q gp0 = y at *
          go_upto_region 23 with fail
          refine wp_noPanic ?_
          refine wp_region_T (fun _ => True) [] (by kernel_rfl) ?_
          have hS : SwS g p q x y wr.drew := hS0
          have kd := hkd.drew
          have hFd := hF.drew
          generalize wr.drew = w1 at *
          obtain ⟨xn, xc, xl, xh⟩ := x
          obtain ⟨yn, yc, yl, yh⟩ := y
          clear hS0 hkd hF hX hY
          refine' wpAnyT_take (i := 0) (v := _) ?hiT0 (by kernel_rfl) ?hQT0 (Or.inl ⟨?hwT0, ?hyT0⟩) trivial ?reT0
          case hiT0 => (simp only [List.getElem?_toArray, List.getElem?_cons_zero]; rfl)
          case hQT0 => exact fun _ _ _ h => h
          case hwT0 => rfl
          case hyT0 => (intro wS hSw; go_simp; (try with_reducible rfl))
          try simp only [Act.put, List.setIfInBounds_toArray, List.set_cons_zero, List.set_cons_succ]
          refine' wpAnyT_take (i := 1) (v := _) ?hiT1 (by kernel_rfl) ?hQT1 (Or.inl ⟨?hwT1, ?hyT1⟩) trivial ?reT1
          case hiT1 => (simp only [List.getElem?_toArray, List.getElem?_cons_succ, List.getElem?_cons_zero]; rfl)
          case hQT1 => exact fun _ _ _ h => h
          case hwT1 => rfl
          case hyT1 => (intro wS hSw; go_simp; (try with_reducible rfl))
          try simp only [Act.put, List.setIfInBounds_toArray, List.set_cons_zero, List.set_cons_succ]
          refine' wpAnyT_take (i := 2) (v := _) ?hiT2 (by kernel_rfl) ?hQT2 (Or.inl ⟨?hwT2, ?hyT2⟩) trivial ?reT2
          case hiT2 => (simp only [List.getElem?_toArray, List.getElem?_cons_succ, List.getElem?_cons_zero]; rfl)
          case hQT2 => exact fun _ _ _ h => h
          case hwT2 => rfl
          case hyT2 => (intro wS hSw; go_simp; (try with_reducible rfl))
          try simp only [Act.put, List.setIfInBounds_toArray, List.set_cons_zero, List.set_cons_succ]
          refine' wpAnyT_take (i := 3) (v := _) ?hiT3 (by kernel_rfl) ?hQT3 (Or.inl ⟨?hwT3, ?hyT3⟩) trivial ?reT3
          case hiT3 => (simp only [List.getElem?_toArray, List.getElem?_cons_succ, List.getElem?_cons_zero]; rfl)
          case hQT3 => exact fun _ _ _ h => h
          case hwT3 => rfl
          case hyT3 => (intro wS hSw; go_simp; (try with_reducible rfl))
          try simp only [Act.put, List.setIfInBounds_toArray, List.set_cons_zero, List.set_cons_succ]
          refine' wpAnyT_take (i := 4) (v := _) ?hiT4 (by kernel_rfl) ?hQT4 (Or.inl ⟨?hwT4, ?hyT4⟩) trivial ?reT4
          case hiT4 => (simp only [List.getElem?_toArray, List.getElem?_cons_succ, List.getElem?_cons_zero]; rfl)
          case hQT4 => exact fun _ _ _ h => h
          case hwT4 => rfl
          case hyT4 => (intro wS hSw; go_simp; (try with_reducible rfl))
          try simp only [Act.put, List.setIfInBounds_toArray, List.set_cons_zero, List.set_cons_succ]
          refine' wpAnyT_take (i := 5) (v := _) ?hiT5 (by kernel_rfl) ?hQT5 (Or.inl ⟨?hwT5, ?hyT5⟩) trivial ?reT5
          case hiT5 => (simp only [List.getElem?_toArray, List.getElem?_cons_succ, List.getElem?_cons_zero]; rfl)
          case hQT5 => exact fun _ _ _ h => h
          case hwT5 => rfl
          case hyT5 => (intro wS hSw; go_simp; (try with_reducible rfl))
          try simp only [Act.put, List.setIfInBounds_toArray, List.set_cons_zero, List.set_cons_succ]
          refine' wpAnyT_take (i := 6) (v := _) ?hiT6 (by kernel_rfl) ?hQT6 (Or.inl ⟨?hwT6, ?hyT6⟩) trivial ?reT6
          case hiT6 => (simp only [List.getElem?_toArray, List.getElem?_cons_succ, List.getElem?_cons_zero]; rfl)
          case hQT6 => exact fun _ _ _ h => h
          case hwT6 => rfl
          case hyT6 => (intro wS hSw; go_simp; (try with_reducible rfl))
          try simp only [Act.put, List.setIfInBounds_toArray, List.set_cons_zero, List.set_cons_succ]
          refine' wpAnyT_take (i := 7) (v := _) ?hiT7 (by kernel_rfl) ?hQT7 (Or.inl ⟨?hwT7, ?hyT7⟩) trivial ?reT7
          case hiT7 => (simp only [List.getElem?_toArray, List.getElem?_cons_succ, List.getElem?_cons_zero]; rfl)
          case hQT7 => exact fun _ _ _ h => h
          case hwT7 => rfl
          case hyT7 => (intro wS hSw; go_simp; (try with_reducible rfl))
          try simp only [Act.put, List.setIfInBounds_toArray, List.set_cons_zero, List.set_cons_succ]
          refine wpAnyT_weak (S := SwS g p q (xn, xc, xl, xh) (yn, yc, yl, yh)) (tl := [15, 16, 17]) _ _ _ _ ?_
          refine' wpAnyT_take (i := 8) (v := _) ?hiT8 (by kernel_rfl) ?hQT8 (Or.inl ⟨?hwT8, ?hyT8⟩) hS ?reT8
          case hiT8 => (simp only [List.getElem?_toArray, List.getElem?_cons_succ, List.getElem?_cons_zero]; rfl)
          case hQT8 => exact fun _ _ _ h => h
          case hwT8 => rfl
          case hyT8 => (intro wS hSw; obtain ⟨⟨_, _, _, _⟩, _, _, _, _⟩ := hSw; go_simp; (try with_reducible rfl))
          try simp only [Act.put, List.setIfInBounds_toArray, List.set_cons_zero, List.set_cons_succ]
          refine' wpAnyT_take (i := 9) (v := _) ?hiT9 (by kernel_rfl) ?hQT9 (Or.inl ⟨?hwT9, ?hyT9⟩) hS ?reT9
          case hiT9 => (simp only [List.getElem?_toArray, List.getElem?_cons_succ, List.getElem?_cons_zero]; rfl)
          case hQT9 => exact fun _ _ _ h => h
          case hwT9 => rfl
          case hyT9 => (intro wS hSw; obtain ⟨⟨_, _, _, _⟩, _, _, _, _⟩ := hSw; go_simp; (try with_reducible rfl))
          try simp only [Act.put, List.setIfInBounds_toArray, List.set_cons_zero, List.set_cons_succ]
          refine' wpAnyT_take (i := 10) (v := _) ?hiT10 (by kernel_rfl) ?hQT10 (Or.inl ⟨?hwT10, ?hyT10⟩) hS ?reT10
          case hiT10 => (simp only [List.getElem?_toArray, List.getElem?_cons_succ, List.getElem?_cons_zero]; rfl)
          case hQT10 => exact fun _ _ _ h => h
          case hwT10 => rfl
          case hyT10 => (intro wS hSw; obtain ⟨⟨_, _, _, _⟩, _, _, _, _⟩ := hSw; go_simp; (try with_reducible rfl))
          try simp only [Act.put, List.setIfInBounds_toArray, List.set_cons_zero, List.set_cons_succ]
          refine' wpAnyT_take (i := 11) (v := _) ?hiT11 (by kernel_rfl) ?hQT11 (Or.inl ⟨?hwT11, ?hyT11⟩) hS ?reT11
          case hiT11 => (simp only [List.getElem?_toArray, List.getElem?_cons_succ, List.getElem?_cons_zero]; rfl)
          case hQT11 => exact fun _ _ _ h => h
          case hwT11 => rfl
          case hyT11 => (intro wS hSw; obtain ⟨⟨_, _, _, _⟩, _, _, _, _⟩ := hSw; go_simp; (try with_reducible rfl))
          try simp only [Act.put, List.setIfInBounds_toArray, List.set_cons_zero, List.set_cons_succ]
          refine' wpAnyT_take (i := 12) (v := _) ?hiT12 (by kernel_rfl) ?hQT12 (Or.inl ⟨?hwT12, ?hyT12⟩) hS ?reT12
          case hiT12 => (simp only [List.getElem?_toArray, List.getElem?_cons_succ, List.getElem?_cons_zero]; rfl)
          case hQT12 => exact fun _ _ _ h => h
          case hwT12 => rfl
          case hyT12 => (intro wS hSw; obtain ⟨⟨_, _, _, _⟩, _, _, _, _⟩ := hSw; go_simp; (try with_reducible rfl))
          try simp only [Act.put, List.setIfInBounds_toArray, List.set_cons_zero, List.set_cons_succ]
          refine' wpAnyT_take (i := 13) (v := _) ?hiT13 (by kernel_rfl) ?hQT13 (Or.inl ⟨?hwT13, ?hyT13⟩) hS ?reT13
          case hiT13 => (simp only [List.getElem?_toArray, List.getElem?_cons_succ, List.getElem?_cons_zero]; rfl)
          case hQT13 => exact fun _ _ _ h => h
          case hwT13 => rfl
          case hyT13 => (intro wS hSw; obtain ⟨⟨_, _, _, _⟩, _, _, _, _⟩ := hSw; go_simp; (try with_reducible rfl))
          try simp only [Act.put, List.setIfInBounds_toArray, List.set_cons_zero, List.set_cons_succ]
          refine' wpAnyT_take (i := 14) (v := _) ?hiT14 (by kernel_rfl) ?hQT14 (Or.inl ⟨?hwT14, ?hyT14⟩) hS ?reT14
          case hiT14 => (simp only [List.getElem?_toArray, List.getElem?_cons_succ, List.getElem?_cons_zero]; rfl)
          case hQT14 => exact fun _ _ _ h => h
          case hwT14 => rfl
          case hyT14 => (intro wS hSw; obtain ⟨⟨_, _, _, _⟩, _, _, _, _⟩ := hSw; go_simp; (try with_reducible rfl))
          try simp only [Act.put, List.setIfInBounds_toArray, List.set_cons_zero, List.set_cons_succ]
          have fzd := kd.frozen
          refine wpAnyT_ready (rs := [15]) (by kernel_rfl) (by simp) ?_
          refine' AllReadyT.cons ?hi15 (fun K hK => ?st15) AllReadyT.nil
          case hi15 => (simp only [List.getElem?_toArray, List.getElem?_cons_succ, List.getElem?_cons_zero]; rfl)
          obtain ⟨⟨a0, a1, a2, a3⟩, b0, b1, b2, b3⟩ := hS
          go_simp
          have k2 := putW_blk kd p (yn, yc, yl, yh)
          have F2 := putW_far w1 g p (yn, yc, yl, yh)
          refine hK.out _ _ (fun h => by cases h) (fun _ => ?_)
          clear hK K a0 a1 a2 a3 b0 b1 b2 b3 fzd
          change wpAnyT _ _ _ _ _ _ _ _ _ (putW w1 g p (yn, yc, yl, yh))
          generalize putW w1 g p (yn, yc, yl, yh) = w2 at *
          try simp only [Act.put, List.setIfInBounds_toArray, List.set_cons_zero, List.set_cons_succ]
          have hc : Blk w2 g t (put4 ds p (yn, yc, yl, yh)) := k2
          refine wpAnyT_ready (rs := [16]) (by kernel_rfl) (by simp) ?_
          refine' AllReadyT.cons ?hi16 (fun K hK => ?st16) AllReadyT.nil
          case hi16 => (simp only [List.getElem?_toArray, List.getElem?_cons_succ, List.getElem?_cons_zero]; rfl)
          go_simp
          refine hK.out _ _ (fun h => by cases h) (fun _ => ?_)
          clear hK K
          try simp only [Act.put, List.setIfInBounds_toArray, List.set_cons_zero, List.set_cons_succ]
          have fz2 := hc.frozen
          refine wpAnyT_ready (rs := [17]) (by kernel_rfl) (by simp) ?_
          refine' AllReadyT.cons ?hi17 (fun K hK => ?st17) AllReadyT.nil
          case hi17 => (simp only [List.getElem?_toArray, List.getElem?_cons_succ, List.getElem?_cons_zero]; rfl)
          obtain ⟨c0, c1, c2, c3⟩ := hput'.out.at_ q (by rw [List.length_set]; omega)
          rw [← hc.cell] at c0 c1 c2 c3
          go_simp
          have k3 := putW_blk hc q (xn, xc, xl, xh)
          have F3 := putW_far w2 g q (xn, xc, xl, xh)
          refine hK.out _ _ (fun h => by cases h) (fun _ => ?_)
          clear hK K c0 c1 c2 c3 fz2
          change wpAnyT _ _ _ _ _ _ _ _ _ (putW w2 g q (xn, xc, xl, xh))
          generalize putW w2 g q (xn, xc, xl, xh) = w3 at *
          refine wpAnyT_done (by kernel_rfl) ?_ _
          have F13 := hFd.trans (F2.trans F3)
          have hs3 := Lib.hid (show (put4 (put4 ds p (yn, yc, yl, yh)) q (xn, xc, xl, xh)).size = sz by rw [put4_size, put4_size]; exact hsz.out)
          clear hsz F2 F3 hFd k2 hc kd hput'
          refine noPanic_normal ?_
          go_wp2_with fail
          refine ⟨⟨k0, q, _, by omega, by omega, by omega, rfl, k3, hs3, hput2, F13⟩, ?_⟩
          simp only [intOf]
          omega
        · have hlt' : decide ((i : Int) < (p : Int)) = false := by simpa using hlt
          have hki : i - a = k := by omega
          rw [hki] at hMT
          go_wp2_with fail
          exact bodyPost_ret (results_none (by rfl) _ _ _) rfl ⟨rfl, L k, hMT.out, ⟨ds, hkd, hsz.out, hRd.out⟩, hF⟩
end Go.Proofs.Ytmpakobfedgdbaa
namespace Go.Pol
open Go
theorem cut_nil {l : List Gp} {a b : Nat} (h : b ≤ a) : cut l a b = [] := List.drop_eq_nil_of_le (by simp; omega)
theorem cut_app {l : List Gp} {a c b : Nat} (h1 : a ≤ c) (h2 : c ≤ b) : cut l a b = cut l a c ++ cut l c b := by
  unfold cut
  have e : l.take b = l.take c ++ (l.take b).drop c := by
    have := List.take_append_drop c (l.take b)
    rw [List.take_take, Nat.min_eq_left h2] at this
    exact this.symm
  by_cases h : c ≤ l.length
  · conv => lhs; rw [e]
    rw [List.drop_append_of_le_length (by simp; omega)]
  · rw [List.take_of_length_le (show l.length ≤ b by omega), List.take_of_length_le (show l.length ≤ c by omega), List.drop_eq_nil_of_le (show l.length ≤ c by omega), List.append_nil]
/-- the pieces of a list whose two middle runs have changed places -/
theorem rot_cuts {l : List Gp} {a s m e b mid : Nat} (h1 : a ≤ s) (h2 : s ≤ m) (h3 : m ≤ e) (h4 : e ≤ b) (h5 : b ≤ l.length) (hmid : mid = s + (e - m)) :
    cut (rotL s m e l) a s = cut l a s ∧ cut (rotL s m e l) s mid = cut l m e ∧ cut (rotL s m e l) mid e = cut l s m ∧ cut (rotL s m e l) e b = cut l e b := by
  obtain ⟨P, X1, X2, Y1, Y2, S, g0, g1, g2, g3, g4, rfl⟩ := five h1 h2 h3 h4 h5
  have e1 : cut (P ++ (X1 ++ (X2 ++ (Y1 ++ (Y2 ++ S))))) m e = Y1 := by
    rw [← List.append_assoc X1, ← List.append_assoc P]; exact cut_mid (by simp; omega) (by omega)
  have e2 : cut (P ++ (X1 ++ (X2 ++ (Y1 ++ (Y2 ++ S))))) s m = X2 := by
    rw [← List.append_assoc P]; exact cut_mid (by simp; omega) (by omega)
  have e5 : cut (P ++ (X1 ++ (X2 ++ (Y1 ++ (Y2 ++ S))))) a s = X1 := cut_mid g0 (by omega)
  have e6 : cut (P ++ (X1 ++ (X2 ++ (Y1 ++ (Y2 ++ S))))) e b = Y2 := by
    rw [← List.append_assoc X2, ← List.append_assoc X1, ← List.append_assoc P]; exact cut_mid (by simp; omega) (by omega)
  have cR : rotL s m e (P ++ (X1 ++ (X2 ++ (Y1 ++ (Y2 ++ S))))) = P ++ (X1 ++ (Y1 ++ (X2 ++ (Y2 ++ S)))) := by
    unfold rotL
    have e3 : (P ++ (X1 ++ (X2 ++ (Y1 ++ (Y2 ++ S))))).take s = P ++ X1 := by
      rw [← List.append_assoc P]; exact List.take_left' (by simp; omega)
    have e4 : (P ++ (X1 ++ (X2 ++ (Y1 ++ (Y2 ++ S))))).drop e = Y2 ++ S := by
      rw [show P ++ (X1 ++ (X2 ++ (Y1 ++ (Y2 ++ S)))) = (P ++ (X1 ++ (X2 ++ Y1))) ++ (Y2 ++ S) by simp]; exact List.drop_left' (by simp; omega)
    rw [e1, e2, e3, e4]; simp
  rw [e1, e2, e5, e6, cR]
  refine ⟨cut_mid g0 (by omega), ?_, ?_, ?_⟩
  · rw [← List.append_assoc P]; exact cut_mid (by simp; omega) (by omega)
  · rw [← List.append_assoc X1, ← List.append_assoc P]; exact cut_mid (by simp; omega) (by omega)
  · rw [← List.append_assoc Y1, ← List.append_assoc X1, ← List.append_assoc P]; exact cut_mid (by simp; omega) (by omega)
theorem MergeTo.cut_after {a b c d : Nat} {l l' : List Gp} (h : MergeTo a b l l') (hab : a ≤ b) (hb : b ≤ l.length) (hc : b ≤ c) : cut l' c d = cut l c d := by
  obtain ⟨Z, h1, _, rfl⟩ := h
  have hz := h1.length_eq
  rw [cut_len hb] at hz
  unfold cut
  have e1 : (l.take a ++ (Z ++ l.drop b)).drop c = l.drop c := by
    rw [← List.append_assoc, List.drop_append, List.drop_eq_nil_of_le (by simp; omega), List.nil_append, List.drop_drop]
    congr 1; simp; omega
  rw [List.drop_take, List.drop_take, e1]
theorem sym_fst {l : List Gp} {a s m e b mid : Nat} (h1 : a ≤ s) (h2 : s ≤ m) (h3 : m ≤ e) (h4 : e ≤ b) (h5 : b ≤ l.length) (hmid : mid = s + (e - m))
    (hX : (cut l a m).Pairwise LeX) (hY : (cut l m b).Pairwise LeX) (hT : ∀ x ∈ cut l a m, ∀ y ∈ cut l m b, TieX x y) :
    (cut (rotL s m e l) a s).Pairwise LeX ∧ (cut (rotL s m e l) s mid).Pairwise LeX ∧ (∀ x ∈ cut (rotL s m e l) a s, ∀ y ∈ cut (rotL s m e l) s mid, TieX x y) := by
  obtain ⟨c1, c2, _, _⟩ := rot_cuts h1 h2 h3 h4 h5 hmid
  rw [c1, c2]
  rw [cut_app h1 h2] at hX hT
  rw [cut_app h3 h4] at hY hT
  exact ⟨(List.pairwise_append.1 hX).1, (List.pairwise_append.1 hY).1, fun x hx y hy => hT x (List.mem_append_left _ hx) y (List.mem_append_left _ hy)⟩
theorem sym_snd {l l2 : List Gp} {a s m e b mid : Nat} (h1 : a ≤ s) (h2 : s ≤ m) (h3 : m ≤ e) (h4 : e ≤ b) (h5 : b ≤ l.length) (hmid : mid = s + (e - m))
    (hX : (cut l a m).Pairwise LeX) (hY : (cut l m b).Pairwise LeX) (hT : ∀ x ∈ cut l a m, ∀ y ∈ cut l m b, TieX x y) (hM : MergeTo a mid (rotL s m e l) l2) :
    l2.length = l.length ∧ (cut l2 mid e).Pairwise LeX ∧ (cut l2 e b).Pairwise LeX ∧ (∀ x ∈ cut l2 mid e, ∀ y ∈ cut l2 e b, TieX x y) := by
  obtain ⟨_, _, c3, c4⟩ := rot_cuts h1 h2 h3 h4 h5 hmid
  have hrl := rotL_len (l := l) h2 h3 (by omega)
  have hl := hM.len (by omega) (by rw [hrl]; omega)
  rw [hrl] at hl
  have k1 := hM.cut_after (c := mid) (d := e) (by omega) (by rw [hrl]; omega) (Nat.le_refl _)
  have k2 := hM.cut_after (c := e) (d := b) (by omega) (by rw [hrl]; omega) (by omega)
  rw [k1, k2, c3, c4]
  rw [cut_app h1 h2] at hX hT
  rw [cut_app h3 h4] at hY hT
  exact ⟨hl, (List.pairwise_append.1 hX).2.1, (List.pairwise_append.1 hY).2.1, fun x hx y hy => hT x (List.mem_append_right _ hx) y (List.mem_append_right _ hy)⟩
/-- a half with an empty run is merged -/
theorem merge_triv {l : List Gp} {a s b : Nat} (h1 : a ≤ s) (h2 : s ≤ b) (hn : ¬ (a < s ∧ s < b)) (hX : (cut l a s).Pairwise LeX) (hY : (cut l s b).Pairwise LeX) : MergeTo a b l l := by
  refine .sorted (by omega) ?_
  by_cases h : a < s
  · obtain rfl : s = b := by omega
    exact hX
  · obtain rfl : s = a := by omega
    exact hY
end Go.Pol
namespace Go.Pol
open Go
/-- ascending numbers -/
def AscX (l : List Gp) : Prop := l.Pairwise fun a b => a.1 < b.1
/-- a block has the elements that it had, sorted -/
structure Srt (l0 l : List Gp) (a b : Nat) : Prop where
  perm : (cut l a b).Perm (cut l0 a b)
  srt : (cut l a b).Pairwise LeX
theorem MergeTo.cut_before {a b c d : Nat} {l l' : List Gp} (h : MergeTo a b l l') (hab : a ≤ b) (hb : b ≤ l.length) (hd : d ≤ a) : cut l' c d = cut l c d := by
  obtain ⟨Z, h1, _, rfl⟩ := h
  unfold cut
  rw [List.take_append_of_le_length (by simp; omega), List.take_take, Nat.min_eq_left hd]
theorem MergeTo.cut_in {a b : Nat} {l l' : List Gp} (h : MergeTo a b l l') (hab : a ≤ b) (hb : b ≤ l.length) : (cut l' a b).Perm (cut l a b) ∧ (cut l' a b).Pairwise LeX := by
  obtain ⟨Z, h1, h2, rfl⟩ := h
  have hz := h1.length_eq
  rw [cut_len hb] at hz
  rw [cut_mid (by simp; omega) (by omega)]
  exact ⟨h1, h2⟩
theorem Srt.none (l0 l : List Gp) {a b : Nat} (h : b ≤ a) : Srt l0 l a b := by
  refine ⟨?_, ?_⟩
  · rw [cut_nil h, cut_nil h]
  · rw [cut_nil h]; exact List.Pairwise.nil
theorem Srt.after {l0 l l' : List Gp} {a b c d : Nat} (h : Srt l0 l c d) (hM : MergeTo a b l l') (hab : a ≤ b) (hb : b ≤ l.length) (hc : b ≤ c) : Srt l0 l' c d := by
  have e := hM.cut_after (d := d) hab hb hc
  exact ⟨e ▸ h.perm, e ▸ h.srt⟩
theorem Srt.before {l0 l l' : List Gp} {a b c d : Nat} (h : Srt l0 l c d) (hM : MergeTo a b l l') (hab : a ≤ b) (hb : b ≤ l.length) (hd : d ≤ a) : Srt l0 l' c d := by
  have e := hM.cut_before (c := c) hab hb hd
  exact ⟨e ▸ h.perm, e ▸ h.srt⟩
theorem Srt.both {l0 l l' : List Gp} {a m b : Nat} (h1 : Srt l0 l a m) (h2 : Srt l0 l m b) (ham : a ≤ m) (hmb : m ≤ b) (hb : b ≤ l.length) (hM : MergeTo a b l l') : Srt l0 l' a b := by
  obtain ⟨p, q⟩ := hM.cut_in (by omega) hb
  refine ⟨p.trans ?_, q⟩
  rw [cut_app ham hmb, cut_app (l := l0) ham hmb]
  exact h1.perm.append h2.perm
/-- the elements of a former block have lesser numbers -/
theorem asc_cut {l : List Gp} (h : AscX l) {a m b : Nat} (ham : a ≤ m) (hmb : m ≤ b) : ∀ x ∈ cut l a m, ∀ y ∈ cut l m b, x.1 < y.1 := by
  have hs : (cut l a b).Sublist l := by unfold cut; exact (List.drop_sublist _ _).trans (List.take_sublist _ _)
  have hp := h.sublist hs
  rw [cut_app ham hmb] at hp
  exact (List.pairwise_append.1 hp).2.2
theorem Srt.tie {l0 l : List Gp} {a m b : Nat} (h1 : Srt l0 l a m) (h2 : Srt l0 l m b) (ha : AscX l0) (ham : a ≤ m) (hmb : m ≤ b) : ∀ x ∈ cut l a m, ∀ y ∈ cut l m b, TieX x y :=
  fun x hx y hy _ => Int.le_of_lt (asc_cut ha ham hmb x (h1.perm.mem_iff.1 hx) y (h2.perm.mem_iff.1 hy))
/-- the blocks of a size before a place are sorted -/
def Done (l0 l : List Gp) (bs a : Nat) : Prop := ∀ c, bs ∣ c → c + bs ≤ a → Srt l0 l c (c + bs)
/-- the blocks of a size from a place on are sorted -/
def Blks (l0 l : List Gp) (bs n a : Nat) : Prop := ∀ c, bs ∣ c → a ≤ c → c ≤ n → Srt l0 l c (min (c + bs) n)
theorem dvd_eq {bs a c : Nat} (h1 : bs ∣ a) (h2 : bs ∣ c) (h3 : a ≤ c) (h4 : c < a + bs) : c = a := by
  obtain ⟨x, rfl⟩ := h1
  obtain ⟨y, rfl⟩ := h2
  have : bs * y < bs * (x + 1) := by rw [Nat.mul_succ]; exact h4
  have h5 := Nat.lt_of_mul_lt_mul_left this
  have h6 : bs * x ≤ bs * y := h3
  by_cases hb : bs = 0
  · subst hb; omega
  · have := Nat.le_of_mul_le_mul_left h6 (by omega)
    have : x = y := by omega
    rw [this]
theorem Done.step {l0 l l' : List Gp} {bs a : Nat} (h : Done l0 l bs a) (hd : bs ∣ a) (hb : a + bs ≤ l.length) (hM : MergeTo a (a + bs) l l') (hS : Srt l0 l' a (a + bs)) : Done l0 l' bs (a + bs) := by
  intro c hc hca
  by_cases h1 : c + bs ≤ a
  · exact (h c hc h1).before hM (by omega) hb h1
  · have := dvd_eq hc hd (by omega) (by omega)
    subst this; exact hS
theorem Blks.step {l0 l l' : List Gp} {bs n a b : Nat} (h : Blks l0 l bs n a) (hab : a ≤ b) (hb : b ≤ l.length) (hM : MergeTo a b l l') : Blks l0 l' bs n b :=
  fun c hc hbc hcn => (h c hc (by omega) hcn).after hM hab hb hbc
theorem Blks.of_done {l0 l : List Gp} {bs n a : Nat} (h : Done l0 l bs a) (hd : bs ∣ a) (han : a ≤ n) (hna : n < a + bs) (hS : Srt l0 l a n) : Blks l0 l bs n 0 := by
  intro c hc _ hcn
  by_cases h1 : c + bs ≤ a
  · rw [Nat.min_eq_left (by omega)]; exact h c hc h1
  · have : c = a := by
      by_cases h2 : c ≤ a
      · exact (dvd_eq hc hd h2 (by omega)).symm
      · exact dvd_eq hd hc (by omega) (by omega)
    subst this
    rw [Nat.min_eq_right (by omega)]; exact hS
theorem Blks.end_ {l0 l : List Gp} {bs n : Nat} (h : Blks l0 l bs n 0) (hn : n ≤ bs) : Srt l0 l 0 n := by
  have := h 0 (Nat.dvd_zero _) (Nat.le_refl _) (Nat.zero_le _)
  rwa [Nat.zero_add, Nat.min_eq_right hn] at this
/-- the first phase: blocks that are sorted, and the rest as it was -/
structure Ph1 (l0 l : List Gp) (bs a : Nat) : Prop where
  len : l.length = l0.length
  done : Done l0 l bs a
  rest : ∀ c d, a ≤ c → cut l c d = cut l0 c d
theorem Ph1.start (l0 : List Gp) {bs : Nat} (hb : 0 < bs) : Ph1 l0 l0 bs 0 := ⟨rfl, fun c _ h => by omega, fun _ _ _ => rfl⟩
theorem Ph1.asc {l0 l : List Gp} {bs a b : Nat} (h : Ph1 l0 l bs a) (ha : AscX l0) : AscX (cut l a b) := by
  rw [h.rest a b (Nat.le_refl _)]
  exact List.Pairwise.sublist (by unfold cut; exact (List.drop_sublist _ _).trans (List.take_sublist _ _)) ha
theorem Ph1.srt {l0 l l' : List Gp} {bs a b : Nat} (h : Ph1 l0 l bs a) (hab : a ≤ b) (hb : b ≤ l.length) (hM : MergeTo a b l l') : Srt l0 l' a b := by
  obtain ⟨p, q⟩ := hM.cut_in hab hb
  rw [h.rest a b (Nat.le_refl _)] at p
  exact ⟨p, q⟩
theorem Ph1.step {l0 l l' : List Gp} {bs a : Nat} (h : Ph1 l0 l bs a) (hd : bs ∣ a) (hb : a + bs ≤ l.length) (hM : MergeTo a (a + bs) l l') : Ph1 l0 l' bs (a + bs) :=
  ⟨(hM.len (by omega) hb).trans h.len, h.done.step hd hb hM (h.srt (by omega) hb hM), fun c d hc => (hM.cut_after (by omega) hb hc).trans (h.rest c d (by omega))⟩
theorem Ph1.blks {l0 l l' : List Gp} {bs a n : Nat} (h : Ph1 l0 l bs a) (hd : bs ∣ a) (hn : l.length = n) (han : a ≤ n) (hna : n < a + bs) (hM : MergeTo a n l l') : Blks l0 l' bs n 0 ∧ l'.length = l0.length :=
  ⟨Blks.of_done (fun c hc hca => (h.done c hc hca).before hM han (by omega) hca) hd han hna (h.srt han (by omega) hM), (hM.len han (by omega)).trans h.len⟩
/-- a phase of merges -/
structure Ph2 (l0 l : List Gp) (bs n a : Nat) : Prop where
  len : l.length = n
  done : Done l0 l (2 * bs) a
  rest : Blks l0 l bs n a
theorem Ph2.start {l0 l : List Gp} {bs n : Nat} (h : Blks l0 l bs n 0) (hn : l.length = n) (hb : 0 < bs) : Ph2 l0 l bs n 0 := ⟨hn, fun c _ h => by omega, h⟩
theorem Ph2.fst {l0 l : List Gp} {bs n a : Nat} (h : Ph2 l0 l bs n a) (hd : 2 * bs ∣ a) (han : a + bs ≤ n) : Srt l0 l a (a + bs) := by
  have := h.rest a (Nat.dvd_trans ⟨2, Nat.mul_comm _ _⟩ hd) (Nat.le_refl _) (by omega)
  rwa [Nat.min_eq_left (by omega)] at this
theorem Ph2.snd {l0 l : List Gp} {bs n a : Nat} (h : Ph2 l0 l bs n a) (hd : 2 * bs ∣ a) (han : a + bs ≤ n) : Srt l0 l (a + bs) (min (a + 2 * bs) n) := by
  have := h.rest (a + bs) ((Nat.dvd_add (Nat.dvd_trans ⟨2, Nat.mul_comm _ _⟩ hd) (Nat.dvd_refl _))) (by omega) (by omega)
  rwa [show a + bs + bs = a + 2 * bs by omega] at this
theorem Ph2.step {l0 l l' : List Gp} {bs n a : Nat} (h : Ph2 l0 l bs n a) (hd : 2 * bs ∣ a) (hb : a + 2 * bs ≤ n) (hM : MergeTo a (a + 2 * bs) l l') : Ph2 l0 l' bs n (a + 2 * bs) := by
  have hl := h.len
  have s1 := h.fst hd (by omega)
  have s2 := h.snd hd (by omega)
  rw [Nat.min_eq_left (by omega)] at s2
  exact ⟨(hM.len (by omega) (by omega)).trans hl, h.done.step hd (by omega) hM (s1.both s2 (by omega) (by omega) (by omega) hM), h.rest.step (by omega) (by omega) hM⟩
theorem Ph2.last {l0 l l' : List Gp} {bs n a : Nat} (h : Ph2 l0 l bs n a) (hd : 2 * bs ∣ a) (han : a + bs < n) (hna : n < a + 2 * bs) (hM : MergeTo a n l l') : Blks l0 l' (2 * bs) n 0 ∧ l'.length = n := by
  have hl := h.len
  have s1 := h.fst hd (by omega)
  have s2 := h.snd hd (by omega)
  rw [Nat.min_eq_right (by omega)] at s2
  exact ⟨Blks.of_done (fun c hc hca => (h.done c hc hca).before hM (by omega) (by omega) hca) hd (by omega) hna (s1.both s2 (by omega) (by omega) (by omega) hM), (hM.len (by omega) (by omega)).trans hl⟩
theorem Ph2.none {l0 l : List Gp} {bs n a : Nat} (h : Ph2 l0 l bs n a) (hd : 2 * bs ∣ a) (han : n ≤ a + bs) (hna : n < a + 2 * bs) (ha : a ≤ n) : Blks l0 l (2 * bs) n 0 := by
  have s := h.rest a (Nat.dvd_trans ⟨2, Nat.mul_comm _ _⟩ hd) (Nat.le_refl _) ha
  rw [Nat.min_eq_right han] at s
  exact Blks.of_done h.done hd ha hna s
/-- one element put into a sorted block -/
theorem MergeTo.more {a i : Nat} {l l1 l2 : List Gp} (h1 : MergeTo a i l l1) (h2 : MergeTo a (i + 1) l1 l2) (hai : a ≤ i) (hi : i + 1 ≤ l.length) : MergeTo a (i + 1) l l2 := by
  have hl := h1.len hai (by omega)
  obtain ⟨p1, _⟩ := h1.cut_in hai (by omega)
  obtain ⟨Z, q1, q2, rfl⟩ := h2
  refine ⟨Z, q1.trans ?_, q2, ?_⟩
  · rw [cut_app hai (Nat.le_succ i), cut_app (l := l) hai (Nat.le_succ i), h1.cut_after hai (by omega) (Nat.le_refl _)]
    exact p1.append (List.Perm.refl _)
  · obtain ⟨Y, r1, _, rfl⟩ := h1
    have hy := r1.length_eq
    rw [cut_len (by omega)] at hy
    rw [List.take_left' (by simp; omega), show l.take a ++ (Y ++ l.drop i) = (l.take a ++ Y) ++ l.drop i by simp, List.drop_append, List.drop_eq_nil_of_le (by simp; omega), List.nil_append, List.drop_drop]
    congr 2; congr 1; simp; omega
theorem asc_tie {l l1 : List Gp} {a i b : Nat} (h1 : MergeTo a i l l1) (hA : AscX (cut l a b)) (hai : a ≤ i) (hib : i < b) (hb : b ≤ l.length) : ∀ x ∈ cut l1 a i, TieX x (l1.getD i gp0) := by
  intro x hx _
  have hx' := (h1.cut_in hai (by omega)).1.mem_iff.1 hx
  have e : l1.getD i gp0 = (cut l i b).getD 0 gp0 := by
    rw [← h1.cut_after hai (by omega) (Nat.le_refl _), ← getD_cut (Nat.le_refl i) hib, Nat.sub_self]
  have hA' := hA
  rw [cut_app hai (Nat.le_of_lt hib)] at hA'
  refine Int.le_of_lt ((List.pairwise_append.1 hA').2.2 x hx' _ ?_)
  rw [e, List.getD_eq_getElem?_getD, List.getElem?_eq_getElem (by rw [cut_len hb]; omega)]; simp
/-- the sorted list is the only one -/
theorem srt_eq {l0 l l' : List Gp} (h : AscX l0) (p : l.Perm l0) (s : l.Pairwise LeX) (p' : l'.Perm l0) (s' : l'.Pairwise LeX) : l = l' := by
  refine (p.trans p'.symm).eq_of_pairwise (fun a b ha hb h1 h2 => ?_) s s'
  have ha0 := p.mem_iff.1 ha
  have hb0 := p'.mem_iff.1 hb
  have hn : a.1 = b.1 := by unfold LeX at h1 h2; omega
  apply Classical.byContradiction
  intro hne
  obtain ⟨i, hi, rfl⟩ := List.mem_iff_getElem.1 ha0
  obtain ⟨j, hj, rfl⟩ := List.mem_iff_getElem.1 hb0
  have hp := List.pairwise_iff_getElem.1 h
  rcases Nat.lt_trichotomy i j with h | h | h
  · have := hp i j hi hj h; omega
  · subst h; exact hne rfl
  · have := hp j i hj hi h; omega
end Go.Pol
namespace Go.Pol
open Go
theorem up_here (P : List Gp) (x : Gp) (U S : List Gp) {k : Nat} (hk : k ≤ U.length) : (upL P x U S k).getD (P.length + k) gp0 = x := by
  unfold upL
  rw [← List.append_assoc, getD_app, if_neg (by simp; omega)]
  rw [show P.length + k - (P ++ U.take k).length = 0 by simp; omega]
  rfl
theorem up_below (P : List Gp) (x : Gp) (U S : List Gp) {k j m : Nat} (hk : k ≤ U.length) (hj : j < P.length + k) (hm : m = U.length) : (upL P x U S k).getD j gp0 = (upL P x U S m).getD j gp0 := by
  have e : ∀ i, i ≤ U.length → k ≤ i → (upL P x U S i).getD j gp0 = (P ++ U).getD j gp0 := fun i hi hki => by
    unfold upL
    rw [← List.append_assoc, getD_app, if_pos (by rw [List.length_append, List.length_take]; omega), getD_app, getD_app]
    by_cases h : j < P.length
    · rw [if_pos h, if_pos h]
    · rw [if_neg h, if_neg h]
      simp only [List.getD_eq_getElem?_getD, List.getElem?_take]
      rw [if_pos (by omega)]
  rw [e k hk (Nat.le_refl _), e m (by omega) (by omega)]
theorem MergeTo.one {a : Nat} {l : List Gp} (h : a + 1 ≤ l.length) : MergeTo a (a + 1) l l := by
  refine .sorted (by omega) ?_
  have : (cut l a (a + 1)).length = 1 := by rw [cut_len h]; omega
  obtain ⟨x, hx⟩ := List.length_eq_one_iff.1 this
  rw [hx]; exact List.pairwise_singleton _ _
end Go.Pol
namespace Go.Proofs.Ytmpakobfedgdbaa
open Go Go.Proofs Go.RowKit Go.Pol Go.Shelf
attribute [local go_sem] Oper.semAt_some Go.Pol.wide_fn Go.Pol.wide_depth Go.Pol.wide_fn' Go.Pol.wide_depth'

set_option maxRecDepth 100000 in
set_option maxHeartbeats 4000000 in
theorem insertion_any (g n cap a b : Nat) (t : TypeId) (sz : Nat) (l : List Gp) (w : World) (hr : RowB w g t sz l) (hn : l.length = n) (hab : a ≤ b) (hb : b ≤ n) (hn64 : n ≤ 1000) (hA : AscX (cut l a b)) :
    Calls Try.prog 76 #[.slice (some ⟨g, 0, none⟩) n cap, .int .i64 a, .int .i64 b, .func (.func 38) #[] #[]] w fun e w' => e = .returned (.tuple #[]) ∧
      ∃ l', MergeTo a b l l' ∧ RowB w' g t sz l' ∧ Far (fun k => k = g) w w' := by
  have hwa : IntKind.i64.wrap ((a : Int) + 1) = ((a + 1 : Nat) : Int) := by rw [IntKind.wrap_i64]; omega
  by_cases hab2 : a = b
  · subst hab2
    have hM := Lib.hid (MergeTo.sorted (l := l) (Nat.le_refl a) (by rw [cut_nil (Nat.le_refl _)]; exact List.Pairwise.nil))
    have hr' := Lib.hid hr
    clear hr hA
    have h1 : decide (((a + 1 : Nat) : Int) < (a : Int)) = false := by simp; omega
    obtain ⟨a1, ha1⟩ : ∃ a1, a + 1 = a1 := ⟨_, rfl⟩
    rw [ha1] at hwa h1
    go_enter Try.func76, Try.ntmps76
    go_wp2_with fail
    go_loopw [8] (fun u wr => u = .int .i64 a1 ∧ wr = w) (fun _ _ => 0)
    case atStart => exact ⟨rfl, rfl⟩
    case round =>
      obtain ⟨rfl, hw⟩ := hrel
      have hw' := hw.symm
      clear hw
      subst hw'
      go_wp2_with fail
      go_end0
      exact ⟨rfl, l, hM.out, hr'.out, Far.refl _ _⟩
  · obtain ⟨cs, hk, hcs, hl⟩ := hr
    have hM0 := Lib.hid (MergeTo.one (l := l) (a := a) (by omega))
    have hA' := Lib.hid hA
    have hn' := Lib.hid hn
    have hl' := Lib.hid hl
    have hcs' := Lib.hid hcs
    clear hA hn hl hcs
    obtain ⟨a1, ha1⟩ : ∃ a1, a + 1 = a1 := ⟨_, rfl⟩
    rw [ha1] at hwa hM0
    go_enter Try.func76, Try.ntmps76
    go_wp2_with fail
    go_loopw [8] (fun u wr => ∃ (i : Nat) (li : List Gp) (ds : Array Value), a + 1 ≤ i ∧ i ≤ b ∧ u = .int .i64 i ∧ Hid (MergeTo a i l li) ∧ Hid (li.length = n) ∧ Blk wr g t ds ∧ Hid (ds.size = sz) ∧ Hid (RowG ds li) ∧ Far (fun k => k = g) w wr) (fun u _ => b - (intOf u).toNat)
    case atStart => exact ⟨a1, l, cs, by omega, by omega, rfl, hM0, hn', hk, hcs', hl', Far.refl _ _⟩
    case round =>
      clear hk hl' hcs' hM0
      obtain ⟨i, li, ds0, hai, hib, rfl, hMi, hli, hk, hcs', hl', hF0⟩ := hrel
      by_cases hlt : i < b
      · have h1 : decide ((i : Int) < (b : Int)) = true := by simpa using hlt
        have hsp := up_split' (l := li) (a := a) (m := i) (by omega) (by have := hli.out; omega)
        have hX : (cut li a i).Pairwise LeX := (hMi.out.cut_in (by omega) (by have := hn'.out; omega)).2
        have hT := asc_tie hMi.out hA'.out (by omega) hlt (by have := hn'.out; omega)
        have hone := Lib.hid (fun p h1 h2 f1 f2 => one_y (l := li) (a := a) (i := p) (m := i) h1 h2 (by have := hli.out; omega) hX hT f1 f2)
        have hlv := Lib.hid (show lvd li i = (li.getD i gp0).2.2.1 from rfl)
        have hPl : (li.take a).length = a := by have := hli.out; simp; omega
        have hUl : (cut li a i).length = i - a := cut_len (by have := hli.out; omega)
        generalize li.getD i gp0 = x at *
        have hU := Lib.hid (And.intro hPl hUl)
        generalize cut li a i = U at *
        generalize hPP : li.take a = P at *
        generalize hSS : li.drop (i + 1) = S at *
        have hrow0 : RowG ds0 (upL P x U S (i - a)) := by rw [← hsp]; exact hl'.out
        have hstep := Lib.hid (fun k (hk : k < U.length) => upL_pred P x U S hk)
        have hlens : ∀ k, (upL P x U S k).length = n := fun k => by
          rw [upL_len, ← hli.out, hsp, upL_len]
        have hhere := Lib.hid (fun k (hk : k ≤ U.length) => up_here P x U S hk)
        have hbel := Lib.hid (fun k j (hk : k ≤ U.length) (hj : j < P.length + k) => (up_below P x U S hk hj hUl.symm).trans (congrArg (fun z => z.getD j gp0) hsp.symm))
        rw [hU.out.1, hU.out.2] at hhere hbel hstep
        generalize upL P x U S = L at *
        have hrow0' := Lib.hid hrow0
        have hlens' := Lib.hid hlens
        clear hX hT hPl hUl hPP hSS hsp hlens hrow0 hl'
        obtain ⟨xn, xc, xl, xh⟩ := x
        go_wp2_with fail
        go_loopw [9] (fun u wr2 => ∃ (k p : Nat) (ds : Array Value), a + k = p ∧ p ≤ i ∧ u = .int .i64 p ∧ Blk wr2 g t ds ∧ Hid (ds.size = sz) ∧ Hid (RowG ds (L k)) ∧ Hid (p < i → lvd li i < lvd li p) ∧ Far (fun k => k = g) w wr2) (fun u _ => (intOf u).toNat)
        case atStart => exact ⟨i - a, i, ds0, by omega, by omega, rfl, hk, hcs', hrow0', Lib.hid (fun h => absurd h (Nat.lt_irrefl _)), hF0⟩
        case round =>
          clear hrow0' hk hcs' hF0
          obtain ⟨k, p, ds, hkp, hpi, rfl, hkd, hsz, hRd, hf2, hF⟩ := hrel
          by_cases hap : a < p
          · have h2 : decide ((a : Int) < (p : Int)) = true := by simpa using hap
            obtain ⟨q, hq⟩ : ∃ q, p - 1 = q := ⟨_, rfl⟩
            obtain ⟨k0, hk0⟩ : ∃ k0, k - 1 = k0 := ⟨_, rfl⟩
            have hqa : IntKind.i64.wrap ((p : Int) - 1) = (q : Int) := by rw [IntKind.wrap_i64]; omega
            have hpn : (p : Int) < (n : Int) := by omega
            have hqn : (q : Int) < (n : Int) := by omega
            have hlen := hlens'.out k
            obtain ⟨x0, x1, x2, x3⟩ := hRd.out.at_ p (by omega)
            obtain ⟨y0, y1, y2, y3⟩ := hRd.out.at_ q (by omega)
            have hxe := hhere.out k (by omega)
            have hye := hbel.out k q (by omega) (by omega)
            rw [hkp] at hxe
            rw [hxe] at x0 x1 x2 x3
            rw [hye] at y0 y1 y2 y3
            rw [← hkd.cell] at x0 x1 x2 x3 y0 y1 y2 y3
            have hlq := Lib.hid (show lvd li q = (li.getD q gp0).2.2.1 from rfl)
            clear hxe hye
            generalize li.getD q gp0 = y at *
            obtain ⟨yn, yc, yl, yh⟩ := y
            have z0 := fun z : Ext wr => z.cell x0
            have z1 := fun z : Ext wr => z.cell x1
            have z2 := fun z : Ext wr => z.cell x2
            have z3 := fun z : Ext wr => z.cell x3
            have v0 := fun z : Ext wr => z.cell y0
            have v1 := fun z : Ext wr => z.cell y1
            have v2 := fun z : Ext wr => z.cell y2
            have v3 := fun z : Ext wr => z.cell y3
            have HC := Lib.hid (fun z : Ext wr => Ext.call (x := z) (choose1_below (xn, xc, xl, xh) (yn, yc, yl, yh) z.w))
            simp only at HC
            have hcl := cmpI_lt xl yl
            generalize cmpI xl yl = c at *
            by_cases hc : xl < yl
            · have hc2 : decide (c < 0) = true := by rw [hcl]; simpa using hc
              clear hcl
              have hf3 := Lib.hid (fun _ : q < i => show lvd li i < lvd li q by rw [hlv.out, hlq.out]; exact hc)
              go_upto_region 4 with fail
              refine region_ext (by kernel_rfl) (by kernel_rfl) ?_
              repeat (go_big_quiet_step ((go_at_call 38; exact HC.out _)))
              refine wpQuiet_nil ?_
              rintro wr ⟨⟨_, hw8⟩, rfl⟩
              replace hkd := hkd.call hw8
              replace hF := hF.trans (.of_below hw8)
              have hnext := Lib.hid (show L k0 = ((L k).set p ((L k).getD q gp0)).set q ((L k).getD p gp0) by
                have h := hstep.out k0 (by omega)
                rw [show k0 + 1 = k by omega, show a + k0 + 1 = p by omega, show a + k0 = q by omega] at h
                rw [← h, sw])
              clear hc hf2 hlq x0 x1 x2 x3 y0 y1 y2 y3 z0 z1 z2 z3 v0 v1 v2 v3 HC hw8
              have hS0 := hRd.out.sw hkd (p := p) (q := q) (by omega) (by omega)
              generalize L k = lk at *
              have hput := hRd.out.put (p := p) (by omega) (lk.getD q gp0)
              have hput2 := Lib.hid (hput.put (p := q) (by rw [List.length_set]; omega) (lk.getD p gp0))
              rw [← hnext.out] at hput2
              have hput' := Lib.hid hput
              clear hput hnext hRd
              generalize hX : lk.getD p gp0 = x at *
              generalize hY : lk.getD q gp0 = y at *
              go_upto_region 6 with fail
              refine wp_noPanic ?_
              refine wp_region_T (fun _ => True) [] (by kernel_rfl) ?_
              have hS : SwS g p q x y wr.drew := hS0
              have kd := hkd.drew
              have hFd := hF.drew
              generalize wr.drew = w1 at *
              obtain ⟨xn, xc, xl, xh⟩ := x
              obtain ⟨yn, yc, yl, yh⟩ := y
              clear hS0 hkd hF hX hY
              refine' wpAnyT_take (i := 0) (v := _) ?hiT0 (by kernel_rfl) ?hQT0 (Or.inl ⟨?hwT0, ?hyT0⟩) trivial ?reT0
              case hiT0 => (simp only [List.getElem?_toArray, List.getElem?_cons_zero]; rfl)
              case hQT0 => exact fun _ _ _ h => h
              case hwT0 => rfl
              case hyT0 => (intro wS hSw; go_simp; (try with_reducible rfl))
              try simp only [Act.put, List.setIfInBounds_toArray, List.set_cons_zero, List.set_cons_succ]
              refine' wpAnyT_take (i := 1) (v := _) ?hiT1 (by kernel_rfl) ?hQT1 (Or.inl ⟨?hwT1, ?hyT1⟩) trivial ?reT1
              case hiT1 => (simp only [List.getElem?_toArray, List.getElem?_cons_succ, List.getElem?_cons_zero]; rfl)
              case hQT1 => exact fun _ _ _ h => h
              case hwT1 => rfl
              case hyT1 => (intro wS hSw; go_simp; (try with_reducible rfl))
              try simp only [Act.put, List.setIfInBounds_toArray, List.set_cons_zero, List.set_cons_succ]
              refine' wpAnyT_take (i := 2) (v := _) ?hiT2 (by kernel_rfl) ?hQT2 (Or.inl ⟨?hwT2, ?hyT2⟩) trivial ?reT2
              case hiT2 => (simp only [List.getElem?_toArray, List.getElem?_cons_succ, List.getElem?_cons_zero]; rfl)
              case hQT2 => exact fun _ _ _ h => h
              case hwT2 => rfl
              case hyT2 => (intro wS hSw; go_simp; (try with_reducible rfl))
              try simp only [Act.put, List.setIfInBounds_toArray, List.set_cons_zero, List.set_cons_succ]
              refine' wpAnyT_take (i := 3) (v := _) ?hiT3 (by kernel_rfl) ?hQT3 (Or.inl ⟨?hwT3, ?hyT3⟩) trivial ?reT3
              case hiT3 => (simp only [List.getElem?_toArray, List.getElem?_cons_succ, List.getElem?_cons_zero]; rfl)
              case hQT3 => exact fun _ _ _ h => h
              case hwT3 => rfl
              case hyT3 => (intro wS hSw; go_simp; (try with_reducible rfl))
              try simp only [Act.put, List.setIfInBounds_toArray, List.set_cons_zero, List.set_cons_succ]
              refine' wpAnyT_take (i := 4) (v := _) ?hiT4 (by kernel_rfl) ?hQT4 (Or.inl ⟨?hwT4, ?hyT4⟩) trivial ?reT4
              case hiT4 => (simp only [List.getElem?_toArray, List.getElem?_cons_succ, List.getElem?_cons_zero]; rfl)
              case hQT4 => exact fun _ _ _ h => h
              case hwT4 => rfl
              case hyT4 => (intro wS hSw; go_simp; (try with_reducible rfl))
              try simp only [Act.put, List.setIfInBounds_toArray, List.set_cons_zero, List.set_cons_succ]
              refine' wpAnyT_take (i := 5) (v := _) ?hiT5 (by kernel_rfl) ?hQT5 (Or.inl ⟨?hwT5, ?hyT5⟩) trivial ?reT5
              case hiT5 => (simp only [List.getElem?_toArray, List.getElem?_cons_succ, List.getElem?_cons_zero]; rfl)
              case hQT5 => exact fun _ _ _ h => h
              case hwT5 => rfl
              case hyT5 => (intro wS hSw; go_simp; (try with_reducible rfl))
              try simp only [Act.put, List.setIfInBounds_toArray, List.set_cons_zero, List.set_cons_succ]
              refine' wpAnyT_take (i := 6) (v := _) ?hiT6 (by kernel_rfl) ?hQT6 (Or.inl ⟨?hwT6, ?hyT6⟩) trivial ?reT6
              case hiT6 => (simp only [List.getElem?_toArray, List.getElem?_cons_succ, List.getElem?_cons_zero]; rfl)
              case hQT6 => exact fun _ _ _ h => h
              case hwT6 => rfl
              case hyT6 => (intro wS hSw; go_simp; (try with_reducible rfl))
              try simp only [Act.put, List.setIfInBounds_toArray, List.set_cons_zero, List.set_cons_succ]
              refine' wpAnyT_take (i := 7) (v := _) ?hiT7 (by kernel_rfl) ?hQT7 (Or.inl ⟨?hwT7, ?hyT7⟩) trivial ?reT7
              case hiT7 => (simp only [List.getElem?_toArray, List.getElem?_cons_succ, List.getElem?_cons_zero]; rfl)
              case hQT7 => exact fun _ _ _ h => h
              case hwT7 => rfl
              case hyT7 => (intro wS hSw; go_simp; (try with_reducible rfl))
              try simp only [Act.put, List.setIfInBounds_toArray, List.set_cons_zero, List.set_cons_succ]
              refine wpAnyT_weak (S := SwS g p q (xn, xc, xl, xh) (yn, yc, yl, yh)) (tl := [15, 16, 17]) _ _ _ _ ?_
              refine' wpAnyT_take (i := 8) (v := _) ?hiT8 (by kernel_rfl) ?hQT8 (Or.inl ⟨?hwT8, ?hyT8⟩) hS ?reT8
              case hiT8 => (simp only [List.getElem?_toArray, List.getElem?_cons_succ, List.getElem?_cons_zero]; rfl)
              case hQT8 => exact fun _ _ _ h => h
              case hwT8 => rfl
              case hyT8 => (intro wS hSw; obtain ⟨⟨_, _, _, _⟩, _, _, _, _⟩ := hSw; go_simp; (try with_reducible rfl))
              try simp only [Act.put, List.setIfInBounds_toArray, List.set_cons_zero, List.set_cons_succ]
              refine' wpAnyT_take (i := 9) (v := _) ?hiT9 (by kernel_rfl) ?hQT9 (Or.inl ⟨?hwT9, ?hyT9⟩) hS ?reT9
              case hiT9 => (simp only [List.getElem?_toArray, List.getElem?_cons_succ, List.getElem?_cons_zero]; rfl)
              case hQT9 => exact fun _ _ _ h => h
              case hwT9 => rfl
              case hyT9 => (intro wS hSw; obtain ⟨⟨_, _, _, _⟩, _, _, _, _⟩ := hSw; go_simp; (try with_reducible rfl))
              try simp only [Act.put, List.setIfInBounds_toArray, List.set_cons_zero, List.set_cons_succ]
              refine' wpAnyT_take (i := 10) (v := _) ?hiT10 (by kernel_rfl) ?hQT10 (Or.inl ⟨?hwT10, ?hyT10⟩) hS ?reT10
              case hiT10 => (simp only [List.getElem?_toArray, List.getElem?_cons_succ, List.getElem?_cons_zero]; rfl)
              case hQT10 => exact fun _ _ _ h => h
              case hwT10 => rfl
              case hyT10 => (intro wS hSw; obtain ⟨⟨_, _, _, _⟩, _, _, _, _⟩ := hSw; go_simp; (try with_reducible rfl))
              try simp only [Act.put, List.setIfInBounds_toArray, List.set_cons_zero, List.set_cons_succ]
              refine' wpAnyT_take (i := 11) (v := _) ?hiT11 (by kernel_rfl) ?hQT11 (Or.inl ⟨?hwT11, ?hyT11⟩) hS ?reT11
              case hiT11 => (simp only [List.getElem?_toArray, List.getElem?_cons_succ, List.getElem?_cons_zero]; rfl)
              case hQT11 => exact fun _ _ _ h => h
              case hwT11 => rfl
              case hyT11 => (intro wS hSw; obtain ⟨⟨_, _, _, _⟩, _, _, _, _⟩ := hSw; go_simp; (try with_reducible rfl))
              try simp only [Act.put, List.setIfInBounds_toArray, List.set_cons_zero, List.set_cons_succ]
              refine' wpAnyT_take (i := 12) (v := _) ?hiT12 (by kernel_rfl) ?hQT12 (Or.inl ⟨?hwT12, ?hyT12⟩) hS ?reT12
              case hiT12 => (simp only [List.getElem?_toArray, List.getElem?_cons_succ, List.getElem?_cons_zero]; rfl)
              case hQT12 => exact fun _ _ _ h => h
              case hwT12 => rfl
              case hyT12 => (intro wS hSw; obtain ⟨⟨_, _, _, _⟩, _, _, _, _⟩ := hSw; go_simp; (try with_reducible rfl))
              try simp only [Act.put, List.setIfInBounds_toArray, List.set_cons_zero, List.set_cons_succ]
              refine' wpAnyT_take (i := 13) (v := _) ?hiT13 (by kernel_rfl) ?hQT13 (Or.inl ⟨?hwT13, ?hyT13⟩) hS ?reT13
              case hiT13 => (simp only [List.getElem?_toArray, List.getElem?_cons_succ, List.getElem?_cons_zero]; rfl)
              case hQT13 => exact fun _ _ _ h => h
              case hwT13 => rfl
              case hyT13 => (intro wS hSw; obtain ⟨⟨_, _, _, _⟩, _, _, _, _⟩ := hSw; go_simp; (try with_reducible rfl))
              try simp only [Act.put, List.setIfInBounds_toArray, List.set_cons_zero, List.set_cons_succ]
              refine' wpAnyT_take (i := 14) (v := _) ?hiT14 (by kernel_rfl) ?hQT14 (Or.inl ⟨?hwT14, ?hyT14⟩) hS ?reT14
              case hiT14 => (simp only [List.getElem?_toArray, List.getElem?_cons_succ, List.getElem?_cons_zero]; rfl)
              case hQT14 => exact fun _ _ _ h => h
              case hwT14 => rfl
              case hyT14 => (intro wS hSw; obtain ⟨⟨_, _, _, _⟩, _, _, _, _⟩ := hSw; go_simp; (try with_reducible rfl))
              try simp only [Act.put, List.setIfInBounds_toArray, List.set_cons_zero, List.set_cons_succ]
              have fzd := kd.frozen
              refine wpAnyT_ready (rs := [15]) (by kernel_rfl) (by simp) ?_
              refine' AllReadyT.cons ?hi15 (fun K hK => ?st15) AllReadyT.nil
              case hi15 => (simp only [List.getElem?_toArray, List.getElem?_cons_succ, List.getElem?_cons_zero]; rfl)
              obtain ⟨⟨a0, a1, a2, a3⟩, b0, b1, b2, b3⟩ := hS
              go_simp
              have k2 := putW_blk kd p (yn, yc, yl, yh)
              have F2 := putW_far w1 g p (yn, yc, yl, yh)
              refine hK.out _ _ (fun h => by cases h) (fun _ => ?_)
              clear hK K a0 a1 a2 a3 b0 b1 b2 b3 fzd
              change wpAnyT _ _ _ _ _ _ _ _ _ (putW w1 g p (yn, yc, yl, yh))
              generalize putW w1 g p (yn, yc, yl, yh) = w2 at *
              try simp only [Act.put, List.setIfInBounds_toArray, List.set_cons_zero, List.set_cons_succ]
              have hc : Blk w2 g t (put4 ds p (yn, yc, yl, yh)) := k2
              refine wpAnyT_ready (rs := [16]) (by kernel_rfl) (by simp) ?_
              refine' AllReadyT.cons ?hi16 (fun K hK => ?st16) AllReadyT.nil
              case hi16 => (simp only [List.getElem?_toArray, List.getElem?_cons_succ, List.getElem?_cons_zero]; rfl)
              go_simp
              refine hK.out _ _ (fun h => by cases h) (fun _ => ?_)
              clear hK K
              try simp only [Act.put, List.setIfInBounds_toArray, List.set_cons_zero, List.set_cons_succ]
              have fz2 := hc.frozen
              refine wpAnyT_ready (rs := [17]) (by kernel_rfl) (by simp) ?_
              refine' AllReadyT.cons ?hi17 (fun K hK => ?st17) AllReadyT.nil
              case hi17 => (simp only [List.getElem?_toArray, List.getElem?_cons_succ, List.getElem?_cons_zero]; rfl)
              obtain ⟨c0, c1, c2, c3⟩ := hput'.out.at_ q (by rw [List.length_set]; omega)
              rw [← hc.cell] at c0 c1 c2 c3
              go_simp
              have k3 := putW_blk hc q (xn, xc, xl, xh)
              have F3 := putW_far w2 g q (xn, xc, xl, xh)
              refine hK.out _ _ (fun h => by cases h) (fun _ => ?_)
              clear hK K c0 c1 c2 c3 fz2
              change wpAnyT _ _ _ _ _ _ _ _ _ (putW w2 g q (xn, xc, xl, xh))
              generalize putW w2 g q (xn, xc, xl, xh) = w3 at *
              refine wpAnyT_done (by kernel_rfl) ?_ _
              have F13 := hFd.trans (F2.trans F3)
              have hs3 := Lib.hid (show (put4 (put4 ds p (yn, yc, yl, yh)) q (xn, xc, xl, xh)).size = sz by rw [put4_size, put4_size]; exact hsz.out)
              clear hsz F2 F3 hFd k2 hc kd hput'
              refine noPanic_normal ?_
              go_wp2_with fail
              refine ⟨⟨k0, q, _, by omega, by omega, rfl, k3, hs3, hput2, hf3, F13⟩, ?_⟩
              simp only [intOf]
              omega
            · have hc2 : decide (c < 0) = false := by rw [hcl]; simpa using hc
              clear hcl
              have hM2 : Hid (MergeTo a (i + 1) l (L k)) := Lib.hid (hMi.out.more (by
                have h := hone.out p (by omega) hpi (fun _ => by rw [show p - 1 = q from hq, hlv.out, hlq.out]; exact Int.not_lt.1 hc) hf2.out
                rwa [show p - a = k by omega] at h) (by omega) (by have := hn'.out; omega))
              go_upto_region 4 with fail
              refine region_ext (by kernel_rfl) (by kernel_rfl) ?_
              repeat (go_big_quiet_step ((go_at_call 38; exact HC.out _)))
              refine wpQuiet_nil ?_
              rintro w8 ⟨⟨_, hw8⟩, rfl⟩
              clear hc hf2
              go_wp2_with fail
              go_roundw
              case rel => exact ⟨i + 1, L k, ds, by omega, by omega, by go_num, hM2, Lib.hid hlen, hkd.call hw8, hsz, hRd, hF.trans (.of_below hw8)⟩
              case measure => simp [intOf]; omega
          · have h2 : decide ((a : Int) < (p : Int)) = false := by simpa using hap
            have hlen := hlens'.out k
            have hM2 : Hid (MergeTo a (i + 1) l (L k)) := Lib.hid (hMi.out.more (by
              have h := hone.out p (by omega) hpi (fun h => absurd h hap) hf2.out
              rwa [show p - a = k by omega] at h) (by omega) (by have := hn'.out; omega))
            go_upto_region 4 with fail
            refine region_ext (by kernel_rfl) (by kernel_rfl) ?_
            repeat (go_big_quiet_step (fail))
            refine wpQuiet_nil ?_
            rintro w8 ⟨⟨_, hw8⟩, rfl⟩
            clear hf2
            go_wp2_with fail
            go_roundw
            case rel => exact ⟨i + 1, L k, ds, by omega, by omega, by go_num, hM2, Lib.hid hlen, hkd.call hw8, hsz, hRd, hF.trans (.of_below hw8)⟩
            case measure => simp [intOf]; omega
      · have h1 : decide ((i : Int) < (b : Int)) = false := by simpa using hlt
        obtain rfl : i = b := by omega
        go_wp2_with fail
        go_end0
        exact ⟨rfl, li, hMi.out, ⟨ds0, hk, hcs'.out, hl'.out⟩, hF0⟩
end Go.Proofs.Ytmpakobfedgdbaa
namespace Go.Proofs.Ytmpakobfedgdbaa
open Go Go.Proofs Go.RowKit Go.Pol Go.Shelf
attribute [local go_sem] Oper.semAt_some Go.Pol.wide_fn Go.Pol.wide_depth Go.Pol.wide_fn' Go.Pol.wide_depth'

set_option maxRecDepth 100000 in
set_option maxHeartbeats 4000000 in
theorem symMerge_any (n : Nat) (hn64 : n ≤ 1000) (t : TypeId) (sz : Nat) : ∀ (k g cap a m b : Nat) (l : List Gp) (w : World) (_ : b - a ≤ k) (_ : RowB w g t sz l) (_ : l.length = n) (_ : a < m) (_ : m < b) (_ : b ≤ n)
    (_ : (cut l a m).Pairwise LeX) (_ : (cut l m b).Pairwise LeX) (_ : ∀ x ∈ cut l a m, ∀ y ∈ cut l m b, TieX x y),
    Calls Try.prog 77 #[.slice (some ⟨g, 0, none⟩) n cap, .int .i64 a, .int .i64 m, .int .i64 b, .func (.func 38) #[] #[]] w fun e w' => e = .returned (.tuple #[]) ∧
      ∃ l', MergeTo a b l l' ∧ RowB w' g t sz l' ∧ Far (fun k => k = g) w w'
  | 0, _, _, _, _, _, _, _, hk, _, _, ham, hmb, _, _, _, _ => by omega
  | k + 1, g, cap, a, m, b, l, w, hk0, hr, hn, ham, hmb, hb, hX, hY, hT => by
    by_cases c1 : a + 1 = m
    · exact symOneX_any g n cap a m b t sz l w hr hn c1 hmb hb hn64 hY hT
    by_cases c2 : m + 1 = b
    · exact symOneY_any g n cap a m b t sz l w hr hn (by omega) c2 hb hn64 hX hT
    have IH := Lib.hid (symMerge_any n hn64 t sz k)
    have hXYT := Lib.hid (And.intro hX (And.intro hY hT))
    have hr' := Lib.hid hr
    have hn' := Lib.hid hn
    obtain ⟨cs, hk, hcs, hl⟩ := hr
    have hl' := Lib.hid hl
    have hk' := Lib.hid hk
    clear hX hY hT hn hl hk hcs
    obtain ⟨mid, hmd⟩ : ∃ mid : Nat, ((a : Int) + (b : Int)) / 2 = (mid : Int) := ⟨(a + b) / 2, by omega⟩
    obtain ⟨nn, hnn⟩ : ∃ nn, mid + m = nn := ⟨_, rfl⟩
    obtain ⟨n1, hn1⟩ : ∃ n1, nn - 1 = n1 := ⟨_, rfl⟩
    obtain ⟨d1, hd1⟩ : ∃ d, m - a = d := ⟨_, rfl⟩
    obtain ⟨d2, hd2⟩ : ∃ d, b - m = d := ⟨_, rfl⟩
    have hw1 : IntKind.i64.wrap ((m : Int) - (a : Int)) = (d1 : Int) := by rw [IntKind.wrap_i64]; omega
    have hb1 : ((d1 : Int) == 1) = false := by simp; omega
    have hw2 : IntKind.i64.wrap ((b : Int) - (m : Int)) = (d2 : Int) := by rw [IntKind.wrap_i64]; omega
    have hb2 : ((d2 : Int) == 1) = false := by simp; omega
    have hw3 : IntKind.i64.wrap ((mid : Int) + (m : Int)) = (nn : Int) := by rw [IntKind.wrap_i64]; omega
    have hw4 : IntKind.i64.wrap ((nn : Int) - 1) = (n1 : Int) := by rw [IntKind.wrap_i64]; omega
    by_cases hmm : mid < m
    · have hg : decide ((mid : Int) < (m : Int)) = true := by simpa using hmm
      obtain ⟨lo, hlo⟩ : ∃ lo, nn - b = lo := ⟨_, rfl⟩
      have hw5 : IntKind.i64.wrap ((nn : Int) - (b : Int)) = (lo : Int) := by rw [IntKind.wrap_i64]; omega
      go_enter Try.func77, Try.ntmps77
      as_aux_lemma =>
      go_wp2_with fail
      go_loopw [20, 21] (fun u v wr => ∃ (i j : Nat), lo ≤ i ∧ i ≤ j ∧ j ≤ mid ∧ u = .int .i64 i ∧ v = .int .i64 j ∧ Hid ((lo < i → ¬ lvd l (nn - i) < lvd l (i - 1)) ∧ (j < mid → lvd l (nn - 1 - j) < lvd l j)) ∧ Below w.heap.size w wr) (fun u v _ => (intOf v).toNat - (intOf u).toNat)
      case atStart => exact ⟨lo, mid, by omega, by omega, by omega, rfl, rfl, Lib.hid ⟨fun h => absurd h (Nat.lt_irrefl _), fun h => absurd h (Nat.lt_irrefl _)⟩, Below.refl _ _⟩
      case round =>
        obtain ⟨i, j, hi, hij, hjb, rfl, rfl, hf, hB⟩ := hrel
        by_cases hlt : i < j
        · have h1 : decide ((i : Int) < (j : Int)) = true := by simpa using hlt
          obtain ⟨h, hh⟩ : ∃ h : Nat, ((i : Int) + (j : Int)) / 2 = (h : Int) := ⟨(i + j) / 2, by omega⟩
          have hih : i ≤ h := by omega
          have hhj : h < j := by omega
          have hhn : (h : Int) < (n : Int) := by omega
          obtain ⟨q, hq⟩ : ∃ q, nn - 1 - h = q := ⟨_, rfl⟩
          have hqw : IntKind.i64.wrap ((n1 : Int) - (h : Int)) = (q : Int) := by rw [IntKind.wrap_i64]; omega
          have hqn : (q : Int) < (n : Int) := by omega
          have hkr := hk'.out.call hB
          obtain ⟨x0, x1, x2, x3⟩ := hl'.out.at_ q (by have := hn'.out; omega)
          obtain ⟨y0, y1, y2, y3⟩ := hl'.out.at_ h (by have := hn'.out; omega)
          rw [← hkr.cell] at x0 x1 x2 x3 y0 y1 y2 y3
          have hlq := Lib.hid (show lvd l q = (l.getD q gp0).2.2.1 from rfl)
          have hlh := Lib.hid (show lvd l h = (l.getD h gp0).2.2.1 from rfl)
          generalize l.getD q gp0 = x at *
          generalize l.getD h gp0 = y at *
          obtain ⟨xn, xc, xl, xh⟩ := x
          obtain ⟨yn, yc, yl, yh⟩ := y
          have z0 := fun z : Ext wr => z.cell x0
          have z1 := fun z : Ext wr => z.cell x1
          have z2 := fun z : Ext wr => z.cell x2
          have z3 := fun z : Ext wr => z.cell x3
          have v0 := fun z : Ext wr => z.cell y0
          have v1 := fun z : Ext wr => z.cell y1
          have v2 := fun z : Ext wr => z.cell y2
          have v3 := fun z : Ext wr => z.cell y3
          have HC := Lib.hid (fun z : Ext wr => Ext.call (x := z) (choose1_below (xn, xc, xl, xh) (yn, yc, yl, yh) z.w))
          simp only at HC
          have hcl := cmpI_lt xl yl
          generalize cmpI xl yl = c at *
          by_cases hc : xl < yl
          · have hc2 : decide (c < 0) = true := by rw [hcl]; simpa using hc
            clear hcl
            have hf2 := Lib.hid (And.intro hf.out.1 (fun _ : h < mid => show lvd l (nn - 1 - h) < lvd l h by rw [hq, hlh.out, hlq.out]; exact hc))
            go_upto_region 35 with fail
            refine region_ext (by kernel_rfl) (by kernel_rfl) ?_
            repeat (go_big_quiet_step ((go_at_call 38; exact HC.out _)))
            refine wpQuiet_nil ?_
            rintro w8 ⟨⟨_, hw8⟩, rfl⟩
            clear hf hc
            go_wp2_with fail
            go_roundw
            case rel => exact ⟨i, h, hi, hih, by omega, rfl, rfl, hf2, hB.trans (hw8.mono hB.size)⟩
            case measure => simp [intOf]; omega
          · have hc2 : decide (c < 0) = false := by rw [hcl]; simpa using hc
            clear hcl
            have hf2 := Lib.hid (And.intro (fun _ : lo < h + 1 => show ¬ lvd l (nn - (h + 1)) < lvd l (h + 1 - 1) by rw [show nn - (h + 1) = q by omega, show h + 1 - 1 = h by omega, hlh.out, hlq.out]; exact hc) hf.out.2)
            go_upto_region 35 with fail
            refine region_ext (by kernel_rfl) (by kernel_rfl) ?_
            repeat (go_big_quiet_step ((go_at_call 38; exact HC.out _)))
            refine wpQuiet_nil ?_
            rintro w8 ⟨⟨_, hw8⟩, rfl⟩
            clear hf hc
            go_wp2_with fail
            go_roundw
            case rel => exact ⟨h + 1, j, by omega, by omega, hjb, by go_num, rfl, hf2, hB.trans (hw8.mono hB.size)⟩
            case measure => simp [intOf]; omega
        · have h1 : decide ((i : Int) < (j : Int)) = false := by simpa using hlt
          obtain rfl : i = j := by omega
          obtain ⟨e, he⟩ : ∃ e, nn - i = e := ⟨_, rfl⟩
          have hwe : IntKind.i64.wrap ((nn : Int) - (i : Int)) = (e : Int) := by rw [IntKind.wrap_i64]; omega
          have hmid : mid = i + (e - m) := by omega
          have g1 : a < i → e < b → ¬ lvd l e < lvd l (i - 1) := fun ha hb => by rw [← he]; exact hf.out.1 (by omega)
          have g2 : i < m → m < e → lvd l (e - 1) < lvd l i := fun ha hb => by
            have := hf.out.2 (by omega)
            rwa [show nn - 1 - i = e - 1 by omega] at this
          have hlaw := Lib.hid (fun l2 l3 hM hN => sym_law (l := l) (l2 := l2) (l3 := l3) (a := a) (s := i) (m := m) (e := e) (b := b) (mid := mid) (by omega) (by omega) (by omega) (by omega) (by have := hn'.out; omega) hmid hXYT.out.1 hXYT.out.2.1 hXYT.out.2.2 g1 g2 hM hN)
          have hfst := Lib.hid (sym_fst (l := l) (a := a) (s := i) (m := m) (e := e) (b := b) (mid := mid) (by omega) (by omega) (by omega) (by omega) (by have := hn'.out; omega) hmid hXYT.out.1 hXYT.out.2.1 hXYT.out.2.2)
          have hsnd := Lib.hid (fun l2 hM => sym_snd (l := l) (l2 := l2) (a := a) (s := i) (m := m) (e := e) (b := b) (mid := mid) (by omega) (by omega) (by omega) (by omega) (by have := hn'.out; omega) hmid hXYT.out.1 hXYT.out.2.1 hXYT.out.2.2 hM)
          have hrl : Hid ((rotL i m e l).length = n) := Lib.hid ((rotL_len (by omega) (by omega) (by have := hn'.out; omega)).trans hn'.out)
          have hrow := Lib.hid (hr'.out.call hB)
          have hF0 : Far (fun k => k = g) w wr := .of_below hB
          have hnr := Lib.hid (fun hr1 => rotL_none (l := l) (s := i) (m := m) (e := e) (by omega) (by omega) hr1)
          have HR := Lib.hid (fun hr1 : i < m ∧ m < e => rotate_any g n cap i m e t sz l wr hrow.out hn'.out hr1.1 hr1.2 (by omega) hn64)
          clear g1 g2 hf hXYT hr' hl' hk' hB hmid
          generalize rotL i m e l = l1 at *
          by_cases hr1 : i < m ∧ m < e
          · have hg1 : decide ((i : Int) < (m : Int)) = true := by simp; omega
            have hg2 : decide ((m : Int) < (e : Int)) = true := by simp; omega
            have HR' := Lib.hid (HR.out hr1)
            obtain ⟨hA1, hA2⟩ := hr1
            clear HR hnr hrow
            go_wp2_with fail
            refine HR'.out.mono ?_
            rintro e' w2 ⟨rfl, hr2', hF2'⟩
            have hr2 := Lib.hid hr2'
            have hF2 := hF0.trans hF2'
            clear hF0 hr2' hF2' HR' hg1 hg2
            have HM1 := Lib.hid (fun hs : a < i ∧ i < mid => IH.out g cap a i mid l1 w2 (by omega) hr2.out hrl.out hs.1 hs.2 (by omega) hfst.out.1 hfst.out.2.1 hfst.out.2.2)
            have hT1 := Lib.hid (fun hs : ¬ (a < i ∧ i < mid) => merge_triv (by omega) (by omega) hs hfst.out.1 hfst.out.2.1)
            clear hfst
            by_cases hr1 : a < i ∧ i < mid
            · have hg3 : decide ((a : Int) < (i : Int)) = true := by simp; omega
              have hg4 : decide ((i : Int) < (mid : Int)) = true := by simp; omega
              have HR' := Lib.hid (HM1.out hr1)
              obtain ⟨hA3, hA4⟩ := hr1
              clear HM1 hT1
              go_wp2_with fail
              refine HR'.out.mono ?_
              rintro e' w3 ⟨rfl, l2, hM, hr3, hF3'⟩
              have hF3 := hF2.trans hF3'
              clear hr2 hF2 hF3' HR' hg3 hg4
              have hsn := Lib.hid (hsnd.out l2 hM)
              have hlw := Lib.hid (fun l3 hN => hlaw.out l2 l3 hM hN)
              have HM2 := Lib.hid (fun hs : mid < e ∧ e < b => IH.out g cap mid e b l2 w3 (by omega) hr3 (hsn.out.1.trans hn'.out) hs.1 hs.2 (by omega) hsn.out.2.1 hsn.out.2.2.1 hsn.out.2.2.2)
              have hT2 := Lib.hid (fun hs : ¬ (mid < e ∧ e < b) => merge_triv (by omega) (by omega) hs hsn.out.2.1 hsn.out.2.2.1)
              have hr3' := Lib.hid hr3
              clear hsnd hlaw hsn hM IH hrl hr3
              by_cases hr1 : mid < e ∧ e < b
              · have hg5 : decide ((mid : Int) < (e : Int)) = true := by simp; omega
                have hg6 : decide ((e : Int) < (b : Int)) = true := by simp; omega
                have HR' := Lib.hid (HM2.out hr1)
                obtain ⟨hA5, hA6⟩ := hr1
                clear HM2 hT2
                go_wp2_with fail
                refine HR'.out.mono ?_
                rintro e' w4 ⟨rfl, l3, hM3, hr4, hF4⟩
                go_wp2_with fail
                go_end0
                exact ⟨rfl, l3, hlw.out l3 hM3, hr4, hF3.trans hF4⟩
              · have hn1 := Lib.hid (hT2.out hr1)
                clear HM2 hT2
                by_cases hq2 : mid < e
                · have hg5 : decide ((mid : Int) < (e : Int)) = true := by simp; omega
                  have hg6 : decide ((e : Int) < (b : Int)) = false := by simp; omega
                  have hA6 : ¬ e < b := fun h => hr1 ⟨hq2, h⟩
                  clear hr1
                  go_wp2_with fail
                  go_end0
                  exact ⟨rfl, l2, hlw.out l2 hn1.out, hr3'.out, hF3⟩
                · have hg5 : decide ((mid : Int) < (e : Int)) = false := by simp; omega
                  clear hr1
                  go_wp2_with fail
                  go_end0
                  exact ⟨rfl, l2, hlw.out l2 hn1.out, hr3'.out, hF3⟩
            · have hM := hT1.out hr1
              obtain ⟨l2, hl2⟩ : ∃ l2, l2 = l1 := ⟨_, rfl⟩
              obtain ⟨w3, hw3⟩ : ∃ w3, w3 = w2 := ⟨_, rfl⟩
              subst hw3
              have hr3 : RowB w3 g t sz l2 := by rw [hl2]; exact hr2.out
              have hM' : MergeTo a mid l1 l2 := by rw [hl2]; exact hM
              replace hM := hM'
              have hF3 := hF2
              clear hM' hl2 hr2 hF2 HM1 hT1
              by_cases hq3 : a < i
              · have hg3 : decide ((a : Int) < (i : Int)) = true := by simp; omega
                have hg4 : decide ((i : Int) < (mid : Int)) = false := by simp; omega
                have hA4 : ¬ i < mid := fun h => hr1 ⟨hq3, h⟩
                clear hr1
                have hsn := Lib.hid (hsnd.out l2 hM)
                have hlw := Lib.hid (fun l3 hN => hlaw.out l2 l3 hM hN)
                have HM2 := Lib.hid (fun hs : mid < e ∧ e < b => IH.out g cap mid e b l2 w3 (by omega) hr3 (hsn.out.1.trans hn'.out) hs.1 hs.2 (by omega) hsn.out.2.1 hsn.out.2.2.1 hsn.out.2.2.2)
                have hT2 := Lib.hid (fun hs : ¬ (mid < e ∧ e < b) => merge_triv (by omega) (by omega) hs hsn.out.2.1 hsn.out.2.2.1)
                have hr3' := Lib.hid hr3
                clear hsnd hlaw hsn hM IH hrl hr3
                by_cases hr1 : mid < e ∧ e < b
                · have hg5 : decide ((mid : Int) < (e : Int)) = true := by simp; omega
                  have hg6 : decide ((e : Int) < (b : Int)) = true := by simp; omega
                  have HR' := Lib.hid (HM2.out hr1)
                  obtain ⟨hA5, hA6⟩ := hr1
                  clear HM2 hT2
                  go_wp2_with fail
                  refine HR'.out.mono ?_
                  rintro e' w4 ⟨rfl, l3, hM3, hr4, hF4⟩
                  go_wp2_with fail
                  go_end0
                  exact ⟨rfl, l3, hlw.out l3 hM3, hr4, hF3.trans hF4⟩
                · have hn1 := Lib.hid (hT2.out hr1)
                  clear HM2 hT2
                  by_cases hq2 : mid < e
                  · have hg5 : decide ((mid : Int) < (e : Int)) = true := by simp; omega
                    have hg6 : decide ((e : Int) < (b : Int)) = false := by simp; omega
                    have hA6 : ¬ e < b := fun h => hr1 ⟨hq2, h⟩
                    clear hr1
                    go_wp2_with fail
                    go_end0
                    exact ⟨rfl, l2, hlw.out l2 hn1.out, hr3'.out, hF3⟩
                  · have hg5 : decide ((mid : Int) < (e : Int)) = false := by simp; omega
                    clear hr1
                    go_wp2_with fail
                    go_end0
                    exact ⟨rfl, l2, hlw.out l2 hn1.out, hr3'.out, hF3⟩
              · have hg3 : decide ((a : Int) < (i : Int)) = false := by simp; omega
                clear hr1
                have hsn := Lib.hid (hsnd.out l2 hM)
                have hlw := Lib.hid (fun l3 hN => hlaw.out l2 l3 hM hN)
                have HM2 := Lib.hid (fun hs : mid < e ∧ e < b => IH.out g cap mid e b l2 w3 (by omega) hr3 (hsn.out.1.trans hn'.out) hs.1 hs.2 (by omega) hsn.out.2.1 hsn.out.2.2.1 hsn.out.2.2.2)
                have hT2 := Lib.hid (fun hs : ¬ (mid < e ∧ e < b) => merge_triv (by omega) (by omega) hs hsn.out.2.1 hsn.out.2.2.1)
                have hr3' := Lib.hid hr3
                clear hsnd hlaw hsn hM IH hrl hr3
                by_cases hr1 : mid < e ∧ e < b
                · have hg5 : decide ((mid : Int) < (e : Int)) = true := by simp; omega
                  have hg6 : decide ((e : Int) < (b : Int)) = true := by simp; omega
                  have HR' := Lib.hid (HM2.out hr1)
                  obtain ⟨hA5, hA6⟩ := hr1
                  clear HM2 hT2
                  go_wp2_with fail
                  refine HR'.out.mono ?_
                  rintro e' w4 ⟨rfl, l3, hM3, hr4, hF4⟩
                  go_wp2_with fail
                  go_end0
                  exact ⟨rfl, l3, hlw.out l3 hM3, hr4, hF3.trans hF4⟩
                · have hn1 := Lib.hid (hT2.out hr1)
                  clear HM2 hT2
                  by_cases hq2 : mid < e
                  · have hg5 : decide ((mid : Int) < (e : Int)) = true := by simp; omega
                    have hg6 : decide ((e : Int) < (b : Int)) = false := by simp; omega
                    have hA6 : ¬ e < b := fun h => hr1 ⟨hq2, h⟩
                    clear hr1
                    go_wp2_with fail
                    go_end0
                    exact ⟨rfl, l2, hlw.out l2 hn1.out, hr3'.out, hF3⟩
                  · have hg5 : decide ((mid : Int) < (e : Int)) = false := by simp; omega
                    clear hr1
                    go_wp2_with fail
                    go_end0
                    exact ⟨rfl, l2, hlw.out l2 hn1.out, hr3'.out, hF3⟩
          · have hl1 := Lib.hid (hnr.out hr1)
            obtain ⟨w2, hw2⟩ : ∃ w2, w2 = wr := ⟨_, rfl⟩
            subst hw2
            have hr2 : Hid (RowB w2 g t sz l1) := by rw [hl1.out]; exact hrow
            have hF2 := hF0
            clear hF0 HR hnr hrow hl1
            by_cases hq1 : i < m
            · have hg1 : decide ((i : Int) < (m : Int)) = true := by simp; omega
              have hg2 : decide ((m : Int) < (e : Int)) = false := by simp; omega
              have hA2 : ¬ m < e := fun h => hr1 ⟨hq1, h⟩
              clear hr1
              have HM1 := Lib.hid (fun hs : a < i ∧ i < mid => IH.out g cap a i mid l1 w2 (by omega) hr2.out hrl.out hs.1 hs.2 (by omega) hfst.out.1 hfst.out.2.1 hfst.out.2.2)
              have hT1 := Lib.hid (fun hs : ¬ (a < i ∧ i < mid) => merge_triv (by omega) (by omega) hs hfst.out.1 hfst.out.2.1)
              clear hfst
              by_cases hr1 : a < i ∧ i < mid
              · have hg3 : decide ((a : Int) < (i : Int)) = true := by simp; omega
                have hg4 : decide ((i : Int) < (mid : Int)) = true := by simp; omega
                have HR' := Lib.hid (HM1.out hr1)
                obtain ⟨hA3, hA4⟩ := hr1
                clear HM1 hT1
                go_wp2_with fail
                refine HR'.out.mono ?_
                rintro e' w3 ⟨rfl, l2, hM, hr3, hF3'⟩
                have hF3 := hF2.trans hF3'
                clear hr2 hF2 hF3' HR' hg3 hg4
                have hsn := Lib.hid (hsnd.out l2 hM)
                have hlw := Lib.hid (fun l3 hN => hlaw.out l2 l3 hM hN)
                have HM2 := Lib.hid (fun hs : mid < e ∧ e < b => IH.out g cap mid e b l2 w3 (by omega) hr3 (hsn.out.1.trans hn'.out) hs.1 hs.2 (by omega) hsn.out.2.1 hsn.out.2.2.1 hsn.out.2.2.2)
                have hT2 := Lib.hid (fun hs : ¬ (mid < e ∧ e < b) => merge_triv (by omega) (by omega) hs hsn.out.2.1 hsn.out.2.2.1)
                have hr3' := Lib.hid hr3
                clear hsnd hlaw hsn hM IH hrl hr3
                by_cases hr1 : mid < e ∧ e < b
                · have hg5 : decide ((mid : Int) < (e : Int)) = true := by simp; omega
                  have hg6 : decide ((e : Int) < (b : Int)) = true := by simp; omega
                  have HR' := Lib.hid (HM2.out hr1)
                  obtain ⟨hA5, hA6⟩ := hr1
                  clear HM2 hT2
                  go_wp2_with fail
                  refine HR'.out.mono ?_
                  rintro e' w4 ⟨rfl, l3, hM3, hr4, hF4⟩
                  go_wp2_with fail
                  go_end0
                  exact ⟨rfl, l3, hlw.out l3 hM3, hr4, hF3.trans hF4⟩
                · have hn1 := Lib.hid (hT2.out hr1)
                  clear HM2 hT2
                  by_cases hq2 : mid < e
                  · have hg5 : decide ((mid : Int) < (e : Int)) = true := by simp; omega
                    have hg6 : decide ((e : Int) < (b : Int)) = false := by simp; omega
                    have hA6 : ¬ e < b := fun h => hr1 ⟨hq2, h⟩
                    clear hr1
                    go_wp2_with fail
                    go_end0
                    exact ⟨rfl, l2, hlw.out l2 hn1.out, hr3'.out, hF3⟩
                  · have hg5 : decide ((mid : Int) < (e : Int)) = false := by simp; omega
                    clear hr1
                    go_wp2_with fail
                    go_end0
                    exact ⟨rfl, l2, hlw.out l2 hn1.out, hr3'.out, hF3⟩
              · have hM := hT1.out hr1
                obtain ⟨l2, hl2⟩ : ∃ l2, l2 = l1 := ⟨_, rfl⟩
                obtain ⟨w3, hw3⟩ : ∃ w3, w3 = w2 := ⟨_, rfl⟩
                subst hw3
                have hr3 : RowB w3 g t sz l2 := by rw [hl2]; exact hr2.out
                have hM' : MergeTo a mid l1 l2 := by rw [hl2]; exact hM
                replace hM := hM'
                have hF3 := hF2
                clear hM' hl2 hr2 hF2 HM1 hT1
                by_cases hq3 : a < i
                · have hg3 : decide ((a : Int) < (i : Int)) = true := by simp; omega
                  have hg4 : decide ((i : Int) < (mid : Int)) = false := by simp; omega
                  have hA4 : ¬ i < mid := fun h => hr1 ⟨hq3, h⟩
                  clear hr1
                  have hsn := Lib.hid (hsnd.out l2 hM)
                  have hlw := Lib.hid (fun l3 hN => hlaw.out l2 l3 hM hN)
                  have HM2 := Lib.hid (fun hs : mid < e ∧ e < b => IH.out g cap mid e b l2 w3 (by omega) hr3 (hsn.out.1.trans hn'.out) hs.1 hs.2 (by omega) hsn.out.2.1 hsn.out.2.2.1 hsn.out.2.2.2)
                  have hT2 := Lib.hid (fun hs : ¬ (mid < e ∧ e < b) => merge_triv (by omega) (by omega) hs hsn.out.2.1 hsn.out.2.2.1)
                  have hr3' := Lib.hid hr3
                  clear hsnd hlaw hsn hM IH hrl hr3
                  by_cases hr1 : mid < e ∧ e < b
                  · have hg5 : decide ((mid : Int) < (e : Int)) = true := by simp; omega
                    have hg6 : decide ((e : Int) < (b : Int)) = true := by simp; omega
                    have HR' := Lib.hid (HM2.out hr1)
                    obtain ⟨hA5, hA6⟩ := hr1
                    clear HM2 hT2
                    go_wp2_with fail
                    refine HR'.out.mono ?_
                    rintro e' w4 ⟨rfl, l3, hM3, hr4, hF4⟩
                    go_wp2_with fail
                    go_end0
                    exact ⟨rfl, l3, hlw.out l3 hM3, hr4, hF3.trans hF4⟩
                  · have hn1 := Lib.hid (hT2.out hr1)
                    clear HM2 hT2
                    by_cases hq2 : mid < e
                    · have hg5 : decide ((mid : Int) < (e : Int)) = true := by simp; omega
                      have hg6 : decide ((e : Int) < (b : Int)) = false := by simp; omega
                      have hA6 : ¬ e < b := fun h => hr1 ⟨hq2, h⟩
                      clear hr1
                      go_wp2_with fail
                      go_end0
                      exact ⟨rfl, l2, hlw.out l2 hn1.out, hr3'.out, hF3⟩
                    · have hg5 : decide ((mid : Int) < (e : Int)) = false := by simp; omega
                      clear hr1
                      go_wp2_with fail
                      go_end0
                      exact ⟨rfl, l2, hlw.out l2 hn1.out, hr3'.out, hF3⟩
                · have hg3 : decide ((a : Int) < (i : Int)) = false := by simp; omega
                  clear hr1
                  have hsn := Lib.hid (hsnd.out l2 hM)
                  have hlw := Lib.hid (fun l3 hN => hlaw.out l2 l3 hM hN)
                  have HM2 := Lib.hid (fun hs : mid < e ∧ e < b => IH.out g cap mid e b l2 w3 (by omega) hr3 (hsn.out.1.trans hn'.out) hs.1 hs.2 (by omega) hsn.out.2.1 hsn.out.2.2.1 hsn.out.2.2.2)
                  have hT2 := Lib.hid (fun hs : ¬ (mid < e ∧ e < b) => merge_triv (by omega) (by omega) hs hsn.out.2.1 hsn.out.2.2.1)
                  have hr3' := Lib.hid hr3
                  clear hsnd hlaw hsn hM IH hrl hr3
                  by_cases hr1 : mid < e ∧ e < b
                  · have hg5 : decide ((mid : Int) < (e : Int)) = true := by simp; omega
                    have hg6 : decide ((e : Int) < (b : Int)) = true := by simp; omega
                    have HR' := Lib.hid (HM2.out hr1)
                    obtain ⟨hA5, hA6⟩ := hr1
                    clear HM2 hT2
                    go_wp2_with fail
                    refine HR'.out.mono ?_
                    rintro e' w4 ⟨rfl, l3, hM3, hr4, hF4⟩
                    go_wp2_with fail
                    go_end0
                    exact ⟨rfl, l3, hlw.out l3 hM3, hr4, hF3.trans hF4⟩
                  · have hn1 := Lib.hid (hT2.out hr1)
                    clear HM2 hT2
                    by_cases hq2 : mid < e
                    · have hg5 : decide ((mid : Int) < (e : Int)) = true := by simp; omega
                      have hg6 : decide ((e : Int) < (b : Int)) = false := by simp; omega
                      have hA6 : ¬ e < b := fun h => hr1 ⟨hq2, h⟩
                      clear hr1
                      go_wp2_with fail
                      go_end0
                      exact ⟨rfl, l2, hlw.out l2 hn1.out, hr3'.out, hF3⟩
                    · have hg5 : decide ((mid : Int) < (e : Int)) = false := by simp; omega
                      clear hr1
                      go_wp2_with fail
                      go_end0
                      exact ⟨rfl, l2, hlw.out l2 hn1.out, hr3'.out, hF3⟩
            · have hg1 : decide ((i : Int) < (m : Int)) = false := by simp; omega
              clear hr1
              have HM1 := Lib.hid (fun hs : a < i ∧ i < mid => IH.out g cap a i mid l1 w2 (by omega) hr2.out hrl.out hs.1 hs.2 (by omega) hfst.out.1 hfst.out.2.1 hfst.out.2.2)
              have hT1 := Lib.hid (fun hs : ¬ (a < i ∧ i < mid) => merge_triv (by omega) (by omega) hs hfst.out.1 hfst.out.2.1)
              clear hfst
              by_cases hr1 : a < i ∧ i < mid
              · have hg3 : decide ((a : Int) < (i : Int)) = true := by simp; omega
                have hg4 : decide ((i : Int) < (mid : Int)) = true := by simp; omega
                have HR' := Lib.hid (HM1.out hr1)
                obtain ⟨hA3, hA4⟩ := hr1
                clear HM1 hT1
                go_wp2_with fail
                refine HR'.out.mono ?_
                rintro e' w3 ⟨rfl, l2, hM, hr3, hF3'⟩
                have hF3 := hF2.trans hF3'
                clear hr2 hF2 hF3' HR' hg3 hg4
                have hsn := Lib.hid (hsnd.out l2 hM)
                have hlw := Lib.hid (fun l3 hN => hlaw.out l2 l3 hM hN)
                have HM2 := Lib.hid (fun hs : mid < e ∧ e < b => IH.out g cap mid e b l2 w3 (by omega) hr3 (hsn.out.1.trans hn'.out) hs.1 hs.2 (by omega) hsn.out.2.1 hsn.out.2.2.1 hsn.out.2.2.2)
                have hT2 := Lib.hid (fun hs : ¬ (mid < e ∧ e < b) => merge_triv (by omega) (by omega) hs hsn.out.2.1 hsn.out.2.2.1)
                have hr3' := Lib.hid hr3
                clear hsnd hlaw hsn hM IH hrl hr3
                by_cases hr1 : mid < e ∧ e < b
                · have hg5 : decide ((mid : Int) < (e : Int)) = true := by simp; omega
                  have hg6 : decide ((e : Int) < (b : Int)) = true := by simp; omega
                  have HR' := Lib.hid (HM2.out hr1)
                  obtain ⟨hA5, hA6⟩ := hr1
                  clear HM2 hT2
                  go_wp2_with fail
                  refine HR'.out.mono ?_
                  rintro e' w4 ⟨rfl, l3, hM3, hr4, hF4⟩
                  go_wp2_with fail
                  go_end0
                  exact ⟨rfl, l3, hlw.out l3 hM3, hr4, hF3.trans hF4⟩
                · have hn1 := Lib.hid (hT2.out hr1)
                  clear HM2 hT2
                  by_cases hq2 : mid < e
                  · have hg5 : decide ((mid : Int) < (e : Int)) = true := by simp; omega
                    have hg6 : decide ((e : Int) < (b : Int)) = false := by simp; omega
                    have hA6 : ¬ e < b := fun h => hr1 ⟨hq2, h⟩
                    clear hr1
                    go_wp2_with fail
                    go_end0
                    exact ⟨rfl, l2, hlw.out l2 hn1.out, hr3'.out, hF3⟩
                  · have hg5 : decide ((mid : Int) < (e : Int)) = false := by simp; omega
                    clear hr1
                    go_wp2_with fail
                    go_end0
                    exact ⟨rfl, l2, hlw.out l2 hn1.out, hr3'.out, hF3⟩
              · have hM := hT1.out hr1
                obtain ⟨l2, hl2⟩ : ∃ l2, l2 = l1 := ⟨_, rfl⟩
                obtain ⟨w3, hw3⟩ : ∃ w3, w3 = w2 := ⟨_, rfl⟩
                subst hw3
                have hr3 : RowB w3 g t sz l2 := by rw [hl2]; exact hr2.out
                have hM' : MergeTo a mid l1 l2 := by rw [hl2]; exact hM
                replace hM := hM'
                have hF3 := hF2
                clear hM' hl2 hr2 hF2 HM1 hT1
                by_cases hq3 : a < i
                · have hg3 : decide ((a : Int) < (i : Int)) = true := by simp; omega
                  have hg4 : decide ((i : Int) < (mid : Int)) = false := by simp; omega
                  have hA4 : ¬ i < mid := fun h => hr1 ⟨hq3, h⟩
                  clear hr1
                  have hsn := Lib.hid (hsnd.out l2 hM)
                  have hlw := Lib.hid (fun l3 hN => hlaw.out l2 l3 hM hN)
                  have HM2 := Lib.hid (fun hs : mid < e ∧ e < b => IH.out g cap mid e b l2 w3 (by omega) hr3 (hsn.out.1.trans hn'.out) hs.1 hs.2 (by omega) hsn.out.2.1 hsn.out.2.2.1 hsn.out.2.2.2)
                  have hT2 := Lib.hid (fun hs : ¬ (mid < e ∧ e < b) => merge_triv (by omega) (by omega) hs hsn.out.2.1 hsn.out.2.2.1)
                  have hr3' := Lib.hid hr3
                  clear hsnd hlaw hsn hM IH hrl hr3
                  by_cases hr1 : mid < e ∧ e < b
                  · have hg5 : decide ((mid : Int) < (e : Int)) = true := by simp; omega
                    have hg6 : decide ((e : Int) < (b : Int)) = true := by simp; omega
                    have HR' := Lib.hid (HM2.out hr1)
                    obtain ⟨hA5, hA6⟩ := hr1
                    clear HM2 hT2
                    go_wp2_with fail
                    refine HR'.out.mono ?_
                    rintro e' w4 ⟨rfl, l3, hM3, hr4, hF4⟩
                    go_wp2_with fail
                    go_end0
                    exact ⟨rfl, l3, hlw.out l3 hM3, hr4, hF3.trans hF4⟩
                  · have hn1 := Lib.hid (hT2.out hr1)
                    clear HM2 hT2
                    by_cases hq2 : mid < e
                    · have hg5 : decide ((mid : Int) < (e : Int)) = true := by simp; omega
                      have hg6 : decide ((e : Int) < (b : Int)) = false := by simp; omega
                      have hA6 : ¬ e < b := fun h => hr1 ⟨hq2, h⟩
                      clear hr1
                      go_wp2_with fail
                      go_end0
                      exact ⟨rfl, l2, hlw.out l2 hn1.out, hr3'.out, hF3⟩
                    · have hg5 : decide ((mid : Int) < (e : Int)) = false := by simp; omega
                      clear hr1
                      go_wp2_with fail
                      go_end0
                      exact ⟨rfl, l2, hlw.out l2 hn1.out, hr3'.out, hF3⟩
                · have hg3 : decide ((a : Int) < (i : Int)) = false := by simp; omega
                  clear hr1
                  have hsn := Lib.hid (hsnd.out l2 hM)
                  have hlw := Lib.hid (fun l3 hN => hlaw.out l2 l3 hM hN)
                  have HM2 := Lib.hid (fun hs : mid < e ∧ e < b => IH.out g cap mid e b l2 w3 (by omega) hr3 (hsn.out.1.trans hn'.out) hs.1 hs.2 (by omega) hsn.out.2.1 hsn.out.2.2.1 hsn.out.2.2.2)
                  have hT2 := Lib.hid (fun hs : ¬ (mid < e ∧ e < b) => merge_triv (by omega) (by omega) hs hsn.out.2.1 hsn.out.2.2.1)
                  have hr3' := Lib.hid hr3
                  clear hsnd hlaw hsn hM IH hrl hr3
                  by_cases hr1 : mid < e ∧ e < b
                  · have hg5 : decide ((mid : Int) < (e : Int)) = true := by simp; omega
                    have hg6 : decide ((e : Int) < (b : Int)) = true := by simp; omega
                    have HR' := Lib.hid (HM2.out hr1)
                    obtain ⟨hA5, hA6⟩ := hr1
                    clear HM2 hT2
                    go_wp2_with fail
                    refine HR'.out.mono ?_
                    rintro e' w4 ⟨rfl, l3, hM3, hr4, hF4⟩
                    go_wp2_with fail
                    go_end0
                    exact ⟨rfl, l3, hlw.out l3 hM3, hr4, hF3.trans hF4⟩
                  · have hn1 := Lib.hid (hT2.out hr1)
                    clear HM2 hT2
                    by_cases hq2 : mid < e
                    · have hg5 : decide ((mid : Int) < (e : Int)) = true := by simp; omega
                      have hg6 : decide ((e : Int) < (b : Int)) = false := by simp; omega
                      have hA6 : ¬ e < b := fun h => hr1 ⟨hq2, h⟩
                      clear hr1
                      go_wp2_with fail
                      go_end0
                      exact ⟨rfl, l2, hlw.out l2 hn1.out, hr3'.out, hF3⟩
                    · have hg5 : decide ((mid : Int) < (e : Int)) = false := by simp; omega
                      clear hr1
                      go_wp2_with fail
                      go_end0
                      exact ⟨rfl, l2, hlw.out l2 hn1.out, hr3'.out, hF3⟩
    · have hg : decide ((mid : Int) < (m : Int)) = false := by simpa using hmm
      go_enter Try.func77, Try.ntmps77
      as_aux_lemma =>
      go_wp2_with fail
      go_loopw [20, 21] (fun u v wr => ∃ (i j : Nat), a ≤ i ∧ i ≤ j ∧ j ≤ m ∧ u = .int .i64 i ∧ v = .int .i64 j ∧ Hid ((a < i → ¬ lvd l (nn - i) < lvd l (i - 1)) ∧ (j < m → lvd l (nn - 1 - j) < lvd l j)) ∧ Below w.heap.size w wr) (fun u v _ => (intOf v).toNat - (intOf u).toNat)
      case atStart => exact ⟨a, m, by omega, by omega, by omega, rfl, rfl, Lib.hid ⟨fun h => absurd h (Nat.lt_irrefl _), fun h => absurd h (Nat.lt_irrefl _)⟩, Below.refl _ _⟩
      case round =>
        obtain ⟨i, j, hi, hij, hjb, rfl, rfl, hf, hB⟩ := hrel
        by_cases hlt : i < j
        · have h1 : decide ((i : Int) < (j : Int)) = true := by simpa using hlt
          obtain ⟨h, hh⟩ : ∃ h : Nat, ((i : Int) + (j : Int)) / 2 = (h : Int) := ⟨(i + j) / 2, by omega⟩
          have hih : i ≤ h := by omega
          have hhj : h < j := by omega
          have hhn : (h : Int) < (n : Int) := by omega
          obtain ⟨q, hq⟩ : ∃ q, nn - 1 - h = q := ⟨_, rfl⟩
          have hqw : IntKind.i64.wrap ((n1 : Int) - (h : Int)) = (q : Int) := by rw [IntKind.wrap_i64]; omega
          have hqn : (q : Int) < (n : Int) := by omega
          have hkr := hk'.out.call hB
          obtain ⟨x0, x1, x2, x3⟩ := hl'.out.at_ q (by have := hn'.out; omega)
          obtain ⟨y0, y1, y2, y3⟩ := hl'.out.at_ h (by have := hn'.out; omega)
          rw [← hkr.cell] at x0 x1 x2 x3 y0 y1 y2 y3
          have hlq := Lib.hid (show lvd l q = (l.getD q gp0).2.2.1 from rfl)
          have hlh := Lib.hid (show lvd l h = (l.getD h gp0).2.2.1 from rfl)
          generalize l.getD q gp0 = x at *
          generalize l.getD h gp0 = y at *
          obtain ⟨xn, xc, xl, xh⟩ := x
          obtain ⟨yn, yc, yl, yh⟩ := y
          have z0 := fun z : Ext wr => z.cell x0
          have z1 := fun z : Ext wr => z.cell x1
          have z2 := fun z : Ext wr => z.cell x2
          have z3 := fun z : Ext wr => z.cell x3
          have v0 := fun z : Ext wr => z.cell y0
          have v1 := fun z : Ext wr => z.cell y1
          have v2 := fun z : Ext wr => z.cell y2
          have v3 := fun z : Ext wr => z.cell y3
          have HC := Lib.hid (fun z : Ext wr => Ext.call (x := z) (choose1_below (xn, xc, xl, xh) (yn, yc, yl, yh) z.w))
          simp only at HC
          have hcl := cmpI_lt xl yl
          generalize cmpI xl yl = c at *
          by_cases hc : xl < yl
          · have hc2 : decide (c < 0) = true := by rw [hcl]; simpa using hc
            clear hcl
            have hf2 := Lib.hid (And.intro hf.out.1 (fun _ : h < m => show lvd l (nn - 1 - h) < lvd l h by rw [hq, hlh.out, hlq.out]; exact hc))
            go_upto_region 35 with fail
            refine region_ext (by kernel_rfl) (by kernel_rfl) ?_
            repeat (go_big_quiet_step ((go_at_call 38; exact HC.out _)))
            refine wpQuiet_nil ?_
            rintro w8 ⟨⟨_, hw8⟩, rfl⟩
            clear hf hc
            go_wp2_with fail
            go_roundw
            case rel => exact ⟨i, h, hi, hih, by omega, rfl, rfl, hf2, hB.trans (hw8.mono hB.size)⟩
            case measure => simp [intOf]; omega
          · have hc2 : decide (c < 0) = false := by rw [hcl]; simpa using hc
            clear hcl
            have hf2 := Lib.hid (And.intro (fun _ : a < h + 1 => show ¬ lvd l (nn - (h + 1)) < lvd l (h + 1 - 1) by rw [show nn - (h + 1) = q by omega, show h + 1 - 1 = h by omega, hlh.out, hlq.out]; exact hc) hf.out.2)
            go_upto_region 35 with fail
            refine region_ext (by kernel_rfl) (by kernel_rfl) ?_
            repeat (go_big_quiet_step ((go_at_call 38; exact HC.out _)))
            refine wpQuiet_nil ?_
            rintro w8 ⟨⟨_, hw8⟩, rfl⟩
            clear hf hc
            go_wp2_with fail
            go_roundw
            case rel => exact ⟨h + 1, j, by omega, by omega, hjb, by go_num, rfl, hf2, hB.trans (hw8.mono hB.size)⟩
            case measure => simp [intOf]; omega
        · have h1 : decide ((i : Int) < (j : Int)) = false := by simpa using hlt
          obtain rfl : i = j := by omega
          obtain ⟨e, he⟩ : ∃ e, nn - i = e := ⟨_, rfl⟩
          have hwe : IntKind.i64.wrap ((nn : Int) - (i : Int)) = (e : Int) := by rw [IntKind.wrap_i64]; omega
          have hmid : mid = i + (e - m) := by omega
          have g1 : a < i → e < b → ¬ lvd l e < lvd l (i - 1) := fun ha hb => by rw [← he]; exact hf.out.1 (by omega)
          have g2 : i < m → m < e → lvd l (e - 1) < lvd l i := fun ha hb => by
            have := hf.out.2 (by omega)
            rwa [show nn - 1 - i = e - 1 by omega] at this
          have hlaw := Lib.hid (fun l2 l3 hM hN => sym_law (l := l) (l2 := l2) (l3 := l3) (a := a) (s := i) (m := m) (e := e) (b := b) (mid := mid) (by omega) (by omega) (by omega) (by omega) (by have := hn'.out; omega) hmid hXYT.out.1 hXYT.out.2.1 hXYT.out.2.2 g1 g2 hM hN)
          have hfst := Lib.hid (sym_fst (l := l) (a := a) (s := i) (m := m) (e := e) (b := b) (mid := mid) (by omega) (by omega) (by omega) (by omega) (by have := hn'.out; omega) hmid hXYT.out.1 hXYT.out.2.1 hXYT.out.2.2)
          have hsnd := Lib.hid (fun l2 hM => sym_snd (l := l) (l2 := l2) (a := a) (s := i) (m := m) (e := e) (b := b) (mid := mid) (by omega) (by omega) (by omega) (by omega) (by have := hn'.out; omega) hmid hXYT.out.1 hXYT.out.2.1 hXYT.out.2.2 hM)
          have hrl : Hid ((rotL i m e l).length = n) := Lib.hid ((rotL_len (by omega) (by omega) (by have := hn'.out; omega)).trans hn'.out)
          have hrow := Lib.hid (hr'.out.call hB)
          have hF0 : Far (fun k => k = g) w wr := .of_below hB
          have hnr := Lib.hid (fun hr1 => rotL_none (l := l) (s := i) (m := m) (e := e) (by omega) (by omega) hr1)
          have HR := Lib.hid (fun hr1 : i < m ∧ m < e => rotate_any g n cap i m e t sz l wr hrow.out hn'.out hr1.1 hr1.2 (by omega) hn64)
          clear g1 g2 hf hXYT hr' hl' hk' hB hmid
          generalize rotL i m e l = l1 at *
          by_cases hr1 : i < m ∧ m < e
          · have hg1 : decide ((i : Int) < (m : Int)) = true := by simp; omega
            have hg2 : decide ((m : Int) < (e : Int)) = true := by simp; omega
            have HR' := Lib.hid (HR.out hr1)
            obtain ⟨hA1, hA2⟩ := hr1
            clear HR hnr hrow
            go_wp2_with fail
            refine HR'.out.mono ?_
            rintro e' w2 ⟨rfl, hr2', hF2'⟩
            have hr2 := Lib.hid hr2'
            have hF2 := hF0.trans hF2'
            clear hF0 hr2' hF2' HR' hg1 hg2
            have HM1 := Lib.hid (fun hs : a < i ∧ i < mid => IH.out g cap a i mid l1 w2 (by omega) hr2.out hrl.out hs.1 hs.2 (by omega) hfst.out.1 hfst.out.2.1 hfst.out.2.2)
            have hT1 := Lib.hid (fun hs : ¬ (a < i ∧ i < mid) => merge_triv (by omega) (by omega) hs hfst.out.1 hfst.out.2.1)
            clear hfst
            by_cases hr1 : a < i ∧ i < mid
            · have hg3 : decide ((a : Int) < (i : Int)) = true := by simp; omega
              have hg4 : decide ((i : Int) < (mid : Int)) = true := by simp; omega
              have HR' := Lib.hid (HM1.out hr1)
              obtain ⟨hA3, hA4⟩ := hr1
              clear HM1 hT1
              go_wp2_with fail
              refine HR'.out.mono ?_
              rintro e' w3 ⟨rfl, l2, hM, hr3, hF3'⟩
              have hF3 := hF2.trans hF3'
              clear hr2 hF2 hF3' HR' hg3 hg4
              have hsn := Lib.hid (hsnd.out l2 hM)
              have hlw := Lib.hid (fun l3 hN => hlaw.out l2 l3 hM hN)
              have HM2 := Lib.hid (fun hs : mid < e ∧ e < b => IH.out g cap mid e b l2 w3 (by omega) hr3 (hsn.out.1.trans hn'.out) hs.1 hs.2 (by omega) hsn.out.2.1 hsn.out.2.2.1 hsn.out.2.2.2)
              have hT2 := Lib.hid (fun hs : ¬ (mid < e ∧ e < b) => merge_triv (by omega) (by omega) hs hsn.out.2.1 hsn.out.2.2.1)
              have hr3' := Lib.hid hr3
              clear hsnd hlaw hsn hM IH hrl hr3
              by_cases hr1 : mid < e ∧ e < b
              · have hg5 : decide ((mid : Int) < (e : Int)) = true := by simp; omega
                have hg6 : decide ((e : Int) < (b : Int)) = true := by simp; omega
                have HR' := Lib.hid (HM2.out hr1)
                obtain ⟨hA5, hA6⟩ := hr1
                clear HM2 hT2
                go_wp2_with fail
                refine HR'.out.mono ?_
                rintro e' w4 ⟨rfl, l3, hM3, hr4, hF4⟩
                go_wp2_with fail
                go_end0
                exact ⟨rfl, l3, hlw.out l3 hM3, hr4, hF3.trans hF4⟩
              · have hn1 := Lib.hid (hT2.out hr1)
                clear HM2 hT2
                by_cases hq2 : mid < e
                · have hg5 : decide ((mid : Int) < (e : Int)) = true := by simp; omega
                  have hg6 : decide ((e : Int) < (b : Int)) = false := by simp; omega
                  have hA6 : ¬ e < b := fun h => hr1 ⟨hq2, h⟩
                  clear hr1
                  go_wp2_with fail
                  go_end0
                  exact ⟨rfl, l2, hlw.out l2 hn1.out, hr3'.out, hF3⟩
                · have hg5 : decide ((mid : Int) < (e : Int)) = false := by simp; omega
                  clear hr1
                  go_wp2_with fail
                  go_end0
                  exact ⟨rfl, l2, hlw.out l2 hn1.out, hr3'.out, hF3⟩
            · have hM := hT1.out hr1
              obtain ⟨l2, hl2⟩ : ∃ l2, l2 = l1 := ⟨_, rfl⟩
              obtain ⟨w3, hw3⟩ : ∃ w3, w3 = w2 := ⟨_, rfl⟩
              subst hw3
              have hr3 : RowB w3 g t sz l2 := by rw [hl2]; exact hr2.out
              have hM' : MergeTo a mid l1 l2 := by rw [hl2]; exact hM
              replace hM := hM'
              have hF3 := hF2
              clear hM' hl2 hr2 hF2 HM1 hT1
              by_cases hq3 : a < i
              · have hg3 : decide ((a : Int) < (i : Int)) = true := by simp; omega
                have hg4 : decide ((i : Int) < (mid : Int)) = false := by simp; omega
                have hA4 : ¬ i < mid := fun h => hr1 ⟨hq3, h⟩
                clear hr1
                have hsn := Lib.hid (hsnd.out l2 hM)
                have hlw := Lib.hid (fun l3 hN => hlaw.out l2 l3 hM hN)
                have HM2 := Lib.hid (fun hs : mid < e ∧ e < b => IH.out g cap mid e b l2 w3 (by omega) hr3 (hsn.out.1.trans hn'.out) hs.1 hs.2 (by omega) hsn.out.2.1 hsn.out.2.2.1 hsn.out.2.2.2)
                have hT2 := Lib.hid (fun hs : ¬ (mid < e ∧ e < b) => merge_triv (by omega) (by omega) hs hsn.out.2.1 hsn.out.2.2.1)
                have hr3' := Lib.hid hr3
                clear hsnd hlaw hsn hM IH hrl hr3
                by_cases hr1 : mid < e ∧ e < b
                · have hg5 : decide ((mid : Int) < (e : Int)) = true := by simp; omega
                  have hg6 : decide ((e : Int) < (b : Int)) = true := by simp; omega
                  have HR' := Lib.hid (HM2.out hr1)
                  obtain ⟨hA5, hA6⟩ := hr1
                  clear HM2 hT2
                  go_wp2_with fail
                  refine HR'.out.mono ?_
                  rintro e' w4 ⟨rfl, l3, hM3, hr4, hF4⟩
                  go_wp2_with fail
                  go_end0
                  exact ⟨rfl, l3, hlw.out l3 hM3, hr4, hF3.trans hF4⟩
                · have hn1 := Lib.hid (hT2.out hr1)
                  clear HM2 hT2
                  by_cases hq2 : mid < e
                  · have hg5 : decide ((mid : Int) < (e : Int)) = true := by simp; omega
                    have hg6 : decide ((e : Int) < (b : Int)) = false := by simp; omega
                    have hA6 : ¬ e < b := fun h => hr1 ⟨hq2, h⟩
                    clear hr1
                    go_wp2_with fail
                    go_end0
                    exact ⟨rfl, l2, hlw.out l2 hn1.out, hr3'.out, hF3⟩
                  · have hg5 : decide ((mid : Int) < (e : Int)) = false := by simp; omega
                    clear hr1
                    go_wp2_with fail
                    go_end0
                    exact ⟨rfl, l2, hlw.out l2 hn1.out, hr3'.out, hF3⟩
              · have hg3 : decide ((a : Int) < (i : Int)) = false := by simp; omega
                clear hr1
                have hsn := Lib.hid (hsnd.out l2 hM)
                have hlw := Lib.hid (fun l3 hN => hlaw.out l2 l3 hM hN)
                have HM2 := Lib.hid (fun hs : mid < e ∧ e < b => IH.out g cap mid e b l2 w3 (by omega) hr3 (hsn.out.1.trans hn'.out) hs.1 hs.2 (by omega) hsn.out.2.1 hsn.out.2.2.1 hsn.out.2.2.2)
                have hT2 := Lib.hid (fun hs : ¬ (mid < e ∧ e < b) => merge_triv (by omega) (by omega) hs hsn.out.2.1 hsn.out.2.2.1)
                have hr3' := Lib.hid hr3
                clear hsnd hlaw hsn hM IH hrl hr3
                by_cases hr1 : mid < e ∧ e < b
                · have hg5 : decide ((mid : Int) < (e : Int)) = true := by simp; omega
                  have hg6 : decide ((e : Int) < (b : Int)) = true := by simp; omega
                  have HR' := Lib.hid (HM2.out hr1)
                  obtain ⟨hA5, hA6⟩ := hr1
                  clear HM2 hT2
                  go_wp2_with fail
                  refine HR'.out.mono ?_
                  rintro e' w4 ⟨rfl, l3, hM3, hr4, hF4⟩
                  go_wp2_with fail
                  go_end0
                  exact ⟨rfl, l3, hlw.out l3 hM3, hr4, hF3.trans hF4⟩
                · have hn1 := Lib.hid (hT2.out hr1)
                  clear HM2 hT2
                  by_cases hq2 : mid < e
                  · have hg5 : decide ((mid : Int) < (e : Int)) = true := by simp; omega
                    have hg6 : decide ((e : Int) < (b : Int)) = false := by simp; omega
                    have hA6 : ¬ e < b := fun h => hr1 ⟨hq2, h⟩
                    clear hr1
                    go_wp2_with fail
                    go_end0
                    exact ⟨rfl, l2, hlw.out l2 hn1.out, hr3'.out, hF3⟩
                  · have hg5 : decide ((mid : Int) < (e : Int)) = false := by simp; omega
                    clear hr1
                    go_wp2_with fail
                    go_end0
                    exact ⟨rfl, l2, hlw.out l2 hn1.out, hr3'.out, hF3⟩
          · have hl1 := Lib.hid (hnr.out hr1)
            obtain ⟨w2, hw2⟩ : ∃ w2, w2 = wr := ⟨_, rfl⟩
            subst hw2
            have hr2 : Hid (RowB w2 g t sz l1) := by rw [hl1.out]; exact hrow
            have hF2 := hF0
            clear hF0 HR hnr hrow hl1
            by_cases hq1 : i < m
            · have hg1 : decide ((i : Int) < (m : Int)) = true := by simp; omega
              have hg2 : decide ((m : Int) < (e : Int)) = false := by simp; omega
              have hA2 : ¬ m < e := fun h => hr1 ⟨hq1, h⟩
              clear hr1
              have HM1 := Lib.hid (fun hs : a < i ∧ i < mid => IH.out g cap a i mid l1 w2 (by omega) hr2.out hrl.out hs.1 hs.2 (by omega) hfst.out.1 hfst.out.2.1 hfst.out.2.2)
              have hT1 := Lib.hid (fun hs : ¬ (a < i ∧ i < mid) => merge_triv (by omega) (by omega) hs hfst.out.1 hfst.out.2.1)
              clear hfst
              by_cases hr1 : a < i ∧ i < mid
              · have hg3 : decide ((a : Int) < (i : Int)) = true := by simp; omega
                have hg4 : decide ((i : Int) < (mid : Int)) = true := by simp; omega
                have HR' := Lib.hid (HM1.out hr1)
                obtain ⟨hA3, hA4⟩ := hr1
                clear HM1 hT1
                go_wp2_with fail
                refine HR'.out.mono ?_
                rintro e' w3 ⟨rfl, l2, hM, hr3, hF3'⟩
                have hF3 := hF2.trans hF3'
                clear hr2 hF2 hF3' HR' hg3 hg4
                have hsn := Lib.hid (hsnd.out l2 hM)
                have hlw := Lib.hid (fun l3 hN => hlaw.out l2 l3 hM hN)
                have HM2 := Lib.hid (fun hs : mid < e ∧ e < b => IH.out g cap mid e b l2 w3 (by omega) hr3 (hsn.out.1.trans hn'.out) hs.1 hs.2 (by omega) hsn.out.2.1 hsn.out.2.2.1 hsn.out.2.2.2)
                have hT2 := Lib.hid (fun hs : ¬ (mid < e ∧ e < b) => merge_triv (by omega) (by omega) hs hsn.out.2.1 hsn.out.2.2.1)
                have hr3' := Lib.hid hr3
                clear hsnd hlaw hsn hM IH hrl hr3
                by_cases hr1 : mid < e ∧ e < b
                · have hg5 : decide ((mid : Int) < (e : Int)) = true := by simp; omega
                  have hg6 : decide ((e : Int) < (b : Int)) = true := by simp; omega
                  have HR' := Lib.hid (HM2.out hr1)
                  obtain ⟨hA5, hA6⟩ := hr1
                  clear HM2 hT2
                  go_wp2_with fail
                  refine HR'.out.mono ?_
                  rintro e' w4 ⟨rfl, l3, hM3, hr4, hF4⟩
                  go_wp2_with fail
                  go_end0
                  exact ⟨rfl, l3, hlw.out l3 hM3, hr4, hF3.trans hF4⟩
                · have hn1 := Lib.hid (hT2.out hr1)
                  clear HM2 hT2
                  by_cases hq2 : mid < e
                  · have hg5 : decide ((mid : Int) < (e : Int)) = true := by simp; omega
                    have hg6 : decide ((e : Int) < (b : Int)) = false := by simp; omega
                    have hA6 : ¬ e < b := fun h => hr1 ⟨hq2, h⟩
                    clear hr1
                    go_wp2_with fail
                    go_end0
                    exact ⟨rfl, l2, hlw.out l2 hn1.out, hr3'.out, hF3⟩
                  · have hg5 : decide ((mid : Int) < (e : Int)) = false := by simp; omega
                    clear hr1
                    go_wp2_with fail
                    go_end0
                    exact ⟨rfl, l2, hlw.out l2 hn1.out, hr3'.out, hF3⟩
              · have hM := hT1.out hr1
                obtain ⟨l2, hl2⟩ : ∃ l2, l2 = l1 := ⟨_, rfl⟩
                obtain ⟨w3, hw3⟩ : ∃ w3, w3 = w2 := ⟨_, rfl⟩
                subst hw3
                have hr3 : RowB w3 g t sz l2 := by rw [hl2]; exact hr2.out
                have hM' : MergeTo a mid l1 l2 := by rw [hl2]; exact hM
                replace hM := hM'
                have hF3 := hF2
                clear hM' hl2 hr2 hF2 HM1 hT1
                by_cases hq3 : a < i
                · have hg3 : decide ((a : Int) < (i : Int)) = true := by simp; omega
                  have hg4 : decide ((i : Int) < (mid : Int)) = false := by simp; omega
                  have hA4 : ¬ i < mid := fun h => hr1 ⟨hq3, h⟩
                  clear hr1
                  have hsn := Lib.hid (hsnd.out l2 hM)
                  have hlw := Lib.hid (fun l3 hN => hlaw.out l2 l3 hM hN)
                  have HM2 := Lib.hid (fun hs : mid < e ∧ e < b => IH.out g cap mid e b l2 w3 (by omega) hr3 (hsn.out.1.trans hn'.out) hs.1 hs.2 (by omega) hsn.out.2.1 hsn.out.2.2.1 hsn.out.2.2.2)
                  have hT2 := Lib.hid (fun hs : ¬ (mid < e ∧ e < b) => merge_triv (by omega) (by omega) hs hsn.out.2.1 hsn.out.2.2.1)
                  have hr3' := Lib.hid hr3
                  clear hsnd hlaw hsn hM IH hrl hr3
                  by_cases hr1 : mid < e ∧ e < b
                  · have hg5 : decide ((mid : Int) < (e : Int)) = true := by simp; omega
                    have hg6 : decide ((e : Int) < (b : Int)) = true := by simp; omega
                    have HR' := Lib.hid (HM2.out hr1)
                    obtain ⟨hA5, hA6⟩ := hr1
                    clear HM2 hT2
                    go_wp2_with fail
                    refine HR'.out.mono ?_
                    rintro e' w4 ⟨rfl, l3, hM3, hr4, hF4⟩
                    go_wp2_with fail
                    go_end0
                    exact ⟨rfl, l3, hlw.out l3 hM3, hr4, hF3.trans hF4⟩
                  · have hn1 := Lib.hid (hT2.out hr1)
                    clear HM2 hT2
                    by_cases hq2 : mid < e
                    · have hg5 : decide ((mid : Int) < (e : Int)) = true := by simp; omega
                      have hg6 : decide ((e : Int) < (b : Int)) = false := by simp; omega
                      have hA6 : ¬ e < b := fun h => hr1 ⟨hq2, h⟩
                      clear hr1
                      go_wp2_with fail
                      go_end0
                      exact ⟨rfl, l2, hlw.out l2 hn1.out, hr3'.out, hF3⟩
                    · have hg5 : decide ((mid : Int) < (e : Int)) = false := by simp; omega
                      clear hr1
                      go_wp2_with fail
                      go_end0
                      exact ⟨rfl, l2, hlw.out l2 hn1.out, hr3'.out, hF3⟩
                · have hg3 : decide ((a : Int) < (i : Int)) = false := by simp; omega
                  clear hr1
                  have hsn := Lib.hid (hsnd.out l2 hM)
                  have hlw := Lib.hid (fun l3 hN => hlaw.out l2 l3 hM hN)
                  have HM2 := Lib.hid (fun hs : mid < e ∧ e < b => IH.out g cap mid e b l2 w3 (by omega) hr3 (hsn.out.1.trans hn'.out) hs.1 hs.2 (by omega) hsn.out.2.1 hsn.out.2.2.1 hsn.out.2.2.2)
                  have hT2 := Lib.hid (fun hs : ¬ (mid < e ∧ e < b) => merge_triv (by omega) (by omega) hs hsn.out.2.1 hsn.out.2.2.1)
                  have hr3' := Lib.hid hr3
                  clear hsnd hlaw hsn hM IH hrl hr3
                  by_cases hr1 : mid < e ∧ e < b
                  · have hg5 : decide ((mid : Int) < (e : Int)) = true := by simp; omega
                    have hg6 : decide ((e : Int) < (b : Int)) = true := by simp; omega
                    have HR' := Lib.hid (HM2.out hr1)
                    obtain ⟨hA5, hA6⟩ := hr1
                    clear HM2 hT2
                    go_wp2_with fail
                    refine HR'.out.mono ?_
                    rintro e' w4 ⟨rfl, l3, hM3, hr4, hF4⟩
                    go_wp2_with fail
                    go_end0
                    exact ⟨rfl, l3, hlw.out l3 hM3, hr4, hF3.trans hF4⟩
                  · have hn1 := Lib.hid (hT2.out hr1)
                    clear HM2 hT2
                    by_cases hq2 : mid < e
                    · have hg5 : decide ((mid : Int) < (e : Int)) = true := by simp; omega
                      have hg6 : decide ((e : Int) < (b : Int)) = false := by simp; omega
                      have hA6 : ¬ e < b := fun h => hr1 ⟨hq2, h⟩
                      clear hr1
                      go_wp2_with fail
                      go_end0
                      exact ⟨rfl, l2, hlw.out l2 hn1.out, hr3'.out, hF3⟩
                    · have hg5 : decide ((mid : Int) < (e : Int)) = false := by simp; omega
                      clear hr1
                      go_wp2_with fail
                      go_end0
                      exact ⟨rfl, l2, hlw.out l2 hn1.out, hr3'.out, hF3⟩
            · have hg1 : decide ((i : Int) < (m : Int)) = false := by simp; omega
              clear hr1
              have HM1 := Lib.hid (fun hs : a < i ∧ i < mid => IH.out g cap a i mid l1 w2 (by omega) hr2.out hrl.out hs.1 hs.2 (by omega) hfst.out.1 hfst.out.2.1 hfst.out.2.2)
              have hT1 := Lib.hid (fun hs : ¬ (a < i ∧ i < mid) => merge_triv (by omega) (by omega) hs hfst.out.1 hfst.out.2.1)
              clear hfst
              by_cases hr1 : a < i ∧ i < mid
              · have hg3 : decide ((a : Int) < (i : Int)) = true := by simp; omega
                have hg4 : decide ((i : Int) < (mid : Int)) = true := by simp; omega
                have HR' := Lib.hid (HM1.out hr1)
                obtain ⟨hA3, hA4⟩ := hr1
                clear HM1 hT1
                go_wp2_with fail
                refine HR'.out.mono ?_
                rintro e' w3 ⟨rfl, l2, hM, hr3, hF3'⟩
                have hF3 := hF2.trans hF3'
                clear hr2 hF2 hF3' HR' hg3 hg4
                have hsn := Lib.hid (hsnd.out l2 hM)
                have hlw := Lib.hid (fun l3 hN => hlaw.out l2 l3 hM hN)
                have HM2 := Lib.hid (fun hs : mid < e ∧ e < b => IH.out g cap mid e b l2 w3 (by omega) hr3 (hsn.out.1.trans hn'.out) hs.1 hs.2 (by omega) hsn.out.2.1 hsn.out.2.2.1 hsn.out.2.2.2)
                have hT2 := Lib.hid (fun hs : ¬ (mid < e ∧ e < b) => merge_triv (by omega) (by omega) hs hsn.out.2.1 hsn.out.2.2.1)
                have hr3' := Lib.hid hr3
                clear hsnd hlaw hsn hM IH hrl hr3
                by_cases hr1 : mid < e ∧ e < b
                · have hg5 : decide ((mid : Int) < (e : Int)) = true := by simp; omega
                  have hg6 : decide ((e : Int) < (b : Int)) = true := by simp; omega
                  have HR' := Lib.hid (HM2.out hr1)
                  obtain ⟨hA5, hA6⟩ := hr1
                  clear HM2 hT2
                  go_wp2_with fail
                  refine HR'.out.mono ?_
                  rintro e' w4 ⟨rfl, l3, hM3, hr4, hF4⟩
                  go_wp2_with fail
                  go_end0
                  exact ⟨rfl, l3, hlw.out l3 hM3, hr4, hF3.trans hF4⟩
                · have hn1 := Lib.hid (hT2.out hr1)
                  clear HM2 hT2
                  by_cases hq2 : mid < e
                  · have hg5 : decide ((mid : Int) < (e : Int)) = true := by simp; omega
                    have hg6 : decide ((e : Int) < (b : Int)) = false := by simp; omega
                    have hA6 : ¬ e < b := fun h => hr1 ⟨hq2, h⟩
                    clear hr1
                    go_wp2_with fail
                    go_end0
                    exact ⟨rfl, l2, hlw.out l2 hn1.out, hr3'.out, hF3⟩
                  · have hg5 : decide ((mid : Int) < (e : Int)) = false := by simp; omega
                    clear hr1
                    go_wp2_with fail
                    go_end0
                    exact ⟨rfl, l2, hlw.out l2 hn1.out, hr3'.out, hF3⟩
              · have hM := hT1.out hr1
                obtain ⟨l2, hl2⟩ : ∃ l2, l2 = l1 := ⟨_, rfl⟩
                obtain ⟨w3, hw3⟩ : ∃ w3, w3 = w2 := ⟨_, rfl⟩
                subst hw3
                have hr3 : RowB w3 g t sz l2 := by rw [hl2]; exact hr2.out
                have hM' : MergeTo a mid l1 l2 := by rw [hl2]; exact hM
                replace hM := hM'
                have hF3 := hF2
                clear hM' hl2 hr2 hF2 HM1 hT1
                by_cases hq3 : a < i
                · have hg3 : decide ((a : Int) < (i : Int)) = true := by simp; omega
                  have hg4 : decide ((i : Int) < (mid : Int)) = false := by simp; omega
                  have hA4 : ¬ i < mid := fun h => hr1 ⟨hq3, h⟩
                  clear hr1
                  have hsn := Lib.hid (hsnd.out l2 hM)
                  have hlw := Lib.hid (fun l3 hN => hlaw.out l2 l3 hM hN)
                  have HM2 := Lib.hid (fun hs : mid < e ∧ e < b => IH.out g cap mid e b l2 w3 (by omega) hr3 (hsn.out.1.trans hn'.out) hs.1 hs.2 (by omega) hsn.out.2.1 hsn.out.2.2.1 hsn.out.2.2.2)
                  have hT2 := Lib.hid (fun hs : ¬ (mid < e ∧ e < b) => merge_triv (by omega) (by omega) hs hsn.out.2.1 hsn.out.2.2.1)
                  have hr3' := Lib.hid hr3
                  clear hsnd hlaw hsn hM IH hrl hr3
                  by_cases hr1 : mid < e ∧ e < b
                  · have hg5 : decide ((mid : Int) < (e : Int)) = true := by simp; omega
                    have hg6 : decide ((e : Int) < (b : Int)) = true := by simp; omega
                    have HR' := Lib.hid (HM2.out hr1)
                    obtain ⟨hA5, hA6⟩ := hr1
                    clear HM2 hT2
                    go_wp2_with fail
                    refine HR'.out.mono ?_
                    rintro e' w4 ⟨rfl, l3, hM3, hr4, hF4⟩
                    go_wp2_with fail
                    go_end0
                    exact ⟨rfl, l3, hlw.out l3 hM3, hr4, hF3.trans hF4⟩
                  · have hn1 := Lib.hid (hT2.out hr1)
                    clear HM2 hT2
                    by_cases hq2 : mid < e
                    · have hg5 : decide ((mid : Int) < (e : Int)) = true := by simp; omega
                      have hg6 : decide ((e : Int) < (b : Int)) = false := by simp; omega
                      have hA6 : ¬ e < b := fun h => hr1 ⟨hq2, h⟩
                      clear hr1
                      go_wp2_with fail
                      go_end0
                      exact ⟨rfl, l2, hlw.out l2 hn1.out, hr3'.out, hF3⟩
                    · have hg5 : decide ((mid : Int) < (e : Int)) = false := by simp; omega
                      clear hr1
                      go_wp2_with fail
                      go_end0
                      exact ⟨rfl, l2, hlw.out l2 hn1.out, hr3'.out, hF3⟩
                · have hg3 : decide ((a : Int) < (i : Int)) = false := by simp; omega
                  clear hr1
                  have hsn := Lib.hid (hsnd.out l2 hM)
                  have hlw := Lib.hid (fun l3 hN => hlaw.out l2 l3 hM hN)
                  have HM2 := Lib.hid (fun hs : mid < e ∧ e < b => IH.out g cap mid e b l2 w3 (by omega) hr3 (hsn.out.1.trans hn'.out) hs.1 hs.2 (by omega) hsn.out.2.1 hsn.out.2.2.1 hsn.out.2.2.2)
                  have hT2 := Lib.hid (fun hs : ¬ (mid < e ∧ e < b) => merge_triv (by omega) (by omega) hs hsn.out.2.1 hsn.out.2.2.1)
                  have hr3' := Lib.hid hr3
                  clear hsnd hlaw hsn hM IH hrl hr3
                  by_cases hr1 : mid < e ∧ e < b
                  · have hg5 : decide ((mid : Int) < (e : Int)) = true := by simp; omega
                    have hg6 : decide ((e : Int) < (b : Int)) = true := by simp; omega
                    have HR' := Lib.hid (HM2.out hr1)
                    obtain ⟨hA5, hA6⟩ := hr1
                    clear HM2 hT2
                    go_wp2_with fail
                    refine HR'.out.mono ?_
                    rintro e' w4 ⟨rfl, l3, hM3, hr4, hF4⟩
                    go_wp2_with fail
                    go_end0
                    exact ⟨rfl, l3, hlw.out l3 hM3, hr4, hF3.trans hF4⟩
                  · have hn1 := Lib.hid (hT2.out hr1)
                    clear HM2 hT2
                    by_cases hq2 : mid < e
                    · have hg5 : decide ((mid : Int) < (e : Int)) = true := by simp; omega
                      have hg6 : decide ((e : Int) < (b : Int)) = false := by simp; omega
                      have hA6 : ¬ e < b := fun h => hr1 ⟨hq2, h⟩
                      clear hr1
                      go_wp2_with fail
                      go_end0
                      exact ⟨rfl, l2, hlw.out l2 hn1.out, hr3'.out, hF3⟩
                    · have hg5 : decide ((mid : Int) < (e : Int)) = false := by simp; omega
                      clear hr1
                      go_wp2_with fail
                      go_end0
                      exact ⟨rfl, l2, hlw.out l2 hn1.out, hr3'.out, hF3⟩
end Go.Proofs.Ytmpakobfedgdbaa
namespace Go.Proofs.Ytmpakobfedgdbaa
open Go Go.Proofs Go.RowKit Go.Pol Go.Shelf
attribute [local go_sem] Oper.semAt_some Go.Pol.wide_fn Go.Pol.wide_depth Go.Pol.wide_fn' Go.Pol.wide_depth'

set_option maxRecDepth 100000 in
set_option maxHeartbeats 4000000 in
theorem stable_any (g n cap : Nat) (t : TypeId) (sz : Nat) (l : List Gp) (w : World) (hr : RowB w g t sz l) (hn : l.length = n) (hn64 : n ≤ 1000) (hA : AscX l) :
    Calls Try.prog 72 #[.slice (some ⟨g, 0, none⟩) n cap, .int .i64 n, .func (.func 38) #[] #[]] w fun e w' => e = .returned (.tuple #[]) ∧
      ∃ l', l'.Perm l ∧ l'.Pairwise LeX ∧ RowB w' g t sz l' ∧ Far (fun k => k = g) w w' := by
  have hr' := Lib.hid hr
  have hn' := Lib.hid hn
  have hA' := Lib.hid hA
  clear hr hn hA
  go_enter Try.func72, Try.ntmps72
  go_wp2_with fail
  go_loopw [7, 8] (fun u v wr => ∃ (a b : Nat) (lk : List Gp), u = .int .i64 a ∧ v = .int .i64 b ∧ Hid (b = a + 20) ∧ Hid (20 ∣ a) ∧ a ≤ n ∧ Hid (Ph1 l lk 20 a) ∧ Hid (RowB wr g t sz lk) ∧ Far (fun k => k = g) w wr) (fun _ v _ => n + 40 - (intOf v).toNat)
  case atStart => exact ⟨0, 20, l, rfl, rfl, Lib.hid rfl, Lib.hid ⟨0, rfl⟩, by omega, Lib.hid (Ph1.start l (by omega)), hr', Far.refl _ _⟩
  case round =>
    clear hr'
    obtain ⟨a, b, lk, rfl, rfl, hab, hda, han, hP, hrow, hF⟩ := hrel
    have hlk : Hid (lk.length = n) := Lib.hid (hP.out.len.trans hn'.out)
    by_cases hbn : b ≤ n
    · have h1 : decide ((b : Int) ≤ (n : Int)) = true := by simpa using hbn
      have HI := Lib.hid (insertion_any g n cap a b t sz lk wr hrow.out hlk.out (by have := hab.out; omega) hbn hn64 (hP.out.asc hA'.out))
      obtain ⟨b2, hb2⟩ : ∃ b2, b + 20 = b2 := ⟨_, rfl⟩
      have hw1 : IntKind.i64.wrap ((b : Int) + 20) = (b2 : Int) := by rw [IntKind.wrap_i64]; omega
      go_wp2_with fail
      refine HI.out.mono ?_
      rintro e w2 ⟨rfl, l2, hM, hr2, hF2⟩
      have hP2 := Lib.hid (hP.out.step (l' := l2) hda.out (by have := hab.out; have := hlk.out; omega) (by rw [← hab.out]; exact hM))
      have hF3 := hF.trans hF2
      rw [← hab.out] at hP2
      have hd2 : Hid (20 ∣ b) := Lib.hid (by rw [hab.out]; exact Nat.dvd_add hda.out (Nat.dvd_refl _))
      clear hP hrow hF hF2 HI hM
      go_wp2_with fail
      go_roundw
      case rel => exact ⟨b, b2, l2, rfl, rfl, Lib.hid hb2.symm, hd2, hbn, hP2, Lib.hid hr2, hF3⟩
      case measure => simp [intOf]; omega
    · have h1 : decide ((b : Int) ≤ (n : Int)) = false := by simpa using hbn
      have HI := Lib.hid (insertion_any g n cap a n t sz lk wr hrow.out hlk.out han (Nat.le_refl _) hn64 (hP.out.asc hA'.out))
      go_wp2_with fail
      refine HI.out.mono ?_
      rintro e w2 ⟨rfl, l2, hM, hr2, hF2⟩
      have hB := hP.out.blks (l' := l2) hda.out hlk.out han (by have := hab.out; omega) hM
      have hB1 := Lib.hid hB.1
      have hB2 := Lib.hid (hB.2.trans hn'.out)
      have hF3 := hF.trans hF2
      have hr3 := Lib.hid hr2
      clear hP hrow hF hF2 HI hM hB hr2
      go_wp2_with fail
      go_loopw [6] (fun u wr => ∃ (bs : Nat) (lk : List Gp), u = .int .i64 bs ∧ 20 ≤ bs ∧ bs ≤ 4000 ∧ Hid (Blks l lk bs n 0) ∧ Hid (lk.length = n) ∧ Hid (RowB wr g t sz lk) ∧ Far (fun k => k = g) w wr) (fun u _ => n - (intOf u).toNat)
      case atStart => exact ⟨20, l2, rfl, by omega, by omega, hB1, hB2, hr3, hF3⟩
      case round =>
        clear hB1 hB2 hr3 hF3
        obtain ⟨bs, lk, rfl, hbs, hbs2, hBl, hlk, hrow, hF⟩ := hrel
        by_cases hlt : bs < n
        · have h2 : decide ((bs : Int) < (n : Int)) = true := by simpa using hlt
          obtain ⟨b2, hb2⟩ : ∃ b2, 2 * bs = b2 := ⟨_, rfl⟩
          have hw2 : IntKind.i64.wrap (2 * (bs : Int)) = (b2 : Int) := by rw [IntKind.wrap_i64]; omega
          have hw3 : IntKind.i64.wrap ((bs : Int) * 2) = (b2 : Int) := by rw [IntKind.wrap_i64]; omega
          have hst := Lib.hid (Ph2.start hBl.out hlk.out (by omega))
          have hb2' := Lib.hid hb2
          clear hBl hlk
          go_wp2_with fail
          go_loopw [7, 8] (fun u v wr => ∃ (a b : Nat) (lk : List Gp), u = .int .i64 a ∧ v = .int .i64 b ∧ Hid (b = a + b2) ∧ Hid (b2 ∣ a) ∧ a ≤ n ∧ Hid (Ph2 l lk bs n a) ∧ Hid (RowB wr g t sz lk) ∧ Far (fun k => k = g) w wr) (fun _ v _ => n + b2 - (intOf v).toNat)
          case atStart => exact ⟨0, b2, lk, rfl, rfl, Lib.hid (Nat.zero_add _).symm, Lib.hid ⟨0, rfl⟩, by omega, hst, hrow, hF⟩
          case round =>
            clear hst hrow hF
            obtain ⟨a, b, lk, rfl, rfl, hab, hda, han, hP, hrow, hF⟩ := hrel
            obtain ⟨m, hm⟩ : ∃ m, a + bs = m := ⟨_, rfl⟩
            have hwm : IntKind.i64.wrap ((a : Int) + (bs : Int)) = (m : Int) := by rw [IntKind.wrap_i64]; omega
            by_cases hbn : b ≤ n
            · have h3 : decide ((b : Int) ≤ (n : Int)) = true := by simpa using hbn
              have s1 := hP.out.fst (by rw [hb2]; exact hda.out) (by have := hab.out; omega)
              have s2 := hP.out.snd (by rw [hb2]; exact hda.out) (by have := hab.out; omega)
              rw [hb2, ← hab.out, Nat.min_eq_left hbn, hm] at s2
              rw [hm] at s1
              have HI := Lib.hid (symMerge_any n hn64 t sz (b - a) g cap a m b lk wr (Nat.le_refl _) hrow.out hP.out.len (by omega) (by have := hab.out; omega) hbn s1.srt s2.srt (s1.tie s2 hA'.out (by omega) (by have := hab.out; omega)))
              obtain ⟨b3, hb3⟩ : ∃ b3, b + b2 = b3 := ⟨_, rfl⟩
              have hw4 : IntKind.i64.wrap ((b : Int) + (b2 : Int)) = (b3 : Int) := by rw [IntKind.wrap_i64]; omega
              clear s1 s2
              go_wp2_with fail
              refine HI.out.mono ?_
              rintro e w2 ⟨rfl, l2, hM, hr2, hF2⟩
              have hP2 := Lib.hid (hP.out.step (l' := l2) (by rw [hb2]; exact hda.out) (by have := hab.out; omega) (by rw [hb2, ← hab.out]; exact hM))
              rw [hb2, ← hab.out] at hP2
              have hd2 : Hid (b2 ∣ b) := Lib.hid (by rw [hab.out]; exact Nat.dvd_add hda.out (Nat.dvd_refl _))
              have hF3 := hF.trans hF2
              clear hP hrow hF hF2 HI hM
              go_wp2_with fail
              go_roundw
              case rel => exact ⟨b, b3, l2, rfl, rfl, Lib.hid hb3.symm, hd2, hbn, hP2, Lib.hid hr2, hF3⟩
              case measure => simp [intOf]; omega
            · have h3 : decide ((b : Int) ≤ (n : Int)) = false := by simpa using hbn
              by_cases hmn : m < n
              · have h4 : decide ((m : Int) < (n : Int)) = true := by simpa using hmn
                have s1 := hP.out.fst (by rw [hb2]; exact hda.out) (by omega)
                have s2 := hP.out.snd (by rw [hb2]; exact hda.out) (by omega)
                rw [hb2, ← hab.out, Nat.min_eq_right (by omega), hm] at s2
                rw [hm] at s1
                have HI := Lib.hid (symMerge_any n hn64 t sz (n - a) g cap a m n lk wr (Nat.le_refl _) hrow.out hP.out.len (by omega) (by omega) (Nat.le_refl _) s1.srt s2.srt (s1.tie s2 hA'.out (by omega) (by omega)))
                clear s1 s2
                go_wp2_with fail
                refine HI.out.mono ?_
                rintro e w2 ⟨rfl, l2, hM, hr2, hF2⟩
                have hB := hP.out.last (l' := l2) (by rw [hb2]; exact hda.out) (by omega) (by have := hab.out; omega) hM
                rw [hb2] at hB
                have hB1 := Lib.hid hB.1
                have hB2 := Lib.hid hB.2
                have hF3 := hF.trans hF2
                clear hP hrow hF hF2 HI hM hB
                go_wp2_with fail
                go_roundw
                case rel => exact ⟨b2, l2, rfl, by omega, by omega, hB1, hB2, Lib.hid hr2, hF3⟩
                case measure => simp [intOf]; omega
              · have h4 : decide ((m : Int) < (n : Int)) = false := by simpa using hmn
                have hB := hP.out.none (by rw [hb2]; exact hda.out) (by omega) (by have := hab.out; omega) han
                rw [hb2] at hB
                have hB1 := Lib.hid hB
                have hB2 := Lib.hid hP.out.len
                clear hP hB
                go_wp2_with fail
                go_roundw
                case rel => exact ⟨b2, lk, rfl, by omega, by omega, hB1, hB2, hrow, hF⟩
                case measure => simp [intOf]; omega
        · have h2 : decide ((bs : Int) < (n : Int)) = false := by simpa using hlt
          have hS := hBl.out.end_ (by omega)
          have e1 : cut lk 0 n = lk := by unfold cut; rw [List.drop_zero, List.take_of_length_le (by have := hlk.out; omega)]
          have e2 : cut l 0 n = l := by unfold cut; rw [List.drop_zero, List.take_of_length_le (by have := hn'.out; omega)]
          have hp := hS.perm
          have hs := hS.srt
          rw [e1, e2] at hp
          rw [e1] at hs
          have hps := Lib.hid (And.intro hp hs)
          clear hS e1 e2 hp hs
          go_wp2_with fail
          go_end0
          exact ⟨rfl, lk, hps.out.1, hps.out.2, hrow.out, hF⟩
end Go.Proofs.Ytmpakobfedgdbaa
namespace Go.Proofs.Ytmpakobfedgdbaa
open Go Go.Proofs Go.RowKit Go.Pol Go.Shelf

theorem rowG_cells {cs : Array Value} {us : List Gp} (h : RowG cs us) : cs.toList.take (us.length * 4) = gCells us := by
  apply List.ext_getElem?
  intro t
  have hl := gCells_len us
  rw [List.getElem?_take]
  by_cases ht : t < us.length * 4
  · rw [if_pos ht, Array.getElem?_toList]
    have hk : t / 4 < us.length := by omega
    have hat := gCells_at us (t / 4) hk
    have hr := h.at_ (t / 4) hk
    rcases (show t % 4 = 0 ∨ t % 4 = 1 ∨ t % 4 = 2 ∨ t % 4 = 3 by omega) with h | h | h | h
    · rw [show t = t / 4 * 4 by omega, hat.1, hr.1]
    · have e : t = t / 4 * 4 + 1 := by omega
      generalize t / 4 = k at *
      subst e
      rw [hat.2.1, hr.2.1]
    · have e : t = t / 4 * 4 + 2 := by omega
      generalize t / 4 = k at *
      subst e
      rw [hat.2.2.1, hr.2.2.1]
    · have e : t = t / 4 * 4 + 3 := by omega
      generalize t / 4 = k at *
      subst e
      rw [hat.2.2.2, hr.2.2.2]
  · rw [if_neg ht, List.getElem?_eq_none (by omega)]
theorem rowG_of {cs : Array Value} {us : List Gp} (hb : us.length * 4 ≤ cs.size) (h : cs.toList.take (us.length * 4) = gCells us) : RowG cs us := by
  refine ⟨hb, fun k hk => ?_⟩
  have hat := gCells_at us k hk
  have g : ∀ j, j < us.length * 4 → cs[j]? = (gCells us)[j]? := fun j hj => by
    rw [← h, List.getElem?_take, if_pos hj, Array.getElem?_toList]
  rw [g _ (by omega), g _ (by omega), g _ (by omega), g _ (by omega)]
  exact hat
theorem sortsTo_ord (us ord : List Gp) (hA : AscX us) (hp : ord.Perm us) (hs : ord.Pairwise LeX) (hlen : us.length ≤ 1000) : SortsTo us ord := by
  refine ⟨hp.length_eq, fun base v w hbase hrow => ?_⟩
  by_cases hne : us = []
  · subst hne
    obtain ⟨A, cap, rfl⟩ := own_nilG hrow rfl
    have HS := Lib.hid (stableNone A cap w)
    have he : ord = [] := List.Perm.eq_nil hp
    have hfin : w.ownsRow base 65 4 (.slice A ([] : List Gp).length cap) ([] : List Gp).length (gCells ord) := by
      rw [he]; exact hrow
    clear hrow hp hs hA he
    go_enter Try.func63, Try.ntmps63
    go_wp2_with fail
    refine HS.out.mono ?_
    rintro e w1 ⟨rfl, hw⟩
    subst hw
    go_wp2_with fail
    go_end0
    exact ⟨rfl, hfin, Go.RowKit.Below.refl _ _⟩
  · have hpos : 0 < us.length := List.length_pos_iff.2 hne
    rcases hrow.2 with ⟨_, h0⟩ | ⟨g, cap, cur, rfl, hg, hheap, hnc, hcm, hsz, htk⟩
    · omega
    · have hR : RowB w g 65 (cap * 4) us := ⟨cur, hheap, hsz, rowG_of (by rw [hsz]; exact Nat.mul_le_mul_right 4 hnc) htk⟩
      obtain ⟨n, hn⟩ : ∃ n, us.length = n := ⟨_, rfl⟩
      have HS := Lib.hid (stable_any g n cap 65 (cap * 4) us w hR hn (by omega) hA)
      have hol : Hid (ord.length = n) := Lib.hid (hp.length_eq.trans hn)
      have hAps := Lib.hid (And.intro hA (And.intro hp hs))
      rw [hn] at hnc ⊢
      clear hR hrow hheap hA hp hs htk hsz hn hpos hne hlen
      go_enter Try.func63, Try.ntmps63
      go_wp2_with fail
      refine HS.out.mono ?_
      rintro e w1 ⟨rfl, l', hp', hs', hr', hF⟩
      obtain rfl := srt_eq hAps.out.1 hp' hs' hAps.out.2.1 hAps.out.2.2
      obtain ⟨cs, hk, hcs, hl⟩ := hr'
      go_wp2_with fail
      go_end0
      refine ⟨rfl, ⟨by rw [gCells_len, hol.out], .inr ⟨g, cap, cs, rfl, hg, hk, hnc, hcm, hcs, ?_⟩⟩, hF.below hbase (fun k hk e => by omega)⟩
      rw [← hol.out]
      exact rowG_cells hl
end Go.Proofs.Ytmpakobfedgdbaa
