/- Merged texts. Walks of layer 13: slices.symMergeCmpFunc of groups: two sorted runs become one. Walks of layer 13: slices.stableCmpFunc of groups whose numbers ascend. The stable sort of a list of groups whose numbers ascend, of whatever length up to 1000. Choose of layer 13, whatever the number of huge groups, in memory of its own. -/
import Derived.Test.YtpabnbhbcphfiaaGreatS9
namespace Go.Proofs.YtpabnbhbcphfiaaGreat
open Go Go.Proofs Go.RowKit Go.Pol Go.Shelf
attribute [local go_sem] Oper.semAt_some Go.Pol.wide_fn Go.Pol.wide_depth Go.Pol.wide_fn' Go.Pol.wide_depth'

set_option maxRecDepth 100000 in
set_option maxHeartbeats 4000000 in
theorem symMerge_any (n : Nat) (hn64 : n ≤ 1000) (t : TypeId) (sz : Nat) : ∀ (k g cap a m b : Nat) (l : List Gp) (w : World) (_ : b - a ≤ k) (_ : RowB w g t sz l) (_ : l.length = n) (_ : a < m) (_ : m < b) (_ : b ≤ n)
    (_ : (cut l a m).Pairwise LeX) (_ : (cut l m b).Pairwise LeX) (_ : ∀ x ∈ cut l a m, ∀ y ∈ cut l m b, TieX x y),
    Calls Tryz.prog 238 #[.slice (some ⟨g, 0, none⟩) n cap, .int .i64 a, .int .i64 m, .int .i64 b, .func (.func 110) #[] #[]] w fun e w' => e = .returned (.tuple #[]) ∧
      ∃ l', MergeTo a b l l' ∧ RowB w' g t sz l' ∧ Far (fun k => k = g) w w'
  | 0, _, _, _, _, _, _, _, hk, _, _, ham, hmb, _, _, _, _ => by omega
  | k + 1, g, cap, a, m, b, l, w, hk0, hr, hn, ham, hmb, hb, hX, hY, hT => by
    by_cases c1 : a + 1 = m
    · exact symOneX_any g n cap a m b t sz l w hr hn c1 hmb hb hn64 hY hT
    by_cases c2 : m + 1 = b
    · exact symOneY_any g n cap a m b t sz l w hr hn (by omega) c2 hb hn64 hX hT
    have IH := Lib.hid (symMerge_any n hn64 t sz k)
    have hXYT := Lib.hid (And.intro hX (And.intro hY hT))
    have hr' := Lib.hid hr
    have hn' := Lib.hid hn
    obtain ⟨cs, hk, hcs, hl⟩ := hr
    have hl' := Lib.hid hl
    have hk' := Lib.hid hk
    clear hX hY hT hn hl hk hcs
    obtain ⟨mid, hmd⟩ : ∃ mid : Nat, ((a : Int) + (b : Int)) / 2 = (mid : Int) := ⟨(a + b) / 2, by omega⟩
    obtain ⟨nn, hnn⟩ : ∃ nn, mid + m = nn := ⟨_, rfl⟩
    obtain ⟨n1, hn1⟩ : ∃ n1, nn - 1 = n1 := ⟨_, rfl⟩
    obtain ⟨d1, hd1⟩ : ∃ d, m - a = d := ⟨_, rfl⟩
    obtain ⟨d2, hd2⟩ : ∃ d, b - m = d := ⟨_, rfl⟩
    have hw1 : IntKind.i64.wrap ((m : Int) - (a : Int)) = (d1 : Int) := by rw [IntKind.wrap_i64]; omega
    have hb1 : ((d1 : Int) == 1) = false := by simp; omega
    have hw2 : IntKind.i64.wrap ((b : Int) - (m : Int)) = (d2 : Int) := by rw [IntKind.wrap_i64]; omega
    have hb2 : ((d2 : Int) == 1) = false := by simp; omega
    have hw3 : IntKind.i64.wrap ((mid : Int) + (m : Int)) = (nn : Int) := by rw [IntKind.wrap_i64]; omega
    have hw4 : IntKind.i64.wrap ((nn : Int) - 1) = (n1 : Int) := by rw [IntKind.wrap_i64]; omega
    by_cases hmm : mid < m
    · have hg : decide ((mid : Int) < (m : Int)) = true := by simpa using hmm
      obtain ⟨lo, hlo⟩ : ∃ lo, nn - b = lo := ⟨_, rfl⟩
      have hw5 : IntKind.i64.wrap ((nn : Int) - (b : Int)) = (lo : Int) := by rw [IntKind.wrap_i64]; omega
      go_enter Tryz.func238, Tryz.ntmps238
      as_aux_lemma =>
      go_wp2_with fail
      go_loopw [20, 21] (fun u v wr => ∃ (i j : Nat), lo ≤ i ∧ i ≤ j ∧ j ≤ mid ∧ u = .int .i64 i ∧ v = .int .i64 j ∧ Hid ((lo < i → ¬ lvd l (nn - i) < lvd l (i - 1)) ∧ (j < mid → lvd l (nn - 1 - j) < lvd l j)) ∧ Below w.heap.size w wr) (fun u v _ => (intOf v).toNat - (intOf u).toNat)
      case atStart => exact ⟨lo, mid, by omega, by omega, by omega, rfl, rfl, Lib.hid ⟨fun h => absurd h (Nat.lt_irrefl _), fun h => absurd h (Nat.lt_irrefl _)⟩, Below.refl _ _⟩
      case round =>
        obtain ⟨i, j, hi, hij, hjb, rfl, rfl, hf, hB⟩ := hrel
        by_cases hlt : i < j
        · have h1 : decide ((i : Int) < (j : Int)) = true := by simpa using hlt
          obtain ⟨h, hh⟩ : ∃ h : Nat, ((i : Int) + (j : Int)) / 2 = (h : Int) := ⟨(i + j) / 2, by omega⟩
          have hih : i ≤ h := by omega
          have hhj : h < j := by omega
          have hhn : (h : Int) < (n : Int) := by omega
          obtain ⟨q, hq⟩ : ∃ q, nn - 1 - h = q := ⟨_, rfl⟩
          have hqw : IntKind.i64.wrap ((n1 : Int) - (h : Int)) = (q : Int) := by rw [IntKind.wrap_i64]; omega
          have hqn : (q : Int) < (n : Int) := by omega
          have hkr := hk'.out.call hB
          obtain ⟨x0, x1, x2, x3⟩ := hl'.out.at_ q (by have := hn'.out; omega)
          obtain ⟨y0, y1, y2, y3⟩ := hl'.out.at_ h (by have := hn'.out; omega)
          rw [← hkr.cell] at x0 x1 x2 x3 y0 y1 y2 y3
          have hlq := Lib.hid (show lvd l q = (l.getD q gp0).2.2.1 from rfl)
          have hlh := Lib.hid (show lvd l h = (l.getD h gp0).2.2.1 from rfl)
          generalize l.getD q gp0 = x at *
          generalize l.getD h gp0 = y at *
          obtain ⟨xn, xc, xl, xh⟩ := x
          obtain ⟨yn, yc, yl, yh⟩ := y
          have z0 := fun z : Ext wr => z.cell x0
          have z1 := fun z : Ext wr => z.cell x1
          have z2 := fun z : Ext wr => z.cell x2
          have z3 := fun z : Ext wr => z.cell x3
          have v0 := fun z : Ext wr => z.cell y0
          have v1 := fun z : Ext wr => z.cell y1
          have v2 := fun z : Ext wr => z.cell y2
          have v3 := fun z : Ext wr => z.cell y3
          have HC := Lib.hid (fun z : Ext wr => Ext.call (x := z) (choose1_below (xn, xc, xl, xh) (yn, yc, yl, yh) z.w))
          simp only at HC
          have hcl := cmpI_lt xl yl
          generalize cmpI xl yl = c at *
          by_cases hc : xl < yl
          · have hc2 : decide (c < 0) = true := by rw [hcl]; simpa using hc
            clear hcl
            have hf2 := Lib.hid (And.intro hf.out.1 (fun _ : h < mid => show lvd l (nn - 1 - h) < lvd l h by rw [hq, hlh.out, hlq.out]; exact hc))
            go_upto_region 35 with fail
            refine region_ext (by kernel_rfl) (by kernel_rfl) ?_
            repeat (go_big_quiet_step ((go_at_call 110; exact HC.out _)))
            refine wpQuiet_nil ?_
            rintro w8 ⟨⟨_, hw8⟩, rfl⟩
            clear hf hc
            go_wp2_with fail
            go_roundw
            case rel => exact ⟨i, h, hi, hih, by omega, rfl, rfl, hf2, hB.trans (hw8.mono hB.size)⟩
            case measure => simp [intOf]; omega
          · have hc2 : decide (c < 0) = false := by rw [hcl]; simpa using hc
            clear hcl
            have hf2 := Lib.hid (And.intro (fun _ : lo < h + 1 => show ¬ lvd l (nn - (h + 1)) < lvd l (h + 1 - 1) by rw [show nn - (h + 1) = q by omega, show h + 1 - 1 = h by omega, hlh.out, hlq.out]; exact hc) hf.out.2)
            go_upto_region 35 with fail
            refine region_ext (by kernel_rfl) (by kernel_rfl) ?_
            repeat (go_big_quiet_step ((go_at_call 110; exact HC.out _)))
            refine wpQuiet_nil ?_
            rintro w8 ⟨⟨_, hw8⟩, rfl⟩
            clear hf hc
            go_wp2_with fail
            go_roundw
            case rel => exact ⟨h + 1, j, by omega, by omega, hjb, by go_num, rfl, hf2, hB.trans (hw8.mono hB.size)⟩
            case measure => simp [intOf]; omega
        · have h1 : decide ((i : Int) < (j : Int)) = false := by simpa using hlt
          obtain rfl : i = j := by omega
          obtain ⟨e, he⟩ : ∃ e, nn - i = e := ⟨_, rfl⟩
          have hwe : IntKind.i64.wrap ((nn : Int) - (i : Int)) = (e : Int) := by rw [IntKind.wrap_i64]; omega
          have hmid : mid = i + (e - m) := by omega
          have g1 : a < i → e < b → ¬ lvd l e < lvd l (i - 1) := fun ha hb => by rw [← he]; exact hf.out.1 (by omega)
          have g2 : i < m → m < e → lvd l (e - 1) < lvd l i := fun ha hb => by
            have := hf.out.2 (by omega)
            rwa [show nn - 1 - i = e - 1 by omega] at this
          have hlaw := Lib.hid (fun l2 l3 hM hN => sym_law (l := l) (l2 := l2) (l3 := l3) (a := a) (s := i) (m := m) (e := e) (b := b) (mid := mid) (by omega) (by omega) (by omega) (by omega) (by have := hn'.out; omega) hmid hXYT.out.1 hXYT.out.2.1 hXYT.out.2.2 g1 g2 hM hN)
          have hfst := Lib.hid (sym_fst (l := l) (a := a) (s := i) (m := m) (e := e) (b := b) (mid := mid) (by omega) (by omega) (by omega) (by omega) (by have := hn'.out; omega) hmid hXYT.out.1 hXYT.out.2.1 hXYT.out.2.2)
          have hsnd := Lib.hid (fun l2 hM => sym_snd (l := l) (l2 := l2) (a := a) (s := i) (m := m) (e := e) (b := b) (mid := mid) (by omega) (by omega) (by omega) (by omega) (by have := hn'.out; omega) hmid hXYT.out.1 hXYT.out.2.1 hXYT.out.2.2 hM)
          have hrl : Hid ((rotL i m e l).length = n) := Lib.hid ((rotL_len (by omega) (by omega) (by have := hn'.out; omega)).trans hn'.out)
          have hrow := Lib.hid (hr'.out.call hB)
          have hF0 : Far (fun k => k = g) w wr := .of_below hB
          have hnr := Lib.hid (fun hr1 => rotL_none (l := l) (s := i) (m := m) (e := e) (by omega) (by omega) hr1)
          have HR := Lib.hid (fun hr1 : i < m ∧ m < e => rotate_any g n cap i m e t sz l wr hrow.out hn'.out hr1.1 hr1.2 (by omega) hn64)
          clear g1 g2 hf hXYT hr' hl' hk' hB hmid
          generalize rotL i m e l = l1 at *
          by_cases hr1 : i < m ∧ m < e
          · have hg1 : decide ((i : Int) < (m : Int)) = true := by simp; omega
            have hg2 : decide ((m : Int) < (e : Int)) = true := by simp; omega
            have HR' := Lib.hid (HR.out hr1)
            obtain ⟨hA1, hA2⟩ := hr1
            clear HR hnr hrow
            go_wp2_with fail
            refine HR'.out.mono ?_
            rintro e' w2 ⟨rfl, hr2', hF2'⟩
            have hr2 := Lib.hid hr2'
            have hF2 := hF0.trans hF2'
            clear hF0 hr2' hF2' HR' hg1 hg2
            have HM1 := Lib.hid (fun hs : a < i ∧ i < mid => IH.out g cap a i mid l1 w2 (by omega) hr2.out hrl.out hs.1 hs.2 (by omega) hfst.out.1 hfst.out.2.1 hfst.out.2.2)
            have hT1 := Lib.hid (fun hs : ¬ (a < i ∧ i < mid) => merge_triv (by omega) (by omega) hs hfst.out.1 hfst.out.2.1)
            clear hfst
            by_cases hr1 : a < i ∧ i < mid
            · have hg3 : decide ((a : Int) < (i : Int)) = true := by simp; omega
              have hg4 : decide ((i : Int) < (mid : Int)) = true := by simp; omega
              have HR' := Lib.hid (HM1.out hr1)
              obtain ⟨hA3, hA4⟩ := hr1
              clear HM1 hT1
              go_wp2_with fail
              refine HR'.out.mono ?_
              rintro e' w3 ⟨rfl, l2, hM, hr3, hF3'⟩
              have hF3 := hF2.trans hF3'
              clear hr2 hF2 hF3' HR' hg3 hg4
              have hsn := Lib.hid (hsnd.out l2 hM)
              have hlw := Lib.hid (fun l3 hN => hlaw.out l2 l3 hM hN)
              have HM2 := Lib.hid (fun hs : mid < e ∧ e < b => IH.out g cap mid e b l2 w3 (by omega) hr3 (hsn.out.1.trans hn'.out) hs.1 hs.2 (by omega) hsn.out.2.1 hsn.out.2.2.1 hsn.out.2.2.2)
              have hT2 := Lib.hid (fun hs : ¬ (mid < e ∧ e < b) => merge_triv (by omega) (by omega) hs hsn.out.2.1 hsn.out.2.2.1)
              have hr3' := Lib.hid hr3
              clear hsnd hlaw hsn hM IH hrl hr3
              by_cases hr1 : mid < e ∧ e < b
              · have hg5 : decide ((mid : Int) < (e : Int)) = true := by simp; omega
                have hg6 : decide ((e : Int) < (b : Int)) = true := by simp; omega
                have HR' := Lib.hid (HM2.out hr1)
                obtain ⟨hA5, hA6⟩ := hr1
                clear HM2 hT2
                go_wp2_with fail
                refine HR'.out.mono ?_
                rintro e' w4 ⟨rfl, l3, hM3, hr4, hF4⟩
                go_wp2_with fail
                go_end0
                exact ⟨rfl, l3, hlw.out l3 hM3, hr4, hF3.trans hF4⟩
              · have hn1 := Lib.hid (hT2.out hr1)
                clear HM2 hT2
                by_cases hq2 : mid < e
                · have hg5 : decide ((mid : Int) < (e : Int)) = true := by simp; omega
                  have hg6 : decide ((e : Int) < (b : Int)) = false := by simp; omega
                  have hA6 : ¬ e < b := fun h => hr1 ⟨hq2, h⟩
                  clear hr1
                  go_wp2_with fail
                  go_end0
                  exact ⟨rfl, l2, hlw.out l2 hn1.out, hr3'.out, hF3⟩
                · have hg5 : decide ((mid : Int) < (e : Int)) = false := by simp; omega
                  clear hr1
                  go_wp2_with fail
                  go_end0
                  exact ⟨rfl, l2, hlw.out l2 hn1.out, hr3'.out, hF3⟩
            · have hM := hT1.out hr1
              obtain ⟨l2, hl2⟩ : ∃ l2, l2 = l1 := ⟨_, rfl⟩
              obtain ⟨w3, hw3⟩ : ∃ w3, w3 = w2 := ⟨_, rfl⟩
              subst hw3
              have hr3 : RowB w3 g t sz l2 := by rw [hl2]; exact hr2.out
              have hM' : MergeTo a mid l1 l2 := by rw [hl2]; exact hM
              replace hM := hM'
              have hF3 := hF2
              clear hM' hl2 hr2 hF2 HM1 hT1
              by_cases hq3 : a < i
              · have hg3 : decide ((a : Int) < (i : Int)) = true := by simp; omega
                have hg4 : decide ((i : Int) < (mid : Int)) = false := by simp; omega
                have hA4 : ¬ i < mid := fun h => hr1 ⟨hq3, h⟩
                clear hr1
                have hsn := Lib.hid (hsnd.out l2 hM)
                have hlw := Lib.hid (fun l3 hN => hlaw.out l2 l3 hM hN)
                have HM2 := Lib.hid (fun hs : mid < e ∧ e < b => IH.out g cap mid e b l2 w3 (by omega) hr3 (hsn.out.1.trans hn'.out) hs.1 hs.2 (by omega) hsn.out.2.1 hsn.out.2.2.1 hsn.out.2.2.2)
                have hT2 := Lib.hid (fun hs : ¬ (mid < e ∧ e < b) => merge_triv (by omega) (by omega) hs hsn.out.2.1 hsn.out.2.2.1)
                have hr3' := Lib.hid hr3
                clear hsnd hlaw hsn hM IH hrl hr3
                by_cases hr1 : mid < e ∧ e < b
                · have hg5 : decide ((mid : Int) < (e : Int)) = true := by simp; omega
                  have hg6 : decide ((e : Int) < (b : Int)) = true := by simp; omega
                  have HR' := Lib.hid (HM2.out hr1)
                  obtain ⟨hA5, hA6⟩ := hr1
                  clear HM2 hT2
                  go_wp2_with fail
                  refine HR'.out.mono ?_
                  rintro e' w4 ⟨rfl, l3, hM3, hr4, hF4⟩
                  go_wp2_with fail
                  go_end0
                  exact ⟨rfl, l3, hlw.out l3 hM3, hr4, hF3.trans hF4⟩
                · have hn1 := Lib.hid (hT2.out hr1)
                  clear HM2 hT2
                  by_cases hq2 : mid < e
                  · have hg5 : decide ((mid : Int) < (e : Int)) = true := by simp; omega
                    have hg6 : decide ((e : Int) < (b : Int)) = false := by simp; omega
                    have hA6 : ¬ e < b := fun h => hr1 ⟨hq2, h⟩
                    clear hr1
                    go_wp2_with fail
                    go_end0
                    exact ⟨rfl, l2, hlw.out l2 hn1.out, hr3'.out, hF3⟩
                  · have hg5 : decide ((mid : Int) < (e : Int)) = false := by simp; omega
                    clear hr1
                    go_wp2_with fail
                    go_end0
                    exact ⟨rfl, l2, hlw.out l2 hn1.out, hr3'.out, hF3⟩
              · have hg3 : decide ((a : Int) < (i : Int)) = false := by simp; omega
                clear hr1
                have hsn := Lib.hid (hsnd.out l2 hM)
                have hlw := Lib.hid (fun l3 hN => hlaw.out l2 l3 hM hN)
                have HM2 := Lib.hid (fun hs : mid < e ∧ e < b => IH.out g cap mid e b l2 w3 (by omega) hr3 (hsn.out.1.trans hn'.out) hs.1 hs.2 (by omega) hsn.out.2.1 hsn.out.2.2.1 hsn.out.2.2.2)
                have hT2 := Lib.hid (fun hs : ¬ (mid < e ∧ e < b) => merge_triv (by omega) (by omega) hs hsn.out.2.1 hsn.out.2.2.1)
                have hr3' := Lib.hid hr3
                clear hsnd hlaw hsn hM IH hrl hr3
                by_cases hr1 : mid < e ∧ e < b
                · have hg5 : decide ((mid : Int) < (e : Int)) = true := by simp; omega
                  have hg6 : decide ((e : Int) < (b : Int)) = true := by simp; omega
                  have HR' := Lib.hid (HM2.out hr1)
                  obtain ⟨hA5, hA6⟩ := hr1
                  clear HM2 hT2
                  go_wp2_with fail
                  refine HR'.out.mono ?_
                  rintro e' w4 ⟨rfl, l3, hM3, hr4, hF4⟩
                  go_wp2_with fail
                  go_end0
                  exact ⟨rfl, l3, hlw.out l3 hM3, hr4, hF3.trans hF4⟩
                · have hn1 := Lib.hid (hT2.out hr1)
                  clear HM2 hT2
                  by_cases hq2 : mid < e
                  · have hg5 : decide ((mid : Int) < (e : Int)) = true := by simp; omega
                    have hg6 : decide ((e : Int) < (b : Int)) = false := by simp; omega
                    have hA6 : ¬ e < b := fun h => hr1 ⟨hq2, h⟩
                    clear hr1
                    go_wp2_with fail
                    go_end0
                    exact ⟨rfl, l2, hlw.out l2 hn1.out, hr3'.out, hF3⟩
                  · have hg5 : decide ((mid : Int) < (e : Int)) = false := by simp; omega
                    clear hr1
                    go_wp2_with fail
                    go_end0
                    exact ⟨rfl, l2, hlw.out l2 hn1.out, hr3'.out, hF3⟩
          · have hl1 := Lib.hid (hnr.out hr1)
            obtain ⟨w2, hw2⟩ : ∃ w2, w2 = wr := ⟨_, rfl⟩
            subst hw2
            have hr2 : Hid (RowB w2 g t sz l1) := by rw [hl1.out]; exact hrow
            have hF2 := hF0
            clear hF0 HR hnr hrow hl1
            by_cases hq1 : i < m
            · have hg1 : decide ((i : Int) < (m : Int)) = true := by simp; omega
              have hg2 : decide ((m : Int) < (e : Int)) = false := by simp; omega
              have hA2 : ¬ m < e := fun h => hr1 ⟨hq1, h⟩
              clear hr1
              have HM1 := Lib.hid (fun hs : a < i ∧ i < mid => IH.out g cap a i mid l1 w2 (by omega) hr2.out hrl.out hs.1 hs.2 (by omega) hfst.out.1 hfst.out.2.1 hfst.out.2.2)
              have hT1 := Lib.hid (fun hs : ¬ (a < i ∧ i < mid) => merge_triv (by omega) (by omega) hs hfst.out.1 hfst.out.2.1)
              clear hfst
              by_cases hr1 : a < i ∧ i < mid
              · have hg3 : decide ((a : Int) < (i : Int)) = true := by simp; omega
                have hg4 : decide ((i : Int) < (mid : Int)) = true := by simp; omega
                have HR' := Lib.hid (HM1.out hr1)
                obtain ⟨hA3, hA4⟩ := hr1
                clear HM1 hT1
                go_wp2_with fail
                refine HR'.out.mono ?_
                rintro e' w3 ⟨rfl, l2, hM, hr3, hF3'⟩
                have hF3 := hF2.trans hF3'
                clear hr2 hF2 hF3' HR' hg3 hg4
                have hsn := Lib.hid (hsnd.out l2 hM)
                have hlw := Lib.hid (fun l3 hN => hlaw.out l2 l3 hM hN)
                have HM2 := Lib.hid (fun hs : mid < e ∧ e < b => IH.out g cap mid e b l2 w3 (by omega) hr3 (hsn.out.1.trans hn'.out) hs.1 hs.2 (by omega) hsn.out.2.1 hsn.out.2.2.1 hsn.out.2.2.2)
                have hT2 := Lib.hid (fun hs : ¬ (mid < e ∧ e < b) => merge_triv (by omega) (by omega) hs hsn.out.2.1 hsn.out.2.2.1)
                have hr3' := Lib.hid hr3
                clear hsnd hlaw hsn hM IH hrl hr3
                by_cases hr1 : mid < e ∧ e < b
                · have hg5 : decide ((mid : Int) < (e : Int)) = true := by simp; omega
                  have hg6 : decide ((e : Int) < (b : Int)) = true := by simp; omega
                  have HR' := Lib.hid (HM2.out hr1)
                  obtain ⟨hA5, hA6⟩ := hr1
                  clear HM2 hT2
                  go_wp2_with fail
                  refine HR'.out.mono ?_
                  rintro e' w4 ⟨rfl, l3, hM3, hr4, hF4⟩
                  go_wp2_with fail
                  go_end0
                  exact ⟨rfl, l3, hlw.out l3 hM3, hr4, hF3.trans hF4⟩
                · have hn1 := Lib.hid (hT2.out hr1)
                  clear HM2 hT2
                  by_cases hq2 : mid < e
                  · have hg5 : decide ((mid : Int) < (e : Int)) = true := by simp; omega
                    have hg6 : decide ((e : Int) < (b : Int)) = false := by simp; omega
                    have hA6 : ¬ e < b := fun h => hr1 ⟨hq2, h⟩
                    clear hr1
                    go_wp2_with fail
                    go_end0
                    exact ⟨rfl, l2, hlw.out l2 hn1.out, hr3'.out, hF3⟩
                  · have hg5 : decide ((mid : Int) < (e : Int)) = false := by simp; omega
                    clear hr1
                    go_wp2_with fail
                    go_end0
                    exact ⟨rfl, l2, hlw.out l2 hn1.out, hr3'.out, hF3⟩
              · have hM := hT1.out hr1
                obtain ⟨l2, hl2⟩ : ∃ l2, l2 = l1 := ⟨_, rfl⟩
                obtain ⟨w3, hw3⟩ : ∃ w3, w3 = w2 := ⟨_, rfl⟩
                subst hw3
                have hr3 : RowB w3 g t sz l2 := by rw [hl2]; exact hr2.out
                have hM' : MergeTo a mid l1 l2 := by rw [hl2]; exact hM
                replace hM := hM'
                have hF3 := hF2
                clear hM' hl2 hr2 hF2 HM1 hT1
                by_cases hq3 : a < i
                · have hg3 : decide ((a : Int) < (i : Int)) = true := by simp; omega
                  have hg4 : decide ((i : Int) < (mid : Int)) = false := by simp; omega
                  have hA4 : ¬ i < mid := fun h => hr1 ⟨hq3, h⟩
                  clear hr1
                  have hsn := Lib.hid (hsnd.out l2 hM)
                  have hlw := Lib.hid (fun l3 hN => hlaw.out l2 l3 hM hN)
                  have HM2 := Lib.hid (fun hs : mid < e ∧ e < b => IH.out g cap mid e b l2 w3 (by omega) hr3 (hsn.out.1.trans hn'.out) hs.1 hs.2 (by omega) hsn.out.2.1 hsn.out.2.2.1 hsn.out.2.2.2)
                  have hT2 := Lib.hid (fun hs : ¬ (mid < e ∧ e < b) => merge_triv (by omega) (by omega) hs hsn.out.2.1 hsn.out.2.2.1)
                  have hr3' := Lib.hid hr3
                  clear hsnd hlaw hsn hM IH hrl hr3
                  by_cases hr1 : mid < e ∧ e < b
                  · have hg5 : decide ((mid : Int) < (e : Int)) = true := by simp; omega
                    have hg6 : decide ((e : Int) < (b : Int)) = true := by simp; omega
                    have HR' := Lib.hid (HM2.out hr1)
                    obtain ⟨hA5, hA6⟩ := hr1
                    clear HM2 hT2
                    go_wp2_with fail
                    refine HR'.out.mono ?_
                    rintro e' w4 ⟨rfl, l3, hM3, hr4, hF4⟩
                    go_wp2_with fail
                    go_end0
                    exact ⟨rfl, l3, hlw.out l3 hM3, hr4, hF3.trans hF4⟩
                  · have hn1 := Lib.hid (hT2.out hr1)
                    clear HM2 hT2
                    by_cases hq2 : mid < e
                    · have hg5 : decide ((mid : Int) < (e : Int)) = true := by simp; omega
                      have hg6 : decide ((e : Int) < (b : Int)) = false := by simp; omega
                      have hA6 : ¬ e < b := fun h => hr1 ⟨hq2, h⟩
                      clear hr1
                      go_wp2_with fail
                      go_end0
                      exact ⟨rfl, l2, hlw.out l2 hn1.out, hr3'.out, hF3⟩
                    · have hg5 : decide ((mid : Int) < (e : Int)) = false := by simp; omega
                      clear hr1
                      go_wp2_with fail
                      go_end0
                      exact ⟨rfl, l2, hlw.out l2 hn1.out, hr3'.out, hF3⟩
                · have hg3 : decide ((a : Int) < (i : Int)) = false := by simp; omega
                  clear hr1
                  have hsn := Lib.hid (hsnd.out l2 hM)
                  have hlw := Lib.hid (fun l3 hN => hlaw.out l2 l3 hM hN)
                  have HM2 := Lib.hid (fun hs : mid < e ∧ e < b => IH.out g cap mid e b l2 w3 (by omega) hr3 (hsn.out.1.trans hn'.out) hs.1 hs.2 (by omega) hsn.out.2.1 hsn.out.2.2.1 hsn.out.2.2.2)
                  have hT2 := Lib.hid (fun hs : ¬ (mid < e ∧ e < b) => merge_triv (by omega) (by omega) hs hsn.out.2.1 hsn.out.2.2.1)
                  have hr3' := Lib.hid hr3
                  clear hsnd hlaw hsn hM IH hrl hr3
                  by_cases hr1 : mid < e ∧ e < b
                  · have hg5 : decide ((mid : Int) < (e : Int)) = true := by simp; omega
                    have hg6 : decide ((e : Int) < (b : Int)) = true := by simp; omega
                    have HR' := Lib.hid (HM2.out hr1)
                    obtain ⟨hA5, hA6⟩ := hr1
                    clear HM2 hT2
                    go_wp2_with fail
                    refine HR'.out.mono ?_
                    rintro e' w4 ⟨rfl, l3, hM3, hr4, hF4⟩
                    go_wp2_with fail
                    go_end0
                    exact ⟨rfl, l3, hlw.out l3 hM3, hr4, hF3.trans hF4⟩
                  · have hn1 := Lib.hid (hT2.out hr1)
                    clear HM2 hT2
                    by_cases hq2 : mid < e
                    · have hg5 : decide ((mid : Int) < (e : Int)) = true := by simp; omega
                      have hg6 : decide ((e : Int) < (b : Int)) = false := by simp; omega
                      have hA6 : ¬ e < b := fun h => hr1 ⟨hq2, h⟩
                      clear hr1
                      go_wp2_with fail
                      go_end0
                      exact ⟨rfl, l2, hlw.out l2 hn1.out, hr3'.out, hF3⟩
                    · have hg5 : decide ((mid : Int) < (e : Int)) = false := by simp; omega
                      clear hr1
                      go_wp2_with fail
                      go_end0
                      exact ⟨rfl, l2, hlw.out l2 hn1.out, hr3'.out, hF3⟩
            · have hg1 : decide ((i : Int) < (m : Int)) = false := by simp; omega
              clear hr1
              have HM1 := Lib.hid (fun hs : a < i ∧ i < mid => IH.out g cap a i mid l1 w2 (by omega) hr2.out hrl.out hs.1 hs.2 (by omega) hfst.out.1 hfst.out.2.1 hfst.out.2.2)
              have hT1 := Lib.hid (fun hs : ¬ (a < i ∧ i < mid) => merge_triv (by omega) (by omega) hs hfst.out.1 hfst.out.2.1)
              clear hfst
              by_cases hr1 : a < i ∧ i < mid
              · have hg3 : decide ((a : Int) < (i : Int)) = true := by simp; omega
                have hg4 : decide ((i : Int) < (mid : Int)) = true := by simp; omega
                have HR' := Lib.hid (HM1.out hr1)
                obtain ⟨hA3, hA4⟩ := hr1
                clear HM1 hT1
                go_wp2_with fail
                refine HR'.out.mono ?_
                rintro e' w3 ⟨rfl, l2, hM, hr3, hF3'⟩
                have hF3 := hF2.trans hF3'
                clear hr2 hF2 hF3' HR' hg3 hg4
                have hsn := Lib.hid (hsnd.out l2 hM)
                have hlw := Lib.hid (fun l3 hN => hlaw.out l2 l3 hM hN)
                have HM2 := Lib.hid (fun hs : mid < e ∧ e < b => IH.out g cap mid e b l2 w3 (by omega) hr3 (hsn.out.1.trans hn'.out) hs.1 hs.2 (by omega) hsn.out.2.1 hsn.out.2.2.1 hsn.out.2.2.2)
                have hT2 := Lib.hid (fun hs : ¬ (mid < e ∧ e < b) => merge_triv (by omega) (by omega) hs hsn.out.2.1 hsn.out.2.2.1)
                have hr3' := Lib.hid hr3
                clear hsnd hlaw hsn hM IH hrl hr3
                by_cases hr1 : mid < e ∧ e < b
                · have hg5 : decide ((mid : Int) < (e : Int)) = true := by simp; omega
                  have hg6 : decide ((e : Int) < (b : Int)) = true := by simp; omega
                  have HR' := Lib.hid (HM2.out hr1)
                  obtain ⟨hA5, hA6⟩ := hr1
                  clear HM2 hT2
                  go_wp2_with fail
                  refine HR'.out.mono ?_
                  rintro e' w4 ⟨rfl, l3, hM3, hr4, hF4⟩
                  go_wp2_with fail
                  go_end0
                  exact ⟨rfl, l3, hlw.out l3 hM3, hr4, hF3.trans hF4⟩
                · have hn1 := Lib.hid (hT2.out hr1)
                  clear HM2 hT2
                  by_cases hq2 : mid < e
                  · have hg5 : decide ((mid : Int) < (e : Int)) = true := by simp; omega
                    have hg6 : decide ((e : Int) < (b : Int)) = false := by simp; omega
                    have hA6 : ¬ e < b := fun h => hr1 ⟨hq2, h⟩
                    clear hr1
                    go_wp2_with fail
                    go_end0
                    exact ⟨rfl, l2, hlw.out l2 hn1.out, hr3'.out, hF3⟩
                  · have hg5 : decide ((mid : Int) < (e : Int)) = false := by simp; omega
                    clear hr1
                    go_wp2_with fail
                    go_end0
                    exact ⟨rfl, l2, hlw.out l2 hn1.out, hr3'.out, hF3⟩
              · have hM := hT1.out hr1
                obtain ⟨l2, hl2⟩ : ∃ l2, l2 = l1 := ⟨_, rfl⟩
                obtain ⟨w3, hw3⟩ : ∃ w3, w3 = w2 := ⟨_, rfl⟩
                subst hw3
                have hr3 : RowB w3 g t sz l2 := by rw [hl2]; exact hr2.out
                have hM' : MergeTo a mid l1 l2 := by rw [hl2]; exact hM
                replace hM := hM'
                have hF3 := hF2
                clear hM' hl2 hr2 hF2 HM1 hT1
                by_cases hq3 : a < i
                · have hg3 : decide ((a : Int) < (i : Int)) = true := by simp; omega
                  have hg4 : decide ((i : Int) < (mid : Int)) = false := by simp; omega
                  have hA4 : ¬ i < mid := fun h => hr1 ⟨hq3, h⟩
                  clear hr1
                  have hsn := Lib.hid (hsnd.out l2 hM)
                  have hlw := Lib.hid (fun l3 hN => hlaw.out l2 l3 hM hN)
                  have HM2 := Lib.hid (fun hs : mid < e ∧ e < b => IH.out g cap mid e b l2 w3 (by omega) hr3 (hsn.out.1.trans hn'.out) hs.1 hs.2 (by omega) hsn.out.2.1 hsn.out.2.2.1 hsn.out.2.2.2)
                  have hT2 := Lib.hid (fun hs : ¬ (mid < e ∧ e < b) => merge_triv (by omega) (by omega) hs hsn.out.2.1 hsn.out.2.2.1)
                  have hr3' := Lib.hid hr3
                  clear hsnd hlaw hsn hM IH hrl hr3
                  by_cases hr1 : mid < e ∧ e < b
                  · have hg5 : decide ((mid : Int) < (e : Int)) = true := by simp; omega
                    have hg6 : decide ((e : Int) < (b : Int)) = true := by simp; omega
                    have HR' := Lib.hid (HM2.out hr1)
                    obtain ⟨hA5, hA6⟩ := hr1
                    clear HM2 hT2
                    go_wp2_with fail
                    refine HR'.out.mono ?_
                    rintro e' w4 ⟨rfl, l3, hM3, hr4, hF4⟩
                    go_wp2_with fail
                    go_end0
                    exact ⟨rfl, l3, hlw.out l3 hM3, hr4, hF3.trans hF4⟩
                  · have hn1 := Lib.hid (hT2.out hr1)
                    clear HM2 hT2
                    by_cases hq2 : mid < e
                    · have hg5 : decide ((mid : Int) < (e : Int)) = true := by simp; omega
                      have hg6 : decide ((e : Int) < (b : Int)) = false := by simp; omega
                      have hA6 : ¬ e < b := fun h => hr1 ⟨hq2, h⟩
                      clear hr1
                      go_wp2_with fail
                      go_end0
                      exact ⟨rfl, l2, hlw.out l2 hn1.out, hr3'.out, hF3⟩
                    · have hg5 : decide ((mid : Int) < (e : Int)) = false := by simp; omega
                      clear hr1
                      go_wp2_with fail
                      go_end0
                      exact ⟨rfl, l2, hlw.out l2 hn1.out, hr3'.out, hF3⟩
                · have hg3 : decide ((a : Int) < (i : Int)) = false := by simp; omega
                  clear hr1
                  have hsn := Lib.hid (hsnd.out l2 hM)
                  have hlw := Lib.hid (fun l3 hN => hlaw.out l2 l3 hM hN)
                  have HM2 := Lib.hid (fun hs : mid < e ∧ e < b => IH.out g cap mid e b l2 w3 (by omega) hr3 (hsn.out.1.trans hn'.out) hs.1 hs.2 (by omega) hsn.out.2.1 hsn.out.2.2.1 hsn.out.2.2.2)
                  have hT2 := Lib.hid (fun hs : ¬ (mid < e ∧ e < b) => merge_triv (by omega) (by omega) hs hsn.out.2.1 hsn.out.2.2.1)
                  have hr3' := Lib.hid hr3
                  clear hsnd hlaw hsn hM IH hrl hr3
                  by_cases hr1 : mid < e ∧ e < b
                  · have hg5 : decide ((mid : Int) < (e : Int)) = true := by simp; omega
                    have hg6 : decide ((e : Int) < (b : Int)) = true := by simp; omega
                    have HR' := Lib.hid (HM2.out hr1)
                    obtain ⟨hA5, hA6⟩ := hr1
                    clear HM2 hT2
                    go_wp2_with fail
                    refine HR'.out.mono ?_
                    rintro e' w4 ⟨rfl, l3, hM3, hr4, hF4⟩
                    go_wp2_with fail
                    go_end0
                    exact ⟨rfl, l3, hlw.out l3 hM3, hr4, hF3.trans hF4⟩
                  · have hn1 := Lib.hid (hT2.out hr1)
                    clear HM2 hT2
                    by_cases hq2 : mid < e
                    · have hg5 : decide ((mid : Int) < (e : Int)) = true := by simp; omega
                      have hg6 : decide ((e : Int) < (b : Int)) = false := by simp; omega
                      have hA6 : ¬ e < b := fun h => hr1 ⟨hq2, h⟩
                      clear hr1
                      go_wp2_with fail
                      go_end0
                      exact ⟨rfl, l2, hlw.out l2 hn1.out, hr3'.out, hF3⟩
                    · have hg5 : decide ((mid : Int) < (e : Int)) = false := by simp; omega
                      clear hr1
                      go_wp2_with fail
                      go_end0
                      exact ⟨rfl, l2, hlw.out l2 hn1.out, hr3'.out, hF3⟩
    · have hg : decide ((mid : Int) < (m : Int)) = false := by simpa using hmm
      go_enter Tryz.func238, Tryz.ntmps238
      as_aux_lemma =>
      go_wp2_with fail
      go_loopw [20, 21] (fun u v wr => ∃ (i j : Nat), a ≤ i ∧ i ≤ j ∧ j ≤ m ∧ u = .int .i64 i ∧ v = .int .i64 j ∧ Hid ((a < i → ¬ lvd l (nn - i) < lvd l (i - 1)) ∧ (j < m → lvd l (nn - 1 - j) < lvd l j)) ∧ Below w.heap.size w wr) (fun u v _ => (intOf v).toNat - (intOf u).toNat)
      case atStart => exact ⟨a, m, by omega, by omega, by omega, rfl, rfl, Lib.hid ⟨fun h => absurd h (Nat.lt_irrefl _), fun h => absurd h (Nat.lt_irrefl _)⟩, Below.refl _ _⟩
      case round =>
        obtain ⟨i, j, hi, hij, hjb, rfl, rfl, hf, hB⟩ := hrel
        by_cases hlt : i < j
        · have h1 : decide ((i : Int) < (j : Int)) = true := by simpa using hlt
          obtain ⟨h, hh⟩ : ∃ h : Nat, ((i : Int) + (j : Int)) / 2 = (h : Int) := ⟨(i + j) / 2, by omega⟩
          have hih : i ≤ h := by omega
          have hhj : h < j := by omega
          have hhn : (h : Int) < (n : Int) := by omega
          obtain ⟨q, hq⟩ : ∃ q, nn - 1 - h = q := ⟨_, rfl⟩
          have hqw : IntKind.i64.wrap ((n1 : Int) - (h : Int)) = (q : Int) := by rw [IntKind.wrap_i64]; omega
          have hqn : (q : Int) < (n : Int) := by omega
          have hkr := hk'.out.call hB
          obtain ⟨x0, x1, x2, x3⟩ := hl'.out.at_ q (by have := hn'.out; omega)
          obtain ⟨y0, y1, y2, y3⟩ := hl'.out.at_ h (by have := hn'.out; omega)
          rw [← hkr.cell] at x0 x1 x2 x3 y0 y1 y2 y3
          have hlq := Lib.hid (show lvd l q = (l.getD q gp0).2.2.1 from rfl)
          have hlh := Lib.hid (show lvd l h = (l.getD h gp0).2.2.1 from rfl)
          generalize l.getD q gp0 = x at *
          generalize l.getD h gp0 = y at *
          obtain ⟨xn, xc, xl, xh⟩ := x
          obtain ⟨yn, yc, yl, yh⟩ := y
          have z0 := fun z : Ext wr => z.cell x0
          have z1 := fun z : Ext wr => z.cell x1
          have z2 := fun z : Ext wr => z.cell x2
          have z3 := fun z : Ext wr => z.cell x3
          have v0 := fun z : Ext wr => z.cell y0
          have v1 := fun z : Ext wr => z.cell y1
          have v2 := fun z : Ext wr => z.cell y2
          have v3 := fun z : Ext wr => z.cell y3
          have HC := Lib.hid (fun z : Ext wr => Ext.call (x := z) (choose1_below (xn, xc, xl, xh) (yn, yc, yl, yh) z.w))
          simp only at HC
          have hcl := cmpI_lt xl yl
          generalize cmpI xl yl = c at *
          by_cases hc : xl < yl
          · have hc2 : decide (c < 0) = true := by rw [hcl]; simpa using hc
            clear hcl
            have hf2 := Lib.hid (And.intro hf.out.1 (fun _ : h < m => show lvd l (nn - 1 - h) < lvd l h by rw [hq, hlh.out, hlq.out]; exact hc))
            go_upto_region 35 with fail
            refine region_ext (by kernel_rfl) (by kernel_rfl) ?_
            repeat (go_big_quiet_step ((go_at_call 110; exact HC.out _)))
            refine wpQuiet_nil ?_
            rintro w8 ⟨⟨_, hw8⟩, rfl⟩
            clear hf hc
            go_wp2_with fail
            go_roundw
            case rel => exact ⟨i, h, hi, hih, by omega, rfl, rfl, hf2, hB.trans (hw8.mono hB.size)⟩
            case measure => simp [intOf]; omega
          · have hc2 : decide (c < 0) = false := by rw [hcl]; simpa using hc
            clear hcl
            have hf2 := Lib.hid (And.intro (fun _ : a < h + 1 => show ¬ lvd l (nn - (h + 1)) < lvd l (h + 1 - 1) by rw [show nn - (h + 1) = q by omega, show h + 1 - 1 = h by omega, hlh.out, hlq.out]; exact hc) hf.out.2)
            go_upto_region 35 with fail
            refine region_ext (by kernel_rfl) (by kernel_rfl) ?_
            repeat (go_big_quiet_step ((go_at_call 110; exact HC.out _)))
            refine wpQuiet_nil ?_
            rintro w8 ⟨⟨_, hw8⟩, rfl⟩
            clear hf hc
            go_wp2_with fail
            go_roundw
            case rel => exact ⟨h + 1, j, by omega, by omega, hjb, by go_num, rfl, hf2, hB.trans (hw8.mono hB.size)⟩
            case measure => simp [intOf]; omega
        · have h1 : decide ((i : Int) < (j : Int)) = false := by simpa using hlt
          obtain rfl : i = j := by omega
          obtain ⟨e, he⟩ : ∃ e, nn - i = e := ⟨_, rfl⟩
          have hwe : IntKind.i64.wrap ((nn : Int) - (i : Int)) = (e : Int) := by rw [IntKind.wrap_i64]; omega
          have hmid : mid = i + (e - m) := by omega
          have g1 : a < i → e < b → ¬ lvd l e < lvd l (i - 1) := fun ha hb => by rw [← he]; exact hf.out.1 (by omega)
          have g2 : i < m → m < e → lvd l (e - 1) < lvd l i := fun ha hb => by
            have := hf.out.2 (by omega)
            rwa [show nn - 1 - i = e - 1 by omega] at this
          have hlaw := Lib.hid (fun l2 l3 hM hN => sym_law (l := l) (l2 := l2) (l3 := l3) (a := a) (s := i) (m := m) (e := e) (b := b) (mid := mid) (by omega) (by omega) (by omega) (by omega) (by have := hn'.out; omega) hmid hXYT.out.1 hXYT.out.2.1 hXYT.out.2.2 g1 g2 hM hN)
          have hfst := Lib.hid (sym_fst (l := l) (a := a) (s := i) (m := m) (e := e) (b := b) (mid := mid) (by omega) (by omega) (by omega) (by omega) (by have := hn'.out; omega) hmid hXYT.out.1 hXYT.out.2.1 hXYT.out.2.2)
          have hsnd := Lib.hid (fun l2 hM => sym_snd (l := l) (l2 := l2) (a := a) (s := i) (m := m) (e := e) (b := b) (mid := mid) (by omega) (by omega) (by omega) (by omega) (by have := hn'.out; omega) hmid hXYT.out.1 hXYT.out.2.1 hXYT.out.2.2 hM)
          have hrl : Hid ((rotL i m e l).length = n) := Lib.hid ((rotL_len (by omega) (by omega) (by have := hn'.out; omega)).trans hn'.out)
          have hrow := Lib.hid (hr'.out.call hB)
          have hF0 : Far (fun k => k = g) w wr := .of_below hB
          have hnr := Lib.hid (fun hr1 => rotL_none (l := l) (s := i) (m := m) (e := e) (by omega) (by omega) hr1)
          have HR := Lib.hid (fun hr1 : i < m ∧ m < e => rotate_any g n cap i m e t sz l wr hrow.out hn'.out hr1.1 hr1.2 (by omega) hn64)
          clear g1 g2 hf hXYT hr' hl' hk' hB hmid
          generalize rotL i m e l = l1 at *
          by_cases hr1 : i < m ∧ m < e
          · have hg1 : decide ((i : Int) < (m : Int)) = true := by simp; omega
            have hg2 : decide ((m : Int) < (e : Int)) = true := by simp; omega
            have HR' := Lib.hid (HR.out hr1)
            obtain ⟨hA1, hA2⟩ := hr1
            clear HR hnr hrow
            go_wp2_with fail
            refine HR'.out.mono ?_
            rintro e' w2 ⟨rfl, hr2', hF2'⟩
            have hr2 := Lib.hid hr2'
            have hF2 := hF0.trans hF2'
            clear hF0 hr2' hF2' HR' hg1 hg2
            have HM1 := Lib.hid (fun hs : a < i ∧ i < mid => IH.out g cap a i mid l1 w2 (by omega) hr2.out hrl.out hs.1 hs.2 (by omega) hfst.out.1 hfst.out.2.1 hfst.out.2.2)
            have hT1 := Lib.hid (fun hs : ¬ (a < i ∧ i < mid) => merge_triv (by omega) (by omega) hs hfst.out.1 hfst.out.2.1)
            clear hfst
            by_cases hr1 : a < i ∧ i < mid
            · have hg3 : decide ((a : Int) < (i : Int)) = true := by simp; omega
              have hg4 : decide ((i : Int) < (mid : Int)) = true := by simp; omega
              have HR' := Lib.hid (HM1.out hr1)
              obtain ⟨hA3, hA4⟩ := hr1
              clear HM1 hT1
              go_wp2_with fail
              refine HR'.out.mono ?_
              rintro e' w3 ⟨rfl, l2, hM, hr3, hF3'⟩
              have hF3 := hF2.trans hF3'
              clear hr2 hF2 hF3' HR' hg3 hg4
              have hsn := Lib.hid (hsnd.out l2 hM)
              have hlw := Lib.hid (fun l3 hN => hlaw.out l2 l3 hM hN)
              have HM2 := Lib.hid (fun hs : mid < e ∧ e < b => IH.out g cap mid e b l2 w3 (by omega) hr3 (hsn.out.1.trans hn'.out) hs.1 hs.2 (by omega) hsn.out.2.1 hsn.out.2.2.1 hsn.out.2.2.2)
              have hT2 := Lib.hid (fun hs : ¬ (mid < e ∧ e < b) => merge_triv (by omega) (by omega) hs hsn.out.2.1 hsn.out.2.2.1)
              have hr3' := Lib.hid hr3
              clear hsnd hlaw hsn hM IH hrl hr3
              by_cases hr1 : mid < e ∧ e < b
              · have hg5 : decide ((mid : Int) < (e : Int)) = true := by simp; omega
                have hg6 : decide ((e : Int) < (b : Int)) = true := by simp; omega
                have HR' := Lib.hid (HM2.out hr1)
                obtain ⟨hA5, hA6⟩ := hr1
                clear HM2 hT2
                go_wp2_with fail
                refine HR'.out.mono ?_
                rintro e' w4 ⟨rfl, l3, hM3, hr4, hF4⟩
                go_wp2_with fail
                go_end0
                exact ⟨rfl, l3, hlw.out l3 hM3, hr4, hF3.trans hF4⟩
              · have hn1 := Lib.hid (hT2.out hr1)
                clear HM2 hT2
                by_cases hq2 : mid < e
                · have hg5 : decide ((mid : Int) < (e : Int)) = true := by simp; omega
                  have hg6 : decide ((e : Int) < (b : Int)) = false := by simp; omega
                  have hA6 : ¬ e < b := fun h => hr1 ⟨hq2, h⟩
                  clear hr1
                  go_wp2_with fail
                  go_end0
                  exact ⟨rfl, l2, hlw.out l2 hn1.out, hr3'.out, hF3⟩
                · have hg5 : decide ((mid : Int) < (e : Int)) = false := by simp; omega
                  clear hr1
                  go_wp2_with fail
                  go_end0
                  exact ⟨rfl, l2, hlw.out l2 hn1.out, hr3'.out, hF3⟩
            · have hM := hT1.out hr1
              obtain ⟨l2, hl2⟩ : ∃ l2, l2 = l1 := ⟨_, rfl⟩
              obtain ⟨w3, hw3⟩ : ∃ w3, w3 = w2 := ⟨_, rfl⟩
              subst hw3
              have hr3 : RowB w3 g t sz l2 := by rw [hl2]; exact hr2.out
              have hM' : MergeTo a mid l1 l2 := by rw [hl2]; exact hM
              replace hM := hM'
              have hF3 := hF2
              clear hM' hl2 hr2 hF2 HM1 hT1
              by_cases hq3 : a < i
              · have hg3 : decide ((a : Int) < (i : Int)) = true := by simp; omega
                have hg4 : decide ((i : Int) < (mid : Int)) = false := by simp; omega
                have hA4 : ¬ i < mid := fun h => hr1 ⟨hq3, h⟩
                clear hr1
                have hsn := Lib.hid (hsnd.out l2 hM)
                have hlw := Lib.hid (fun l3 hN => hlaw.out l2 l3 hM hN)
                have HM2 := Lib.hid (fun hs : mid < e ∧ e < b => IH.out g cap mid e b l2 w3 (by omega) hr3 (hsn.out.1.trans hn'.out) hs.1 hs.2 (by omega) hsn.out.2.1 hsn.out.2.2.1 hsn.out.2.2.2)
                have hT2 := Lib.hid (fun hs : ¬ (mid < e ∧ e < b) => merge_triv (by omega) (by omega) hs hsn.out.2.1 hsn.out.2.2.1)
                have hr3' := Lib.hid hr3
                clear hsnd hlaw hsn hM IH hrl hr3
                by_cases hr1 : mid < e ∧ e < b
                · have hg5 : decide ((mid : Int) < (e : Int)) = true := by simp; omega
                  have hg6 : decide ((e : Int) < (b : Int)) = true := by simp; omega
                  have HR' := Lib.hid (HM2.out hr1)
                  obtain ⟨hA5, hA6⟩ := hr1
                  clear HM2 hT2
                  go_wp2_with fail
                  refine HR'.out.mono ?_
                  rintro e' w4 ⟨rfl, l3, hM3, hr4, hF4⟩
                  go_wp2_with fail
                  go_end0
                  exact ⟨rfl, l3, hlw.out l3 hM3, hr4, hF3.trans hF4⟩
                · have hn1 := Lib.hid (hT2.out hr1)
                  clear HM2 hT2
                  by_cases hq2 : mid < e
                  · have hg5 : decide ((mid : Int) < (e : Int)) = true := by simp; omega
                    have hg6 : decide ((e : Int) < (b : Int)) = false := by simp; omega
                    have hA6 : ¬ e < b := fun h => hr1 ⟨hq2, h⟩
                    clear hr1
                    go_wp2_with fail
                    go_end0
                    exact ⟨rfl, l2, hlw.out l2 hn1.out, hr3'.out, hF3⟩
                  · have hg5 : decide ((mid : Int) < (e : Int)) = false := by simp; omega
                    clear hr1
                    go_wp2_with fail
                    go_end0
                    exact ⟨rfl, l2, hlw.out l2 hn1.out, hr3'.out, hF3⟩
              · have hg3 : decide ((a : Int) < (i : Int)) = false := by simp; omega
                clear hr1
                have hsn := Lib.hid (hsnd.out l2 hM)
                have hlw := Lib.hid (fun l3 hN => hlaw.out l2 l3 hM hN)
                have HM2 := Lib.hid (fun hs : mid < e ∧ e < b => IH.out g cap mid e b l2 w3 (by omega) hr3 (hsn.out.1.trans hn'.out) hs.1 hs.2 (by omega) hsn.out.2.1 hsn.out.2.2.1 hsn.out.2.2.2)
                have hT2 := Lib.hid (fun hs : ¬ (mid < e ∧ e < b) => merge_triv (by omega) (by omega) hs hsn.out.2.1 hsn.out.2.2.1)
                have hr3' := Lib.hid hr3
                clear hsnd hlaw hsn hM IH hrl hr3
                by_cases hr1 : mid < e ∧ e < b
                · have hg5 : decide ((mid : Int) < (e : Int)) = true := by simp; omega
                  have hg6 : decide ((e : Int) < (b : Int)) = true := by simp; omega
                  have HR' := Lib.hid (HM2.out hr1)
                  obtain ⟨hA5, hA6⟩ := hr1
                  clear HM2 hT2
                  go_wp2_with fail
                  refine HR'.out.mono ?_
                  rintro e' w4 ⟨rfl, l3, hM3, hr4, hF4⟩
                  go_wp2_with fail
                  go_end0
                  exact ⟨rfl, l3, hlw.out l3 hM3, hr4, hF3.trans hF4⟩
                · have hn1 := Lib.hid (hT2.out hr1)
                  clear HM2 hT2
                  by_cases hq2 : mid < e
                  · have hg5 : decide ((mid : Int) < (e : Int)) = true := by simp; omega
                    have hg6 : decide ((e : Int) < (b : Int)) = false := by simp; omega
                    have hA6 : ¬ e < b := fun h => hr1 ⟨hq2, h⟩
                    clear hr1
                    go_wp2_with fail
                    go_end0
                    exact ⟨rfl, l2, hlw.out l2 hn1.out, hr3'.out, hF3⟩
                  · have hg5 : decide ((mid : Int) < (e : Int)) = false := by simp; omega
                    clear hr1
                    go_wp2_with fail
                    go_end0
                    exact ⟨rfl, l2, hlw.out l2 hn1.out, hr3'.out, hF3⟩
          · have hl1 := Lib.hid (hnr.out hr1)
            obtain ⟨w2, hw2⟩ : ∃ w2, w2 = wr := ⟨_, rfl⟩
            subst hw2
            have hr2 : Hid (RowB w2 g t sz l1) := by rw [hl1.out]; exact hrow
            have hF2 := hF0
            clear hF0 HR hnr hrow hl1
            by_cases hq1 : i < m
            · have hg1 : decide ((i : Int) < (m : Int)) = true := by simp; omega
              have hg2 : decide ((m : Int) < (e : Int)) = false := by simp; omega
              have hA2 : ¬ m < e := fun h => hr1 ⟨hq1, h⟩
              clear hr1
              have HM1 := Lib.hid (fun hs : a < i ∧ i < mid => IH.out g cap a i mid l1 w2 (by omega) hr2.out hrl.out hs.1 hs.2 (by omega) hfst.out.1 hfst.out.2.1 hfst.out.2.2)
              have hT1 := Lib.hid (fun hs : ¬ (a < i ∧ i < mid) => merge_triv (by omega) (by omega) hs hfst.out.1 hfst.out.2.1)
              clear hfst
              by_cases hr1 : a < i ∧ i < mid
              · have hg3 : decide ((a : Int) < (i : Int)) = true := by simp; omega
                have hg4 : decide ((i : Int) < (mid : Int)) = true := by simp; omega
                have HR' := Lib.hid (HM1.out hr1)
                obtain ⟨hA3, hA4⟩ := hr1
                clear HM1 hT1
                go_wp2_with fail
                refine HR'.out.mono ?_
                rintro e' w3 ⟨rfl, l2, hM, hr3, hF3'⟩
                have hF3 := hF2.trans hF3'
                clear hr2 hF2 hF3' HR' hg3 hg4
                have hsn := Lib.hid (hsnd.out l2 hM)
                have hlw := Lib.hid (fun l3 hN => hlaw.out l2 l3 hM hN)
                have HM2 := Lib.hid (fun hs : mid < e ∧ e < b => IH.out g cap mid e b l2 w3 (by omega) hr3 (hsn.out.1.trans hn'.out) hs.1 hs.2 (by omega) hsn.out.2.1 hsn.out.2.2.1 hsn.out.2.2.2)
                have hT2 := Lib.hid (fun hs : ¬ (mid < e ∧ e < b) => merge_triv (by omega) (by omega) hs hsn.out.2.1 hsn.out.2.2.1)
                have hr3' := Lib.hid hr3
                clear hsnd hlaw hsn hM IH hrl hr3
                by_cases hr1 : mid < e ∧ e < b
                · have hg5 : decide ((mid : Int) < (e : Int)) = true := by simp; omega
                  have hg6 : decide ((e : Int) < (b : Int)) = true := by simp; omega
                  have HR' := Lib.hid (HM2.out hr1)
                  obtain ⟨hA5, hA6⟩ := hr1
                  clear HM2 hT2
                  go_wp2_with fail
                  refine HR'.out.mono ?_
                  rintro e' w4 ⟨rfl, l3, hM3, hr4, hF4⟩
                  go_wp2_with fail
                  go_end0
                  exact ⟨rfl, l3, hlw.out l3 hM3, hr4, hF3.trans hF4⟩
                · have hn1 := Lib.hid (hT2.out hr1)
                  clear HM2 hT2
                  by_cases hq2 : mid < e
                  · have hg5 : decide ((mid : Int) < (e : Int)) = true := by simp; omega
                    have hg6 : decide ((e : Int) < (b : Int)) = false := by simp; omega
                    have hA6 : ¬ e < b := fun h => hr1 ⟨hq2, h⟩
                    clear hr1
                    go_wp2_with fail
                    go_end0
                    exact ⟨rfl, l2, hlw.out l2 hn1.out, hr3'.out, hF3⟩
                  · have hg5 : decide ((mid : Int) < (e : Int)) = false := by simp; omega
                    clear hr1
                    go_wp2_with fail
                    go_end0
                    exact ⟨rfl, l2, hlw.out l2 hn1.out, hr3'.out, hF3⟩
              · have hM := hT1.out hr1
                obtain ⟨l2, hl2⟩ : ∃ l2, l2 = l1 := ⟨_, rfl⟩
                obtain ⟨w3, hw3⟩ : ∃ w3, w3 = w2 := ⟨_, rfl⟩
                subst hw3
                have hr3 : RowB w3 g t sz l2 := by rw [hl2]; exact hr2.out
                have hM' : MergeTo a mid l1 l2 := by rw [hl2]; exact hM
                replace hM := hM'
                have hF3 := hF2
                clear hM' hl2 hr2 hF2 HM1 hT1
                by_cases hq3 : a < i
                · have hg3 : decide ((a : Int) < (i : Int)) = true := by simp; omega
                  have hg4 : decide ((i : Int) < (mid : Int)) = false := by simp; omega
                  have hA4 : ¬ i < mid := fun h => hr1 ⟨hq3, h⟩
                  clear hr1
                  have hsn := Lib.hid (hsnd.out l2 hM)
                  have hlw := Lib.hid (fun l3 hN => hlaw.out l2 l3 hM hN)
                  have HM2 := Lib.hid (fun hs : mid < e ∧ e < b => IH.out g cap mid e b l2 w3 (by omega) hr3 (hsn.out.1.trans hn'.out) hs.1 hs.2 (by omega) hsn.out.2.1 hsn.out.2.2.1 hsn.out.2.2.2)
                  have hT2 := Lib.hid (fun hs : ¬ (mid < e ∧ e < b) => merge_triv (by omega) (by omega) hs hsn.out.2.1 hsn.out.2.2.1)
                  have hr3' := Lib.hid hr3
                  clear hsnd hlaw hsn hM IH hrl hr3
                  by_cases hr1 : mid < e ∧ e < b
                  · have hg5 : decide ((mid : Int) < (e : Int)) = true := by simp; omega
                    have hg6 : decide ((e : Int) < (b : Int)) = true := by simp; omega
                    have HR' := Lib.hid (HM2.out hr1)
                    obtain ⟨hA5, hA6⟩ := hr1
                    clear HM2 hT2
                    go_wp2_with fail
                    refine HR'.out.mono ?_
                    rintro e' w4 ⟨rfl, l3, hM3, hr4, hF4⟩
                    go_wp2_with fail
                    go_end0
                    exact ⟨rfl, l3, hlw.out l3 hM3, hr4, hF3.trans hF4⟩
                  · have hn1 := Lib.hid (hT2.out hr1)
                    clear HM2 hT2
                    by_cases hq2 : mid < e
                    · have hg5 : decide ((mid : Int) < (e : Int)) = true := by simp; omega
                      have hg6 : decide ((e : Int) < (b : Int)) = false := by simp; omega
                      have hA6 : ¬ e < b := fun h => hr1 ⟨hq2, h⟩
                      clear hr1
                      go_wp2_with fail
                      go_end0
                      exact ⟨rfl, l2, hlw.out l2 hn1.out, hr3'.out, hF3⟩
                    · have hg5 : decide ((mid : Int) < (e : Int)) = false := by simp; omega
                      clear hr1
                      go_wp2_with fail
                      go_end0
                      exact ⟨rfl, l2, hlw.out l2 hn1.out, hr3'.out, hF3⟩
                · have hg3 : decide ((a : Int) < (i : Int)) = false := by simp; omega
                  clear hr1
                  have hsn := Lib.hid (hsnd.out l2 hM)
                  have hlw := Lib.hid (fun l3 hN => hlaw.out l2 l3 hM hN)
                  have HM2 := Lib.hid (fun hs : mid < e ∧ e < b => IH.out g cap mid e b l2 w3 (by omega) hr3 (hsn.out.1.trans hn'.out) hs.1 hs.2 (by omega) hsn.out.2.1 hsn.out.2.2.1 hsn.out.2.2.2)
                  have hT2 := Lib.hid (fun hs : ¬ (mid < e ∧ e < b) => merge_triv (by omega) (by omega) hs hsn.out.2.1 hsn.out.2.2.1)
                  have hr3' := Lib.hid hr3
                  clear hsnd hlaw hsn hM IH hrl hr3
                  by_cases hr1 : mid < e ∧ e < b
                  · have hg5 : decide ((mid : Int) < (e : Int)) = true := by simp; omega
                    have hg6 : decide ((e : Int) < (b : Int)) = true := by simp; omega
                    have HR' := Lib.hid (HM2.out hr1)
                    obtain ⟨hA5, hA6⟩ := hr1
                    clear HM2 hT2
                    go_wp2_with fail
                    refine HR'.out.mono ?_
                    rintro e' w4 ⟨rfl, l3, hM3, hr4, hF4⟩
                    go_wp2_with fail
                    go_end0
                    exact ⟨rfl, l3, hlw.out l3 hM3, hr4, hF3.trans hF4⟩
                  · have hn1 := Lib.hid (hT2.out hr1)
                    clear HM2 hT2
                    by_cases hq2 : mid < e
                    · have hg5 : decide ((mid : Int) < (e : Int)) = true := by simp; omega
                      have hg6 : decide ((e : Int) < (b : Int)) = false := by simp; omega
                      have hA6 : ¬ e < b := fun h => hr1 ⟨hq2, h⟩
                      clear hr1
                      go_wp2_with fail
                      go_end0
                      exact ⟨rfl, l2, hlw.out l2 hn1.out, hr3'.out, hF3⟩
                    · have hg5 : decide ((mid : Int) < (e : Int)) = false := by simp; omega
                      clear hr1
                      go_wp2_with fail
                      go_end0
                      exact ⟨rfl, l2, hlw.out l2 hn1.out, hr3'.out, hF3⟩
            · have hg1 : decide ((i : Int) < (m : Int)) = false := by simp; omega
              clear hr1
              have HM1 := Lib.hid (fun hs : a < i ∧ i < mid => IH.out g cap a i mid l1 w2 (by omega) hr2.out hrl.out hs.1 hs.2 (by omega) hfst.out.1 hfst.out.2.1 hfst.out.2.2)
              have hT1 := Lib.hid (fun hs : ¬ (a < i ∧ i < mid) => merge_triv (by omega) (by omega) hs hfst.out.1 hfst.out.2.1)
              clear hfst
              by_cases hr1 : a < i ∧ i < mid
              · have hg3 : decide ((a : Int) < (i : Int)) = true := by simp; omega
                have hg4 : decide ((i : Int) < (mid : Int)) = true := by simp; omega
                have HR' := Lib.hid (HM1.out hr1)
                obtain ⟨hA3, hA4⟩ := hr1
                clear HM1 hT1
                go_wp2_with fail
                refine HR'.out.mono ?_
                rintro e' w3 ⟨rfl, l2, hM, hr3, hF3'⟩
                have hF3 := hF2.trans hF3'
                clear hr2 hF2 hF3' HR' hg3 hg4
                have hsn := Lib.hid (hsnd.out l2 hM)
                have hlw := Lib.hid (fun l3 hN => hlaw.out l2 l3 hM hN)
                have HM2 := Lib.hid (fun hs : mid < e ∧ e < b => IH.out g cap mid e b l2 w3 (by omega) hr3 (hsn.out.1.trans hn'.out) hs.1 hs.2 (by omega) hsn.out.2.1 hsn.out.2.2.1 hsn.out.2.2.2)
                have hT2 := Lib.hid (fun hs : ¬ (mid < e ∧ e < b) => merge_triv (by omega) (by omega) hs hsn.out.2.1 hsn.out.2.2.1)
                have hr3' := Lib.hid hr3
                clear hsnd hlaw hsn hM IH hrl hr3
                by_cases hr1 : mid < e ∧ e < b
                · have hg5 : decide ((mid : Int) < (e : Int)) = true := by simp; omega
                  have hg6 : decide ((e : Int) < (b : Int)) = true := by simp; omega
                  have HR' := Lib.hid (HM2.out hr1)
                  obtain ⟨hA5, hA6⟩ := hr1
                  clear HM2 hT2
                  go_wp2_with fail
                  refine HR'.out.mono ?_
                  rintro e' w4 ⟨rfl, l3, hM3, hr4, hF4⟩
                  go_wp2_with fail
                  go_end0
                  exact ⟨rfl, l3, hlw.out l3 hM3, hr4, hF3.trans hF4⟩
                · have hn1 := Lib.hid (hT2.out hr1)
                  clear HM2 hT2
                  by_cases hq2 : mid < e
                  · have hg5 : decide ((mid : Int) < (e : Int)) = true := by simp; omega
                    have hg6 : decide ((e : Int) < (b : Int)) = false := by simp; omega
                    have hA6 : ¬ e < b := fun h => hr1 ⟨hq2, h⟩
                    clear hr1
                    go_wp2_with fail
                    go_end0
                    exact ⟨rfl, l2, hlw.out l2 hn1.out, hr3'.out, hF3⟩
                  · have hg5 : decide ((mid : Int) < (e : Int)) = false := by simp; omega
                    clear hr1
                    go_wp2_with fail
                    go_end0
                    exact ⟨rfl, l2, hlw.out l2 hn1.out, hr3'.out, hF3⟩
              · have hM := hT1.out hr1
                obtain ⟨l2, hl2⟩ : ∃ l2, l2 = l1 := ⟨_, rfl⟩
                obtain ⟨w3, hw3⟩ : ∃ w3, w3 = w2 := ⟨_, rfl⟩
                subst hw3
                have hr3 : RowB w3 g t sz l2 := by rw [hl2]; exact hr2.out
                have hM' : MergeTo a mid l1 l2 := by rw [hl2]; exact hM
                replace hM := hM'
                have hF3 := hF2
                clear hM' hl2 hr2 hF2 HM1 hT1
                by_cases hq3 : a < i
                · have hg3 : decide ((a : Int) < (i : Int)) = true := by simp; omega
                  have hg4 : decide ((i : Int) < (mid : Int)) = false := by simp; omega
                  have hA4 : ¬ i < mid := fun h => hr1 ⟨hq3, h⟩
                  clear hr1
                  have hsn := Lib.hid (hsnd.out l2 hM)
                  have hlw := Lib.hid (fun l3 hN => hlaw.out l2 l3 hM hN)
                  have HM2 := Lib.hid (fun hs : mid < e ∧ e < b => IH.out g cap mid e b l2 w3 (by omega) hr3 (hsn.out.1.trans hn'.out) hs.1 hs.2 (by omega) hsn.out.2.1 hsn.out.2.2.1 hsn.out.2.2.2)
                  have hT2 := Lib.hid (fun hs : ¬ (mid < e ∧ e < b) => merge_triv (by omega) (by omega) hs hsn.out.2.1 hsn.out.2.2.1)
                  have hr3' := Lib.hid hr3
                  clear hsnd hlaw hsn hM IH hrl hr3
                  by_cases hr1 : mid < e ∧ e < b
                  · have hg5 : decide ((mid : Int) < (e : Int)) = true := by simp; omega
                    have hg6 : decide ((e : Int) < (b : Int)) = true := by simp; omega
                    have HR' := Lib.hid (HM2.out hr1)
                    obtain ⟨hA5, hA6⟩ := hr1
                    clear HM2 hT2
                    go_wp2_with fail
                    refine HR'.out.mono ?_
                    rintro e' w4 ⟨rfl, l3, hM3, hr4, hF4⟩
                    go_wp2_with fail
                    go_end0
                    exact ⟨rfl, l3, hlw.out l3 hM3, hr4, hF3.trans hF4⟩
                  · have hn1 := Lib.hid (hT2.out hr1)
                    clear HM2 hT2
                    by_cases hq2 : mid < e
                    · have hg5 : decide ((mid : Int) < (e : Int)) = true := by simp; omega
                      have hg6 : decide ((e : Int) < (b : Int)) = false := by simp; omega
                      have hA6 : ¬ e < b := fun h => hr1 ⟨hq2, h⟩
                      clear hr1
                      go_wp2_with fail
                      go_end0
                      exact ⟨rfl, l2, hlw.out l2 hn1.out, hr3'.out, hF3⟩
                    · have hg5 : decide ((mid : Int) < (e : Int)) = false := by simp; omega
                      clear hr1
                      go_wp2_with fail
                      go_end0
                      exact ⟨rfl, l2, hlw.out l2 hn1.out, hr3'.out, hF3⟩
                · have hg3 : decide ((a : Int) < (i : Int)) = false := by simp; omega
                  clear hr1
                  have hsn := Lib.hid (hsnd.out l2 hM)
                  have hlw := Lib.hid (fun l3 hN => hlaw.out l2 l3 hM hN)
                  have HM2 := Lib.hid (fun hs : mid < e ∧ e < b => IH.out g cap mid e b l2 w3 (by omega) hr3 (hsn.out.1.trans hn'.out) hs.1 hs.2 (by omega) hsn.out.2.1 hsn.out.2.2.1 hsn.out.2.2.2)
                  have hT2 := Lib.hid (fun hs : ¬ (mid < e ∧ e < b) => merge_triv (by omega) (by omega) hs hsn.out.2.1 hsn.out.2.2.1)
                  have hr3' := Lib.hid hr3
                  clear hsnd hlaw hsn hM IH hrl hr3
                  by_cases hr1 : mid < e ∧ e < b
                  · have hg5 : decide ((mid : Int) < (e : Int)) = true := by simp; omega
                    have hg6 : decide ((e : Int) < (b : Int)) = true := by simp; omega
                    have HR' := Lib.hid (HM2.out hr1)
                    obtain ⟨hA5, hA6⟩ := hr1
                    clear HM2 hT2
                    go_wp2_with fail
                    refine HR'.out.mono ?_
                    rintro e' w4 ⟨rfl, l3, hM3, hr4, hF4⟩
                    go_wp2_with fail
                    go_end0
                    exact ⟨rfl, l3, hlw.out l3 hM3, hr4, hF3.trans hF4⟩
                  · have hn1 := Lib.hid (hT2.out hr1)
                    clear HM2 hT2
                    by_cases hq2 : mid < e
                    · have hg5 : decide ((mid : Int) < (e : Int)) = true := by simp; omega
                      have hg6 : decide ((e : Int) < (b : Int)) = false := by simp; omega
                      have hA6 : ¬ e < b := fun h => hr1 ⟨hq2, h⟩
                      clear hr1
                      go_wp2_with fail
                      go_end0
                      exact ⟨rfl, l2, hlw.out l2 hn1.out, hr3'.out, hF3⟩
                    · have hg5 : decide ((mid : Int) < (e : Int)) = false := by simp; omega
                      clear hr1
                      go_wp2_with fail
                      go_end0
                      exact ⟨rfl, l2, hlw.out l2 hn1.out, hr3'.out, hF3⟩
end Go.Proofs.YtpabnbhbcphfiaaGreat
namespace Go.Proofs.YtpabnbhbcphfiaaGreat
open Go Go.Proofs Go.RowKit Go.Pol Go.Shelf
attribute [local go_sem] Oper.semAt_some Go.Pol.wide_fn Go.Pol.wide_depth Go.Pol.wide_fn' Go.Pol.wide_depth'

set_option maxRecDepth 100000 in
set_option maxHeartbeats 4000000 in
theorem stable_any (g n cap : Nat) (t : TypeId) (sz : Nat) (l : List Gp) (w : World) (hr : RowB w g t sz l) (hn : l.length = n) (hn64 : n ≤ 1000) (hA : AscX l) :
    Calls Tryz.prog 215 #[.slice (some ⟨g, 0, none⟩) n cap, .int .i64 n, .func (.func 110) #[] #[]] w fun e w' => e = .returned (.tuple #[]) ∧
      ∃ l', l'.Perm l ∧ l'.Pairwise LeX ∧ RowB w' g t sz l' ∧ Far (fun k => k = g) w w' := by
  have hr' := Lib.hid hr
  have hn' := Lib.hid hn
  have hA' := Lib.hid hA
  clear hr hn hA
  go_enter Tryz.func215, Tryz.ntmps215
  go_wp2_with fail
  go_loopw [7, 8] (fun u v wr => ∃ (a b : Nat) (lk : List Gp), u = .int .i64 a ∧ v = .int .i64 b ∧ Hid (b = a + 20) ∧ Hid (20 ∣ a) ∧ a ≤ n ∧ Hid (Ph1 l lk 20 a) ∧ Hid (RowB wr g t sz lk) ∧ Far (fun k => k = g) w wr) (fun _ v _ => n + 40 - (intOf v).toNat)
  case atStart => exact ⟨0, 20, l, rfl, rfl, Lib.hid rfl, Lib.hid ⟨0, rfl⟩, by omega, Lib.hid (Ph1.start l (by omega)), hr', Far.refl _ _⟩
  case round =>
    clear hr'
    obtain ⟨a, b, lk, rfl, rfl, hab, hda, han, hP, hrow, hF⟩ := hrel
    have hlk : Hid (lk.length = n) := Lib.hid (hP.out.len.trans hn'.out)
    by_cases hbn : b ≤ n
    · have h1 : decide ((b : Int) ≤ (n : Int)) = true := by simpa using hbn
      have HI := Lib.hid (insertion_any g n cap a b t sz lk wr hrow.out hlk.out (by have := hab.out; omega) hbn hn64 (hP.out.asc hA'.out))
      obtain ⟨b2, hb2⟩ : ∃ b2, b + 20 = b2 := ⟨_, rfl⟩
      have hw1 : IntKind.i64.wrap ((b : Int) + 20) = (b2 : Int) := by rw [IntKind.wrap_i64]; omega
      go_wp2_with fail
      refine HI.out.mono ?_
      rintro e w2 ⟨rfl, l2, hM, hr2, hF2⟩
      have hP2 := Lib.hid (hP.out.step (l' := l2) hda.out (by have := hab.out; have := hlk.out; omega) (by rw [← hab.out]; exact hM))
      have hF3 := hF.trans hF2
      rw [← hab.out] at hP2
      have hd2 : Hid (20 ∣ b) := Lib.hid (by rw [hab.out]; exact Nat.dvd_add hda.out (Nat.dvd_refl _))
      clear hP hrow hF hF2 HI hM
      go_wp2_with fail
      go_roundw
      case rel => exact ⟨b, b2, l2, rfl, rfl, Lib.hid hb2.symm, hd2, hbn, hP2, Lib.hid hr2, hF3⟩
      case measure => simp [intOf]; omega
    · have h1 : decide ((b : Int) ≤ (n : Int)) = false := by simpa using hbn
      have HI := Lib.hid (insertion_any g n cap a n t sz lk wr hrow.out hlk.out han (Nat.le_refl _) hn64 (hP.out.asc hA'.out))
      go_wp2_with fail
      refine HI.out.mono ?_
      rintro e w2 ⟨rfl, l2, hM, hr2, hF2⟩
      have hB := hP.out.blks (l' := l2) hda.out hlk.out han (by have := hab.out; omega) hM
      have hB1 := Lib.hid hB.1
      have hB2 := Lib.hid (hB.2.trans hn'.out)
      have hF3 := hF.trans hF2
      have hr3 := Lib.hid hr2
      clear hP hrow hF hF2 HI hM hB hr2
      go_wp2_with fail
      go_loopw [6] (fun u wr => ∃ (bs : Nat) (lk : List Gp), u = .int .i64 bs ∧ 20 ≤ bs ∧ bs ≤ 4000 ∧ Hid (Blks l lk bs n 0) ∧ Hid (lk.length = n) ∧ Hid (RowB wr g t sz lk) ∧ Far (fun k => k = g) w wr) (fun u _ => n - (intOf u).toNat)
      case atStart => exact ⟨20, l2, rfl, by omega, by omega, hB1, hB2, hr3, hF3⟩
      case round =>
        clear hB1 hB2 hr3 hF3
        obtain ⟨bs, lk, rfl, hbs, hbs2, hBl, hlk, hrow, hF⟩ := hrel
        by_cases hlt : bs < n
        · have h2 : decide ((bs : Int) < (n : Int)) = true := by simpa using hlt
          obtain ⟨b2, hb2⟩ : ∃ b2, 2 * bs = b2 := ⟨_, rfl⟩
          have hw2 : IntKind.i64.wrap (2 * (bs : Int)) = (b2 : Int) := by rw [IntKind.wrap_i64]; omega
          have hw3 : IntKind.i64.wrap ((bs : Int) * 2) = (b2 : Int) := by rw [IntKind.wrap_i64]; omega
          have hst := Lib.hid (Ph2.start hBl.out hlk.out (by omega))
          have hb2' := Lib.hid hb2
          clear hBl hlk
          go_wp2_with fail
          go_loopw [7, 8] (fun u v wr => ∃ (a b : Nat) (lk : List Gp), u = .int .i64 a ∧ v = .int .i64 b ∧ Hid (b = a + b2) ∧ Hid (b2 ∣ a) ∧ a ≤ n ∧ Hid (Ph2 l lk bs n a) ∧ Hid (RowB wr g t sz lk) ∧ Far (fun k => k = g) w wr) (fun _ v _ => n + b2 - (intOf v).toNat)
          case atStart => exact ⟨0, b2, lk, rfl, rfl, Lib.hid (Nat.zero_add _).symm, Lib.hid ⟨0, rfl⟩, by omega, hst, hrow, hF⟩
          case round =>
            clear hst hrow hF
            obtain ⟨a, b, lk, rfl, rfl, hab, hda, han, hP, hrow, hF⟩ := hrel
            obtain ⟨m, hm⟩ : ∃ m, a + bs = m := ⟨_, rfl⟩
            have hwm : IntKind.i64.wrap ((a : Int) + (bs : Int)) = (m : Int) := by rw [IntKind.wrap_i64]; omega
            by_cases hbn : b ≤ n
            · have h3 : decide ((b : Int) ≤ (n : Int)) = true := by simpa using hbn
              have s1 := hP.out.fst (by rw [hb2]; exact hda.out) (by have := hab.out; omega)
              have s2 := hP.out.snd (by rw [hb2]; exact hda.out) (by have := hab.out; omega)
              rw [hb2, ← hab.out, Nat.min_eq_left hbn, hm] at s2
              rw [hm] at s1
              have HI := Lib.hid (symMerge_any n hn64 t sz (b - a) g cap a m b lk wr (Nat.le_refl _) hrow.out hP.out.len (by omega) (by have := hab.out; omega) hbn s1.srt s2.srt (s1.tie s2 hA'.out (by omega) (by have := hab.out; omega)))
              obtain ⟨b3, hb3⟩ : ∃ b3, b + b2 = b3 := ⟨_, rfl⟩
              have hw4 : IntKind.i64.wrap ((b : Int) + (b2 : Int)) = (b3 : Int) := by rw [IntKind.wrap_i64]; omega
              clear s1 s2
              go_wp2_with fail
              refine HI.out.mono ?_
              rintro e w2 ⟨rfl, l2, hM, hr2, hF2⟩
              have hP2 := Lib.hid (hP.out.step (l' := l2) (by rw [hb2]; exact hda.out) (by have := hab.out; omega) (by rw [hb2, ← hab.out]; exact hM))
              rw [hb2, ← hab.out] at hP2
              have hd2 : Hid (b2 ∣ b) := Lib.hid (by rw [hab.out]; exact Nat.dvd_add hda.out (Nat.dvd_refl _))
              have hF3 := hF.trans hF2
              clear hP hrow hF hF2 HI hM
              go_wp2_with fail
              go_roundw
              case rel => exact ⟨b, b3, l2, rfl, rfl, Lib.hid hb3.symm, hd2, hbn, hP2, Lib.hid hr2, hF3⟩
              case measure => simp [intOf]; omega
            · have h3 : decide ((b : Int) ≤ (n : Int)) = false := by simpa using hbn
              by_cases hmn : m < n
              · have h4 : decide ((m : Int) < (n : Int)) = true := by simpa using hmn
                have s1 := hP.out.fst (by rw [hb2]; exact hda.out) (by omega)
                have s2 := hP.out.snd (by rw [hb2]; exact hda.out) (by omega)
                rw [hb2, ← hab.out, Nat.min_eq_right (by omega), hm] at s2
                rw [hm] at s1
                have HI := Lib.hid (symMerge_any n hn64 t sz (n - a) g cap a m n lk wr (Nat.le_refl _) hrow.out hP.out.len (by omega) (by omega) (Nat.le_refl _) s1.srt s2.srt (s1.tie s2 hA'.out (by omega) (by omega)))
                clear s1 s2
                go_wp2_with fail
                refine HI.out.mono ?_
                rintro e w2 ⟨rfl, l2, hM, hr2, hF2⟩
                have hB := hP.out.last (l' := l2) (by rw [hb2]; exact hda.out) (by omega) (by have := hab.out; omega) hM
                rw [hb2] at hB
                have hB1 := Lib.hid hB.1
                have hB2 := Lib.hid hB.2
                have hF3 := hF.trans hF2
                clear hP hrow hF hF2 HI hM hB
                go_wp2_with fail
                go_roundw
                case rel => exact ⟨b2, l2, rfl, by omega, by omega, hB1, hB2, Lib.hid hr2, hF3⟩
                case measure => simp [intOf]; omega
              · have h4 : decide ((m : Int) < (n : Int)) = false := by simpa using hmn
                have hB := hP.out.none (by rw [hb2]; exact hda.out) (by omega) (by have := hab.out; omega) han
                rw [hb2] at hB
                have hB1 := Lib.hid hB
                have hB2 := Lib.hid hP.out.len
                clear hP hB
                go_wp2_with fail
                go_roundw
                case rel => exact ⟨b2, lk, rfl, by omega, by omega, hB1, hB2, hrow, hF⟩
                case measure => simp [intOf]; omega
        · have h2 : decide ((bs : Int) < (n : Int)) = false := by simpa using hlt
          have hS := hBl.out.end_ (by omega)
          have e1 : cut lk 0 n = lk := by unfold cut; rw [List.drop_zero, List.take_of_length_le (by have := hlk.out; omega)]
          have e2 : cut l 0 n = l := by unfold cut; rw [List.drop_zero, List.take_of_length_le (by have := hn'.out; omega)]
          have hp := hS.perm
          have hs := hS.srt
          rw [e1, e2] at hp
          rw [e1] at hs
          have hps := Lib.hid (And.intro hp hs)
          clear hS e1 e2 hp hs
          go_wp2_with fail
          go_end0
          exact ⟨rfl, lk, hps.out.1, hps.out.2, hrow.out, hF⟩
end Go.Proofs.YtpabnbhbcphfiaaGreat
namespace Go.Proofs.YtpabnbhbcphfiaaGreat
open Go Go.Proofs Go.RowKit Go.Pol Go.Shelf

theorem rowG_cells {cs : Array Value} {us : List Gp} (h : RowG cs us) : cs.toList.take (us.length * 4) = gCells us := by
  apply List.ext_getElem?
  intro t
  have hl := gCells_len us
  rw [List.getElem?_take]
  by_cases ht : t < us.length * 4
  · rw [if_pos ht, Array.getElem?_toList]
    have hk : t / 4 < us.length := by omega
    have hat := gCells_at us (t / 4) hk
    have hr := h.at_ (t / 4) hk
    rcases (show t % 4 = 0 ∨ t % 4 = 1 ∨ t % 4 = 2 ∨ t % 4 = 3 by omega) with h | h | h | h
    · rw [show t = t / 4 * 4 by omega, hat.1, hr.1]
    · have e : t = t / 4 * 4 + 1 := by omega
      generalize t / 4 = k at *
      subst e
      rw [hat.2.1, hr.2.1]
    · have e : t = t / 4 * 4 + 2 := by omega
      generalize t / 4 = k at *
      subst e
      rw [hat.2.2.1, hr.2.2.1]
    · have e : t = t / 4 * 4 + 3 := by omega
      generalize t / 4 = k at *
      subst e
      rw [hat.2.2.2, hr.2.2.2]
  · rw [if_neg ht, List.getElem?_eq_none (by omega)]
theorem rowG_of {cs : Array Value} {us : List Gp} (hb : us.length * 4 ≤ cs.size) (h : cs.toList.take (us.length * 4) = gCells us) : RowG cs us := by
  refine ⟨hb, fun k hk => ?_⟩
  have hat := gCells_at us k hk
  have g : ∀ j, j < us.length * 4 → cs[j]? = (gCells us)[j]? := fun j hj => by
    rw [← h, List.getElem?_take, if_pos hj, Array.getElem?_toList]
  rw [g _ (by omega), g _ (by omega), g _ (by omega), g _ (by omega)]
  exact hat
theorem sortsTo_ord (us ord : List Gp) (hA : AscX us) (hp : ord.Perm us) (hs : ord.Pairwise LeX) (hlen : us.length ≤ 1000) : SortsTo us ord := by
  refine ⟨hp.length_eq, fun base v w hbase hrow => ?_⟩
  by_cases hne : us = []
  · subst hne
    obtain ⟨A, cap, rfl⟩ := own_nilG hrow rfl
    have HS := Lib.hid (stableNone A cap w)
    have he : ord = [] := List.Perm.eq_nil hp
    have hfin : w.ownsRow base 198 4 (.slice A ([] : List Gp).length cap) ([] : List Gp).length (gCells ord) := by
      rw [he]; exact hrow
    clear hrow hp hs hA he
    go_enter Tryz.func169, Tryz.ntmps169
    go_wp2_with fail
    refine HS.out.mono ?_
    rintro e w1 ⟨rfl, hw⟩
    subst hw
    go_wp2_with fail
    go_end0
    exact ⟨rfl, hfin, Go.RowKit.Below.refl _ _⟩
  · have hpos : 0 < us.length := List.length_pos_iff.2 hne
    rcases hrow.2 with ⟨_, h0⟩ | ⟨g, cap, cur, rfl, hg, hheap, hnc, hcm, hsz, htk⟩
    · omega
    · have hR : RowB w g 198 (cap * 4) us := ⟨cur, hheap, hsz, rowG_of (by rw [hsz]; exact Nat.mul_le_mul_right 4 hnc) htk⟩
      obtain ⟨n, hn⟩ : ∃ n, us.length = n := ⟨_, rfl⟩
      have HS := Lib.hid (stable_any g n cap 198 (cap * 4) us w hR hn (by omega) hA)
      have hol : Hid (ord.length = n) := Lib.hid (hp.length_eq.trans hn)
      have hAps := Lib.hid (And.intro hA (And.intro hp hs))
      rw [hn] at hnc ⊢
      clear hR hrow hheap hA hp hs htk hsz hn hpos hne hlen
      go_enter Tryz.func169, Tryz.ntmps169
      go_wp2_with fail
      refine HS.out.mono ?_
      rintro e w1 ⟨rfl, l', hp', hs', hr', hF⟩
      obtain rfl := srt_eq hAps.out.1 hp' hs' hAps.out.2.1 hAps.out.2.2
      obtain ⟨cs, hk, hcs, hl⟩ := hr'
      go_wp2_with fail
      go_end0
      refine ⟨rfl, ⟨by rw [gCells_len, hol.out], .inr ⟨g, cap, cs, rfl, hg, hk, hnc, hcm, hcs, ?_⟩⟩, hF.below hbase (fun k hk e => by omega)⟩
      rw [← hol.out]
      exact rowG_cells hl
end Go.Proofs.YtpabnbhbcphfiaaGreat
namespace Go.Proofs.YtpabnbhbcphfiaaGreat
open Go Go.Proofs Go.RowKit Go.Pol Go.Shelf

theorem ascHN (C L : List Sp) (H : List Int) : AscX ((gsH C L H).filter hugeP) := by
  unfold AscX
  refine List.Pairwise.filter _ ?_
  rw [gsH_map, List.pairwise_map]
  exact grps_lt
theorem gsH_len64N (C L : List Sp) (H : List Int) : ((gsH C L H).filter hugeP).length ≤ 64 := by
  refine Nat.le_trans (List.length_filter_le _ _) ?_
  rw [gsH_map, List.length_map]
  exact Nat.le_of_eq (by decide)
theorem chooseOrdN_any (C L : List Sp) (H : List Int) : ∃ ord, OrdOk C L H ord ∧ ∀ (S : Value) (n : Int) (w : World), StIs w S C L H → Calls Tryz.prog 44 #[S, .int .i64 n] w (SpEN (chooseA C L H n ord) w) := by
  have ho := ord_ok (C := C) (L := L) (H := H)
  refine ⟨_, ho, fun S n w hS => ?_⟩
  exact chooseN_any S C L H n _ w hS (sortsTo_ord _ _ (ascHN C L H) ho.1 (ho.2.imp fun h => leX_iff.2 h) (by have := gsH_len64N C L H; omega)) ho.1
end Go.Proofs.YtpabnbhbcphfiaaGreat
