/- Merged texts. Walks of layer 13: slices.symMergeCmpFunc of groups: two sorted runs become one. Walks of layer 13: slices.stableCmpFunc of groups whose numbers ascend. The stable sort of a list of groups whose numbers ascend, of whatever length up to 1000. Plain words for refusals: rules, plans, which calls are refused. Walks of layer 5: what is wrong with a rule, with a plan; a plan begun. Walks of layer 5: rules copied, a plan begun. Walks of layer 5: the calls that a rule refuses, as a function value that is ranged over. Walks of layer 5: the marks of the calls that are refused. Walks of layer 5: how many calls are refused; the next one of a rule; is a call refused. Walks of layer 5: is a call refused by a plan; is a state one; the next call. Walks of layer 5: is a call refused by a plan; a state that is one is found so; the next call. -/
import Derived.Test.YtefnnfcfigcikaaGreatChecked
import Derived.Shelf.Abstract
import Derived.Test.YtefnnfcfigcikaaGreatC6
namespace Go.Proofs.YtefnnfcfigcikaaGreat
open Go Go.Proofs Go.RowKit Go.Pol Go.Shelf
attribute [local go_sem] Oper.semAt_some Go.Pol.wide_fn Go.Pol.wide_depth Go.Pol.wide_fn' Go.Pol.wide_depth'

set_option maxRecDepth 100000 in
set_option maxHeartbeats 4000000 in
theorem symMerge_any (n : Nat) (hn64 : n ≤ 1000) (t : TypeId) (sz : Nat) : ∀ (k g cap a m b : Nat) (l : List Gp) (w : World) (_ : b - a ≤ k) (_ : RowB w g t sz l) (_ : l.length = n) (_ : a < m) (_ : m < b) (_ : b ≤ n)
    (_ : (cut l a m).Pairwise LeX) (_ : (cut l m b).Pairwise LeX) (_ : ∀ x ∈ cut l a m, ∀ y ∈ cut l m b, TieX x y),
    Calls Tryz.prog 195 #[.slice (some ⟨g, 0, none⟩) n cap, .int .i64 a, .int .i64 m, .int .i64 b, .func (.func 75) #[] #[]] w fun e w' => e = .returned (.tuple #[]) ∧
      ∃ l', MergeTo a b l l' ∧ RowB w' g t sz l' ∧ Far (fun k => k = g) w w'
  | 0, _, _, _, _, _, _, _, hk, _, _, ham, hmb, _, _, _, _ => by omega
  | k + 1, g, cap, a, m, b, l, w, hk0, hr, hn, ham, hmb, hb, hX, hY, hT => by
    by_cases c1 : a + 1 = m
    · exact symOneX_any g n cap a m b t sz l w hr hn c1 hmb hb hn64 hY hT
    by_cases c2 : m + 1 = b
    · exact symOneY_any g n cap a m b t sz l w hr hn (by omega) c2 hb hn64 hX hT
    have IH := Lib.hid (symMerge_any n hn64 t sz k)
    have hXYT := Lib.hid (And.intro hX (And.intro hY hT))
    have hr' := Lib.hid hr
    have hn' := Lib.hid hn
    obtain ⟨cs, hk, hcs, hl⟩ := hr
    have hl' := Lib.hid hl
    have hk' := Lib.hid hk
    clear hX hY hT hn hl hk hcs
    obtain ⟨mid, hmd⟩ : ∃ mid : Nat, ((a : Int) + (b : Int)) / 2 = (mid : Int) := ⟨(a + b) / 2, by omega⟩
    obtain ⟨nn, hnn⟩ : ∃ nn, mid + m = nn := ⟨_, rfl⟩
    obtain ⟨n1, hn1⟩ : ∃ n1, nn - 1 = n1 := ⟨_, rfl⟩
    obtain ⟨d1, hd1⟩ : ∃ d, m - a = d := ⟨_, rfl⟩
    obtain ⟨d2, hd2⟩ : ∃ d, b - m = d := ⟨_, rfl⟩
    have hw1 : IntKind.i64.wrap ((m : Int) - (a : Int)) = (d1 : Int) := by rw [IntKind.wrap_i64]; omega
    have hb1 : ((d1 : Int) == 1) = false := by simp; omega
    have hw2 : IntKind.i64.wrap ((b : Int) - (m : Int)) = (d2 : Int) := by rw [IntKind.wrap_i64]; omega
    have hb2 : ((d2 : Int) == 1) = false := by simp; omega
    have hw3 : IntKind.i64.wrap ((mid : Int) + (m : Int)) = (nn : Int) := by rw [IntKind.wrap_i64]; omega
    have hw4 : IntKind.i64.wrap ((nn : Int) - 1) = (n1 : Int) := by rw [IntKind.wrap_i64]; omega
    by_cases hmm : mid < m
    · have hg : decide ((mid : Int) < (m : Int)) = true := by simpa using hmm
      obtain ⟨lo, hlo⟩ : ∃ lo, nn - b = lo := ⟨_, rfl⟩
      have hw5 : IntKind.i64.wrap ((nn : Int) - (b : Int)) = (lo : Int) := by rw [IntKind.wrap_i64]; omega
      go_enter Tryz.func195, Tryz.ntmps195
      as_aux_lemma =>
      go_wp2_with fail
      go_loopw [20, 21] (fun u v wr => ∃ (i j : Nat), lo ≤ i ∧ i ≤ j ∧ j ≤ mid ∧ u = .int .i64 i ∧ v = .int .i64 j ∧ Hid ((lo < i → ¬ lvd l (nn - i) < lvd l (i - 1)) ∧ (j < mid → lvd l (nn - 1 - j) < lvd l j)) ∧ Below w.heap.size w wr) (fun u v _ => (intOf v).toNat - (intOf u).toNat)
      case atStart => exact ⟨lo, mid, by omega, by omega, by omega, rfl, rfl, Lib.hid ⟨fun h => absurd h (Nat.lt_irrefl _), fun h => absurd h (Nat.lt_irrefl _)⟩, Below.refl _ _⟩
      case round =>
        obtain ⟨i, j, hi, hij, hjb, rfl, rfl, hf, hB⟩ := hrel
        by_cases hlt : i < j
        · have h1 : decide ((i : Int) < (j : Int)) = true := by simpa using hlt
          obtain ⟨h, hh⟩ : ∃ h : Nat, ((i : Int) + (j : Int)) / 2 = (h : Int) := ⟨(i + j) / 2, by omega⟩
          have hih : i ≤ h := by omega
          have hhj : h < j := by omega
          have hhn : (h : Int) < (n : Int) := by omega
          obtain ⟨q, hq⟩ : ∃ q, nn - 1 - h = q := ⟨_, rfl⟩
          have hqw : IntKind.i64.wrap ((n1 : Int) - (h : Int)) = (q : Int) := by rw [IntKind.wrap_i64]; omega
          have hqn : (q : Int) < (n : Int) := by omega
          have hkr := hk'.out.call hB
          obtain ⟨x0, x1, x2, x3⟩ := hl'.out.at_ q (by have := hn'.out; omega)
          obtain ⟨y0, y1, y2, y3⟩ := hl'.out.at_ h (by have := hn'.out; omega)
          rw [← hkr.cell] at x0 x1 x2 x3 y0 y1 y2 y3
          have hlq := Lib.hid (show lvd l q = (l.getD q gp0).2.2.1 from rfl)
          have hlh := Lib.hid (show lvd l h = (l.getD h gp0).2.2.1 from rfl)
          generalize l.getD q gp0 = x at *
          generalize l.getD h gp0 = y at *
          obtain ⟨xn, xc, xl, xh⟩ := x
          obtain ⟨yn, yc, yl, yh⟩ := y
          have z0 := fun z : Ext wr => z.cell x0
          have z1 := fun z : Ext wr => z.cell x1
          have z2 := fun z : Ext wr => z.cell x2
          have z3 := fun z : Ext wr => z.cell x3
          have v0 := fun z : Ext wr => z.cell y0
          have v1 := fun z : Ext wr => z.cell y1
          have v2 := fun z : Ext wr => z.cell y2
          have v3 := fun z : Ext wr => z.cell y3
          have HC := Lib.hid (fun z : Ext wr => Ext.call (x := z) (choose1_below (xn, xc, xl, xh) (yn, yc, yl, yh) z.w))
          simp only at HC
          have hcl := cmpI_lt xl yl
          generalize cmpI xl yl = c at *
          by_cases hc : xl < yl
          · have hc2 : decide (c < 0) = true := by rw [hcl]; simpa using hc
            clear hcl
            have hf2 := Lib.hid (And.intro hf.out.1 (fun _ : h < mid => show lvd l (nn - 1 - h) < lvd l h by rw [hq, hlh.out, hlq.out]; exact hc))
            go_upto_region 35 with fail
            refine region_ext (by kernel_rfl) (by kernel_rfl) ?_
            repeat (go_big_quiet_step ((go_at_call 75; exact HC.out _)))
            refine wpQuiet_nil ?_
            rintro w8 ⟨⟨_, hw8⟩, rfl⟩
            clear hf hc
            go_wp2_with fail
            go_roundw
            case rel => exact ⟨i, h, hi, hih, by omega, rfl, rfl, hf2, hB.trans (hw8.mono hB.size)⟩
            case measure => simp [intOf]; omega
          · have hc2 : decide (c < 0) = false := by rw [hcl]; simpa using hc
            clear hcl
            have hf2 := Lib.hid (And.intro (fun _ : lo < h + 1 => show ¬ lvd l (nn - (h + 1)) < lvd l (h + 1 - 1) by rw [show nn - (h + 1) = q by omega, show h + 1 - 1 = h by omega, hlh.out, hlq.out]; exact hc) hf.out.2)
            go_upto_region 35 with fail
            refine region_ext (by kernel_rfl) (by kernel_rfl) ?_
            repeat (go_big_quiet_step ((go_at_call 75; exact HC.out _)))
            refine wpQuiet_nil ?_
            rintro w8 ⟨⟨_, hw8⟩, rfl⟩
            clear hf hc
            go_wp2_with fail
            go_roundw
            case rel => exact ⟨h + 1, j, by omega, by omega, hjb, by go_num, rfl, hf2, hB.trans (hw8.mono hB.size)⟩
            case measure => simp [intOf]; omega
        · have h1 : decide ((i : Int) < (j : Int)) = false := by simpa using hlt
          obtain rfl : i = j := by omega
          obtain ⟨e, he⟩ : ∃ e, nn - i = e := ⟨_, rfl⟩
          have hwe : IntKind.i64.wrap ((nn : Int) - (i : Int)) = (e : Int) := by rw [IntKind.wrap_i64]; omega
          have hmid : mid = i + (e - m) := by omega
          have g1 : a < i → e < b → ¬ lvd l e < lvd l (i - 1) := fun ha hb => by rw [← he]; exact hf.out.1 (by omega)
          have g2 : i < m → m < e → lvd l (e - 1) < lvd l i := fun ha hb => by
            have := hf.out.2 (by omega)
            rwa [show nn - 1 - i = e - 1 by omega] at this
          have hlaw := Lib.hid (fun l2 l3 hM hN => sym_law (l := l) (l2 := l2) (l3 := l3) (a := a) (s := i) (m := m) (e := e) (b := b) (mid := mid) (by omega) (by omega) (by omega) (by omega) (by have := hn'.out; omega) hmid hXYT.out.1 hXYT.out.2.1 hXYT.out.2.2 g1 g2 hM hN)
          have hfst := Lib.hid (sym_fst (l := l) (a := a) (s := i) (m := m) (e := e) (b := b) (mid := mid) (by omega) (by omega) (by omega) (by omega) (by have := hn'.out; omega) hmid hXYT.out.1 hXYT.out.2.1 hXYT.out.2.2)
          have hsnd := Lib.hid (fun l2 hM => sym_snd (l := l) (l2 := l2) (a := a) (s := i) (m := m) (e := e) (b := b) (mid := mid) (by omega) (by omega) (by omega) (by omega) (by have := hn'.out; omega) hmid hXYT.out.1 hXYT.out.2.1 hXYT.out.2.2 hM)
          have hrl : Hid ((rotL i m e l).length = n) := Lib.hid ((rotL_len (by omega) (by omega) (by have := hn'.out; omega)).trans hn'.out)
          have hrow := Lib.hid (hr'.out.call hB)
          have hF0 : Far (fun k => k = g) w wr := .of_below hB
          have hnr := Lib.hid (fun hr1 => rotL_none (l := l) (s := i) (m := m) (e := e) (by omega) (by omega) hr1)
          have HR := Lib.hid (fun hr1 : i < m ∧ m < e => rotate_any g n cap i m e t sz l wr hrow.out hn'.out hr1.1 hr1.2 (by omega) hn64)
          clear g1 g2 hf hXYT hr' hl' hk' hB hmid
          generalize rotL i m e l = l1 at *
          by_cases hr1 : i < m ∧ m < e
          · have hg1 : decide ((i : Int) < (m : Int)) = true := by simp; omega
            have hg2 : decide ((m : Int) < (e : Int)) = true := by simp; omega
            have HR' := Lib.hid (HR.out hr1)
            obtain ⟨hA1, hA2⟩ := hr1
            clear HR hnr hrow
            go_wp2_with fail
            refine HR'.out.mono ?_
            rintro e' w2 ⟨rfl, hr2', hF2'⟩
            have hr2 := Lib.hid hr2'
            have hF2 := hF0.trans hF2'
            clear hF0 hr2' hF2' HR' hg1 hg2
            have HM1 := Lib.hid (fun hs : a < i ∧ i < mid => IH.out g cap a i mid l1 w2 (by omega) hr2.out hrl.out hs.1 hs.2 (by omega) hfst.out.1 hfst.out.2.1 hfst.out.2.2)
            have hT1 := Lib.hid (fun hs : ¬ (a < i ∧ i < mid) => merge_triv (by omega) (by omega) hs hfst.out.1 hfst.out.2.1)
            clear hfst
            by_cases hr1 : a < i ∧ i < mid
            · have hg3 : decide ((a : Int) < (i : Int)) = true := by simp; omega
              have hg4 : decide ((i : Int) < (mid : Int)) = true := by simp; omega
              have HR' := Lib.hid (HM1.out hr1)
              obtain ⟨hA3, hA4⟩ := hr1
              clear HM1 hT1
              go_wp2_with fail
              refine HR'.out.mono ?_
              rintro e' w3 ⟨rfl, l2, hM, hr3, hF3'⟩
              have hF3 := hF2.trans hF3'
              clear hr2 hF2 hF3' HR' hg3 hg4
              have hsn := Lib.hid (hsnd.out l2 hM)
              have hlw := Lib.hid (fun l3 hN => hlaw.out l2 l3 hM hN)
              have HM2 := Lib.hid (fun hs : mid < e ∧ e < b => IH.out g cap mid e b l2 w3 (by omega) hr3 (hsn.out.1.trans hn'.out) hs.1 hs.2 (by omega) hsn.out.2.1 hsn.out.2.2.1 hsn.out.2.2.2)
              have hT2 := Lib.hid (fun hs : ¬ (mid < e ∧ e < b) => merge_triv (by omega) (by omega) hs hsn.out.2.1 hsn.out.2.2.1)
              have hr3' := Lib.hid hr3
              clear hsnd hlaw hsn hM IH hrl hr3
              by_cases hr1 : mid < e ∧ e < b
              · have hg5 : decide ((mid : Int) < (e : Int)) = true := by simp; omega
                have hg6 : decide ((e : Int) < (b : Int)) = true := by simp; omega
                have HR' := Lib.hid (HM2.out hr1)
                obtain ⟨hA5, hA6⟩ := hr1
                clear HM2 hT2
                go_wp2_with fail
                refine HR'.out.mono ?_
                rintro e' w4 ⟨rfl, l3, hM3, hr4, hF4⟩
                go_wp2_with fail
                go_end0
                exact ⟨rfl, l3, hlw.out l3 hM3, hr4, hF3.trans hF4⟩
              · have hn1 := Lib.hid (hT2.out hr1)
                clear HM2 hT2
                by_cases hq2 : mid < e
                · have hg5 : decide ((mid : Int) < (e : Int)) = true := by simp; omega
                  have hg6 : decide ((e : Int) < (b : Int)) = false := by simp; omega
                  have hA6 : ¬ e < b := fun h => hr1 ⟨hq2, h⟩
                  clear hr1
                  go_wp2_with fail
                  go_end0
                  exact ⟨rfl, l2, hlw.out l2 hn1.out, hr3'.out, hF3⟩
                · have hg5 : decide ((mid : Int) < (e : Int)) = false := by simp; omega
                  clear hr1
                  go_wp2_with fail
                  go_end0
                  exact ⟨rfl, l2, hlw.out l2 hn1.out, hr3'.out, hF3⟩
            · have hM := hT1.out hr1
              obtain ⟨l2, hl2⟩ : ∃ l2, l2 = l1 := ⟨_, rfl⟩
              obtain ⟨w3, hw3⟩ : ∃ w3, w3 = w2 := ⟨_, rfl⟩
              subst hw3
              have hr3 : RowB w3 g t sz l2 := by rw [hl2]; exact hr2.out
              have hM' : MergeTo a mid l1 l2 := by rw [hl2]; exact hM
              replace hM := hM'
              have hF3 := hF2
              clear hM' hl2 hr2 hF2 HM1 hT1
              by_cases hq3 : a < i
              · have hg3 : decide ((a : Int) < (i : Int)) = true := by simp; omega
                have hg4 : decide ((i : Int) < (mid : Int)) = false := by simp; omega
                have hA4 : ¬ i < mid := fun h => hr1 ⟨hq3, h⟩
                clear hr1
                have hsn := Lib.hid (hsnd.out l2 hM)
                have hlw := Lib.hid (fun l3 hN => hlaw.out l2 l3 hM hN)
                have HM2 := Lib.hid (fun hs : mid < e ∧ e < b => IH.out g cap mid e b l2 w3 (by omega) hr3 (hsn.out.1.trans hn'.out) hs.1 hs.2 (by omega) hsn.out.2.1 hsn.out.2.2.1 hsn.out.2.2.2)
                have hT2 := Lib.hid (fun hs : ¬ (mid < e ∧ e < b) => merge_triv (by omega) (by omega) hs hsn.out.2.1 hsn.out.2.2.1)
                have hr3' := Lib.hid hr3
                clear hsnd hlaw hsn hM IH hrl hr3
                by_cases hr1 : mid < e ∧ e < b
                · have hg5 : decide ((mid : Int) < (e : Int)) = true := by simp; omega
                  have hg6 : decide ((e : Int) < (b : Int)) = true := by simp; omega
                  have HR' := Lib.hid (HM2.out hr1)
                  obtain ⟨hA5, hA6⟩ := hr1
                  clear HM2 hT2
                  go_wp2_with fail
                  refine HR'.out.mono ?_
                  rintro e' w4 ⟨rfl, l3, hM3, hr4, hF4⟩
                  go_wp2_with fail
                  go_end0
                  exact ⟨rfl, l3, hlw.out l3 hM3, hr4, hF3.trans hF4⟩
                · have hn1 := Lib.hid (hT2.out hr1)
                  clear HM2 hT2
                  by_cases hq2 : mid < e
                  · have hg5 : decide ((mid : Int) < (e : Int)) = true := by simp; omega
                    have hg6 : decide ((e : Int) < (b : Int)) = false := by simp; omega
                    have hA6 : ¬ e < b := fun h => hr1 ⟨hq2, h⟩
                    clear hr1
                    go_wp2_with fail
                    go_end0
                    exact ⟨rfl, l2, hlw.out l2 hn1.out, hr3'.out, hF3⟩
                  · have hg5 : decide ((mid : Int) < (e : Int)) = false := by simp; omega
                    clear hr1
                    go_wp2_with fail
                    go_end0
                    exact ⟨rfl, l2, hlw.out l2 hn1.out, hr3'.out, hF3⟩
              · have hg3 : decide ((a : Int) < (i : Int)) = false := by simp; omega
                clear hr1
                have hsn := Lib.hid (hsnd.out l2 hM)
                have hlw := Lib.hid (fun l3 hN => hlaw.out l2 l3 hM hN)
                have HM2 := Lib.hid (fun hs : mid < e ∧ e < b => IH.out g cap mid e b l2 w3 (by omega) hr3 (hsn.out.1.trans hn'.out) hs.1 hs.2 (by omega) hsn.out.2.1 hsn.out.2.2.1 hsn.out.2.2.2)
                have hT2 := Lib.hid (fun hs : ¬ (mid < e ∧ e < b) => merge_triv (by omega) (by omega) hs hsn.out.2.1 hsn.out.2.2.1)
                have hr3' := Lib.hid hr3
                clear hsnd hlaw hsn hM IH hrl hr3
                by_cases hr1 : mid < e ∧ e < b
                · have hg5 : decide ((mid : Int) < (e : Int)) = true := by simp; omega
                  have hg6 : decide ((e : Int) < (b : Int)) = true := by simp; omega
                  have HR' := Lib.hid (HM2.out hr1)
                  obtain ⟨hA5, hA6⟩ := hr1
                  clear HM2 hT2
                  go_wp2_with fail
                  refine HR'.out.mono ?_
                  rintro e' w4 ⟨rfl, l3, hM3, hr4, hF4⟩
                  go_wp2_with fail
                  go_end0
                  exact ⟨rfl, l3, hlw.out l3 hM3, hr4, hF3.trans hF4⟩
                · have hn1 := Lib.hid (hT2.out hr1)
                  clear HM2 hT2
                  by_cases hq2 : mid < e
                  · have hg5 : decide ((mid : Int) < (e : Int)) = true := by simp; omega
                    have hg6 : decide ((e : Int) < (b : Int)) = false := by simp; omega
                    have hA6 : ¬ e < b := fun h => hr1 ⟨hq2, h⟩
                    clear hr1
                    go_wp2_with fail
                    go_end0
                    exact ⟨rfl, l2, hlw.out l2 hn1.out, hr3'.out, hF3⟩
                  · have hg5 : decide ((mid : Int) < (e : Int)) = false := by simp; omega
                    clear hr1
                    go_wp2_with fail
                    go_end0
                    exact ⟨rfl, l2, hlw.out l2 hn1.out, hr3'.out, hF3⟩
          · have hl1 := Lib.hid (hnr.out hr1)
            obtain ⟨w2, hw2⟩ : ∃ w2, w2 = wr := ⟨_, rfl⟩
            subst hw2
            have hr2 : Hid (RowB w2 g t sz l1) := by rw [hl1.out]; exact hrow
            have hF2 := hF0
            clear hF0 HR hnr hrow hl1
            by_cases hq1 : i < m
            · have hg1 : decide ((i : Int) < (m : Int)) = true := by simp; omega
              have hg2 : decide ((m : Int) < (e : Int)) = false := by simp; omega
              have hA2 : ¬ m < e := fun h => hr1 ⟨hq1, h⟩
              clear hr1
              have HM1 := Lib.hid (fun hs : a < i ∧ i < mid => IH.out g cap a i mid l1 w2 (by omega) hr2.out hrl.out hs.1 hs.2 (by omega) hfst.out.1 hfst.out.2.1 hfst.out.2.2)
              have hT1 := Lib.hid (fun hs : ¬ (a < i ∧ i < mid) => merge_triv (by omega) (by omega) hs hfst.out.1 hfst.out.2.1)
              clear hfst
              by_cases hr1 : a < i ∧ i < mid
              · have hg3 : decide ((a : Int) < (i : Int)) = true := by simp; omega
                have hg4 : decide ((i : Int) < (mid : Int)) = true := by simp; omega
                have HR' := Lib.hid (HM1.out hr1)
                obtain ⟨hA3, hA4⟩ := hr1
                clear HM1 hT1
                go_wp2_with fail
                refine HR'.out.mono ?_
                rintro e' w3 ⟨rfl, l2, hM, hr3, hF3'⟩
                have hF3 := hF2.trans hF3'
                clear hr2 hF2 hF3' HR' hg3 hg4
                have hsn := Lib.hid (hsnd.out l2 hM)
                have hlw := Lib.hid (fun l3 hN => hlaw.out l2 l3 hM hN)
                have HM2 := Lib.hid (fun hs : mid < e ∧ e < b => IH.out g cap mid e b l2 w3 (by omega) hr3 (hsn.out.1.trans hn'.out) hs.1 hs.2 (by omega) hsn.out.2.1 hsn.out.2.2.1 hsn.out.2.2.2)
                have hT2 := Lib.hid (fun hs : ¬ (mid < e ∧ e < b) => merge_triv (by omega) (by omega) hs hsn.out.2.1 hsn.out.2.2.1)
                have hr3' := Lib.hid hr3
                clear hsnd hlaw hsn hM IH hrl hr3
                by_cases hr1 : mid < e ∧ e < b
                · have hg5 : decide ((mid : Int) < (e : Int)) = true := by simp; omega
                  have hg6 : decide ((e : Int) < (b : Int)) = true := by simp; omega
                  have HR' := Lib.hid (HM2.out hr1)
                  obtain ⟨hA5, hA6⟩ := hr1
                  clear HM2 hT2
                  go_wp2_with fail
                  refine HR'.out.mono ?_
                  rintro e' w4 ⟨rfl, l3, hM3, hr4, hF4⟩
                  go_wp2_with fail
                  go_end0
                  exact ⟨rfl, l3, hlw.out l3 hM3, hr4, hF3.trans hF4⟩
                · have hn1 := Lib.hid (hT2.out hr1)
                  clear HM2 hT2
                  by_cases hq2 : mid < e
                  · have hg5 : decide ((mid : Int) < (e : Int)) = true := by simp; omega
                    have hg6 : decide ((e : Int) < (b : Int)) = false := by simp; omega
                    have hA6 : ¬ e < b := fun h => hr1 ⟨hq2, h⟩
                    clear hr1
                    go_wp2_with fail
                    go_end0
                    exact ⟨rfl, l2, hlw.out l2 hn1.out, hr3'.out, hF3⟩
                  · have hg5 : decide ((mid : Int) < (e : Int)) = false := by simp; omega
                    clear hr1
                    go_wp2_with fail
                    go_end0
                    exact ⟨rfl, l2, hlw.out l2 hn1.out, hr3'.out, hF3⟩
              · have hM := hT1.out hr1
                obtain ⟨l2, hl2⟩ : ∃ l2, l2 = l1 := ⟨_, rfl⟩
                obtain ⟨w3, hw3⟩ : ∃ w3, w3 = w2 := ⟨_, rfl⟩
                subst hw3
                have hr3 : RowB w3 g t sz l2 := by rw [hl2]; exact hr2.out
                have hM' : MergeTo a mid l1 l2 := by rw [hl2]; exact hM
                replace hM := hM'
                have hF3 := hF2
                clear hM' hl2 hr2 hF2 HM1 hT1
                by_cases hq3 : a < i
                · have hg3 : decide ((a : Int) < (i : Int)) = true := by simp; omega
                  have hg4 : decide ((i : Int) < (mid : Int)) = false := by simp; omega
                  have hA4 : ¬ i < mid := fun h => hr1 ⟨hq3, h⟩
                  clear hr1
                  have hsn := Lib.hid (hsnd.out l2 hM)
                  have hlw := Lib.hid (fun l3 hN => hlaw.out l2 l3 hM hN)
                  have HM2 := Lib.hid (fun hs : mid < e ∧ e < b => IH.out g cap mid e b l2 w3 (by omega) hr3 (hsn.out.1.trans hn'.out) hs.1 hs.2 (by omega) hsn.out.2.1 hsn.out.2.2.1 hsn.out.2.2.2)
                  have hT2 := Lib.hid (fun hs : ¬ (mid < e ∧ e < b) => merge_triv (by omega) (by omega) hs hsn.out.2.1 hsn.out.2.2.1)
                  have hr3' := Lib.hid hr3
                  clear hsnd hlaw hsn hM IH hrl hr3
                  by_cases hr1 : mid < e ∧ e < b
                  · have hg5 : decide ((mid : Int) < (e : Int)) = true := by simp; omega
                    have hg6 : decide ((e : Int) < (b : Int)) = true := by simp; omega
                    have HR' := Lib.hid (HM2.out hr1)
                    obtain ⟨hA5, hA6⟩ := hr1
                    clear HM2 hT2
                    go_wp2_with fail
                    refine HR'.out.mono ?_
                    rintro e' w4 ⟨rfl, l3, hM3, hr4, hF4⟩
                    go_wp2_with fail
                    go_end0
                    exact ⟨rfl, l3, hlw.out l3 hM3, hr4, hF3.trans hF4⟩
                  · have hn1 := Lib.hid (hT2.out hr1)
                    clear HM2 hT2
                    by_cases hq2 : mid < e
                    · have hg5 : decide ((mid : Int) < (e : Int)) = true := by simp; omega
                      have hg6 : decide ((e : Int) < (b : Int)) = false := by simp; omega
                      have hA6 : ¬ e < b := fun h => hr1 ⟨hq2, h⟩
                      clear hr1
                      go_wp2_with fail
                      go_end0
                      exact ⟨rfl, l2, hlw.out l2 hn1.out, hr3'.out, hF3⟩
                    · have hg5 : decide ((mid : Int) < (e : Int)) = false := by simp; omega
                      clear hr1
                      go_wp2_with fail
                      go_end0
                      exact ⟨rfl, l2, hlw.out l2 hn1.out, hr3'.out, hF3⟩
                · have hg3 : decide ((a : Int) < (i : Int)) = false := by simp; omega
                  clear hr1
                  have hsn := Lib.hid (hsnd.out l2 hM)
                  have hlw := Lib.hid (fun l3 hN => hlaw.out l2 l3 hM hN)
                  have HM2 := Lib.hid (fun hs : mid < e ∧ e < b => IH.out g cap mid e b l2 w3 (by omega) hr3 (hsn.out.1.trans hn'.out) hs.1 hs.2 (by omega) hsn.out.2.1 hsn.out.2.2.1 hsn.out.2.2.2)
                  have hT2 := Lib.hid (fun hs : ¬ (mid < e ∧ e < b) => merge_triv (by omega) (by omega) hs hsn.out.2.1 hsn.out.2.2.1)
                  have hr3' := Lib.hid hr3
                  clear hsnd hlaw hsn hM IH hrl hr3
                  by_cases hr1 : mid < e ∧ e < b
                  · have hg5 : decide ((mid : Int) < (e : Int)) = true := by simp; omega
                    have hg6 : decide ((e : Int) < (b : Int)) = true := by simp; omega
                    have HR' := Lib.hid (HM2.out hr1)
                    obtain ⟨hA5, hA6⟩ := hr1
                    clear HM2 hT2
                    go_wp2_with fail
                    refine HR'.out.mono ?_
                    rintro e' w4 ⟨rfl, l3, hM3, hr4, hF4⟩
                    go_wp2_with fail
                    go_end0
                    exact ⟨rfl, l3, hlw.out l3 hM3, hr4, hF3.trans hF4⟩
                  · have hn1 := Lib.hid (hT2.out hr1)
                    clear HM2 hT2
                    by_cases hq2 : mid < e
                    · have hg5 : decide ((mid : Int) < (e : Int)) = true := by simp; omega
                      have hg6 : decide ((e : Int) < (b : Int)) = false := by simp; omega
                      have hA6 : ¬ e < b := fun h => hr1 ⟨hq2, h⟩
                      clear hr1
                      go_wp2_with fail
                      go_end0
                      exact ⟨rfl, l2, hlw.out l2 hn1.out, hr3'.out, hF3⟩
                    · have hg5 : decide ((mid : Int) < (e : Int)) = false := by simp; omega
                      clear hr1
                      go_wp2_with fail
                      go_end0
                      exact ⟨rfl, l2, hlw.out l2 hn1.out, hr3'.out, hF3⟩
            · have hg1 : decide ((i : Int) < (m : Int)) = false := by simp; omega
              clear hr1
              have HM1 := Lib.hid (fun hs : a < i ∧ i < mid => IH.out g cap a i mid l1 w2 (by omega) hr2.out hrl.out hs.1 hs.2 (by omega) hfst.out.1 hfst.out.2.1 hfst.out.2.2)
              have hT1 := Lib.hid (fun hs : ¬ (a < i ∧ i < mid) => merge_triv (by omega) (by omega) hs hfst.out.1 hfst.out.2.1)
              clear hfst
              by_cases hr1 : a < i ∧ i < mid
              · have hg3 : decide ((a : Int) < (i : Int)) = true := by simp; omega
                have hg4 : decide ((i : Int) < (mid : Int)) = true := by simp; omega
                have HR' := Lib.hid (HM1.out hr1)
                obtain ⟨hA3, hA4⟩ := hr1
                clear HM1 hT1
                go_wp2_with fail
                refine HR'.out.mono ?_
                rintro e' w3 ⟨rfl, l2, hM, hr3, hF3'⟩
                have hF3 := hF2.trans hF3'
                clear hr2 hF2 hF3' HR' hg3 hg4
                have hsn := Lib.hid (hsnd.out l2 hM)
                have hlw := Lib.hid (fun l3 hN => hlaw.out l2 l3 hM hN)
                have HM2 := Lib.hid (fun hs : mid < e ∧ e < b => IH.out g cap mid e b l2 w3 (by omega) hr3 (hsn.out.1.trans hn'.out) hs.1 hs.2 (by omega) hsn.out.2.1 hsn.out.2.2.1 hsn.out.2.2.2)
                have hT2 := Lib.hid (fun hs : ¬ (mid < e ∧ e < b) => merge_triv (by omega) (by omega) hs hsn.out.2.1 hsn.out.2.2.1)
                have hr3' := Lib.hid hr3
                clear hsnd hlaw hsn hM IH hrl hr3
                by_cases hr1 : mid < e ∧ e < b
                · have hg5 : decide ((mid : Int) < (e : Int)) = true := by simp; omega
                  have hg6 : decide ((e : Int) < (b : Int)) = true := by simp; omega
                  have HR' := Lib.hid (HM2.out hr1)
                  obtain ⟨hA5, hA6⟩ := hr1
                  clear HM2 hT2
                  go_wp2_with fail
                  refine HR'.out.mono ?_
                  rintro e' w4 ⟨rfl, l3, hM3, hr4, hF4⟩
                  go_wp2_with fail
                  go_end0
                  exact ⟨rfl, l3, hlw.out l3 hM3, hr4, hF3.trans hF4⟩
                · have hn1 := Lib.hid (hT2.out hr1)
                  clear HM2 hT2
                  by_cases hq2 : mid < e
                  · have hg5 : decide ((mid : Int) < (e : Int)) = true := by simp; omega
                    have hg6 : decide ((e : Int) < (b : Int)) = false := by simp; omega
                    have hA6 : ¬ e < b := fun h => hr1 ⟨hq2, h⟩
                    clear hr1
                    go_wp2_with fail
                    go_end0
                    exact ⟨rfl, l2, hlw.out l2 hn1.out, hr3'.out, hF3⟩
                  · have hg5 : decide ((mid : Int) < (e : Int)) = false := by simp; omega
                    clear hr1
                    go_wp2_with fail
                    go_end0
                    exact ⟨rfl, l2, hlw.out l2 hn1.out, hr3'.out, hF3⟩
              · have hM := hT1.out hr1
                obtain ⟨l2, hl2⟩ : ∃ l2, l2 = l1 := ⟨_, rfl⟩
                obtain ⟨w3, hw3⟩ : ∃ w3, w3 = w2 := ⟨_, rfl⟩
                subst hw3
                have hr3 : RowB w3 g t sz l2 := by rw [hl2]; exact hr2.out
                have hM' : MergeTo a mid l1 l2 := by rw [hl2]; exact hM
                replace hM := hM'
                have hF3 := hF2
                clear hM' hl2 hr2 hF2 HM1 hT1
                by_cases hq3 : a < i
                · have hg3 : decide ((a : Int) < (i : Int)) = true := by simp; omega
                  have hg4 : decide ((i : Int) < (mid : Int)) = false := by simp; omega
                  have hA4 : ¬ i < mid := fun h => hr1 ⟨hq3, h⟩
                  clear hr1
                  have hsn := Lib.hid (hsnd.out l2 hM)
                  have hlw := Lib.hid (fun l3 hN => hlaw.out l2 l3 hM hN)
                  have HM2 := Lib.hid (fun hs : mid < e ∧ e < b => IH.out g cap mid e b l2 w3 (by omega) hr3 (hsn.out.1.trans hn'.out) hs.1 hs.2 (by omega) hsn.out.2.1 hsn.out.2.2.1 hsn.out.2.2.2)
                  have hT2 := Lib.hid (fun hs : ¬ (mid < e ∧ e < b) => merge_triv (by omega) (by omega) hs hsn.out.2.1 hsn.out.2.2.1)
                  have hr3' := Lib.hid hr3
                  clear hsnd hlaw hsn hM IH hrl hr3
                  by_cases hr1 : mid < e ∧ e < b
                  · have hg5 : decide ((mid : Int) < (e : Int)) = true := by simp; omega
                    have hg6 : decide ((e : Int) < (b : Int)) = true := by simp; omega
                    have HR' := Lib.hid (HM2.out hr1)
                    obtain ⟨hA5, hA6⟩ := hr1
                    clear HM2 hT2
                    go_wp2_with fail
                    refine HR'.out.mono ?_
                    rintro e' w4 ⟨rfl, l3, hM3, hr4, hF4⟩
                    go_wp2_with fail
                    go_end0
                    exact ⟨rfl, l3, hlw.out l3 hM3, hr4, hF3.trans hF4⟩
                  · have hn1 := Lib.hid (hT2.out hr1)
                    clear HM2 hT2
                    by_cases hq2 : mid < e
                    · have hg5 : decide ((mid : Int) < (e : Int)) = true := by simp; omega
                      have hg6 : decide ((e : Int) < (b : Int)) = false := by simp; omega
                      have hA6 : ¬ e < b := fun h => hr1 ⟨hq2, h⟩
                      clear hr1
                      go_wp2_with fail
                      go_end0
                      exact ⟨rfl, l2, hlw.out l2 hn1.out, hr3'.out, hF3⟩
                    · have hg5 : decide ((mid : Int) < (e : Int)) = false := by simp; omega
                      clear hr1
                      go_wp2_with fail
                      go_end0
                      exact ⟨rfl, l2, hlw.out l2 hn1.out, hr3'.out, hF3⟩
                · have hg3 : decide ((a : Int) < (i : Int)) = false := by simp; omega
                  clear hr1
                  have hsn := Lib.hid (hsnd.out l2 hM)
                  have hlw := Lib.hid (fun l3 hN => hlaw.out l2 l3 hM hN)
                  have HM2 := Lib.hid (fun hs : mid < e ∧ e < b => IH.out g cap mid e b l2 w3 (by omega) hr3 (hsn.out.1.trans hn'.out) hs.1 hs.2 (by omega) hsn.out.2.1 hsn.out.2.2.1 hsn.out.2.2.2)
                  have hT2 := Lib.hid (fun hs : ¬ (mid < e ∧ e < b) => merge_triv (by omega) (by omega) hs hsn.out.2.1 hsn.out.2.2.1)
                  have hr3' := Lib.hid hr3
                  clear hsnd hlaw hsn hM IH hrl hr3
                  by_cases hr1 : mid < e ∧ e < b
                  · have hg5 : decide ((mid : Int) < (e : Int)) = true := by simp; omega
                    have hg6 : decide ((e : Int) < (b : Int)) = true := by simp; omega
                    have HR' := Lib.hid (HM2.out hr1)
                    obtain ⟨hA5, hA6⟩ := hr1
                    clear HM2 hT2
                    go_wp2_with fail
                    refine HR'.out.mono ?_
                    rintro e' w4 ⟨rfl, l3, hM3, hr4, hF4⟩
                    go_wp2_with fail
                    go_end0
                    exact ⟨rfl, l3, hlw.out l3 hM3, hr4, hF3.trans hF4⟩
                  · have hn1 := Lib.hid (hT2.out hr1)
                    clear HM2 hT2
                    by_cases hq2 : mid < e
                    · have hg5 : decide ((mid : Int) < (e : Int)) = true := by simp; omega
                      have hg6 : decide ((e : Int) < (b : Int)) = false := by simp; omega
                      have hA6 : ¬ e < b := fun h => hr1 ⟨hq2, h⟩
                      clear hr1
                      go_wp2_with fail
                      go_end0
                      exact ⟨rfl, l2, hlw.out l2 hn1.out, hr3'.out, hF3⟩
                    · have hg5 : decide ((mid : Int) < (e : Int)) = false := by simp; omega
                      clear hr1
                      go_wp2_with fail
                      go_end0
                      exact ⟨rfl, l2, hlw.out l2 hn1.out, hr3'.out, hF3⟩
    · have hg : decide ((mid : Int) < (m : Int)) = false := by simpa using hmm
      go_enter Tryz.func195, Tryz.ntmps195
      as_aux_lemma =>
      go_wp2_with fail
      go_loopw [20, 21] (fun u v wr => ∃ (i j : Nat), a ≤ i ∧ i ≤ j ∧ j ≤ m ∧ u = .int .i64 i ∧ v = .int .i64 j ∧ Hid ((a < i → ¬ lvd l (nn - i) < lvd l (i - 1)) ∧ (j < m → lvd l (nn - 1 - j) < lvd l j)) ∧ Below w.heap.size w wr) (fun u v _ => (intOf v).toNat - (intOf u).toNat)
      case atStart => exact ⟨a, m, by omega, by omega, by omega, rfl, rfl, Lib.hid ⟨fun h => absurd h (Nat.lt_irrefl _), fun h => absurd h (Nat.lt_irrefl _)⟩, Below.refl _ _⟩
      case round =>
        obtain ⟨i, j, hi, hij, hjb, rfl, rfl, hf, hB⟩ := hrel
        by_cases hlt : i < j
        · have h1 : decide ((i : Int) < (j : Int)) = true := by simpa using hlt
          obtain ⟨h, hh⟩ : ∃ h : Nat, ((i : Int) + (j : Int)) / 2 = (h : Int) := ⟨(i + j) / 2, by omega⟩
          have hih : i ≤ h := by omega
          have hhj : h < j := by omega
          have hhn : (h : Int) < (n : Int) := by omega
          obtain ⟨q, hq⟩ : ∃ q, nn - 1 - h = q := ⟨_, rfl⟩
          have hqw : IntKind.i64.wrap ((n1 : Int) - (h : Int)) = (q : Int) := by rw [IntKind.wrap_i64]; omega
          have hqn : (q : Int) < (n : Int) := by omega
          have hkr := hk'.out.call hB
          obtain ⟨x0, x1, x2, x3⟩ := hl'.out.at_ q (by have := hn'.out; omega)
          obtain ⟨y0, y1, y2, y3⟩ := hl'.out.at_ h (by have := hn'.out; omega)
          rw [← hkr.cell] at x0 x1 x2 x3 y0 y1 y2 y3
          have hlq := Lib.hid (show lvd l q = (l.getD q gp0).2.2.1 from rfl)
          have hlh := Lib.hid (show lvd l h = (l.getD h gp0).2.2.1 from rfl)
          generalize l.getD q gp0 = x at *
          generalize l.getD h gp0 = y at *
          obtain ⟨xn, xc, xl, xh⟩ := x
          obtain ⟨yn, yc, yl, yh⟩ := y
          have z0 := fun z : Ext wr => z.cell x0
          have z1 := fun z : Ext wr => z.cell x1
          have z2 := fun z : Ext wr => z.cell x2
          have z3 := fun z : Ext wr => z.cell x3
          have v0 := fun z : Ext wr => z.cell y0
          have v1 := fun z : Ext wr => z.cell y1
          have v2 := fun z : Ext wr => z.cell y2
          have v3 := fun z : Ext wr => z.cell y3
          have HC := Lib.hid (fun z : Ext wr => Ext.call (x := z) (choose1_below (xn, xc, xl, xh) (yn, yc, yl, yh) z.w))
          simp only at HC
          have hcl := cmpI_lt xl yl
          generalize cmpI xl yl = c at *
          by_cases hc : xl < yl
          · have hc2 : decide (c < 0) = true := by rw [hcl]; simpa using hc
            clear hcl
            have hf2 := Lib.hid (And.intro hf.out.1 (fun _ : h < m => show lvd l (nn - 1 - h) < lvd l h by rw [hq, hlh.out, hlq.out]; exact hc))
            go_upto_region 35 with fail
            refine region_ext (by kernel_rfl) (by kernel_rfl) ?_
            repeat (go_big_quiet_step ((go_at_call 75; exact HC.out _)))
            refine wpQuiet_nil ?_
            rintro w8 ⟨⟨_, hw8⟩, rfl⟩
            clear hf hc
            go_wp2_with fail
            go_roundw
            case rel => exact ⟨i, h, hi, hih, by omega, rfl, rfl, hf2, hB.trans (hw8.mono hB.size)⟩
            case measure => simp [intOf]; omega
          · have hc2 : decide (c < 0) = false := by rw [hcl]; simpa using hc
            clear hcl
            have hf2 := Lib.hid (And.intro (fun _ : a < h + 1 => show ¬ lvd l (nn - (h + 1)) < lvd l (h + 1 - 1) by rw [show nn - (h + 1) = q by omega, show h + 1 - 1 = h by omega, hlh.out, hlq.out]; exact hc) hf.out.2)
            go_upto_region 35 with fail
            refine region_ext (by kernel_rfl) (by kernel_rfl) ?_
            repeat (go_big_quiet_step ((go_at_call 75; exact HC.out _)))
            refine wpQuiet_nil ?_
            rintro w8 ⟨⟨_, hw8⟩, rfl⟩
            clear hf hc
            go_wp2_with fail
            go_roundw
            case rel => exact ⟨h + 1, j, by omega, by omega, hjb, by go_num, rfl, hf2, hB.trans (hw8.mono hB.size)⟩
            case measure => simp [intOf]; omega
        · have h1 : decide ((i : Int) < (j : Int)) = false := by simpa using hlt
          obtain rfl : i = j := by omega
          obtain ⟨e, he⟩ : ∃ e, nn - i = e := ⟨_, rfl⟩
          have hwe : IntKind.i64.wrap ((nn : Int) - (i : Int)) = (e : Int) := by rw [IntKind.wrap_i64]; omega
          have hmid : mid = i + (e - m) := by omega
          have g1 : a < i → e < b → ¬ lvd l e < lvd l (i - 1) := fun ha hb => by rw [← he]; exact hf.out.1 (by omega)
          have g2 : i < m → m < e → lvd l (e - 1) < lvd l i := fun ha hb => by
            have := hf.out.2 (by omega)
            rwa [show nn - 1 - i = e - 1 by omega] at this
          have hlaw := Lib.hid (fun l2 l3 hM hN => sym_law (l := l) (l2 := l2) (l3 := l3) (a := a) (s := i) (m := m) (e := e) (b := b) (mid := mid) (by omega) (by omega) (by omega) (by omega) (by have := hn'.out; omega) hmid hXYT.out.1 hXYT.out.2.1 hXYT.out.2.2 g1 g2 hM hN)
          have hfst := Lib.hid (sym_fst (l := l) (a := a) (s := i) (m := m) (e := e) (b := b) (mid := mid) (by omega) (by omega) (by omega) (by omega) (by have := hn'.out; omega) hmid hXYT.out.1 hXYT.out.2.1 hXYT.out.2.2)
          have hsnd := Lib.hid (fun l2 hM => sym_snd (l := l) (l2 := l2) (a := a) (s := i) (m := m) (e := e) (b := b) (mid := mid) (by omega) (by omega) (by omega) (by omega) (by have := hn'.out; omega) hmid hXYT.out.1 hXYT.out.2.1 hXYT.out.2.2 hM)
          have hrl : Hid ((rotL i m e l).length = n) := Lib.hid ((rotL_len (by omega) (by omega) (by have := hn'.out; omega)).trans hn'.out)
          have hrow := Lib.hid (hr'.out.call hB)
          have hF0 : Far (fun k => k = g) w wr := .of_below hB
          have hnr := Lib.hid (fun hr1 => rotL_none (l := l) (s := i) (m := m) (e := e) (by omega) (by omega) hr1)
          have HR := Lib.hid (fun hr1 : i < m ∧ m < e => rotate_any g n cap i m e t sz l wr hrow.out hn'.out hr1.1 hr1.2 (by omega) hn64)
          clear g1 g2 hf hXYT hr' hl' hk' hB hmid
          generalize rotL i m e l = l1 at *
          by_cases hr1 : i < m ∧ m < e
          · have hg1 : decide ((i : Int) < (m : Int)) = true := by simp; omega
            have hg2 : decide ((m : Int) < (e : Int)) = true := by simp; omega
            have HR' := Lib.hid (HR.out hr1)
            obtain ⟨hA1, hA2⟩ := hr1
            clear HR hnr hrow
            go_wp2_with fail
            refine HR'.out.mono ?_
            rintro e' w2 ⟨rfl, hr2', hF2'⟩
            have hr2 := Lib.hid hr2'
            have hF2 := hF0.trans hF2'
            clear hF0 hr2' hF2' HR' hg1 hg2
            have HM1 := Lib.hid (fun hs : a < i ∧ i < mid => IH.out g cap a i mid l1 w2 (by omega) hr2.out hrl.out hs.1 hs.2 (by omega) hfst.out.1 hfst.out.2.1 hfst.out.2.2)
            have hT1 := Lib.hid (fun hs : ¬ (a < i ∧ i < mid) => merge_triv (by omega) (by omega) hs hfst.out.1 hfst.out.2.1)
            clear hfst
            by_cases hr1 : a < i ∧ i < mid
            · have hg3 : decide ((a : Int) < (i : Int)) = true := by simp; omega
              have hg4 : decide ((i : Int) < (mid : Int)) = true := by simp; omega
              have HR' := Lib.hid (HM1.out hr1)
              obtain ⟨hA3, hA4⟩ := hr1
              clear HM1 hT1
              go_wp2_with fail
              refine HR'.out.mono ?_
              rintro e' w3 ⟨rfl, l2, hM, hr3, hF3'⟩
              have hF3 := hF2.trans hF3'
              clear hr2 hF2 hF3' HR' hg3 hg4
              have hsn := Lib.hid (hsnd.out l2 hM)
              have hlw := Lib.hid (fun l3 hN => hlaw.out l2 l3 hM hN)
              have HM2 := Lib.hid (fun hs : mid < e ∧ e < b => IH.out g cap mid e b l2 w3 (by omega) hr3 (hsn.out.1.trans hn'.out) hs.1 hs.2 (by omega) hsn.out.2.1 hsn.out.2.2.1 hsn.out.2.2.2)
              have hT2 := Lib.hid (fun hs : ¬ (mid < e ∧ e < b) => merge_triv (by omega) (by omega) hs hsn.out.2.1 hsn.out.2.2.1)
              have hr3' := Lib.hid hr3
              clear hsnd hlaw hsn hM IH hrl hr3
              by_cases hr1 : mid < e ∧ e < b
              · have hg5 : decide ((mid : Int) < (e : Int)) = true := by simp; omega
                have hg6 : decide ((e : Int) < (b : Int)) = true := by simp; omega
                have HR' := Lib.hid (HM2.out hr1)
                obtain ⟨hA5, hA6⟩ := hr1
                clear HM2 hT2
                go_wp2_with fail
                refine HR'.out.mono ?_
                rintro e' w4 ⟨rfl, l3, hM3, hr4, hF4⟩
                go_wp2_with fail
                go_end0
                exact ⟨rfl, l3, hlw.out l3 hM3, hr4, hF3.trans hF4⟩
              · have hn1 := Lib.hid (hT2.out hr1)
                clear HM2 hT2
                by_cases hq2 : mid < e
                · have hg5 : decide ((mid : Int) < (e : Int)) = true := by simp; omega
                  have hg6 : decide ((e : Int) < (b : Int)) = false := by simp; omega
                  have hA6 : ¬ e < b := fun h => hr1 ⟨hq2, h⟩
                  clear hr1
                  go_wp2_with fail
                  go_end0
                  exact ⟨rfl, l2, hlw.out l2 hn1.out, hr3'.out, hF3⟩
                · have hg5 : decide ((mid : Int) < (e : Int)) = false := by simp; omega
                  clear hr1
                  go_wp2_with fail
                  go_end0
                  exact ⟨rfl, l2, hlw.out l2 hn1.out, hr3'.out, hF3⟩
            · have hM := hT1.out hr1
              obtain ⟨l2, hl2⟩ : ∃ l2, l2 = l1 := ⟨_, rfl⟩
              obtain ⟨w3, hw3⟩ : ∃ w3, w3 = w2 := ⟨_, rfl⟩
              subst hw3
              have hr3 : RowB w3 g t sz l2 := by rw [hl2]; exact hr2.out
              have hM' : MergeTo a mid l1 l2 := by rw [hl2]; exact hM
              replace hM := hM'
              have hF3 := hF2
              clear hM' hl2 hr2 hF2 HM1 hT1
              by_cases hq3 : a < i
              · have hg3 : decide ((a : Int) < (i : Int)) = true := by simp; omega
                have hg4 : decide ((i : Int) < (mid : Int)) = false := by simp; omega
                have hA4 : ¬ i < mid := fun h => hr1 ⟨hq3, h⟩
                clear hr1
                have hsn := Lib.hid (hsnd.out l2 hM)
                have hlw := Lib.hid (fun l3 hN => hlaw.out l2 l3 hM hN)
                have HM2 := Lib.hid (fun hs : mid < e ∧ e < b => IH.out g cap mid e b l2 w3 (by omega) hr3 (hsn.out.1.trans hn'.out) hs.1 hs.2 (by omega) hsn.out.2.1 hsn.out.2.2.1 hsn.out.2.2.2)
                have hT2 := Lib.hid (fun hs : ¬ (mid < e ∧ e < b) => merge_triv (by omega) (by omega) hs hsn.out.2.1 hsn.out.2.2.1)
                have hr3' := Lib.hid hr3
                clear hsnd hlaw hsn hM IH hrl hr3
                by_cases hr1 : mid < e ∧ e < b
                · have hg5 : decide ((mid : Int) < (e : Int)) = true := by simp; omega
                  have hg6 : decide ((e : Int) < (b : Int)) = true := by simp; omega
                  have HR' := Lib.hid (HM2.out hr1)
                  obtain ⟨hA5, hA6⟩ := hr1
                  clear HM2 hT2
                  go_wp2_with fail
                  refine HR'.out.mono ?_
                  rintro e' w4 ⟨rfl, l3, hM3, hr4, hF4⟩
                  go_wp2_with fail
                  go_end0
                  exact ⟨rfl, l3, hlw.out l3 hM3, hr4, hF3.trans hF4⟩
                · have hn1 := Lib.hid (hT2.out hr1)
                  clear HM2 hT2
                  by_cases hq2 : mid < e
                  · have hg5 : decide ((mid : Int) < (e : Int)) = true := by simp; omega
                    have hg6 : decide ((e : Int) < (b : Int)) = false := by simp; omega
                    have hA6 : ¬ e < b := fun h => hr1 ⟨hq2, h⟩
                    clear hr1
                    go_wp2_with fail
                    go_end0
                    exact ⟨rfl, l2, hlw.out l2 hn1.out, hr3'.out, hF3⟩
                  · have hg5 : decide ((mid : Int) < (e : Int)) = false := by simp; omega
                    clear hr1
                    go_wp2_with fail
                    go_end0
                    exact ⟨rfl, l2, hlw.out l2 hn1.out, hr3'.out, hF3⟩
              · have hg3 : decide ((a : Int) < (i : Int)) = false := by simp; omega
                clear hr1
                have hsn := Lib.hid (hsnd.out l2 hM)
                have hlw := Lib.hid (fun l3 hN => hlaw.out l2 l3 hM hN)
                have HM2 := Lib.hid (fun hs : mid < e ∧ e < b => IH.out g cap mid e b l2 w3 (by omega) hr3 (hsn.out.1.trans hn'.out) hs.1 hs.2 (by omega) hsn.out.2.1 hsn.out.2.2.1 hsn.out.2.2.2)
                have hT2 := Lib.hid (fun hs : ¬ (mid < e ∧ e < b) => merge_triv (by omega) (by omega) hs hsn.out.2.1 hsn.out.2.2.1)
                have hr3' := Lib.hid hr3
                clear hsnd hlaw hsn hM IH hrl hr3
                by_cases hr1 : mid < e ∧ e < b
                · have hg5 : decide ((mid : Int) < (e : Int)) = true := by simp; omega
                  have hg6 : decide ((e : Int) < (b : Int)) = true := by simp; omega
                  have HR' := Lib.hid (HM2.out hr1)
                  obtain ⟨hA5, hA6⟩ := hr1
                  clear HM2 hT2
                  go_wp2_with fail
                  refine HR'.out.mono ?_
                  rintro e' w4 ⟨rfl, l3, hM3, hr4, hF4⟩
                  go_wp2_with fail
                  go_end0
                  exact ⟨rfl, l3, hlw.out l3 hM3, hr4, hF3.trans hF4⟩
                · have hn1 := Lib.hid (hT2.out hr1)
                  clear HM2 hT2
                  by_cases hq2 : mid < e
                  · have hg5 : decide ((mid : Int) < (e : Int)) = true := by simp; omega
                    have hg6 : decide ((e : Int) < (b : Int)) = false := by simp; omega
                    have hA6 : ¬ e < b := fun h => hr1 ⟨hq2, h⟩
                    clear hr1
                    go_wp2_with fail
                    go_end0
                    exact ⟨rfl, l2, hlw.out l2 hn1.out, hr3'.out, hF3⟩
                  · have hg5 : decide ((mid : Int) < (e : Int)) = false := by simp; omega
                    clear hr1
                    go_wp2_with fail
                    go_end0
                    exact ⟨rfl, l2, hlw.out l2 hn1.out, hr3'.out, hF3⟩
          · have hl1 := Lib.hid (hnr.out hr1)
            obtain ⟨w2, hw2⟩ : ∃ w2, w2 = wr := ⟨_, rfl⟩
            subst hw2
            have hr2 : Hid (RowB w2 g t sz l1) := by rw [hl1.out]; exact hrow
            have hF2 := hF0
            clear hF0 HR hnr hrow hl1
            by_cases hq1 : i < m
            · have hg1 : decide ((i : Int) < (m : Int)) = true := by simp; omega
              have hg2 : decide ((m : Int) < (e : Int)) = false := by simp; omega
              have hA2 : ¬ m < e := fun h => hr1 ⟨hq1, h⟩
              clear hr1
              have HM1 := Lib.hid (fun hs : a < i ∧ i < mid => IH.out g cap a i mid l1 w2 (by omega) hr2.out hrl.out hs.1 hs.2 (by omega) hfst.out.1 hfst.out.2.1 hfst.out.2.2)
              have hT1 := Lib.hid (fun hs : ¬ (a < i ∧ i < mid) => merge_triv (by omega) (by omega) hs hfst.out.1 hfst.out.2.1)
              clear hfst
              by_cases hr1 : a < i ∧ i < mid
              · have hg3 : decide ((a : Int) < (i : Int)) = true := by simp; omega
                have hg4 : decide ((i : Int) < (mid : Int)) = true := by simp; omega
                have HR' := Lib.hid (HM1.out hr1)
                obtain ⟨hA3, hA4⟩ := hr1
                clear HM1 hT1
                go_wp2_with fail
                refine HR'.out.mono ?_
                rintro e' w3 ⟨rfl, l2, hM, hr3, hF3'⟩
                have hF3 := hF2.trans hF3'
                clear hr2 hF2 hF3' HR' hg3 hg4
                have hsn := Lib.hid (hsnd.out l2 hM)
                have hlw := Lib.hid (fun l3 hN => hlaw.out l2 l3 hM hN)
                have HM2 := Lib.hid (fun hs : mid < e ∧ e < b => IH.out g cap mid e b l2 w3 (by omega) hr3 (hsn.out.1.trans hn'.out) hs.1 hs.2 (by omega) hsn.out.2.1 hsn.out.2.2.1 hsn.out.2.2.2)
                have hT2 := Lib.hid (fun hs : ¬ (mid < e ∧ e < b) => merge_triv (by omega) (by omega) hs hsn.out.2.1 hsn.out.2.2.1)
                have hr3' := Lib.hid hr3
                clear hsnd hlaw hsn hM IH hrl hr3
                by_cases hr1 : mid < e ∧ e < b
                · have hg5 : decide ((mid : Int) < (e : Int)) = true := by simp; omega
                  have hg6 : decide ((e : Int) < (b : Int)) = true := by simp; omega
                  have HR' := Lib.hid (HM2.out hr1)
                  obtain ⟨hA5, hA6⟩ := hr1
                  clear HM2 hT2
                  go_wp2_with fail
                  refine HR'.out.mono ?_
                  rintro e' w4 ⟨rfl, l3, hM3, hr4, hF4⟩
                  go_wp2_with fail
                  go_end0
                  exact ⟨rfl, l3, hlw.out l3 hM3, hr4, hF3.trans hF4⟩
                · have hn1 := Lib.hid (hT2.out hr1)
                  clear HM2 hT2
                  by_cases hq2 : mid < e
                  · have hg5 : decide ((mid : Int) < (e : Int)) = true := by simp; omega
                    have hg6 : decide ((e : Int) < (b : Int)) = false := by simp; omega
                    have hA6 : ¬ e < b := fun h => hr1 ⟨hq2, h⟩
                    clear hr1
                    go_wp2_with fail
                    go_end0
                    exact ⟨rfl, l2, hlw.out l2 hn1.out, hr3'.out, hF3⟩
                  · have hg5 : decide ((mid : Int) < (e : Int)) = false := by simp; omega
                    clear hr1
                    go_wp2_with fail
                    go_end0
                    exact ⟨rfl, l2, hlw.out l2 hn1.out, hr3'.out, hF3⟩
              · have hM := hT1.out hr1
                obtain ⟨l2, hl2⟩ : ∃ l2, l2 = l1 := ⟨_, rfl⟩
                obtain ⟨w3, hw3⟩ : ∃ w3, w3 = w2 := ⟨_, rfl⟩
                subst hw3
                have hr3 : RowB w3 g t sz l2 := by rw [hl2]; exact hr2.out
                have hM' : MergeTo a mid l1 l2 := by rw [hl2]; exact hM
                replace hM := hM'
                have hF3 := hF2
                clear hM' hl2 hr2 hF2 HM1 hT1
                by_cases hq3 : a < i
                · have hg3 : decide ((a : Int) < (i : Int)) = true := by simp; omega
                  have hg4 : decide ((i : Int) < (mid : Int)) = false := by simp; omega
                  have hA4 : ¬ i < mid := fun h => hr1 ⟨hq3, h⟩
                  clear hr1
                  have hsn := Lib.hid (hsnd.out l2 hM)
                  have hlw := Lib.hid (fun l3 hN => hlaw.out l2 l3 hM hN)
                  have HM2 := Lib.hid (fun hs : mid < e ∧ e < b => IH.out g cap mid e b l2 w3 (by omega) hr3 (hsn.out.1.trans hn'.out) hs.1 hs.2 (by omega) hsn.out.2.1 hsn.out.2.2.1 hsn.out.2.2.2)
                  have hT2 := Lib.hid (fun hs : ¬ (mid < e ∧ e < b) => merge_triv (by omega) (by omega) hs hsn.out.2.1 hsn.out.2.2.1)
                  have hr3' := Lib.hid hr3
                  clear hsnd hlaw hsn hM IH hrl hr3
                  by_cases hr1 : mid < e ∧ e < b
                  · have hg5 : decide ((mid : Int) < (e : Int)) = true := by simp; omega
                    have hg6 : decide ((e : Int) < (b : Int)) = true := by simp; omega
                    have HR' := Lib.hid (HM2.out hr1)
                    obtain ⟨hA5, hA6⟩ := hr1
                    clear HM2 hT2
                    go_wp2_with fail
                    refine HR'.out.mono ?_
                    rintro e' w4 ⟨rfl, l3, hM3, hr4, hF4⟩
                    go_wp2_with fail
                    go_end0
                    exact ⟨rfl, l3, hlw.out l3 hM3, hr4, hF3.trans hF4⟩
                  · have hn1 := Lib.hid (hT2.out hr1)
                    clear HM2 hT2
                    by_cases hq2 : mid < e
                    · have hg5 : decide ((mid : Int) < (e : Int)) = true := by simp; omega
                      have hg6 : decide ((e : Int) < (b : Int)) = false := by simp; omega
                      have hA6 : ¬ e < b := fun h => hr1 ⟨hq2, h⟩
                      clear hr1
                      go_wp2_with fail
                      go_end0
                      exact ⟨rfl, l2, hlw.out l2 hn1.out, hr3'.out, hF3⟩
                    · have hg5 : decide ((mid : Int) < (e : Int)) = false := by simp; omega
                      clear hr1
                      go_wp2_with fail
                      go_end0
                      exact ⟨rfl, l2, hlw.out l2 hn1.out, hr3'.out, hF3⟩
                · have hg3 : decide ((a : Int) < (i : Int)) = false := by simp; omega
                  clear hr1
                  have hsn := Lib.hid (hsnd.out l2 hM)
                  have hlw := Lib.hid (fun l3 hN => hlaw.out l2 l3 hM hN)
                  have HM2 := Lib.hid (fun hs : mid < e ∧ e < b => IH.out g cap mid e b l2 w3 (by omega) hr3 (hsn.out.1.trans hn'.out) hs.1 hs.2 (by omega) hsn.out.2.1 hsn.out.2.2.1 hsn.out.2.2.2)
                  have hT2 := Lib.hid (fun hs : ¬ (mid < e ∧ e < b) => merge_triv (by omega) (by omega) hs hsn.out.2.1 hsn.out.2.2.1)
                  have hr3' := Lib.hid hr3
                  clear hsnd hlaw hsn hM IH hrl hr3
                  by_cases hr1 : mid < e ∧ e < b
                  · have hg5 : decide ((mid : Int) < (e : Int)) = true := by simp; omega
                    have hg6 : decide ((e : Int) < (b : Int)) = true := by simp; omega
                    have HR' := Lib.hid (HM2.out hr1)
                    obtain ⟨hA5, hA6⟩ := hr1
                    clear HM2 hT2
                    go_wp2_with fail
                    refine HR'.out.mono ?_
                    rintro e' w4 ⟨rfl, l3, hM3, hr4, hF4⟩
                    go_wp2_with fail
                    go_end0
                    exact ⟨rfl, l3, hlw.out l3 hM3, hr4, hF3.trans hF4⟩
                  · have hn1 := Lib.hid (hT2.out hr1)
                    clear HM2 hT2
                    by_cases hq2 : mid < e
                    · have hg5 : decide ((mid : Int) < (e : Int)) = true := by simp; omega
                      have hg6 : decide ((e : Int) < (b : Int)) = false := by simp; omega
                      have hA6 : ¬ e < b := fun h => hr1 ⟨hq2, h⟩
                      clear hr1
                      go_wp2_with fail
                      go_end0
                      exact ⟨rfl, l2, hlw.out l2 hn1.out, hr3'.out, hF3⟩
                    · have hg5 : decide ((mid : Int) < (e : Int)) = false := by simp; omega
                      clear hr1
                      go_wp2_with fail
                      go_end0
                      exact ⟨rfl, l2, hlw.out l2 hn1.out, hr3'.out, hF3⟩
            · have hg1 : decide ((i : Int) < (m : Int)) = false := by simp; omega
              clear hr1
              have HM1 := Lib.hid (fun hs : a < i ∧ i < mid => IH.out g cap a i mid l1 w2 (by omega) hr2.out hrl.out hs.1 hs.2 (by omega) hfst.out.1 hfst.out.2.1 hfst.out.2.2)
              have hT1 := Lib.hid (fun hs : ¬ (a < i ∧ i < mid) => merge_triv (by omega) (by omega) hs hfst.out.1 hfst.out.2.1)
              clear hfst
              by_cases hr1 : a < i ∧ i < mid
              · have hg3 : decide ((a : Int) < (i : Int)) = true := by simp; omega
                have hg4 : decide ((i : Int) < (mid : Int)) = true := by simp; omega
                have HR' := Lib.hid (HM1.out hr1)
                obtain ⟨hA3, hA4⟩ := hr1
                clear HM1 hT1
                go_wp2_with fail
                refine HR'.out.mono ?_
                rintro e' w3 ⟨rfl, l2, hM, hr3, hF3'⟩
                have hF3 := hF2.trans hF3'
                clear hr2 hF2 hF3' HR' hg3 hg4
                have hsn := Lib.hid (hsnd.out l2 hM)
                have hlw := Lib.hid (fun l3 hN => hlaw.out l2 l3 hM hN)
                have HM2 := Lib.hid (fun hs : mid < e ∧ e < b => IH.out g cap mid e b l2 w3 (by omega) hr3 (hsn.out.1.trans hn'.out) hs.1 hs.2 (by omega) hsn.out.2.1 hsn.out.2.2.1 hsn.out.2.2.2)
                have hT2 := Lib.hid (fun hs : ¬ (mid < e ∧ e < b) => merge_triv (by omega) (by omega) hs hsn.out.2.1 hsn.out.2.2.1)
                have hr3' := Lib.hid hr3
                clear hsnd hlaw hsn hM IH hrl hr3
                by_cases hr1 : mid < e ∧ e < b
                · have hg5 : decide ((mid : Int) < (e : Int)) = true := by simp; omega
                  have hg6 : decide ((e : Int) < (b : Int)) = true := by simp; omega
                  have HR' := Lib.hid (HM2.out hr1)
                  obtain ⟨hA5, hA6⟩ := hr1
                  clear HM2 hT2
                  go_wp2_with fail
                  refine HR'.out.mono ?_
                  rintro e' w4 ⟨rfl, l3, hM3, hr4, hF4⟩
                  go_wp2_with fail
                  go_end0
                  exact ⟨rfl, l3, hlw.out l3 hM3, hr4, hF3.trans hF4⟩
                · have hn1 := Lib.hid (hT2.out hr1)
                  clear HM2 hT2
                  by_cases hq2 : mid < e
                  · have hg5 : decide ((mid : Int) < (e : Int)) = true := by simp; omega
                    have hg6 : decide ((e : Int) < (b : Int)) = false := by simp; omega
                    have hA6 : ¬ e < b := fun h => hr1 ⟨hq2, h⟩
                    clear hr1
                    go_wp2_with fail
                    go_end0
                    exact ⟨rfl, l2, hlw.out l2 hn1.out, hr3'.out, hF3⟩
                  · have hg5 : decide ((mid : Int) < (e : Int)) = false := by simp; omega
                    clear hr1
                    go_wp2_with fail
                    go_end0
                    exact ⟨rfl, l2, hlw.out l2 hn1.out, hr3'.out, hF3⟩
              · have hM := hT1.out hr1
                obtain ⟨l2, hl2⟩ : ∃ l2, l2 = l1 := ⟨_, rfl⟩
                obtain ⟨w3, hw3⟩ : ∃ w3, w3 = w2 := ⟨_, rfl⟩
                subst hw3
                have hr3 : RowB w3 g t sz l2 := by rw [hl2]; exact hr2.out
                have hM' : MergeTo a mid l1 l2 := by rw [hl2]; exact hM
                replace hM := hM'
                have hF3 := hF2
                clear hM' hl2 hr2 hF2 HM1 hT1
                by_cases hq3 : a < i
                · have hg3 : decide ((a : Int) < (i : Int)) = true := by simp; omega
                  have hg4 : decide ((i : Int) < (mid : Int)) = false := by simp; omega
                  have hA4 : ¬ i < mid := fun h => hr1 ⟨hq3, h⟩
                  clear hr1
                  have hsn := Lib.hid (hsnd.out l2 hM)
                  have hlw := Lib.hid (fun l3 hN => hlaw.out l2 l3 hM hN)
                  have HM2 := Lib.hid (fun hs : mid < e ∧ e < b => IH.out g cap mid e b l2 w3 (by omega) hr3 (hsn.out.1.trans hn'.out) hs.1 hs.2 (by omega) hsn.out.2.1 hsn.out.2.2.1 hsn.out.2.2.2)
                  have hT2 := Lib.hid (fun hs : ¬ (mid < e ∧ e < b) => merge_triv (by omega) (by omega) hs hsn.out.2.1 hsn.out.2.2.1)
                  have hr3' := Lib.hid hr3
                  clear hsnd hlaw hsn hM IH hrl hr3
                  by_cases hr1 : mid < e ∧ e < b
                  · have hg5 : decide ((mid : Int) < (e : Int)) = true := by simp; omega
                    have hg6 : decide ((e : Int) < (b : Int)) = true := by simp; omega
                    have HR' := Lib.hid (HM2.out hr1)
                    obtain ⟨hA5, hA6⟩ := hr1
                    clear HM2 hT2
                    go_wp2_with fail
                    refine HR'.out.mono ?_
                    rintro e' w4 ⟨rfl, l3, hM3, hr4, hF4⟩
                    go_wp2_with fail
                    go_end0
                    exact ⟨rfl, l3, hlw.out l3 hM3, hr4, hF3.trans hF4⟩
                  · have hn1 := Lib.hid (hT2.out hr1)
                    clear HM2 hT2
                    by_cases hq2 : mid < e
                    · have hg5 : decide ((mid : Int) < (e : Int)) = true := by simp; omega
                      have hg6 : decide ((e : Int) < (b : Int)) = false := by simp; omega
                      have hA6 : ¬ e < b := fun h => hr1 ⟨hq2, h⟩
                      clear hr1
                      go_wp2_with fail
                      go_end0
                      exact ⟨rfl, l2, hlw.out l2 hn1.out, hr3'.out, hF3⟩
                    · have hg5 : decide ((mid : Int) < (e : Int)) = false := by simp; omega
                      clear hr1
                      go_wp2_with fail
                      go_end0
                      exact ⟨rfl, l2, hlw.out l2 hn1.out, hr3'.out, hF3⟩
                · have hg3 : decide ((a : Int) < (i : Int)) = false := by simp; omega
                  clear hr1
                  have hsn := Lib.hid (hsnd.out l2 hM)
                  have hlw := Lib.hid (fun l3 hN => hlaw.out l2 l3 hM hN)
                  have HM2 := Lib.hid (fun hs : mid < e ∧ e < b => IH.out g cap mid e b l2 w3 (by omega) hr3 (hsn.out.1.trans hn'.out) hs.1 hs.2 (by omega) hsn.out.2.1 hsn.out.2.2.1 hsn.out.2.2.2)
                  have hT2 := Lib.hid (fun hs : ¬ (mid < e ∧ e < b) => merge_triv (by omega) (by omega) hs hsn.out.2.1 hsn.out.2.2.1)
                  have hr3' := Lib.hid hr3
                  clear hsnd hlaw hsn hM IH hrl hr3
                  by_cases hr1 : mid < e ∧ e < b
                  · have hg5 : decide ((mid : Int) < (e : Int)) = true := by simp; omega
                    have hg6 : decide ((e : Int) < (b : Int)) = true := by simp; omega
                    have HR' := Lib.hid (HM2.out hr1)
                    obtain ⟨hA5, hA6⟩ := hr1
                    clear HM2 hT2
                    go_wp2_with fail
                    refine HR'.out.mono ?_
                    rintro e' w4 ⟨rfl, l3, hM3, hr4, hF4⟩
                    go_wp2_with fail
                    go_end0
                    exact ⟨rfl, l3, hlw.out l3 hM3, hr4, hF3.trans hF4⟩
                  · have hn1 := Lib.hid (hT2.out hr1)
                    clear HM2 hT2
                    by_cases hq2 : mid < e
                    · have hg5 : decide ((mid : Int) < (e : Int)) = true := by simp; omega
                      have hg6 : decide ((e : Int) < (b : Int)) = false := by simp; omega
                      have hA6 : ¬ e < b := fun h => hr1 ⟨hq2, h⟩
                      clear hr1
                      go_wp2_with fail
                      go_end0
                      exact ⟨rfl, l2, hlw.out l2 hn1.out, hr3'.out, hF3⟩
                    · have hg5 : decide ((mid : Int) < (e : Int)) = false := by simp; omega
                      clear hr1
                      go_wp2_with fail
                      go_end0
                      exact ⟨rfl, l2, hlw.out l2 hn1.out, hr3'.out, hF3⟩
end Go.Proofs.YtefnnfcfigcikaaGreat
namespace Go.Proofs.YtefnnfcfigcikaaGreat
open Go Go.Proofs Go.RowKit Go.Pol Go.Shelf
attribute [local go_sem] Oper.semAt_some Go.Pol.wide_fn Go.Pol.wide_depth Go.Pol.wide_fn' Go.Pol.wide_depth'

set_option maxRecDepth 100000 in
set_option maxHeartbeats 4000000 in
theorem stable_any (g n cap : Nat) (t : TypeId) (sz : Nat) (l : List Gp) (w : World) (hr : RowB w g t sz l) (hn : l.length = n) (hn64 : n ≤ 1000) (hA : AscX l) :
    Calls Tryz.prog 172 #[.slice (some ⟨g, 0, none⟩) n cap, .int .i64 n, .func (.func 75) #[] #[]] w fun e w' => e = .returned (.tuple #[]) ∧
      ∃ l', l'.Perm l ∧ l'.Pairwise LeX ∧ RowB w' g t sz l' ∧ Far (fun k => k = g) w w' := by
  have hr' := Lib.hid hr
  have hn' := Lib.hid hn
  have hA' := Lib.hid hA
  clear hr hn hA
  go_enter Tryz.func172, Tryz.ntmps172
  go_wp2_with fail
  go_loopw [7, 8] (fun u v wr => ∃ (a b : Nat) (lk : List Gp), u = .int .i64 a ∧ v = .int .i64 b ∧ Hid (b = a + 20) ∧ Hid (20 ∣ a) ∧ a ≤ n ∧ Hid (Ph1 l lk 20 a) ∧ Hid (RowB wr g t sz lk) ∧ Far (fun k => k = g) w wr) (fun _ v _ => n + 40 - (intOf v).toNat)
  case atStart => exact ⟨0, 20, l, rfl, rfl, Lib.hid rfl, Lib.hid ⟨0, rfl⟩, by omega, Lib.hid (Ph1.start l (by omega)), hr', Far.refl _ _⟩
  case round =>
    clear hr'
    obtain ⟨a, b, lk, rfl, rfl, hab, hda, han, hP, hrow, hF⟩ := hrel
    have hlk : Hid (lk.length = n) := Lib.hid (hP.out.len.trans hn'.out)
    by_cases hbn : b ≤ n
    · have h1 : decide ((b : Int) ≤ (n : Int)) = true := by simpa using hbn
      have HI := Lib.hid (insertion_any g n cap a b t sz lk wr hrow.out hlk.out (by have := hab.out; omega) hbn hn64 (hP.out.asc hA'.out))
      obtain ⟨b2, hb2⟩ : ∃ b2, b + 20 = b2 := ⟨_, rfl⟩
      have hw1 : IntKind.i64.wrap ((b : Int) + 20) = (b2 : Int) := by rw [IntKind.wrap_i64]; omega
      go_wp2_with fail
      refine HI.out.mono ?_
      rintro e w2 ⟨rfl, l2, hM, hr2, hF2⟩
      have hP2 := Lib.hid (hP.out.step (l' := l2) hda.out (by have := hab.out; have := hlk.out; omega) (by rw [← hab.out]; exact hM))
      have hF3 := hF.trans hF2
      rw [← hab.out] at hP2
      have hd2 : Hid (20 ∣ b) := Lib.hid (by rw [hab.out]; exact Nat.dvd_add hda.out (Nat.dvd_refl _))
      clear hP hrow hF hF2 HI hM
      go_wp2_with fail
      go_roundw
      case rel => exact ⟨b, b2, l2, rfl, rfl, Lib.hid hb2.symm, hd2, hbn, hP2, Lib.hid hr2, hF3⟩
      case measure => simp [intOf]; omega
    · have h1 : decide ((b : Int) ≤ (n : Int)) = false := by simpa using hbn
      have HI := Lib.hid (insertion_any g n cap a n t sz lk wr hrow.out hlk.out han (Nat.le_refl _) hn64 (hP.out.asc hA'.out))
      go_wp2_with fail
      refine HI.out.mono ?_
      rintro e w2 ⟨rfl, l2, hM, hr2, hF2⟩
      have hB := hP.out.blks (l' := l2) hda.out hlk.out han (by have := hab.out; omega) hM
      have hB1 := Lib.hid hB.1
      have hB2 := Lib.hid (hB.2.trans hn'.out)
      have hF3 := hF.trans hF2
      have hr3 := Lib.hid hr2
      clear hP hrow hF hF2 HI hM hB hr2
      go_wp2_with fail
      go_loopw [6] (fun u wr => ∃ (bs : Nat) (lk : List Gp), u = .int .i64 bs ∧ 20 ≤ bs ∧ bs ≤ 4000 ∧ Hid (Blks l lk bs n 0) ∧ Hid (lk.length = n) ∧ Hid (RowB wr g t sz lk) ∧ Far (fun k => k = g) w wr) (fun u _ => n - (intOf u).toNat)
      case atStart => exact ⟨20, l2, rfl, by omega, by omega, hB1, hB2, hr3, hF3⟩
      case round =>
        clear hB1 hB2 hr3 hF3
        obtain ⟨bs, lk, rfl, hbs, hbs2, hBl, hlk, hrow, hF⟩ := hrel
        by_cases hlt : bs < n
        · have h2 : decide ((bs : Int) < (n : Int)) = true := by simpa using hlt
          obtain ⟨b2, hb2⟩ : ∃ b2, 2 * bs = b2 := ⟨_, rfl⟩
          have hw2 : IntKind.i64.wrap (2 * (bs : Int)) = (b2 : Int) := by rw [IntKind.wrap_i64]; omega
          have hw3 : IntKind.i64.wrap ((bs : Int) * 2) = (b2 : Int) := by rw [IntKind.wrap_i64]; omega
          have hst := Lib.hid (Ph2.start hBl.out hlk.out (by omega))
          have hb2' := Lib.hid hb2
          clear hBl hlk
          go_wp2_with fail
          go_loopw [7, 8] (fun u v wr => ∃ (a b : Nat) (lk : List Gp), u = .int .i64 a ∧ v = .int .i64 b ∧ Hid (b = a + b2) ∧ Hid (b2 ∣ a) ∧ a ≤ n ∧ Hid (Ph2 l lk bs n a) ∧ Hid (RowB wr g t sz lk) ∧ Far (fun k => k = g) w wr) (fun _ v _ => n + b2 - (intOf v).toNat)
          case atStart => exact ⟨0, b2, lk, rfl, rfl, Lib.hid (Nat.zero_add _).symm, Lib.hid ⟨0, rfl⟩, by omega, hst, hrow, hF⟩
          case round =>
            clear hst hrow hF
            obtain ⟨a, b, lk, rfl, rfl, hab, hda, han, hP, hrow, hF⟩ := hrel
            obtain ⟨m, hm⟩ : ∃ m, a + bs = m := ⟨_, rfl⟩
            have hwm : IntKind.i64.wrap ((a : Int) + (bs : Int)) = (m : Int) := by rw [IntKind.wrap_i64]; omega
            by_cases hbn : b ≤ n
            · have h3 : decide ((b : Int) ≤ (n : Int)) = true := by simpa using hbn
              have s1 := hP.out.fst (by rw [hb2]; exact hda.out) (by have := hab.out; omega)
              have s2 := hP.out.snd (by rw [hb2]; exact hda.out) (by have := hab.out; omega)
              rw [hb2, ← hab.out, Nat.min_eq_left hbn, hm] at s2
              rw [hm] at s1
              have HI := Lib.hid (symMerge_any n hn64 t sz (b - a) g cap a m b lk wr (Nat.le_refl _) hrow.out hP.out.len (by omega) (by have := hab.out; omega) hbn s1.srt s2.srt (s1.tie s2 hA'.out (by omega) (by have := hab.out; omega)))
              obtain ⟨b3, hb3⟩ : ∃ b3, b + b2 = b3 := ⟨_, rfl⟩
              have hw4 : IntKind.i64.wrap ((b : Int) + (b2 : Int)) = (b3 : Int) := by rw [IntKind.wrap_i64]; omega
              clear s1 s2
              go_wp2_with fail
              refine HI.out.mono ?_
              rintro e w2 ⟨rfl, l2, hM, hr2, hF2⟩
              have hP2 := Lib.hid (hP.out.step (l' := l2) (by rw [hb2]; exact hda.out) (by have := hab.out; omega) (by rw [hb2, ← hab.out]; exact hM))
              rw [hb2, ← hab.out] at hP2
              have hd2 : Hid (b2 ∣ b) := Lib.hid (by rw [hab.out]; exact Nat.dvd_add hda.out (Nat.dvd_refl _))
              have hF3 := hF.trans hF2
              clear hP hrow hF hF2 HI hM
              go_wp2_with fail
              go_roundw
              case rel => exact ⟨b, b3, l2, rfl, rfl, Lib.hid hb3.symm, hd2, hbn, hP2, Lib.hid hr2, hF3⟩
              case measure => simp [intOf]; omega
            · have h3 : decide ((b : Int) ≤ (n : Int)) = false := by simpa using hbn
              by_cases hmn : m < n
              · have h4 : decide ((m : Int) < (n : Int)) = true := by simpa using hmn
                have s1 := hP.out.fst (by rw [hb2]; exact hda.out) (by omega)
                have s2 := hP.out.snd (by rw [hb2]; exact hda.out) (by omega)
                rw [hb2, ← hab.out, Nat.min_eq_right (by omega), hm] at s2
                rw [hm] at s1
                have HI := Lib.hid (symMerge_any n hn64 t sz (n - a) g cap a m n lk wr (Nat.le_refl _) hrow.out hP.out.len (by omega) (by omega) (Nat.le_refl _) s1.srt s2.srt (s1.tie s2 hA'.out (by omega) (by omega)))
                clear s1 s2
                go_wp2_with fail
                refine HI.out.mono ?_
                rintro e w2 ⟨rfl, l2, hM, hr2, hF2⟩
                have hB := hP.out.last (l' := l2) (by rw [hb2]; exact hda.out) (by omega) (by have := hab.out; omega) hM
                rw [hb2] at hB
                have hB1 := Lib.hid hB.1
                have hB2 := Lib.hid hB.2
                have hF3 := hF.trans hF2
                clear hP hrow hF hF2 HI hM hB
                go_wp2_with fail
                go_roundw
                case rel => exact ⟨b2, l2, rfl, by omega, by omega, hB1, hB2, Lib.hid hr2, hF3⟩
                case measure => simp [intOf]; omega
              · have h4 : decide ((m : Int) < (n : Int)) = false := by simpa using hmn
                have hB := hP.out.none (by rw [hb2]; exact hda.out) (by omega) (by have := hab.out; omega) han
                rw [hb2] at hB
                have hB1 := Lib.hid hB
                have hB2 := Lib.hid hP.out.len
                clear hP hB
                go_wp2_with fail
                go_roundw
                case rel => exact ⟨b2, lk, rfl, by omega, by omega, hB1, hB2, hrow, hF⟩
                case measure => simp [intOf]; omega
        · have h2 : decide ((bs : Int) < (n : Int)) = false := by simpa using hlt
          have hS := hBl.out.end_ (by omega)
          have e1 : cut lk 0 n = lk := by unfold cut; rw [List.drop_zero, List.take_of_length_le (by have := hlk.out; omega)]
          have e2 : cut l 0 n = l := by unfold cut; rw [List.drop_zero, List.take_of_length_le (by have := hn'.out; omega)]
          have hp := hS.perm
          have hs := hS.srt
          rw [e1, e2] at hp
          rw [e1] at hs
          have hps := Lib.hid (And.intro hp hs)
          clear hS e1 e2 hp hs
          go_wp2_with fail
          go_end0
          exact ⟨rfl, lk, hps.out.1, hps.out.2, hrow.out, hF⟩
end Go.Proofs.YtefnnfcfigcikaaGreat
namespace Go.Proofs.YtefnnfcfigcikaaGreat
open Go Go.Proofs Go.RowKit Go.Pol Go.Shelf

theorem rowG_cells {cs : Array Value} {us : List Gp} (h : RowG cs us) : cs.toList.take (us.length * 4) = gCells us := by
  apply List.ext_getElem?
  intro t
  have hl := gCells_len us
  rw [List.getElem?_take]
  by_cases ht : t < us.length * 4
  · rw [if_pos ht, Array.getElem?_toList]
    have hk : t / 4 < us.length := by omega
    have hat := gCells_at us (t / 4) hk
    have hr := h.at_ (t / 4) hk
    rcases (show t % 4 = 0 ∨ t % 4 = 1 ∨ t % 4 = 2 ∨ t % 4 = 3 by omega) with h | h | h | h
    · rw [show t = t / 4 * 4 by omega, hat.1, hr.1]
    · have e : t = t / 4 * 4 + 1 := by omega
      generalize t / 4 = k at *
      subst e
      rw [hat.2.1, hr.2.1]
    · have e : t = t / 4 * 4 + 2 := by omega
      generalize t / 4 = k at *
      subst e
      rw [hat.2.2.1, hr.2.2.1]
    · have e : t = t / 4 * 4 + 3 := by omega
      generalize t / 4 = k at *
      subst e
      rw [hat.2.2.2, hr.2.2.2]
  · rw [if_neg ht, List.getElem?_eq_none (by omega)]
theorem rowG_of {cs : Array Value} {us : List Gp} (hb : us.length * 4 ≤ cs.size) (h : cs.toList.take (us.length * 4) = gCells us) : RowG cs us := by
  refine ⟨hb, fun k hk => ?_⟩
  have hat := gCells_at us k hk
  have g : ∀ j, j < us.length * 4 → cs[j]? = (gCells us)[j]? := fun j hj => by
    rw [← h, List.getElem?_take, if_pos hj, Array.getElem?_toList]
  rw [g _ (by omega), g _ (by omega), g _ (by omega), g _ (by omega)]
  exact hat
theorem sortsTo_ord (us ord : List Gp) (hA : AscX us) (hp : ord.Perm us) (hs : ord.Pairwise LeX) (hlen : us.length ≤ 1000) : SortsTo us ord := by
  refine ⟨hp.length_eq, fun base v w hbase hrow => ?_⟩
  by_cases hne : us = []
  · subst hne
    obtain ⟨A, cap, rfl⟩ := own_nilG hrow rfl
    have HS := Lib.hid (stableNone A cap w)
    have he : ord = [] := List.Perm.eq_nil hp
    have hfin : w.ownsRow base 151 4 (.slice A ([] : List Gp).length cap) ([] : List Gp).length (gCells ord) := by
      rw [he]; exact hrow
    clear hrow hp hs hA he
    go_enter Tryz.func126, Tryz.ntmps126
    go_wp2_with fail
    refine HS.out.mono ?_
    rintro e w1 ⟨rfl, hw⟩
    subst hw
    go_wp2_with fail
    go_end0
    exact ⟨rfl, hfin, Go.RowKit.Below.refl _ _⟩
  · have hpos : 0 < us.length := List.length_pos_iff.2 hne
    rcases hrow.2 with ⟨_, h0⟩ | ⟨g, cap, cur, rfl, hg, hheap, hnc, hcm, hsz, htk⟩
    · omega
    · have hR : RowB w g 151 (cap * 4) us := ⟨cur, hheap, hsz, rowG_of (by rw [hsz]; exact Nat.mul_le_mul_right 4 hnc) htk⟩
      obtain ⟨n, hn⟩ : ∃ n, us.length = n := ⟨_, rfl⟩
      have HS := Lib.hid (stable_any g n cap 151 (cap * 4) us w hR hn (by omega) hA)
      have hol : Hid (ord.length = n) := Lib.hid (hp.length_eq.trans hn)
      have hAps := Lib.hid (And.intro hA (And.intro hp hs))
      rw [hn] at hnc ⊢
      clear hR hrow hheap hA hp hs htk hsz hn hpos hne hlen
      go_enter Tryz.func126, Tryz.ntmps126
      go_wp2_with fail
      refine HS.out.mono ?_
      rintro e w1 ⟨rfl, l', hp', hs', hr', hF⟩
      obtain rfl := srt_eq hAps.out.1 hp' hs' hAps.out.2.1 hAps.out.2.2
      obtain ⟨cs, hk, hcs, hl⟩ := hr'
      go_wp2_with fail
      go_end0
      refine ⟨rfl, ⟨by rw [gCells_len, hol.out], .inr ⟨g, cap, cs, rfl, hg, hk, hnc, hcm, hcs, ?_⟩⟩, hF.below hbase (fun k hk e => by omega)⟩
      rw [← hol.out]
      exact rowG_cells hl
end Go.Proofs.YtefnnfcfigcikaaGreat
namespace Go.Pol
open Go
/-- a rule: kind, first, every, times -/
abbrev Ru := Int × Int × Int × Int
def ru0 : Ru := (0, 0, 0, 0)
def ruC (x : Ru) : List Value := [.int .i64 x.1, .int .i64 x.2.1, .int .i64 x.2.2.1, .int .i64 x.2.2.2]
theorem ruC_len (x : Ru) : (ruC x).length = 4 := rfl
abbrev ruV (x : Ru) : Value := .agg #[.int .i64 x.1, .int .i64 x.2.1, .int .i64 x.2.2.1, .int .i64 x.2.2.2]
theorem ruC_one (us : List Ru) : ∀ u ∈ fl ruC us, u.oneCell' = true := by
  intro u hu
  simp only [fl, List.mem_flatMap, ruC, List.mem_cons, List.not_mem_nil, or_false] at hu
  obtain ⟨x, _, rfl | rfl | rfl | rfl⟩ := hu <;> rfl
/-- what is wrong with a rule -/
def ruleE (x : Ru) : Int :=
  if x.1 < 0 ∨ 7 ≤ x.1 then 2 else if x.2.1 < 1 ∨ 10000 < x.2.1 ∨ x.2.2.1 < 0 ∨ 12 < x.2.2.1 ∨ x.2.2.2 < 0 ∨ 1000 < x.2.2.2 then 7 else if x.2.2.1 = 0 ∧ x.2.2.2 ≠ 1 then 6 else 0
/-- the first wrong rule -/
def badF : Nat → List Ru → Int × Int
  | _, [] => (0, 0)
  | i, x :: r => if ruleE x ≠ 0 then ((i : Int), ruleE x) else badF (i + 1) r
def chkR (l : List Ru) : Int × Int := if 50 < l.length then (0, 3) else badF 0 l
theorem badF_zero : ∀ (l : List Ru) (i : Nat), (badF i l).2 = 0 ↔ ∀ x ∈ l, ruleE x = 0
  | [], i => by simp [badF]
  | x :: r, i => by
    rw [badF]
    by_cases h : ruleE x = 0
    · rw [if_neg (by simp [h]), badF_zero r (i + 1)]; simp [h]
    · rw [if_pos h]; simp [h]
theorem badF_zero' : ∀ (l : List Ru) (i : Nat), (badF i l).2 = 0 → badF i l = (0, 0)
  | [], i, _ => rfl
  | x :: r, i, h => by
    rw [badF] at h ⊢
    by_cases hx : ruleE x = 0
    · rw [if_neg (by simp [hx])] at h ⊢; exact badF_zero' r (i + 1) h
    · rw [if_pos hx] at h; exact absurd h hx
theorem chkR_zero {l : List Ru} : (chkR l).2 = 0 ↔ l.length ≤ 50 ∧ ∀ x ∈ l, ruleE x = 0 := by
  unfold chkR
  by_cases h : 50 < l.length
  · rw [if_pos h]; simp; omega
  · rw [if_neg h, badF_zero]; simp; omega
theorem ruleE_zero {x : Ru} : ruleE x = 0 ↔ (0 ≤ x.1 ∧ x.1 < 7) ∧ (1 ≤ x.2.1 ∧ x.2.1 ≤ 10000) ∧ (0 ≤ x.2.2.1 ∧ x.2.2.1 ≤ 12) ∧ (0 ≤ x.2.2.2 ∧ x.2.2.2 ≤ 1000) ∧ (x.2.2.1 = 0 → x.2.2.2 = 1) := by
  unfold ruleE
  by_cases h1 : x.1 < 0 ∨ 7 ≤ x.1
  · rw [if_pos h1]; simp; omega
  · rw [if_neg h1]
    by_cases h2 : x.2.1 < 1 ∨ 10000 < x.2.1 ∨ x.2.2.1 < 0 ∨ 12 < x.2.2.1 ∨ x.2.2.2 < 0 ∨ 1000 < x.2.2.2
    · rw [if_pos h2]; simp; omega
    · rw [if_neg h2]
      by_cases h3 : x.2.2.1 = 0 ∧ x.2.2.2 ≠ 1
      · rw [if_pos h3]; simp; omega
      · rw [if_neg h3]; simp; omega
/-- is a call refused by a rule? -/
def rfu (x : Ru) (n : Int) : Bool := decide (x.2.1 ≤ n) && (if x.2.2.1 = 0 then decide (n = x.2.1) else decide ((n - x.2.1) % x.2.2.1 = 0) && (decide (x.2.2.2 = 0) || decide ((n - x.2.1) / x.2.2.1 < x.2.2.2)))
/-- is a call of a kind refused by a plan? -/
def rfd (l : List Ru) (k n : Int) : Bool := l.any fun x => x.1 == k && rfu x n
/-- how many of the first calls are refused -/
def hitN (l : List Ru) (k : Int) : Nat → Int
  | 0 => 0
  | n + 1 => hitN l k n + if rfd l k ((n : Int) + 1) = true then 1 else 0
/-- the first call of a rule after one -/
def nxt (x : Ru) (n : Int) : Int :=
  if n < x.2.1 then x.2.1 else if x.2.2.1 = 0 then 0 else
  if 0 < x.2.2.2 ∧ x.2.2.2 ≤ (n - x.2.1) / x.2.2.1 + 1 then 0 else x.2.1 + ((n - x.2.1) / x.2.2.1 + 1) * x.2.2.1
theorem nxt_rfu {x : Ru} (h : ruleE x = 0) {n : Int} (hn : 1 ≤ n) : (nxt x (n - 1) == n) = rfu x n := by
  obtain ⟨_, h1, h2, h3, h4⟩ := ruleE_zero.1 h
  obtain ⟨k, f, e, t⟩ := x
  simp only at h1 h2 h3 h4
  unfold nxt rfu
  simp only
  rw [Bool.eq_iff_iff, beq_iff_eq]
  by_cases c1 : n - 1 < f
  · rw [if_pos c1]
    constructor
    · rintro rfl
      by_cases c2 : e = 0
      · simp [c2]
      · have : 0 < t ∨ t = 0 := by omega
        rw [if_neg c2]
        simp
        omega
    · intro h
      by_cases c2 : e = 0
      · rw [if_pos c2] at h; simp at h; omega
      · simp at h; omega
  · rw [if_neg c1]
    have hfn : f ≤ n := by omega
    by_cases c2 : e = 0
    · rw [if_pos c2, if_pos c2]; simp; omega
    · rw [if_neg c2, if_neg c2]
      have he : 0 < e := by omega
      obtain ⟨q, hq⟩ : ∃ q, (n - 1 - f) / e = q := ⟨_, rfl⟩
      obtain ⟨r, hr⟩ : ∃ r, (n - 1 - f) % e = r := ⟨_, rfl⟩
      have hd := Int.emod_add_mul_ediv (n - 1 - f) e
      have hr0 := Int.emod_nonneg (n - 1 - f) c2
      have hr1 := Int.emod_lt_of_pos (n - 1 - f) he
      rw [hq, hr] at hd
      rw [hr] at hr0 hr1
      rw [hq]
      by_cases c3 : r + 1 = e
      · have e1 : n - f = e * (q + 1) := by rw [Int.mul_add]; omega
        have e2 : (n - f) % e = 0 := by rw [e1]; exact Int.mul_emod_right e (q + 1)
        have e3 : (n - f) / e = q + 1 := by rw [e1]; exact Int.mul_ediv_cancel_left (q + 1) c2
        have e4 : (q + 1) * e = n - f := by rw [e1, Int.mul_comm]
        rw [e2, e3]
        by_cases c4 : 0 < t ∧ t ≤ q + 1
        · rw [if_pos c4]
          simp
          omega
        · rw [if_neg c4, e4]
          simp
          omega
      · have e1 : n - f = (r + 1) + e * q := by omega
        have e2 : (n - f) % e = r + 1 := by
          rw [e1, Int.add_mul_emod_self_left, Int.emod_eq_of_lt (by omega) (by omega)]
        have e4 : (q + 1) * e = e * q + e := by rw [Int.add_mul, Int.one_mul, Int.mul_comm]
        rw [e2]
        constructor
        · intro h
          by_cases c4 : 0 < t ∧ t ≤ q + 1
          · rw [if_pos c4] at h; omega
          · rw [if_neg c4, e4] at h; omega
        · intro h
          simp at h
          omega
theorem rfu_pos {x : Ru} (h : ruleE x = 0) {n : Int} (hr : rfu x n = true) : 1 ≤ n := by
  obtain ⟨_, h1, _⟩ := ruleE_zero.1 h
  unfold rfu at hr
  simp at hr
  omega
/-- the calls that a rule refuses, up to a limit, from the i-th on -/
def callsF (x : Ru) (lim : Int) : Nat → Nat → List Int
  | 0, _ => []
  | d + 1, i => if x.2.1 + (i : Int) * x.2.2.1 ≤ lim ∧ (x.2.2.2 = 0 ∨ (i : Int) < x.2.2.2) then (x.2.1 + (i : Int) * x.2.2.1) :: callsF x lim d (i + 1) else []
def callsL (x : Ru) (lim : Int) : List Int := callsF x lim (lim.toNat + 2) 0
theorem mul_mono' {i j : Nat} {e : Int} (he : 0 ≤ e) (h : i ≤ j) : (i : Int) * e ≤ (j : Int) * e := Int.mul_le_mul_of_nonneg_right (by omega) he
theorem mul_ge {i : Nat} {e : Int} (he : 1 ≤ e) : (i : Int) ≤ (i : Int) * e := by
  have := Int.mul_le_mul_of_nonneg_left he (show (0 : Int) ≤ i by omega)
  rw [Int.mul_one] at this; exact this
theorem mem_callsF {x : Ru} (h : ruleE x = 0) (lim : Int) : ∀ (d i : Nat), lim + 2 ≤ (d : Int) + i → ∀ m, m ∈ callsF x lim d i ↔ ∃ j : Nat, i ≤ j ∧ m = x.2.1 + (j : Int) * x.2.2.1 ∧ m ≤ lim ∧ (x.2.2.2 = 0 ∨ (j : Int) < x.2.2.2)
  | 0, i, hd, m => by
    obtain ⟨_, h1, h2, h3, h4⟩ := ruleE_zero.1 h
    constructor
    · intro hm; cases hm
    · rintro ⟨j, hij, rfl, hl, ht⟩
      by_cases he : x.2.2.1 = 0
      · have := h4 he
        rw [he, Int.mul_zero] at hl
        omega
      · have := mul_ge (i := j) (e := x.2.2.1) (by omega)
        omega
  | d + 1, i, hd, m => by
    obtain ⟨_, h1, h2, h3, h4⟩ := ruleE_zero.1 h
    rw [callsF]
    by_cases hc : x.2.1 + (i : Int) * x.2.2.1 ≤ lim ∧ (x.2.2.2 = 0 ∨ (i : Int) < x.2.2.2)
    · rw [if_pos hc, List.mem_cons, mem_callsF h lim d (i + 1) (by omega) m]
      constructor
      · rintro (rfl | ⟨j, h5, h6⟩)
        · exact ⟨i, Nat.le_refl _, rfl, hc.1, hc.2⟩
        · exact ⟨j, by omega, h6⟩
      · rintro ⟨j, h5, h6, h7⟩
        by_cases e : j = i
        · subst e; exact .inl h6
        · exact .inr ⟨j, by omega, h6, h7⟩
    · rw [if_neg hc]
      constructor
      · intro hm; cases hm
      · rintro ⟨j, hij, rfl, hl, ht⟩
        refine absurd ⟨?_, ?_⟩ hc
        · have := mul_mono' (e := x.2.2.1) h2.1 hij; omega
        · omega
theorem mem_callsL {x : Ru} (h : ruleE x = 0) {lim : Int} (hl : 0 ≤ lim) (m : Int) : m ∈ callsL x lim ↔ m ≤ lim ∧ rfu x m = true := by
  obtain ⟨_, h1, h2, h3, h4⟩ := ruleE_zero.1 h
  unfold callsL
  rw [mem_callsF h lim _ 0 (by omega) m]
  unfold rfu
  constructor
  · rintro ⟨j, _, rfl, hl, ht⟩
    refine ⟨hl, ?_⟩
    have h5 := mul_mono' (e := x.2.2.1) h2.1 (Nat.zero_le j)
    have e1 : x.2.1 + (j : Int) * x.2.2.1 - x.2.1 = (j : Int) * x.2.2.1 := by omega
    rw [e1]
    by_cases he : x.2.2.1 = 0
    · rw [if_pos he, he]; simp
    · rw [if_neg he, Int.mul_emod_left, Int.mul_ediv_cancel _ he]
      simp
      omega
  · rintro ⟨hm, hr⟩
    rw [Bool.and_eq_true, decide_eq_true_eq] at hr
    obtain ⟨hr1, hr2⟩ := hr
    by_cases he : x.2.2.1 = 0
    · rw [if_pos he, decide_eq_true_eq] at hr2
      have := h4 he
      refine ⟨0, Nat.le_refl _, ?_, hm, ?_⟩
      · rw [he]; omega
      · omega
    · rw [if_neg he, Bool.and_eq_true, decide_eq_true_eq, Bool.or_eq_true, decide_eq_true_eq, decide_eq_true_eq] at hr2
      have hq := Int.ediv_nonneg (a := m - x.2.1) (b := x.2.2.1) (by omega) (by omega)
      have hd := Int.emod_add_mul_ediv (m - x.2.1) x.2.2.1
      rw [hr2.1, Int.mul_comm] at hd
      refine ⟨((m - x.2.1) / x.2.2.1).toNat, Nat.zero_le _, ?_, hm, ?_⟩
      · rw [Int.toNat_of_nonneg hq]; omega
      · rw [Int.toNat_of_nonneg hq]; exact hr2.2
/-- one round of the loop over the calls -/
theorem callsF_go {x : Ru} (h : ruleE x = 0) {lim : Int} {d i : Nat} (hd : lim + 2 ≤ (d : Int) + i) (h1 : x.2.1 + (i : Int) * x.2.2.1 ≤ lim) (h2 : x.2.2.2 = 0 ∨ (i : Int) < x.2.2.2) :
    0 < d ∧ callsF x lim d i = (x.2.1 + (i : Int) * x.2.2.1) :: callsF x lim (d - 1) (i + 1) ∧ (x.2.1 + (i : Int) * x.2.2.1) + x.2.2.1 = x.2.1 + ((i + 1 : Nat) : Int) * x.2.2.1 ∧ (i : Int) ≤ lim := by
  obtain ⟨_, k1, k2, k3, k4⟩ := ruleE_zero.1 h
  have hil : (i : Int) ≤ lim := by
    by_cases he : x.2.2.1 = 0
    · have := k4 he
      rw [he, Int.mul_zero] at h1
      omega
    · have := mul_ge (i := i) (e := x.2.2.1) (by omega)
      omega
  have hd0 : 0 < d := by omega
  refine ⟨hd0, ?_, ?_, hil⟩
  · obtain ⟨d', rfl⟩ : ∃ d', d = d' + 1 := ⟨d - 1, by omega⟩
    rw [callsF, if_pos ⟨h1, h2⟩]; rfl
  · rw [show ((i + 1 : Nat) : Int) = (i : Int) + 1 by omega, Int.add_mul, Int.one_mul]; omega
theorem callsF_end {x : Ru} {lim : Int} {d i : Nat} (h : ¬ (x.2.1 + (i : Int) * x.2.2.1 ≤ lim ∧ (x.2.2.2 = 0 ∨ (i : Int) < x.2.2.2))) : callsF x lim d i = [] := by
  cases d with
  | zero => rfl
  | succ d => rw [callsF, if_neg h]
/-- is a call refused, and a mark of it? -/
theorem rfd_snoc (l : List Ru) (x : Ru) (k n : Int) : rfd (l ++ [x]) k n = (rfd l k n || (x.1 == k && rfu x n)) := by simp [rfd]
theorem hitN_bound (l : List Ru) (k : Int) : ∀ n, 0 ≤ hitN l k n ∧ hitN l k n ≤ n
  | 0 => by simp [hitN]
  | n + 1 => by
    have := hitN_bound l k n
    rw [hitN]
    split <;> omega
/-- a state of refusals -/
structure Rf where
  rules : List Ru
  calls : Nat → Int
  hits : Nat → Int
/-- what is wrong with a state -/
def stE (s : Rf) : Int := if (chkR s.rules).2 ≠ 0 then (chkR s.rules).2 else
  if (List.range 7).any (fun k => decide (s.calls k < 0) || decide (1000000 < s.calls k) || !(s.hits k == hitN s.rules k (s.calls k).toNat)) = true then 6 else 0
def upN (f : Nat → Int) (k : Nat) (v : Int) (q : Nat) : Int := if q = k then v else f q
/-- the next call of a kind -/
def nextR (s : Rf) (k : Nat) : Rf × Bool × Int :=
  if stE s ≠ 0 then (⟨[], fun _ => 0, fun _ => 0⟩, false, stE s) else if s.calls k = 1000000 then (⟨[], fun _ => 0, fun _ => 0⟩, false, 3) else
  if rfd s.rules k (s.calls k + 1) = true then (⟨s.rules, upN s.calls k (s.calls k + 1), upN s.hits k (s.hits k + 1)⟩, true, 0) else (⟨s.rules, upN s.calls k (s.calls k + 1), s.hits⟩, false, 0)
end Go.Pol
namespace Go.Proofs.YtefnnfcfigcikaaGreat
open Go Go.Proofs Go.RowKit Go.Pol
attribute [local go_sem] Oper.semAt_some Go.Pol.wide_fn Go.Pol.wide_depth Go.Pol.wide_fn' Go.Pol.wide_depth'

theorem rule_any (x : Ru) (w : World) : Calls Tryz.prog 160 #[ruV x] w fun e w' => e = .returned (.int .i64 (ruleE x)) ∧ Below w.heap.size w w' := by
  obtain ⟨k, f, e, t⟩ := x
  have hb0 := (Below.refl w.heap.size w).alloc (Nat.le_refl _) (.cells #[.int .i64 k, .int .i64 f, .int .i64 e, .int .i64 t] 178)
  have k0 := Blk.new w 178 #[.int .i64 k, .int .i64 f, .int .i64 e, .int .i64 t]
  have c0 := k0.cell
  clear k0
  obtain ⟨R, hR⟩ : ∃ R, ruleE (k, f, e, t) = R := ⟨_, rfl⟩
  rw [hR]
  unfold ruleE at hR
  simp only at hR
  by_cases c1 : k < 0
  · have d1 : decide (k < 0) = true := by simpa using c1
    have hE : Hid (R = 2) := Lib.hid (by rw [← hR, if_pos (by omega)])
    clear hR
    go_enter Tryz.func160, Tryz.ntmps160
    go_wp2_with fail
    go_ret
    exact ⟨by rw [hE.out]; rfl, hb0⟩
  have d1 : decide (k < 0) = false := by simpa using c1
  by_cases c2 : 7 ≤ k
  · have d2 : decide (7 ≤ k) = true := by simpa using c2
    have hE : Hid (R = 2) := Lib.hid (by rw [← hR, if_pos (by omega)])
    clear hR
    go_enter Tryz.func160, Tryz.ntmps160
    go_wp2_with fail
    go_ret
    exact ⟨by rw [hE.out]; rfl, hb0⟩
  have d2 : decide (7 ≤ k) = false := by simpa using c2
  rw [if_neg (by omega)] at hR
  by_cases c3 : f < 1
  · have d3 : decide (f < 1) = true := by simpa using c3
    have hE : Hid (R = 7) := Lib.hid (by rw [← hR, if_pos (by omega)])
    clear hR
    go_enter Tryz.func160, Tryz.ntmps160
    go_wp2_with fail
    go_ret
    exact ⟨by rw [hE.out]; rfl, hb0⟩
  have d3 : decide (f < 1) = false := by simpa using c3
  by_cases c4 : 10000 < f
  · have d4 : decide (10000 < f) = true := by simpa using c4
    have hE : Hid (R = 7) := Lib.hid (by rw [← hR, if_pos (by omega)])
    clear hR
    go_enter Tryz.func160, Tryz.ntmps160
    go_wp2_with fail
    go_ret
    exact ⟨by rw [hE.out]; rfl, hb0⟩
  have d4 : decide (10000 < f) = false := by simpa using c4
  by_cases c5 : e < 0
  · have d5 : decide (e < 0) = true := by simpa using c5
    have hE : Hid (R = 7) := Lib.hid (by rw [← hR, if_pos (by omega)])
    clear hR
    go_enter Tryz.func160, Tryz.ntmps160
    go_wp2_with fail
    go_ret
    exact ⟨by rw [hE.out]; rfl, hb0⟩
  have d5 : decide (e < 0) = false := by simpa using c5
  by_cases c6 : 12 < e
  · have d6 : decide (12 < e) = true := by simpa using c6
    have hE : Hid (R = 7) := Lib.hid (by rw [← hR, if_pos (by omega)])
    clear hR
    go_enter Tryz.func160, Tryz.ntmps160
    go_wp2_with fail
    go_ret
    exact ⟨by rw [hE.out]; rfl, hb0⟩
  have d6 : decide (12 < e) = false := by simpa using c6
  by_cases c7 : t < 0
  · have d7 : decide (t < 0) = true := by simpa using c7
    have hE : Hid (R = 7) := Lib.hid (by rw [← hR, if_pos (by omega)])
    clear hR
    go_enter Tryz.func160, Tryz.ntmps160
    go_wp2_with fail
    go_ret
    exact ⟨by rw [hE.out]; rfl, hb0⟩
  have d7 : decide (t < 0) = false := by simpa using c7
  by_cases c8 : 1000 < t
  · have d8 : decide (1000 < t) = true := by simpa using c8
    have hE : Hid (R = 7) := Lib.hid (by rw [← hR, if_pos (by omega)])
    clear hR
    go_enter Tryz.func160, Tryz.ntmps160
    go_wp2_with fail
    go_ret
    exact ⟨by rw [hE.out]; rfl, hb0⟩
  have d8 : decide (1000 < t) = false := by simpa using c8
  rw [if_neg (by omega)] at hR
  by_cases c9 : e = 0
  · have d9 : (e == 0) = true := by simpa using c9
    by_cases c10 : t = 1
    · have d10 : (t != 1) = false := by simpa using c10
      have hE : Hid (R = 0) := Lib.hid (by rw [← hR, if_neg (by omega)])
      clear c9 c10
      clear hR
      go_enter Tryz.func160, Tryz.ntmps160
      go_wp2_with fail
      go_ret
      exact ⟨by rw [hE.out]; rfl, hb0⟩
    · have d10 : (t != 1) = true := by simpa using c10
      have hE : Hid (R = 6) := Lib.hid (by rw [← hR, if_pos (by omega)])
      clear c9
      clear hR
      go_enter Tryz.func160, Tryz.ntmps160
      go_wp2_with fail
      go_ret
      exact ⟨by rw [hE.out]; rfl, hb0⟩
  · have d9 : (e == 0) = false := by simpa using c9
    have hE : Hid (R = 0) := Lib.hid (by rw [← hR, if_neg (by omega)])
    clear hR
    go_enter Tryz.func160, Tryz.ntmps160
    go_wp2_with fail
    go_ret
    exact ⟨by rw [hE.out]; rfl, hb0⟩
theorem badF_step (l : List Ru) (i : Nat) (h : i < l.length) : badF i (l.drop i) = if ruleE (l.getD i ru0) ≠ 0 then ((i : Int), ruleE (l.getD i ru0)) else badF (i + 1) (l.drop (i + 1)) := by
  rw [Go.Pol.drop_cons ru0 l i h, badF]
set_option maxRecDepth 100000 in
theorem planCheck_any (A : Option Addr) (n cap : Nat) (l : List Ru) (w : World) (hn : l.length = n) (hr : Rd w w.heap.size A (fl ruC l)) :
    Calls Tryz.prog 103 #[.agg #[.slice A n cap]] w fun e w' => e = .returned (.tuple #[.int .i64 (chkR l).1, .int .i64 (chkR l).2]) ∧ Below w.heap.size w w' := by
  have hb0 := (Below.refl w.heap.size w).alloc (Nat.le_refl _) (.cells #[.slice A n cap] 35)
  have k0 := Blk.new w 35 #[.slice A n cap]
  have c0 := k0.cell
  have r0 := hr.on_ hb0
  obtain ⟨R, hR⟩ : ∃ R, chkR l = R := ⟨_, rfl⟩
  rw [hR]
  obtain ⟨ri, re⟩ := R
  unfold chkR at hR
  have hn' := Lib.hid hn
  by_cases h50 : 50 < n
  · have d1 : decide (50 < (n : Int)) = true := by rw [decide_eq_true_eq]; omega
    have hE : Hid ((ri, re) = (0, 3)) := Lib.hid (by rw [← hR, if_pos (by omega)])
    clear hR hr r0 k0 hn h50
    go_enter Tryz.func103, Tryz.ntmps103
    go_wp2_with fail
    go_ret2
    have h := hE.out
    simp only [Prod.mk.injEq] at h
    exact ⟨by rw [h.1, h.2]; rfl, hb0⟩
  · have d1 : decide (50 < (n : Int)) = false := by rw [decide_eq_false_iff_not]; omega
    rw [if_neg (by omega)] at hR
    have hR' := Lib.hid hR
    clear hR hr hn
    obtain ⟨s, hs⟩ : ∃ s, w.heap.size = s := ⟨_, rfl⟩
    have HR := Lib.hid (fun x W => rule_any x W)
    have hs' := Lib.hid hs
    go_enter Tryz.func103, Tryz.ntmps103
    go_upto_region 3 with fail
    generalize w.alloc (.cells #[.slice A n cap] 35) = w0 at *
    rw [hs] at hb0 k0 c0
    try simp only [hs]
    clear hs
    go_wp2_with fail
    go_loopw [14] (fun u wr => ∃ i : Nat, i ≤ n ∧ u = .int .i64 i ∧ Hid (badF i (l.drop i) = (ri, re)) ∧ Below w0.heap.size w0 wr) (fun u _ => n - (intOf u).toNat)
    case atStart => exact ⟨0, by omega, rfl, Lib.hid hR'.out, Below.refl _ _⟩
    case round =>
      clear hR'
      obtain ⟨i, hi, rfl, hR, hB⟩ := hrel
      by_cases hlt : i < n
      · have hlt' : decide ((i : Int) < (n : Int)) = true := by simpa using hlt
        have hst := badF_step l i (by have := hn'.out; omega)
        rw [hR.out] at hst
        obtain ⟨b, o, rfl, hb, hc⟩ := (r0.on_ hB).elem ruC_len (by omega) ru0 (k := i) (by have := hn'.out; omega)
        generalize l.getD i ru0 = x at *
        have hcl := HR.out x
        obtain ⟨k, f, e, t⟩ := x
        have x0 := hc 0 _ rfl
        have x1 := hc 1 _ rfl
        have x2 := hc 2 _ rfl
        have x3 := hc 3 _ rfl
        simp only [Nat.add_zero] at x0
        generalize ruleE (k, f, e, t) = er at *
        have hst' := Lib.hid hst
        have hcl' := Lib.hid hcl
        have hin : (i : Int) < (n : Int) := by omega
        clear hc hst hcl
        have bx := Blk.new wr 178 #[.int .i64 k, .int .i64 f, .int .i64 e, .int .i64 t]
        have hbx := hB.alloc hB.size (.cells #[.int .i64 k, .int .i64 f, .int .i64 e, .int .i64 t] 178)
        have cx := bx.cell
        by_cases he : er = 0
        · subst he
          have hst2 : Hid (badF (i + 1) (l.drop (i + 1)) = (ri, re)) := Lib.hid (by rw [hst'.out, if_neg (by simp)])
          clear hst'
          go_wp2_with fail
          refine (hcl'.out _).mono ?_
          rintro e9 w1 ⟨rfl, hb1⟩
          go_wp2_with fail
          go_roundw
          case rel => exact ⟨i + 1, by omega, by go_num, hst2, hbx.trans (hb1.mono hbx.size)⟩
          case measure => simp [intOf]; omega
        · have he' : (er != 0) = true := by simpa using he
          have hst2 : Hid ((ri, re) = ((i : Int), er)) := Lib.hid (by rw [hst'.out, if_pos he])
          clear hst' he
          go_wp2_with fail
          refine (hcl'.out _).mono ?_
          rintro e9 w1 ⟨rfl, hb1⟩
          go_wp2_with fail
          go_ret2
          have h := hst2.out
          simp only [Prod.mk.injEq] at h
          exact ⟨by rw [h.1, h.2]; rfl, by rw [hs'.out]; exact hb0.trans ((hbx.trans (hb1.mono hbx.size)).mono (by have := hb0.size; have := hs'.out; omega))⟩
      · obtain rfl : i = n := by omega
        have hlt' : decide ((i : Int) < (i : Int)) = false := by simp
        have hE : (0, 0) = (ri, re) := by
          have := hR.out
          rw [List.drop_of_length_le (by have := hn'.out; omega)] at this
          exact this
        simp only [Prod.mk.injEq] at hE
        obtain ⟨rfl, rfl⟩ := hE
        go_wp2_with fail
        go_ret2
        exact ⟨rfl, by rw [hs'.out]; exact hb0.trans (hB.mono (by have := hb0.size; have := hs'.out; omega))⟩
end Go.Proofs.YtefnnfcfigcikaaGreat
namespace Go.Pol
open Go Go.RowKit
/-- a struct out of memory and a number are handed back -/
theorem z_results_cell_tmp {P : Program} {fn : Func} {a u : Tmp} {t : TypeId} {tmps : Array Value} {w : World} {v : Value} {p : Addr} (h : fn.results = #[.cell a t, .tmp u]) (ha : tmps.getD a undef = .pointer (some p)) (hl : (loadVar t p).run P w = .ok v w) :
    (results fn tmps).run P w = .ok (.tuple #[v, tmps.getD u undef]) w := by
  have ha' : tmps[a]?.getD undef = .pointer (some p) := by rw [← ha, Array.getD_eq_getD_getElem?]
  simp [results, h, ha', asAddr, hl]
/-- the cells of a state of refusals -/
def rfC (v : Value) (cs hs : Nat → Int) : List Value := [v, .int .i64 (cs 0), .int .i64 (cs 1), .int .i64 (cs 2), .int .i64 (cs 3), .int .i64 (cs 4), .int .i64 (cs 5), .int .i64 (cs 6),
  .int .i64 (hs 0), .int .i64 (hs 1), .int .i64 (hs 2), .int .i64 (hs 3), .int .i64 (hs 4), .int .i64 (hs 5), .int .i64 (hs 6)]
theorem rfC_one {v : Value} (hv : v.oneCell' = true) (cs hs : Nat → Int) : ∀ x ∈ rfC v cs hs, x.oneCell' = true := by
  intro x hx
  simp only [rfC, List.mem_cons, List.not_mem_nil, or_false] at hx
  rcases hx with rfl | rfl | rfl | rfl | rfl | rfl | rfl | rfl | rfl | rfl | rfl | rfl | rfl | rfl | rfl
  · exact hv
  all_goals rfl
def rfV (v : Value) (cs hs : Nat → Int) : Value := .agg (rfC v cs hs).toArray
/-- rules that a call hands back: in blocks of its own -/
def RulesO (l : List Ru) (w : World) (v : Value) (w' : World) : Prop := ∃ (A : Option Addr) (cap : Nat), v = .slice A l.length cap ∧ Rd w' w'.heap.size A (fl ruC l) ∧ l.length ≤ cap ∧ cap ≤ maxLen ∧ (∀ b o, A = some ⟨b, o, none⟩ → w.heap.size ≤ b) ∧ ((A = none → cap = 0) ∧ ∀ g o, A = some ⟨g, o, none⟩ → l ≠ [] → ∃ cr, Blk w' g 178 cr) ∧ Below w.heap.size w w'
end Go.Pol
namespace Go.Proofs.YtefnnfcfigcikaaGreat
open Go Go.Proofs Go.RowKit Go.Pol
attribute [local go_sem] Oper.semAt_some Go.Pol.wide_fn Go.Pol.wide_depth Go.Pol.wide_fn' Go.Pol.wide_depth'

theorem infoRu : (Tryz.prog.info? 178).map (fun i => (i.zero, i.size, i.bytes)) = some (some (.agg #[.int .i64 0, .int .i64 0, .int .i64 0, .int .i64 0]), 4, 32) := by kernel_rfl
theorem infoRf : (Tryz.prog.info? 79).map (·.size) = some 15 := by kernel_rfl
theorem infoRu_parts : ∃ i0, Tryz.prog.info? 178 = some i0 ∧ i0.zero = some (.agg #[.int .i64 0, .int .i64 0, .int .i64 0, .int .i64 0]) ∧ i0.size = 4 ∧ i0.bytes = 32 := by
  obtain ⟨i0, h⟩ := info_parts infoRu
  exact ⟨i0, h⟩
theorem eqlR_nil (A : Option Addr) (n c : Nat) (w : World) : (binOp .eql 33 (.slice A n c) (.slice none 0 0)).run Tryz.prog w = .ok (.bool A.isNone) w := by
  simp only [binOp]
  simp [Op.equal, Op.maxDepth, run_equalIn_slice_nil w 9999 _ _ A n c Tryz.underlying33]
set_option maxRecDepth 100000 in
theorem cloneR_any (A : Option Addr) (n cap : Nat) (l : List Ru) (w : World) (hn : l.length = n) (hm : n ≤ 1000) (hz : A = none → cap = 0) (hr : Rd w w.heap.size A (fl ruC l)) :
    Calls Tryz.prog 88 #[.slice A n cap] w fun e w' => ∃ v, e = .returned v ∧ RulesO l w v w' := by
  obtain ⟨i0, hi, hz0, hz1, hz2⟩ := infoRu_parts
  have heq := eqlR_nil
  cases A with
  | none =>
    have hc := hz rfl
    subst hc
    have hl : l = [] := by
      cases l with
      | nil => rfl
      | cons x r =>
        obtain ⟨b, o, e, _⟩ := hr 0 (by rw [fl_len ruC_len]; simp)
        cases e
    subst hl
    subst hn
    go_enter Tryz.func88, Tryz.ntmps88
    go_wp2_with fail
    go_ret
    exact ⟨_, rfl, none, 0, rfl, fun k hk => absurd hk (by simp [fl]), Nat.le_refl _, by unfold maxLen; omega, fun b o e => (by cases e), ⟨fun _ => rfl, fun g o e => (by cases e)⟩, Below.refl _ _⟩
  | some ad =>
    have hnews := hr.src ad rfl
    have hb1 := (Below.refl w.heap.size w).alloc (Nat.le_refl _) (.cells #[] 178)
    have hnews' : ∀ (j : Nat) (u : Value), (fl ruC l)[j]? = some u → (w.alloc (.cells #[] 178)).cell? (ad.add j) = some u := fun j u hu => by rw [World.cell?_alloc_some _ _ _ (by rw [hnews j u hu]; rfl)]; exact hnews j u hu
    go_enter Tryz.func88, Tryz.ntmps88
    go_wp2_with (refine wpList_append_own _ rfl (.tmp 5) (.tmp 6) 33 rfl w.heap.size 178 i0 (.agg #[.int .i64 0, .int .i64 0, .int .i64 0, .int .i64 0]) 4 32 Tryz.underlying33 hi hz0 hz1 hz2 rfl (by decide) _ 0 [] rfl (World.ownsRow_made w _ _ (Nat.le_refl _) (by unfold maxLen; omega) rfl) ad n cap (fl ruC l) rfl (by rw [fl_len ruC_len, hn]) hnews' (ruC_one l) (by unfold maxLen; omega) (by omega) (by simp) ?_; intro v' w3 hown' hgrow _)
    go_ret
    have hown2 : w3.ownsRow w.heap.size 178 4 v' l.length (fl ruC l) := by rw [hn]; simpa using hown'
    obtain ⟨A', cap', rfl, h1, h2, h3, h4, h5, h6⟩ := own_Rdt hown2
    exact ⟨_, rfl, A', cap', rfl, h1, h2, h3, h4, ⟨h5, fun g o e _ => h6 g o e⟩, hb1.grown hgrow (by simp) (fun j hj => by cases hj; exact Nat.le_refl _)⟩
/-- what Start hands back -/
def StartO (l : List Ru) (w : World) (e : Ending) (w' : World) : Prop :=
  ((chkR l).2 ≠ 0 ∧ e = .returned (.tuple #[rfV (.slice none 0 0) (fun _ => 0) (fun _ => 0), .int .i64 (chkR l).2]) ∧ Below w.heap.size w w') ∨
  ((chkR l).2 = 0 ∧ ∃ v, e = .returned (.tuple #[rfV v (fun _ => 0) (fun _ => 0), .int .i64 0]) ∧ RulesO l w v w')
set_option maxRecDepth 100000 in
set_option maxHeartbeats 1600000 in
theorem start_any (A : Option Addr) (n cap : Nat) (l : List Ru) (w : World) (hn : l.length = n) (hm : n ≤ 1000) (hz : A = none → cap = 0) (hr : Rd w w.heap.size A (fl ruC l)) :
    Calls Tryz.prog 51 #[.agg #[.slice A n cap]] w (StartO l w) := by
  have HC := Lib.hid (fun W h => planCheck_any A n cap l W hn h)
  have HK := Lib.hid (fun W h => cloneR_any A n cap l W hn hm hz h)
  have hb0 := (Below.refl w.heap.size w).alloc (Nat.le_refl _) (.cells #[.slice A n cap] 35)
  have k0 := Blk.new w 35 #[.slice A n cap]
  have hdef : ∀ e w', StartO l w e w' ↔ StartO l w e w' := fun _ _ => Iff.rfl
  unfold StartO at hdef
  obtain ⟨S, hS⟩ : ∃ S, StartO l w = S := ⟨_, rfl⟩
  rw [hS]
  have hS1 : Hid (∀ (h : (chkR l).2 ≠ 0) w', Below w.heap.size w w' → S (.returned (.tuple #[rfV (.slice none 0 0) (fun _ => 0) (fun _ => 0), .int .i64 (chkR l).2])) w') := Lib.hid (fun h w' hb => by rw [← hS]; exact .inl ⟨h, rfl, hb⟩)
  have hS2 : Hid (∀ (h : (chkR l).2 = 0) v w', RulesO l w v w' → S (.returned (.tuple #[rfV v (fun _ => 0) (fun _ => 0), .int .i64 0])) w') := Lib.hid (fun h v w' hb => by rw [← hS]; exact .inr ⟨h, v, rfl, hb⟩)
  clear hS hdef
  generalize hR : chkR l = R at *
  obtain ⟨ri, re⟩ := R
  simp only at HC hS1 hS2
  clear hR hn hz
  obtain ⟨s, hs⟩ : ∃ s, w.heap.size = s := ⟨_, rfl⟩
  have hs' := Lib.hid hs
  have hb1 := hb0.alloc (by simp) (.cells (rfC (.slice none 0 0) (fun _ => 0) (fun _ => 0)).toArray 79)
  have k1 := k0.alloc (.cells (rfC (.slice none 0 0) (fun _ => 0) (fun _ => 0)).toArray 79)
  have b1 := Blk.new (w.alloc (.cells #[.slice A n cap] 35)) 79 (rfC (.slice none 0 0) (fun _ => 0) (fun _ => 0)).toArray
  rw [World.size_alloc, hs] at b1
  rw [hs] at k1
  unfold rfC at b1 k1 hb1
  go_enter Tryz.func51, Tryz.ntmps51
  go_upto_region 1 with fail
  generalize (w.alloc (.cells #[.slice A n cap] 35)).alloc _ = w1 at *
  have r1 := hr.on_ hb1
  have c1 := k1.cell
  clear k0 hb0 hr hs
  go_wp2_with fail
  refine (HC.out _ r1).mono ?_
  rintro e w2 ⟨rfl, hb2⟩
  have r2 := r1.on_ hb2
  have k2 := k1.call hb2
  have c2 := k2.cell
  have b2 := b1.call hb2
  have B2 := hb1.trans (hb2.mono hb1.size)
  clear r1 c1 k1 b1 hb1 hb2
  by_cases he : re = 0
  · subst he
    go_wp2_with fail
    refine (HK.out _ r2).mono ?_
    rintro e w3 ⟨v, rfl, hv⟩
    obtain ⟨A3, c3, rfl, d1, d2, d3, d4, d5, hb3⟩ := hv
    have b3 := b2.call hb3
    go_wp2_with (refine wpList_store_mid rfl 79 (.tmp 2) (.tmp 19) rfl (s + 1) 0 (rfC (.slice A3 l.length c3) (fun _ => 0) (fun _ => 0)).toArray rfl rfl (z_there b3 0 15 (by simp)) infoRf (Go.all_oneCell_toArray (rfC_one rfl _ _)) ?_)
    have k4 := Blk.puts (g := s + 1) (t := 79) (w := w3) (cs := #[]) (rfC (.slice A3 l.length c3) (fun _ => 0) (fun _ => 0)) 0 w3 _ b3
    rw [putA_all (by rfl)] at k4
    have hF4 := Far.puts (T := fun k => k = s + 1) rfl (rfC (.slice A3 l.length c3) (fun _ => 0) (fun _ => 0)) 0 w3 w3 (Far.refl _ _)
    generalize (w3).setCells (s + 1) 0 (rfC (.slice A3 l.length c3) (fun _ => 0) (fun _ => 0)) = w4 at *
    have hl4 := run_loadVar_mid (P := Tryz.prog) w4 (s + 1) 0 79 (rfC (.slice A3 l.length c3) (fun _ => 0) (fun _ => 0)) _ (fun j v hj => by rw [Nat.zero_add, k4.cell]; simpa using hj) Tryz.underlying79 rfl infoRf
    have hlt4 : s + 1 < w2.heap.size := b2.lt
    have hd4 : Rd w4 w4.heap.size A3 (fl ruC l) := by
      intro k hk
      obtain ⟨b, o, e, hb, hc⟩ := d1 k hk
      have hw2 := d4 b o e
      exact ⟨b, o, e, by have := hF4.size; omega, hF4.cell hc (by show ¬ b = s + 1; omega)⟩
    have hB4 : Below w.heap.size w2 w4 := (hb3.mono (by have := B2.size; exact this)).trans (hF4.below (by have := hb3.size; have := B2.size; omega) (fun k hk e => by have := hs'.out; omega))
    refine bodyPost_ret (v := .tuple #[rfV (.slice A3 l.length c3) (fun _ => 0) (fun _ => 0), .int .i64 0]) ?_ rfl ?_
    · exact z_results_cell_tmp Tryz.results51 rfl hl4
    exact hS2.out (by simp) _ _ ⟨A3, c3, rfl, hd4, d2, d3, fun b o e => by have := d4 b o e; have := B2.size; omega, ⟨d5.1, fun g o e h => (d5.2 g o e h).imp fun cr hcr => hF4.blk hcr (by have := d4 g o e; show ¬ g = s + 1; omega)⟩, B2.trans hB4⟩
  · have he' : (re != 0) = true := by simpa using he
    have hS3 := Lib.hid (hS1.out he)
    go_wp2_with (refine wpList_store_mid rfl 79 (.tmp 2) (.tmp 13) rfl (s + 1) 0 (rfC (.slice none 0 0) (fun _ => 0) (fun _ => 0)).toArray rfl rfl (z_there b2 0 15 (by simp)) infoRf (Go.all_oneCell_toArray (rfC_one rfl _ _)) ?_)
    have k4 := Blk.puts (g := s + 1) (t := 79) (w := w2) (cs := #[]) (rfC (.slice none 0 0) (fun _ => 0) (fun _ => 0)) 0 w2 _ b2
    rw [putA_all (by rfl)] at k4
    have hF4 := Far.puts (T := fun k => k = s + 1) rfl (rfC (.slice none 0 0) (fun _ => 0) (fun _ => 0)) 0 w2 w2 (Far.refl _ _)
    generalize (w2).setCells (s + 1) 0 (rfC (.slice none 0 0) (fun _ => 0) (fun _ => 0)) = w4 at *
    have hl4 := run_loadVar_mid (P := Tryz.prog) w4 (s + 1) 0 79 (rfC (.slice none 0 0) (fun _ => 0) (fun _ => 0)) _ (fun j v hj => by rw [Nat.zero_add, k4.cell]; simpa using hj) Tryz.underlying79 rfl infoRf
    have hB4 : Below w.heap.size w2 w4 := hF4.below (by have := B2.size; omega) (fun k hk e => by have := hs'.out; omega)
    refine bodyPost_ret (v := .tuple #[rfV (.slice none 0 0) (fun _ => 0) (fun _ => 0), .int .i64 re]) ?_ rfl ?_
    · exact z_results_cell_tmp Tryz.results51 rfl hl4
    exact hS3.out _ (B2.trans hB4)
end Go.Proofs.YtefnnfcfigcikaaGreat
namespace Go.Pol
theorem z_prefix {α : Type} {pre rest xs : List α} {x : α} (h : xs = pre ++ x :: rest) : pre ++ [x] <+: xs := ⟨rest, by simp [h]⟩
end Go.Pol
namespace Go.Proofs.YtefnnfcfigcikaaGreat
open Go Go.Proofs Go.RowKit Go.Pol Go.Shelf
attribute [local go_sem] Oper.semAt_some Go.Pol.wide_fn Go.Pol.wide_depth Go.Pol.wide_fn' Go.Pol.wide_depth'

theorem calls_any (x : Ru) (lim : Int) (w : World) :
    Calls Tryz.prog 237 #[ruV x, .int .i64 lim] w fun e w' => e = .returned (.func (.func 240) #[] #[.pointer (some ⟨w.heap.size, 0, none⟩), .pointer (some ⟨w.heap.size + 1, 0, none⟩)]) ∧
      w' = (w.alloc (.cells #[.int .i64 x.1, .int .i64 x.2.1, .int .i64 x.2.2.1, .int .i64 x.2.2.2] 178)).alloc (.cells #[.int .i64 lim] 3) := by
  obtain ⟨k, f, e, t⟩ := x
  go_enter Tryz.func237, Tryz.ntmps237
  go_wp2
  go_ret
  exact ⟨rfl, rfl⟩
theorem calls_enters : ∀ args w, (callFunc 240 args).run Tryz.prog w = .ok (.enter 240 args) w := enters_of Tryz.func240 (by kernel_rfl) rfl
set_option maxHeartbeats 1600000 in
theorem calls1_seq (k f e t lim : Int) (B1 B2 : Nat) (w : World) (hx : ruleE (k, f, e, t) = 0) (hl : 0 ≤ lim ∧ lim ≤ 1000000) (hB1 : Blk w B1 178 #[.int .i64 k, .int .i64 f, .int .i64 e, .int .i64 t]) (hB2 : Blk w B2 3 #[.int .i64 lim]) :
    SeqF Tryz.prog 240 #[.pointer (some ⟨B1, 0, none⟩), .pointer (some ⟨B2, 0, none⟩)] (fun v : Int => #[.int .i64 v]) (fun _ => False) (fun k => k = B1 ∨ k = B2) (callsL (k, f, e, t) lim) w := by
  intro m l J Jx W hW hJ hJx hY h0
  have kB1 := hW.blk hB1 (by simp)
  have kB2 := hW.blk hB2 (by simp)
  obtain ⟨_, h1, h2, h3, h4⟩ := ruleE_zero.1 hx
  simp only at h1 h2 h3 h4
  have hx' := Lib.hid hx
  have h4' := Lib.hid h4
  have hC0 : Hid (callsL (k, f, e, t) lim = [] ++ callsF (k, f, e, t) lim (lim.toNat + 2) 0) := Lib.hid rfl
  generalize callsL (k, f, e, t) lim = CL at *
  clear h4 hx hB1 hB2 hW
  refine callsIn_of_wp Tryz.func240 rfl trivial ?_ rfl
  simp only [Tryz.ntmps240, List.size_toArray, List.length_cons, List.length_nil, Nat.reduceAdd, Nat.reduceSub, Array.replicate_succ, Array.replicate_zero, List.push_toArray, List.append_toArray, List.nil_append, List.cons_append]
  have c1 := kB1.cell
  have c2 := kB2.cell
  gi_wp2
  clear c1 c2
  gi_loopw [4, 5] (fun u v wr => ∃ (i d : Nat) (nv : Int) (pre : List Int), u = .int .i64 nv ∧ v = .int .i64 i ∧ 0 ≤ nv ∧ Hid (nv = f + (i : Int) * e) ∧ Hid (lim + 2 ≤ (d : Int) + i) ∧ (i : Int) ≤ lim + 1 ∧ J pre wr ∧ Blk wr B1 178 #[.int .i64 k, .int .i64 f, .int .i64 e, .int .i64 t] ∧ Blk wr B2 3 #[.int .i64 lim] ∧ Hid (CL = pre ++ callsF (k, f, e, t) lim d i)) (fun _ v _ => (lim + 2 - intOf v).toNat)
  case atStart => exact ⟨0, lim.toNat + 2, f, [], rfl, rfl, by omega, Lib.hid (by omega), Lib.hid (by omega), by omega, h0, kB1, kB2, hC0⟩
  case round =>
    clear hC0 kB1 kB2 h0
    obtain ⟨i, d, nv, pre, rfl, rfl, hnv0, hnv, hd, hil, hJs, kB1, kB2, hL⟩ := hrel
    have c1 := kB1.cell
    have c2 := kB2.cell
    by_cases g1 : nv ≤ lim
    · have d1 : decide (nv ≤ lim) = true := by simpa using g1
      by_cases g2 : t = 0
      · have d2 : (t == 0) = true := by simpa using g2
        have hgo := callsF_go (x := (k, f, e, t)) hx'.out hd.out (by have := hnv.out; rw [← this]; exact g1) (.inl g2)
        clear g2
        simp only at hgo
        rw [← hnv.out] at hgo
        obtain ⟨hd0, hcf, hnx, hil2⟩ := hgo
        have hL2 : Hid (CL = pre ++ nv :: callsF (k, f, e, t) lim (d - 1) (i + 1)) := Lib.hid (by rw [hL.out, hcf])
        have hnx' := Lib.hid hnx
        clear hcf hnx
        have hwn : IntKind.i64.wrap (nv + e) = nv + e := by rw [IntKind.wrap_i64]; omega
        obtain ⟨fn, tmps, assign, body, hy, hRd⟩ := hY (m - 1) pre nv wr hJs (z_prefix hL2.out)
        clear hL hY
        gi_wp2
        refine hRd.mono ?_
        rintro e9 W3 (⟨rfl, hJ3, hF3⟩ | ⟨rfl, hJx3⟩)
        · have kC1 := hF3.blk kB1 (by simp)
          have kC2 := hF3.blk kB2 (by simp)
          have c3 := kC1.cell
          gi_wp2
          go_roundw
          case rel => exact ⟨i + 1, d - 1, nv + e, pre ++ [nv], by go_num, by go_num, by omega, Lib.hid hnx'.out, Lib.hid (by have := hd.out; omega), by omega, hJ3, kC1, kC2, Lib.hid (by rw [hL2.out]; simp)⟩
          case measure => simp [intOf]; omega
        · gi_wp2
          refine bodyPost_ret (results_none rfl _ _ _) rfl ?_
          exact ⟨⟨_, rfl⟩, .inr ⟨pre ++ [nv], z_prefix hL2.out, hJx3⟩⟩
      · have d2 : (t == 0) = false := by simpa using g2
        by_cases g3 : (i : Int) < t
        · have d3 : decide ((i : Int) < t) = true := by simpa using g3
          have hgo := callsF_go (x := (k, f, e, t)) hx'.out hd.out (by have := hnv.out; rw [← this]; exact g1) (.inr g3)
          simp only at hgo
          rw [← hnv.out] at hgo
          obtain ⟨hd0, hcf, hnx, hil2⟩ := hgo
          have hL2 : Hid (CL = pre ++ nv :: callsF (k, f, e, t) lim (d - 1) (i + 1)) := Lib.hid (by rw [hL.out, hcf])
          have hnx' := Lib.hid hnx
          clear hcf hnx
          have hwn : IntKind.i64.wrap (nv + e) = nv + e := by rw [IntKind.wrap_i64]; omega
          obtain ⟨fn, tmps, assign, body, hy, hRd⟩ := hY (m - 1) pre nv wr hJs (z_prefix hL2.out)
          clear hL hY
          gi_wp2
          refine hRd.mono ?_
          rintro e9 W3 (⟨rfl, hJ3, hF3⟩ | ⟨rfl, hJx3⟩)
          · have kC1 := hF3.blk kB1 (by simp)
            have kC2 := hF3.blk kB2 (by simp)
            have c3 := kC1.cell
            gi_wp2
            go_roundw
            case rel => exact ⟨i + 1, d - 1, nv + e, pre ++ [nv], by go_num, by go_num, by omega, Lib.hid hnx'.out, Lib.hid (by have := hd.out; omega), by omega, hJ3, kC1, kC2, Lib.hid (by rw [hL2.out]; simp)⟩
            case measure => simp [intOf]; omega
          · gi_wp2
            refine bodyPost_ret (results_none rfl _ _ _) rfl ?_
            exact ⟨⟨_, rfl⟩, .inr ⟨pre ++ [nv], z_prefix hL2.out, hJx3⟩⟩
        · have d3 : decide ((i : Int) < t) = false := by simpa using g3
          have hE := callsF_end (x := (k, f, e, t)) (lim := lim) (d := d) (i := i) (by rintro ⟨_, h | h⟩ <;> simp only at h <;> omega)
          have hL2 : Hid (pre = CL) := Lib.hid (by rw [hL.out, hE, List.append_nil])
          clear hE
          gi_wp2
          go_end0
          exact ⟨⟨_, rfl⟩, .inl (by rw [← hL2.out]; exact hJs)⟩
    · have d1 : decide (nv ≤ lim) = false := by simpa using g1
      have hE := callsF_end (x := (k, f, e, t)) (lim := lim) (d := d) (i := i) (by rintro ⟨h, _⟩; simp only at h; rw [← hnv.out] at h; omega)
      have hL2 : Hid (pre = CL) := Lib.hid (by rw [hL.out, hE, List.append_nil])
      clear hE
      gi_wp2
      go_end0
      exact ⟨⟨_, rfl⟩, .inl (by rw [← hL2.out]; exact hJs)⟩
end Go.Proofs.YtefnnfcfigcikaaGreat
namespace Go.Pol
open Go Go.RowKit
/-- what lies in memory while the marks are made -/
def MarkI (s lim : Nat) (A : Option Addr) (n cap : Nat) (f : Nat → Bool) (Ds : List Nat) (w wr : World) : Prop :=
  ∃ cs : Array Value, Blk wr (s + 1) 4 cs ∧ cs.size = lim + 1 ∧ (∀ m, m ≤ lim → cs[m]? = some (.bool (f m))) ∧ Blk wr s 35 #[.slice A n cap] ∧ Blk wr (s + 2) 299 #[.slice (some ⟨s + 1, 0, none⟩) (lim + 1) (lim + 1)] ∧
    (∀ D ∈ Ds, s + 3 ≤ D ∧ wr.heap[D]? = some (.deferred (some []))) ∧ Ds.Pairwise (fun a b => a ≠ b) ∧ (∀ D ∈ Ds, D < wr.heap.size) ∧ Below s w wr
section
variable {s lim : Nat} {A : Option Addr} {n cap : Nat} {f g : Nat → Bool} {Ds : List Nat} {w wr w' : World} {T : Nat → Prop}
theorem MarkI.far (h : MarkI s lim A n cap f Ds w wr) (hF : Far T wr w') (hT : ∀ k, T k → s + 3 ≤ k ∧ k ∉ Ds) : MarkI s lim A n cap f Ds w w' := by
  obtain ⟨cs, kM, hcs, hcm, kP, kO, hDs, hDp, hDl, hB⟩ := h
  have hlt := kM.lt
  refine ⟨cs, hF.blk kM (fun ht => by have := (hT _ ht).1; omega), hcs, hcm, hF.blk kP (fun ht => by have := (hT _ ht).1; omega), hF.blk kO (fun ht => by have := (hT _ ht).1; omega),
    fun D hD => ⟨(hDs D hD).1, hF.same (hDs D hD).2 (fun ht => (hT _ ht).2 hD)⟩, hDp, fun D hD => by have := hDl D hD; have := hF.size; omega, hB.trans (hF.below (by omega) (fun k hk ht => by have := (hT _ ht).1; omega))⟩
theorem MarkI.mark (h : MarkI s lim A n cap f Ds w wr) {m : Nat} (hm : m ≤ lim) (hg : ∀ q, q ≤ lim → g q = if q = m then true else f q) : MarkI s lim A n cap g Ds w (wr.setCell ⟨s + 1, m, none⟩ (.bool true)) := by
  obtain ⟨cs, kM, hcs, hcm, kP, kO, hDs, hDp, hDl, hB⟩ := h
  have hlt := kM.lt
  have hF : Far (fun k => k = s + 1) wr (wr.setCell ⟨s + 1, m, none⟩ (.bool true)) := Far.setCell (T := fun k => k = s + 1) (p := ⟨s + 1, m, none⟩) (Far.refl _ _) (fun _ => rfl) _
  refine ⟨_, kM.set_ m _, by simp [hcs], fun q hq => ?_, hF.blk kP (by omega), hF.blk kO (by omega), fun D hD => ⟨(hDs D hD).1, hF.same (hDs D hD).2 (by have := (hDs D hD).1; omega)⟩, hDp, fun D hD => by have := hDl D hD; have := hF.size; omega, hB.trans (hF.below (by omega) (fun k hk ht => by omega))⟩
  rw [hg q hq, Array.getElem?_setIfInBounds]
  by_cases e : m = q
  · subst e; rw [if_pos rfl, if_pos rfl, if_pos (by omega)]
  · rw [if_neg e, if_neg (Ne.symm e)]; exact hcm q hq
theorem MarkI.congr (h : MarkI s lim A n cap f Ds w wr) (hg : ∀ q, q ≤ lim → g q = f q) : MarkI s lim A n cap g Ds w wr := by
  obtain ⟨cs, kM, hcs, hcm, r⟩ := h
  exact ⟨cs, kM, hcs, fun m hm => by rw [hg m hm]; exact hcm m hm, r⟩
theorem MarkI.more (h : MarkI s lim A n cap f Ds w wr) {D : Nat} (hD : wr.heap[D]? = some (.deferred (some []))) (hs : s + 3 ≤ D) (hn : D ∉ Ds) : MarkI s lim A n cap f (D :: Ds) w wr := by
  obtain ⟨cs, kM, hcs, hcm, kP, kO, hDs, hDp, hDl, hB⟩ := h
  refine ⟨cs, kM, hcs, hcm, kP, kO, fun D' h' => ?_, List.pairwise_cons.2 ⟨fun a ha e => hn (e ▸ ha), hDp⟩, fun D' h' => ?_, hB⟩
  · rcases List.mem_cons.1 h' with rfl | h'
    · exact ⟨hs, hD⟩
    · exact hDs D' h'
  · rcases List.mem_cons.1 h' with rfl | h'
    · exact (Array.getElem?_eq_some_iff.1 hD).1
    · exact hDl D' h'
end
/-- what the marks look like that are handed back -/
def MarksO (l : List Ru) (k : Int) (lim : Nat) (w : World) (e : Ending) (w' : World) : Prop :=
  ∃ (g : Nat) (cs : Array Value), e = .returned (.slice (some ⟨g, 0, none⟩) (lim + 1) (lim + 1)) ∧ Blk w' g 4 cs ∧ cs.size = lim + 1 ∧ (∀ m : Nat, m ≤ lim → cs[m]? = some (.bool (rfd l k m))) ∧ Below w.heap.size w w'
/-- a function that ranged over functions in a loop leaves -/
theorem leave_marks {P : Program} {fn : Func} {tmps : Array Value} {R : Ending → World → Prop} {v : Value} : ∀ (Ds : List Nat) (w : World), (∀ D ∈ Ds, w.heap[D]? = some (.deferred (some []))) → Ds.Pairwise (fun a b => a ≠ b) →
    (∀ w', Far (fun k => k ∈ Ds) w w' → (results fn tmps).run P w' = .ok v w' ∧ R (.returned v) w') → LeavesInM Fence.wide 0 P fn tmps R (Ds.map markOf) .returning w
  | [], w, _, _, h => by
    obtain ⟨h1, h2⟩ := h w (Far.refl _ _)
    exact ⟨v, h1, h2⟩
  | D :: r, w, hD, hp, h => by
    obtain ⟨hp1, hp2⟩ := List.pairwise_cons.1 hp
    have hF : Far (fun k => k = D) w (w.putObj D (.deferred none)) := Far.putObj (T := fun k => k = D) (Far.refl _ _) (fun _ => rfl) _
    refine ⟨by simp, .inl ⟨D, _, rfl, run_takeDeferred (hD D (by simp)), ?_⟩⟩
    refine leave_marks r _ (fun D' hD' => hF.same (hD D' (by simp [hD'])) (fun e => hp1 D' hD' e.symm)) hp2 (fun w' hw' => h w' ?_)
    exact (hF.mono (fun k _ e => by simp [e])).trans (hw'.mono (fun k _ e => by simp [e]))
end Go.Pol
namespace Go.Proofs.YtefnnfcfigcikaaGreat
open Go Go.Proofs Go.RowKit Go.Pol Go.Shelf
attribute [local go_sem] Oper.semAt_some Go.Pol.wide_fn Go.Pol.wide_depth Go.Pol.wide_fn' Go.Pol.wide_depth'

theorem infoBo : (Tryz.prog.info? 4).map (fun i => (i.zero, i.size, i.bytes)) = some (some (.bool false), 1, 1) := by kernel_rfl
theorem infoBo_parts : ∃ i0, Tryz.prog.info? 4 = some i0 ∧ i0.zero = some (.bool false) ∧ i0.size = 1 ∧ i0.bytes = 1 := by
  obtain ⟨i0, h⟩ := info_parts infoBo
  exact ⟨i0, h⟩
theorem makeB (lim : Nat) (hl : lim ≤ 1000000) (W : World) : (Instr.makeSlice 299 (.int .i64 ((lim : Int) + 1)) (.int .i64 ((lim : Int) + 1))).run Tryz.prog W = .ok (.slice (some ⟨W.heap.size, 0, none⟩) (lim + 1) (lim + 1)) (W.alloc (.cells (Array.replicate (lim + 1) (.bool false)) 4)) := by
  obtain ⟨i0, hi0, hz0, hz1, hz2⟩ := infoBo_parts
  have h := run_makeI (P := Tryz.prog) 299 4 i0 (.bool false) Tryz.underlying299 hi0 hz0 rfl hz1 .i64 .i64 (lim + 1) (by rw [hz2]; omega) (by omega) W
  rwa [show ((lim + 1 : Nat) : Int) = (lim : Int) + 1 by omega] at h
set_option maxRecDepth 100000 in
set_option maxHeartbeats 1600000 in
theorem hitMarks_any (A : Option Addr) (n cap : Nat) (l : List Ru) (k : Int) (lim : Nat) (w : World) (hn : l.length = n) (hn1 : n ≤ 1000) (hok : ∀ x ∈ l, ruleE x = 0) (hl : lim ≤ 1000000) (hr : Rd w w.heap.size A (fl ruC l)) :
    Calls Tryz.prog 226 #[.agg #[.slice A n cap], .int .i64 k, .int .i64 lim] w (MarksO l k lim w) := by
  refine calls_of_marks Tryz.func226 rfl ?_
  simp only [Tryz.ntmps226, List.size_toArray, List.length_cons, List.length_nil, Nat.reduceAdd, Nat.reduceSub, Array.replicate_succ, Array.replicate_zero, List.push_toArray, List.append_toArray, List.nil_append, List.cons_append]
  have k0 := Blk.new w 35 #[.slice A n cap]
  have c0 := k0.cell
  have hw1 : IntKind.i64.wrap ((lim : Int) + 1) = ((lim + 1 : Nat) : Int) := by rw [IntKind.wrap_i64]; omega
  have hmk := makeB lim hl
  go_upto_region 2 with fail
  obtain ⟨s, hs⟩ : ∃ s, w.heap.size = s := ⟨_, rfl⟩
  have hb2 : Below s w (((w.alloc (.cells #[.slice A n cap] 35)).alloc (.cells (Array.replicate (lim + 1) (.bool false)) 4)).alloc (.cells #[.slice (some ⟨w.heap.size + 1, 0, none⟩) (lim + 1) (lim + 1)] 299)) := by
    rw [← hs]; exact (((Below.refl w.heap.size w).alloc (Nat.le_refl _) _).alloc (by simp) _).alloc (by simp; omega) _
  have kP := (k0.alloc (.cells (Array.replicate (lim + 1) (.bool false)) 4)).alloc (.cells #[.slice (some ⟨w.heap.size + 1, 0, none⟩) (lim + 1) (lim + 1)] 299)
  have kM := (Blk.new (w.alloc (.cells #[.slice A n cap] 35)) 4 (Array.replicate (lim + 1) (.bool false))).alloc (.cells #[.slice (some ⟨w.heap.size + 1, 0, none⟩) (lim + 1) (lim + 1)] 299)
  have kO := Blk.new ((w.alloc (.cells #[.slice A n cap] 35)).alloc (.cells (Array.replicate (lim + 1) (.bool false)) 4)) 299 #[.slice (some ⟨w.heap.size + 1, 0, none⟩) (lim + 1) (lim + 1)]
  simp only [World.size_alloc, hs] at hb2 kP kM kO ⊢
  generalize ((w.alloc (.cells #[.slice A n cap] 35)).alloc (.cells (Array.replicate (lim + 1) (.bool false)) 4)).alloc (.cells #[.slice (some ⟨s + 1, 0, none⟩) (lim + 1) (lim + 1)] 299) = W2 at *
  have r0 : Rd w s A (fl ruC l) := by rw [← hs]; exact hr
  have hs' := Lib.hid hs
  have hn' := Lib.hid hn
  have hok' := Lib.hid hok
  have hI0 : MarkI s lim A n cap (fun m => rfd (l.take 0) k m) [] w W2 := ⟨_, kM, by simp, fun m hm => by rw [Array.getElem?_replicate, if_pos (by omega)]; simp [rfd], kP, kO, fun D h => (by cases h), List.Pairwise.nil, fun D h => (by cases h), hb2⟩
  have c2 := kP.cell
  clear k0 c0 hr hs hmk hw1 kP kM kO hb2 hn hok
  go_wp2_with fail
  refine wp_loop (fun a wr => ∃ (j : Nat) (Ds : List Nat) (u9 u10 u18 u19 u20 u21 u22 u23 u24 u25 u26 u27 u28 u29 u30 u31 u32 u33 : Value), a = { tmps := #[.agg #[.slice A n cap], .int .i64 k, .int .i64 lim, .pointer (some ⟨s, 0, none⟩), undef, undef, .slice none 0 0, .pointer (some ⟨s + 2, 0, none⟩), undef, u9, u10, .int .i64 lim, .int .i64 ((lim : Int) + 1), .slice (some ⟨s + 1, 0, none⟩) (lim + 1) (lim + 1), .pointer (some ⟨s, 0, none⟩), .slice A n cap, .int .i64 n, .int .i64 j, u18, u19, u20, u21, u22, u23, u24, u25, u26, u27, u28, u29, u30, u31, u32, u33], defers := Ds.map markOf } ∧ j ≤ n ∧ MarkI s lim A n cap (fun m => rfd (l.take j) k m) Ds w wr) (fun a _ => n - (intOf (a.tmps.getD 17 undef)).toNat) ?_ ?_
  · refine ⟨0, [], _, _, _, _, _, _, _, _, _, _, _, _, _, _, _, _, _, _, rfl, by omega, hI0⟩
  · rintro a wr ⟨j, Ds, u9, u10, u18, u19, u20, u21, u22, u23, u24, u25, u26, u27, u28, u29, u30, u31, u32, u33, rfl, hj, hI⟩
    by_cases hlt : j < n
    · have hlt' : decide ((j : Int) < (n : Int)) = true := by simpa using hlt
      have hI' := hI
      obtain ⟨cs, kM, hcs, hcm, kP, kO, hDs, hDp, hDl, hB⟩ := hI
      have hsw := kO.lt
      have hPc := kP.cell
      obtain ⟨b, o, rfl, hbl, hc⟩ := (r0.below hB).elem ruC_len (by omega) ru0 (k := j) (by have := hn'.out; omega)
      have hmem : l.getD j ru0 ∈ l := by rw [List.getD_eq_getElem?_getD, List.getElem?_eq_getElem (by have := hn'.out; omega)]; exact List.getElem_mem _
      have hxok := hok'.out _ hmem
      have hts : l.take (j + 1) = l.take j ++ [l.getD j ru0] := by rw [List.take_add_one, List.getElem?_eq_getElem (by have := hn'.out; omega), List.getD_eq_getElem?_getD, List.getElem?_eq_getElem (by have := hn'.out; omega)]; rfl
      have hsn := Lib.hid (fun m : Int => by have := rfd_snoc (l.take j) (l.getD j ru0) k m; rw [← hts] at this; exact this)
      generalize l.getD j ru0 = x at *
      obtain ⟨xk, f, e, t⟩ := x
      have x0 := hc 0 _ rfl
      have x1 := hc 1 _ rfl
      have x2 := hc 2 _ rfl
      have x3 := hc 3 _ rfl
      simp only [Nat.add_zero] at x0
      have hin : (j : Int) < (n : Int) := by omega
      have kx := Blk.new wr 178 #[.int .i64 xk, .int .i64 f, .int .i64 e, .int .i64 t]
      have hFx : Far (fun _ => False) wr (wr.alloc (.cells #[.int .i64 xk, .int .i64 f, .int .i64 e, .int .i64 t] 178)) := (Far.refl _ _).alloc _
      have cx := kx.cell
      have hIx := hI'.far hFx (fun _ h => h.elim)
      have hxok' := Lib.hid hxok
      have hI2 := Lib.hid hIx
      have hDl' := Lib.hid hDl
      clear hc hmem hts hcs hcm hDs hDp hDl hB kM kO hI' hxok hIx
      by_cases hk : xk = k
      · subst hk
        have hk' : (xk != xk) = false := by simp
        have HC := Lib.hid (fun W => calls_any (xk, f, e, t) (lim : Int) W)
        simp only at HC
        go_wp2_with fail
        refine (HC.out _).mono ?_
        rintro e9 w3 ⟨rfl, rfl⟩
        go_wp2_with fail
        obtain ⟨q, hq⟩ : ∃ q, wr.heap.size = q := ⟨_, rfl⟩
        have kB1 := (Blk.new (wr.alloc (.cells #[.int .i64 xk, .int .i64 f, .int .i64 e, .int .i64 t] 178)) 178 #[.int .i64 xk, .int .i64 f, .int .i64 e, .int .i64 t]).alloc (.cells #[.int .i64 lim] 3)
        have kB2 := Blk.new ((wr.alloc (.cells #[.int .i64 xk, .int .i64 f, .int .i64 e, .int .i64 t] 178)).alloc (.cells #[.int .i64 xk, .int .i64 f, .int .i64 e, .int .i64 t] 178)) 3 #[.int .i64 lim]
        have hF3 : Far (fun _ => False) (wr.alloc (.cells #[.int .i64 xk, .int .i64 f, .int .i64 e, .int .i64 t] 178)) (((wr.alloc (.cells #[.int .i64 xk, .int .i64 f, .int .i64 e, .int .i64 t] 178)).alloc (.cells #[.int .i64 xk, .int .i64 f, .int .i64 e, .int .i64 t] 178)).alloc (.cells #[.int .i64 lim] 3)) := ((Far.refl _ _).alloc _).alloc _
        have hI3 := hI2.out.far hF3 (fun _ h => h.elim)
        have hsz3 : (((wr.alloc (.cells #[.int .i64 xk, .int .i64 f, .int .i64 e, .int .i64 t] 178)).alloc (.cells #[.int .i64 xk, .int .i64 f, .int .i64 e, .int .i64 t] 178)).alloc (.cells #[.int .i64 lim] 3)).heap.size = q + 3 := by simp [hq]
        simp only [World.size_alloc, hq] at kB1 kB2 ⊢
        generalize ((wr.alloc (.cells #[.int .i64 xk, .int .i64 f, .int .i64 e, .int .i64 t] 178)).alloc (.cells #[.int .i64 xk, .int .i64 f, .int .i64 e, .int .i64 t] 178)).alloc (.cells #[.int .i64 lim] 3) = W3 at *
        have hDq : ∀ D ∈ Ds, D < q := fun D hD => by have := hDl'.out D hD; omega
        have hsq : s + 2 < q := by omega
        have hseq := calls1_seq xk f e t lim (q + 1) (q + 2) W3 hxok'.out ⟨by omega, by omega⟩ kB1 kB2
        have hmemL := Lib.hid (fun m : Int => mem_callsL (x := (xk, f, e, t)) hxok'.out (lim := lim) (by omega) m)
        have hpos := Lib.hid (fun (m : Int) h => rfu_pos (x := (xk, f, e, t)) hxok'.out (n := m) h)
        clear HC hI2 hFx kx cx x0 x1 x2 x3 c2 hq hsw hin
        refine rangeF (gf := 240) (lb := #[.pointer (some ⟨q + 1, 0, none⟩), .pointer (some ⟨q + 2, 0, none⟩)]) rfl calls_enters hseq (fun _ => rfl) (fun k h => h.elim) (fun k h => by rw [hsz3]; rcases h with rfl | rfl <;> omega)
          (fun pre W => MarkI s lim (some ⟨b, o, none⟩) n cap (fun m => rfd (l.take j) xk m || decide ((m : Int) ∈ pre)) Ds w W) (fun _ _ _ => False)
          (fun pre A B h hf => h.far hf (fun k h => by rw [hsz3] at h; rcases h with h | h | h; exact h.elim; exact ⟨by omega, fun hD => by have := hDq _ hD; omega⟩; exact ⟨by omega, fun hD => by have := hDq _ hD; omega⟩))
          (fun _ _ _ _ h _ => h.elim) (hI3.congr (fun q _ => by simp))
          (fun _ v a' W => a' = { tmps := #[.agg #[.slice (some ⟨b, o, none⟩) n cap], .int .i64 xk, .int .i64 lim, .pointer (some ⟨s, 0, none⟩), undef, undef, .slice none 0 0, .pointer (some ⟨s + 2, 0, none⟩), undef, .pointer (some ⟨q, 0, none⟩), .int .i64 v, .int .i64 lim, .int .i64 ((lim : Int) + 1), .slice (some ⟨s + 1, 0, none⟩) (lim + 1) (lim + 1), .pointer (some ⟨s, 0, none⟩), .slice (some ⟨b, o, none⟩) n cap, .int .i64 n, .int .i64 j, .bool true, .pointer (some ⟨b, o + j * 4, none⟩), .agg #[.int .i64 xk, .int .i64 f, .int .i64 e, .int .i64 t], .pointer (some ⟨q, 0, none⟩), .int .i64 xk, .int .i64 xk, .bool false, .agg #[.int .i64 xk, .int .i64 f, .int .i64 e, .int .i64 t], .int .i64 lim, .func (.func 240) #[] #[.pointer (some ⟨q + 1, 0, none⟩), .pointer (some ⟨q + 1 + 1, 0, none⟩)], .int .i64 v, u29, u30, u31, u32, u33], defers := [] })
          (fun _ _ _ _ _ h _ => h) ?assign ?body ?done ?stop
        case assign =>
          intro m l' v W C hs hC
          gi_wp2
          exact hC _ _ (Far.refl _ _) rfl
        case body =>
          rintro m l' pre v a' _ W hs hI rfl hpre _ _
          have hvm : v ∈ callsL (xk, f, e, t) lim := hpre.subset (by simp)
          obtain ⟨hv1, hv2⟩ := (hmemL.out v).1 hvm
          have hv3 := hpos.out v hv2
          obtain ⟨vn, rfl⟩ : ∃ vn : Nat, v = (vn : Int) := ⟨v.toNat, by omega⟩
          have hvl : vn ≤ lim := by omega
          have hI' := hI.mark hvl (g := fun m => rfd (l.take j) xk m || decide ((m : Int) ∈ pre ++ [(vn : Int)])) (fun q _ => by
            by_cases e : q = vn
            · subst e; simp
            · have : ¬ (q : Int) = (vn : Int) := by omega
              rw [if_neg e]; simp [this])
          have hI'' := Lib.hid hI'
          obtain ⟨cs, kM, hcs, hcm, kP, kO, _, _, _, _⟩ := hI
          have cO := kO.cell
          have fM := kM.frozen
          have cM := (kM.cell vn).trans (hcm vn hvl)
          have hvlt : (vn : Int) < (lim : Int) + 1 := by omega
          generalize (rfd (l.take j) xk vn || decide ((vn : Int) ∈ pre)) = B0 at cM
          clear hI' hcm hvm hpre hcs kP hv2
          gi_wp2
          exact ⟨Far.setCell (T := fun k => ¬ ((k = q + 1 ∨ k = q + 2) ∨ k = q + 3 ∨ k = q + 3 + 1)) (p := ⟨s + 1, vn, none⟩) (Far.refl _ _) (fun _ => by show ¬ ((s + 1 = q + 1 ∨ s + 1 = q + 2) ∨ s + 1 = q + 3 ∨ s + 1 = q + 3 + 1); omega) _, hI''.out⟩
        case done =>
          rintro W hs hI hd
          rw [hsz3] at hd ⊢
          have hI4 := (hI.more hd (by omega) (fun hD => by have := hDq _ hD; omega)).congr (g := fun m : Nat => rfd (l.take (j + 1)) xk m) (fun q hq => by
            rw [hsn.out]
            congr 1
            rw [Bool.eq_iff_iff, decide_eq_true_eq, hmemL.out]
            simp
            omega)
          have hI5 := Lib.hid hI4
          clear hI4 hI hd
          go_wp2_with fail
          rw [show ((j : Int) + 1) = ((j + 1 : Nat) : Int) by omega]
          refine ⟨⟨j + 1, (q + 3) :: Ds, _, _, _, _, _, _, _, _, _, _, _, _, _, _, _, _, _, _, rfl, by omega, hI5.out⟩, ?_⟩
          simp [intOf]; omega
        case stop => exact fun _ _ _ _ _ h _ => h.elim
      · have hk' : (xk != k) = true := by simpa using hk
        have hI3 := hI2.out.congr (g := fun m : Nat => rfd (l.take (j + 1)) k m) (fun q _ => by rw [hsn.out]; simp [hk])
        have hI3' := Lib.hid hI3
        clear hI3 hk
        go_wp2_with fail
        refine ⟨⟨j + 1, Ds, ⟨by go_num, rfl⟩, by omega, hI3'.out⟩, ?_⟩
        simp only [intOf]; omega
    · obtain rfl : j = n := by omega
      have hlt' : decide ((j : Int) < (j : Int)) = false := by simp
      obtain ⟨cs, kM, hcs, hcm, kP, kO, hDs, hDp, hDl, hB⟩ := hI
      have cO := kO.cell
      have hl' : l.take j = l := List.take_of_length_le (by have := hn'.out; omega)
      rw [hl'] at hcm
      have hsw := kO.lt
      have hfin := Lib.hid (And.intro hDs (And.intro hDp hDl))
      have hM := Lib.hid (And.intro kM (And.intro hcs hcm))
      clear hl' hDs hDp hDl kM hcs hcm
      go_wp2_with fail
      refine leave_marks Ds wr (fun D hD => (hfin.out.1 D hD).2) hfin.out.2.1 (fun w9 hF => ⟨by simp [results, Tryz.results226, go_sem]; rfl, ?_⟩)
      exact ⟨s + 1, cs, rfl, hF.blk hM.out.1 (fun h => by have := (hfin.out.1 _ h).1; omega), hM.out.2.1, hM.out.2.2, by rw [hs'.out]; exact hB.trans (hF.below (by omega) (fun k hk h => by have := (hfin.out.1 _ h).1; omega))⟩
end Go.Proofs.YtefnnfcfigcikaaGreat
namespace Go.Pol
open Go
/-- the marks ahead of a place, counted -/
def cntZ (l : List Ru) (k : Int) : Nat → Int
  | 0 => 0
  | i + 1 => cntZ l k i + if rfd l k (i : Int) = true then 1 else 0
theorem rfd_zero {l : List Ru} (h : ∀ x ∈ l, ruleE x = 0) (k : Int) : rfd l k 0 = false := by
  cases hc : rfd l k 0 with
  | false => rfl
  | true =>
    obtain ⟨x, hx, h1⟩ := List.any_eq_true.1 hc
    rw [Bool.and_eq_true] at h1
    have := rfu_pos (h x hx) h1.2
    omega
theorem cntZ_hit {l : List Ru} (h : ∀ x ∈ l, ruleE x = 0) (k : Int) : ∀ n : Nat, cntZ l k (n + 1) = hitN l k n
  | 0 => by simp [cntZ, hitN, rfd_zero h k]
  | n + 1 => by rw [cntZ, cntZ_hit h k n, hitN]; rfl
theorem cntZ_bound (l : List Ru) (k : Int) : ∀ n : Nat, 0 ≤ cntZ l k n ∧ cntZ l k n ≤ n
  | 0 => by simp [cntZ]
  | n + 1 => by
    have := cntZ_bound l k n
    rw [cntZ]
    split <;> omega
end Go.Pol
namespace Go.Proofs.YtefnnfcfigcikaaGreat
open Go Go.Proofs Go.RowKit Go.Pol Go.Shelf
attribute [local go_sem] Oper.semAt_some Go.Pol.wide_fn Go.Pol.wide_depth Go.Pol.wide_fn' Go.Pol.wide_depth'

set_option maxRecDepth 100000 in
set_option maxHeartbeats 1600000 in
theorem hits_any (A : Option Addr) (n cap : Nat) (l : List Ru) (k : Int) (lim : Nat) (w : World) (hn : l.length = n) (hn1 : n ≤ 1000) (hok : ∀ x ∈ l, ruleE x = 0) (hl : lim ≤ 1000000) (hr : Rd w w.heap.size A (fl ruC l)) :
    Calls Tryz.prog 203 #[.agg #[.slice A n cap], .int .i64 k, .int .i64 lim] w fun e w' => e = .returned (.int .i64 (hitN l k lim)) ∧ Below w.heap.size w w' := by
  have hb0 := (Below.refl w.heap.size w).alloc (Nat.le_refl _) (.cells #[.slice A n cap] 35)
  have k0 := Blk.new w 35 #[.slice A n cap]
  have c0 := k0.cell
  have r0 := hr.on_ hb0
  have HM := hitMarks_any A n cap l k lim _ hn hn1 hok hl r0
  have hz := Lib.hid (cntZ_hit hok k lim)
  have hbd := Lib.hid (cntZ_bound l k)
  generalize hitN l k lim = R at *
  unfold MarksO at HM
  have HM' := Lib.hid HM
  clear HM r0 hr hok hn k0
  go_enter Tryz.func203, Tryz.ntmps203
  go_wp2_with fail
  refine HM'.out.mono ?_
  rintro e w1 ⟨g, cs, rfl, kM, hcs, hcm, hb1⟩
  have B1 := hb0.trans (hb1.mono hb0.size)
  have hcm' := Lib.hid hcm
  clear HM' hb0 hb1 c0 hcm hcs
  go_wp2_with fail
  go_loopw [6, 14] (fun u v wr => ∃ (i : Nat) (c : Int), i ≤ lim + 1 ∧ u = .int .i64 c ∧ v = .int .i64 i ∧ Hid (c = cntZ l k i) ∧ wr = w1) (fun _ v _ => lim + 1 - (intOf v).toNat)
  case atStart => exact ⟨0, 0, by omega, rfl, rfl, Lib.hid rfl, rfl⟩
  case round =>
    obtain ⟨i, c, hi, rfl, rfl, hc, hw⟩ := hrel
    have hw' := hw.symm
    clear hw
    subst hw'
    have hbc := hbd.out i
    rw [← hc.out] at hbc
    by_cases hlt : i < lim + 1
    · have hlt' : decide ((i : Int) < (lim : Int) + 1) = true := by simp; omega
      have hin : (i : Int) < (lim : Int) + 1 := by omega
      have cM := (kM.cell i).trans (hcm'.out i (by omega))
      have hst : Hid (cntZ l k (i + 1) = c + if rfd l k (i : Int) = true then 1 else 0) := Lib.hid (by rw [cntZ, hc.out])
      cases hv : rfd l k (i : Int) with
      | true =>
        rw [hv] at cM
        have hst2 : Hid (c + 1 = cntZ l k (i + 1)) := Lib.hid (by rw [hst.out, hv]; simp)
        clear hst hv
        go_wp2_with fail
        go_roundw
        case rel => exact ⟨i + 1, c + 1, by omega, rfl, by go_num, hst2, trivial⟩
        case measure => simp [intOf]; omega
      | false =>
        rw [hv] at cM
        have hst2 : Hid (c = cntZ l k (i + 1)) := Lib.hid (by rw [hst.out, hv]; simp)
        clear hst hv
        go_wp2_with fail
        go_roundw
        case rel => exact ⟨i + 1, c, by omega, rfl, by go_num, hst2, trivial⟩
        case measure => simp [intOf]; omega
    · obtain rfl : i = lim + 1 := by omega
      have hlt' : decide (((lim + 1 : Nat) : Int) < (lim : Int) + 1) = false := by simp
      have hcR : c = R := by rw [hc.out, hz.out]
      subst hcR
      go_wp2_with fail
      go_ret
      exact ⟨rfl, B1⟩
theorem next_any (x : Ru) (n : Int) (w : World) (hx : ruleE x = 0) (hn : 0 ≤ n ∧ n ≤ 1000000) : Calls Tryz.prog 206 #[ruV x, .int .i64 n] w fun e w' => e = .returned (.int .i64 (nxt x n)) ∧ Below w.heap.size w w' := by
  obtain ⟨k, f, e, t⟩ := x
  obtain ⟨_, h1, h2, h3, h4⟩ := ruleE_zero.1 hx
  simp only at h1 h2 h3 h4
  have hb0 := (Below.refl w.heap.size w).alloc (Nat.le_refl _) (.cells #[.int .i64 k, .int .i64 f, .int .i64 e, .int .i64 t] 178)
  have k0 := Blk.new w 178 #[.int .i64 k, .int .i64 f, .int .i64 e, .int .i64 t]
  have c0 := k0.cell
  clear k0 h4 hx
  obtain ⟨R, hR⟩ : ∃ R, nxt (k, f, e, t) n = R := ⟨_, rfl⟩
  rw [hR]
  unfold nxt at hR
  simp only at hR
  by_cases c1 : n < f
  · have d1 : decide (n < f) = true := by simpa using c1
    have hE : Hid (R = f) := Lib.hid (by rw [← hR, if_pos c1])
    clear hR
    go_enter Tryz.func206, Tryz.ntmps206
    go_wp2_with fail
    go_ret
    exact ⟨by rw [hE.out]; rfl, hb0⟩
  have d1 : decide (n < f) = false := by simpa using c1
  rw [if_neg c1] at hR
  by_cases c2 : e = 0
  · have d2 : (e == 0) = true := by simpa using c2
    have hE : Hid (R = 0) := Lib.hid (by rw [← hR, if_pos c2])
    clear c2
    clear hR
    go_enter Tryz.func206, Tryz.ntmps206
    go_wp2_with fail
    go_ret
    exact ⟨by rw [hE.out]; rfl, hb0⟩
  have d2 : (e == 0) = false := by simpa using c2
  rw [if_neg c2] at hR
  have he : 0 < e := by omega
  obtain ⟨q, hq⟩ : ∃ q, (n - f) / e = q := ⟨_, rfl⟩
  have hq0 : 0 ≤ q := by rw [← hq]; exact Int.ediv_nonneg (by omega) (by omega)
  have hq1 : q ≤ 1000000 := by rw [← hq]; have := Int.ediv_le_self e (show 0 ≤ n - f by omega); omega
  have hqt : Int.tdiv (n - f) e = q := by rw [Int.tdiv_eq_ediv_of_nonneg (by omega)]; exact hq
  have hw1 : IntKind.i64.wrap (n - f) = n - f := by rw [IntKind.wrap_i64]; omega
  have hw2 : IntKind.i64.wrap (q + 1) = q + 1 := by rw [IntKind.wrap_i64]; omega
  rw [hq] at hR
  have hm0 : 0 ≤ (q + 1) * e := Int.mul_nonneg (by omega) (by omega)
  have hm1 : (q + 1) * e ≤ 12000012 := by
    have h5 : (q + 1) * e ≤ 1000001 * e := Int.mul_le_mul_of_nonneg_right (by omega) (by omega)
    omega
  obtain ⟨p, hp⟩ : ∃ p, (q + 1) * e = p := ⟨_, rfl⟩
  rw [hp] at hR hm0 hm1
  have hw3 : IntKind.i64.wrap ((q + 1) * e) = p := by rw [hp, IntKind.wrap_i64]; omega
  have hw4 : IntKind.i64.wrap (f + p) = f + p := by rw [IntKind.wrap_i64]; omega
  clear hq hp
  by_cases c3 : 0 < t
  · have d3 : decide (0 < t) = true := by simpa using c3
    by_cases c4 : t ≤ q + 1
    · have d4 : decide (t ≤ q + 1) = true := by simpa using c4
      have hE : Hid (R = 0) := Lib.hid (by rw [← hR, if_pos ⟨c3, c4⟩])
      clear hR
      go_enter Tryz.func206, Tryz.ntmps206
      go_wp2_with fail
      go_ret
      exact ⟨by rw [hE.out]; rfl, hb0⟩
    · have d4 : decide (t ≤ q + 1) = false := by simpa using c4
      have hE : Hid (R = f + p) := Lib.hid (by rw [← hR, if_neg (by omega)])
      clear hR
      go_enter Tryz.func206, Tryz.ntmps206
      go_wp2_with fail
      go_ret
      exact ⟨by rw [hE.out]; rfl, hb0⟩
  · have d3 : decide (0 < t) = false := by simpa using c3
    have hE : Hid (R = f + p) := Lib.hid (by rw [← hR, if_neg (by omega)])
    clear hR
    go_enter Tryz.func206, Tryz.ntmps206
    go_wp2_with fail
    go_ret
    exact ⟨by rw [hE.out]; rfl, hb0⟩
end Go.Proofs.YtefnnfcfigcikaaGreat
namespace Go.Pol
open Go Go.RowKit
/-- where the first entry is that a test holds of -/
def idxZ {α : Type} (p : α → Bool) : List α → Nat → Int
  | [], _ => -1
  | x :: r, k => if p x = true then (k : Int) else idxZ p r (k + 1)
theorem idxZ_any {α : Type} (p : α → Bool) : ∀ (bs : List α) (k : Nat), decide (0 ≤ idxZ p bs k) = bs.any p
  | [], k => by simp [idxZ]
  | x :: r, k => by
    rw [idxZ]
    cases h : p x with
    | true => simp [h]
    | false => simp [h, idxZ_any p r (k + 1)]
theorem z_getD_mem {α : Type} {l : List α} {d : α} {k : Nat} (h : k < l.length) : l.getD k d ∈ l := by
  rw [List.getD_eq_getElem?_getD, List.getElem?_eq_getElem h]; exact List.getElem_mem _
theorem z_ret_int {x y : Int} (h : x = y) : Ending.returned (.int .i64 x) = Ending.returned (.int .i64 y) := by rw [h]
theorem z_ret_bool {x y : Bool} (h : x = y) : Ending.returned (.bool x) = Ending.returned (.bool y) := by rw [h]
theorem rfC_calls (v : Value) (cs hs : Nat → Int) {j : Nat} (hj : j < 7) : (rfC v cs hs).toArray[1 + j]? = some (.int .i64 (cs j)) := by
  rcases (show j = 0 ∨ j = 1 ∨ j = 2 ∨ j = 3 ∨ j = 4 ∨ j = 5 ∨ j = 6 by omega) with rfl | rfl | rfl | rfl | rfl | rfl | rfl <;> rfl
theorem rfC_hits (v : Value) (cs hs : Nat → Int) {j : Nat} (hj : j < 7) : (rfC v cs hs).toArray[8 + j]? = some (.int .i64 (hs j)) := by
  rcases (show j = 0 ∨ j = 1 ∨ j = 2 ∨ j = 3 ∨ j = 4 ∨ j = 5 ∨ j = 6 by omega) with rfl | rfl | rfl | rfl | rfl | rfl | rfl <;> rfl
def c7 (cs : Nat → Int) : Array Value := #[.int .i64 (cs 0), .int .i64 (cs 1), .int .i64 (cs 2), .int .i64 (cs 3), .int .i64 (cs 4), .int .i64 (cs 5), .int .i64 (cs 6)]
theorem c7_at (cs : Nat → Int) {j : Nat} (hj : j < 7) : (c7 cs)[j]? = some (.int .i64 (cs j)) := by
  rcases (show j = 0 ∨ j = 1 ∨ j = 2 ∨ j = 3 ∨ j = 4 ∨ j = 5 ∨ j = 6 by omega) with rfl | rfl | rfl | rfl | rfl | rfl | rfl <;> rfl
/-- a state that is one -/
structure RfOk (s : Rf) : Prop where
  plan : (chkR s.rules).2 = 0
  calls : ∀ k, k < 7 → 0 ≤ s.calls k ∧ s.calls k ≤ 1000000
  hits : ∀ k, k < 7 → s.hits k = hitN s.rules k (s.calls k).toNat
end Go.Pol
namespace Go.Proofs.YtefnnfcfigcikaaGreat
open Go Go.Proofs Go.RowKit Go.Pol Go.Shelf
attribute [local go_sem] Oper.semAt_some Go.Pol.wide_fn Go.Pol.wide_depth Go.Pol.wide_fn' Go.Pol.wide_depth'

set_option maxRecDepth 100000 in
theorem indexR_any (p : Ru → Bool) (g : Nat) (lb : Array Value) (A : Option Addr) (n cap : Nat) (bs : List Ru) (w : World) (hn : bs.length = n) (hm : n ≤ 1000) (hr : Rd w w.heap.size A (fl ruC bs))
    (eg : ∀ args w, (callFunc g args).run Tryz.prog w = .ok (.enter g args) w)
    (hp : ∀ x ∈ bs, ∀ W, Below w.heap.size w W → Calls Tryz.prog g (#[ruV x] ++ lb) W fun e W' => e = .returned (.bool (p x)) ∧ Below W.heap.size W W') :
    Calls Tryz.prog 227 #[.slice A n cap, .func (.func g) #[] lb] w fun e w' => e = .returned (.int .i64 (idxZ p bs 0)) ∧ Below w.heap.size w w' := by
  obtain ⟨R, hR⟩ : ∃ R, idxZ p bs 0 = R := ⟨_, rfl⟩
  rw [hR]
  have hR' := Lib.hid hR
  have hn' := Lib.hid hn
  have hp' := Lib.hid hp
  clear hR hn hp
  go_enter Tryz.func227, Tryz.ntmps227
  go_wp2_with fail
  go_loopw [8] (fun i wr => ∃ k : Nat, k ≤ n ∧ i = .int .i64 k ∧ Below w.heap.size w wr ∧ Hid (idxZ p (bs.drop k) k = R)) (fun i _ => n - (intOf i).toNat)
  case atStart => exact ⟨0, by omega, rfl, Below.refl _ _, by simpa using hR'⟩
  case round =>
    obtain ⟨k, hk, rfl, hB, hH⟩ := hrel
    by_cases hlt : k < n
    · have hlt' : decide ((k : Int) < (n : Int)) = true := by simpa using hlt
      obtain ⟨b, o, rfl, _, hc⟩ := (hr.on_ hB).elem ruC_len (by omega) ru0 (k := k) (by have := hn'.out; omega)
      have HP := Lib.hid (hp'.out (bs.getD k ru0) (z_getD_mem (by have := hn'.out; omega)) wr hB)
      have hst := hH.out
      rw [Go.Pol.drop_cons ru0 bs k (by have := hn'.out; omega), idxZ] at hst
      generalize bs.getD k ru0 = x at *
      obtain ⟨xk, f, e, t⟩ := x
      have x0 := hc 0 _ rfl
      have x1 := hc 1 _ rfl
      have x2 := hc 2 _ rfl
      have x3 := hc 3 _ rfl
      simp only [Nat.add_zero] at x0
      have hkn : (k : Int) < (n : Int) := by omega
      clear hc
      cases hpx : p (xk, f, e, t) with
      | true =>
        rw [hpx] at HP
        rw [if_pos hpx] at hst
        have hst' := Lib.hid hst
        clear hst hH hpx
        go_wp2_with fail
        refine HP.out.mono ?_
        rintro e w1 ⟨rfl, hb1⟩
        go_wp2_with fail
        go_ret
        exact ⟨z_ret_int hst'.out, hB.trans (hb1.mono hB.size)⟩
      | false =>
        rw [hpx] at HP
        rw [if_neg (by simp [hpx])] at hst
        have hst' := Lib.hid hst
        clear hst hH hpx
        go_wp2_with fail
        refine HP.out.mono ?_
        rintro e w1 ⟨rfl, hb1⟩
        go_wp2_with fail
        go_roundw
        case rel => exact ⟨k + 1, by omega, by go_num, hB.trans (hb1.mono hB.size), hst'⟩
        case measure => simp [intOf]; omega
    · obtain rfl : k = n := by omega
      have hlt' : decide ((k : Int) < (k : Int)) = false := by simp
      have hst := hH.out
      rw [List.drop_of_length_le (by have := hn'.out; omega)] at hst
      have hst' := Lib.hid (show -1 = R from hst)
      clear hst hH
      go_wp2_with fail
      go_ret
      exact ⟨z_ret_int hst'.out, hB⟩
theorem containsR_any (p : Ru → Bool) (g : Nat) (lb : Array Value) (A : Option Addr) (n cap : Nat) (bs : List Ru) (w : World) (hn : bs.length = n) (hm : n ≤ 1000) (hr : Rd w w.heap.size A (fl ruC bs))
    (eg : ∀ args w, (callFunc g args).run Tryz.prog w = .ok (.enter g args) w)
    (hp : ∀ x ∈ bs, ∀ W, Below w.heap.size w W → Calls Tryz.prog g (#[ruV x] ++ lb) W fun e W' => e = .returned (.bool (p x)) ∧ Below W.heap.size W W') :
    Calls Tryz.prog 204 #[.slice A n cap, .func (.func g) #[] lb] w fun e w' => e = .returned (.bool (bs.any p)) ∧ Below w.heap.size w w' := by
  have HI := Lib.hid (indexR_any p g lb A n cap bs w hn hm hr eg hp)
  have hE := Lib.hid (idxZ_any p bs 0)
  generalize idxZ p bs 0 = R at *
  generalize bs.any p = S at *
  go_enter Tryz.func204, Tryz.ntmps204
  go_wp2_with fail
  refine HI.out.mono ?_
  rintro e w1 ⟨rfl, hb1⟩
  go_wp2_with fail
  go_ret
  exact ⟨z_ret_bool hE.out, hb1⟩
theorem refused1_any (x : Ru) (k n : Int) (B4 B5 : Nat) (W : World) (hx : ruleE x = 0) (hn : 1 ≤ n ∧ n ≤ 1000000) (h4 : Blk W B4 3 #[.int .i64 k]) (h5 : Blk W B5 3 #[.int .i64 n]) :
    Calls Tryz.prog 205 #[ruV x, .pointer (some ⟨B4, 0, none⟩), .pointer (some ⟨B5, 0, none⟩)] W fun e W' => e = .returned (.bool (x.1 == k && rfu x n)) ∧ Below W.heap.size W W' := by
  have hnx := nxt_rfu hx hn.1
  have HN := Lib.hid (fun W => next_any x (n - 1) W hx (by omega))
  generalize nxt x (n - 1) = q at *
  generalize rfu x n = R at *
  obtain ⟨xk, f, e, t⟩ := x
  have hw1 : IntKind.i64.wrap (n - 1) = n - 1 := by rw [IntKind.wrap_i64]; omega
  have hb0 := (Below.refl W.heap.size W).alloc (Nat.le_refl _) (.cells #[.int .i64 xk, .int .i64 f, .int .i64 e, .int .i64 t] 178)
  have k0 := Blk.new W 178 #[.int .i64 xk, .int .i64 f, .int .i64 e, .int .i64 t]
  have g4 := h4.alloc (.cells #[.int .i64 xk, .int .i64 f, .int .i64 e, .int .i64 t] 178)
  have g5 := h5.alloc (.cells #[.int .i64 xk, .int .i64 f, .int .i64 e, .int .i64 t] 178)
  obtain ⟨s, hs⟩ : ∃ s, W.heap.size = s := ⟨_, rfl⟩
  clear hx h4 h5
  go_enter Tryz.func205, Tryz.ntmps205
  go_upto_region 1 with fail
  generalize W.alloc (.cells #[.int .i64 xk, .int .i64 f, .int .i64 e, .int .i64 t] 178) = w0 at *
  rw [hs] at hb0 k0
  try simp only [hs]
  have hs' := Lib.hid hs
  clear hs
  have z0 := fun z : Ext w0 => (z.blk k0).cell
  have z4 := fun z : Ext w0 => (z.blk g4).cell
  have z5 := fun z : Ext w0 => (z.blk g5).cell
  by_cases hk : xk = k
  · have d1 : (xk == k) = true := by simpa using hk
    have G := Lib.hid (fun z : Ext w0 => Ext.call (x := z) (HN.out z.w))
    have hE : Hid ((q == n) = R) := Lib.hid hnx
    clear hnx hk
    refine region_ext (by kernel_rfl) (by kernel_rfl) ?_
    repeat (go_big_quiet_step ((go_at_call 206; exact G.out _)))
    refine wpQuiet_nil ?_
    rintro w1 ⟨⟨_, hw1⟩, rfl⟩
    go_wp2_with fail
    go_ret
    exact ⟨z_ret_bool (by rw [d1, Bool.true_and]; exact hE.out), by rw [hs'.out]; exact hb0.trans (hw1.mono (by have := hb0.size; have := hs'.out; omega))⟩
  · have d1 : (xk == k) = false := by simpa using hk
    clear hnx hk
    refine region_ext (by kernel_rfl) (by kernel_rfl) ?_
    repeat (go_big_quiet_step (fail))
    refine wpQuiet_nil ?_
    rintro w1 ⟨⟨_, hw1⟩, rfl⟩
    go_wp2_with fail
    go_ret
    exact ⟨z_ret_bool (by rw [d1, Bool.false_and]), by rw [hs'.out]; exact hb0.trans (hw1.mono (by have := hb0.size; have := hs'.out; omega))⟩
end Go.Proofs.YtefnnfcfigcikaaGreat
namespace Go.Proofs.YtefnnfcfigcikaaGreat
open Go Go.Proofs Go.RowKit Go.Pol Go.Shelf
attribute [local go_sem] Oper.semAt_some Go.Pol.wide_fn Go.Pol.wide_depth Go.Pol.wide_fn' Go.Pol.wide_depth'

theorem refused1_enters : ∀ args w, (callFunc 205 args).run Tryz.prog w = .ok (.enter 205 args) w := enters_of Tryz.func205 (by kernel_rfl) rfl
theorem refused_any (A : Option Addr) (n cap : Nat) (l : List Ru) (k nn : Int) (w : World) (hn : l.length = n) (hm : n ≤ 1000) (hok : ∀ x ∈ l, ruleE x = 0) (hnn : 1 ≤ nn ∧ nn ≤ 1000000) (hr : Rd w w.heap.size A (fl ruC l)) :
    Calls Tryz.prog 192 #[.agg #[.slice A n cap], .int .i64 k, .int .i64 nn] w fun e w' => e = .returned (.bool (rfd l k nn)) ∧ Below w.heap.size w w' := by
  obtain ⟨s, hs⟩ : ∃ s, w.heap.size = s := ⟨_, rfl⟩
  have hb0 := (((Below.refl w.heap.size w).alloc (Nat.le_refl _) (.cells #[.slice A n cap] 35)).alloc (by simp) (.cells #[.int .i64 k] 3)).alloc (by simp; omega) (.cells #[.int .i64 nn] 3)
  have kP := ((Blk.new w 35 #[.slice A n cap]).alloc (.cells #[.int .i64 k] 3)).alloc (.cells #[.int .i64 nn] 3)
  have k4 := (Blk.new (w.alloc (.cells #[.slice A n cap] 35)) 3 #[.int .i64 k]).alloc (.cells #[.int .i64 nn] 3)
  have k5 := Blk.new ((w.alloc (.cells #[.slice A n cap] 35)).alloc (.cells #[.int .i64 k] 3)) 3 #[.int .i64 nn]
  simp only [World.size_alloc, hs] at k4 k5 kP
  have r0 := hr.on_ hb0
  generalize hw0 : ((w.alloc (.cells #[.slice A n cap] 35)).alloc (.cells #[.int .i64 k] 3)).alloc (.cells #[.int .i64 nn] 3) = w0 at *
  have HC := Lib.hid (containsR_any (fun x => x.1 == k && rfu x nn) 205 #[.pointer (some ⟨s + 1, 0, none⟩), .pointer (some ⟨s + 2, 0, none⟩)] A n cap l w0 hn hm r0 refused1_enters
    (fun x hx W hW => refused1_any x k nn (s + 1) (s + 2) W (hok x hx) hnn (k4.call hW) (k5.call hW)))
  have hR : l.any (fun x => x.1 == k && rfu x nn) = rfd l k nn := rfl
  rw [hR] at HC
  generalize rfd l k nn = R at *
  have hw0' := Lib.hid hw0
  have hs' := Lib.hid hs
  have cP := kP.cell
  clear hw0 hs hR r0 hr hok hn k4 k5 kP
  go_enter Tryz.func192, Tryz.ntmps192
  go_upto_region 1 with fail
  rw [hw0'.out]
  simp only [hs'.out]
  go_wp2_with fail
  refine HC.out.mono ?_
  rintro e w1 ⟨rfl, hb1⟩
  go_wp2_with fail
  go_ret
  exact ⟨rfl, hb0.trans (hb1.mono hb0.size)⟩
theorem idx7 (cs : Nat → Int) (j : Nat) (hj : j < 7) (W : World) : (Instr.index 77 (.agg #[.int .i64 (cs 0), .int .i64 (cs 1), .int .i64 (cs 2), .int .i64 (cs 3), .int .i64 (cs 4), .int .i64 (cs 5), .int .i64 (cs 6)]) (.int .i64 j)).run Tryz.prog W = .ok (.int .i64 (cs j)) W := by
  have u := Tryz.underlying77
  have a3 := Tryz.isAgg3
  have z3 := Tryz.sizeOf3
  have hg := c7_at cs hj
  have h1 : 0 ≤ (j : Int) ∧ (j : Int) < 7 := by omega
  obtain ⟨X, hX⟩ : ∃ X, c7 cs = X := ⟨_, rfl⟩
  change (Instr.index 77 (.agg (c7 cs)) (.int .i64 j)).run Tryz.prog W = _
  rw [hX] at hg ⊢
  unfold Instr.index
  simp only [Sem.run_bind, run_underlying u, Result.andThen_ok]
  simp [part, asIntOf, a3, Result.andThen, h1, hg]
set_option maxRecDepth 100000 in
set_option maxHeartbeats 1600000 in
theorem checkState_any (A : Option Addr) (n cap : Nat) (S : Rf) (w : World) (hS : RfOk S) (hn : S.rules.length = n) (hr : Rd w w.heap.size A (fl ruC S.rules)) :
    Calls Tryz.prog 191 #[rfV (.slice A n cap) S.calls S.hits] w fun e w' => e = .returned (.int .i64 0) ∧ Below w.heap.size w w' := by
  obtain ⟨l, cs, hs⟩ := S
  obtain ⟨h1, h2, h3⟩ := hS
  simp only at h1 h2 h3 hn hr
  simp only
  obtain ⟨hlen, hok⟩ := chkR_zero.1 h1
  have hn50 : n ≤ 50 := by omega
  have HC := Lib.hid (fun W h => planCheck_any A n cap l W hn h)
  rw [h1] at HC
  generalize (chkR l).1 = ci at *
  unfold rfV rfC
  have hb0 := (Below.refl w.heap.size w).alloc (Nat.le_refl _) (.cells #[.slice A n cap, .int .i64 (cs 0), .int .i64 (cs 1), .int .i64 (cs 2), .int .i64 (cs 3), .int .i64 (cs 4), .int .i64 (cs 5), .int .i64 (cs 6), .int .i64 (hs 0), .int .i64 (hs 1), .int .i64 (hs 2), .int .i64 (hs 3), .int .i64 (hs 4), .int .i64 (hs 5), .int .i64 (hs 6)] 79)
  have k0 := Blk.new w 79 #[.slice A n cap, .int .i64 (cs 0), .int .i64 (cs 1), .int .i64 (cs 2), .int .i64 (cs 3), .int .i64 (cs 4), .int .i64 (cs 5), .int .i64 (cs 6), .int .i64 (hs 0), .int .i64 (hs 1), .int .i64 (hs 2), .int .i64 (hs 3), .int .i64 (hs 4), .int .i64 (hs 5), .int .i64 (hs 6)]
  have r0 := hr.on_ hb0
  obtain ⟨s, hsz⟩ : ∃ s, w.heap.size = s := ⟨_, rfl⟩
  have hh2 := Lib.hid h2
  have hh3 := Lib.hid h3
  have hix0 := Lib.hid (fun j hj W => idx7 cs j hj W)
  have hok' := Lib.hid hok
  have hn' := Lib.hid hn
  clear hr h1 h2 h3 hok hn
  go_enter Tryz.func191, Tryz.ntmps191
  go_upto_region 1 with fail
  generalize w.alloc (.cells #[.slice A n cap, .int .i64 (cs 0), .int .i64 (cs 1), .int .i64 (cs 2), .int .i64 (cs 3), .int .i64 (cs 4), .int .i64 (cs 5), .int .i64 (cs 6), .int .i64 (hs 0), .int .i64 (hs 1), .int .i64 (hs 2), .int .i64 (hs 3), .int .i64 (hs 4), .int .i64 (hs 5), .int .i64 (hs 6)] 79) = w0 at *
  rw [hsz] at hb0 k0
  try simp only [hsz]
  have hsz' := Lib.hid hsz
  clear hsz
  have c0 := k0.cell
  go_wp2_with fail
  refine (HC.out _ r0).mono ?_
  rintro e w1 ⟨rfl, hb1⟩
  have k1 := k0.call hb1
  have c1 := k1.cell
  have r1 := r0.on_ hb1
  have B1 := hb0.trans (hb1.mono (by have := hb0.size; have := hsz'.out; omega))
  clear c0 k0 r0 hb0 hb1 HC
  go_wp2_with fail
  clear c1
  go_loopw [18] (fun u wr => ∃ j : Nat, j ≤ 7 ∧ u = .int .i64 j ∧ Below w1.heap.size w1 wr) (fun u _ => 7 - (intOf u).toNat)
  case atStart => exact ⟨0, by omega, rfl, Below.refl _ _⟩
  case round =>
    obtain ⟨j, hj, rfl, hB⟩ := hrel
    by_cases hlt : j < 7
    · have hlt' : decide ((j : Int) < 7) = true := by simp; omega
      have hin : (j : Int) < 7 := by omega
      have hix := hix0.out j hlt
      have hca := hh2.out j hlt
      have hhi := hh3.out j hlt
      have kr := k1.call hB
      have hcell := (kr.cell (8 + j)).trans (rfC_hits (.slice A n cap) cs hs hlt)
      rw [hhi] at hcell
      obtain ⟨m, hm⟩ : ∃ m : Nat, cs j = (m : Int) := ⟨(cs j).toNat, by omega⟩
      rw [hm] at hix hcell hca
      simp only [Int.toNat_natCast] at hcell
      have G := Lib.hid (fun z : Ext wr => Ext.call (x := z) (hits_any A n cap l (j : Int) m z.w hn'.out (by omega) hok'.out (by omega) ((r1.on_ hB).on_ z.le)))
      generalize hitN l (j : Int) m = H at *
      have d1 : decide ((m : Int) < 0) = false := by rw [decide_eq_false_iff_not]; omega
      have d2 : decide ((1000000 : Int) < (m : Int)) = false := by rw [decide_eq_false_iff_not]; omega
      have d3 : (H != H) = false := by simp
      have z0 := fun z : Ext wr => ((z.blk kr).cell 0)
      have zh := fun z : Ext wr => z.cell hcell
      clear hhi hm hcell
      go_upto_region 7 with fail
      refine region_ext (by kernel_rfl) (by kernel_rfl) ?_
      repeat (go_big_quiet_step ((go_at_call 203; exact G.out _)))
      refine wpQuiet_nil ?_
      rintro w2 ⟨⟨_, hw2⟩, rfl⟩
      clear z0 zh
      go_wp2_with fail
      go_roundw
      case rel => exact ⟨j + 1, by omega, by go_num, hB.trans (hw2.mono hB.size)⟩
      case measure => simp [intOf]; omega
    · obtain rfl : j = 7 := by omega
      have hlt' : decide (((7 : Nat) : Int) < 7) = false := by simp
      go_wp2_with fail
      go_ret
      exact ⟨rfl, by rw [hsz'.out]; exact B1.trans (hB.mono (by have := B1.size; have := hsz'.out; omega))⟩
end Go.Proofs.YtefnnfcfigcikaaGreat
