/- Merged texts. Walks of layer 24 over a system: a move. What the struct 'look' of layer 13 holds, as cells; what a store into it makes of that. Walk: 'open' of layer 13. Walks of layer 13: Check; the groups of one kind as a function value that is ranged over. Walks of layer 13: Check, Groups. Walks of layer 24 over a system: Do. Walks of law 24's own functions: system. Walks of law 24's own functions over a system: great; Do of no system. Walks of the references of layers 5 and 6: two equal plans, states and saved states are equal. Walks of the reference of layer 6: two equal saved states are the same. Walks of law 24's own functions over a system: what a page has that is committed. Walks of law 24: the statement of MovingKeeps that makes two systems, whose order of evaluation is open. What the best plan is, and what its moves do; no program in sight. What a change of pages makes of a system, by cases. -/
import Derived.Deep.MidRow
import Derived.Test.YtpabnbhbcphfiaaGreatR6
namespace Go.Pol
open Go Go.Proofs Go.RowKit
/-- a mover in memory -/
structure MovIs (w : World) (tm tb ts : TypeId) (g0 b NB : Nat) (A : Option Addr) (nb nc : Nat) (bs : List B3) (st : List Sp) (V : Vm) : Prop where
  ex : ∃ v2, Blk w g0 tm #[.pointer (some ⟨b, 0, none⟩), .slice A nb nc, v2] ∧ w.ownsRow NB tb 3 (.slice A nb nc) nb (tCells bs) ∧ w.ownsRow NB ts 2 v2 st.length (spCells st)
  sys : SysIs w b V
end Go.Pol
namespace Go.Proofs.YtpabnbhbcphfiaaGreat
open Go Go.Proofs Go.RowKit Go.Pol Go.Shelf
attribute [local go_sem] Oper.semAt_some Go.Pol.wide_fn Go.Pol.wide_depth Go.Pol.wide_fn' Go.Pol.wide_depth'

set_option maxRecDepth 100000 in
set_option maxHeartbeats 3200000 in
theorem move24_any (g0 b NB gn nc nb mk : Nat) (q : Int) (bs : List B3) (st : List Sp) (v2 : Value) (V : Vm) (w : World) (hV : SysIs w b V) (kM : Blk w g0 169 #[.pointer (some ⟨b, 0, none⟩), .slice (some ⟨gn, 0, none⟩) nb nc, v2]) (hg : g0 ≠ b)
    (rn : w.ownsRow NB 65 3 (.slice (some ⟨gn, 0, none⟩) nb nc) nb (tCells bs)) (hbs : bs.length = nb) (ro : w.ownsRow NB 115 2 v2 st.length (spCells st)) (hNB : NB ≤ w.heap.size) (hbN : b < NB) (hst : st.length ≤ 1000) (hmk : mk < nb)
    (hp : 0 ≤ (bs.getD mk b0).1 ∧ (bs.getD mk b0).1 ≤ 1024) (ho : 0 ≤ (bs.getD mk b0).2.1 ∧ (bs.getD mk b0).2.1 ≤ 10) (hq : 0 ≤ q ∧ q ≤ 1024) :
    Calls Tryz.prog 88 #[.pointer (some ⟨g0, 0, none⟩), .agg #[.int .i64 mk, .int .i64 q]] w fun e w' => ∃ r, r = moveF V (bs.getD mk b0).1 q (pw (bs.getD mk b0).2.1) ∧ e = .returned (.int .i64 r.1) ∧
      MovIs w' 169 65 115 g0 b NB (some ⟨gn, 0, none⟩) nb nc (movBs bs mk q r) (movSt st (bs.getD mk b0).1 q (pw (bs.getD mk b0).2.1) r) r.2.2.2 ∧ Far (fun k => k = b ∨ k = g0 ∨ NB ≤ k) w w' := by
  have hcells := tCells_at bs mk (by omega)
  have hset := Lib.hid (tCells_set bs mk q (by omega))
  have hmv : Hid (∀ r : Int × Bool × Bool × Vm, movBs bs mk q r = if r.2.1 = true then bs.set mk (q, (bs.getD mk b0).2) else bs) := Lib.hid (fun r => rfl)
  generalize bs.getD mk b0 = blk at *
  obtain ⟨p, o, pin⟩ := blk
  simp only at hp ho hcells hset hmv ⊢
  obtain ⟨n, hn⟩ : ∃ n : Nat, pw o = (n : Int) := Int.eq_ofNat_of_zero_le (by have := pw_pos o; omega)
  have hn1 : n ≤ 1024 := by have := pw_le ho.2; omega
  have hn0 : 1 ≤ n := by have := pw_pos o; omega
  have HSz := Lib.hid (fun W => size_any o W ho)
  rw [hn] at HSz ⊢
  obtain ⟨R, hR⟩ : ∃ R, moveF V p q (n : Int) = R := ⟨_, rfl⟩
  have hR' : Hid (moveF V p q (n : Int) = R) := Lib.hid hR
  rw [hR]
  unfold moveF at hR
  rw [Int.toNat_natCast] at hR
  have hR2 := Lib.hid hR
  obtain ⟨s, hs⟩ : ∃ s, w.heap.size = s := ⟨_, rfl⟩
  have hb0 := (Below.refl w.heap.size w).alloc (Nat.le_refl _) (.cells #[.int .i64 (mk : Int), .int .i64 q] 152)
  have kB := Blk.new w 152 #[.int .i64 (mk : Int), .int .i64 q]
  rw [hs] at kB
  have kM0 := kM.call hb0
  have V0 := hV.call hb0
  have rn0 := ownsRow_call rn hb0
  have ro0 := ownsRow_call ro hb0
  have hmi : (mk : Int) < (nb : Int) := by omega
  have F0 : Far (fun k => k = b ∨ k = g0 ∨ NB ≤ k) w _ := .of_below hb0
  clear kM hV rn ro hb0 hR hR'
  go_enter Tryz.func88, Tryz.ntmps88
  go_upto_region 1 with fail
  generalize w.alloc _ = w0 at *
  try simp only [hs]
  have cp := rn0.cellAt (mk * 3) (by omega)
  have co := rn0.cellAt (mk * 3 + 1) (by omega)
  rw [hcells.1] at cp
  rw [hcells.2.1] at co
  have hgn := rn0.lt gn rfl
  have e0 := fun x : Ext w0 => (x.blk kM0).cell
  have e1 := fun x : Ext w0 => (x.blk kB).cell
  refine region_ext (by kernel_rfl) (by kernel_rfl) ?_
  repeat (go_big_quiet_step (fail))
  refine wpQuiet_nil ?_
  rintro w1 ⟨⟨_, hw1⟩, rfl⟩
  have co1 := (hw1.cell (p := ⟨gn, mk * 3 + 1, none⟩) hgn.2).trans co
  have cp1 := (hw1.cell (p := ⟨gn, mk * 3, none⟩) hgn.2).trans cp
  have kM1 := kM0.call hw1
  have kB1 := kB.call hw1
  have V1 := V0.call hw1
  have rn1 := ownsRow_call rn0 hw1
  have ro1 := ownsRow_call ro0 hw1
  have F1 : Far (fun k => k = b ∨ k = g0 ∨ NB ≤ k) w w1 := F0.trans (.of_below hw1)
  clear e0 e1 kM0 kB V0 rn0 ro0 F0 cp co hw1
  go_wp2_with fail
  refine (HSz.out _).mono ?_
  rintro e w2 ⟨rfl, hw2⟩
  replace hw2 := hw2.symm
  subst hw2
  have e0 := fun x : Ext w1 => (x.blk kM1).cell
  have e1 := fun x : Ext w1 => (x.blk kB1).cell
  go_upto_region 3 with fail
  refine region_ext_tail 7 (by kernel_rfl) (by kernel_rfl) ?_
  simp only [List.take_succ_cons, List.take_zero, List.drop_succ_cons, List.drop_zero]
  repeat (go_big_quiet_step (fail))
  refine wpQuiet_nil ?_
  intro z
  go_wp2_with fail
  have V2 := V1.call z.le
  have kM2 := kM1.call z.le
  have kB2 := kB1.call z.le
  have rn2 := ownsRow_call rn1 z.le
  have ro2 := ownsRow_call ro1 z.le
  have F2 : Far (fun k => k = b ∨ k = g0 ∨ NB ≤ k) w z.w := F1.trans (.of_below z.le)
  have cp2 := (z.le.cell (p := ⟨gn, mk * 3, none⟩) (rn1.lt gn rfl).2).trans cp1
  generalize z.w = w2 at *
  have hsb : ¬ s = b := by omega
  have hgb : ∀ g, ¬ NB ≤ g → True := fun _ _ => trivial
  clear e0 e1 kM1 kB1 V1 rn1 ro1 F1 cp1 co1 hgb
  refine (reserve_any b q n V w2 V2).mono ?_
  rintro e w3 ⟨rfl, V3, F3⟩
  have kM3 := F3.blk kM2 (by show ¬ g0 = b; exact hg)
  have kB3 := F3.blk kB2 (by show ¬ s = b; exact hsb)
  have rn3 := ownsRow_far rn2 F3 (fun g hg h => by have := (rn2.lt g hg).1; omega)
  have ro3 := ownsRow_far ro2 F3 (fun g hg h => by have := (ro2.lt g hg).1; omega)
  have F03 : Far (fun k => k = b ∨ k = g0 ∨ NB ≤ k) w w3 := F2.trans' F3 (fun i _ h => .inl h)
  have cp3 := F3.cell cp2 (by show ¬ gn = b; omega)
  have V3' := Lib.hid V3
  generalize bec V q (n : Int) 0 0 1 = J at *
  obtain ⟨je, jV⟩ := J
  simp only at hR2 V3'
  have hR3 := hR2.out
  clear V2 kM2 kB2 rn2 ro2 F2 cp2 F3 V3 hR2
  by_cases hj : je = 0
  case neg =>
    have hj' : (je != 0) = true := by simpa using hj
    rw [if_pos hj] at hR3
    have hR4 := Lib.hid hR3
    clear hR3
    go_wp2_with fail
    go_ret
    refine ⟨R, rfl, ?_, ?_, F03⟩
    · rw [← hR4.out]; rfl
    · rw [← hR4.out]
      exact ⟨⟨v2, kM3, rn3, ro3⟩, V3'.out⟩
  subst hj
  rw [if_neg (by simp)] at hR3
  have hinv := runsM_inv jV p n
  have HRu := Lib.hid (runs24_any g0 b p n (.slice (some ⟨gn, 0, none⟩) nb nc) v2 jV w3 V3'.out kM3 hp hn1)
  generalize (runsM jV p n).1 = l at *
  obtain ⟨hl1, hl2, _⟩ := hinv
  have hR4 := Lib.hid hR3
  have hlx := Lib.hid hl2
  obtain ⟨ln, hln⟩ : ∃ ln, l.length = ln := ⟨_, rfl⟩
  unfold SpansN at HRu
  rw [hln] at HRu hl1
  have hln' := Lib.hid hln
  clear hR3 hl2 hln
  go_wp2_with fail
  refine HRu.out.mono ?_
  rintro e w4 ⟨Al, cl, rfl, hrl, hfl, hcl, hclm, hlz, hb4⟩
  have kM4 := kM3.call hb4
  have kB4 := kB3.call hb4
  have rn4 := ownsRow_call rn3 hb4
  have ro4 := ownsRow_call ro3 hb4
  have F04 : Far (fun k => k = b ∨ k = g0 ∨ NB ≤ k) w w4 := F03.trans (.of_below hb4)
  have cp4 := (hb4.cell (p := ⟨gn, mk * 3, none⟩) (rn3.lt gn rfl).2).trans cp3
  have V4 := Lib.hid (V3'.out.call hb4)
  have hs3 : NB ≤ w3.heap.size := by have := F03.size; omega
  have hgn3 : gn < w3.heap.size ∧ NB ≤ gn := by have := rn3.lt gn rfl; omega
  have hs4 := hb4.size
  clear HRu V3' kM3 kB3 rn3 ro3 F03 cp3 hb4
  go_wp2_with fail
  go_loopw [48] (fun i wr => ∃ (k : Nat) (U : Vm), k ≤ ln ∧ i = .int .i64 k ∧ Hid (cmF q l jV = (k + (cmF q (l.drop k) U).1, (cmF q (l.drop k) U).2)) ∧ Hid (SysIs wr b U) ∧ Far (fun k => k = b) w4 wr) (fun i _ => ln - (intOf i).toNat)
  case atStart => exact ⟨0, jV, by omega, rfl, Lib.hid (by simp), V4, Far.refl _ _⟩
  case round =>
    clear V4
    obtain ⟨k, U, hk, rfl, hfl2, hU, hF⟩ := hrel
    have kMr := hF.blk kM4 (by show ¬ g0 = b; exact hg)
    have kBr := hF.blk kB4 (by show ¬ s = b; exact hsb)
    have hsr := hF.size
    by_cases hlt : k < ln
    · have hlt' : decide ((k : Int) < (ln : Int)) = true := by simpa using hlt
      have hln2 := hln'.out
      have hsn := cmF_step (by omega) hfl2.out
      obtain ⟨rb, ro', rfl, hrb, c5, c6⟩ := hrl.at_' (k := k) (by omega)
      have hrbs := hfl rb ro' rfl
      have d5 := hF.cell c5 (by show ¬ rb = b; omega)
      have d6 := hF.cell c6 (by show ¬ rb = b; omega)
      have hxm := hlx.out (l.getD k (0, 0)) (by rw [List.getD_eq_getElem?_getD, List.getElem?_eq_getElem (by omega)]; exact List.getElem_mem _)
      generalize l.getD k (0, 0) = x at *
      obtain ⟨xa, xb⟩ := x
      simp only at d5 d6 hsn hxm
      have hsn' := Lib.hid hsn
      have kx := Blk.new wr 115 #[.int .i64 xa, .int .i64 xb]
      have hbx : Below wr.heap.size wr (wr.alloc (.cells #[.int .i64 xa, .int .i64 xb] 115)) := (Below.refl _ _).alloc (Nat.le_refl _) _
      obtain ⟨gx, hgx⟩ : ∃ gx, wr.heap.size = gx := ⟨_, rfl⟩
      rw [hgx] at kx
      have hbz := hU.out.lt
      clear hsn c5 c6 hfl2 hln2
      go_upto_region 10 with fail
      have Tx := Lib.hid (hU.out.call hbx)
      have hFx : Far (fun k => k = b) w4 _ := hF.trans (.of_below hbx)
      have kMx := kMr.call hbx
      have kBx := kBr.call hbx
      generalize wr.alloc _ = w5 at *
      try simp only [hgx]
      have e0 := fun x : Ext w5 => (x.blk kMx).cell
      have e1 := fun x : Ext w5 => (x.blk kBx).cell
      have e2 := fun x : Ext w5 => (x.blk kx).cell
      clear hbx hU hF d5 d6 kMr kBr
      refine region_ext_tail 11 (by kernel_rfl) (by kernel_rfl) ?_
      simp only [List.take_succ_cons, List.take_zero, List.drop_succ_cons, List.drop_zero]
      repeat (go_big_quiet_step (fail))
      refine wpQuiet_nil ?_
      intro z
      go_wp2_with fail
      refine (commit_any b (q + xa) xb U z.w (Tx.out.call z.le)).mono ?_
      rintro e w6 ⟨rfl, V6, F6⟩
      have V6' := Lib.hid V6
      have hF6 : Far (fun k => k = b) w4 w6 := (hFx.trans (.of_below z.le)).trans F6
      have kM6 := F6.blk (kMx.call z.le) (by show ¬ g0 = b; exact hg)
      have kB6 := F6.blk (kBx.call z.le) (by show ¬ s = b; exact hsb)
      generalize bec U (q + xa) xb 2 1 2 = J at *
      obtain ⟨ce, cV⟩ := J
      simp only at hsn' V6'
      have hsn2 := hsn'.out
      clear e0 e1 e2 hsn' V6 hFx kMx kBx kx Tx F6
      by_cases hj : ce = 0
      · subst hj
        rw [if_pos rfl] at hsn2
        have hsn3 := Lib.hid hsn2
        clear hsn2
        go_wp2_with fail
        go_roundw
        case rel => exact ⟨k + 1, cV, by omega, by go_num, hsn3, V6', hF6⟩
        case measure => simp [intOf]; omega
      · have hj' : (ce != 0) = true := by simpa using hj
        rw [if_neg hj] at hsn2
        have hR5 : Hid (R = (ce, false, (leaveF cV q (n : Int) (l.take k).reverse).1 != 0, (leaveF cV q (n : Int) (l.take k).reverse).2)) := Lib.hid (by
          rw [← hR4.out]
          simp only [hsn2]
          rw [if_pos hj])
        have hkc : k ≤ cl := by omega
        have hlk : (l.take k).length = k := by rw [List.length_take, hln'.out]; omega
        have hrl6 : RU w6 w6.heap.size (some ⟨rb, ro', none⟩) (l.take k) := RU.takenS ((RU.more (fun j hj => by
          obtain ⟨b', o', e, hb', h1, h2⟩ := hrl j hj
          have := hfl b' o' e
          exact ⟨b', o', e, hb', hF6.cell h1 (by show ¬ b' = b; omega), hF6.cell h2 (by show ¬ b' = b; omega)⟩) hF6.size : RU w6 w6.heap.size (some ⟨rb, ro', none⟩) l)) k
        have HCl := Lib.hid (clone_any (some ⟨rb, ro', none⟩) k cl (l.take k) w6 hlk (by omega) hrl6)
        have hbd : ∀ x ∈ (l.take k).reverse, (0 ≤ x.1 ∧ x.1 ≤ 1024) ∧ 0 ≤ x.2 ∧ x.2 ≤ 1024 := fun x hx => by
          have := hlx.out x (List.mem_of_mem_take (List.mem_reverse.1 hx))
          omega
        have hbd' := Lib.hid hbd
        have hlk' := Lib.hid hlk
        have hrr : Hid ((l.take k).reverse.length = k) := Lib.hid (by rw [List.length_reverse]; exact hlk)
        generalize l.take k = lt at *
        clear hsn2 hR4 hlk hbd hrl6
        go_wp2_with fail
        refine HCl.out.mono ?_
        rintro e w7 ⟨vc, rfl, rc7, hb7⟩
        obtain ⟨Av, cv, rfl⟩ := own_slice rc7
        have hs6 := hF6.size
        have V7 := V6'.out.call hb7
        have HRv := Lib.hid (revAny_any (.slice Av k cv) k w6.heap.size lt w7 hlk'.out (by omega) rc7)
        clear HCl
        go_wp2_with fail
        refine HRv.out.mono ?_
        rintro e w8 ⟨rfl, rc8, F8⟩
        have F68 : Far (fun g => (Value.slice Av k cv).ownBlock = some g) w6 w8 := (Far.of_below hb7).trans F8
        have hF8 : Far (fun k => k = b) w4 w8 := hF6.trans' F68 (fun i hi h => by have := (rc7.lt i h).1; omega)
        have kM8 := F68.blk kM6 (fun h => by have := (rc7.lt g0 h).1; have := kM6.lt; omega)
        have kB8 := F68.blk kB6 (fun h => by have := (rc7.lt s h).1; have := kB6.lt; omega)
        have V8 := Lib.hid (V7.far F8 (fun h => by have := (rc7.lt b h).1; omega) (fun _ _ _ _ _ _ g _ _ _ hc hg => hc.elim fun cr hcr => own_other rc7 hg hcr (by decide)))
        have ro8 := ownsRow_far ro4 hF8 (fun g hg h => by have := (ro4.lt g hg).1; omega)
        have rn8 := ownsRow_far rn4 hF8 (fun g hg h => by have := (rn4.lt g hg).1; omega)
        have hs8 := hF8.size
        obtain ⟨Av', cv', e8, hr8, _, _, hfr8, _⟩ := own_RU rc8 hrr.out
        cases e8
        have HLv := Lib.hid (leave24_any g0 b NB q n Av k cv lt.reverse st _ v2 cV w8 V8.out kM8 hg ro8 (by omega) hbN hst hrr.out hr8 (fun g o e _ => by have := hfr8 g o e; omega) hbd'.out (by omega) hq hn1)
        have F08 : Far (fun k => k = b ∨ k = g0 ∨ NB ≤ k) w w8 := F04.trans' hF8 (fun i _ h => .inl h)
        obtain ⟨L, hL⟩ : ∃ L, leaveF cV q (n : Int) lt.reverse = L := ⟨_, rfl⟩
        rw [hL] at HLv hR5
        have c8 := kB8.cell
        clear HRv F68 hF8 F8 V7 hF6 kM6 kB6 rc8 hr8 hfr8 hL V8
        go_wp2_with fail
        refine HLv.out.mono ?_
        rintro e w9 ⟨rfl, v2', kM9, ro9, V9, F9⟩
        have rn9 := ownsRow_far rn8 F9 (fun g hg h => by
          rcases h with h | h | h
          · have := (rn8.lt g hg).1; omega
          · exact own_other rn8 (hg.trans (congrArg some h)) kM8 (by decide)
          · exact rows_apart rn8 ro8 (by decide) hg h)
        have F09 : Far (fun k => k = b ∨ k = g0 ∨ NB ≤ k) w w9 := F08.trans' F9 (fun i _ h => h.elim .inl (fun h => h.elim (fun h => .inr (.inl h)) (fun h => .inr (.inr (ro8.lt i h).1))))
        clear HLv c8 kM8 kB8 ro8 rn8 F08 F9
        go_wp2_with fail
        go_ret
        refine ⟨R, rfl, ?_, ?_, F09⟩
        · rw [hR5.out]; rfl
        · rw [hR5.out]
          have e1 : movSt st p q n (ce, false, L.1 != 0, L.2) = stayF st L.1 (q, n) := by
            unfold movSt stayF
            by_cases h : L.1 = 0 <;> simp [h]
          rw [e1]
          exact ⟨⟨v2', kM9, rn9, ro9⟩, V9⟩
    · obtain rfl : k = ln := by omega
      have hlt' : decide ((k : Int) < (k : Int)) = false := by simp
      have hcm : cmF q l jV = (k, 0, U) := by
        rw [hfl2.out, List.drop_of_length_le (by rw [hln'.out]; exact Nat.le_refl _)]
        rfl
      have hR5 : Hid (R = ((leaveF (l.foldl (copyS p q) U) p (n : Int) l).1, true, (leaveF (l.foldl (copyS p q) U) p (n : Int) l).1 != 0, (leaveF (l.foldl (copyS p q) U) p (n : Int) l).2)) := Lib.hid (by
        rw [← hR4.out]
        simp only [hcm]
        rw [if_neg (by simp)])
      obtain ⟨wA, rfl⟩ : ∃ wA, wA = wr := ⟨_, rfl⟩
      have rnA := ownsRow_far rn4 hF (fun g hg h => by have := (rn4.lt g hg).1; omega)
      have roA := ownsRow_far ro4 hF (fun g hg h => by have := (ro4.lt g hg).1; omega)
      have F0A : Far (fun k => k = b ∨ k = g0 ∨ NB ≤ k) w wA := F04.trans' hF (fun i _ h => .inl h)
      have cpA := hF.cell cp4 (by show ¬ gn = b; have := (rn4.lt gn rfl).1; omega)
      have hrlA : RU wA wA.heap.size Al l := RU.more (fun j hj => by
        obtain ⟨b', o', e, hb', h1, h2⟩ := hrl j hj
        have := hfl b' o' e
        exact ⟨b', o', e, hb', hF.cell h1 (by show ¬ b' = b; omega), hF.cell h2 (by show ¬ b' = b; omega)⟩) hF.size
      have hUA := hU
      clear hcm hfl2 hR4 hU hF rn4 ro4 F04 cp4 hrl kM4 kB4
      go_wp2_with fail
      go_loopw [83] (fun i w5 => ∃ (m : Nat) (T : Vm), m ≤ k ∧ i = .int .i64 m ∧ Hid ((l.take m).foldl (copyS p q) U = T) ∧ Hid (SysIs w5 b T) ∧ Far (fun k => k = b) wA w5) (fun i _ => k - (intOf i).toNat)
      case atStart => exact ⟨0, U, by omega, rfl, Lib.hid (by simp), hUA, Far.refl _ _⟩
      case round =>
        clear hUA
        obtain ⟨m, T, hm, rfl, hfl2, hT, hF⟩ := hrel
        have kM5 := hF.blk kMr (by show ¬ g0 = b; exact hg)
        have kB5 := hF.blk kBr (by show ¬ s = b; exact hsb)
        have cp5 := hF.cell cpA (by show ¬ gn = b; have := (rnA.lt gn rfl).1; omega)
        have hs5 := hF.size
        by_cases hlt2 : m < k
        · have hlt2' : decide ((m : Int) < (k : Int)) = true := by simpa using hlt2
          have hln2 := hln'.out
          have hst2 : (l.take (m + 1)).foldl (copyS p q) U = copyS p q T (l.getD m (0, 0)) := by rw [z_take (0, 0) l (by omega), List.foldl_append, hfl2.out]; rfl
          obtain ⟨rb, ro', rfl, hrb, c5, c6⟩ := hrlA.at_' (k := m) (by omega)
          have hrbs := hfl rb ro' rfl
          have d5 := hF.cell c5 (by show ¬ rb = b; omega)
          have d6 := hF.cell c6 (by show ¬ rb = b; omega)
          have hxm := hlx.out (l.getD m (0, 0)) (by rw [List.getD_eq_getElem?_getD, List.getElem?_eq_getElem (by omega)]; exact List.getElem_mem _)
          generalize l.getD m (0, 0) = x at *
          obtain ⟨xa, xb⟩ := x
          simp only at d5 d6 hst2 hxm
          obtain ⟨pa, hpa⟩ := Int.eq_ofNat_of_zero_le (show 0 ≤ p + xa by omega)
          obtain ⟨qa, hqa⟩ := Int.eq_ofNat_of_zero_le (show 0 ≤ q + xa by omega)
          obtain ⟨xn, rfl⟩ := Int.eq_ofNat_of_zero_le (show 0 ≤ xb by omega)
          have hst3 : Hid ((l.take (m + 1)).foldl (copyS p q) U = copyF T ((pa : Int) * 64) ((qa : Int) * 64) (xn * 64)) := Lib.hid (by
            rw [hst2]
            unfold copyS
            simp only [hpa, hqa]
            congr 1)
          have kx := Blk.new wr 115 #[.int .i64 xa, .int .i64 (xn : Int)]
          have hbx : Below wr.heap.size wr (wr.alloc (.cells #[.int .i64 xa, .int .i64 (xn : Int)] 115)) := (Below.refl _ _).alloc (Nat.le_refl _) _
          obtain ⟨gx, hgx⟩ : ∃ gx, wr.heap.size = gx := ⟨_, rfl⟩
          rw [hgx] at kx
          have hgw : gn < wr.heap.size := by have := (rnA.lt gn rfl).2; omega
          clear hst2 c5 c6 hfl2 hln2
          go_upto_region 20 with fail
          have Tx := Lib.hid (hT.out.call hbx)
          have hFx : Far (fun k => k = b) wA _ := hF.trans (.of_below hbx)
          have kMx := kM5.call hbx
          have kBx := kB5.call hbx
          have cpx := (hbx.cell (p := ⟨gn, mk * 3, none⟩) hgw).trans cp5
          generalize wr.alloc _ = w5 at *
          try simp only [hgx]
          have e1 := fun x : Ext w5 => (x.blk kBx).cell
          have e2 := fun x : Ext w5 => (x.blk kx).cell
          have e3 := fun x : Ext w5 => x.cell cpx
          clear hbx hT hF d5 d6 kM5 kB5 cp5
          refine region_ext_tail 15 (by kernel_rfl) (by kernel_rfl) ?_
          simp only [List.take_succ_cons, List.take_zero, List.drop_succ_cons, List.drop_zero]
          repeat (go_big_quiet_step (fail))
          refine wpQuiet_nil ?_
          intro z
          go_wp2_with fail
          refine (copy24_any g0 b pa qa xn _ v2 T z.w (Tx.out.call z.le) (kMx.call z.le) hg (by omega) (by omega) (by omega)).mono ?_
          rintro e w6 ⟨rfl, V6, F6⟩
          have V6' := Lib.hid V6
          have hF6 : Far (fun k => k = b) wA w6 := (hFx.trans (.of_below z.le)).trans F6
          clear e1 e2 e3 V6 F6 hFx Tx kMx kBx kx cpx
          go_wp2_with fail
          go_roundw
          case rel => exact ⟨m + 1, _, by omega, by go_num, hst3, V6', hF6⟩
          case measure => simp [intOf]; omega
        · obtain rfl : m = k := by omega
          have hlt2' : decide ((m : Int) < (m : Int)) = false := by simp
          have hln2 := hln'.out
          have hT4 : l.foldl (copyS p q) U = T := by have := hfl2.out; rwa [List.take_of_length_le (by omega)] at this
          rw [hT4] at hR5
          have rn5 := ownsRow_far rnA hF (fun g hg h => by have := (rnA.lt g hg).1; omega)
          have ro5 := ownsRow_far roA hF (fun g hg h => by have := (roA.lt g hg).1; omega)
          have F05 : Far (fun k => k = b ∨ k = g0 ∨ NB ≤ k) w wr := F0A.trans' hF (fun i _ h => .inl h)
          have hrl5 : RU wr wr.heap.size Al l := RU.more (fun j hj => by
            obtain ⟨b', o', e, hb', h1, h2⟩ := hrlA j hj
            have := hfl b' o' e
            exact ⟨b', o', e, hb', hF.cell h1 (by show ¬ b' = b; omega), hF.cell h2 (by show ¬ b' = b; omega)⟩) hF.size
          have fz := rn5.frozenAt (mk * 3)
          obtain ⟨hst5, _⟩ := rn5.stored (mk * 3) (.int .i64 q)
          rw [hset.out] at hst5
          have FS : Far (fun k => k = gn) wr (wr.setCell ⟨gn, mk * 3, none⟩ (.int .i64 q)) := Far.setCell (T := fun k => k = gn) (p := ⟨gn, mk * 3, none⟩) (Far.refl _ wr) (fun _ => rfl) _
          have c5 := kB5.cell
          have hV5 := hT
          clear hT4 hln2 hfl2 hrlA rnA roA F0A cpA hF hT
          go_upto_region 24 with fail
          generalize wr.setCell ⟨gn, mk * 3, none⟩ (.int .i64 q) = w6 at *
          have kM6 := FS.blk kM5 (fun h => own_other rn5 (by rw [h]; rfl) kM5 (by decide))
          have ro6 := ownsRow_far ro5 FS (fun g hg h => rows_apart ro5 rn5 (by decide) hg (by rw [h]; rfl))
          have V6 := Lib.hid (hV5.out.far FS (fun h => by omega) (fun _ _ _ _ _ _ g _ _ _ hc hg => hc.elim fun cr hcr => own_other rn5 (by rw [hg]; rfl) hcr (by decide)))
          have hrl6 : RU w6 w6.heap.size Al l := RU.more (fun j hj => by
            obtain ⟨b', o', e, hb', h1, h2⟩ := hrl5 j hj
            have := hfl b' o' e
            exact ⟨b', o', e, hb', FS.cell h1 (by show ¬ b' = gn; omega), FS.cell h2 (by show ¬ b' = gn; omega)⟩) FS.size
          have F06 : Far (fun k => k = b ∨ k = g0 ∨ NB ≤ k) w w6 := F05.trans' FS (fun i _ h => .inr (.inr (by omega)))
          have hs6 := F06.size
          have hbd : ∀ x ∈ l, (0 ≤ x.1 ∧ x.1 ≤ 1024) ∧ 0 ≤ x.2 ∧ x.2 ≤ 1024 := fun x hx => by have := hlx.out x hx; omega
          have HLv := Lib.hid (leave24_any g0 b NB p n Al m cl l st _ v2 T w6 V6.out kM6 hg ro6 (by omega) hbN hst hln'.out hrl6 (fun g o e _ => by have := hfl g o e; omega) hbd (by omega) hp hn1)
          obtain ⟨L, hL⟩ : ∃ L, leaveF T p (n : Int) l = L := ⟨_, rfl⟩
          rw [hL] at HLv hR5
          clear hbd hL hV5 hrl5 F05 ro5 FS c5 kB5 fz kM5 hrl6 V6
          go_wp2_with fail
          refine HLv.out.mono ?_
          rintro e w9 ⟨rfl, v2', kM9, ro9, V9, F9⟩
          have rn9 := ownsRow_far hst5 F9 (fun g hg h => by
            rcases h with h | h | h
            · have := (hst5.lt g hg).1; omega
            · exact own_other hst5 (hg.trans (congrArg some h)) kM6 (by decide)
            · exact rows_apart hst5 ro6 (by decide) hg h)
          have F09 : Far (fun k => k = b ∨ k = g0 ∨ NB ≤ k) w w9 := F06.trans' F9 (fun i _ h => h.elim .inl (fun h => h.elim (fun h => .inr (.inl h)) (fun h => .inr (.inr (ro6.lt i h).1))))
          clear HLv kM6 ro6 F06 F9
          go_wp2_with fail
          go_ret
          refine ⟨R, rfl, ?_, ?_, F09⟩
          · rw [hR5.out]; rfl
          · rw [hR5.out]
            have e1 : movSt st p q n (L.1, true, L.1 != 0, L.2) = stayF st L.1 (p, n) := by
              unfold movSt stayF
              by_cases h : L.1 = 0 <;> simp [h]
            rw [e1, hmv.out]
            exact ⟨⟨v2', kM9, rn9, ro9⟩, V9⟩
end Go.Proofs.YtpabnbhbcphfiaaGreat
namespace Go.Pol
open Go
/-- page q: committed, live; group q: number, committed, live, huge -/
structure LookIs (cs : Array Value) (cm lv : Nat → Bool) (nm gc gl : Nat → Int) (gh : Nat → Bool) : Prop where
  size : cs.size = 2304
  cm : ∀ q, q < 1024 → cs[q * 2]? = some (.bool (cm q))
  lv : ∀ q, q < 1024 → cs[q * 2 + 1]? = some (.bool (lv q))
  nm : ∀ q, q < 64 → cs[2048 + q * 4]? = some (.int .i64 (nm q))
  gc : ∀ q, q < 64 → cs[2048 + q * 4 + 1]? = some (.int .i64 (gc q))
  gl : ∀ q, q < 64 → cs[2048 + q * 4 + 2]? = some (.int .i64 (gl q))
  gh : ∀ q, q < 64 → cs[2048 + q * 4 + 3]? = some (.bool (gh q))
end Go.Pol
namespace Go.Pol
open Go Go.RowKit
/-- strips 2^d values 'false' off a list -/
def strip : Nat → List Value → Option (List Value)
  | 0, .bool false :: r => some r
  | 0, _ => none
  | d + 1, l => match strip d l with
    | some r => strip d r
    | none => none
theorem strip_spec : ∀ (d : Nat) (l r : List Value), strip d l = some r → l = List.replicate (2 ^ d) (.bool false) ++ r
  | 0, l, r, h => by
    unfold strip at h
    split at h
    · cases h; rfl
    · cases h
    · rename_i h2 _ _; omega
  | d + 1, l, r, h => by
    rw [strip] at h
    split at h
    · rename_i r' h'
      have h1 := strip_spec d l r' h'
      have h2 := strip_spec d r' r h
      rw [h1, h2, ← List.append_assoc, List.replicate_append_replicate]
      rw [show 2 ^ d + 2 ^ d = 2 ^ (d + 1) by rw [Nat.pow_succ]; omega]
    · cases h
theorem RI.on {w w' : World} {A : Option Addr} {us : List Int} (h : RI w w.heap.size A us) (hb : Below w.heap.size w w')   : RI w' w'.heap.size A us := (h.below hb).more hb.size
end Go.Pol
namespace Go.Pol
open Go Go.RowKit
/-- a group: number, committed, live, huge -/
abbrev Gp := Int × Int × Int × Bool
theorem ext_get {cs : Array Value} {s e j : Nat} (h : j < min e cs.size - s) : (cs.extract s e)[j]? = cs[s + j]? := by
  rw [Array.getElem?_extract_of_lt h]; exact (Array.getElem?_eq_getElem _).symm
theorem LookIs.rangeAt {w : World} {b : Nat} {t : TypeId} {cs : Array Value} {cm lv : Nat → Bool} {nm gc gl : Nat → Int} {gh : Nat → Bool} (h : LookIs cs cm lv nm gc gl gh) (hb : Blk w b t cs) :
    w.rangeAt b 2048 (cs.extract 2048 2304).toList := fun j v hj => by
  rw [Array.getElem?_toList] at hj
  have hlt : j < 256 := by
    have := (Array.getElem?_eq_some_iff.1 hj).1
    simp [h.size] at this
    exact this
  rw [hb.cell, ← hj, ext_get (by rw [h.size]; omega)]
end Go.Pol
namespace Go.Pol
open Go Go.RowKit
def hugeP (g : Gp) : Bool := g.2.2.2
end Go.Pol
namespace Go.Proofs.YtpabnbhbcphfiaaGreat
open Go Go.Proofs Go.RowKit Go.Pol Go.Shelf
attribute [local go_sem] Oper.semAt_some Go.Pol.wide_fn Go.Pol.wide_depth Go.Pol.wide_fn' Go.Pol.wide_depth'

/-- the value of a state, and what its slices hold -/
structure StIs (w : World) (S : Value) (C L : List Sp) (H : List Int) : Prop where
  ex : ∃ (A1 A2 A3 : Option Addr) (n1 c1 n2 c2 n3 c3 : Nat), S = .agg #[.slice A1 n1 c1, .slice A2 n2 c2, .slice A3 n3 c3] ∧ C.length = n1 ∧ n1 ≤ maxLen ∧ RU w w.heap.size A1 C ∧
    L.length = n2 ∧ n2 ≤ maxLen ∧ RU w w.heap.size A2 L ∧ H.length = n3 ∧ n3 ≤ maxLen ∧ RI w w.heap.size A3 H
theorem StIs.on {w w' : World} {S : Value} {C L : List Sp} {H : List Int} (h : StIs w S C L H) (hb : Below w.heap.size w w') : StIs w' S C L H := by
  obtain ⟨A1, A2, A3, n1, c1, n2, c2, n3, c3, h0, h1, h2, h3, h4, h5, h6, h7, h8, h9⟩ := h.ex
  exact ⟨A1, A2, A3, n1, c1, n2, c2, n3, c3, h0, h1, h2, h3.on hb, h4, h5, h6.on hb, h7, h8, RI.on h9 hb⟩
/-- what a list of numbers and an error look like that are handed back -/
def IntsE (r : List Int × Int) (w : World) (e : Ending) (w' : World) : Prop := ∃ (A : Option Addr) (cap : Nat), e = .returned (.tuple #[.slice A r.1.length cap, .int .i64 r.2]) ∧ RI w' w'.heap.size A r.1 ∧ Below w.heap.size w w'
/-- such a list in memory of its own -/
def IntsN (r : List Int × Int) (w : World) (e : Ending) (w' : World) : Prop := ∃ (A : Option Addr) (cap : Nat), e = .returned (.tuple #[.slice A r.1.length cap, .int .i64 r.2]) ∧ RI w' w'.heap.size A r.1 ∧ (∀ b o, A = some ⟨b, o, none⟩ → w.heap.size ≤ b) ∧ Below w.heap.size w w'
theorem IntsN.e {r : List Int × Int} {w : World} {e : Ending} {w' : World} (h : IntsN r w e w') : IntsE r w e w' := by
  obtain ⟨A, cap, h1, h2, _, h4⟩ := h
  exact ⟨A, cap, h1, h2, h4⟩
end Go.Proofs.YtpabnbhbcphfiaaGreat
namespace Go.Pol
open Go Go.Proofs Go.RowKit
/-- the blocks afterwards, what stays, an error, and a system that has become this -/
def DoO (b : Nat) (r : List B3 × List Sp × Int × Vm) (w : World) (e : Ending) (w' : World) : Prop :=
  ∃ (A : Option Addr) (cap : Nat) (A' : Option Addr) (cap' : Nat), e = .returned (.tuple #[.slice A r.1.length cap, .slice A' r.2.1.length cap', .int .i64 r.2.2.1]) ∧ RT w' w'.heap.size A r.1 ∧ (∀ g o, A = some ⟨g, o, none⟩ → w.heap.size ≤ g) ∧ RU w' w'.heap.size A' r.2.1 ∧ (∀ g o, A' = some ⟨g, o, none⟩ → w.heap.size ≤ g) ∧ SysIs w' b r.2.2.2 ∧ Far (fun k => k = b) w w'
end Go.Pol
namespace Go.Proofs.YtpabnbhbcphfiaaGreat
open Go Go.Proofs Go.RowKit Go.Pol Go.Shelf
attribute [local go_sem] Oper.semAt_some Go.Pol.wide_fn Go.Pol.wide_depth Go.Pol.wide_fn' Go.Pol.wide_depth'

set_option maxRecDepth 100000 in
set_option maxHeartbeats 3200000 in
theorem do24_any (b : Nat) (pages : Int) (A M : Option Addr) (nb cb nm cm : Nat) (bs : List B3) (ms : List (Int × Int)) (V : Vm) (w : World) (hV : SysIs w b V) (hK : KindOk V) (hn : bs.length = nb) (hm : nb ≤ maxLen) (hz : A = none → cb = 0) (hr : RT w w.heap.size A bs) (hmn : ms.length = nm) (hmm : nm ≤ maxLen) (hru : RU w w.heap.size M ms)
    (hMb : ∀ g o, M = some ⟨g, o, none⟩ → 0 < nm → g ≠ b) :
    Calls Tryz.prog 27 #[.pointer (some ⟨b, 0, none⟩), .int .i64 pages, .slice A nb cb, .slice M nm cm] w (DoO b (doF V pages bs ms) w) := by
  have HC := Lib.hid (fun W h => counts_any b V W h hK)
  have HA := Lib.hid (fun W hr hru => after_any pages A M nb cb nm cm bs ms W hn hm hz hr hmn hmm hru)
  have hV0 := Lib.hid hV
  have hr0 := Lib.hid hr
  have hru0 := Lib.hid hru
  have hbs := hV.lt
  obtain ⟨R, hR⟩ : ∃ R, doF V pages bs ms = R := ⟨_, rfl⟩
  rw [hR]
  have hR' := Lib.hid hR
  have hn' := Lib.hid hn
  have hmn' := Lib.hid hmn
  clear hR hV hK hr hru hn hmn
  go_enter Tryz.func27, Tryz.ntmps27
  go_wp2_with fail
  refine (HC.out _ hV0.out).mono ?_
  rintro e w1 ⟨⟨cs, hcs, rfl⟩, hb1⟩
  obtain ⟨q, hq⟩ : ∃ q, w1.heap.size = q := ⟨_, rfl⟩
  have hsz := hcs.size
  have kz := Blk.new w1 163 #[.int .i64 0, .int .i64 0, .int .i64 0, .int .i64 0, .int .i64 0]
  rw [hq] at kz
  have ht : (w1.alloc (.cells #[.int .i64 0, .int .i64 0, .int .i64 0, .int .i64 0, .int .i64 0] 163)).there q 0 cs.size := by rw [hsz]; exact z_there kz 0 5 (by simp)
  have hF2 := Far.puts (T := fun k => k = q) rfl cs.toList 0 w1 _ ((Far.refl _ w1).alloc (.cells #[.int .i64 0, .int .i64 0, .int .i64 0, .int .i64 0, .int .i64 0] 163))
  have hone := Go.all_oneCell_toArray (hcs.one)
  rw [Array.toArray_toList] at hone
  have hinf : (Tryz.prog.info? 163).map (·.size) = some cs.size := by rw [hsz]; exact infoVc
  clear kz HC
  go_upto_region 2 with (refine wpList_store_mid rfl 163 (.tmp 11) (.tmp 28) rfl q 0 cs rfl rfl ht hinf hone ?_)
  generalize World.setCells _ q 0 _ = w2 at *
  have hb2 := hF2.below (n := w1.heap.size) (Nat.le_refl _) (fun k hk e => by omega)
  have B2 := hb1.trans (hb2.mono hb1.size)
  have r2 := hr0.out.on B2
  have ru2 := hru0.out.on B2
  clear hF2 ht hone hinf hcs hsz hb1 hb2
  go_wp2_with fail
  refine (HA.out _ r2 ru2).mono ?_
  rintro e w3 ⟨Aa, ca, rfl, _, hb3⟩
  have C3 := B2.trans (hb3.mono B2.size)
  have V3 := Lib.hid (hV0.out.call C3)
  have r3 := Lib.hid (hr0.out.on C3)
  have ru3 := Lib.hid (hru0.out.on C3)
  unfold doF at hR'
  have hsz3 := C3.size
  by_cases h0 : (afterB pages bs ms).2 = 0
  case neg =>
    have h0' : ((afterB pages bs ms).2 != 0) = true := by simpa using h0
    have hR2 : Hid (R = ([], [], (afterB pages bs ms).2, V)) := Lib.hid (by rw [← hR'.out, if_pos h0])
    generalize (afterB pages bs ms).2 = er at *
    clear HA r2 ru2 hR' h0
    go_wp2_with fail
    (try simp only [Exit.inBlock, Exit.then]); refine bodyPost_ret (results_tmp3 rfl _ _ _) rfl ?_
    rw [hR2.out]
    exact ⟨none, 0, none, 0, rfl, RT.nil, fun _ _ h => (by cases h), RU.nil, fun _ _ h => (by cases h), V3.out, .of_below C3⟩
  obtain ⟨hck, hml, hal⟩ := after_of h0
  obtain ⟨hp1, hnb, hins⟩ := chk_ins hck
  have hR2 : Hid (R = if downB V bs ms = true then ([], [], 9, V) else doL V bs [] ms) := Lib.hid (by rw [← hR'.out, if_neg (by simp [h0])])
  rw [h0]
  have hmem := Lib.hid (after_all ms bs hal)
  have hins' := Lib.hid hins
  have hal' := Lib.hid hal
  rw [hn'.out] at hnb
  rw [hmn'.out] at hml
  obtain ⟨D, hD⟩ : ∃ D, downB V bs ms = D := ⟨_, rfl⟩
  rw [hD] at hR2
  have hD' := Lib.hid hD
  have hB3 := Lib.hid C3
  clear HA r2 ru2 hR' h0 hck hal hins hD B2 hb3
  go_wp2_with fail
  go_loopw [45] (fun i wr => ∃ k : Nat, k ≤ nm ∧ i = .int .i64 k ∧ Hid (downB V bs (ms.drop k) = D) ∧ Below w3.heap.size w3 wr) (fun i _ => nm - (intOf i).toNat)
  case atStart => exact ⟨0, by omega, rfl, Lib.hid (by simpa using hD'.out), Below.refl _ _⟩
  case round =>
    clear hD'
    obtain ⟨k, hk, rfl, hdr, hB⟩ := hrel
    by_cases hlt : k < nm
    · have hlt' : decide ((k : Int) < (nm : Int)) = true := by simpa using hlt
      have hmn2 := hmn'.out
      have hn2 := hn'.out
      have hB3s := hsz3
      have hdc := hdr.out
      rw [drop_cons (0, 0) ms k (by omega), downB_cons] at hdc
      obtain ⟨rb, ro, rfl, hrb, c5, c6⟩ := (ru3.out.below hB).at_' (k := k) (by omega)
      have hxm := hmem.out (ms.getD k (0, 0)) (by rw [List.getD_eq_getElem?_getD, List.getElem?_eq_getElem (by omega)]; exact List.getElem_mem _)
      generalize ms.getD k (0, 0) = x at *
      obtain ⟨xk, xt⟩ := x
      simp only at hxm c5 c6
      obtain ⟨mk, rfl⟩ := Int.eq_ofNat_of_zero_le hxm.1
      have hbm : Hid (badM V bs ((mk : Int), xt) = (List.range (pw (bs.getD mk b0).2.1).toNat).any fun i => badB V ((bs.getD mk b0).1 + (i : Int))) := Lib.hid rfl
      obtain ⟨ab, ao, rfl, hab, p0, p1, _⟩ := (r3.out.below hB).at_ (k := mk) (by omega)
      have hib := ins_bounds hp1 (hins'.out (bs.getD mk b0) (by rw [List.getD_eq_getElem?_getD, List.getElem?_eq_getElem (by omega)]; exact List.getElem_mem _))
      generalize bs.getD mk b0 = blk at *
      obtain ⟨p, o, pin⟩ := blk
      simp only at p0 p1 hbm hib
      obtain ⟨n, hpn⟩ : ∃ n : Nat, pw o = (n : Int) := Int.eq_ofNat_of_zero_le (by have := pw_pos o; omega)
      have hn1 : n ≤ 1024 := by have := pw_le hib.1.2; omega
      have HSz := Lib.hid (fun W => size_any o W hib.1)
      rw [hpn] at HSz hbm
      rw [Int.toNat_natCast] at hbm
      have hmki : (mk : Int) < (nb : Int) := by omega
      have kx := Blk.new wr 152 #[.int .i64 (mk : Int), .int .i64 xt]
      have hbx : Below wr.heap.size wr (wr.alloc (.cells #[.int .i64 (mk : Int), .int .i64 xt] 152)) := (Below.refl _ _).alloc (Nat.le_refl _) _
      obtain ⟨gx, hgx⟩ : ∃ gx, wr.heap.size = gx := ⟨_, rfl⟩
      rw [hgx] at kx
      have hsB := hB.size
      have p05 := (hbx.cell (p := ⟨ab, ao + mk * 3, none⟩) (by show ab < wr.heap.size; omega)).trans p0
      have p15 := (hbx.cell (p := ⟨ab, ao + mk * 3 + 1, none⟩) (by show ab < wr.heap.size; omega)).trans p1
      have hdc' := Lib.hid hdc
      have cx := kx.cell
      clear hdr hdc hxm hpn
      go_upto_region 10 with fail
      have B5 : Below w3.heap.size w3 _ := hB.trans (hbx.mono hsB)
      generalize wr.alloc _ = w5 at *
      try simp only [hgx]
      clear hbx hB p0 p1 c5 c6
      go_wp2_with fail
      refine (HSz.out _).mono ?_
      rintro e w6 ⟨rfl, hw6⟩
      replace hw6 := hw6.symm
      subst hw6
      clear cx p15
      go_wp2_with fail
      go_loopw [56] (fun i wz => ∃ j : Nat, j ≤ n ∧ i = .int .i64 j ∧ Hid (∀ i : Nat, i < j → badB V (p + (i : Int)) = false) ∧ Below w5.heap.size w5 wz) (fun i _ => n - (intOf i).toNat)
      case atStart => exact ⟨0, by omega, rfl, Lib.hid (fun i hi => absurd hi (by omega)), Below.refl _ _⟩
      case round =>
        obtain ⟨j, hj, rfl, hall, hB6⟩ := hrel
        by_cases hlt2 : j < n
        · have hlt2' : decide ((j : Int) < (n : Int)) = true := by simpa using hlt2
          have kx6 := kx.call hB6
          have cx := kx6.cell
          have p06 := (hB6.cell (p := ⟨ab, ao + mk * 3, none⟩) (by show ab < w5.heap.size; have := B5.size; omega)).trans p05
          have V6 := V3.out.call (B5.trans (hB6.mono B5.size))
          have HKd := vkind_any b (p + (j : Int)) V wr V6
          obtain ⟨kd, hkd⟩ : ∃ kd, kindF V (p + (j : Int)) = kd := ⟨_, rfl⟩
          obtain ⟨hu, hhu⟩ : ∃ hu, hugeF V (p + (j : Int)) = hu := ⟨_, rfl⟩
          have hbd : Hid (badB V (p + (j : Int)) = ((kd == 0 || kd == 3) || hu)) := Lib.hid (by unfold badB; rw [hkd, hhu])
          unfold kindF at hkd
          unfold hugeF at hhu
          rw [hkd, hhu] at HKd
          generalize (if 0 ≤ p + (j : Int) ∧ p + (j : Int) < 1024 then (0 : Int) else 7) = er at HKd
          have HKd' := Lib.hid HKd
          clear hkd hhu HKd kx6
          go_wp2_with fail
          refine HKd'.out.mono ?_
          rintro e w7 ⟨rfl, hb7⟩
          have B7 := B5.trans ((hB6.trans (hb7.mono hB6.size)).mono B5.size)
          have Bw7 := hB3.out.trans (B7.mono hsz3)
          have V7 := V3.out.call B7
          have hbad : ((kd == 0 || kd == 3) || hu) = true → Hid (R = ([], [], 9, V)) := fun h => Lib.hid (by
            have hDt : D = true := by
              rw [← hdc'.out, hbm.out, Bool.or_eq_true]
              refine .inl (List.any_eq_true.2 ⟨j, List.mem_range.2 hlt2, ?_⟩)
              rw [hbd.out]; exact h
            rw [hR2.out, if_pos hDt])
          have hb67 := hB6.trans (hb7.mono hB6.size)
          clear HKd' cx p06 V6 hb7
          by_cases h1 : kd = 0
          · subst h1
            have hR3 := hbad (by simp)
            clear hbad
            go_wp2_with fail
            (try simp only [Exit.inBlock, Exit.then]); refine bodyPost_ret (results_tmp3 rfl _ _ _) rfl ?_
            rw [hR3.out]
            exact ⟨none, 0, none, 0, rfl, RT.nil, fun _ _ h => (by cases h), RU.nil, fun _ _ h => (by cases h), V7, .of_below Bw7⟩
          by_cases h2 : kd = 3
          · subst h2
            have hR3 := hbad (by simp)
            clear hbad
            go_wp2_with fail
            (try simp only [Exit.inBlock, Exit.then]); refine bodyPost_ret (results_tmp3 rfl _ _ _) rfl ?_
            rw [hR3.out]
            exact ⟨none, 0, none, 0, rfl, RT.nil, fun _ _ h => (by cases h), RU.nil, fun _ _ h => (by cases h), V7, .of_below Bw7⟩
          have h1' : (kd == 0) = false := by simpa using h1
          have h2' : (kd == 3) = false := by simpa using h2
          cases hu with
          | true =>
            have hR3 := hbad (by simp)
            clear hbad h1 h2
            go_wp2_with fail
            (try simp only [Exit.inBlock, Exit.then]); refine bodyPost_ret (results_tmp3 rfl _ _ _) rfl ?_
            rw [hR3.out]
            exact ⟨none, 0, none, 0, rfl, RT.nil, fun _ _ h => (by cases h), RU.nil, fun _ _ h => (by cases h), V7, .of_below Bw7⟩
          | false =>
            have hall2 : Hid (∀ i : Nat, i < j + 1 → badB V (p + (i : Int)) = false) := Lib.hid (fun i hi => by
              by_cases e : i = j
              · subst e
                rw [hbd.out, h1', h2']; rfl
              · exact hall.out i (by omega))
            clear hbad h1 h2 V7
            go_wp2_with fail
            go_roundw
            case rel => exact ⟨j + 1, by omega, by go_num, hall2, hb67⟩
            case measure => simp [intOf]; omega
        · obtain rfl : j = n := by omega
          have hlt2' : decide ((j : Int) < (j : Int)) = false := by simp
          have hnx : Hid (downB V bs (ms.drop (k + 1)) = D) := Lib.hid (by
            have := hdc'.out
            rw [hbm.out, List.any_eq_false.2 (fun i hi => by rw [hall.out i (List.mem_range.1 hi)]; decide), Bool.false_or] at this
            exact this)
          have B6 := B5.trans (hB6.mono B5.size)
          go_wp2_with fail
          go_roundw
          case rel => exact ⟨k + 1, by omega, by go_num, hnx, B6⟩
          case measure => simp [intOf]; omega
    · obtain rfl : k = nm := by omega
      have hlt' : decide ((k : Int) < (k : Int)) = false := by simp
      have hDf : D = false := by
        rw [← hdr.out, List.drop_of_length_le (by rw [hmn'.out]; exact Nat.le_refl _)]
        rfl
      have hR3 : Hid (R = doL V bs [] ms) := Lib.hid (by rw [hR2.out, hDf, if_neg (by decide)])
      obtain ⟨wA, rfl⟩ : ∃ wA, wA = wr := ⟨_, rfl⟩
      obtain ⟨NB, hNB⟩ : ∃ NB, wA.heap.size = NB := ⟨_, rfl⟩
      have BA := hB3.out.trans (hB.mono hsz3)
      have VA := Lib.hid (V3.out.call hB)
      have hsA := hB.size
      have HCl := Lib.hid (clone_anyV A nb cb bs wA hn'.out (by omega) hz ((r3.out.below hB).more hB.size))
      have ruA := Lib.hid (show RU wA w3.heap.size M ms from ru3.out.below hB)
      clear hR2 hdr hDf hB
      go_wp2_with fail
      refine HCl.out.mono ?_
      rintro e w6 ⟨vc, rfl, rn6, hb6⟩
      obtain ⟨Av, cv, rfl⟩ := own_slice rn6
      have B6 := BA.trans (hb6.mono BA.size)
      have V6 := VA.out.call hb6
      have hs6 := hb6.size
      rw [hNB] at rn6 hb6
      have kM := Blk.new w6 169 #[.pointer (some ⟨b, 0, none⟩), .slice Av nb cv, .slice none 0 0]
      have hbm : Below w6.heap.size w6 (w6.alloc (.cells #[.pointer (some ⟨b, 0, none⟩), .slice Av nb cv, .slice none 0 0] 169)) := (Below.refl _ _).alloc (Nat.le_refl _) _
      obtain ⟨g0, hg0⟩ : ∃ g0, w6.heap.size = g0 := ⟨_, rfl⟩
      rw [hg0] at kM
      have ru6 := ruA.out.below (hb6.mono (by omega))
      clear HCl ruA VA
      go_upto_region 19 with fail
      have V7 := V6.call hbm
      have rn7 := ownsRow_call rn6 hbm
      have B7 := B6.trans (hbm.mono B6.size)
      have ru7 := Lib.hid (ru6.below (hbm.mono (by omega)))
      have hs7 := hbm.size
      generalize w6.alloc _ = w7 at *
      try simp only [hg0]
      have hMv7 := Lib.hid (MovIs.mk (tm := 169) (tb := 65) (ts := 115) (g0 := g0) (b := b) (NB := NB) (A := Av) (nb := nb) (nc := cv) (bs := bs) (st := []) (V := V) (w := w7) ⟨_, kM, rn7, World.ownsRow_nil _ _ _ _⟩ V7)
      have B7' := Lib.hid B7
      have hbNB : b < NB := by omega
      have hgb : g0 ≠ b := by omega
      clear V6 rn6 B6 hb6 ru6 hbm kM rn7 V7 B7 BA
      go_wp2_with fail
      go_loopw [91] (fun i w5 => ∃ (j : Nat) (bk : List B3) (sk : List Sp) (U : Vm), j ≤ k ∧ i = .int .i64 j ∧ Hid (doL V bs [] ms = doL U bk sk (ms.drop j)) ∧ Hid ((afterL pages bk (ms.drop j)).2 = 0) ∧ Hid (∀ x ∈ bk, insB pages x.1 x.2.1 = true) ∧ Hid (bk.length = nb) ∧ sk.length ≤ j ∧ Hid (MovIs w5 169 65 115 g0 b NB Av nb cv bk sk U) ∧ Far (fun k => k = b ∨ k = g0 ∨ NB ≤ k) w7 w5) (fun i _ => k - (intOf i).toNat)
      case atStart => exact ⟨0, bs, [], V, by omega, rfl, Lib.hid (by simp), Lib.hid (by simpa using hal'.out), hins', hn', by simp, hMv7, Far.refl _ _⟩
      case round =>
        clear hMv7
        obtain ⟨j, bk, sk, U, hj, rfl, hdo, haf, hik, hbl, hsk, hMv, hF⟩ := hrel
        have hB7s := B7'.out.size
        by_cases hlt2 : j < k
        · have hlt2' : decide ((j : Int) < (k : Int)) = true := by simpa using hlt2
          have hmn2 := hmn'.out
          have hdo2 := hdo.out
          have haf2 := haf.out
          rw [drop_cons (0, 0) ms j (by omega), doL_cons] at hdo2
          rw [drop_cons (0, 0) ms j (by omega)] at haf2
          obtain ⟨rb, ro, rfl, hrb, c5, c6⟩ := ru7.out.at_' (k := j) (by omega)
          have hne := hMb _ _ rfl (by omega)
          have d5 := hF.cell c5 (by show ¬ (rb = b ∨ rb = g0 ∨ NB ≤ rb); omega)
          have d6 := hF.cell c6 (by show ¬ (rb = b ∨ rb = g0 ∨ NB ≤ rb); omega)
          generalize ms.getD j (0, 0) = x at *
          obtain ⟨xk, xt⟩ := x
          simp only at d5 d6
          obtain ⟨hps, haf3⟩ := after_cons haf2
          obtain ⟨hin, hit⟩ := poss_ins hps
          simp only at hin hit
          obtain ⟨mk, rfl⟩ := Int.eq_ofNat_of_zero_le hin.1
          have hbl2 := hbl.out
          have hit2 := ins_bounds hp1 hit
          have hib := ins_bounds hp1 (hik.out (bk.getD mk b0) (by rw [List.getD_eq_getElem?_getD, List.getElem?_eq_getElem (by omega)]; exact List.getElem_mem _))
          have hik2 := Lib.hid (ins_mov hps hik.out)
          have hmkn : mk < nb := by omega
          obtain ⟨v2, kMk, rnk, rok⟩ := hMv.out.ex
          obtain ⟨gn, cq, e3, _⟩ := rnk.form (by omega)
          have eA : Av = some ⟨gn, 0, none⟩ := by injection e3
          subst eA
          clear e3
          have Vk := hMv.out.sys
          have kx := Blk.new wr 152 #[.int .i64 (mk : Int), .int .i64 xt]
          have hbx : Below wr.heap.size wr (wr.alloc (.cells #[.int .i64 (mk : Int), .int .i64 xt] 152)) := (Below.refl _ _).alloc (Nat.le_refl _) _
          obtain ⟨gx, hgx⟩ : ∃ gx, wr.heap.size = gx := ⟨_, rfl⟩
          rw [hgx] at kx
          have cx := kx.cell
          have hsr := hF.size
          have haf4 := Lib.hid haf3
          have hdo3 := Lib.hid hdo2
          clear hps hin hit haf2 haf3 hdo2 c5 c6 hdo haf
          go_upto_region 22 with fail
          have kM5 := kMk.call hbx
          have rn5 := ownsRow_call rnk hbx
          have ro5 := ownsRow_call rok hbx
          have V5 := Vk.call hbx
          have hF5 : Far (fun k => k = b ∨ k = g0 ∨ NB ≤ k) w7 _ := hF.trans (.of_below hbx)
          generalize wr.alloc _ = w5 at *
          try simp only [hgx]
          have hs5 := hF5.size
          have HMv := Lib.hid (move24_any g0 b NB gn cv nb mk xt bk sk v2 U w5 V5 kM5 hgb rn5 hbl2 ro5 (by omega) hbNB (by omega) hmkn hib.2 hib.1 hit2.2)
          clear kMk rnk rok Vk hMv hbx hF d5 d6 kM5 rn5 ro5 V5
          go_wp2_with fail
          refine HMv.out.mono ?_
          rintro e w8 ⟨r, hr, rfl, hM8, F8⟩
          have hF8 := hF5.trans F8
          have hmm : moveM U bk ((mk : Int), xt) = r := by rw [hr]; rfl
          rw [hmm] at hdo3
          obtain ⟨re, rt, rs, rV⟩ := r
          simp only at hdo3 hM8
          have hbl3 : Hid ((movBs bk mk xt (re, rt, rs, rV)).length = nb) := Lib.hid (by
            unfold movBs
            split
            · rw [List.length_set]; exact hbl2
            · exact hbl2)
          have hbo : re = 0 → movBs bk mk xt (re, rt, rs, rV) = movB bk ((mk : Int), xt) := fun h => by
            have := moveM_ok (V := U) (bs := bk) (m := ((mk : Int), xt)) (by rw [hmm]; exact h)
            rw [hmm] at this
            exact this
          have hsl : (movSt sk (bk.getD mk b0).1 xt (pw (bk.getD mk b0).2.1) (re, rt, rs, rV)).length ≤ sk.length + 1 := by
            unfold movSt
            split
            · rw [List.length_append]; exact Nat.le_refl _
            · omega
          rw [Int.toNat_natCast] at hdo3
          generalize movSt sk (bk.getD mk b0).1 xt (pw (bk.getD mk b0).2.1) (re, rt, rs, rV) = sk2 at *
          generalize movBs bk mk xt (re, rt, rs, rV) = bk2 at *
          have hM8' := Lib.hid hM8
          clear HMv hr hmm hM8 F8 hF5 kx cx
          by_cases hj2 : re = 0
          · subst hj2
            rw [if_neg (by simp)] at hdo3
            have hdo4 : Hid (doL V bs [] ms = doL rV bk2 sk2 (ms.drop (j + 1))) := Lib.hid hdo3
            have hb2 := hbo rfl
            have haf5 : Hid ((afterL pages bk2 (ms.drop (j + 1))).2 = 0) := Lib.hid (by rw [hb2]; exact haf4.out)
            have hik3 : Hid (∀ x ∈ bk2, insB pages x.1 x.2.1 = true) := Lib.hid (by rw [hb2]; exact hik2.out)
            clear hdo3 hbo hb2
            go_wp2_with fail
            go_roundw
            case rel => exact ⟨j + 1, bk2, sk2, rV, by omega, by go_num, hdo4, haf5, hik3, hbl3, by omega, hM8', hF8⟩
            case measure => simp [intOf]; omega
          · have hj2' : (re != 0) = true := by simpa using hj2
            rw [if_pos hj2] at hdo3
            have hR4 : Hid (R = (bk2, sk2, re, rV)) := Lib.hid (by rw [hR3.out, hdo3])
            obtain ⟨v8, kM8, rn8, ro8⟩ := hM8'.out.ex
            have V8 := hM8'.out.sys
            obtain ⟨A8, c8, e8, rt8, _, _, hft8, _⟩ := own_RT rn8 hbl3.out
            simp only [Value.slice.injEq] at e8
            obtain ⟨rfl, _, rfl⟩ := e8
            obtain ⟨A9, c9, rfl, ru9, _, _, hfu9, _⟩ := own_RU ro8 rfl
            have e0 := fun x : Ext w8 => (x.blk kM8).cell
            have FF : Far (fun k => k = b) w w8 := (Far.of_below B7'.out : Far (fun k => k = b) w w7).trans' hF8 (fun i hi h => by
              rcases h with h | h | h
              · exact h
              · omega
              · omega)
            clear hdo3 hbo
            go_upto_region 24 with fail
            refine region_ext (by kernel_rfl) (by kernel_rfl) ?_
            repeat (go_big_quiet_step (fail))
            refine wpQuiet_nil ?_
            rintro w9 ⟨⟨_, hw9⟩, rfl⟩
            go_wp2_with fail
            (try simp only [Exit.inBlock, Exit.then]); refine bodyPost_ret (results_tmp3 rfl _ _ _) rfl ?_
            rw [hR4.out]
            exact ⟨_, _, A9, c9, by rw [hbl3.out]; rfl, rt8.on hw9, fun g o e => by have := hft8 g o e; omega, ru9.on hw9, fun g o e => by have := hfu9 g o e; omega, V8.call hw9, FF.trans (.of_below hw9)⟩
        · obtain rfl : j = k := by omega
          have hlt2' : decide ((j : Int) < (j : Int)) = false := by simp
          have hR4 : Hid (R = (bk, sk, 0, U)) := Lib.hid (by
            rw [hR3.out, hdo.out, List.drop_of_length_le (by rw [hmn'.out]; exact Nat.le_refl _)]
            rfl)
          obtain ⟨v8, kM8, rn8, ro8⟩ := hMv.out.ex
          have V8 := hMv.out.sys
          obtain ⟨A8, c8, e8, rt8, _, _, hft8, _⟩ := own_RT rn8 hbl.out
          simp only [Value.slice.injEq] at e8
          obtain ⟨rfl, _, rfl⟩ := e8
          obtain ⟨A9, c9, rfl, ru9, _, _, hfu9, _⟩ := own_RU ro8 rfl
          have e0 := fun x : Ext wr => (x.blk kM8).cell
          have FF : Far (fun k => k = b) w wr := (Far.of_below B7'.out : Far (fun k => k = b) w w7).trans' hF (fun i hi h => by
            rcases h with h | h | h
            · exact h
            · omega
            · omega)
          clear hdo hMv
          go_upto_region 26 with fail
          refine region_ext (by kernel_rfl) (by kernel_rfl) ?_
          repeat (go_big_quiet_step (fail))
          refine wpQuiet_nil ?_
          rintro w9 ⟨⟨_, hw9⟩, rfl⟩
          go_wp2_with fail
          (try simp only [Exit.inBlock, Exit.then]); refine bodyPost_ret (results_tmp3 rfl _ _ _) rfl ?_
          rw [hR4.out]
          exact ⟨_, _, A9, c9, by rw [hbl.out]; rfl, rt8.on hw9, fun g o e => by have := hft8 g o e; omega, ru9.on hw9, fun g o e => by have := hfu9 g o e; omega, V8.call hw9, FF.trans (.of_below hw9)⟩
end Go.Proofs.YtpabnbhbcphfiaaGreat
namespace Go.Pol
open Go Go.RowKit
def resS (V : Vm) (x : Int × Int) : Vm := (bec V x.1 x.2 0 0 1).2
def comS (V : Vm) (x : Int × Int) : Vm := (bec V x.1 x.2 2 1 2).2
def guaS (V : Vm) (x : Int × Int) : Vm := (bec V x.1 x.2 4 1 3).2
def wriS (V : Vm) (x : Int × Int) : Vm := writeF V x.1 x.2
def joiS (V : Vm) (g : Int) : Vm := (Go.Pol.joinF V g).2
/-- what law 24 makes a system of -/
def sysG (rs cs gs : List (Int × Int)) (hs : List Int) (ws : List (Int × Int)) (l : List Ru) : Vm := planF (hs.foldl joiS (ws.foldl wriS (gs.foldl guaS (cs.foldl comS (rs.foldl resS newVm))))) l
theorem sysG_kind (rs cs gs hs ws l) : KindOk (sysG rs cs gs hs ws l) :=
  (foldl_kind (fun _ _ h => KindOk.join h _) _ _ (foldl_kind (fun _ _ h => KindOk.write h _ _) _ _ (foldl_kind (fun _ _ h => KindOk.bec h _ _ _ _ (by omega)) _ _ (foldl_kind (fun _ _ h => KindOk.bec h _ _ _ _ (by omega)) _ _ (foldl_kind (fun _ _ h => KindOk.bec h _ _ _ _ (by omega)) _ _ newKind))))).plan _
end Go.Pol
namespace Go.Proofs.YtpabnbhbcphfiaaGreat
open Go Go.Proofs Go.RowKit Go.Pol Go.Shelf
attribute [local go_sem] Oper.semAt_some Go.Pol.wide_fn Go.Pol.wide_depth Go.Pol.wide_fn' Go.Pol.wide_depth'

set_option maxRecDepth 100000 in
set_option maxHeartbeats 3200000 in
theorem sys24_any (A1 A2 A3 Ah Aw Ar : Option Addr) (n1 c1 n2 c2 n3 c3 nh ch nw cw nr cr : Nat) (rs cs gs : List (Int × Int)) (hs : List Int) (ws : List (Int × Int)) (l : List Ru) (w : World)
    (h1 : rs.length = n1) (h2 : cs.length = n2) (h3 : gs.length = n3) (hhs : hs.length = nh) (hws : ws.length = nw) (hl : l.length = nr) (hm : (n1 ≤ 1000 ∧ n2 ≤ 1000 ∧ n3 ≤ 1000) ∧ nh ≤ 1000 ∧ nw ≤ 1000 ∧ nr ≤ 1000) (hz : Ar = none → cr = 0)
    (r1 : RU w w.heap.size A1 rs) (r2 : RU w w.heap.size A2 cs) (r3 : RU w w.heap.size A3 gs) (ri : RI w w.heap.size Ah hs) (rb : Rd w w.heap.size Aw (fl wrC ws)) (rr : Rd w w.heap.size Ar (fl ruC l)) :
    Calls Tryz.prog 33 #[.agg #[.slice A1 n1 c1, .slice A2 n2 c2, .slice A3 n3 c3, .slice Ah nh ch, .slice Aw nw cw, .slice Ar nr cr]] w (SysO (sysG rs cs gs hs ws l) w) := by
  obtain ⟨⟨hm1, hm2, hm3⟩, hm4, hm5, hm6⟩ := hm
  obtain ⟨P, hP⟩ : ∃ P, sysG rs cs gs hs ws l = P := ⟨_, rfl⟩
  rw [hP]
  have hP' : Hid (planF (hs.foldl joiS (ws.foldl wriS (gs.foldl guaS (cs.foldl comS (rs.foldl resS newVm))))) l = P) := Lib.hid hP
  clear hP
  have HN := Lib.hid (fun W => new_any W)
  have hb0 := (Below.refl w.heap.size w).alloc (Nat.le_refl _) (.cells #[.slice A1 n1 c1, .slice A2 n2 c2, .slice A3 n3 c3, .slice Ah nh ch, .slice Aw nw cw, .slice Ar nr cr] 78)
  have k0 := Blk.new w 78 #[.slice A1 n1 c1, .slice A2 n2 c2, .slice A3 n3 c3, .slice Ah nh ch, .slice Aw nw cw, .slice Ar nr cr]
  obtain ⟨s, hs0⟩ : ∃ s, w.heap.size = s := ⟨_, rfl⟩
  have hsz0 : (w.alloc (.cells #[.slice A1 n1 c1, .slice A2 n2 c2, .slice A3 n3 c3, .slice Ah nh ch, .slice Aw nw cw, .slice Ar nr cr] 78)).heap.size = s + 1 := by rw [World.size_alloc, hs0]
  have r10 := Lib.hid (r1.below hb0)
  have r20 := Lib.hid (r2.below hb0)
  have r30 := Lib.hid (r3.below hb0)
  have ri0 := Lib.hid (ri.below hb0)
  have rb0 := Lib.hid (rb.below hb0)
  have rr0 := Lib.hid (rr.below hb0)
  have hGd : Hid (∀ _ : Nat, True) := Lib.hid (fun _ => trivial)
  rw [hs0] at k0 hb0 r10 r20 r30 ri0 rb0 rr0
  clear r1 r2 r3 ri rb rr
  go_enter Tryz.func33, Tryz.ntmps33
  go_upto_region 1 with fail
  generalize w.alloc _ = w0 at *
  go_wp2_with fail
  unfold NewO at HN
  refine (HN.out w0).mono ?_
  rintro e w1 ⟨b, rfl, V1, hbb, hb1⟩
  rw [hsz0] at hb1 hbb
  have hV0 := Lib.hid V1
  have hB0 := hb1
  clear V1 hb1 HN
  go_wp2_with fail
  go_loopw [5] (fun u wr => ∃ k : Nat, k ≤ n1 ∧ u = .int .i64 k ∧ Below (s + 1) w0 wr ∧ Hid (SysIs wr b ((rs.take k).foldl resS newVm))) (fun u _ => n1 - (intOf u).toNat)
  case atStart => exact ⟨0, by omega, rfl, hB0, by simpa using hV0⟩
  clear hV0 hB0
  obtain ⟨k, hk, rfl, hB, hV⟩ := hrel
  have kb := k0.below hB (by omega)
  have c0 := kb.cell
  by_cases hlt : k < n1
  case pos =>
    have hlt' : decide ((k : Int) < (n1 : Int)) = true := by simpa using hlt
    have hstep : (rs.take (k + 1)).foldl resS newVm = resS ((rs.take k).foldl resS newVm) (rs.getD k (0, 0)) := by
      rw [z_take (0, 0) rs (by omega), List.foldl_append]
      rfl
    have hstep' := Lib.hid hstep
    obtain ⟨ub, uo, rfl, hub, hc, hd⟩ := (r10.out.below (hB.mono (by omega))).at_' (k := k) (by omega)
    generalize rs.getD k (0, 0) = x at *
    generalize (rs.take k).foldl resS newVm = V at *
    obtain ⟨xa, xn⟩ := x
    simp only at hc hd
    have e0 := fun x : Ext wr => (x.blk kb).cell
    have e1 := fun x : Ext wr => x.cell hc
    have e2 := fun x : Ext wr => x.cell hd
    clear hstep hc hd
    go_upto_region 7 with fail
    clear c0
    refine region_ext_tail 13 (by kernel_rfl) (by kernel_rfl) ?_
    simp only [List.take_succ_cons, List.take_zero, List.drop_succ_cons, List.drop_zero]
    repeat (go_big_quiet_step (fail))
    refine wpQuiet_nil ?_
    intro z
    go_wp2_with fail
    refine (reserve_any b xa xn V z.w (hV.out.call z.le)).mono ?_
    rintro e w2 ⟨rfl, V2, F2⟩
    have hB2 := (hB.trans (z.le.mono (by have := hB.size; omega))).trans (F2.below (by have := hB.size; have := z.le.size; omega) (fun k hk e => by omega))
    have V2' := Lib.hid V2
    clear e0 e1 e2 hV F2 V2
    go_wp2_with fail
    go_roundw
    case rel => exact ⟨k + 1, by omega, by go_num, hB2, Lib.hid (by rw [hstep'.out]; exact V2'.out)⟩
    case measure => simp [intOf]; omega
  obtain rfl : k = n1 := by omega
  have hlt' : decide ((k : Int) < (k : Int)) = false := by simp
  have hV2 : Hid (SysIs wr b (rs.foldl resS newVm)) := Lib.hid (by have := hV.out; rwa [show k = rs.length from (by omega), List.take_length] at this)
  generalize rs.foldl resS newVm = Va at *
  clear hV
  go_wp2_with fail
  clear hlt' c0 hlt
  have hB0 := hB
  have hV0 := hV2
  clear hB hV2 kb hk
  go_loopw [6] (fun u wr => ∃ k : Nat, k ≤ n2 ∧ u = .int .i64 k ∧ Below (s + 1) w0 wr ∧ Hid (SysIs wr b ((cs.take k).foldl comS Va))) (fun u _ => n2 - (intOf u).toNat)
  case atStart => exact ⟨0, by omega, rfl, hB0, by simpa using hV0⟩
  clear hV0 hB0
  obtain ⟨k, hk, rfl, hB, hV⟩ := hrel
  have kb := k0.below hB (by omega)
  have c0 := kb.cell
  by_cases hlt : k < n2
  case pos =>
    have hlt' : decide ((k : Int) < (n2 : Int)) = true := by simpa using hlt
    have hstep : (cs.take (k + 1)).foldl comS Va = comS ((cs.take k).foldl comS Va) (cs.getD k (0, 0)) := by
      rw [z_take (0, 0) cs (by omega), List.foldl_append]
      rfl
    have hstep' := Lib.hid hstep
    obtain ⟨ub, uo, rfl, hub, hc, hd⟩ := (r20.out.below (hB.mono (by omega))).at_' (k := k) (by omega)
    generalize cs.getD k (0, 0) = x at *
    generalize (cs.take k).foldl comS Va = V at *
    obtain ⟨xa, xn⟩ := x
    simp only at hc hd
    have e0 := fun x : Ext wr => (x.blk kb).cell
    have e1 := fun x : Ext wr => x.cell hc
    have e2 := fun x : Ext wr => x.cell hd
    clear hstep hc hd
    go_upto_region 11 with fail
    clear c0
    refine region_ext_tail 13 (by kernel_rfl) (by kernel_rfl) ?_
    simp only [List.take_succ_cons, List.take_zero, List.drop_succ_cons, List.drop_zero]
    repeat (go_big_quiet_step (fail))
    refine wpQuiet_nil ?_
    intro z
    go_wp2_with fail
    refine (commit_any b xa xn V z.w (hV.out.call z.le)).mono ?_
    rintro e w2 ⟨rfl, V2, F2⟩
    have hB2 := (hB.trans (z.le.mono (by have := hB.size; omega))).trans (F2.below (by have := hB.size; have := z.le.size; omega) (fun k hk e => by omega))
    have V2' := Lib.hid V2
    clear e0 e1 e2 hV F2 V2
    go_wp2_with fail
    go_roundw
    case rel => exact ⟨k + 1, by omega, by go_num, hB2, Lib.hid (by rw [hstep'.out]; exact V2'.out)⟩
    case measure => simp [intOf]; omega
  obtain rfl : k = n2 := by omega
  have hlt' : decide ((k : Int) < (k : Int)) = false := by simp
  have hV2 : Hid (SysIs wr b (cs.foldl comS Va)) := Lib.hid (by have := hV.out; rwa [show k = cs.length from (by omega), List.take_length] at this)
  generalize cs.foldl comS Va = Vb at *
  clear hV
  go_wp2_with fail
  clear hlt' c0 hlt
  have hB0 := hB
  have hV0 := hV2
  clear hB hV2 kb hk
  go_loopw [7] (fun u wr => ∃ k : Nat, k ≤ n3 ∧ u = .int .i64 k ∧ Below (s + 1) w0 wr ∧ Hid (SysIs wr b ((gs.take k).foldl guaS Vb))) (fun u _ => n3 - (intOf u).toNat)
  case atStart => exact ⟨0, by omega, rfl, hB0, by simpa using hV0⟩
  clear hV0 hB0
  obtain ⟨k, hk, rfl, hB, hV⟩ := hrel
  have kb := k0.below hB (by omega)
  have c0 := kb.cell
  by_cases hlt : k < n3
  case pos =>
    have hlt' : decide ((k : Int) < (n3 : Int)) = true := by simpa using hlt
    have hstep : (gs.take (k + 1)).foldl guaS Vb = guaS ((gs.take k).foldl guaS Vb) (gs.getD k (0, 0)) := by
      rw [z_take (0, 0) gs (by omega), List.foldl_append]
      rfl
    have hstep' := Lib.hid hstep
    obtain ⟨ub, uo, rfl, hub, hc, hd⟩ := (r30.out.below (hB.mono (by omega))).at_' (k := k) (by omega)
    generalize gs.getD k (0, 0) = x at *
    generalize (gs.take k).foldl guaS Vb = V at *
    obtain ⟨xa, xn⟩ := x
    simp only at hc hd
    have e0 := fun x : Ext wr => (x.blk kb).cell
    have e1 := fun x : Ext wr => x.cell hc
    have e2 := fun x : Ext wr => x.cell hd
    clear hstep hc hd
    go_upto_region 15 with fail
    clear c0
    refine region_ext_tail 13 (by kernel_rfl) (by kernel_rfl) ?_
    simp only [List.take_succ_cons, List.take_zero, List.drop_succ_cons, List.drop_zero]
    repeat (go_big_quiet_step (fail))
    refine wpQuiet_nil ?_
    intro z
    go_wp2_with fail
    refine (guard_any b xa xn V z.w (hV.out.call z.le)).mono ?_
    rintro e w2 ⟨rfl, V2, F2⟩
    have hB2 := (hB.trans (z.le.mono (by have := hB.size; omega))).trans (F2.below (by have := hB.size; have := z.le.size; omega) (fun k hk e => by omega))
    have V2' := Lib.hid V2
    clear e0 e1 e2 hV F2 V2
    go_wp2_with fail
    go_roundw
    case rel => exact ⟨k + 1, by omega, by go_num, hB2, Lib.hid (by rw [hstep'.out]; exact V2'.out)⟩
    case measure => simp [intOf]; omega
  obtain rfl : k = n3 := by omega
  have hlt' : decide ((k : Int) < (k : Int)) = false := by simp
  have hV2 : Hid (SysIs wr b (gs.foldl guaS Vb)) := Lib.hid (by have := hV.out; rwa [show k = gs.length from (by omega), List.take_length] at this)
  generalize gs.foldl guaS Vb = Vc at *
  clear hV
  go_wp2_with fail
  clear hlt' c0 hlt
  have hB0 := hB
  have hV0 := hV2
  clear hB hV2 kb hk
  go_loopw [8] (fun u wr => ∃ k : Nat, k ≤ nw ∧ u = .int .i64 k ∧ Below (s + 1) w0 wr ∧ Hid (SysIs wr b ((ws.take k).foldl wriS Vc))) (fun u _ => nw - (intOf u).toNat)
  case atStart => exact ⟨0, by omega, rfl, hB0, by simpa using hV0⟩
  clear hV0 hB0
  obtain ⟨k, hk, rfl, hB, hV⟩ := hrel
  have kb := k0.below hB (by omega)
  have c0 := kb.cell
  by_cases hlt : k < nw
  case pos =>
    have hlt' : decide ((k : Int) < (nw : Int)) = true := by simpa using hlt
    have hstep : (ws.take (k + 1)).foldl wriS Vc = wriS ((ws.take k).foldl wriS Vc) (ws.getD k (0, 0)) := by
      rw [z_take (0, 0) ws (by omega), List.foldl_append]
      rfl
    have hstep' := Lib.hid hstep
    obtain ⟨ub, uo, rfl, hub, hc⟩ := (rb0.out.below (hB.mono (by omega))).elem wrC_len (by omega) (0, 0) (k := k) (by omega)
    generalize ws.getD k (0, 0) = x at *
    generalize (ws.take k).foldl wriS Vc = V at *
    obtain ⟨xa, xv⟩ := x
    have hc0 : wr.cell? ⟨ub, uo + k * 2, none⟩ = some (.int .i64 xa) := hc 0 _ rfl
    have hc1 : wr.cell? ⟨ub, uo + k * 2 + 1, none⟩ = some (.int .u8 xv) := hc 1 _ rfl
    have e0 := fun x : Ext wr => (x.blk kb).cell
    have e1 := fun x : Ext wr => x.cell hc0
    have e2 := fun x : Ext wr => x.cell hc1
    clear hstep hc hc0 hc1
    go_upto_region 19 with fail
    clear c0
    refine region_ext_tail 13 (by kernel_rfl) (by kernel_rfl) ?_
    simp only [List.take_succ_cons, List.take_zero, List.drop_succ_cons, List.drop_zero]
    repeat (go_big_quiet_step (fail))
    refine wpQuiet_nil ?_
    intro z
    go_wp2_with fail
    refine (write_any b xa xv V z.w (hV.out.call z.le)).mono ?_
    rintro e w2 ⟨rfl, V2, F2⟩
    have hB2 := (hB.trans (z.le.mono (by have := hB.size; omega))).trans (F2.below (by have := hB.size; have := z.le.size; omega) (fun k hk e => by omega))
    have V2' := Lib.hid V2
    clear e0 e1 e2 hV F2 V2
    go_wp2_with fail
    go_roundw
    case rel => exact ⟨k + 1, by omega, by go_num, hB2, Lib.hid (by rw [hstep'.out]; exact V2'.out)⟩
    case measure => simp [intOf]; omega
  obtain rfl : k = nw := by omega
  have hlt' : decide ((k : Int) < (k : Int)) = false := by simp
  have hV2 : Hid (SysIs wr b (ws.foldl wriS Vc)) := Lib.hid (by have := hV.out; rwa [show k = ws.length from (by omega), List.take_length] at this)
  generalize ws.foldl wriS Vc = Vd at *
  clear hV
  go_wp2_with fail
  clear hlt' c0 hlt
  have hB0 := hB
  have hV0 := hV2
  clear hB hV2 kb hk
  go_loopw [9] (fun u wr => ∃ k : Nat, k ≤ nh ∧ u = .int .i64 k ∧ Below (s + 1) w0 wr ∧ Hid (SysIs wr b ((hs.take k).foldl joiS Vd))) (fun u _ => nh - (intOf u).toNat)
  case atStart => exact ⟨0, by omega, rfl, hB0, by simpa using hV0⟩
  clear hV0 hB0
  obtain ⟨k, hk, rfl, hB, hV⟩ := hrel
  have kb := k0.below hB (by omega)
  have c0 := kb.cell
  by_cases hlt : k < nh
  case pos =>
    have hlt' : decide ((k : Int) < (nh : Int)) = true := by simpa using hlt
    have hstep : (hs.take (k + 1)).foldl joiS Vd = joiS ((hs.take k).foldl joiS Vd) (hs.getD k 0) := by
      rw [z_take 0 hs (by omega), List.foldl_append]
      rfl
    obtain ⟨ub, uo, rfl, hub, hc⟩ := (ri0.out.below (hB.mono (by omega))).at_ (k := k) (by omega)
    generalize hs.getD k 0 = x at *
    have hGk := hGd.out k
    generalize (hs.take k).foldl joiS Vd = V at *
    have hstep' : Hid ((hs.take (k + 1)).foldl joiS Vd = (Go.Pol.joinF V x).2) := Lib.hid hstep
    have HJ := Lib.hid (vjoin_any b x V wr hV.out)
    clear hstep
    go_wp2_with fail
    refine HJ.out.mono ?_
    rintro e w2 ⟨rfl, V2, F2⟩
    have hB2 := hB.trans (F2.below (by have := hB.size; omega) (fun k hk e => by omega))
    have V2' := Lib.hid V2
    clear hV F2 V2 HJ
    go_wp2_with fail
    go_roundw
    case rel => exact ⟨k + 1, by omega, by go_num, hB2, Lib.hid (by rw [hstep'.out]; exact V2'.out)⟩
    case measure => simp [intOf]; omega
  obtain rfl : k = nh := by omega
  have hlt' : decide ((k : Int) < (k : Int)) = false := by simp
  have hV2 : Hid (SysIs wr b (hs.foldl joiS Vd)) := Lib.hid (by have := hV.out; rwa [show k = hs.length from (by omega), List.take_length] at this)
  generalize hs.foldl joiS Vd = Ve at *
  clear hV hGd
  have HP := Lib.hid (plan_any b Ar nr cr l _ wr hV2.out hl (by omega) hz ((rr0.out.below (hB.mono (by omega))).more (by have := hB.size; omega)))
  go_wp2_with fail
  refine HP.out.mono ?_
  rintro e w2 ⟨rfl, V2, F2⟩
  have hB2 := hb0.trans ((hB.trans (F2.below (by have := hB.size; omega) (fun k hk e => by omega))).mono (by omega))
  have V2' := Lib.hid V2
  clear HP hV2 F2 V2 hB
  go_wp2_with fail
  go_ret
  exact ⟨b, rfl, by rw [← hP'.out]; exact V2'.out, by omega, by rw [hs0]; exact hB2⟩
end Go.Proofs.YtpabnbhbcphfiaaGreat
namespace Go.Pol
open Go
def greatG (n1 n2 n3 nh nw nr : Nat) : Bool := decide (70 < n1) || decide (70 < n2) || decide (70 < n3) || decide (70 < nh) || decide (100 < nw) || decide (55 < nr)
end Go.Pol
namespace Go.Proofs.YtpabnbhbcphfiaaGreat
open Go Go.Proofs Go.RowKit Go.Pol Go.Shelf
attribute [local go_sem] Oper.semAt_some Go.Pol.wide_fn Go.Pol.wide_depth Go.Pol.wide_fn' Go.Pol.wide_depth'

set_option maxHeartbeats 800000 in
theorem great24_any (A1 A2 A3 Ah Aw Ar : Option Addr) (n1 c1 n2 c2 n3 c3 nh ch nw cw nr cr : Nat) (w : World) :
    Calls Tryz.prog 31 #[.agg #[.slice A1 n1 c1, .slice A2 n2 c2, .slice A3 n3 c3, .slice Ah nh ch, .slice Aw nw cw, .slice Ar nr cr]] w fun e w' => e = .returned (.bool (greatG n1 n2 n3 nh nw nr)) ∧ Below w.heap.size w w' := by
  have hb0 := (Below.refl w.heap.size w).alloc (Nat.le_refl _) (.cells #[.slice A1 n1 c1, .slice A2 n2 c2, .slice A3 n3 c3, .slice Ah nh ch, .slice Aw nw cw, .slice Ar nr cr] 78)
  have hG := Lib.hid (show greatG n1 n2 n3 nh nw nr = (decide (70 < n1) || decide (70 < n2) || decide (70 < n3) || decide (70 < nh) || decide (100 < nw) || decide (55 < nr)) from rfl)
  generalize greatG n1 n2 n3 nh nw nr = R at *
  by_cases h1 : 70 < n1
  · have d1 : decide ((70 : Int) < (n1 : Int)) = true := by rw [decide_eq_true_eq]; omega
    have hR : Hid (true = R) := Lib.hid (by rw [hG.out, decide_eq_true h1]; simp)
    clear h1
    go_enter Tryz.func31, Tryz.ntmps31
    go_wp2_with fail
    go_ret
    exact ⟨z_ret_bool hR.out, hb0⟩
  have d1 : decide ((70 : Int) < (n1 : Int)) = false := by rw [decide_eq_false_iff_not]; omega
  by_cases h2 : 70 < n2
  · have d2 : decide ((70 : Int) < (n2 : Int)) = true := by rw [decide_eq_true_eq]; omega
    have hR : Hid (true = R) := Lib.hid (by rw [hG.out, decide_eq_true h2]; simp)
    clear h1 h2
    go_enter Tryz.func31, Tryz.ntmps31
    go_wp2_with fail
    go_ret
    exact ⟨z_ret_bool hR.out, hb0⟩
  have d2 : decide ((70 : Int) < (n2 : Int)) = false := by rw [decide_eq_false_iff_not]; omega
  by_cases h3 : 70 < n3
  · have d3 : decide ((70 : Int) < (n3 : Int)) = true := by rw [decide_eq_true_eq]; omega
    have hR : Hid (true = R) := Lib.hid (by rw [hG.out, decide_eq_true h3]; simp)
    clear h1 h2 h3
    go_enter Tryz.func31, Tryz.ntmps31
    go_wp2_with fail
    go_ret
    exact ⟨z_ret_bool hR.out, hb0⟩
  have d3 : decide ((70 : Int) < (n3 : Int)) = false := by rw [decide_eq_false_iff_not]; omega
  by_cases h4 : 70 < nh
  · have d4 : decide ((70 : Int) < (nh : Int)) = true := by rw [decide_eq_true_eq]; omega
    have hR : Hid (true = R) := Lib.hid (by rw [hG.out, decide_eq_true h4]; simp)
    clear h1 h2 h3 h4
    go_enter Tryz.func31, Tryz.ntmps31
    go_wp2_with fail
    go_ret
    exact ⟨z_ret_bool hR.out, hb0⟩
  have d4 : decide ((70 : Int) < (nh : Int)) = false := by rw [decide_eq_false_iff_not]; omega
  by_cases h5 : 100 < nw
  · have d5 : decide ((100 : Int) < (nw : Int)) = true := by rw [decide_eq_true_eq]; omega
    have hR : Hid (true = R) := Lib.hid (by rw [hG.out, decide_eq_true h5]; simp)
    clear h1 h2 h3 h4 h5
    go_enter Tryz.func31, Tryz.ntmps31
    go_wp2_with fail
    go_ret
    exact ⟨z_ret_bool hR.out, hb0⟩
  have d5 : decide ((100 : Int) < (nw : Int)) = false := by rw [decide_eq_false_iff_not]; omega
  by_cases h6 : 55 < nr
  · have d6 : decide ((55 : Int) < (nr : Int)) = true := by rw [decide_eq_true_eq]; omega
    have hR : Hid (true = R) := Lib.hid (by rw [hG.out, decide_eq_true h6]; simp)
    clear h1 h2 h3 h4 h5 h6
    go_enter Tryz.func31, Tryz.ntmps31
    go_wp2_with fail
    go_ret
    exact ⟨z_ret_bool hR.out, hb0⟩
  have d6 : decide ((55 : Int) < (nr : Int)) = false := by rw [decide_eq_false_iff_not]; omega
  have hR : Hid (false = R) := Lib.hid (by rw [hG.out, decide_eq_false h1, decide_eq_false h2, decide_eq_false h3, decide_eq_false h4, decide_eq_false h5, decide_eq_false h6]; rfl)
  clear h1 h2 h3 h4 h5 h6
  go_enter Tryz.func31, Tryz.ntmps31
  go_wp2_with fail
  go_ret
  exact ⟨z_ret_bool hR.out, hb0⟩
end Go.Proofs.YtpabnbhbcphfiaaGreat
namespace Go.Proofs.YtpabnbhbcphfiaaGreat
open Go Go.Proofs Go.RowKit Go.Pol Go.Shelf
attribute [local go_sem] Oper.semAt_some Go.Pol.wide_fn Go.Pol.wide_depth Go.Pol.wide_fn' Go.Pol.wide_depth'

theorem eqRu (a b c d : Int) (w : World) : (Op.equalIn 10000 136 (.agg #[.int .i64 a, .int .i64 b, .int .i64 c, .int .i64 d]) (.agg #[.int .i64 a, .int .i64 b, .int .i64 c, .int .i64 d])).run Tryz.prog w = .ok true w := by
  have u3 := Tryz.underlying3
  have a3 := Tryz.isAgg3
  have z3 := Tryz.sizeOf3
  rw [show (10000 : Nat) = 9999 + 1 from rfl]
  go_simp
  try simp
theorem eqRn (a b c : Int) (w : World) : (Op.equalIn 10000 122 (.agg #[.int .i64 a, .int .i64 b, .int .i64 c]) (.agg #[.int .i64 a, .int .i64 b, .int .i64 c])).run Tryz.prog w = .ok true w := by
  have u3 := Tryz.underlying3
  have a3 := Tryz.isAgg3
  have z3 := Tryz.sizeOf3
  rw [show (10000 : Nat) = 9999 + 1 from rfl]
  go_simp
  try simp
set_option maxRecDepth 100000 in
set_option maxHeartbeats 1600000 in
theorem samePlan_any (A A' : Option Addr) (n cap cap' : Nat) (l : List Ru) (w : World) (hn : l.length = n) (hm : n ≤ 1000) (hr : Rd w w.heap.size A (fl ruC l)) (hr' : Rd w w.heap.size A' (fl ruC l)) :
    Calls Tryz.prog 131 #[.agg #[.slice A n cap], .agg #[.slice A' n cap']] w fun e w' => e = .returned (.bool true) ∧ Below w.heap.size w w' := by
  have hb0 := ((Below.refl w.heap.size w).alloc (Nat.le_refl _) (.cells #[.slice A n cap] 25)).alloc (by simp) (.cells #[.slice A' n cap'] 25)
  have k0 := (Blk.new w 25 #[.slice A n cap]).alloc (.cells #[.slice A' n cap'] 25)
  have k1 := Blk.new (w.alloc (.cells #[.slice A n cap] 25)) 25 #[.slice A' n cap']
  have r0 := hr.on_ hb0
  have r1 := hr'.on_ hb0
  obtain ⟨s, hs⟩ : ∃ s, w.heap.size = s := ⟨_, rfl⟩
  rw [World.size_alloc, hs] at k1
  rw [hs] at k0
  have hn' := Lib.hid hn
  have heq := Lib.hid (fun a b c d W => eqRu a b c d W)
  clear hn hr hr'
  go_enter Tryz.func131, Tryz.ntmps131
  go_upto_region 1 with fail
  generalize (w.alloc _).alloc _ = w0 at *
  try simp only [hs]
  have c0 := k0.cell
  have c1 := k1.cell
  have d0 : ((n : Int) != (n : Int)) = false := by simp
  go_upto_region 3 with fail
  clear c0 c1
  have k0' := Lib.hid k0
  have k1' := Lib.hid k1
  clear k0 k1
  go_wp2_with fail
  go_loopw [5] (fun u wr => ∃ i : Nat, i ≤ n ∧ u = .int .i64 i ∧ Below w0.heap.size w0 wr) (fun u _ => n - (intOf u).toNat)
  case atStart => exact ⟨0, by omega, rfl, Below.refl _ _⟩
  case round =>
    obtain ⟨i, hi, rfl, hB⟩ := hrel
    have kr := k0'.out.call hB
    have kq := k1'.out.call hB
    have cr := kr.cell
    by_cases hlt : i < n
    · have hlt' : decide ((i : Int) < (n : Int)) = true := by simpa using hlt
      have hin : (i : Int) < (n : Int) := by omega
      obtain ⟨b, o, rfl, hb, hc⟩ := (r0.on_ hB).elem ruC_len (by omega) ru0 (k := i) (by have := hn'.out; omega)
      obtain ⟨b', o', rfl, hb', hc'⟩ := (r1.on_ hB).elem ruC_len (by omega) ru0 (k := i) (by have := hn'.out; omega)
      generalize l.getD i ru0 = x at *
      obtain ⟨xk, f, e, t⟩ := x
      have x0 := hc 0 _ rfl
      have x1 := hc 1 _ rfl
      have x2 := hc 2 _ rfl
      have x3 := hc 3 _ rfl
      have y0 := hc' 0 _ rfl
      have y1 := hc' 1 _ rfl
      have y2 := hc' 2 _ rfl
      have y3 := hc' 3 _ rfl
      simp only [Nat.add_zero] at x0 y0
      have e0 := fun z : Ext wr => (z.blk kr).cell
      have e1 := fun z : Ext wr => (z.blk kq).cell
      have a0 := fun z : Ext wr => z.cell x0
      have a1 := fun z : Ext wr => z.cell x1
      have a2 := fun z : Ext wr => z.cell x2
      have a3 := fun z : Ext wr => z.cell x3
      have b0 := fun z : Ext wr => z.cell y0
      have b1 := fun z : Ext wr => z.cell y1
      have b2 := fun z : Ext wr => z.cell y2
      have b3 := fun z : Ext wr => z.cell y3
      have hq := fun W => heq.out xk f e t W
      clear hc hc' x0 x1 x2 x3 y0 y1 y2 y3
      go_upto_region 6 with fail
      clear cr
      refine region_ext (by kernel_rfl) (by kernel_rfl) ?_
      repeat (go_big_quiet_step (fail))
      refine wpQuiet_nil ?_
      rintro w2 ⟨⟨_, hw2⟩, rfl⟩
      go_wp2_with fail
      go_roundw
      case rel => exact ⟨i + 1, by omega, by go_num, hB.trans (hw2.mono hB.size)⟩
      case measure => simp [intOf]; omega
    · obtain rfl : i = n := by omega
      have hlt' : decide ((i : Int) < (i : Int)) = false := by simp
      go_wp2_with fail
      go_ret
      exact ⟨rfl, hb0.trans (hB.mono hb0.size)⟩
set_option maxRecDepth 100000 in
set_option maxHeartbeats 1600000 in
theorem sameState_any (A A' : Option Addr) (n cap cap' : Nat) (l : List Ru) (cs hs : Nat → Int) (w : World) (hn : l.length = n) (hm : n ≤ 1000) (hr : Rd w w.heap.size A (fl ruC l)) (hr' : Rd w w.heap.size A' (fl ruC l)) :
    Calls Tryz.prog 66 #[rfV (.slice A n cap) cs hs, rfV (.slice A' n cap') cs hs] w fun e w' => e = .returned (.bool true) ∧ Below w.heap.size w w' := by
  have hb0 := ((Below.refl w.heap.size w).alloc (Nat.le_refl _) (.cells (rfC (.slice A n cap) cs hs).toArray 51)).alloc (by simp) (.cells (rfC (.slice A' n cap') cs hs).toArray 51)
  have k0 := (Blk.new w 51 (rfC (.slice A n cap) cs hs).toArray).alloc (.cells (rfC (.slice A' n cap') cs hs).toArray 51)
  have k1 := Blk.new (w.alloc (.cells (rfC (.slice A n cap) cs hs).toArray 51)) 51 (rfC (.slice A' n cap') cs hs).toArray
  have r0 := hr.on_ hb0
  have r1 := hr'.on_ hb0
  obtain ⟨s, hsz⟩ : ∃ s, w.heap.size = s := ⟨_, rfl⟩
  rw [World.size_alloc, hsz] at k1
  rw [hsz] at k0
  have HP := Lib.hid (fun W h h' => samePlan_any A A' n cap cap' l W hn hm h h')
  have hqc : ∀ W, (Op.equalIn 10000 49 (.agg #[.int .i64 (cs 0), .int .i64 (cs 1), .int .i64 (cs 2), .int .i64 (cs 3), .int .i64 (cs 4), .int .i64 (cs 5), .int .i64 (cs 6)]) (.agg #[.int .i64 (cs 0), .int .i64 (cs 1), .int .i64 (cs 2), .int .i64 (cs 3), .int .i64 (cs 4), .int .i64 (cs 5), .int .i64 (cs 6)])).run Tryz.prog W = .ok true W := fun W => eq7_any cs W
  have hqh : ∀ W, (Op.equalIn 10000 49 (.agg #[.int .i64 (hs 0), .int .i64 (hs 1), .int .i64 (hs 2), .int .i64 (hs 3), .int .i64 (hs 4), .int .i64 (hs 5), .int .i64 (hs 6)]) (.agg #[.int .i64 (hs 0), .int .i64 (hs 1), .int .i64 (hs 2), .int .i64 (hs 3), .int .i64 (hs 4), .int .i64 (hs 5), .int .i64 (hs 6)])).run Tryz.prog W = .ok true W := fun W => eq7_any hs W
  unfold rfC at hb0 k0 k1 r0 r1
  unfold rfV rfC
  clear hn hr hr'
  go_enter Tryz.func66, Tryz.ntmps66
  go_upto_region 1 with fail
  generalize (w.alloc _).alloc _ = w0 at *
  try simp only [hsz]
  have c0 := k0.cell
  have c1 := k1.cell
  go_wp2_with fail
  refine (HP.out _ r0 r1).mono ?_
  rintro e w1 ⟨rfl, hb1⟩
  have k01 := (k0.call hb1).cell
  have k11 := (k1.call hb1).cell
  clear c0 c1 k0 k1 r0 r1 HP
  go_wp2_with fail
  go_ret
  exact ⟨rfl, hb0.trans (hb1.mono hb0.size)⟩
end Go.Proofs.YtpabnbhbcphfiaaGreat
namespace Go.Proofs.YtpabnbhbcphfiaaGreat
open Go Go.Proofs Go.RowKit Go.Pol Go.Shelf
attribute [local go_sem] Oper.semAt_some Go.Pol.wide_fn Go.Pol.wide_depth Go.Pol.wide_fn' Go.Pol.wide_depth'

/-- a whole array is loaded in a quiet walk -/
theorem wpQuiet_load' {P : Program} {ops : Array Oper} {C : World → Prop} {Q : Act → Prop} {a : Act} {o : Oper} {rest : List Oper} (x : Operand) (ty : TypeId) (p : Addr) (v : Value) (hg : o.guard = none) (h : o.op = .load ty x) (hx : a.eval x = .pointer (some p)) (hl : ∀ w, C w → (loadVar ty p).run P w = .ok v w)
    (hk : wpQuiet P ops C Q rest (a.put o.dst v)) : wpQuiet P ops C Q (o :: rest) a :=
  wpQuiet_step fun K hK => by
    rw [if_pos (by simp [Region.wanted, hg])]
    refine ⟨v, fun w hw => ?_, hK _ hk⟩
    unfold Oper.quietAt
    have e : (execOp a.eval o).run P w = .ok (.value v) w := by
      unfold execOp
      simp only [h]
      simp [hx, Instr.loadAt, Instr.sureAddr, Result.andThen, hl w hw]
    rw [e]
    exact ⟨rfl, rfl⟩
theorem infoDaS : (Tryz.prog.info? 124).map (·.size) = some 65 := by kernel_rfl
theorem eqItemsR (d : Nat) (f : Nat → Int) (w : World) : ∀ is : List Nat, (∀ i ∈ is, i < 64) → (Op.eqItems (d + 1) 5 1 (arrI .u8 64 f) (arrI .u8 64 f) is).run Tryz.prog w = .ok true w
  | [], _ => by simp [Op.eqItems]
  | i :: is, h => by
    have ih := eqItemsR d f w is (fun j hj => h j (by simp [hj]))
    have h1 := arrI_at (k := .u8) (f := f) (h i (by simp))
    have a3 := Tryz.isAgg5
    have he := run_equalIn_int (P := Tryz.prog) w d 5 .u8 _ (f i) (f i) Tryz.underlying5
    generalize arrI .u8 64 f = X at *
    have p1 : (part 5 X (i * 1)).run Tryz.prog w = .ok (.int .u8 (f i)) w := by simp [part, a3, h1]
    rw [show (f i == f i) = true by simp] at he
    simp only [Op.eqItems, Sem.run_bind, p1, he, Result.andThen_ok, Bool.not_true, Bool.false_eq_true, if_false]
    exact ih
theorem eq64R (d : Nat) (f : Nat → Int) (w : World) : (Op.equalIn (d + 2) 85 (.agg (arrI .u8 64 f)) (.agg (arrI .u8 64 f))).run Tryz.prog w = .ok true w := by
  obtain ⟨i0, hi⟩ := info_of_underlying (P := Tryz.prog) Tryz.underlying5
  rw [run_equalIn_array w (d + 1) _ _ Tryz.underlying85 hi]
  have hc : Tryz.prog.cellsOf 5 = 1 := by kernel_rfl
  rw [hc]
  exact eqItemsR d f w _ (fun i hi => List.mem_range.1 hi)
theorem daA_bytes (p : Int) (f : Nat → Int) : (daA p f).extract 1 65 = arrI .u8 64 f := by kernel_rfl
theorem daA_size (p : Int) (f : Nat → Int) : (daA p f).size = 65 := by kernel_rfl
theorem daA_page (p : Int) (f : Nat → Int) : (daA p f)[0]? = some (.int .i64 p) := by kernel_rfl
theorem eqDa (p : Int) (f : Nat → Int) (w : World) : (Op.equalIn 10000 124 (.agg (daA p f)) (.agg (daA p f))).run Tryz.prog w = .ok true w := by
  have u3 := Tryz.underlying3
  have a3 := Tryz.isAgg3
  have z3 := Tryz.sizeOf3
  have a9 := Tryz.isAgg85
  have z9 := Tryz.sizeOf85
  have h0 : (daA p f)[0]? = some (.int .i64 p) := daA_page p f
  have hx : (daA p f).extract 1 65 = arrI .u8 64 f := daA_bytes p f
  have hs := daA_size p f
  have he : (Op.equalIn 9999 85 (.agg (arrI .u8 64 f)) (.agg (arrI .u8 64 f))).run Tryz.prog w = .ok true w := eq64R 9997 f w
  have he0 : (Op.equalIn 9999 3 (.int .i64 p) (.int .i64 p)).run Tryz.prog w = .ok (p == p) w := run_equalIn_int (P := Tryz.prog) w 9998 3 .i64 _ p p Tryz.underlying3
  rw [show (p == p) = true by simp] at he0
  generalize daA p f = D at *
  generalize arrI .u8 64 f = X at *
  rw [show (10000 : Nat) = 9999 + 1 from rfl]
  go_simp
  obtain ⟨hlt, e0⟩ := Array.getElem?_eq_some_iff.1 h0
  simp only [e0, he0, he, Result.andThen_ok, Bool.true_eq_false, if_false]
set_option maxRecDepth 100000 in
set_option maxHeartbeats 3200000 in
theorem same6_any (S T : Value) (V : Vm) (w : World) (hS : VsIs w S V) (hT : VsIs w T V) (hm : V.rf.rules.length ≤ 1000) :
    Calls Tryz.prog 15 #[S, T] w fun e w' => e = .returned (.bool true) ∧ Below w.heap.size w w' := by
  obtain ⟨A1, A2, A3, A4, n1, c1, n2, c2, n3, c3, n4, c4, rfl, h1, r1, h2, r2, h3, r3, h4, r4⟩ := hS.ex
  obtain ⟨B1, B2, B3, B4, m1, d1, m2, d2, m3, d3, m4, d4, rfl, g1, q1, g2, q2, g3, q3, g4, q4⟩ := hT.ex
  obtain rfl : n1 = m1 := h1.symm.trans g1
  obtain rfl : n2 = m2 := h2.symm.trans g2
  obtain rfl : n3 = m3 := h3.symm.trans g3
  obtain rfl : n4 = m4 := h4.symm.trans g4
  clear g1 g2 g3 g4 hS hT
  have hb0 := ((Below.refl w.heap.size w).alloc (Nat.le_refl _) (.cells (stC (.slice A1 n1 c1) (.slice A2 n2 c2) (.slice A3 n3 c3) (.slice A4 n4 c4) V.rf.calls V.rf.hits).toArray 53)).alloc (by simp) (.cells (stC (.slice B1 n1 d1) (.slice B2 n2 d2) (.slice B3 n3 d3) (.slice B4 n4 d4) V.rf.calls V.rf.hits).toArray 53)
  have k0 := (Blk.new w 53 (stC (.slice A1 n1 c1) (.slice A2 n2 c2) (.slice A3 n3 c3) (.slice A4 n4 c4) V.rf.calls V.rf.hits).toArray).alloc (.cells (stC (.slice B1 n1 d1) (.slice B2 n2 d2) (.slice B3 n3 d3) (.slice B4 n4 d4) V.rf.calls V.rf.hits).toArray 53)
  have k1 := Blk.new (w.alloc (.cells (stC (.slice A1 n1 c1) (.slice A2 n2 c2) (.slice A3 n3 c3) (.slice A4 n4 c4) V.rf.calls V.rf.hits).toArray 53)) 53 (stC (.slice B1 n1 d1) (.slice B2 n2 d2) (.slice B3 n3 d3) (.slice B4 n4 d4) V.rf.calls V.rf.hits).toArray
  obtain ⟨s, hs⟩ : ∃ s, w.heap.size = s := ⟨_, rfl⟩
  rw [World.size_alloc, hs] at k1
  rw [hs] at k0
  have R1 := Lib.hid (And.intro (r1.on_ hb0) (q1.on_ hb0))
  have R2 := Lib.hid (And.intro (RI.more (RI.below r2 hb0) hb0.size) (RI.more (RI.below q2 hb0) hb0.size))
  have R3 := Lib.hid (And.intro (r3.on_ hb0) (q3.on_ hb0))
  have R4 := Lib.hid (And.intro (r4.on_ hb0) (q4.on_ hb0))
  have HSt := Lib.hid (fun W h h' => sameState_any A4 B4 n4 c4 d4 V.rf.rules V.rf.calls V.rf.hits W h4 (by omega) h h')
  have H1 := Lib.hid h1
  have H2 := Lib.hid h2
  have H3 := Lib.hid h3
  have hL1 := vrunsL_len V 1024
  have hL2 := hugL_len V 1024
  have hL3 := datL_len V 1024
  have e1 : ((n1 : Int) != (n1 : Int)) = false := by simp
  have e2 : ((n2 : Int) != (n2 : Int)) = false := by simp
  have e3 : ((n3 : Int) != (n3 : Int)) = false := by simp
  rw [h1] at hL1
  rw [h2] at hL2
  rw [h3] at hL3
  clear r1 r2 r3 r4 q1 q2 q3 q4 h1 h2 h3 h4
  unfold stC rfC at hb0 k0 k1 R1 R2 R3 R4 ⊢
  unfold rfV rfC at HSt
  go_enter Tryz.func15, Tryz.ntmps15
  go_upto_region 1 with fail
  generalize (w.alloc _).alloc _ = w0 at *
  try simp only [hs]
  have c0 := k0.cell
  have c1 := k1.cell
  go_wp2_with fail
  refine (HSt.out _ R4.out.1 R4.out.2).mono ?_
  rintro e w1 ⟨rfl, hb1⟩
  have k01 := Lib.hid (k0.call hb1)
  have k11 := Lib.hid (k1.call hb1)
  have Q1 := Lib.hid (And.intro (R1.out.1.on_ hb1) (R1.out.2.on_ hb1))
  have Q2 := Lib.hid (And.intro (RI.more (RI.below R2.out.1 hb1) hb1.size) (RI.more (RI.below R2.out.2 hb1) hb1.size))
  have Q3 := Lib.hid (And.intro (R3.out.1.on_ hb1) (R3.out.2.on_ hb1))
  have B0 := hb0.trans (hb1.mono hb0.size)
  clear c0 c1 k0 k1 R1 R2 R3 R4 HSt hb1
  have heqR := Lib.hid (fun a b c W => eqRn a b c W)
  have heqD := Lib.hid (fun p W => eqDa ((p : Nat) : Int) (V.pg p).byt W)
  go_wp2_with fail
  go_loopw [5] (fun u wr => ∃ i : Nat, i ≤ n1 ∧ u = .int .i64 i ∧ Below w1.heap.size w1 wr) (fun u _ => n1 - (intOf u).toNat)
  case atStart => exact ⟨0, by omega, rfl, Below.refl _ _⟩
  case round =>
    obtain ⟨i, hi, rfl, hB⟩ := hrel
    have kr := k01.out.call hB
    have kq := k11.out.call hB
    have cr := kr.cell
    by_cases hlt : i < n1
    · have hlt' : decide ((i : Int) < (n1 : Int)) = true := by simpa using hlt
      have hin : (i : Int) < (n1 : Int) := by omega
      obtain ⟨b, o, rfl, hb, hc⟩ := (Q1.out.1.on_ hB).elem rnC_len (by omega) rn0 (k := i) (by have := H1.out; omega)
      obtain ⟨b', o', rfl, hb', hc'⟩ := (Q1.out.2.on_ hB).elem rnC_len (by omega) rn0 (k := i) (by have := H1.out; omega)
      generalize (vrunsL V 1024).getD i rn0 = x at *
      obtain ⟨xa, xn, xk⟩ := x
      have x0 := hc 0 _ rfl
      have x1 := hc 1 _ rfl
      have x2 := hc 2 _ rfl
      have y0 := hc' 0 _ rfl
      have y1 := hc' 1 _ rfl
      have y2 := hc' 2 _ rfl
      simp only [Nat.add_zero] at x0 y0
      have e0 := fun z : Ext wr => (z.blk kr).cell
      have e1 := fun z : Ext wr => (z.blk kq).cell
      have a0 := fun z : Ext wr => z.cell x0
      have a1 := fun z : Ext wr => z.cell x1
      have a2 := fun z : Ext wr => z.cell x2
      have b0 := fun z : Ext wr => z.cell y0
      have b1 := fun z : Ext wr => z.cell y1
      have b2 := fun z : Ext wr => z.cell y2
      have hq := fun W => heqR.out xa xn xk W
      clear hc hc' x0 x1 x2 y0 y1 y2
      go_upto_region 6 with fail
      clear cr
      refine region_ext (by kernel_rfl) (by kernel_rfl) ?_
      repeat (go_big_quiet_step (fail))
      refine wpQuiet_nil ?_
      rintro w2 ⟨⟨_, hw2⟩, rfl⟩
      go_wp2_with fail
      go_roundw
      case rel => exact ⟨i + 1, by omega, by go_num, hB.trans (hw2.mono hB.size)⟩
      case measure => simp [intOf]; omega
    · obtain rfl : i = n1 := by omega
      have hlt' : decide ((i : Int) < (i : Int)) = false := by simp
      have hB1 := Lib.hid hB
      clear hB kr kq
      go_wp2_with fail
      clear cr
      go_loopw [6] (fun u wr => ∃ i : Nat, i ≤ n2 ∧ u = .int .i64 i ∧ Below w1.heap.size w1 wr) (fun u _ => n2 - (intOf u).toNat)
      case atStart => exact ⟨0, by omega, rfl, hB1.out⟩
      case round =>
        obtain ⟨j, hj, rfl, hB⟩ := hrel
        have kr := k01.out.call hB
        have kq := k11.out.call hB
        have cr := kr.cell
        by_cases hlt2 : j < n2
        · have hlt2' : decide ((j : Int) < (n2 : Int)) = true := by simpa using hlt2
          have hin : (j : Int) < (n2 : Int) := by omega
          obtain ⟨b, o, rfl, hb, x0⟩ := (RI.more (RI.below Q2.out.1 hB) hB.size).at_ (k := j) (by have := H2.out; omega)
          obtain ⟨b', o', rfl, hb', y0⟩ := (RI.more (RI.below Q2.out.2 hB) hB.size).at_ (k := j) (by have := H2.out; omega)
          generalize (hugL V 1024).getD j 0 = x at *
          have e0 := fun z : Ext wr => (z.blk kr).cell
          have e1 := fun z : Ext wr => (z.blk kq).cell
          have a0 := fun z : Ext wr => z.cell x0
          have b0 := fun z : Ext wr => z.cell y0
          have hq : (x != x) = false := by simp
          clear x0 y0
          go_upto_region 11 with fail
          clear cr
          refine region_ext (by kernel_rfl) (by kernel_rfl) ?_
          repeat (go_big_quiet_step (fail))
          refine wpQuiet_nil ?_
          rintro w2 ⟨⟨_, hw2⟩, rfl⟩
          go_wp2_with fail
          go_roundw
          case rel => exact ⟨j + 1, by omega, by go_num, hB.trans (hw2.mono hB.size)⟩
          case measure => simp [intOf]; omega
        · obtain rfl : j = n2 := by omega
          have hlt2' : decide ((j : Int) < (j : Int)) = false := by simp
          have hB2 := Lib.hid hB
          clear hB kr kq
          go_wp2_with fail
          clear cr
          go_loopw [7] (fun u wr => ∃ i : Nat, i ≤ n3 ∧ u = .int .i64 i ∧ Below w1.heap.size w1 wr) (fun u _ => n3 - (intOf u).toNat)
          case atStart => exact ⟨0, by omega, rfl, hB2.out⟩
          case round =>
            obtain ⟨k, hk, rfl, hB⟩ := hrel
            have kr := k01.out.call hB
            have kq := k11.out.call hB
            have cr := kr.cell
            by_cases hlt3 : k < n3
            · have hlt3' : decide ((k : Int) < (n3 : Int)) = true := by simpa using hlt3
              have hin : (k : Int) < (n3 : Int) := by omega
              obtain ⟨b, o, rfl, hb, hc⟩ := (Q3.out.1.on_ hB).elem (daC_len V) (by omega) 0 (k := k) (by have := H3.out; omega)
              obtain ⟨b', o', rfl, hb', hc'⟩ := (Q3.out.2.on_ hB).elem (daC_len V) (by omega) 0 (k := k) (by have := H3.out; omega)
              generalize (datL V 1024).getD k 0 = p at *
              have hq := heqD.out p
              have hld : ∀ z : Ext wr, (loadVar 124 ⟨b, o + k * 65, none⟩).run Tryz.prog z.w = .ok (.agg (daA (p : Int) (V.pg p).byt)) z.w := fun z => run_loadVar_mid (P := Tryz.prog) z.w b (o + k * 65) 124 (daC V p) _ (fun j v hj => z.cell (hc j v hj)) Tryz.underlying124 rfl infoDaS
              have hld' : ∀ z : Ext wr, (loadVar 124 ⟨b', o' + k * 65, none⟩).run Tryz.prog z.w = .ok (.agg (daA (p : Int) (V.pg p).byt)) z.w := fun z => run_loadVar_mid (P := Tryz.prog) z.w b' (o' + k * 65) 124 (daC V p) _ (fun j v hj => z.cell (hc' j v hj)) Tryz.underlying124 rfl infoDaS
              have e0 := fun z : Ext wr => (z.blk kr).cell
              have e1 := fun z : Ext wr => (z.blk kq).cell
              generalize daA (p : Int) (V.pg p).byt = D at *
              clear hc hc'
              go_upto_region 16 with fail
              clear cr
              refine region_ext (by kernel_rfl) (by kernel_rfl) ?_
              repeat (go_big_quiet_step (fail))
              refine wpQuiet_load' (.tmp 87) 124 ⟨b, o + k * 65, none⟩ (.agg D) rfl rfl rfl (by rintro _ ⟨z, rfl⟩; exact hld z) ?_
              simp only [Act.put, List.setIfInBounds_toArray, List.set_cons_zero, List.set_cons_succ]
              repeat (go_big_quiet_step (fail))
              refine wpQuiet_load' (.tmp 92) 124 ⟨b', o' + k * 65, none⟩ (.agg D) rfl rfl rfl (by rintro _ ⟨z, rfl⟩; exact hld' z) ?_
              simp only [Act.put, List.setIfInBounds_toArray, List.set_cons_zero, List.set_cons_succ]
              repeat (go_big_quiet_step (fail))
              refine wpQuiet_nil ?_
              rintro w2 ⟨⟨_, hw2⟩, rfl⟩
              go_wp2_with fail
              go_roundw
              case rel => exact ⟨k + 1, by omega, by go_num, hB.trans (hw2.mono hB.size)⟩
              case measure => simp [intOf]; omega
            · obtain rfl : k = n3 := by omega
              have hlt3' : decide ((k : Int) < (k : Int)) = false := by simp
              go_wp2_with fail
              go_ret
              exact ⟨rfl, B0.trans (hB.mono B0.size)⟩
end Go.Proofs.YtpabnbhbcphfiaaGreat
namespace Go.Pol
open Go
/-- an array lies in a block of its own -/
def LoadS (P : Program) (g : Nat) (t : TypeId) (X : Array Value) (w : World) : Prop := (loadVar t ⟨g, 0, none⟩).run P w = .ok (.agg X) w ∧ True
end Go.Pol
namespace Go.Proofs.YtpabnbhbcphfiaaGreat
open Go Go.Proofs Go.RowKit Go.Pol Go.Shelf
attribute [local go_sem] Oper.semAt_some Go.Pol.wide_fn Go.Pol.wide_depth Go.Pol.wide_fn' Go.Pol.wide_depth'

theorem arrI_set (f : Nat → Int) (i : Nat) (v : Int) (hi : i < 64) : (arrI .u8 64 f).setIfInBounds i (.int .u8 v) = arrI .u8 64 (fun k => if k = i then v else f k) := by
  apply Array.ext_getElem?
  intro j
  rw [Array.getElem?_setIfInBounds]
  by_cases e : i = j
  · subst e
    rw [if_pos rfl, if_pos (by simp [arrI]; exact hi), arrI_at hi, if_pos rfl]
  · rw [if_neg e]
    by_cases hj : j < 64
    · rw [arrI_at hj, arrI_at hj, if_neg (fun h => e h.symm)]
    · rw [Array.getElem?_eq_none (by simp [arrI]; omega), Array.getElem?_eq_none (by simp [arrI]; omega)]
theorem arrI_congr {f g : Nat → Int} (h : ∀ k, k < 64 → f k = g k) : arrI .u8 64 f = arrI .u8 64 g := by
  unfold arrI
  congr 1
  exact List.map_congr_left fun k hk => by rw [h k (List.mem_range.1 hk)]
/-- the bytes of a page that is committed -/
def comX (g : Pg) : Array Value := arrI .u8 64 (fun k => if g.kind = 2 then g.byt k else 0)
theorem yieldsIf_load {P : Program} {ops : Array Oper} {op : Oper} {a : Act} (hw : Region.wanted op (yielded ops a.tmps) = true) (t : TypeId) (x : Operand) (ho : op.op = .load t x) (g : Nat) (hx : a.eval x = .pointer (some ⟨g, 0, none⟩)) (X : Array Value) :
    YieldsIf P ops (LoadS P g t X) op (.agg X) a :=
  .inl ⟨hw, fun w hS => by
    unfold execOp
    simp only [ho]
    simp [hx, Instr.loadAt, Instr.sureAddr, Result.andThen, hS.1]⟩
theorem z_results_tct {P : Program} {fn : Func} {a b c : Tmp} {t : TypeId} {tmps : Array Value} {w : World} {v : Value} {p : Addr} (h : fn.results = #[.tmp a, .cell b t, .tmp c]) (hb : tmps.getD b undef = .pointer (some p)) (hl : (loadVar t p).run P w = .ok v w) :
    (results fn tmps).run P w = .ok (.tuple #[tmps.getD a undef, v, tmps.getD c undef]) w := by
  have hb' : tmps[b]?.getD undef = .pointer (some p) := by rw [← hb, Array.getD_eq_getD_getElem?]
  simp [results, h, hb', asAddr, hl]
abbrev zU64 : Array Value := #[.int .u8 0, .int .u8 0, .int .u8 0, .int .u8 0, .int .u8 0, .int .u8 0, .int .u8 0, .int .u8 0, .int .u8 0, .int .u8 0, .int .u8 0, .int .u8 0, .int .u8 0, .int .u8 0, .int .u8 0, .int .u8 0, .int .u8 0, .int .u8 0, .int .u8 0, .int .u8 0, .int .u8 0, .int .u8 0, .int .u8 0, .int .u8 0, .int .u8 0, .int .u8 0, .int .u8 0, .int .u8 0, .int .u8 0, .int .u8 0, .int .u8 0, .int .u8 0, .int .u8 0, .int .u8 0, .int .u8 0, .int .u8 0, .int .u8 0, .int .u8 0, .int .u8 0, .int .u8 0, .int .u8 0, .int .u8 0, .int .u8 0, .int .u8 0, .int .u8 0, .int .u8 0, .int .u8 0, .int .u8 0, .int .u8 0, .int .u8 0, .int .u8 0, .int .u8 0, .int .u8 0, .int .u8 0, .int .u8 0, .int .u8 0, .int .u8 0, .int .u8 0, .int .u8 0, .int .u8 0, .int .u8 0, .int .u8 0, .int .u8 0, .int .u8 0]
theorem zU64_arr : zU64 = arrI .u8 64 (fun _ => 0) := by kernel_rfl
set_option maxRecDepth 100000 in
set_option maxHeartbeats 3200000 in
theorem committed_any (b p : Nat) (V : Vm) (w : World) (hV : SysIs w b V) (hp : p < 1024) :
    Calls Tryz.prog 36 #[.pointer (some ⟨b, 0, none⟩), .int .i64 p] w fun e w' => e = .returned (.tuple #[.bool ((V.pg p).kind == 2), .agg (comX (V.pg p)), .bool true]) ∧ Below w.heap.size w w' := by
  obtain ⟨s, hs⟩ : ∃ s, w.heap.size = s := ⟨_, rfl⟩
  have hbs := hV.lt
  have hb0 : Below s w ((w.alloc (.cells #[.int .u8 0, .int .u8 0, .int .u8 0, .int .u8 0, .int .u8 0, .int .u8 0, .int .u8 0, .int .u8 0, .int .u8 0, .int .u8 0, .int .u8 0, .int .u8 0, .int .u8 0, .int .u8 0, .int .u8 0, .int .u8 0, .int .u8 0, .int .u8 0, .int .u8 0, .int .u8 0, .int .u8 0, .int .u8 0, .int .u8 0, .int .u8 0, .int .u8 0, .int .u8 0, .int .u8 0, .int .u8 0, .int .u8 0, .int .u8 0, .int .u8 0, .int .u8 0, .int .u8 0, .int .u8 0, .int .u8 0, .int .u8 0, .int .u8 0, .int .u8 0, .int .u8 0, .int .u8 0, .int .u8 0, .int .u8 0, .int .u8 0, .int .u8 0, .int .u8 0, .int .u8 0, .int .u8 0, .int .u8 0, .int .u8 0, .int .u8 0, .int .u8 0, .int .u8 0, .int .u8 0, .int .u8 0, .int .u8 0, .int .u8 0, .int .u8 0, .int .u8 0, .int .u8 0, .int .u8 0, .int .u8 0, .int .u8 0, .int .u8 0, .int .u8 0] 85)).alloc (.cells #[.int .u8 0, .int .u8 0, .int .u8 0, .int .u8 0, .int .u8 0, .int .u8 0, .int .u8 0, .int .u8 0, .int .u8 0, .int .u8 0, .int .u8 0, .int .u8 0, .int .u8 0, .int .u8 0, .int .u8 0, .int .u8 0, .int .u8 0, .int .u8 0, .int .u8 0, .int .u8 0, .int .u8 0, .int .u8 0, .int .u8 0, .int .u8 0, .int .u8 0, .int .u8 0, .int .u8 0, .int .u8 0, .int .u8 0, .int .u8 0, .int .u8 0, .int .u8 0, .int .u8 0, .int .u8 0, .int .u8 0, .int .u8 0, .int .u8 0, .int .u8 0, .int .u8 0, .int .u8 0, .int .u8 0, .int .u8 0, .int .u8 0, .int .u8 0, .int .u8 0, .int .u8 0, .int .u8 0, .int .u8 0, .int .u8 0, .int .u8 0, .int .u8 0, .int .u8 0, .int .u8 0, .int .u8 0, .int .u8 0, .int .u8 0, .int .u8 0, .int .u8 0, .int .u8 0, .int .u8 0, .int .u8 0, .int .u8 0, .int .u8 0, .int .u8 0] 85)) := by rw [← hs]; exact ((Below.refl w.heap.size w).alloc (Nat.le_refl _) _).alloc (by simp) _
  have k5 : Blk ((w.alloc (.cells #[.int .u8 0, .int .u8 0, .int .u8 0, .int .u8 0, .int .u8 0, .int .u8 0, .int .u8 0, .int .u8 0, .int .u8 0, .int .u8 0, .int .u8 0, .int .u8 0, .int .u8 0, .int .u8 0, .int .u8 0, .int .u8 0, .int .u8 0, .int .u8 0, .int .u8 0, .int .u8 0, .int .u8 0, .int .u8 0, .int .u8 0, .int .u8 0, .int .u8 0, .int .u8 0, .int .u8 0, .int .u8 0, .int .u8 0, .int .u8 0, .int .u8 0, .int .u8 0, .int .u8 0, .int .u8 0, .int .u8 0, .int .u8 0, .int .u8 0, .int .u8 0, .int .u8 0, .int .u8 0, .int .u8 0, .int .u8 0, .int .u8 0, .int .u8 0, .int .u8 0, .int .u8 0, .int .u8 0, .int .u8 0, .int .u8 0, .int .u8 0, .int .u8 0, .int .u8 0, .int .u8 0, .int .u8 0, .int .u8 0, .int .u8 0, .int .u8 0, .int .u8 0, .int .u8 0, .int .u8 0, .int .u8 0, .int .u8 0, .int .u8 0, .int .u8 0] 85)).alloc (.cells #[.int .u8 0, .int .u8 0, .int .u8 0, .int .u8 0, .int .u8 0, .int .u8 0, .int .u8 0, .int .u8 0, .int .u8 0, .int .u8 0, .int .u8 0, .int .u8 0, .int .u8 0, .int .u8 0, .int .u8 0, .int .u8 0, .int .u8 0, .int .u8 0, .int .u8 0, .int .u8 0, .int .u8 0, .int .u8 0, .int .u8 0, .int .u8 0, .int .u8 0, .int .u8 0, .int .u8 0, .int .u8 0, .int .u8 0, .int .u8 0, .int .u8 0, .int .u8 0, .int .u8 0, .int .u8 0, .int .u8 0, .int .u8 0, .int .u8 0, .int .u8 0, .int .u8 0, .int .u8 0, .int .u8 0, .int .u8 0, .int .u8 0, .int .u8 0, .int .u8 0, .int .u8 0, .int .u8 0, .int .u8 0, .int .u8 0, .int .u8 0, .int .u8 0, .int .u8 0, .int .u8 0, .int .u8 0, .int .u8 0, .int .u8 0, .int .u8 0, .int .u8 0, .int .u8 0, .int .u8 0, .int .u8 0, .int .u8 0, .int .u8 0, .int .u8 0] 85)) s 85 zU64 := by rw [← hs]; exact (Blk.new _ _ _).alloc _
  have k7 : Blk ((w.alloc (.cells #[.int .u8 0, .int .u8 0, .int .u8 0, .int .u8 0, .int .u8 0, .int .u8 0, .int .u8 0, .int .u8 0, .int .u8 0, .int .u8 0, .int .u8 0, .int .u8 0, .int .u8 0, .int .u8 0, .int .u8 0, .int .u8 0, .int .u8 0, .int .u8 0, .int .u8 0, .int .u8 0, .int .u8 0, .int .u8 0, .int .u8 0, .int .u8 0, .int .u8 0, .int .u8 0, .int .u8 0, .int .u8 0, .int .u8 0, .int .u8 0, .int .u8 0, .int .u8 0, .int .u8 0, .int .u8 0, .int .u8 0, .int .u8 0, .int .u8 0, .int .u8 0, .int .u8 0, .int .u8 0, .int .u8 0, .int .u8 0, .int .u8 0, .int .u8 0, .int .u8 0, .int .u8 0, .int .u8 0, .int .u8 0, .int .u8 0, .int .u8 0, .int .u8 0, .int .u8 0, .int .u8 0, .int .u8 0, .int .u8 0, .int .u8 0, .int .u8 0, .int .u8 0, .int .u8 0, .int .u8 0, .int .u8 0, .int .u8 0, .int .u8 0, .int .u8 0] 85)).alloc (.cells #[.int .u8 0, .int .u8 0, .int .u8 0, .int .u8 0, .int .u8 0, .int .u8 0, .int .u8 0, .int .u8 0, .int .u8 0, .int .u8 0, .int .u8 0, .int .u8 0, .int .u8 0, .int .u8 0, .int .u8 0, .int .u8 0, .int .u8 0, .int .u8 0, .int .u8 0, .int .u8 0, .int .u8 0, .int .u8 0, .int .u8 0, .int .u8 0, .int .u8 0, .int .u8 0, .int .u8 0, .int .u8 0, .int .u8 0, .int .u8 0, .int .u8 0, .int .u8 0, .int .u8 0, .int .u8 0, .int .u8 0, .int .u8 0, .int .u8 0, .int .u8 0, .int .u8 0, .int .u8 0, .int .u8 0, .int .u8 0, .int .u8 0, .int .u8 0, .int .u8 0, .int .u8 0, .int .u8 0, .int .u8 0, .int .u8 0, .int .u8 0, .int .u8 0, .int .u8 0, .int .u8 0, .int .u8 0, .int .u8 0, .int .u8 0, .int .u8 0, .int .u8 0, .int .u8 0, .int .u8 0, .int .u8 0, .int .u8 0, .int .u8 0, .int .u8 0] 85)) (s + 1) 85 zU64 := by
    have := Blk.new (w.alloc (.cells #[.int .u8 0, .int .u8 0, .int .u8 0, .int .u8 0, .int .u8 0, .int .u8 0, .int .u8 0, .int .u8 0, .int .u8 0, .int .u8 0, .int .u8 0, .int .u8 0, .int .u8 0, .int .u8 0, .int .u8 0, .int .u8 0, .int .u8 0, .int .u8 0, .int .u8 0, .int .u8 0, .int .u8 0, .int .u8 0, .int .u8 0, .int .u8 0, .int .u8 0, .int .u8 0, .int .u8 0, .int .u8 0, .int .u8 0, .int .u8 0, .int .u8 0, .int .u8 0, .int .u8 0, .int .u8 0, .int .u8 0, .int .u8 0, .int .u8 0, .int .u8 0, .int .u8 0, .int .u8 0, .int .u8 0, .int .u8 0, .int .u8 0, .int .u8 0, .int .u8 0, .int .u8 0, .int .u8 0, .int .u8 0, .int .u8 0, .int .u8 0, .int .u8 0, .int .u8 0, .int .u8 0, .int .u8 0, .int .u8 0, .int .u8 0, .int .u8 0, .int .u8 0, .int .u8 0, .int .u8 0, .int .u8 0, .int .u8 0, .int .u8 0, .int .u8 0] 85)) 85 zU64
    rw [World.size_alloc, hs] at this; exact this
  rw [zU64_arr] at k5 k7
  have V0 := Lib.hid (hV.call (by rw [hs]; exact hb0))
  have HK := Lib.hid (fun W h => vkind_any b (p : Int) V W h)
  have HR := Lib.hid (fun (a : Int) W h => read_any b a V W h)
  have hpi : 0 ≤ (p : Int) ∧ (p : Int) < 1024 := by omega
  simp only [if_pos hpi, Int.toNat_natCast] at HK
  have hinf : ∀ f : Nat → Int, (Tryz.prog.info? 85).map (·.size) = some (arrI .u8 64 f).size := fun f => by rw [show (arrI .u8 64 f).size = 64 by simp [arrI]]; exact infoKinds
  have hinfl : ∀ f : Nat → Int, (Tryz.prog.info? 85).map (·.size) = some (arrI .u8 64 f).toList.length := fun f => by rw [Array.length_toList]; exact hinf f
  have hone : ∀ f : Nat → Int, (arrI .u8 64 f).all (·.oneCell') = true := fun f => by
    unfold arrI
    exact Go.all_oneCell_toArray (fun x hx => by simp only [List.mem_map] at hx; obtain ⟨i, _, rfl⟩ := hx; rfl)
  have hsz64 : ∀ f : Nat → Int, (arrI .u8 64 f).size = 64 := fun f => by simp [arrI]
  have hld : ∀ (f : Nat → Int) (W : World) (g : Nat), Blk W g 85 (arrI .u8 64 f) → (loadVar 85 ⟨g, 0, none⟩).run Tryz.prog W = .ok (.agg (arrI .u8 64 f)) W := fun f W g hk => by
    have := run_loadVar_mid (P := Tryz.prog) W g 0 85 (arrI .u8 64 f).toList _ (fun j v hj => by rw [Nat.zero_add, hk.cell]; simpa using hj) Tryz.underlying85 rfl (hinfl f)
    rwa [Array.toArray_toList] at this
  have hput : ∀ (f h : Nat → Int) (W : World) (g : Nat), Blk W g 85 (arrI .u8 64 h) → Blk (W.setCells g 0 (arrI .u8 64 f).toList) g 85 (arrI .u8 64 f) ∧ Far (fun k => k = g) W (W.setCells g 0 (arrI .u8 64 f).toList) := fun f h W g hk => by
    have kP := Blk.puts (g := g) (t := 85) (w := W) (cs := #[]) (arrI .u8 64 f).toList 0 _ _ hk
    rw [putA_all (by rw [Array.length_toList, hsz64, hsz64])] at kP
    exact ⟨kP, Far.puts (T := fun k => k = g) rfl (arrI .u8 64 f).toList 0 W _ (Far.refl _ W)⟩
  have hth : ∀ (f h : Nat → Int) (W : World) (g : Nat), Blk W g 85 (arrI .u8 64 h) → W.there g 0 (arrI .u8 64 f).size := fun f h W g hk => z_there hk 0 _ (by rw [hsz64, hsz64]; omega)
  have hX : Hid (∀ f : Nat → Int, (∀ k, k < 64 → f k = if (V.pg p).kind = 2 then (V.pg p).byt k else 0) → arrI .u8 64 f = comX (V.pg p)) := Lib.hid (fun f h => arrI_congr h)
  have hgood : Hid ((V.pg p).kind = 2 → ∀ i : Nat, i < 64 → whF V ((p : Int) * 64 + i) = 0 ∧ (V.pg (((p : Int) * 64 + i) / 64).toNat).byt (((p : Int) * 64 + i) % 64).toNat = (V.pg p).byt i) := Lib.hid (fun hk i hi => by
    have e1 : ((p : Int) * 64 + i) / 64 = (p : Int) := by omega
    have e2 : ((p : Int) * 64 + i) % 64 = (i : Int) := by omega
    unfold whF
    rw [if_neg (by omega), e1, e2, Int.toNat_natCast, Int.toNat_natCast, if_neg (by simpa using hk)]
    exact ⟨rfl, rfl⟩)
  obtain ⟨byt, hbyt⟩ : ∃ f, (V.pg p).byt = f := ⟨_, rfl⟩
  obtain ⟨X, hXX⟩ : ∃ X, comX (V.pg p) = X := ⟨_, rfl⟩
  rw [hXX] at hX
  try rw [hXX]
  obtain ⟨kd, hkd⟩ : ∃ kd, (V.pg p).kind = kd := ⟨_, rfl⟩
  obtain ⟨hu, hhu⟩ : ∃ hu, (V.pg p).huge = hu := ⟨_, rfl⟩
  rw [hkd, hbyt] at hX hgood
  rw [hkd, hhu] at HK
  try rw [hkd]
  have hth' := Lib.hid hth
  have hone' := Lib.hid hone
  clear hV hkd hhu hXX hbyt hth hone
  go_enter Tryz.func36, Tryz.ntmps36
  go_upto_region 2 with fail
  try simp only [hs]
  generalize (w.alloc _).alloc _ = w0 at *
  go_wp2_with fail
  refine (HK.out _ V0.out).mono ?_
  rintro e w1 ⟨rfl, hb1⟩
  have V1 := Lib.hid (V0.out.call hb1)
  have k51 := k5.call hb1
  have k71 := k7.call hb1
  have B1 := hb0.trans (hb1.mono (by have := hb0.size; omega))
  have hs1 := B1.size
  have hk7l := k71.lt
  clear HK V0 k5 k7 hb1
  by_cases hk2 : kd = 2
  case neg =>
    have hk2' : (kd != 2) = true := by simpa using hk2
    have hk2'' : (kd == 2) = false := by simpa using hk2
    have hXz := hX.out (fun _ => 0) (fun k _ => by rw [if_neg hk2])
    have hld7 := fun z : Ext w1 => hld (fun _ => 0) z.w (s + 1) (k71.call z.le)
    rw [hXz] at hld7
    clear hk2
    have hbd : Below w1.heap.size w1 w1.drew := (Below.refl _ w1).drew
    have k7d := k71.call hbd
    have k5z := k51.call hbd
    have Bd := B1.trans (hbd.mono (by omega))
    have hS0 : LoadS Tryz.prog (s + 1) 85 X w1.drew := ⟨by have := hld (fun _ => 0) w1.drew (s + 1) k7d; rw [hXz] at this; exact this, trivial⟩
    go_upto_region 4 with fail
    refine wp_noPanic ?_
    refine wp_region_T (LoadS Tryz.prog (s + 1) 85 X) [] (by kernel_rfl) ?_
    generalize w1.drew = wd at *
    have hS := hS0
    refine' wpAnyT_take (i := 0) (v := .agg X) ?hiT0 (by kernel_rfl) ?hQT0 ?hyT0 hS ?reT0
    case hiT0 => (simp only [List.getElem?_toArray, List.getElem?_cons_zero]; rfl)
    case hyT0 => exact yieldsIf_load rfl 85 (.tmp 7) rfl (s + 1) rfl X
    case hQT0 => exact fun _ _ _ h => h
    try simp only [Act.put, List.setIfInBounds_toArray, List.set_cons_zero, List.set_cons_succ]
    refine' wpAnyT_take (i := 1) (v := _) ?hiT1 (by kernel_rfl) ?hQT1 (Or.inl ⟨?hwT1, ?hyT1⟩) hS ?reT1
    case hiT1 => (simp only [List.getElem?_toArray, List.getElem?_cons_succ, List.getElem?_cons_zero]; rfl)
    case hQT1 => exact fun _ _ _ h => h
    case hwT1 => rfl
    case hyT1 => (intro wS hSw; obtain ⟨_, _⟩ := hSw; go_simp; (try with_reducible rfl))
    try simp only [Act.put, List.setIfInBounds_toArray, List.set_cons_zero, List.set_cons_succ]
    refine' wpAnyT_take (i := 2) (v := _) ?hiT2 (by kernel_rfl) ?hQT2 (Or.inl ⟨?hwT2, ?hyT2⟩) hS ?reT2
    case hiT2 => (simp only [List.getElem?_toArray, List.getElem?_cons_succ, List.getElem?_cons_zero]; rfl)
    case hQT2 => exact fun _ _ _ h => h
    case hwT2 => rfl
    case hyT2 => (intro wS hSw; obtain ⟨_, _⟩ := hSw; go_simp; (try with_reducible rfl))
    try simp only [Act.put, List.setIfInBounds_toArray, List.set_cons_zero, List.set_cons_succ]
    refine' wpAnyT_take (i := 3) (v := _) ?hiT3 (by kernel_rfl) ?hQT3 (Or.inl ⟨?hwT3, ?hyT3⟩) hS ?reT3
    case hiT3 => (simp only [List.getElem?_toArray, List.getElem?_cons_succ, List.getElem?_cons_zero]; rfl)
    case hQT3 => exact fun _ _ _ h => h
    case hwT3 => rfl
    case hyT3 => (intro wS hSw; obtain ⟨_, _⟩ := hSw; go_simp; (try with_reducible rfl))
    try simp only [Act.put, List.setIfInBounds_toArray, List.set_cons_zero, List.set_cons_succ]
    refine wpAnyT_ready (rs := [4]) (by kernel_rfl) (by simp) ?_
    refine' AllReadyT.cons ?hi4 (fun K hK => ?st4) AllReadyT.nil
    case hi4 => (simp only [List.getElem?_toArray, List.getElem?_cons_succ, List.getElem?_cons_zero]; rfl)
    obtain ⟨kq, Fq⟩ := hput (fun _ => 0) (fun _ => 0) wd s k5z
    have hthz := hth'.out (fun _ => 0) (fun _ => 0) wd s k5z
    have hinfz := hinf (fun _ => 0)
    have honez := hone'.out (fun _ => 0)
    have hldq := hld (fun _ => 0) _ s kq
    have hld2 := hld (fun _ => 0) _ (s + 1) (Fq.blk k7d (by show ¬ s + 1 = s; omega))
    rw [hXz] at kq Fq hthz hinfz honez hldq hld2
    rw [if_pos (by simp [Region.wanted])]
    refine wp_store_mid 85 (.tmp 5) (.tmp 27) rfl s 0 X rfl rfl hthz hinfz honez ?_
    refine hK.out _ _ (fun _ => ⟨hld2, trivial⟩) (fun hS => ?_)
    clear hK K
    replace hS := hS rfl
    refine' wpAnyT_take (i := 5) (v := _) ?hiT5m (by kernel_rfl) ?hQT5m (Or.inl ⟨?hwT5m, ?hyT5m⟩) hS ?reT5m
    case hiT5m => (simp only [List.getElem?_toArray, List.getElem?_cons_succ, List.getElem?_cons_zero]; rfl)
    case hQT5m => exact fun _ _ _ h => h
    case hwT5m => rfl
    case hyT5m => (intro wS hSw; obtain ⟨_, _⟩ := hSw; go_simp; (try with_reducible rfl))
    try simp only [Act.put, List.setIfInBounds_toArray, List.set_cons_zero, List.set_cons_succ]
    refine wpAnyT_done (by kernel_rfl) ?_ _
    refine noPanic_normal ?_
    go_wp2_with fail
    (try simp only [Exit.inBlock, Exit.then])
    refine bodyPost_ret (z_results_tct rfl rfl hldq) rfl ?_
    rw [hk2'']
    exact ⟨rfl, by rw [hs]; exact Bd.trans (Fq.below (by have := hbd.size; omega) (fun k hk e => by omega))⟩
  subst hk2
  have hk2' : ((2 : Int) != 2) = false := by decide
  have hbb : b ≠ s + 1 := by omega
  go_wp2_with fail
  go_loopw [11] (fun v wr => ∃ i : Nat, i ≤ 64 ∧ v = .int .i64 i ∧ Blk wr (s + 1) 85 (arrI .u8 64 (fun k => if k < i then byt k else 0)) ∧ Far (fun k => k = s + 1) w1 wr) (fun v _ => 64 - (intOf v).toNat)
  case atStart => exact ⟨0, by omega, rfl, by rw [arrI_congr (g := fun _ => 0) (fun k _ => by rw [if_neg (by omega)])]; exact k71, Far.refl _ _⟩
  case round =>
    obtain ⟨i, hi, rfl, kr, hF⟩ := hrel
    by_cases hlt : i < 64
    · have hlt' : decide ((i : Int) < 64) = true := by simp; omega
      have Vr := V1.out.far hF (by show ¬ b = s + 1; exact hbb) (fun _ _ _ _ _ _ g _ _ _ hc hg => hc.elim fun cr hcr => Blk.ne_ hcr k71 (by decide) hg)
      have HRi := HR.out ((p : Int) * 64 + (i : Int)) wr Vr
      obtain ⟨g1, g2⟩ := hgood.out (by first | rfl | trivial) i hlt
      rw [g1] at HRi
      simp only [if_true] at HRi
      rw [g2] at HRi
      have HRi' := Lib.hid HRi
      have hset := arrI_set (fun k => if k < i then byt k else 0) i (byt i) hlt
      rw [arrI_congr (f := fun k => if k = i then byt i else if k < i then byt k else 0) (g := fun k => if k < i + 1 then byt k else 0) (fun k _ => by
        by_cases e : k = i
        · subst e; rw [if_pos rfl, if_pos (by omega)]
        · rw [if_neg e]
          by_cases h : k < i
          · rw [if_pos h, if_pos (by omega)]
          · rw [if_neg h, if_neg (by omega)])] at hset
      have hs' := kr.set_ i (.int .u8 (byt i))
      rw [hset] at hs'
      have cR := (kr.cell i).trans (arrI_at hlt)
      rw [if_neg (by omega)] at cR
      have fR := kr.frozen i
      have hF4 : Far (fun k => k = s + 1) wr (wr.setCell ⟨s + 1, i, none⟩ (.int .u8 (byt i))) := Far.setCell (T := fun k => k = s + 1) (p := ⟨s + 1, i, none⟩) (Far.refl _ _) (fun _ => rfl) _
      have hF5 := hF.trans hF4
      generalize byt i = v at *
      clear HRi hset g1 g2 Vr kr hF4
      go_wp2_with fail
      refine HRi'.out.mono ?_
      rintro e w7 ⟨rfl, hw7⟩
      replace hw7 := hw7.symm
      subst hw7
      clear HRi'
      go_wp2_with fail
      go_roundw
      case rel => exact ⟨i + 1, by omega, by go_num, hs', hF5⟩
      case measure => simp [intOf]; omega
    · obtain rfl : i = 64 := by omega
      have hXz := hX.out (fun k => if k < 64 then byt k else 0) (fun k hk => by rw [if_pos hk]; simp)
      have k5r := hF.blk k51 (by show ¬ s = s + 1; omega)
      have hld7 := fun z : Ext wr => hld _ z.w (s + 1) (kr.call z.le)
      have hputz := fun z : Ext wr => hput (fun k => if k < 64 then byt k else 0) (fun _ => 0) z.w s (k5r.call z.le)
      have hthz := fun z : Ext wr => hth'.out (fun k => if k < 64 then byt k else 0) (fun _ => 0) z.w s (k5r.call z.le)
      have hinfz := hinf (fun k => if k < 64 then byt k else 0)
      have honez := hone'.out (fun k => if k < 64 then byt k else 0)
      have hldq := fun W h => hld (fun k => if k < 64 then byt k else 0) W s h
      rw [hXz] at hinfz honez kr
      simp only [hXz] at hld7 hputz hthz hldq
      have hFs := hF.size
      clear hXz
      go_upto_region 12 with fail
      refine region_ext_tail 2 (by kernel_rfl) (by kernel_rfl) ?_
      simp only [List.take_succ_cons, List.take_zero, List.drop_succ_cons, List.drop_zero]
      refine wpQuiet_load' (.tmp 7) 85 ⟨s + 1, 0, none⟩ (.agg X) rfl rfl rfl (by rintro _ ⟨z, rfl⟩; exact hld7 z) ?_
      simp only [Act.put, List.setIfInBounds_toArray, List.set_cons_zero, List.set_cons_succ]
      repeat (go_big_quiet_step (fail))
      refine wpQuiet_nil ?_
      intro z
      obtain ⟨kq, Fq⟩ := hputz z
      have hthq := hthz z
      have hldq' := hldq _ kq
      go_wp2_with (refine wpList_store_mid rfl 85 (.tmp 5) (.tmp 49) rfl s 0 X rfl rfl hthq hinfz honez ?_)
      (try simp only [Exit.inBlock, Exit.then])
      refine bodyPost_ret (z_results_tct rfl rfl hldq') rfl ?_
      have hBr := hF.below (n := s) (by omega) (fun k hk e => by omega)
      exact ⟨rfl, by rw [hs]; exact (B1.trans (hBr.trans (z.le.mono (by omega)))).trans (Fq.below (by have := z.le.size; omega) (fun k hk e => by omega))⟩
end Go.Proofs.YtpabnbhbcphfiaaGreat
namespace Go.Proofs.YtpabnbhbcphfiaaGreat
open Go Go.Proofs Go.RowKit Go.Pol Go.Shelf
attribute [local go_sem] Oper.semAt_some Go.Pol.wide_fn Go.Pol.wide_depth Go.Pol.wide_fn' Go.Pol.wide_depth'

def mkput (a : Act) (v22 v23 v24 v25 v7 v8 : Value) : Act := (((((a.put (some 64) v22).put (some 65) v23).put (some 66) v24).put (some 67) v25).put (some 7) v7).put (some 8) v8
theorem mk_self (a : Act) (hsz : 70 ≤ a.tmps.size) : mkput a (a.eval (.tmp 64)) (a.eval (.tmp 65)) (a.eval (.tmp 66)) (a.eval (.tmp 67)) (a.eval (.tmp 7)) (a.eval (.tmp 8)) = a := by
  have h : ∀ t : Nat, t < 70 → a.put (some t) (a.eval (.tmp t)) = a := fun t ht => by
    have : a.tmps.setIfInBounds t (a.eval (.tmp t)) = a.tmps := by
      apply Array.ext_getElem?
      intro i
      rw [Array.getElem?_setIfInBounds]
      split
      · rename_i e; subst e
        have : t < a.tmps.size := by omega
        simp [Act.eval, this]
      · rfl
    simp only [Act.put, this]
  unfold mkput
  rw [h 64 (by omega), h 65 (by omega), h 66 (by omega), h 67 (by omega), h 7 (by omega), h 8 (by omega)]
section
variable (a : Act) (v22 v23 v24 v25 v7 v8 x : Value)
theorem mk_22 : (mkput a v22 v23 v24 v25 v7 v8).put (some 64) x = mkput a x v23 v24 v25 v7 v8 := by
  unfold mkput
  rw [swapU _ 8 64 _ _ (by omega), swapU _ 7 64 _ _ (by omega), swapU _ 67 64 _ _ (by omega), swapU _ 66 64 _ _ (by omega), swapU _ 65 64 _ _ (by omega), putU]
theorem mk_23 : (mkput a v22 v23 v24 v25 v7 v8).put (some 65) x = mkput a v22 x v24 v25 v7 v8 := by
  unfold mkput
  rw [swapU _ 8 65 _ _ (by omega), swapU _ 7 65 _ _ (by omega), swapU _ 67 65 _ _ (by omega), swapU _ 66 65 _ _ (by omega), putU]
theorem mk_24 : (mkput a v22 v23 v24 v25 v7 v8).put (some 66) x = mkput a v22 v23 x v25 v7 v8 := by
  unfold mkput
  rw [swapU _ 8 66 _ _ (by omega), swapU _ 7 66 _ _ (by omega), swapU _ 67 66 _ _ (by omega), putU]
theorem mk_25 : (mkput a v22 v23 v24 v25 v7 v8).put (some 67) x = mkput a v22 v23 v24 x v7 v8 := by
  unfold mkput
  rw [swapU _ 8 67 _ _ (by omega), swapU _ 7 67 _ _ (by omega), putU]
theorem mk_7 : (mkput a v22 v23 v24 v25 v7 v8).put (some 7) x = mkput a v22 v23 v24 v25 x v8 := by
  unfold mkput
  rw [swapU _ 8 7 _ _ (by omega), putU]
theorem mk_8 : (mkput a v22 v23 v24 v25 v7 v8).put (some 8) x = mkput a v22 v23 v24 v25 v7 x := by
  unfold mkput
  rw [putU]
end
section
variable (a : Act) (hsz : 70 ≤ a.tmps.size) (v22 v23 v24 v25 v7 v8 : Value)
include hsz
theorem mkev_22 : (mkput a v22 v23 v24 v25 v7 v8).eval (.tmp 64) = v22 := by
  unfold mkput
  rw [evalU_ne _ 8 64 _ (by omega), evalU_ne _ 7 64 _ (by omega), evalU_ne _ 67 64 _ (by omega), evalU_ne _ 66 64 _ (by omega), evalU_ne _ 65 64 _ (by omega), evalU_same _ _ _ (by omega)]
theorem mkev_23 : (mkput a v22 v23 v24 v25 v7 v8).eval (.tmp 65) = v23 := by
  unfold mkput
  rw [evalU_ne _ 8 65 _ (by omega), evalU_ne _ 7 65 _ (by omega), evalU_ne _ 67 65 _ (by omega), evalU_ne _ 66 65 _ (by omega), evalU_same _ _ _ (by rw [sizeU]; omega)]
theorem mkev_24 : (mkput a v22 v23 v24 v25 v7 v8).eval (.tmp 66) = v24 := by
  unfold mkput
  rw [evalU_ne _ 8 66 _ (by omega), evalU_ne _ 7 66 _ (by omega), evalU_ne _ 67 66 _ (by omega), evalU_same _ _ _ (by rw [sizeU, sizeU]; omega)]
theorem mkev_25 : (mkput a v22 v23 v24 v25 v7 v8).eval (.tmp 67) = v25 := by
  unfold mkput
  rw [evalU_ne _ 8 67 _ (by omega), evalU_ne _ 7 67 _ (by omega), evalU_same _ _ _ (by rw [sizeU, sizeU, sizeU]; omega)]
omit hsz in
theorem mkev_3 : (mkput a v22 v23 v24 v25 v7 v8).eval (.tmp 2) = a.eval (.tmp 2) := by
  unfold mkput
  rw [evalU_ne _ 8 2 _ (by omega), evalU_ne _ 7 2 _ (by omega), evalU_ne _ 67 2 _ (by omega), evalU_ne _ 66 2 _ (by omega), evalU_ne _ 65 2 _ (by omega), evalU_ne _ 64 2 _ (by omega)]
end

noncomputable def keepsOps : Array Oper := (Tryz.f6.body.bind (regOpsU 10)).getD #[]
/-- what is known when some operations are done -/
def BothInvK (a0 : Act) (w0 : World) (M : Value) (V : Vm) (D : Nat → Bool) (a : Act) (w : World) : Prop :=
  ∃ (v22 v23 v24 v25 v7 v8 : Value) (b1 b2 : Nat), a = mkput a0 v22 v23 v24 v25 v7 v8 ∧ Below w0.heap.size w0 w ∧ (D 0 = true → v22 = M) ∧ (D 1 = true → v23 = .pointer (some ⟨b1, 0, none⟩) ∧ w0.heap.size ≤ b1 ∧ SysIs w b1 V) ∧ (D 2 = true → v24 = M) ∧
    (D 3 = true → v25 = .pointer (some ⟨b2, 0, none⟩) ∧ b1 < b2 ∧ SysIs w b2 V ∧ D 1 = true) ∧ (D 4 = true → v7 = v23 ∧ D 1 = true) ∧ (D 5 = true → v8 = v25 ∧ D 3 = true)
attribute [local irreducible] Oper.wp in
set_option maxHeartbeats 1600000 in
theorem keeps_first {Q : Exit → Act → World → Prop} (a0 : Act) (w0 : World) (s : Nat) (A1 A2 A3 Ah Aw Ar : Option Addr) (n1 c1 n2 c2 n3 c3 nh ch nw cw nr cr : Nat) (rs cs gs : List (Int × Int)) (hs : List Int) (ws : List (Int × Int)) (l : List Ru) (hsz : 70 ≤ a0.tmps.size)
    (hp3 : a0.eval (.tmp 2) = .pointer (some ⟨s, 0, none⟩)) (k0 : Blk w0 s 78 #[.slice A1 n1 c1, .slice A2 n2 c2, .slice A3 n3 c3, .slice Ah nh ch, .slice Aw nw cw, .slice Ar nr cr])
    (h1 : rs.length = n1) (h2 : cs.length = n2) (h3 : gs.length = n3) (hhs : hs.length = nh) (hws : ws.length = nw) (hl : l.length = nr) (hm : (n1 ≤ 1000 ∧ n2 ≤ 1000 ∧ n3 ≤ 1000) ∧ nh ≤ 1000 ∧ nw ≤ 1000 ∧ nr ≤ 1000) (hz : Ar = none → cr = 0)
    (r1 : RU w0 w0.heap.size A1 rs) (r2 : RU w0 w0.heap.size A2 cs) (r3 : RU w0 w0.heap.size A3 gs) (ri : RI w0 w0.heap.size Ah hs) (rb : Rd w0 w0.heap.size Aw (fl wrC ws)) (rr : Rd w0 w0.heap.size Ar (fl ruC l))
    (hQ : ∀ (b1 b2 : Nat) (w' : World), w0.heap.size ≤ b1 → b1 < b2 → SysIs w' b1 (sysG rs cs gs hs ws l) → SysIs w' b2 (sysG rs cs gs hs ws l) → Below w0.heap.size w0 w' →
      Q .normal (mkput a0 (.agg #[.slice A1 n1 c1, .slice A2 n2 c2, .slice A3 n3 c3, .slice Ah nh ch, .slice Aw nw cw, .slice Ar nr cr]) (.pointer (some ⟨b1, 0, none⟩)) (.agg #[.slice A1 n1 c1, .slice A2 n2 c2, .slice A3 n3 c3, .slice Ah nh ch, .slice Aw nw cw, .slice Ar nr cr]) (.pointer (some ⟨b2, 0, none⟩)) (.pointer (some ⟨b1, 0, none⟩)) (.pointer (some ⟨b2, 0, none⟩))) w') :
    (Code.region 10 keepsOps true).wp Tryz.prog Q a0 w0 := by
  conv => arg 2; arg 2; whnf
  have hsl := k0.lt
  obtain ⟨V, hVV⟩ : ∃ V, sysG rs cs gs hs ws l = V := ⟨_, rfl⟩
  have HS := fun W a b c d e f => sys24_any A1 A2 A3 Ah Aw Ar n1 c1 n2 c2 n3 c3 nh ch nw cw nr cr rs cs gs hs ws l W h1 h2 h3 hhs hws hl hm hz a b c d e f
  rw [hVV] at HS hQ
  refine region_inv (BothInvK a0 w0 (.agg #[.slice A1 n1 c1, .slice A2 n2 c2, .slice A3 n3 c3, .slice Ah nh ch, .slice Aw nw cw, .slice Ar nr cr]) V) (by kernel_rfl) (by simp [edgesDown, Region.binds]) ?ext ?start ?steps ?fin
  case ext =>
    intro D D' a w h hI
    have e : ∀ i, i < 6 → D i = D' i := h
    have : BothInvK a0 w0 (.agg #[.slice A1 n1 c1, .slice A2 n2 c2, .slice A3 n3 c3, .slice Ah nh ch, .slice Aw nw cw, .slice Ar nr cr]) V D a w = BothInvK a0 w0 (.agg #[.slice A1 n1 c1, .slice A2 n2 c2, .slice A3 n3 c3, .slice Ah nh ch, .slice Aw nw cw, .slice Ar nr cr]) V D' a w := by
      unfold BothInvK
      simp only [e 0 (by omega), e 1 (by omega), e 2 (by omega), e 3 (by omega), e 4 (by omega), e 5 (by omega)]
    exact this ▸ hI
  case start =>
    intro D h
    have n : ∀ i, i < 6 → ¬ (D i = true) := fun i hi => by rw [h i hi]; decide
    exact ⟨_, _, _, _, _, _, 0, 0, (mk_self a0 hsz).symm, (Below.refl _ w0).drew, fun h => absurd h (n 0 (by omega)), fun h => absurd h (n 1 (by omega)), fun h => absurd h (n 2 (by omega)), fun h => absurd h (n 3 (by omega)), fun h => absurd h (n 4 (by omega)), fun h => absurd h (n 5 (by omega))⟩
  case fin =>
    rintro a w ⟨v22, v23, v24, v25, v7, v8, b1, b2, rfl, hb, i0, i1, i2, i3, i4, i5⟩
    obtain rfl := i0 rfl
    obtain ⟨rfl, g1, V1⟩ := i1 rfl
    obtain rfl := i2 rfl
    obtain ⟨rfl, g2, V2, _⟩ := i3 rfl
    obtain ⟨rfl, _⟩ := i4 rfl
    obtain ⟨rfl, _⟩ := i5 rfl
    exact hQ b1 b2 w g1 g2 V1 V2 hb
  case steps =>
    refine ⟨?_, ?_, ?_, ?_, ?_, ?_, trivial⟩
    all_goals (rintro D a w ⟨v22, v23, v24, v25, v7, v8, b1, b2, rfl, hb, i0, i1, i2, i3, i4, i5⟩ hk he)
    all_goals (refine step_plainU rfl ?_)
    all_goals (have c0 := (k0.call hb).cell)
    · refine wp_valU (v := .agg #[.slice A1 n1 c1, .slice A2 n2 c2, .slice A3 n3 c3, .slice Ah nh ch, .slice Aw nw cw, .slice Ar nr cr]) (w' := w) (by simp only [execOp, mkev_3, hp3]; simp [go_sem, c0]) ?_
      show BothInvK a0 w0 _ V _ ((mkput a0 v22 v23 v24 v25 v7 v8).put (some 64) _) w; rw [mk_22]
      refine ⟨_, _, _, _, _, _, b1, b2, rfl, hb, ?_⟩
      simp only [Nat.reduceBEq, Bool.true_or, Bool.false_or, forall_const]
      exact ⟨trivial, i1, i2, i3, i4, i5⟩
    · obtain rfl := i0 (he ⟨0, .data⟩ (by simp) rfl)
      have hd3 : D 3 = false := by cases h : D 3 with | false => rfl | true => rw [(i3 h).2.2.2] at hk; cases hk
      have hd4 : D 4 = false := by cases h : D 4 with | false => rfl | true => rw [(i4 h).2] at hk; cases hk
      have hd5 : D 5 = false := by cases h : D 5 with | false => rfl | true => rw [(i5 h).2] at hd3; cases hd3
      have ev' : (mkput a0 (.agg #[.slice A1 n1 c1, .slice A2 n2 c2, .slice A3 n3 c3, .slice Ah nh ch, .slice Aw nw cw, .slice Ar nr cr]) v23 v24 v25 v7 v8).tmps[64]?.getD undef = .agg #[.slice A1 n1 c1, .slice A2 n2 c2, .slice A3 n3 c3, .slice Ah nh ch, .slice Aw nw cw, .slice Ar nr cr] := by
        have := mkev_22 a0 hsz (.agg #[.slice A1 n1 c1, .slice A2 n2 c2, .slice A3 n3 c3, .slice Ah nh ch, .slice Aw nw cw, .slice Ar nr cr]) v23 v24 v25 v7 v8
        simpa [Act.eval] using this
      refine wp_enterV (f := 33) (args := #[.agg #[.slice A1 n1 c1, .slice A2 n2 c2, .slice A3 n3 c3, .slice Ah nh ch, .slice Aw nw cw, .slice Ar nr cr]]) (w1 := w) (C := fun v w' => ∃ b, v = .pointer (some ⟨b, 0, none⟩) ∧ SysIs w' b V ∧ w.heap.size ≤ b ∧ Below w.heap.size w w') (by simp only [execOp]; simp [go_sem, ev']) ((HS w ((r1.below hb).more hb.size) ((r2.below hb).more hb.size) ((r3.below hb).more hb.size) (RI.more (RI.below ri hb) hb.size) (rb.on_ hb) (rr.on_ hb)).mono fun e w' ⟨b, h1, h2, h3, h4⟩ => ⟨_, h1, b, rfl, h2, h3, h4⟩) ?_
      rintro v w' ⟨b, rfl, hV, hbb, hbA⟩
      show BothInvK a0 w0 _ V _ ((mkput a0 _ v23 v24 v25 v7 v8).put (some 65) _) w'; rw [mk_23]
      refine ⟨_, _, _, _, _, _, b, b2, rfl, hb.trans (hbA.mono hb.size), ?_⟩
      simp only [Nat.reduceBEq, Nat.reduceAdd, Bool.true_or, Bool.false_or, forall_const]
      simp only [hd3, hd4, hd5]
      exact ⟨fun _ => trivial, ⟨trivial, Nat.le_trans hb.size hbb, hV⟩, i2, fun d => (by cases d), fun d => (by cases d), fun d => (by cases d)⟩
    · refine wp_valU (v := .agg #[.slice A1 n1 c1, .slice A2 n2 c2, .slice A3 n3 c3, .slice Ah nh ch, .slice Aw nw cw, .slice Ar nr cr]) (w' := w) (by simp only [execOp, mkev_3, hp3]; simp [go_sem, c0]) ?_
      show BothInvK a0 w0 _ V _ ((mkput a0 v22 v23 v24 v25 v7 v8).put (some 66) _) w; rw [mk_24]
      refine ⟨_, _, _, _, _, _, b1, b2, rfl, hb, ?_⟩
      simp only [Nat.reduceBEq, Nat.reduceAdd, Bool.true_or, Bool.false_or, forall_const]
      exact ⟨i0, i1, trivial, i3, i4, i5⟩
    · obtain rfl := i2 (he ⟨2, .data⟩ (by simp) rfl)
      have d1 := he ⟨1, .chain⟩ (by simp) rfl
      obtain ⟨rfl, g1, V1⟩ := i1 d1
      have hd5 : D 5 = false := by cases h : D 5 with | false => rfl | true => rw [(i5 h).2] at hk; cases hk
      have ev' : (mkput a0 v22 (.pointer (some ⟨b1, 0, none⟩)) (.agg #[.slice A1 n1 c1, .slice A2 n2 c2, .slice A3 n3 c3, .slice Ah nh ch, .slice Aw nw cw, .slice Ar nr cr]) v25 v7 v8).tmps[66]?.getD undef = .agg #[.slice A1 n1 c1, .slice A2 n2 c2, .slice A3 n3 c3, .slice Ah nh ch, .slice Aw nw cw, .slice Ar nr cr] := by
        have := mkev_24 a0 hsz v22 (.pointer (some ⟨b1, 0, none⟩)) (.agg #[.slice A1 n1 c1, .slice A2 n2 c2, .slice A3 n3 c3, .slice Ah nh ch, .slice Aw nw cw, .slice Ar nr cr]) v25 v7 v8
        simpa [Act.eval] using this
      refine wp_enterV (f := 33) (args := #[.agg #[.slice A1 n1 c1, .slice A2 n2 c2, .slice A3 n3 c3, .slice Ah nh ch, .slice Aw nw cw, .slice Ar nr cr]]) (w1 := w) (C := fun v w' => ∃ b, v = .pointer (some ⟨b, 0, none⟩) ∧ SysIs w' b V ∧ w.heap.size ≤ b ∧ Below w.heap.size w w') (by simp only [execOp]; simp [go_sem, ev']) ((HS w ((r1.below hb).more hb.size) ((r2.below hb).more hb.size) ((r3.below hb).more hb.size) (RI.more (RI.below ri hb) hb.size) (rb.on_ hb) (rr.on_ hb)).mono fun e w' ⟨b, h1, h2, h3, h4⟩ => ⟨_, h1, b, rfl, h2, h3, h4⟩) ?_
      rintro v w' ⟨b, rfl, hV, hbb, hbA⟩
      show BothInvK a0 w0 _ V _ ((mkput a0 v22 _ _ v25 v7 v8).put (some 67) _) w'; rw [mk_25]
      refine ⟨_, _, _, _, _, _, b1, b, rfl, hb.trans (hbA.mono hb.size), ?_⟩
      simp only [Nat.reduceBEq, Nat.reduceAdd, Bool.true_or, Bool.false_or, forall_const]
      simp only [hd5]
      exact ⟨i0, fun _ => ⟨trivial, g1, V1.call hbA⟩, fun _ => trivial, ⟨trivial, Nat.lt_of_lt_of_le V1.lt hbb, hV, d1⟩, i4, fun d => (by cases d)⟩
    · have d1 := he ⟨1, .data⟩ (by simp) rfl
      refine wp_valU (v := v23) (w' := w) (by simp only [execOp, mkev_23 _ hsz]; simp [go_sem]) ?_
      show BothInvK a0 w0 _ V _ ((mkput a0 v22 v23 v24 v25 v7 v8).put (some 7) _) w; rw [mk_7]
      refine ⟨_, _, _, _, _, _, b1, b2, rfl, hb, ?_⟩
      simp only [Nat.reduceBEq, Nat.reduceAdd, Bool.true_or, Bool.false_or, forall_const]
      exact ⟨i0, i1, i2, i3, ⟨trivial, d1⟩, i5⟩
    · have d3 := he ⟨3, .data⟩ (by simp) rfl
      refine wp_valU (v := v25) (w' := w) (by simp only [execOp, mkev_25 _ hsz]; simp [go_sem]) ?_
      show BothInvK a0 w0 _ V _ ((mkput a0 v22 v23 v24 v25 v7 v8).put (some 8) _) w; rw [mk_8]
      refine ⟨_, _, _, _, _, _, b1, b2, rfl, hb, ?_⟩
      simp only [Nat.reduceBEq, Nat.reduceAdd, Bool.true_or, Bool.false_or, forall_const]
      exact ⟨i0, i1, i2, i3, i4, ⟨trivial, d3⟩⟩
end Go.Proofs.YtpabnbhbcphfiaaGreat
namespace Go.Pol
/-! the blocks while moves are made -/
theorem getD_set (cs : List B3) (i j : Nat) (x : B3) (hi : i < cs.length) : (cs.set i x).getD j b0 = if i = j then x else cs.getD j b0 := by
  simp only [List.getD_eq_getElem?_getD, List.getElem?_set]
  by_cases e : i = j
  · subst e; simp [hi]
  · simp [e]
theorem memD {cs : List B3} {k : Nat} (h : k < cs.length) : cs.getD k b0 ∈ cs := by
  rw [List.getD_eq_getElem?_getD, List.getElem?_eq_getElem h]; simp
theorem possB_zero {pages : Int} {cs : List B3} {mv : Int × Int} (h : possB pages cs mv = 0) : (0 ≤ mv.1 ∧ mv.1 < cs.length) ∧ (cs.getD mv.1.toNat b0).2.2 = false ∧ insB pages mv.2 (cs.getD mv.1.toNat b0).2.1 = true ∧ ∀ c ∈ cs, overB c (mv.2, (cs.getD mv.1.toNat b0).2.1, false) = false := by
  unfold possB at h
  by_cases h1 : mv.1 < 0 ∨ (cs.length : Int) ≤ mv.1
  · rw [if_pos h1] at h; omega
  · rw [if_neg h1] at h
    by_cases h2 : (cs.getD mv.1.toNat b0).2.2 = true
    · rw [if_pos h2] at h; omega
    · rw [if_neg h2] at h
      by_cases h3 : insB pages mv.2 (cs.getD mv.1.toNat b0).2.1 = false
      · rw [if_pos h3] at h; omega
      · rw [if_neg h3] at h
        by_cases h4 : cs.any (fun c => overB c (mv.2, (cs.getD mv.1.toNat b0).2.1, false)) = true
        · rw [if_pos h4] at h; omega
        · refine ⟨by omega, by simpa using h2, by simpa using h3, fun c hc => ?_⟩
          cases ho : overB c (mv.2, (cs.getD mv.1.toNat b0).2.1, false) with
          | false => rfl
          | true => exact absurd (List.any_eq_true.2 ⟨c, hc, ho⟩) h4
theorem overB_last (a b c : B3) (h1 : b.1 = c.1) (h2 : b.2.1 = c.2.1) : overB a b = overB a c := by unfold overB; rw [h1, h2]
theorem apart_sym {pages : Int} {cs : List B3} (ok : okB pages cs) {i j : Nat} (hi : i < cs.length) (hj : j < cs.length) (hne : i ≠ j) : overB (cs.getD i b0) (cs.getD j b0) = false := by
  rcases Nat.lt_or_gt_of_ne hne with h | h
  · rw [overB_comm]; exact ok.apart j i hj h
  · exact ok.apart i j hi h
/-- blocks stay in order where a move is possible -/
theorem okB_mov {pages : Int} {cs : List B3} {mv : Int × Int} (ok : okB pages cs) (h : possB pages cs mv = 0) : okB pages (movB cs mv) := by
  obtain ⟨⟨h0, h1⟩, _, h3, h4⟩ := possB_zero h
  have hi : mv.1.toNat < cs.length := by omega
  unfold movB
  have hov : ∀ j, j < cs.length → overB (cs.getD j b0) (mv.2, (cs.getD mv.1.toNat b0).2) = false := fun j hj => by
    exact (overB_last _ (mv.2, (cs.getD mv.1.toNat b0).2) (mv.2, (cs.getD mv.1.toNat b0).2.1, false) rfl rfl).trans (h4 _ (memD hj))
  refine ⟨ok.space, by rw [List.length_set]; exact ok.len, fun b hb => ?_, fun i k hi' hk => ?_⟩
  · rcases List.mem_or_eq_of_mem_set hb with hb | hb
    · exact ok.ins b hb
    · subst hb; exact h3
  · rw [List.length_set] at hi'
    rw [getD_set _ _ _ _ hi, getD_set _ _ _ _ hi]
    by_cases e1 : mv.1.toNat = i
    · rw [if_pos e1]
      by_cases e2 : mv.1.toNat = k
      · omega
      · rw [if_neg e2, overB_comm]; exact hov k (by omega)
    · rw [if_neg e1]
      by_cases e2 : mv.1.toNat = k
      · rw [if_pos e2]; exact hov i hi'
      · rw [if_neg e2]; exact ok.apart i k hi' hk
end Go.Pol
namespace Go.Pol
open Go Go.Proofs Go.RowKit
/-- what a change makes of the pages: nothing, or all that it names -/
theorem makeF_cases (V : Vm) (a n : Int) (call : Nat) (pr : Pg → Bool) (fd : Pg → Pg) :
    ((makeF V a n call pr fd).1 ≠ 0 ∧ (makeF V a n call pr fd).2.pg = V.pg) ∨
    ((makeF V a n call pr fd).1 = 0 ∧ 0 ≤ a ∧ 1 ≤ n ∧ a + n ≤ 1024 ∧ (∀ p : Nat, a ≤ p → (p : Int) < a + n → pr (V.pg p) = true) ∧
      ∀ p : Nat, (makeF V a n call pr fd).2.pg p = if a ≤ p ∧ (p : Int) < a + n then fd (V.pg p) else V.pg p) := by
  unfold makeF
  by_cases h1 : n < 1 ∨ a < 0 ∨ 1024 ≤ a ∨ 1024 - a < n
  · rw [if_pos h1]; exact .inl ⟨(by decide : (7 : Int) ≠ 0), rfl⟩
  · rw [if_neg h1]
    by_cases h2 : allP V a.toNat n.toNat pr = false
    · rw [if_pos h2]; exact .inl ⟨(by decide : (9 : Int) ≠ 0), rfl⟩
    · rw [if_neg h2]
      rw [Bool.not_eq_false] at h2
      by_cases h3 : refB V.rf call = true
      · rw [if_pos h3]; exact .inl ⟨(by decide : (60 : Int) ≠ 0), rfl⟩
      · rw [if_neg h3]
        refine .inr ⟨rfl, by omega, by omega, by omega, fun p p1 p2 => allP_iff.1 h2 p (by omega) (by omega), fun p => ?_⟩
        show (if _ then _ else _) = _
        by_cases h4 : a ≤ p ∧ (p : Int) < a + n
        · rw [if_pos h4, if_pos (by omega)]; rfl
        · rw [if_neg h4, if_neg (by omega)]; rfl
end Go.Pol
