/- Merged texts. Walks of layer 24 over a system: a move. What the struct 'look' of layer 13 holds, as cells; what a store into it makes of that. Walk: 'open' of layer 13. Walks of layer 13: Check; the groups of one kind as a function value that is ranged over. Walks of layer 13: Check, Groups. Walks of layer 24 over a system: Do. What the best plan is, and what its moves do; no program in sight. What a change of pages makes of a system, by cases. Plain laws of moves over a system: the committed pages of each block, and their bytes, stay with it, whatever is refused. The laws of the best plan: what its moves make; no given moves cost less; lower orders cost no more; no program in sight. Plain law of MovingWhole: without rules, in a system where just the blocks are reserved, all moves are made. Walks: the blocks after moves (the reference), in new memory. Walks: the law's free, opened. -/
import Derived.Deep.MidRow
import Derived.Test.YtpabnbhbcphfiaaGreatT5
namespace Go.Pol
open Go Go.Proofs Go.RowKit
/-- a mover in memory -/
structure MovIs (w : World) (tm tb ts : TypeId) (g0 b NB : Nat) (A : Option Addr) (nb nc : Nat) (bs : List B3) (st : List Sp) (V : Vm) : Prop where
  ex : ∃ v2, Blk w g0 tm #[.pointer (some ⟨b, 0, none⟩), .slice A nb nc, v2] ∧ w.ownsRow NB tb 3 (.slice A nb nc) nb (tCells bs) ∧ w.ownsRow NB ts 2 v2 st.length (spCells st)
  sys : SysIs w b V
end Go.Pol
namespace Go.Proofs.YtpabnbhbcphfiaaGreat
open Go Go.Proofs Go.RowKit Go.Pol Go.Shelf
attribute [local go_sem] Oper.semAt_some Go.Pol.wide_fn Go.Pol.wide_depth Go.Pol.wide_fn' Go.Pol.wide_depth'

set_option maxRecDepth 100000 in
set_option maxHeartbeats 3200000 in
theorem move24_any (g0 b NB gn nc nb mk : Nat) (q : Int) (bs : List B3) (st : List Sp) (v2 : Value) (V : Vm) (w : World) (hV : SysIs w b V) (kM : Blk w g0 169 #[.pointer (some ⟨b, 0, none⟩), .slice (some ⟨gn, 0, none⟩) nb nc, v2]) (hg : g0 ≠ b)
    (rn : w.ownsRow NB 65 3 (.slice (some ⟨gn, 0, none⟩) nb nc) nb (tCells bs)) (hbs : bs.length = nb) (ro : w.ownsRow NB 115 2 v2 st.length (spCells st)) (hNB : NB ≤ w.heap.size) (hbN : b < NB) (hst : st.length ≤ 1000) (hmk : mk < nb)
    (hp : 0 ≤ (bs.getD mk b0).1 ∧ (bs.getD mk b0).1 ≤ 1024) (ho : 0 ≤ (bs.getD mk b0).2.1 ∧ (bs.getD mk b0).2.1 ≤ 10) (hq : 0 ≤ q ∧ q ≤ 1024) :
    Calls Tryz.prog 88 #[.pointer (some ⟨g0, 0, none⟩), .agg #[.int .i64 mk, .int .i64 q]] w fun e w' => ∃ r, r = moveF V (bs.getD mk b0).1 q (pw (bs.getD mk b0).2.1) ∧ e = .returned (.int .i64 r.1) ∧
      MovIs w' 169 65 115 g0 b NB (some ⟨gn, 0, none⟩) nb nc (movBs bs mk q r) (movSt st (bs.getD mk b0).1 q (pw (bs.getD mk b0).2.1) r) r.2.2.2 ∧ Far (fun k => k = b ∨ k = g0 ∨ NB ≤ k) w w' := by
  have hcells := tCells_at bs mk (by omega)
  have hset := Lib.hid (tCells_set bs mk q (by omega))
  have hmv : Hid (∀ r : Int × Bool × Bool × Vm, movBs bs mk q r = if r.2.1 = true then bs.set mk (q, (bs.getD mk b0).2) else bs) := Lib.hid (fun r => rfl)
  generalize bs.getD mk b0 = blk at *
  obtain ⟨p, o, pin⟩ := blk
  simp only at hp ho hcells hset hmv ⊢
  obtain ⟨n, hn⟩ : ∃ n : Nat, pw o = (n : Int) := Int.eq_ofNat_of_zero_le (by have := pw_pos o; omega)
  have hn1 : n ≤ 1024 := by have := pw_le ho.2; omega
  have hn0 : 1 ≤ n := by have := pw_pos o; omega
  have HSz := Lib.hid (fun W => size_any o W ho)
  rw [hn] at HSz ⊢
  obtain ⟨R, hR⟩ : ∃ R, moveF V p q (n : Int) = R := ⟨_, rfl⟩
  have hR' : Hid (moveF V p q (n : Int) = R) := Lib.hid hR
  rw [hR]
  unfold moveF at hR
  rw [Int.toNat_natCast] at hR
  have hR2 := Lib.hid hR
  obtain ⟨s, hs⟩ : ∃ s, w.heap.size = s := ⟨_, rfl⟩
  have hb0 := (Below.refl w.heap.size w).alloc (Nat.le_refl _) (.cells #[.int .i64 (mk : Int), .int .i64 q] 152)
  have kB := Blk.new w 152 #[.int .i64 (mk : Int), .int .i64 q]
  rw [hs] at kB
  have kM0 := kM.call hb0
  have V0 := hV.call hb0
  have rn0 := ownsRow_call rn hb0
  have ro0 := ownsRow_call ro hb0
  have hmi : (mk : Int) < (nb : Int) := by omega
  have F0 : Far (fun k => k = b ∨ k = g0 ∨ NB ≤ k) w _ := .of_below hb0
  clear kM hV rn ro hb0 hR hR'
  go_enter Tryz.func88, Tryz.ntmps88
  go_upto_region 1 with fail
  generalize w.alloc _ = w0 at *
  try simp only [hs]
  have cp := rn0.cellAt (mk * 3) (by omega)
  have co := rn0.cellAt (mk * 3 + 1) (by omega)
  rw [hcells.1] at cp
  rw [hcells.2.1] at co
  have hgn := rn0.lt gn rfl
  have e0 := fun x : Ext w0 => (x.blk kM0).cell
  have e1 := fun x : Ext w0 => (x.blk kB).cell
  refine region_ext (by kernel_rfl) (by kernel_rfl) ?_
  repeat (go_big_quiet_step (fail))
  refine wpQuiet_nil ?_
  rintro w1 ⟨⟨_, hw1⟩, rfl⟩
  have co1 := (hw1.cell (p := ⟨gn, mk * 3 + 1, none⟩) hgn.2).trans co
  have cp1 := (hw1.cell (p := ⟨gn, mk * 3, none⟩) hgn.2).trans cp
  have kM1 := kM0.call hw1
  have kB1 := kB.call hw1
  have V1 := V0.call hw1
  have rn1 := ownsRow_call rn0 hw1
  have ro1 := ownsRow_call ro0 hw1
  have F1 : Far (fun k => k = b ∨ k = g0 ∨ NB ≤ k) w w1 := F0.trans (.of_below hw1)
  clear e0 e1 kM0 kB V0 rn0 ro0 F0 cp co hw1
  go_wp2_with fail
  refine (HSz.out _).mono ?_
  rintro e w2 ⟨rfl, hw2⟩
  replace hw2 := hw2.symm
  subst hw2
  have e0 := fun x : Ext w1 => (x.blk kM1).cell
  have e1 := fun x : Ext w1 => (x.blk kB1).cell
  go_upto_region 3 with fail
  refine region_ext_tail 7 (by kernel_rfl) (by kernel_rfl) ?_
  simp only [List.take_succ_cons, List.take_zero, List.drop_succ_cons, List.drop_zero]
  repeat (go_big_quiet_step (fail))
  refine wpQuiet_nil ?_
  intro z
  go_wp2_with fail
  have V2 := V1.call z.le
  have kM2 := kM1.call z.le
  have kB2 := kB1.call z.le
  have rn2 := ownsRow_call rn1 z.le
  have ro2 := ownsRow_call ro1 z.le
  have F2 : Far (fun k => k = b ∨ k = g0 ∨ NB ≤ k) w z.w := F1.trans (.of_below z.le)
  have cp2 := (z.le.cell (p := ⟨gn, mk * 3, none⟩) (rn1.lt gn rfl).2).trans cp1
  generalize z.w = w2 at *
  have hsb : ¬ s = b := by omega
  have hgb : ∀ g, ¬ NB ≤ g → True := fun _ _ => trivial
  clear e0 e1 kM1 kB1 V1 rn1 ro1 F1 cp1 co1 hgb
  refine (reserve_any b q n V w2 V2).mono ?_
  rintro e w3 ⟨rfl, V3, F3⟩
  have kM3 := F3.blk kM2 (by show ¬ g0 = b; exact hg)
  have kB3 := F3.blk kB2 (by show ¬ s = b; exact hsb)
  have rn3 := ownsRow_far rn2 F3 (fun g hg h => by have := (rn2.lt g hg).1; omega)
  have ro3 := ownsRow_far ro2 F3 (fun g hg h => by have := (ro2.lt g hg).1; omega)
  have F03 : Far (fun k => k = b ∨ k = g0 ∨ NB ≤ k) w w3 := F2.trans' F3 (fun i _ h => .inl h)
  have cp3 := F3.cell cp2 (by show ¬ gn = b; omega)
  have V3' := Lib.hid V3
  generalize bec V q (n : Int) 0 0 1 = J at *
  obtain ⟨je, jV⟩ := J
  simp only at hR2 V3'
  have hR3 := hR2.out
  clear V2 kM2 kB2 rn2 ro2 F2 cp2 F3 V3 hR2
  by_cases hj : je = 0
  case neg =>
    have hj' : (je != 0) = true := by simpa using hj
    rw [if_pos hj] at hR3
    have hR4 := Lib.hid hR3
    clear hR3
    go_wp2_with fail
    go_ret
    refine ⟨R, rfl, ?_, ?_, F03⟩
    · rw [← hR4.out]; rfl
    · rw [← hR4.out]
      exact ⟨⟨v2, kM3, rn3, ro3⟩, V3'.out⟩
  subst hj
  rw [if_neg (by simp)] at hR3
  have hinv := runsM_inv jV p n
  have HRu := Lib.hid (runs24_any g0 b p n (.slice (some ⟨gn, 0, none⟩) nb nc) v2 jV w3 V3'.out kM3 hp hn1)
  generalize (runsM jV p n).1 = l at *
  obtain ⟨hl1, hl2, _⟩ := hinv
  have hR4 := Lib.hid hR3
  have hlx := Lib.hid hl2
  obtain ⟨ln, hln⟩ : ∃ ln, l.length = ln := ⟨_, rfl⟩
  unfold SpansN at HRu
  rw [hln] at HRu hl1
  have hln' := Lib.hid hln
  clear hR3 hl2 hln
  go_wp2_with fail
  refine HRu.out.mono ?_
  rintro e w4 ⟨Al, cl, rfl, hrl, hfl, hcl, hclm, hlz, hb4⟩
  have kM4 := kM3.call hb4
  have kB4 := kB3.call hb4
  have rn4 := ownsRow_call rn3 hb4
  have ro4 := ownsRow_call ro3 hb4
  have F04 : Far (fun k => k = b ∨ k = g0 ∨ NB ≤ k) w w4 := F03.trans (.of_below hb4)
  have cp4 := (hb4.cell (p := ⟨gn, mk * 3, none⟩) (rn3.lt gn rfl).2).trans cp3
  have V4 := Lib.hid (V3'.out.call hb4)
  have hs3 : NB ≤ w3.heap.size := by have := F03.size; omega
  have hgn3 : gn < w3.heap.size ∧ NB ≤ gn := by have := rn3.lt gn rfl; omega
  have hs4 := hb4.size
  clear HRu V3' kM3 kB3 rn3 ro3 F03 cp3 hb4
  go_wp2_with fail
  go_loopw [48] (fun i wr => ∃ (k : Nat) (U : Vm), k ≤ ln ∧ i = .int .i64 k ∧ Hid (cmF q l jV = (k + (cmF q (l.drop k) U).1, (cmF q (l.drop k) U).2)) ∧ Hid (SysIs wr b U) ∧ Far (fun k => k = b) w4 wr) (fun i _ => ln - (intOf i).toNat)
  case atStart => exact ⟨0, jV, by omega, rfl, Lib.hid (by simp), V4, Far.refl _ _⟩
  case round =>
    clear V4
    obtain ⟨k, U, hk, rfl, hfl2, hU, hF⟩ := hrel
    have kMr := hF.blk kM4 (by show ¬ g0 = b; exact hg)
    have kBr := hF.blk kB4 (by show ¬ s = b; exact hsb)
    have hsr := hF.size
    by_cases hlt : k < ln
    · have hlt' : decide ((k : Int) < (ln : Int)) = true := by simpa using hlt
      have hln2 := hln'.out
      have hsn := cmF_step (by omega) hfl2.out
      obtain ⟨rb, ro', rfl, hrb, c5, c6⟩ := hrl.at_' (k := k) (by omega)
      have hrbs := hfl rb ro' rfl
      have d5 := hF.cell c5 (by show ¬ rb = b; omega)
      have d6 := hF.cell c6 (by show ¬ rb = b; omega)
      have hxm := hlx.out (l.getD k (0, 0)) (by rw [List.getD_eq_getElem?_getD, List.getElem?_eq_getElem (by omega)]; exact List.getElem_mem _)
      generalize l.getD k (0, 0) = x at *
      obtain ⟨xa, xb⟩ := x
      simp only at d5 d6 hsn hxm
      have hsn' := Lib.hid hsn
      have kx := Blk.new wr 115 #[.int .i64 xa, .int .i64 xb]
      have hbx : Below wr.heap.size wr (wr.alloc (.cells #[.int .i64 xa, .int .i64 xb] 115)) := (Below.refl _ _).alloc (Nat.le_refl _) _
      obtain ⟨gx, hgx⟩ : ∃ gx, wr.heap.size = gx := ⟨_, rfl⟩
      rw [hgx] at kx
      have hbz := hU.out.lt
      clear hsn c5 c6 hfl2 hln2
      go_upto_region 10 with fail
      have Tx := Lib.hid (hU.out.call hbx)
      have hFx : Far (fun k => k = b) w4 _ := hF.trans (.of_below hbx)
      have kMx := kMr.call hbx
      have kBx := kBr.call hbx
      generalize wr.alloc _ = w5 at *
      try simp only [hgx]
      have e0 := fun x : Ext w5 => (x.blk kMx).cell
      have e1 := fun x : Ext w5 => (x.blk kBx).cell
      have e2 := fun x : Ext w5 => (x.blk kx).cell
      clear hbx hU hF d5 d6 kMr kBr
      refine region_ext_tail 11 (by kernel_rfl) (by kernel_rfl) ?_
      simp only [List.take_succ_cons, List.take_zero, List.drop_succ_cons, List.drop_zero]
      repeat (go_big_quiet_step (fail))
      refine wpQuiet_nil ?_
      intro z
      go_wp2_with fail
      refine (commit_any b (q + xa) xb U z.w (Tx.out.call z.le)).mono ?_
      rintro e w6 ⟨rfl, V6, F6⟩
      have V6' := Lib.hid V6
      have hF6 : Far (fun k => k = b) w4 w6 := (hFx.trans (.of_below z.le)).trans F6
      have kM6 := F6.blk (kMx.call z.le) (by show ¬ g0 = b; exact hg)
      have kB6 := F6.blk (kBx.call z.le) (by show ¬ s = b; exact hsb)
      generalize bec U (q + xa) xb 2 1 2 = J at *
      obtain ⟨ce, cV⟩ := J
      simp only at hsn' V6'
      have hsn2 := hsn'.out
      clear e0 e1 e2 hsn' V6 hFx kMx kBx kx Tx F6
      by_cases hj : ce = 0
      · subst hj
        rw [if_pos rfl] at hsn2
        have hsn3 := Lib.hid hsn2
        clear hsn2
        go_wp2_with fail
        go_roundw
        case rel => exact ⟨k + 1, cV, by omega, by go_num, hsn3, V6', hF6⟩
        case measure => simp [intOf]; omega
      · have hj' : (ce != 0) = true := by simpa using hj
        rw [if_neg hj] at hsn2
        have hR5 : Hid (R = (ce, false, (leaveF cV q (n : Int) (l.take k).reverse).1 != 0, (leaveF cV q (n : Int) (l.take k).reverse).2)) := Lib.hid (by
          rw [← hR4.out]
          simp only [hsn2]
          rw [if_pos hj])
        have hkc : k ≤ cl := by omega
        have hlk : (l.take k).length = k := by rw [List.length_take, hln'.out]; omega
        have hrl6 : RU w6 w6.heap.size (some ⟨rb, ro', none⟩) (l.take k) := RU.takenS ((RU.more (fun j hj => by
          obtain ⟨b', o', e, hb', h1, h2⟩ := hrl j hj
          have := hfl b' o' e
          exact ⟨b', o', e, hb', hF6.cell h1 (by show ¬ b' = b; omega), hF6.cell h2 (by show ¬ b' = b; omega)⟩) hF6.size : RU w6 w6.heap.size (some ⟨rb, ro', none⟩) l)) k
        have HCl := Lib.hid (clone_any (some ⟨rb, ro', none⟩) k cl (l.take k) w6 hlk (by omega) hrl6)
        have hbd : ∀ x ∈ (l.take k).reverse, (0 ≤ x.1 ∧ x.1 ≤ 1024) ∧ 0 ≤ x.2 ∧ x.2 ≤ 1024 := fun x hx => by
          have := hlx.out x (List.mem_of_mem_take (List.mem_reverse.1 hx))
          omega
        have hbd' := Lib.hid hbd
        have hlk' := Lib.hid hlk
        have hrr : Hid ((l.take k).reverse.length = k) := Lib.hid (by rw [List.length_reverse]; exact hlk)
        generalize l.take k = lt at *
        clear hsn2 hR4 hlk hbd hrl6
        go_wp2_with fail
        refine HCl.out.mono ?_
        rintro e w7 ⟨vc, rfl, rc7, hb7⟩
        obtain ⟨Av, cv, rfl⟩ := own_slice rc7
        have hs6 := hF6.size
        have V7 := V6'.out.call hb7
        have HRv := Lib.hid (revAny_any (.slice Av k cv) k w6.heap.size lt w7 hlk'.out (by omega) rc7)
        clear HCl
        go_wp2_with fail
        refine HRv.out.mono ?_
        rintro e w8 ⟨rfl, rc8, F8⟩
        have F68 : Far (fun g => (Value.slice Av k cv).ownBlock = some g) w6 w8 := (Far.of_below hb7).trans F8
        have hF8 : Far (fun k => k = b) w4 w8 := hF6.trans' F68 (fun i hi h => by have := (rc7.lt i h).1; omega)
        have kM8 := F68.blk kM6 (fun h => by have := (rc7.lt g0 h).1; have := kM6.lt; omega)
        have kB8 := F68.blk kB6 (fun h => by have := (rc7.lt s h).1; have := kB6.lt; omega)
        have V8 := Lib.hid (V7.far F8 (fun h => by have := (rc7.lt b h).1; omega) (fun _ _ _ _ _ _ g _ _ _ hc hg => hc.elim fun cr hcr => own_other rc7 hg hcr (by decide)))
        have ro8 := ownsRow_far ro4 hF8 (fun g hg h => by have := (ro4.lt g hg).1; omega)
        have rn8 := ownsRow_far rn4 hF8 (fun g hg h => by have := (rn4.lt g hg).1; omega)
        have hs8 := hF8.size
        obtain ⟨Av', cv', e8, hr8, _, _, hfr8, _⟩ := own_RU rc8 hrr.out
        cases e8
        have HLv := Lib.hid (leave24_any g0 b NB q n Av k cv lt.reverse st _ v2 cV w8 V8.out kM8 hg ro8 (by omega) hbN hst hrr.out hr8 (fun g o e _ => by have := hfr8 g o e; omega) hbd'.out (by omega) hq hn1)
        have F08 : Far (fun k => k = b ∨ k = g0 ∨ NB ≤ k) w w8 := F04.trans' hF8 (fun i _ h => .inl h)
        obtain ⟨L, hL⟩ : ∃ L, leaveF cV q (n : Int) lt.reverse = L := ⟨_, rfl⟩
        rw [hL] at HLv hR5
        have c8 := kB8.cell
        clear HRv F68 hF8 F8 V7 hF6 kM6 kB6 rc8 hr8 hfr8 hL V8
        go_wp2_with fail
        refine HLv.out.mono ?_
        rintro e w9 ⟨rfl, v2', kM9, ro9, V9, F9⟩
        have rn9 := ownsRow_far rn8 F9 (fun g hg h => by
          rcases h with h | h | h
          · have := (rn8.lt g hg).1; omega
          · exact own_other rn8 (hg.trans (congrArg some h)) kM8 (by decide)
          · exact rows_apart rn8 ro8 (by decide) hg h)
        have F09 : Far (fun k => k = b ∨ k = g0 ∨ NB ≤ k) w w9 := F08.trans' F9 (fun i _ h => h.elim .inl (fun h => h.elim (fun h => .inr (.inl h)) (fun h => .inr (.inr (ro8.lt i h).1))))
        clear HLv c8 kM8 kB8 ro8 rn8 F08 F9
        go_wp2_with fail
        go_ret
        refine ⟨R, rfl, ?_, ?_, F09⟩
        · rw [hR5.out]; rfl
        · rw [hR5.out]
          have e1 : movSt st p q n (ce, false, L.1 != 0, L.2) = stayF st L.1 (q, n) := by
            unfold movSt stayF
            by_cases h : L.1 = 0 <;> simp [h]
          rw [e1]
          exact ⟨⟨v2', kM9, rn9, ro9⟩, V9⟩
    · obtain rfl : k = ln := by omega
      have hlt' : decide ((k : Int) < (k : Int)) = false := by simp
      have hcm : cmF q l jV = (k, 0, U) := by
        rw [hfl2.out, List.drop_of_length_le (by rw [hln'.out]; exact Nat.le_refl _)]
        rfl
      have hR5 : Hid (R = ((leaveF (l.foldl (copyS p q) U) p (n : Int) l).1, true, (leaveF (l.foldl (copyS p q) U) p (n : Int) l).1 != 0, (leaveF (l.foldl (copyS p q) U) p (n : Int) l).2)) := Lib.hid (by
        rw [← hR4.out]
        simp only [hcm]
        rw [if_neg (by simp)])
      obtain ⟨wA, rfl⟩ : ∃ wA, wA = wr := ⟨_, rfl⟩
      have rnA := ownsRow_far rn4 hF (fun g hg h => by have := (rn4.lt g hg).1; omega)
      have roA := ownsRow_far ro4 hF (fun g hg h => by have := (ro4.lt g hg).1; omega)
      have F0A : Far (fun k => k = b ∨ k = g0 ∨ NB ≤ k) w wA := F04.trans' hF (fun i _ h => .inl h)
      have cpA := hF.cell cp4 (by show ¬ gn = b; have := (rn4.lt gn rfl).1; omega)
      have hrlA : RU wA wA.heap.size Al l := RU.more (fun j hj => by
        obtain ⟨b', o', e, hb', h1, h2⟩ := hrl j hj
        have := hfl b' o' e
        exact ⟨b', o', e, hb', hF.cell h1 (by show ¬ b' = b; omega), hF.cell h2 (by show ¬ b' = b; omega)⟩) hF.size
      have hUA := hU
      clear hcm hfl2 hR4 hU hF rn4 ro4 F04 cp4 hrl kM4 kB4
      go_wp2_with fail
      go_loopw [83] (fun i w5 => ∃ (m : Nat) (T : Vm), m ≤ k ∧ i = .int .i64 m ∧ Hid ((l.take m).foldl (copyS p q) U = T) ∧ Hid (SysIs w5 b T) ∧ Far (fun k => k = b) wA w5) (fun i _ => k - (intOf i).toNat)
      case atStart => exact ⟨0, U, by omega, rfl, Lib.hid (by simp), hUA, Far.refl _ _⟩
      case round =>
        clear hUA
        obtain ⟨m, T, hm, rfl, hfl2, hT, hF⟩ := hrel
        have kM5 := hF.blk kMr (by show ¬ g0 = b; exact hg)
        have kB5 := hF.blk kBr (by show ¬ s = b; exact hsb)
        have cp5 := hF.cell cpA (by show ¬ gn = b; have := (rnA.lt gn rfl).1; omega)
        have hs5 := hF.size
        by_cases hlt2 : m < k
        · have hlt2' : decide ((m : Int) < (k : Int)) = true := by simpa using hlt2
          have hln2 := hln'.out
          have hst2 : (l.take (m + 1)).foldl (copyS p q) U = copyS p q T (l.getD m (0, 0)) := by rw [z_take (0, 0) l (by omega), List.foldl_append, hfl2.out]; rfl
          obtain ⟨rb, ro', rfl, hrb, c5, c6⟩ := hrlA.at_' (k := m) (by omega)
          have hrbs := hfl rb ro' rfl
          have d5 := hF.cell c5 (by show ¬ rb = b; omega)
          have d6 := hF.cell c6 (by show ¬ rb = b; omega)
          have hxm := hlx.out (l.getD m (0, 0)) (by rw [List.getD_eq_getElem?_getD, List.getElem?_eq_getElem (by omega)]; exact List.getElem_mem _)
          generalize l.getD m (0, 0) = x at *
          obtain ⟨xa, xb⟩ := x
          simp only at d5 d6 hst2 hxm
          obtain ⟨pa, hpa⟩ := Int.eq_ofNat_of_zero_le (show 0 ≤ p + xa by omega)
          obtain ⟨qa, hqa⟩ := Int.eq_ofNat_of_zero_le (show 0 ≤ q + xa by omega)
          obtain ⟨xn, rfl⟩ := Int.eq_ofNat_of_zero_le (show 0 ≤ xb by omega)
          have hst3 : Hid ((l.take (m + 1)).foldl (copyS p q) U = copyF T ((pa : Int) * 64) ((qa : Int) * 64) (xn * 64)) := Lib.hid (by
            rw [hst2]
            unfold copyS
            simp only [hpa, hqa]
            congr 1)
          have kx := Blk.new wr 115 #[.int .i64 xa, .int .i64 (xn : Int)]
          have hbx : Below wr.heap.size wr (wr.alloc (.cells #[.int .i64 xa, .int .i64 (xn : Int)] 115)) := (Below.refl _ _).alloc (Nat.le_refl _) _
          obtain ⟨gx, hgx⟩ : ∃ gx, wr.heap.size = gx := ⟨_, rfl⟩
          rw [hgx] at kx
          have hgw : gn < wr.heap.size := by have := (rnA.lt gn rfl).2; omega
          clear hst2 c5 c6 hfl2 hln2
          go_upto_region 20 with fail
          have Tx := Lib.hid (hT.out.call hbx)
          have hFx : Far (fun k => k = b) wA _ := hF.trans (.of_below hbx)
          have kMx := kM5.call hbx
          have kBx := kB5.call hbx
          have cpx := (hbx.cell (p := ⟨gn, mk * 3, none⟩) hgw).trans cp5
          generalize wr.alloc _ = w5 at *
          try simp only [hgx]
          have e1 := fun x : Ext w5 => (x.blk kBx).cell
          have e2 := fun x : Ext w5 => (x.blk kx).cell
          have e3 := fun x : Ext w5 => x.cell cpx
          clear hbx hT hF d5 d6 kM5 kB5 cp5
          refine region_ext_tail 15 (by kernel_rfl) (by kernel_rfl) ?_
          simp only [List.take_succ_cons, List.take_zero, List.drop_succ_cons, List.drop_zero]
          repeat (go_big_quiet_step (fail))
          refine wpQuiet_nil ?_
          intro z
          go_wp2_with fail
          refine (copy24_any g0 b pa qa xn _ v2 T z.w (Tx.out.call z.le) (kMx.call z.le) hg (by omega) (by omega) (by omega)).mono ?_
          rintro e w6 ⟨rfl, V6, F6⟩
          have V6' := Lib.hid V6
          have hF6 : Far (fun k => k = b) wA w6 := (hFx.trans (.of_below z.le)).trans F6
          clear e1 e2 e3 V6 F6 hFx Tx kMx kBx kx cpx
          go_wp2_with fail
          go_roundw
          case rel => exact ⟨m + 1, _, by omega, by go_num, hst3, V6', hF6⟩
          case measure => simp [intOf]; omega
        · obtain rfl : m = k := by omega
          have hlt2' : decide ((m : Int) < (m : Int)) = false := by simp
          have hln2 := hln'.out
          have hT4 : l.foldl (copyS p q) U = T := by have := hfl2.out; rwa [List.take_of_length_le (by omega)] at this
          rw [hT4] at hR5
          have rn5 := ownsRow_far rnA hF (fun g hg h => by have := (rnA.lt g hg).1; omega)
          have ro5 := ownsRow_far roA hF (fun g hg h => by have := (roA.lt g hg).1; omega)
          have F05 : Far (fun k => k = b ∨ k = g0 ∨ NB ≤ k) w wr := F0A.trans' hF (fun i _ h => .inl h)
          have hrl5 : RU wr wr.heap.size Al l := RU.more (fun j hj => by
            obtain ⟨b', o', e, hb', h1, h2⟩ := hrlA j hj
            have := hfl b' o' e
            exact ⟨b', o', e, hb', hF.cell h1 (by show ¬ b' = b; omega), hF.cell h2 (by show ¬ b' = b; omega)⟩) hF.size
          have fz := rn5.frozenAt (mk * 3)
          obtain ⟨hst5, _⟩ := rn5.stored (mk * 3) (.int .i64 q)
          rw [hset.out] at hst5
          have FS : Far (fun k => k = gn) wr (wr.setCell ⟨gn, mk * 3, none⟩ (.int .i64 q)) := Far.setCell (T := fun k => k = gn) (p := ⟨gn, mk * 3, none⟩) (Far.refl _ wr) (fun _ => rfl) _
          have c5 := kB5.cell
          have hV5 := hT
          clear hT4 hln2 hfl2 hrlA rnA roA F0A cpA hF hT
          go_upto_region 24 with fail
          generalize wr.setCell ⟨gn, mk * 3, none⟩ (.int .i64 q) = w6 at *
          have kM6 := FS.blk kM5 (fun h => own_other rn5 (by rw [h]; rfl) kM5 (by decide))
          have ro6 := ownsRow_far ro5 FS (fun g hg h => rows_apart ro5 rn5 (by decide) hg (by rw [h]; rfl))
          have V6 := Lib.hid (hV5.out.far FS (fun h => by omega) (fun _ _ _ _ _ _ g _ _ _ hc hg => hc.elim fun cr hcr => own_other rn5 (by rw [hg]; rfl) hcr (by decide)))
          have hrl6 : RU w6 w6.heap.size Al l := RU.more (fun j hj => by
            obtain ⟨b', o', e, hb', h1, h2⟩ := hrl5 j hj
            have := hfl b' o' e
            exact ⟨b', o', e, hb', FS.cell h1 (by show ¬ b' = gn; omega), FS.cell h2 (by show ¬ b' = gn; omega)⟩) FS.size
          have F06 : Far (fun k => k = b ∨ k = g0 ∨ NB ≤ k) w w6 := F05.trans' FS (fun i _ h => .inr (.inr (by omega)))
          have hs6 := F06.size
          have hbd : ∀ x ∈ l, (0 ≤ x.1 ∧ x.1 ≤ 1024) ∧ 0 ≤ x.2 ∧ x.2 ≤ 1024 := fun x hx => by have := hlx.out x hx; omega
          have HLv := Lib.hid (leave24_any g0 b NB p n Al m cl l st _ v2 T w6 V6.out kM6 hg ro6 (by omega) hbN hst hln'.out hrl6 (fun g o e _ => by have := hfl g o e; omega) hbd (by omega) hp hn1)
          obtain ⟨L, hL⟩ : ∃ L, leaveF T p (n : Int) l = L := ⟨_, rfl⟩
          rw [hL] at HLv hR5
          clear hbd hL hV5 hrl5 F05 ro5 FS c5 kB5 fz kM5 hrl6 V6
          go_wp2_with fail
          refine HLv.out.mono ?_
          rintro e w9 ⟨rfl, v2', kM9, ro9, V9, F9⟩
          have rn9 := ownsRow_far hst5 F9 (fun g hg h => by
            rcases h with h | h | h
            · have := (hst5.lt g hg).1; omega
            · exact own_other hst5 (hg.trans (congrArg some h)) kM6 (by decide)
            · exact rows_apart hst5 ro6 (by decide) hg h)
          have F09 : Far (fun k => k = b ∨ k = g0 ∨ NB ≤ k) w w9 := F06.trans' F9 (fun i _ h => h.elim .inl (fun h => h.elim (fun h => .inr (.inl h)) (fun h => .inr (.inr (ro6.lt i h).1))))
          clear HLv kM6 ro6 F06 F9
          go_wp2_with fail
          go_ret
          refine ⟨R, rfl, ?_, ?_, F09⟩
          · rw [hR5.out]; rfl
          · rw [hR5.out]
            have e1 : movSt st p q n (L.1, true, L.1 != 0, L.2) = stayF st L.1 (p, n) := by
              unfold movSt stayF
              by_cases h : L.1 = 0 <;> simp [h]
            rw [e1, hmv.out]
            exact ⟨⟨v2', kM9, rn9, ro9⟩, V9⟩
end Go.Proofs.YtpabnbhbcphfiaaGreat
namespace Go.Pol
open Go
/-- page q: committed, live; group q: number, committed, live, huge -/
structure LookIs (cs : Array Value) (cm lv : Nat → Bool) (nm gc gl : Nat → Int) (gh : Nat → Bool) : Prop where
  size : cs.size = 2304
  cm : ∀ q, q < 1024 → cs[q * 2]? = some (.bool (cm q))
  lv : ∀ q, q < 1024 → cs[q * 2 + 1]? = some (.bool (lv q))
  nm : ∀ q, q < 64 → cs[2048 + q * 4]? = some (.int .i64 (nm q))
  gc : ∀ q, q < 64 → cs[2048 + q * 4 + 1]? = some (.int .i64 (gc q))
  gl : ∀ q, q < 64 → cs[2048 + q * 4 + 2]? = some (.int .i64 (gl q))
  gh : ∀ q, q < 64 → cs[2048 + q * 4 + 3]? = some (.bool (gh q))
end Go.Pol
namespace Go.Pol
open Go Go.RowKit
/-- strips 2^d values 'false' off a list -/
def strip : Nat → List Value → Option (List Value)
  | 0, .bool false :: r => some r
  | 0, _ => none
  | d + 1, l => match strip d l with
    | some r => strip d r
    | none => none
theorem strip_spec : ∀ (d : Nat) (l r : List Value), strip d l = some r → l = List.replicate (2 ^ d) (.bool false) ++ r
  | 0, l, r, h => by
    unfold strip at h
    split at h
    · cases h; rfl
    · cases h
    · rename_i h2 _ _; omega
  | d + 1, l, r, h => by
    rw [strip] at h
    split at h
    · rename_i r' h'
      have h1 := strip_spec d l r' h'
      have h2 := strip_spec d r' r h
      rw [h1, h2, ← List.append_assoc, List.replicate_append_replicate]
      rw [show 2 ^ d + 2 ^ d = 2 ^ (d + 1) by rw [Nat.pow_succ]; omega]
    · cases h
theorem RI.on {w w' : World} {A : Option Addr} {us : List Int} (h : RI w w.heap.size A us) (hb : Below w.heap.size w w')   : RI w' w'.heap.size A us := (h.below hb).more hb.size
end Go.Pol
namespace Go.Pol
open Go Go.RowKit
/-- a group: number, committed, live, huge -/
abbrev Gp := Int × Int × Int × Bool
theorem ext_get {cs : Array Value} {s e j : Nat} (h : j < min e cs.size - s) : (cs.extract s e)[j]? = cs[s + j]? := by
  rw [Array.getElem?_extract_of_lt h]; exact (Array.getElem?_eq_getElem _).symm
theorem LookIs.rangeAt {w : World} {b : Nat} {t : TypeId} {cs : Array Value} {cm lv : Nat → Bool} {nm gc gl : Nat → Int} {gh : Nat → Bool} (h : LookIs cs cm lv nm gc gl gh) (hb : Blk w b t cs) :
    w.rangeAt b 2048 (cs.extract 2048 2304).toList := fun j v hj => by
  rw [Array.getElem?_toList] at hj
  have hlt : j < 256 := by
    have := (Array.getElem?_eq_some_iff.1 hj).1
    simp [h.size] at this
    exact this
  rw [hb.cell, ← hj, ext_get (by rw [h.size]; omega)]
end Go.Pol
namespace Go.Pol
open Go Go.RowKit
def hugeP (g : Gp) : Bool := g.2.2.2
end Go.Pol
namespace Go.Proofs.YtpabnbhbcphfiaaGreat
open Go Go.Proofs Go.RowKit Go.Pol Go.Shelf
attribute [local go_sem] Oper.semAt_some Go.Pol.wide_fn Go.Pol.wide_depth Go.Pol.wide_fn' Go.Pol.wide_depth'

/-- the value of a state, and what its slices hold -/
structure StIs (w : World) (S : Value) (C L : List Sp) (H : List Int) : Prop where
  ex : ∃ (A1 A2 A3 : Option Addr) (n1 c1 n2 c2 n3 c3 : Nat), S = .agg #[.slice A1 n1 c1, .slice A2 n2 c2, .slice A3 n3 c3] ∧ C.length = n1 ∧ n1 ≤ maxLen ∧ RU w w.heap.size A1 C ∧
    L.length = n2 ∧ n2 ≤ maxLen ∧ RU w w.heap.size A2 L ∧ H.length = n3 ∧ n3 ≤ maxLen ∧ RI w w.heap.size A3 H
theorem StIs.on {w w' : World} {S : Value} {C L : List Sp} {H : List Int} (h : StIs w S C L H) (hb : Below w.heap.size w w') : StIs w' S C L H := by
  obtain ⟨A1, A2, A3, n1, c1, n2, c2, n3, c3, h0, h1, h2, h3, h4, h5, h6, h7, h8, h9⟩ := h.ex
  exact ⟨A1, A2, A3, n1, c1, n2, c2, n3, c3, h0, h1, h2, h3.on hb, h4, h5, h6.on hb, h7, h8, RI.on h9 hb⟩
/-- what a list of numbers and an error look like that are handed back -/
def IntsE (r : List Int × Int) (w : World) (e : Ending) (w' : World) : Prop := ∃ (A : Option Addr) (cap : Nat), e = .returned (.tuple #[.slice A r.1.length cap, .int .i64 r.2]) ∧ RI w' w'.heap.size A r.1 ∧ Below w.heap.size w w'
/-- such a list in memory of its own -/
def IntsN (r : List Int × Int) (w : World) (e : Ending) (w' : World) : Prop := ∃ (A : Option Addr) (cap : Nat), e = .returned (.tuple #[.slice A r.1.length cap, .int .i64 r.2]) ∧ RI w' w'.heap.size A r.1 ∧ (∀ b o, A = some ⟨b, o, none⟩ → w.heap.size ≤ b) ∧ Below w.heap.size w w'
theorem IntsN.e {r : List Int × Int} {w : World} {e : Ending} {w' : World} (h : IntsN r w e w') : IntsE r w e w' := by
  obtain ⟨A, cap, h1, h2, _, h4⟩ := h
  exact ⟨A, cap, h1, h2, h4⟩
end Go.Proofs.YtpabnbhbcphfiaaGreat
namespace Go.Pol
open Go Go.Proofs Go.RowKit
/-- the blocks afterwards, what stays, an error, and a system that has become this -/
def DoO (b : Nat) (r : List B3 × List Sp × Int × Vm) (w : World) (e : Ending) (w' : World) : Prop :=
  ∃ (A : Option Addr) (cap : Nat) (A' : Option Addr) (cap' : Nat), e = .returned (.tuple #[.slice A r.1.length cap, .slice A' r.2.1.length cap', .int .i64 r.2.2.1]) ∧ RT w' w'.heap.size A r.1 ∧ (∀ g o, A = some ⟨g, o, none⟩ → w.heap.size ≤ g) ∧ RU w' w'.heap.size A' r.2.1 ∧ (∀ g o, A' = some ⟨g, o, none⟩ → w.heap.size ≤ g) ∧ SysIs w' b r.2.2.2 ∧ Far (fun k => k = b) w w'
end Go.Pol
namespace Go.Proofs.YtpabnbhbcphfiaaGreat
open Go Go.Proofs Go.RowKit Go.Pol Go.Shelf
attribute [local go_sem] Oper.semAt_some Go.Pol.wide_fn Go.Pol.wide_depth Go.Pol.wide_fn' Go.Pol.wide_depth'

set_option maxRecDepth 100000 in
set_option maxHeartbeats 3200000 in
theorem do24_any (b : Nat) (pages : Int) (A M : Option Addr) (nb cb nm cm : Nat) (bs : List B3) (ms : List (Int × Int)) (V : Vm) (w : World) (hV : SysIs w b V) (hK : KindOk V) (hn : bs.length = nb) (hm : nb ≤ maxLen) (hz : A = none → cb = 0) (hr : RT w w.heap.size A bs) (hmn : ms.length = nm) (hmm : nm ≤ maxLen) (hru : RU w w.heap.size M ms)
    (hMb : ∀ g o, M = some ⟨g, o, none⟩ → 0 < nm → g ≠ b) :
    Calls Tryz.prog 27 #[.pointer (some ⟨b, 0, none⟩), .int .i64 pages, .slice A nb cb, .slice M nm cm] w (DoO b (doF V pages bs ms) w) := by
  have HC := Lib.hid (fun W h => counts_any b V W h hK)
  have HA := Lib.hid (fun W hr hru => after_any pages A M nb cb nm cm bs ms W hn hm hz hr hmn hmm hru)
  have hV0 := Lib.hid hV
  have hr0 := Lib.hid hr
  have hru0 := Lib.hid hru
  have hbs := hV.lt
  obtain ⟨R, hR⟩ : ∃ R, doF V pages bs ms = R := ⟨_, rfl⟩
  rw [hR]
  have hR' := Lib.hid hR
  have hn' := Lib.hid hn
  have hmn' := Lib.hid hmn
  clear hR hV hK hr hru hn hmn
  go_enter Tryz.func27, Tryz.ntmps27
  go_wp2_with fail
  refine (HC.out _ hV0.out).mono ?_
  rintro e w1 ⟨⟨cs, hcs, rfl⟩, hb1⟩
  obtain ⟨q, hq⟩ : ∃ q, w1.heap.size = q := ⟨_, rfl⟩
  have hsz := hcs.size
  have kz := Blk.new w1 163 #[.int .i64 0, .int .i64 0, .int .i64 0, .int .i64 0, .int .i64 0]
  rw [hq] at kz
  have ht : (w1.alloc (.cells #[.int .i64 0, .int .i64 0, .int .i64 0, .int .i64 0, .int .i64 0] 163)).there q 0 cs.size := by rw [hsz]; exact z_there kz 0 5 (by simp)
  have hF2 := Far.puts (T := fun k => k = q) rfl cs.toList 0 w1 _ ((Far.refl _ w1).alloc (.cells #[.int .i64 0, .int .i64 0, .int .i64 0, .int .i64 0, .int .i64 0] 163))
  have hone := Go.all_oneCell_toArray (hcs.one)
  rw [Array.toArray_toList] at hone
  have hinf : (Tryz.prog.info? 163).map (·.size) = some cs.size := by rw [hsz]; exact infoVc
  clear kz HC
  go_upto_region 2 with (refine wpList_store_mid rfl 163 (.tmp 11) (.tmp 28) rfl q 0 cs rfl rfl ht hinf hone ?_)
  generalize World.setCells _ q 0 _ = w2 at *
  have hb2 := hF2.below (n := w1.heap.size) (Nat.le_refl _) (fun k hk e => by omega)
  have B2 := hb1.trans (hb2.mono hb1.size)
  have r2 := hr0.out.on B2
  have ru2 := hru0.out.on B2
  clear hF2 ht hone hinf hcs hsz hb1 hb2
  go_wp2_with fail
  refine (HA.out _ r2 ru2).mono ?_
  rintro e w3 ⟨Aa, ca, rfl, _, hb3⟩
  have C3 := B2.trans (hb3.mono B2.size)
  have V3 := Lib.hid (hV0.out.call C3)
  have r3 := Lib.hid (hr0.out.on C3)
  have ru3 := Lib.hid (hru0.out.on C3)
  unfold doF at hR'
  have hsz3 := C3.size
  by_cases h0 : (afterB pages bs ms).2 = 0
  case neg =>
    have h0' : ((afterB pages bs ms).2 != 0) = true := by simpa using h0
    have hR2 : Hid (R = ([], [], (afterB pages bs ms).2, V)) := Lib.hid (by rw [← hR'.out, if_pos h0])
    generalize (afterB pages bs ms).2 = er at *
    clear HA r2 ru2 hR' h0
    go_wp2_with fail
    (try simp only [Exit.inBlock, Exit.then]); refine bodyPost_ret (results_tmp3 rfl _ _ _) rfl ?_
    rw [hR2.out]
    exact ⟨none, 0, none, 0, rfl, RT.nil, fun _ _ h => (by cases h), RU.nil, fun _ _ h => (by cases h), V3.out, .of_below C3⟩
  obtain ⟨hck, hml, hal⟩ := after_of h0
  obtain ⟨hp1, hnb, hins⟩ := chk_ins hck
  have hR2 : Hid (R = if downB V bs ms = true then ([], [], 9, V) else doL V bs [] ms) := Lib.hid (by rw [← hR'.out, if_neg (by simp [h0])])
  rw [h0]
  have hmem := Lib.hid (after_all ms bs hal)
  have hins' := Lib.hid hins
  have hal' := Lib.hid hal
  rw [hn'.out] at hnb
  rw [hmn'.out] at hml
  obtain ⟨D, hD⟩ : ∃ D, downB V bs ms = D := ⟨_, rfl⟩
  rw [hD] at hR2
  have hD' := Lib.hid hD
  have hB3 := Lib.hid C3
  clear HA r2 ru2 hR' h0 hck hal hins hD B2 hb3
  go_wp2_with fail
  go_loopw [45] (fun i wr => ∃ k : Nat, k ≤ nm ∧ i = .int .i64 k ∧ Hid (downB V bs (ms.drop k) = D) ∧ Below w3.heap.size w3 wr) (fun i _ => nm - (intOf i).toNat)
  case atStart => exact ⟨0, by omega, rfl, Lib.hid (by simpa using hD'.out), Below.refl _ _⟩
  case round =>
    clear hD'
    obtain ⟨k, hk, rfl, hdr, hB⟩ := hrel
    by_cases hlt : k < nm
    · have hlt' : decide ((k : Int) < (nm : Int)) = true := by simpa using hlt
      have hmn2 := hmn'.out
      have hn2 := hn'.out
      have hB3s := hsz3
      have hdc := hdr.out
      rw [drop_cons (0, 0) ms k (by omega), downB_cons] at hdc
      obtain ⟨rb, ro, rfl, hrb, c5, c6⟩ := (ru3.out.below hB).at_' (k := k) (by omega)
      have hxm := hmem.out (ms.getD k (0, 0)) (by rw [List.getD_eq_getElem?_getD, List.getElem?_eq_getElem (by omega)]; exact List.getElem_mem _)
      generalize ms.getD k (0, 0) = x at *
      obtain ⟨xk, xt⟩ := x
      simp only at hxm c5 c6
      obtain ⟨mk, rfl⟩ := Int.eq_ofNat_of_zero_le hxm.1
      have hbm : Hid (badM V bs ((mk : Int), xt) = (List.range (pw (bs.getD mk b0).2.1).toNat).any fun i => badB V ((bs.getD mk b0).1 + (i : Int))) := Lib.hid rfl
      obtain ⟨ab, ao, rfl, hab, p0, p1, _⟩ := (r3.out.below hB).at_ (k := mk) (by omega)
      have hib := ins_bounds hp1 (hins'.out (bs.getD mk b0) (by rw [List.getD_eq_getElem?_getD, List.getElem?_eq_getElem (by omega)]; exact List.getElem_mem _))
      generalize bs.getD mk b0 = blk at *
      obtain ⟨p, o, pin⟩ := blk
      simp only at p0 p1 hbm hib
      obtain ⟨n, hpn⟩ : ∃ n : Nat, pw o = (n : Int) := Int.eq_ofNat_of_zero_le (by have := pw_pos o; omega)
      have hn1 : n ≤ 1024 := by have := pw_le hib.1.2; omega
      have HSz := Lib.hid (fun W => size_any o W hib.1)
      rw [hpn] at HSz hbm
      rw [Int.toNat_natCast] at hbm
      have hmki : (mk : Int) < (nb : Int) := by omega
      have kx := Blk.new wr 152 #[.int .i64 (mk : Int), .int .i64 xt]
      have hbx : Below wr.heap.size wr (wr.alloc (.cells #[.int .i64 (mk : Int), .int .i64 xt] 152)) := (Below.refl _ _).alloc (Nat.le_refl _) _
      obtain ⟨gx, hgx⟩ : ∃ gx, wr.heap.size = gx := ⟨_, rfl⟩
      rw [hgx] at kx
      have hsB := hB.size
      have p05 := (hbx.cell (p := ⟨ab, ao + mk * 3, none⟩) (by show ab < wr.heap.size; omega)).trans p0
      have p15 := (hbx.cell (p := ⟨ab, ao + mk * 3 + 1, none⟩) (by show ab < wr.heap.size; omega)).trans p1
      have hdc' := Lib.hid hdc
      have cx := kx.cell
      clear hdr hdc hxm hpn
      go_upto_region 10 with fail
      have B5 : Below w3.heap.size w3 _ := hB.trans (hbx.mono hsB)
      generalize wr.alloc _ = w5 at *
      try simp only [hgx]
      clear hbx hB p0 p1 c5 c6
      go_wp2_with fail
      refine (HSz.out _).mono ?_
      rintro e w6 ⟨rfl, hw6⟩
      replace hw6 := hw6.symm
      subst hw6
      clear cx p15
      go_wp2_with fail
      go_loopw [56] (fun i wz => ∃ j : Nat, j ≤ n ∧ i = .int .i64 j ∧ Hid (∀ i : Nat, i < j → badB V (p + (i : Int)) = false) ∧ Below w5.heap.size w5 wz) (fun i _ => n - (intOf i).toNat)
      case atStart => exact ⟨0, by omega, rfl, Lib.hid (fun i hi => absurd hi (by omega)), Below.refl _ _⟩
      case round =>
        obtain ⟨j, hj, rfl, hall, hB6⟩ := hrel
        by_cases hlt2 : j < n
        · have hlt2' : decide ((j : Int) < (n : Int)) = true := by simpa using hlt2
          have kx6 := kx.call hB6
          have cx := kx6.cell
          have p06 := (hB6.cell (p := ⟨ab, ao + mk * 3, none⟩) (by show ab < w5.heap.size; have := B5.size; omega)).trans p05
          have V6 := V3.out.call (B5.trans (hB6.mono B5.size))
          have HKd := vkind_any b (p + (j : Int)) V wr V6
          obtain ⟨kd, hkd⟩ : ∃ kd, kindF V (p + (j : Int)) = kd := ⟨_, rfl⟩
          obtain ⟨hu, hhu⟩ : ∃ hu, hugeF V (p + (j : Int)) = hu := ⟨_, rfl⟩
          have hbd : Hid (badB V (p + (j : Int)) = ((kd == 0 || kd == 3) || hu)) := Lib.hid (by unfold badB; rw [hkd, hhu])
          unfold kindF at hkd
          unfold hugeF at hhu
          rw [hkd, hhu] at HKd
          generalize (if 0 ≤ p + (j : Int) ∧ p + (j : Int) < 1024 then (0 : Int) else 7) = er at HKd
          have HKd' := Lib.hid HKd
          clear hkd hhu HKd kx6
          go_wp2_with fail
          refine HKd'.out.mono ?_
          rintro e w7 ⟨rfl, hb7⟩
          have B7 := B5.trans ((hB6.trans (hb7.mono hB6.size)).mono B5.size)
          have Bw7 := hB3.out.trans (B7.mono hsz3)
          have V7 := V3.out.call B7
          have hbad : ((kd == 0 || kd == 3) || hu) = true → Hid (R = ([], [], 9, V)) := fun h => Lib.hid (by
            have hDt : D = true := by
              rw [← hdc'.out, hbm.out, Bool.or_eq_true]
              refine .inl (List.any_eq_true.2 ⟨j, List.mem_range.2 hlt2, ?_⟩)
              rw [hbd.out]; exact h
            rw [hR2.out, if_pos hDt])
          have hb67 := hB6.trans (hb7.mono hB6.size)
          clear HKd' cx p06 V6 hb7
          by_cases h1 : kd = 0
          · subst h1
            have hR3 := hbad (by simp)
            clear hbad
            go_wp2_with fail
            (try simp only [Exit.inBlock, Exit.then]); refine bodyPost_ret (results_tmp3 rfl _ _ _) rfl ?_
            rw [hR3.out]
            exact ⟨none, 0, none, 0, rfl, RT.nil, fun _ _ h => (by cases h), RU.nil, fun _ _ h => (by cases h), V7, .of_below Bw7⟩
          by_cases h2 : kd = 3
          · subst h2
            have hR3 := hbad (by simp)
            clear hbad
            go_wp2_with fail
            (try simp only [Exit.inBlock, Exit.then]); refine bodyPost_ret (results_tmp3 rfl _ _ _) rfl ?_
            rw [hR3.out]
            exact ⟨none, 0, none, 0, rfl, RT.nil, fun _ _ h => (by cases h), RU.nil, fun _ _ h => (by cases h), V7, .of_below Bw7⟩
          have h1' : (kd == 0) = false := by simpa using h1
          have h2' : (kd == 3) = false := by simpa using h2
          cases hu with
          | true =>
            have hR3 := hbad (by simp)
            clear hbad h1 h2
            go_wp2_with fail
            (try simp only [Exit.inBlock, Exit.then]); refine bodyPost_ret (results_tmp3 rfl _ _ _) rfl ?_
            rw [hR3.out]
            exact ⟨none, 0, none, 0, rfl, RT.nil, fun _ _ h => (by cases h), RU.nil, fun _ _ h => (by cases h), V7, .of_below Bw7⟩
          | false =>
            have hall2 : Hid (∀ i : Nat, i < j + 1 → badB V (p + (i : Int)) = false) := Lib.hid (fun i hi => by
              by_cases e : i = j
              · subst e
                rw [hbd.out, h1', h2']; rfl
              · exact hall.out i (by omega))
            clear hbad h1 h2 V7
            go_wp2_with fail
            go_roundw
            case rel => exact ⟨j + 1, by omega, by go_num, hall2, hb67⟩
            case measure => simp [intOf]; omega
        · obtain rfl : j = n := by omega
          have hlt2' : decide ((j : Int) < (j : Int)) = false := by simp
          have hnx : Hid (downB V bs (ms.drop (k + 1)) = D) := Lib.hid (by
            have := hdc'.out
            rw [hbm.out, List.any_eq_false.2 (fun i hi => by rw [hall.out i (List.mem_range.1 hi)]; decide), Bool.false_or] at this
            exact this)
          have B6 := B5.trans (hB6.mono B5.size)
          go_wp2_with fail
          go_roundw
          case rel => exact ⟨k + 1, by omega, by go_num, hnx, B6⟩
          case measure => simp [intOf]; omega
    · obtain rfl : k = nm := by omega
      have hlt' : decide ((k : Int) < (k : Int)) = false := by simp
      have hDf : D = false := by
        rw [← hdr.out, List.drop_of_length_le (by rw [hmn'.out]; exact Nat.le_refl _)]
        rfl
      have hR3 : Hid (R = doL V bs [] ms) := Lib.hid (by rw [hR2.out, hDf, if_neg (by decide)])
      obtain ⟨wA, rfl⟩ : ∃ wA, wA = wr := ⟨_, rfl⟩
      obtain ⟨NB, hNB⟩ : ∃ NB, wA.heap.size = NB := ⟨_, rfl⟩
      have BA := hB3.out.trans (hB.mono hsz3)
      have VA := Lib.hid (V3.out.call hB)
      have hsA := hB.size
      have HCl := Lib.hid (clone_anyV A nb cb bs wA hn'.out (by omega) hz ((r3.out.below hB).more hB.size))
      have ruA := Lib.hid (show RU wA w3.heap.size M ms from ru3.out.below hB)
      clear hR2 hdr hDf hB
      go_wp2_with fail
      refine HCl.out.mono ?_
      rintro e w6 ⟨vc, rfl, rn6, hb6⟩
      obtain ⟨Av, cv, rfl⟩ := own_slice rn6
      have B6 := BA.trans (hb6.mono BA.size)
      have V6 := VA.out.call hb6
      have hs6 := hb6.size
      rw [hNB] at rn6 hb6
      have kM := Blk.new w6 169 #[.pointer (some ⟨b, 0, none⟩), .slice Av nb cv, .slice none 0 0]
      have hbm : Below w6.heap.size w6 (w6.alloc (.cells #[.pointer (some ⟨b, 0, none⟩), .slice Av nb cv, .slice none 0 0] 169)) := (Below.refl _ _).alloc (Nat.le_refl _) _
      obtain ⟨g0, hg0⟩ : ∃ g0, w6.heap.size = g0 := ⟨_, rfl⟩
      rw [hg0] at kM
      have ru6 := ruA.out.below (hb6.mono (by omega))
      clear HCl ruA VA
      go_upto_region 19 with fail
      have V7 := V6.call hbm
      have rn7 := ownsRow_call rn6 hbm
      have B7 := B6.trans (hbm.mono B6.size)
      have ru7 := Lib.hid (ru6.below (hbm.mono (by omega)))
      have hs7 := hbm.size
      generalize w6.alloc _ = w7 at *
      try simp only [hg0]
      have hMv7 := Lib.hid (MovIs.mk (tm := 169) (tb := 65) (ts := 115) (g0 := g0) (b := b) (NB := NB) (A := Av) (nb := nb) (nc := cv) (bs := bs) (st := []) (V := V) (w := w7) ⟨_, kM, rn7, World.ownsRow_nil _ _ _ _⟩ V7)
      have B7' := Lib.hid B7
      have hbNB : b < NB := by omega
      have hgb : g0 ≠ b := by omega
      clear V6 rn6 B6 hb6 ru6 hbm kM rn7 V7 B7 BA
      go_wp2_with fail
      go_loopw [91] (fun i w5 => ∃ (j : Nat) (bk : List B3) (sk : List Sp) (U : Vm), j ≤ k ∧ i = .int .i64 j ∧ Hid (doL V bs [] ms = doL U bk sk (ms.drop j)) ∧ Hid ((afterL pages bk (ms.drop j)).2 = 0) ∧ Hid (∀ x ∈ bk, insB pages x.1 x.2.1 = true) ∧ Hid (bk.length = nb) ∧ sk.length ≤ j ∧ Hid (MovIs w5 169 65 115 g0 b NB Av nb cv bk sk U) ∧ Far (fun k => k = b ∨ k = g0 ∨ NB ≤ k) w7 w5) (fun i _ => k - (intOf i).toNat)
      case atStart => exact ⟨0, bs, [], V, by omega, rfl, Lib.hid (by simp), Lib.hid (by simpa using hal'.out), hins', hn', by simp, hMv7, Far.refl _ _⟩
      case round =>
        clear hMv7
        obtain ⟨j, bk, sk, U, hj, rfl, hdo, haf, hik, hbl, hsk, hMv, hF⟩ := hrel
        have hB7s := B7'.out.size
        by_cases hlt2 : j < k
        · have hlt2' : decide ((j : Int) < (k : Int)) = true := by simpa using hlt2
          have hmn2 := hmn'.out
          have hdo2 := hdo.out
          have haf2 := haf.out
          rw [drop_cons (0, 0) ms j (by omega), doL_cons] at hdo2
          rw [drop_cons (0, 0) ms j (by omega)] at haf2
          obtain ⟨rb, ro, rfl, hrb, c5, c6⟩ := ru7.out.at_' (k := j) (by omega)
          have hne := hMb _ _ rfl (by omega)
          have d5 := hF.cell c5 (by show ¬ (rb = b ∨ rb = g0 ∨ NB ≤ rb); omega)
          have d6 := hF.cell c6 (by show ¬ (rb = b ∨ rb = g0 ∨ NB ≤ rb); omega)
          generalize ms.getD j (0, 0) = x at *
          obtain ⟨xk, xt⟩ := x
          simp only at d5 d6
          obtain ⟨hps, haf3⟩ := after_cons haf2
          obtain ⟨hin, hit⟩ := poss_ins hps
          simp only at hin hit
          obtain ⟨mk, rfl⟩ := Int.eq_ofNat_of_zero_le hin.1
          have hbl2 := hbl.out
          have hit2 := ins_bounds hp1 hit
          have hib := ins_bounds hp1 (hik.out (bk.getD mk b0) (by rw [List.getD_eq_getElem?_getD, List.getElem?_eq_getElem (by omega)]; exact List.getElem_mem _))
          have hik2 := Lib.hid (ins_mov hps hik.out)
          have hmkn : mk < nb := by omega
          obtain ⟨v2, kMk, rnk, rok⟩ := hMv.out.ex
          obtain ⟨gn, cq, e3, _⟩ := rnk.form (by omega)
          have eA : Av = some ⟨gn, 0, none⟩ := by injection e3
          subst eA
          clear e3
          have Vk := hMv.out.sys
          have kx := Blk.new wr 152 #[.int .i64 (mk : Int), .int .i64 xt]
          have hbx : Below wr.heap.size wr (wr.alloc (.cells #[.int .i64 (mk : Int), .int .i64 xt] 152)) := (Below.refl _ _).alloc (Nat.le_refl _) _
          obtain ⟨gx, hgx⟩ : ∃ gx, wr.heap.size = gx := ⟨_, rfl⟩
          rw [hgx] at kx
          have cx := kx.cell
          have hsr := hF.size
          have haf4 := Lib.hid haf3
          have hdo3 := Lib.hid hdo2
          clear hps hin hit haf2 haf3 hdo2 c5 c6 hdo haf
          go_upto_region 22 with fail
          have kM5 := kMk.call hbx
          have rn5 := ownsRow_call rnk hbx
          have ro5 := ownsRow_call rok hbx
          have V5 := Vk.call hbx
          have hF5 : Far (fun k => k = b ∨ k = g0 ∨ NB ≤ k) w7 _ := hF.trans (.of_below hbx)
          generalize wr.alloc _ = w5 at *
          try simp only [hgx]
          have hs5 := hF5.size
          have HMv := Lib.hid (move24_any g0 b NB gn cv nb mk xt bk sk v2 U w5 V5 kM5 hgb rn5 hbl2 ro5 (by omega) hbNB (by omega) hmkn hib.2 hib.1 hit2.2)
          clear kMk rnk rok Vk hMv hbx hF d5 d6 kM5 rn5 ro5 V5
          go_wp2_with fail
          refine HMv.out.mono ?_
          rintro e w8 ⟨r, hr, rfl, hM8, F8⟩
          have hF8 := hF5.trans F8
          have hmm : moveM U bk ((mk : Int), xt) = r := by rw [hr]; rfl
          rw [hmm] at hdo3
          obtain ⟨re, rt, rs, rV⟩ := r
          simp only at hdo3 hM8
          have hbl3 : Hid ((movBs bk mk xt (re, rt, rs, rV)).length = nb) := Lib.hid (by
            unfold movBs
            split
            · rw [List.length_set]; exact hbl2
            · exact hbl2)
          have hbo : re = 0 → movBs bk mk xt (re, rt, rs, rV) = movB bk ((mk : Int), xt) := fun h => by
            have := moveM_ok (V := U) (bs := bk) (m := ((mk : Int), xt)) (by rw [hmm]; exact h)
            rw [hmm] at this
            exact this
          have hsl : (movSt sk (bk.getD mk b0).1 xt (pw (bk.getD mk b0).2.1) (re, rt, rs, rV)).length ≤ sk.length + 1 := by
            unfold movSt
            split
            · rw [List.length_append]; exact Nat.le_refl _
            · omega
          rw [Int.toNat_natCast] at hdo3
          generalize movSt sk (bk.getD mk b0).1 xt (pw (bk.getD mk b0).2.1) (re, rt, rs, rV) = sk2 at *
          generalize movBs bk mk xt (re, rt, rs, rV) = bk2 at *
          have hM8' := Lib.hid hM8
          clear HMv hr hmm hM8 F8 hF5 kx cx
          by_cases hj2 : re = 0
          · subst hj2
            rw [if_neg (by simp)] at hdo3
            have hdo4 : Hid (doL V bs [] ms = doL rV bk2 sk2 (ms.drop (j + 1))) := Lib.hid hdo3
            have hb2 := hbo rfl
            have haf5 : Hid ((afterL pages bk2 (ms.drop (j + 1))).2 = 0) := Lib.hid (by rw [hb2]; exact haf4.out)
            have hik3 : Hid (∀ x ∈ bk2, insB pages x.1 x.2.1 = true) := Lib.hid (by rw [hb2]; exact hik2.out)
            clear hdo3 hbo hb2
            go_wp2_with fail
            go_roundw
            case rel => exact ⟨j + 1, bk2, sk2, rV, by omega, by go_num, hdo4, haf5, hik3, hbl3, by omega, hM8', hF8⟩
            case measure => simp [intOf]; omega
          · have hj2' : (re != 0) = true := by simpa using hj2
            rw [if_pos hj2] at hdo3
            have hR4 : Hid (R = (bk2, sk2, re, rV)) := Lib.hid (by rw [hR3.out, hdo3])
            obtain ⟨v8, kM8, rn8, ro8⟩ := hM8'.out.ex
            have V8 := hM8'.out.sys
            obtain ⟨A8, c8, e8, rt8, _, _, hft8, _⟩ := own_RT rn8 hbl3.out
            simp only [Value.slice.injEq] at e8
            obtain ⟨rfl, _, rfl⟩ := e8
            obtain ⟨A9, c9, rfl, ru9, _, _, hfu9, _⟩ := own_RU ro8 rfl
            have e0 := fun x : Ext w8 => (x.blk kM8).cell
            have FF : Far (fun k => k = b) w w8 := (Far.of_below B7'.out : Far (fun k => k = b) w w7).trans' hF8 (fun i hi h => by
              rcases h with h | h | h
              · exact h
              · omega
              · omega)
            clear hdo3 hbo
            go_upto_region 24 with fail
            refine region_ext (by kernel_rfl) (by kernel_rfl) ?_
            repeat (go_big_quiet_step (fail))
            refine wpQuiet_nil ?_
            rintro w9 ⟨⟨_, hw9⟩, rfl⟩
            go_wp2_with fail
            (try simp only [Exit.inBlock, Exit.then]); refine bodyPost_ret (results_tmp3 rfl _ _ _) rfl ?_
            rw [hR4.out]
            exact ⟨_, _, A9, c9, by rw [hbl3.out]; rfl, rt8.on hw9, fun g o e => by have := hft8 g o e; omega, ru9.on hw9, fun g o e => by have := hfu9 g o e; omega, V8.call hw9, FF.trans (.of_below hw9)⟩
        · obtain rfl : j = k := by omega
          have hlt2' : decide ((j : Int) < (j : Int)) = false := by simp
          have hR4 : Hid (R = (bk, sk, 0, U)) := Lib.hid (by
            rw [hR3.out, hdo.out, List.drop_of_length_le (by rw [hmn'.out]; exact Nat.le_refl _)]
            rfl)
          obtain ⟨v8, kM8, rn8, ro8⟩ := hMv.out.ex
          have V8 := hMv.out.sys
          obtain ⟨A8, c8, e8, rt8, _, _, hft8, _⟩ := own_RT rn8 hbl.out
          simp only [Value.slice.injEq] at e8
          obtain ⟨rfl, _, rfl⟩ := e8
          obtain ⟨A9, c9, rfl, ru9, _, _, hfu9, _⟩ := own_RU ro8 rfl
          have e0 := fun x : Ext wr => (x.blk kM8).cell
          have FF : Far (fun k => k = b) w wr := (Far.of_below B7'.out : Far (fun k => k = b) w w7).trans' hF (fun i hi h => by
            rcases h with h | h | h
            · exact h
            · omega
            · omega)
          clear hdo hMv
          go_upto_region 26 with fail
          refine region_ext (by kernel_rfl) (by kernel_rfl) ?_
          repeat (go_big_quiet_step (fail))
          refine wpQuiet_nil ?_
          rintro w9 ⟨⟨_, hw9⟩, rfl⟩
          go_wp2_with fail
          (try simp only [Exit.inBlock, Exit.then]); refine bodyPost_ret (results_tmp3 rfl _ _ _) rfl ?_
          rw [hR4.out]
          exact ⟨_, _, A9, c9, by rw [hbl.out]; rfl, rt8.on hw9, fun g o e => by have := hft8 g o e; omega, ru9.on hw9, fun g o e => by have := hfu9 g o e; omega, V8.call hw9, FF.trans (.of_below hw9)⟩
end Go.Proofs.YtpabnbhbcphfiaaGreat
namespace Go.Pol
/-! the blocks while moves are made -/
theorem getD_set (cs : List B3) (i j : Nat) (x : B3) (hi : i < cs.length) : (cs.set i x).getD j b0 = if i = j then x else cs.getD j b0 := by
  simp only [List.getD_eq_getElem?_getD, List.getElem?_set]
  by_cases e : i = j
  · subst e; simp [hi]
  · simp [e]
theorem memD {cs : List B3} {k : Nat} (h : k < cs.length) : cs.getD k b0 ∈ cs := by
  rw [List.getD_eq_getElem?_getD, List.getElem?_eq_getElem h]; simp
theorem memI {cs : List B3} {c : B3} (h : c ∈ cs) : ∃ k, k < cs.length ∧ cs.getD k b0 = c := by
  obtain ⟨k, hk, rfl⟩ := List.mem_iff_getElem.1 h
  exact ⟨k, hk, by rw [List.getD_eq_getElem?_getD, List.getElem?_eq_getElem hk]; rfl⟩
theorem possB_zero {pages : Int} {cs : List B3} {mv : Int × Int} (h : possB pages cs mv = 0) : (0 ≤ mv.1 ∧ mv.1 < cs.length) ∧ (cs.getD mv.1.toNat b0).2.2 = false ∧ insB pages mv.2 (cs.getD mv.1.toNat b0).2.1 = true ∧ ∀ c ∈ cs, overB c (mv.2, (cs.getD mv.1.toNat b0).2.1, false) = false := by
  unfold possB at h
  by_cases h1 : mv.1 < 0 ∨ (cs.length : Int) ≤ mv.1
  · rw [if_pos h1] at h; omega
  · rw [if_neg h1] at h
    by_cases h2 : (cs.getD mv.1.toNat b0).2.2 = true
    · rw [if_pos h2] at h; omega
    · rw [if_neg h2] at h
      by_cases h3 : insB pages mv.2 (cs.getD mv.1.toNat b0).2.1 = false
      · rw [if_pos h3] at h; omega
      · rw [if_neg h3] at h
        by_cases h4 : cs.any (fun c => overB c (mv.2, (cs.getD mv.1.toNat b0).2.1, false)) = true
        · rw [if_pos h4] at h; omega
        · refine ⟨by omega, by simpa using h2, by simpa using h3, fun c hc => ?_⟩
          cases ho : overB c (mv.2, (cs.getD mv.1.toNat b0).2.1, false) with
          | false => rfl
          | true => exact absurd (List.any_eq_true.2 ⟨c, hc, ho⟩) h4
theorem overB_last (a b c : B3) (h1 : b.1 = c.1) (h2 : b.2.1 = c.2.1) : overB a b = overB a c := by unfold overB; rw [h1, h2]
theorem apart_sym {pages : Int} {cs : List B3} (ok : okB pages cs) {i j : Nat} (hi : i < cs.length) (hj : j < cs.length) (hne : i ≠ j) : overB (cs.getD i b0) (cs.getD j b0) = false := by
  rcases Nat.lt_or_gt_of_ne hne with h | h
  · rw [overB_comm]; exact ok.apart j i hj h
  · exact ok.apart i j hi h
/-- blocks stay in order where a move is possible -/
theorem okB_mov {pages : Int} {cs : List B3} {mv : Int × Int} (ok : okB pages cs) (h : possB pages cs mv = 0) : okB pages (movB cs mv) := by
  obtain ⟨⟨h0, h1⟩, _, h3, h4⟩ := possB_zero h
  have hi : mv.1.toNat < cs.length := by omega
  unfold movB
  have hov : ∀ j, j < cs.length → overB (cs.getD j b0) (mv.2, (cs.getD mv.1.toNat b0).2) = false := fun j hj => by
    exact (overB_last _ (mv.2, (cs.getD mv.1.toNat b0).2) (mv.2, (cs.getD mv.1.toNat b0).2.1, false) rfl rfl).trans (h4 _ (memD hj))
  refine ⟨ok.space, by rw [List.length_set]; exact ok.len, fun b hb => ?_, fun i k hi' hk => ?_⟩
  · rcases List.mem_or_eq_of_mem_set hb with hb | hb
    · exact ok.ins b hb
    · subst hb; exact h3
  · rw [List.length_set] at hi'
    rw [getD_set _ _ _ _ hi, getD_set _ _ _ _ hi]
    by_cases e1 : mv.1.toNat = i
    · rw [if_pos e1]
      by_cases e2 : mv.1.toNat = k
      · omega
      · rw [if_neg e2, overB_comm]; exact hov k (by omega)
    · rw [if_neg e1]
      by_cases e2 : mv.1.toNat = k
      · rw [if_pos e2]; exact hov i hi'
      · rw [if_neg e2]; exact ok.apart i k hi' hk
/-- pages of a block -/
def inBV (b : B3) (k : Nat) : Prop := b.1 ≤ (k : Int) ∧ (k : Int) < b.1 + pw b.2.1
end Go.Pol
namespace Go.Pol
open Go Go.Proofs Go.RowKit
/-- what a change makes of the pages: nothing, or all that it names -/
theorem makeF_cases (V : Vm) (a n : Int) (call : Nat) (pr : Pg → Bool) (fd : Pg → Pg) :
    ((makeF V a n call pr fd).1 ≠ 0 ∧ (makeF V a n call pr fd).2.pg = V.pg) ∨
    ((makeF V a n call pr fd).1 = 0 ∧ 0 ≤ a ∧ 1 ≤ n ∧ a + n ≤ 1024 ∧ (∀ p : Nat, a ≤ p → (p : Int) < a + n → pr (V.pg p) = true) ∧
      ∀ p : Nat, (makeF V a n call pr fd).2.pg p = if a ≤ p ∧ (p : Int) < a + n then fd (V.pg p) else V.pg p) := by
  unfold makeF
  by_cases h1 : n < 1 ∨ a < 0 ∨ 1024 ≤ a ∨ 1024 - a < n
  · rw [if_pos h1]; exact .inl ⟨(by decide : (7 : Int) ≠ 0), rfl⟩
  · rw [if_neg h1]
    by_cases h2 : allP V a.toNat n.toNat pr = false
    · rw [if_pos h2]; exact .inl ⟨(by decide : (9 : Int) ≠ 0), rfl⟩
    · rw [if_neg h2]
      rw [Bool.not_eq_false] at h2
      by_cases h3 : refB V.rf call = true
      · rw [if_pos h3]; exact .inl ⟨(by decide : (60 : Int) ≠ 0), rfl⟩
      · rw [if_neg h3]
        refine .inr ⟨rfl, by omega, by omega, by omega, fun p p1 p2 => allP_iff.1 h2 p (by omega) (by omega), fun p => ?_⟩
        show (if _ then _ else _) = _
        by_cases h4 : a ≤ p ∧ (p : Int) < a + n
        · rw [if_pos h4, if_pos (by omega)]; rfl
        · rw [if_neg h4, if_neg (by omega)]; rfl
end Go.Pol
namespace Go.Pol
open Go Go.RowKit

theorem mem_snocS (i : Int) (x : Sp) : ∀ l : List Sp, mem i (l ++ [x]) = (mem i l || (decide (x.1 ≤ i) && decide (i < x.1 + x.2)))
  | [] => by rw [List.nil_append, mem_cons, mem_nil, Bool.or_false, Bool.false_or]
  | y :: r => by rw [List.cons_append, mem_cons, mem_cons, mem_snocS i x r, Bool.or_assoc]
/-- the runs say which pages are committed -/
theorem runsM_mem (V : Vm) (p i : Int) : ∀ n, mem i (runsM V p n).1 = true ↔ (0 ≤ i ∧ i < (n : Int)) ∧ kindF V (p + i) = 2
  | 0 => by
    constructor
    · intro h; cases h
    · rintro ⟨h, _⟩; omega
  | n + 1 => by
    have ih := runsM_mem V p i n
    have hi := runsM_inv V p n
    rw [runsM_succ]
    by_cases hk : kindF V (p + (n : Int)) = 2
    · rw [if_neg (by simpa using hk)]
      by_cases hs : (runsM V p n).2 = true
      · rw [if_pos hs]
        obtain ⟨l, x, e, hx⟩ := hi.2.2 hs
        have hb := hi.2.1 x (by rw [e]; simp)
        simp only
        rw [e, bumpS_snoc, mem_snocS]
        rw [e, mem_snocS] at ih
        simp only [Bool.or_eq_true, Bool.and_eq_true, decide_eq_true_eq] at ih ⊢
        constructor
        · rintro (h | ⟨h1, h2⟩)
          · have := ih.1 (.inl h)
            exact ⟨by omega, this.2⟩
          · by_cases he : i = (n : Int)
            · rw [he]; exact ⟨by omega, hk⟩
            · have := ih.1 (.inr ⟨h1, by omega⟩)
              exact ⟨by omega, this.2⟩
        · rintro ⟨h1, h2⟩
          by_cases he : i = (n : Int)
          · exact .inr ⟨by omega, by omega⟩
          · rcases ih.2 ⟨by omega, h2⟩ with h | ⟨h, h'⟩
            · exact .inl h
            · exact .inr ⟨h, by omega⟩
      · rw [if_neg hs]
        simp only
        rw [mem_snocS, Bool.or_eq_true, ih]
        simp only [Bool.and_eq_true, decide_eq_true_eq]
        constructor
        · rintro (⟨h1, h2⟩ | ⟨h1, h2⟩)
          · exact ⟨by omega, h2⟩
          · have : i = (n : Int) := by omega
            rw [this]; exact ⟨by omega, hk⟩
        · rintro ⟨h1, h2⟩
          by_cases he : i = (n : Int)
          · exact .inr ⟨by omega, by omega⟩
          · exact .inl ⟨by omega, h2⟩
    · rw [if_pos hk]
      simp only
      rw [ih]
      constructor
      · rintro ⟨h1, h2⟩; exact ⟨by omega, h2⟩
      · rintro ⟨h1, h2⟩
        refine ⟨⟨h1.1, ?_⟩, h2⟩
        by_cases he : i = (n : Int)
        · rw [he] at h2; exact absurd h2 hk
        · omega
theorem bec_out (V : Vm) (a n : Int) (call : Nat) (fr tk : Int) (y : Nat) (h : ¬ (a ≤ y ∧ (y : Int) < a + n)) : (bec V a n call fr tk).2.pg y = V.pg y := by
  rcases makeF_cases V a n call (fun g => g.kind == fr && !g.huge) (fun _ => newPg tk) with ⟨_, h2⟩ | ⟨_, _, _, _, _, h4⟩
  · unfold bec; rw [h2]
  · unfold bec; rw [h4, if_neg h]
/-- runs committed: which pages are now -/
theorem cmF_pg (q : Int) : ∀ (l : List Sp) (V : Vm) (y : Nat), (cmF q l V).2.2.pg y = if mem ((y : Int) - q) (l.take (cmF q l V).1) = true then newPg 2 else V.pg y
  | [], V, y => by simp [cmF, mem_nil]
  | x :: r, V, y => by
    unfold cmF
    rcases makeF_cases V (q + x.1) x.2 2 (fun g => g.kind == 1 && !g.huge) (fun _ => newPg 2) with ⟨h1, h2⟩ | ⟨h1, h0, _, h2, h3, h4⟩
    · have h1' : ¬ (bec V (q + x.1) x.2 2 1 2).1 = 0 := h1
      rw [if_neg h1']
      have e : mem ((y : Int) - q) (List.take 0 (x :: r)) = false := rfl
      show (bec V (q + x.1) x.2 2 1 2).2.pg y = if mem ((y : Int) - q) (List.take 0 (x :: r)) = true then newPg 2 else V.pg y
      rw [if_neg (by rw [e]; decide)]
      unfold bec; rw [h2]
    · have h1' : (bec V (q + x.1) x.2 2 1 2).1 = 0 := h1
      have h4' : ∀ y : Nat, (bec V (q + x.1) x.2 2 1 2).2.pg y = if q + x.1 ≤ y ∧ (y : Int) < q + x.1 + x.2 then newPg 2 else V.pg y := h4
      rw [if_pos h1']
      simp only
      rw [cmF_pg q r _ y, h4', List.take_succ_cons, mem_cons]
      by_cases c1 : mem ((y : Int) - q) (r.take (cmF q r (bec V (q + x.1) x.2 2 1 2).2).1) = true
      · rw [if_pos c1, if_pos (by rw [c1, Bool.or_true])]
      · rw [if_neg c1]
        rw [Bool.not_eq_true] at c1
        rw [c1, Bool.or_false]
        by_cases c2 : q + x.1 ≤ y ∧ (y : Int) < q + x.1 + x.2
        · rw [if_pos c2, if_pos (by simp; omega)]
        · rw [if_neg c2, if_neg (by simp; omega)]
theorem cmF_all (q : Int) : ∀ (l : List Sp) (V : Vm), (cmF q l V).2.1 = 0 → (cmF q l V).1 = l.length
  | [], _, _ => rfl
  | x :: r, V, h => by
    unfold cmF at h ⊢
    by_cases h1 : (bec V (q + x.1) x.2 2 1 2).1 = 0
    · rw [if_pos h1] at h ⊢
      simp only at h ⊢
      rw [cmF_all q r _ h, List.length_cons]
    · rw [if_neg h1] at h; exact absurd h h1
theorem memT : ∀ {l : List Sp} {n : Nat} {p : Int}, mem p (l.take n) = true → mem p l = true
  | [], n, p, h => by simpa using h
  | x :: r, 0, p, h => by cases h
  | x :: r, n + 1, p, h => by
    rw [List.take_succ_cons] at h
    rcases mem_cons'.1 h with h | h
    · exact mem_cons'.2 (.inl h)
    · exact mem_cons'.2 (.inr (memT h))
/-- a place left: nothing else changes -/
theorem errs_out (p : Int) (y : Nat) : ∀ (l : List Sp) (s : List Int × Vm), mem ((y : Int) - p) l = false → (l.foldl (errsS p) s).2.pg y = s.2.pg y
  | [], _, _ => rfl
  | x :: r, s, h => by
    rw [mem_cons, Bool.or_eq_false_iff] at h
    rw [List.foldl_cons, errs_out p y r _ h.2]
    refine bec_out _ _ _ _ _ _ _ (fun hc => ?_)
    have := h.1
    simp only [Bool.and_eq_false_iff, decide_eq_false_iff_not] at this
    omega
theorem leave_out (V : Vm) (p n : Int) (l : List Sp) (y : Nat) (h : ¬ (p ≤ y ∧ (y : Int) < p + n)) (hl : mem ((y : Int) - p) l = false) : (leaveF V p n l).2.pg y = V.pg y := by
  show (bec (errsF V p l).2 p n 1 1 0).2.pg y = _
  rw [bec_out _ _ _ _ _ _ _ h]
  exact errs_out p y l ([], V) hl
theorem mem_rev (i : Int) (l : List Sp) : mem i l.reverse = mem i l := by
  induction l with
  | nil => rfl
  | cons x r ih => rw [List.reverse_cons, mem_snocS, ih, mem_cons, Bool.or_comm]
/-- bytes copied -/
theorem copyF_spec (V : Vm) (P Q n : Int) (hP : 0 ≤ P ∧ P + n ≤ 1024) (hQ : 0 ≤ Q ∧ Q + n ≤ 1024) (hd : P + n ≤ Q ∨ Q + n ≤ P)
    (h1 : ∀ y : Nat, P ≤ y → (y : Int) < P + n → (V.pg y).kind = 2) (h2 : ∀ y : Nat, Q ≤ y → (y : Int) < Q + n → (V.pg y).kind = 2) : ∀ m : Nat, (m : Int) ≤ n * 64 →
    ∀ y : Nat, ((copyF V (P * 64) (Q * 64) m).pg y).kind = (V.pg y).kind ∧ ((copyF V (P * 64) (Q * 64) m).pg y).huge = (V.pg y).huge ∧
      ∀ j : Nat, j < 64 → ((copyF V (P * 64) (Q * 64) m).pg y).byt j = if Q * 64 ≤ (y : Int) * 64 + j ∧ (y : Int) * 64 + j < Q * 64 + m then (V.pg ((y : Int) + P - Q).toNat).byt j else (V.pg y).byt j
  | 0, _, y => ⟨rfl, rfl, fun j hj => by rw [if_neg (by omega)]; rfl⟩
  | m + 1, hm, y => by
    have ih := copyF_spec V P Q n hP hQ hd h1 h2 m (by omega)
    rw [copyF]
    generalize copyF V (P * 64) (Q * 64) m = W at *
    obtain ⟨a, ha, b, hb, hb64⟩ : ∃ a : Nat, a = m / 64 ∧ ∃ b : Nat, b = m % 64 ∧ b < 64 := ⟨m / 64, rfl, m % 64, rfl, by omega⟩
    have hmab : (m : Int) = 64 * (a : Int) + b := by omega
    obtain ⟨pm, hpm⟩ : ∃ pm : Nat, (pm : Int) = P + a := ⟨(P + a).toNat, by omega⟩
    obtain ⟨qm, hqm⟩ : ∃ qm : Nat, (qm : Int) = Q + a := ⟨(Q + a).toNat, by omega⟩
    have e1 : (P * 64 + (m : Int)) / 64 = (pm : Int) := by omega
    have e2 : (P * 64 + (m : Int)) % 64 = (b : Int) := by omega
    have e3 : (Q * 64 + (m : Int)) / 64 = (qm : Int) := by omega
    have e4 : (Q * 64 + (m : Int)) % 64 = (b : Int) := by omega
    have hw1 : whF W (P * 64 + m) = 0 := by
      unfold whF
      rw [if_neg (by omega), e1, Int.toNat_natCast, (ih pm).1, h1 pm (by omega) (by omega)]
      simp
    have hw2 : whF W (Q * 64 + m) = 0 := by
      unfold whF
      rw [if_neg (by omega), e3, Int.toNat_natCast, (ih qm).1, h2 qm (by omega) (by omega)]
      simp
    have hr : readF W (P * 64 + m) = (V.pg pm).byt b := by
      unfold readF
      rw [if_pos hw1, e1, e2, Int.toNat_natCast, Int.toNat_natCast, (ih pm).2.2 b hb64, if_neg (by omega)]
    have hwr : writeF W (Q * 64 + m) (readF W (P * 64 + m)) = W.setP qm ((W.pg qm).byteP b ((V.pg pm).byt b)) := by
      unfold writeF
      rw [if_pos hw2, e3, e4, Int.toNat_natCast, Int.toNat_natCast, hr]
    rw [hwr]
    obtain ⟨i1, i2, i3⟩ := ih y
    by_cases e : y = qm
    · subst e
      have ep : (W.setP y ((W.pg y).byteP b ((V.pg pm).byt b))).pg y = (W.pg y).byteP b ((V.pg pm).byt b) := by
        show (if _ then _ else _) = _
        rw [if_pos rfl]
      rw [ep]
      refine ⟨i1, i2, fun j hj => ?_⟩
      show (if j = b then (V.pg pm).byt b else (W.pg y).byt j) = _
      by_cases ej : j = b
      · subst ej
        rw [if_pos rfl, if_pos (by omega), show ((y : Int) + P - Q).toNat = pm by omega]
      · rw [if_neg ej, i3 j hj]
        by_cases hc : Q * 64 ≤ (y : Int) * 64 + j ∧ (y : Int) * 64 + j < Q * 64 + m
        · rw [if_pos hc, if_pos (by omega)]
        · rw [if_neg hc, if_neg (by omega)]
    · have ep : (W.setP qm ((W.pg qm).byteP b ((V.pg pm).byt b))).pg y = W.pg y := by
        show (if _ then _ else _) = _
        rw [if_neg e]
      rw [ep]
      refine ⟨i1, i2, fun j hj => ?_⟩
      rw [i3 j hj]
      by_cases hc : Q * 64 ≤ (y : Int) * 64 + j ∧ (y : Int) * 64 + j < Q * 64 + m
      · rw [if_pos hc, if_pos (by omega)]
      · rw [if_neg hc, if_neg (by omega)]
/-- the bytes of runs copied -/
theorem copyL_spec (V : Vm) (p q n : Int) (hp : 0 ≤ p ∧ p + n ≤ 1024) (hq : 0 ≤ q ∧ q + n ≤ 1024) (hd : p + n ≤ q ∨ q + n ≤ p) : ∀ (l : List Sp), (∀ x ∈ l, 0 ≤ x.1 ∧ 1 ≤ x.2 ∧ x.1 + x.2 ≤ n) →
    (∀ i : Int, mem i l = true → (V.pg (p + i).toNat).kind = 2 ∧ (V.pg (q + i).toNat).kind = 2) → ∀ (W : Vm) (D : List Sp), (∀ y : Nat, (W.pg y).kind = (V.pg y).kind ∧ (W.pg y).huge = (V.pg y).huge ∧
      ∀ j : Nat, j < 64 → (W.pg y).byt j = if q ≤ y ∧ (y : Int) < q + n ∧ mem ((y : Int) - q) D = true then (V.pg ((y : Int) + p - q).toNat).byt j else (V.pg y).byt j) →
    ∀ y : Nat, ((l.foldl (copyS p q) W).pg y).kind = (V.pg y).kind ∧ ((l.foldl (copyS p q) W).pg y).huge = (V.pg y).huge ∧
      ∀ j : Nat, j < 64 → ((l.foldl (copyS p q) W).pg y).byt j = if q ≤ y ∧ (y : Int) < q + n ∧ (mem ((y : Int) - q) D || mem ((y : Int) - q) l) = true then (V.pg ((y : Int) + p - q).toNat).byt j else (V.pg y).byt j
  | [], _, _, W, D, hW, y => by
    obtain ⟨a, b, c⟩ := hW y
    refine ⟨a, b, fun j hj => ?_⟩
    rw [mem_nil, Bool.or_false]; exact c j hj
  | x :: r, hx, hk, W, D, hW, y => by
    obtain ⟨x1, x2, x3⟩ := hx x (by simp)
    have hsp := copyF_spec W (p + x.1) (q + x.1) x.2 (by omega) (by omega) (by omega)
      (fun z h1 h2 => by
        rw [(hW z).1]
        have := (hk ((z : Int) - p) (by rw [mem_cons, Bool.or_eq_true]; exact .inl (by simp; omega))).1
        rwa [show (p + ((z : Int) - p)).toNat = z by omega] at this)
      (fun z h1 h2 => by
        rw [(hW z).1]
        have := (hk ((z : Int) - q) (by rw [mem_cons, Bool.or_eq_true]; exact .inl (by simp; omega))).2
        rwa [show (q + ((z : Int) - q)).toNat = z by omega] at this)
      (x.2 * 64).toNat (by omega)
    have hst : ∀ z : Nat, ((copyS p q W x).pg z).kind = (V.pg z).kind ∧ ((copyS p q W x).pg z).huge = (V.pg z).huge ∧
        ∀ j : Nat, j < 64 → ((copyS p q W x).pg z).byt j = if q ≤ z ∧ (z : Int) < q + n ∧ mem ((z : Int) - q) (D ++ [x]) = true then (V.pg ((z : Int) + p - q).toNat).byt j else (V.pg z).byt j := fun z => by
      obtain ⟨a, b, c⟩ := hsp z
      obtain ⟨a', b', c'⟩ := hW z
      refine ⟨a.trans a', b.trans b', fun j hj => ?_⟩
      unfold copyS
      rw [c j hj, mem_snocS]
      by_cases hc : q + x.1 ≤ (z : Int) ∧ (z : Int) < q + x.1 + x.2
      · rw [if_pos (by omega), if_pos ⟨by omega, by omega, by rw [Bool.or_eq_true]; exact .inr (by simp; omega)⟩]
        have hz : ((z : Int) + (p + x.1) - (q + x.1)).toNat = ((z : Int) + p - q).toNat := by omega
        rw [hz, (hW _).2.2 j hj, if_neg (by omega)]
      · rw [if_neg (by omega), c' j hj]
        have hx0 : (decide (x.1 ≤ (z : Int) - q) && decide ((z : Int) - q < x.1 + x.2)) = false := by simp; omega
        rw [hx0, Bool.or_false]
    have := copyL_spec V p q n hp hq hd r (fun z hz => hx z (by simp [hz])) (fun i hi => hk i (by rw [mem_cons, Bool.or_eq_true]; exact .inr hi)) (copyS p q W x) (D ++ [x]) hst y
    rw [List.foldl_cons]
    obtain ⟨a, b, c⟩ := this
    refine ⟨a, b, fun j hj => ?_⟩
    rw [c j hj, mem_snocS, mem_cons, Bool.or_assoc]
/-- is what a page has what another one had? -/
def CE (V U : Vm) (p q : Int) : Prop := (kindF V p = 2 ↔ kindF U q = 2) ∧ (kindF V p = 2 → ∀ j : Nat, j < 64 → (V.pg p.toNat).byt j = (U.pg q.toNat).byt j)
theorem CE.trans {V U W : Vm} {p q r : Int} (h : CE V U p q) (k : CE U W q r) : CE V W p r := ⟨h.1.trans k.1, fun hp j hj => (h.2 hp j hj).trans (k.2 (h.1.1 hp) j hj)⟩
theorem CE.of_pg {V U W : Vm} {p q : Int} (h : CE V U p q) (e : W.pg q.toNat = U.pg q.toNat) : CE V W p q := by
  have ek : kindF W q = kindF U q := by unfold kindF; rw [e]
  exact ⟨by rw [ek]; exact h.1, fun hp j hj => by rw [e]; exact h.2 hp j hj⟩
theorem CE.refl (V : Vm) (p : Int) : CE V V p p := ⟨Iff.rfl, fun _ _ _ => rfl⟩
/-- a move touches the old place and the new one alone; the old one only if the block is in the new one then -/
theorem moveF_out (V : Vm) (p q : Int) (n : Nat) (y : Nat) (h1 : (moveF V p q n).2.1 = true → ¬ (p ≤ y ∧ (y : Int) < p + n)) (h2 : ¬ (q ≤ y ∧ (y : Int) < q + n))
    (hp : 0 ≤ p ∧ p + n ≤ 1024) (hq : 0 ≤ q ∧ q + n ≤ 1024) (hd : p + n ≤ q ∨ q + n ≤ p) : (moveF V p q n).2.2.2.pg y = V.pg y := by
  unfold moveF at h1 ⊢
  have hb := bec_out V q n 0 0 1 y h2
  by_cases c1 : (bec V q n 0 0 1).1 ≠ 0
  · rw [if_pos c1]; exact hb
  rw [if_neg c1] at h1 ⊢
  simp only [Int.toNat_natCast] at h1 ⊢
  generalize (bec V q n 0 0 1).2 = V1 at *
  have hr := fun i => runsM_mem V1 p i n
  have hinv := (runsM_inv V1 p n).2.1
  generalize (runsM V1 p n).1 = l at *
  have hmq : mem ((y : Int) - q) l = false := by
    cases hm : mem ((y : Int) - q) l with
    | false => rfl
    | true => have := ((hr _).1 hm).1; omega
  have hc := cmF_pg q l V1 y
  rw [if_neg (by
    intro hm
    rw [memT hm] at hmq; cases hmq)] at hc
  by_cases c2 : (cmF q l V1).2.1 ≠ 0
  · rw [if_pos c2]
    simp only
    rw [leave_out _ _ _ _ y h2 (by
      rw [mem_rev]
      cases hm : mem ((y : Int) - q) (l.take (cmF q l V1).1) with
      | false => rfl
      | true => rw [memT hm] at hmq; cases hmq), hc, hb]
  · rw [if_neg c2] at h1 ⊢
    have hnp := h1 rfl
    simp only
    have hmp : mem ((y : Int) - p) l = false := by
      cases hm : mem ((y : Int) - p) l with
      | false => rfl
      | true => have := ((hr _).1 hm).1; omega
    rw [leave_out _ _ _ _ y hnp hmp]
    have hpg : ∀ (l : List Sp) (W : Vm), mem ((y : Int) - q) l = false → (∀ x ∈ l, 0 ≤ x.1 ∧ 1 ≤ x.2 ∧ x.1 + x.2 ≤ (n : Int)) → (l.foldl (copyS p q) W).pg y = W.pg y := fun l => by
      induction l with
      | nil => exact fun W _ _ => rfl
      | cons x r ih =>
        intro W hm hx
        rw [mem_cons, Bool.or_eq_false_iff] at hm
        rw [List.foldl_cons, ih _ hm.2 (fun z hz => hx z (by simp [hz]))]
        have hm1 := hm.1
        simp only [Bool.and_eq_false_iff, decide_eq_false_iff_not] at hm1
        obtain ⟨a1, a2, a3⟩ := hx x (by simp)
        have : ∀ m : Nat, (m : Int) ≤ x.2 * 64 → (copyF W ((p + x.1) * 64) ((q + x.1) * 64) m).pg y = W.pg y := fun m => by
          induction m with
          | zero => exact fun _ => rfl
          | succ m ihm =>
            intro hle
            rw [copyF]
            have e := ihm (by omega)
            generalize copyF W ((p + x.1) * 64) ((q + x.1) * 64) m = T at *
            unfold writeF
            split
            · show (if _ then _ else _) = _
              rw [if_neg (by omega)]; exact e
            · exact e
        exact this _ (by omega)
    rw [hpg l _ hmq (fun x hx => by have := hinv x hx; omega), hc, hb]
/-- no page of a block is free, a guard or of a huge group -/
def NB (U : Vm) (cs : List B3) (i : Nat) : Prop := ∀ k : Nat, (k : Int) < pw (cs.getD i b0).2.1 → badB U ((cs.getD i b0).1 + k) = false
theorem ok_in {pages : Int} {cs : List B3} (ok : okB pages cs) {i : Nat} (hi : i < cs.length) : 0 ≤ (cs.getD i b0).1 ∧ (cs.getD i b0).1 + pw (cs.getD i b0).2.1 ≤ 1024 := by
  have h := (insB_iff.1 (ok.ins _ (memD hi))).2
  have := spaceB_bound ok.space
  omega
end Go.Pol
namespace Go.Pol
/-- have n pages from p on none in common with a block? -/
def freeL (cs : List B3) (p n : Int) : Bool := cs.all fun b => !(decide (b.1 < p + n) && decide (p < b.1 + pw b.2.1))
/-! moves that are given -/
end Go.Pol
namespace Go.Pol
open Go Go.RowKit

theorem refB_noneK {S : Rf} (h : S.rules = []) (k : Nat) : refB S k = false := by
  unfold refB
  split
  · rfl
  · show rfd S.rules k _ = false
    rw [h]; rfl
theorem ref_rulesK (V : Vm) (call : Nat) : (V.ref call).rf.rules = V.rf.rules := by
  show (refS V.rf call).rules = V.rf.rules
  unfold refS nextS
  repeat (first | rfl | split)
/-- without rules a change of pages that can be made is made -/
theorem bec_free {V : Vm} (h : V.rf.rules = []) {a n : Int} {call : Nat} {fr tk : Int} (h0 : 0 ≤ a) (h1 : 1 ≤ n) (h2 : a + n ≤ 1024) (hp : ∀ p : Nat, a ≤ p → (p : Int) < a + n → (V.pg p).kind = fr ∧ (V.pg p).huge = false) :
    (bec V a n call fr tk).1 = 0 ∧ (bec V a n call fr tk).2.rf.rules = [] ∧ ∀ p : Nat, (bec V a n call fr tk).2.pg p = if a ≤ p ∧ (p : Int) < a + n then newPg tk else V.pg p := by
  have e : bec V a n call fr tk = (0, (V.ref call).eachP a.toNat n.toNat (fun _ => newPg tk)) := by
    unfold bec makeF
    rw [if_neg (by omega), if_neg (by
      rw [allP_iff.2 (fun q h3 h4 => by
        obtain ⟨x, y⟩ := hp q (by omega) (by omega)
        rw [x, y]; simp)]
      decide), if_neg (by rw [refB_noneK h]; decide)]
  rw [e]
  refine ⟨rfl, (ref_rulesK V call).trans h, fun p => ?_⟩
  show (if _ then _ else _) = _
  by_cases hc : a ≤ p ∧ (p : Int) < a + n
  · rw [if_pos hc, if_pos (by omega)]
  · rw [if_neg hc, if_neg (by omega)]; rfl
theorem runsM_form (V : Vm) (p : Int) : ∀ n, formOk (-1) (runsM V p n).1 = true ∧ (if (runsM V p n).2 = true then lastE (-1) (runsM V p n).1 = (n : Int) else lastE (-1) (runsM V p n).1 < (n : Int))
  | 0 => ⟨rfl, by rw [if_neg (by simp [runsM])]; show (-1 : Int) < 0; omega⟩
  | n + 1 => by
    obtain ⟨h1, h2⟩ := runsM_form V p n
    have hi := runsM_inv V p n
    rw [runsM_succ]
    by_cases hk : kindF V (p + (n : Int)) = 2
    · rw [if_neg (by simpa using hk)]
      by_cases hs : (runsM V p n).2 = true
      · rw [if_pos hs]
        rw [if_pos hs] at h2
        obtain ⟨l, x, e, hx⟩ := hi.2.2 hs
        rw [e] at h1 h2
        simp only [if_true]
        rw [e, bumpS_snoc]
        rw [formOk_snoc] at h1
        refine ⟨(formOk_snoc _ _ _).2 ⟨h1.1, h1.2⟩, ?_⟩
        rw [lastE_snoc]; simp only; omega
      · rw [if_neg hs]
        rw [if_neg hs] at h2
        simp only [if_true]
        refine ⟨(formOk_snoc _ _ _).2 ⟨h1, h2⟩, ?_⟩
        rw [lastE_snoc]; simp only; omega
    · rw [if_pos hk]
      simp only
      refine ⟨h1, ?_⟩
      rw [if_neg (by simp)]
      by_cases hs : (runsM V p n).2 = true
      · rw [if_pos hs] at h2; omega
      · rw [if_neg hs] at h2; omega
theorem cmF_free (q : Int) : ∀ (l : List Sp) (e : Int) (V : Vm), V.rf.rules = [] → formOk e l = true → (∀ x ∈ l, 0 ≤ q + x.1 ∧ 1 ≤ x.2 ∧ q + x.1 + x.2 ≤ 1024) → (∀ y : Nat, mem ((y : Int) - q) l = true → (V.pg y).kind = 1 ∧ (V.pg y).huge = false) →
    (cmF q l V).2.1 = 0 ∧ (cmF q l V).2.2.rf.rules = []
  | [], _, V, hr, _, _, _ => ⟨rfl, hr⟩
  | x :: r, e, V, hr, hf, hx, hk => by
    obtain ⟨f1, f2⟩ := formOk_cons.1 hf
    obtain ⟨x1, x2, x3⟩ := hx x (by simp)
    obtain ⟨b1, b2, b3⟩ := bec_free (V := V) (call := 2) (fr := 1) (tk := 2) hr x1 x2 x3 (fun y h1 h2 => hk y (mem_cons'.2 (.inl (by omega))))
    unfold cmF
    rw [if_pos b1]
    refine cmF_free q r (x.1 + x.2) _ b2 f2 (fun z hz => hx z (by simp [hz])) (fun y hm => ?_)
    have hlo := mem_lt f2 (fun z hz => by have := (hx z (by simp [hz])).2.1; omega) hm
    rw [b3, if_neg (by omega)]
    exact hk y (mem_cons'.2 (.inr hm))
theorem errs_free (p : Int) : ∀ (l : List Sp) (e : Int) (s : List Int × Vm), s.2.rf.rules = [] → (∀ z ∈ s.1, z = 0) → formOk e l = true → (∀ x ∈ l, 0 ≤ p + x.1 ∧ 1 ≤ x.2 ∧ p + x.1 + x.2 ≤ 1024) → (∀ y : Nat, mem ((y : Int) - p) l = true → (s.2.pg y).kind = 2 ∧ (s.2.pg y).huge = false) →
    (∀ z ∈ (l.foldl (errsS p) s).1, z = 0) ∧ (l.foldl (errsS p) s).2.rf.rules = [] ∧ ∀ y : Nat, (l.foldl (errsS p) s).2.pg y = if mem ((y : Int) - p) l = true then newPg 1 else s.2.pg y
  | [], _, s, hr, hz, _, _, _ => ⟨hz, hr, fun y => by rw [mem_nil, if_neg (by decide)]; rfl⟩
  | x :: r, e, s, hr, hz, hf, hx, hk => by
    obtain ⟨f1, f2⟩ := formOk_cons.1 hf
    obtain ⟨x1, x2, x3⟩ := hx x (by simp)
    obtain ⟨b1, b2, b3⟩ := bec_free (V := s.2) (call := 3) (fr := 2) (tk := 1) hr x1 x2 x3 (fun y h1 h2 => hk y (mem_cons'.2 (.inl (by omega))))
    have hlo : ∀ y : Nat, mem ((y : Int) - p) r = true → x.1 + x.2 < (y : Int) - p := fun y hm => mem_lt f2 (fun z hz => by have := (hx z (by simp [hz])).2.1; omega) hm
    obtain ⟨i1, i2, i3⟩ := errs_free p r (x.1 + x.2) (errsS p s x) b2 (fun z hm => by
      rcases List.mem_append.1 (show z ∈ s.1 ++ [(bec s.2 (p + x.1) x.2 3 2 1).1] from hm) with h | h
      · exact hz z h
      · rw [List.mem_singleton.1 h, b1]) f2 (fun z hz => hx z (by simp [hz])) (fun y hm => by
      have := hlo y hm
      show ((bec s.2 (p + x.1) x.2 3 2 1).2.pg y).kind = 2 ∧ ((bec s.2 (p + x.1) x.2 3 2 1).2.pg y).huge = false
      rw [b3, if_neg (by omega)]
      exact hk y (mem_cons'.2 (.inr hm)))
    rw [List.foldl_cons]
    refine ⟨i1, i2, fun y => ?_⟩
    rw [i3 y, mem_cons]
    show (if mem ((y : Int) - p) r = true then newPg 1 else (bec s.2 (p + x.1) x.2 3 2 1).2.pg y) = _
    rw [b3]
    by_cases c1 : mem ((y : Int) - p) r = true
    · rw [if_pos c1, if_pos (by rw [c1, Bool.or_true])]
    · rw [if_neg c1]
      rw [Bool.not_eq_true] at c1
      rw [c1, Bool.or_false]
      by_cases c2 : p + x.1 ≤ y ∧ (y : Int) < p + x.1 + x.2
      · rw [if_pos c2, if_pos (by simp; omega)]
      · rw [if_neg c2, if_neg (by simp; omega)]
theorem copy_rules (a b : Int) : ∀ (m : Nat) (V : Vm), (copyF V a b m).rf.rules = V.rf.rules
  | 0, _ => rfl
  | m + 1, V => by
    rw [copyF]
    have := copy_rules a b m V
    generalize copyF V a b m = W at *
    unfold writeF
    split <;> exact this
theorem copyL_rules (p q : Int) : ∀ (l : List Sp) (V : Vm), (l.foldl (copyS p q) V).rf.rules = V.rf.rules
  | [], _ => rfl
  | x :: r, V => by rw [List.foldl_cons, copyL_rules p q r]; exact copy_rules _ _ _ _
theorem firE_zero {es : List Int} (h : ∀ z ∈ es, z = 0) : firE es = 0 := by
  by_cases e : firE es = 0
  · exact e
  · obtain ⟨x, hx, hn⟩ := (firE_any es).1 e
    exact absurd (h x hx) hn
/-- a move without rules -/
theorem moveF_free {V : Vm} (hr : V.rf.rules = []) {p q : Int} {n : Nat} (hn : 1 ≤ n) (hp : 0 ≤ p ∧ p + n ≤ 1024) (hq : 0 ≤ q ∧ q + n ≤ 1024) (hd : p + n ≤ q ∨ q + n ≤ p)
    (kp : ∀ y : Nat, p ≤ y → (y : Int) < p + n → ((V.pg y).kind = 1 ∨ (V.pg y).kind = 2) ∧ (V.pg y).huge = false) (kq : ∀ y : Nat, q ≤ y → (y : Int) < q + n → (V.pg y).kind = 0 ∧ (V.pg y).huge = false) :
    (moveF V p q n).1 = 0 ∧ (moveF V p q n).2.1 = true ∧ (moveF V p q n).2.2.1 = false ∧ (moveF V p q n).2.2.2.rf.rules = [] ∧
    (∀ y : Nat, p ≤ y → (y : Int) < p + n → (moveF V p q n).2.2.2.pg y = newPg 0) ∧
    (∀ y : Nat, q ≤ y → (y : Int) < q + n → (((moveF V p q n).2.2.2.pg y).kind = 1 ∨ ((moveF V p q n).2.2.2.pg y).kind = 2) ∧ ((moveF V p q n).2.2.2.pg y).huge = false) ∧
    ∀ y : Nat, ¬ (p ≤ y ∧ (y : Int) < p + n) → ¬ (q ≤ y ∧ (y : Int) < q + n) → (moveF V p q n).2.2.2.pg y = V.pg y := by
  obtain ⟨b1, b2, b3⟩ := bec_free (V := V) (a := q) (n := n) (call := 0) (fr := 0) (tk := 1) hr hq.1 (by omega) hq.2 kq
  have hout := fun (y : Nat) (h1 : ¬ (p ≤ y ∧ (y : Int) < p + n)) h2 => moveF_out V p q n y (fun _ => h1) h2 hp hq hd
  have hR : (moveF V p q n).1 = 0 ∧ (moveF V p q n).2.1 = true ∧ (moveF V p q n).2.2.1 = false ∧ (moveF V p q n).2.2.2.rf.rules = [] ∧
      (∀ y : Nat, p ≤ y → (y : Int) < p + n → (moveF V p q n).2.2.2.pg y = newPg 0) ∧
      (∀ y : Nat, q ≤ y → (y : Int) < q + n → (((moveF V p q n).2.2.2.pg y).kind = 1 ∨ ((moveF V p q n).2.2.2.pg y).kind = 2) ∧ ((moveF V p q n).2.2.2.pg y).huge = false) := by
    clear hout
    unfold moveF
    rw [if_neg (by rw [b1]; simp)]
    simp only [Int.toNat_natCast]
    generalize (bec V q n 0 0 1).2 = V1 at *
    have hf := (runsM_form V1 p n).1
    have hm := fun i => runsM_mem V1 p i n
    have hinv := (runsM_inv V1 p n).2.1
    generalize (runsM V1 p n).1 = l at *
    have kV1 : ∀ i : Int, mem i l = true ↔ (0 ≤ i ∧ i < (n : Int)) ∧ (V.pg (p + i).toNat).kind = 2 := fun i => by
      rw [hm i]
      constructor
      · rintro ⟨a, b⟩
        refine ⟨a, ?_⟩
        unfold kindF at b
        rw [if_pos (by omega), b3, if_neg (by omega)] at b
        exact b
      · rintro ⟨a, b⟩
        refine ⟨a, ?_⟩
        unfold kindF
        rw [if_pos (by omega), b3, if_neg (by omega)]
        exact b
    obtain ⟨c1, c2⟩ := cmF_free q l (-1) V1 b2 hf (fun x hx => by have := hinv x hx; omega) (fun y hy => by
      have := ((kV1 _).1 hy).1
      rw [b3, if_pos (by omega)]; exact ⟨rfl, rfl⟩)
    have c3 := cmF_pg q l V1
    rw [if_neg (by rw [c1]; simp)]
    simp only
    have c4 := cmF_all q l V1 c1
    rw [c4, List.take_length] at c3
    generalize (cmF q l V1).2.2 = V2 at *
    have k2p : ∀ y : Nat, p ≤ y → (y : Int) < p + n → V2.pg y = V.pg y := fun y a b => by
      rw [c3, if_neg (fun h => by have := ((kV1 _).1 h).1; omega), b3, if_neg (by omega)]
    have hcp := copyL_spec V2 p q n hp hq hd l (fun x hx => by have := hinv x hx; omega) (fun i hi => by
      obtain ⟨a, b⟩ := (kV1 i).1 hi
      refine ⟨by rw [k2p _ (by omega) (by omega)]; exact b, ?_⟩
      rw [c3, if_pos (by rw [show (((q + i).toNat : Nat) : Int) - q = i by omega]; exact hi)]; rfl) V2 [] (fun y => ⟨rfl, rfl, fun j hj => by rw [if_neg (by rw [mem_nil]; simp)]⟩)
    have hru := (copyL_rules p q l V2).trans c2
    generalize l.foldl (copyS p q) V2 = V3 at *
    obtain ⟨e1, e2, e3⟩ := errs_free p l (-1) ([], V3) hru (fun z hz => by cases hz) hf (fun x hx => by have := hinv x hx; omega) (fun y hy => by
      obtain ⟨a, b⟩ := (kV1 _).1 hy
      obtain ⟨d1, d2, _⟩ := hcp y
      rw [show (p + ((y : Int) - p)).toNat = y by omega] at b
      show (V3.pg y).kind = 2 ∧ (V3.pg y).huge = false
      rw [d1, d2, k2p y (by omega) (by omega)]
      exact ⟨b, (kp y (by omega) (by omega)).2⟩)
    have e3' : ∀ y : Nat, (errsF V3 p l).2.pg y = if mem ((y : Int) - p) l = true then newPg 1 else V3.pg y := e3
    obtain ⟨r1, r2, r3⟩ := bec_free (V := (errsF V3 p l).2) (a := p) (n := n) (call := 1) (fr := 1) (tk := 0) e2 hp.1 (by omega) hp.2 (fun y h1 h2 => by
      rw [e3']
      by_cases hc : mem ((y : Int) - p) l = true
      · rw [if_pos hc]; exact ⟨rfl, rfl⟩
      · rw [if_neg hc]
        obtain ⟨d1, d2, _⟩ := hcp y
        rw [d1, d2, k2p y h1 h2]
        obtain ⟨k1, k2⟩ := kp y h1 h2
        refine ⟨k1.resolve_right (fun h => hc ((kV1 _).2 ⟨by omega, ?_⟩)), k2⟩
        rw [show (p + ((y : Int) - p)).toNat = y by omega]; exact h)
    have hz : (leaveF V3 p n l).1 = 0 := by
      show firE ((errsF V3 p l).1 ++ [(bec (errsF V3 p l).2 p n 1 1 0).1]) = 0
      refine firE_zero (fun z hz => ?_)
      rcases List.mem_append.1 hz with h | h
      · exact e1 z h
      · rw [List.mem_singleton.1 h, r1]
    refine ⟨hz, trivial, by rw [hz]; rfl, r2, fun y h1 h2 => ?_, fun y h1 h2 => ?_⟩
    · show (bec (errsF V3 p l).2 p n 1 1 0).2.pg y = _
      rw [r3, if_pos ⟨h1, h2⟩]
    · have hy : (leaveF V3 p n l).2.pg y = V3.pg y := by
        show (bec (errsF V3 p l).2 p n 1 1 0).2.pg y = _
        rw [r3, if_neg (by omega), e3', if_neg (fun h => by have := ((kV1 _).1 h).1; omega)]
      rw [hy]
      obtain ⟨d1, d2, _⟩ := hcp y
      rw [d1, d2, c3]
      by_cases hc : mem ((y : Int) - q) l = true
      · rw [if_pos hc]; exact ⟨.inr rfl, rfl⟩
      · rw [if_neg hc, b3, if_pos ⟨h1, h2⟩]; exact ⟨.inl rfl, rfl⟩
  obtain ⟨a1, a2, a3, a4, a5, a6⟩ := hR
  exact ⟨a1, a2, a3, a4, a5, a6, hout⟩
/-- just the blocks are not free, no page is of a huge group, there are no rules -/
structure WhV (V : Vm) (bs : List B3) : Prop where
  rules : V.rf.rules = []
  pg : ∀ y : Nat, y < 1024 → (V.pg y).huge = false ∧ ((V.pg y).kind = 0 ∨ (V.pg y).kind = 1 ∨ (V.pg y).kind = 2)
  used : ∀ y : Nat, y < 1024 → ((V.pg y).kind ≠ 0 ↔ ∃ i, i < bs.length ∧ inBV (bs.getD i b0) y)
theorem whole_move {V : Vm} {pages : Int} {cs : List B3} {m : Int × Int} (h : WhV V cs) (ok : okB pages cs) (hps : possB pages cs m = 0) :
    (moveM V cs m).1 = 0 ∧ (moveM V cs m).2.1 = true ∧ (moveM V cs m).2.2.1 = false ∧ WhV (moveM V cs m).2.2.2 (movB cs m) := by
  obtain ⟨⟨m0, m1⟩, _, hins, hov⟩ := possB_zero hps
  obtain ⟨k, hk⟩ : ∃ k, m.1.toNat = k := ⟨_, rfl⟩
  rw [hk] at hins hov
  have hkl : k < cs.length := by omega
  have hin := ok_in ok hkl
  have hov2 : ∀ j, j < cs.length → overB (cs.getD j b0) (m.2, (cs.getD k b0).2.1, false) = false := fun j hj => hov _ (memD hj)
  have hpp := pw_pos (cs.getD k b0).2.1
  obtain ⟨n, hn⟩ : ∃ n : Nat, pw (cs.getD k b0).2.1 = (n : Int) := Int.eq_ofNat_of_zero_le (by omega)
  have hq : 0 ≤ m.2 ∧ m.2 + n ≤ 1024 := by
    have h1 := (insB_iff.1 hins).2
    have := spaceB_bound ok.space
    omega
  have hM : moveM V cs m = moveF V (cs.getD k b0).1 m.2 n := by unfold moveM; rw [hk, hn]
  have hd : (cs.getD k b0).1 + n ≤ m.2 ∨ m.2 + n ≤ (cs.getD k b0).1 := by
    have := hov2 k hkl
    unfold overB at this
    simp only [Bool.and_eq_false_iff, decide_eq_false_iff_not] at this
    omega
  obtain ⟨r1, r2, r3, r4, r5, r6, r7⟩ := moveF_free h.rules (p := (cs.getD k b0).1) (q := m.2) (n := n) (by omega) (by omega) hq hd
    (fun y h1 h2 => by
      obtain ⟨a, b⟩ := h.pg y (by omega)
      have hu := (h.used y (by omega)).2 ⟨k, hkl, h1, by omega⟩
      exact ⟨by omega, a⟩)
    (fun y h1 h2 => by
      obtain ⟨a, b⟩ := h.pg y (by omega)
      refine ⟨?_, a⟩
      by_cases e : (V.pg y).kind = 0
      · exact e
      · obtain ⟨i, hi, hb1, hb2⟩ := (h.used y (by omega)).1 e
        have := hov2 i hi
        unfold overB at this
        simp only [Bool.and_eq_false_iff, decide_eq_false_iff_not] at this
        omega)
  rw [hM]
  refine ⟨r1, r2, r3, r4, fun y hy => ?_, fun y hy => ?_⟩
  · by_cases c1 : (cs.getD k b0).1 ≤ y ∧ (y : Int) < (cs.getD k b0).1 + n
    · rw [r5 y c1.1 c1.2]; exact ⟨rfl, .inl rfl⟩
    · by_cases c2 : m.2 ≤ (y : Int) ∧ (y : Int) < m.2 + n
      · obtain ⟨a, b⟩ := r6 y c2.1 c2.2; exact ⟨b, .inr a⟩
      · rw [r7 y c1 c2]; exact h.pg y hy
  · have hg : ∀ i, (movB cs m).getD i b0 = if k = i then (m.2, (cs.getD k b0).2) else cs.getD i b0 := fun i => by
      unfold movB; rw [hk]; exact getD_set cs k i _ hkl
    have hlen : (movB cs m).length = cs.length := by unfold movB; rw [List.length_set]
    rw [hlen]
    by_cases c1 : (cs.getD k b0).1 ≤ y ∧ (y : Int) < (cs.getD k b0).1 + n
    · rw [r5 y c1.1 c1.2]
      refine ⟨fun e => absurd rfl e, ?_⟩
      rintro ⟨i, hi, hb⟩
      rw [hg] at hb
      by_cases e : k = i
      · rw [if_pos e] at hb
        obtain ⟨x1, x2⟩ := hb
        simp only at x1 x2
        omega
      · rw [if_neg e] at hb
        have h1 := apart_sym ok hi hkl (fun e' => e e'.symm)
        obtain ⟨x1, x2⟩ := hb
        unfold overB at h1
        simp only [Bool.and_eq_false_iff, decide_eq_false_iff_not] at h1
        omega
    · by_cases c2 : m.2 ≤ (y : Int) ∧ (y : Int) < m.2 + n
      · obtain ⟨a, _⟩ := r6 y c2.1 c2.2
        refine ⟨fun _ => ⟨k, hkl, ?_⟩, fun _ => by omega⟩
        rw [hg, if_pos rfl]
        exact ⟨c2.1, by simp only; omega⟩
      · rw [r7 y c1 c2, h.used y hy]
        constructor
        · rintro ⟨i, hi, hb⟩
          refine ⟨i, hi, ?_⟩
          rw [hg]
          by_cases e : k = i
          · subst e
            exact absurd ⟨hb.1, by have := hb.2; omega⟩ c1
          · rw [if_neg e]; exact hb
        · rintro ⟨i, hi, hb⟩
          rw [hg] at hb
          by_cases e : k = i
          · rw [if_pos e] at hb
            obtain ⟨x1, x2⟩ := hb
            simp only at x1 x2
            exact absurd ⟨x1, by omega⟩ c2
          · rw [if_neg e] at hb
            exact ⟨i, hi, hb⟩
theorem whole_doL {pages : Int} : ∀ (ms : List (Int × Int)) (V : Vm) (cs : List B3), WhV V cs → okB pages cs → (afterL pages cs ms).2 = 0 →
    ∃ U, doL V cs [] ms = ((afterL pages cs ms).1, [], 0, U) ∧ WhV U (afterL pages cs ms).1
  | [], V, cs, h, _, _ => ⟨V, rfl, h⟩
  | m :: r, V, cs, h, ok, ha => by
    obtain ⟨hps, ha2⟩ := after_cons ha
    obtain ⟨a1, a2, a3, a4⟩ := whole_move h ok hps
    have hb : movBs cs m.1.toNat m.2 (moveM V cs m) = movB cs m := moveM_ok a1
    have hs : movSt [] (cs.getD m.1.toNat b0).1 m.2 (pw (cs.getD m.1.toNat b0).2.1) (moveM V cs m) = [] := by unfold movSt; rw [if_neg (by rw [a3]; decide)]
    obtain ⟨U, u1, u2⟩ := whole_doL r (moveM V cs m).2.2.2 (movB cs m) a4 (okB_mov ok hps) ha2
    refine ⟨U, ?_, ?_⟩
    · rw [doL_cons, if_neg (by rw [a1]; simp), hb, hs, u1, afterL, if_pos hps]
    · rw [afterL, if_pos hps]; exact u2
theorem after_nil {pages : Int} : ∀ (ms : List (Int × Int)) (bs : List B3), (afterL pages bs ms).2 ≠ 0 → (afterL pages bs ms).1 = []
  | [], _, h => absurd rfl h
  | m :: r, bs, h => by
    rw [afterL] at h ⊢
    split at h
    · rename_i h1
      rw [if_pos h1]; exact after_nil r _ h
    · rename_i h1
      rw [if_neg h1]
/-- what MovingWhole asks of Do -/
theorem whole_do {V : Vm} {pages : Int} {bs : List B3} (h : WhV V bs) (hc : chkB pages bs = 0) (ms : List (Int × Int)) :
    ∃ U, doF V pages bs ms = ((afterB pages bs ms).1, [], (afterB pages bs ms).2, U) ∧ WhV U (if (afterB pages bs ms).2 = 0 then (afterB pages bs ms).1 else bs) := by
  have ok := chkB_ok hc
  unfold doF
  by_cases h1 : (afterB pages bs ms).2 = 0
  · rw [if_neg (by simpa using h1), if_pos h1]
    obtain ⟨_, hl, ha⟩ := after_of h1
    have he : afterB pages bs ms = afterL pages bs ms := by unfold afterB; rw [if_pos hc, if_neg (by omega)]
    have hdn : downB V bs ms = false := by
      unfold downB
      rw [List.any_eq_false]
      intro m hm
      rw [Bool.not_eq_true]
      unfold badM
      rw [List.any_eq_false]
      intro i hi
      rw [Bool.not_eq_true]
      have hml := after_all ms bs ha m hm
      have hin := ok_in ok (i := m.1.toNat) (by omega)
      have hi' := List.mem_range.1 hi
      obtain ⟨y, hy⟩ : ∃ y : Nat, (y : Int) = (bs.getD m.1.toNat b0).1 + i := ⟨((bs.getD m.1.toNat b0).1 + i).toNat, by omega⟩
      obtain ⟨a, b⟩ := h.pg y (by omega)
      have hu := (h.used y (by omega)).2 ⟨m.1.toNat, by omega, by omega, by omega⟩
      unfold badB kindF hugeF
      rw [← hy, if_pos (by omega), if_pos (by omega), Int.toNat_natCast, a]
      rcases b with b | b | b
      · exact absurd b hu
      · rw [b]; rfl
      · rw [b]; rfl
    rw [if_neg (by rw [hdn]; decide), he]
    obtain ⟨U, u1, u2⟩ := whole_doL ms V bs h ok ha
    exact ⟨U, by rw [u1, ha], u2⟩
  · rw [if_pos h1, if_neg h1]
    refine ⟨V, ?_, h⟩
    have : (afterB pages bs ms).1 = [] := by
      unfold afterB at h1 ⊢
      rw [if_pos hc] at h1 ⊢
      by_cases hl : 256 < ms.length
      · rw [if_pos hl]
      · rw [if_neg hl] at h1 ⊢
        exact after_nil ms bs h1
    rw [this]
/-- the system that the law makes: blocks reserved one after the other, some of their pages committed -/
def whS (V : Vm) (b : B3) (c : Int) : Vm := if 0 < c then (bec (bec V b.1 (pw b.2.1) 0 0 1).2 b.1 (min c (pw b.2.1)) 2 1 2).2 else (bec V b.1 (pw b.2.1) 0 0 1).2
theorem whole_add {V : Vm} {pages : Int} {bs : List B3} {k : Nat} (ok : okB pages bs) (hk : k < bs.length) (h : WhV V (bs.take k)) (c : Int) :
    (bec V (bs.getD k b0).1 (pw (bs.getD k b0).2.1) 0 0 1).1 = 0 ∧ (0 < c → (bec (bec V (bs.getD k b0).1 (pw (bs.getD k b0).2.1) 0 0 1).2 (bs.getD k b0).1 (min c (pw (bs.getD k b0).2.1)) 2 1 2).1 = 0) ∧ WhV (whS V (bs.getD k b0) c) (bs.take (k + 1)) := by
  have hin := ok_in ok hk
  have hpp := pw_pos (bs.getD k b0).2.1
  have htk : ∀ i, i < k → (bs.take k).getD i b0 = bs.getD i b0 := fun i hi => by
    simp [List.getD_eq_getElem?_getD, hi]
  have htk1 : ∀ i, i < k + 1 → (bs.take (k + 1)).getD i b0 = bs.getD i b0 := fun i hi => by
    simp [List.getD_eq_getElem?_getD, hi]
  have hl : (bs.take k).length = k := by rw [List.length_take]; omega
  have hl1 : (bs.take (k + 1)).length = k + 1 := by rw [List.length_take]; omega
  obtain ⟨b1, b2, b3⟩ := bec_free (V := V) (a := (bs.getD k b0).1) (n := pw (bs.getD k b0).2.1) (call := 0) (fr := 0) (tk := 1) h.rules hin.1 hpp hin.2 (fun y h1 h2 => by
    obtain ⟨a, b⟩ := h.pg y (by omega)
    refine ⟨?_, a⟩
    by_cases e : (V.pg y).kind = 0
    · exact e
    · obtain ⟨i, hi, hb⟩ := (h.used y (by omega)).1 e
      rw [hl] at hi
      rw [htk i hi] at hb
      have := apart_sym ok (i := i) (j := k) (by omega) hk (by omega)
      obtain ⟨x1, x2⟩ := hb
      unfold overB at this
      simp only [Bool.and_eq_false_iff, decide_eq_false_iff_not] at this
      omega)
  have husd : ∀ y : Nat, y < 1024 → ((∃ i, i < (bs.take (k + 1)).length ∧ inBV ((bs.take (k + 1)).getD i b0) y) ↔ ((bs.getD k b0).1 ≤ (y : Int) ∧ (y : Int) < (bs.getD k b0).1 + pw (bs.getD k b0).2.1) ∨ (V.pg y).kind ≠ 0) := fun y hy => by
    rw [h.used y hy, hl1, hl]
    constructor
    · rintro ⟨i, hi, hb⟩
      rw [htk1 i hi] at hb
      by_cases e : i = k
      · subst e; exact .inl hb
      · exact .inr ⟨i, by omega, by rw [htk i (by omega)]; exact hb⟩
    · rintro (hb | ⟨i, hi, hb⟩)
      · exact ⟨k, by omega, by rw [htk1 k (by omega)]; exact hb⟩
      · exact ⟨i, by omega, by rw [htk1 i (by omega), ← htk i hi]; exact hb⟩
  have hbase : ∀ W : Vm, W.rf.rules = [] → (∀ y : Nat, y < 1024 → (((bs.getD k b0).1 ≤ (y : Int) ∧ (y : Int) < (bs.getD k b0).1 + pw (bs.getD k b0).2.1) → (W.pg y = newPg 1 ∨ W.pg y = newPg 2)) ∧ (¬ ((bs.getD k b0).1 ≤ (y : Int) ∧ (y : Int) < (bs.getD k b0).1 + pw (bs.getD k b0).2.1) → W.pg y = V.pg y)) → WhV W (bs.take (k + 1)) := fun W hr hW => by
    refine ⟨hr, fun y hy => ?_, fun y hy => ?_⟩
    · by_cases c : (bs.getD k b0).1 ≤ (y : Int) ∧ (y : Int) < (bs.getD k b0).1 + pw (bs.getD k b0).2.1
      · rcases (hW y hy).1 c with e | e
        · rw [e]; exact ⟨rfl, .inr (.inl rfl)⟩
        · rw [e]; exact ⟨rfl, .inr (.inr rfl)⟩
      · rw [(hW y hy).2 c]; exact h.pg y hy
    · rw [husd y hy]
      by_cases c : (bs.getD k b0).1 ≤ (y : Int) ∧ (y : Int) < (bs.getD k b0).1 + pw (bs.getD k b0).2.1
      · refine ⟨fun _ => .inl c, fun _ => ?_⟩
        rcases (hW y hy).1 c with e | e
        · rw [e]; show (1 : Int) ≠ 0; decide
        · rw [e]; show (2 : Int) ≠ 0; decide
      · rw [(hW y hy).2 c]
        exact ⟨.inr, fun x => x.resolve_left c⟩
  refine ⟨b1, fun hc => ?_, ?_⟩
  · exact (bec_free (V := (bec V (bs.getD k b0).1 (pw (bs.getD k b0).2.1) 0 0 1).2) (a := (bs.getD k b0).1) (n := min c (pw (bs.getD k b0).2.1)) (call := 2) (fr := 1) (tk := 2) b2 hin.1 (by omega) (by omega) (fun y h1 h2 => by
      rw [b3, if_pos (by omega)]; exact ⟨rfl, rfl⟩)).1
  · unfold whS
    by_cases hc : 0 < c
    · rw [if_pos hc]
      obtain ⟨d1, d2, d3⟩ := bec_free (V := (bec V (bs.getD k b0).1 (pw (bs.getD k b0).2.1) 0 0 1).2) (a := (bs.getD k b0).1) (n := min c (pw (bs.getD k b0).2.1)) (call := 2) (fr := 1) (tk := 2) b2 hin.1 (by omega) (by omega) (fun y h1 h2 => by
        rw [b3, if_pos (by omega)]; exact ⟨rfl, rfl⟩)
      refine hbase _ d2 (fun y hy => ⟨fun hc1 => ?_, fun hc1 => ?_⟩)
      · rw [d3]
        by_cases hc2 : (bs.getD k b0).1 ≤ (y : Int) ∧ (y : Int) < (bs.getD k b0).1 + min c (pw (bs.getD k b0).2.1)
        · rw [if_pos hc2]; exact .inr rfl
        · rw [if_neg hc2, b3, if_pos hc1]; exact .inl rfl
      · rw [d3, if_neg (by omega), b3, if_neg hc1]
    · rw [if_neg hc]
      exact hbase _ b2 (fun y hy => ⟨fun hc1 => by rw [b3, if_pos hc1]; exact .inl rfl, fun hc1 => by rw [b3, if_neg hc1]⟩)
theorem whole_new : WhV newVm [] := ⟨rfl, fun y _ => ⟨rfl, .inl rfl⟩, fun y _ => ⟨fun h => absurd rfl h, fun ⟨i, hi, _⟩ => by simp at hi⟩⟩
/-- which pages the law finds free -/
theorem whole_free {V : Vm} {bs : List B3} (h : WhV V bs) {y : Nat} (hy : y < 1024) : ((V.pg y).kind == 0) = freeL bs (y : Int) 1 := by
  have hu := h.used y hy
  rw [Bool.eq_iff_iff, beq_iff_eq]
  unfold freeL
  rw [List.all_eq_true]
  constructor
  · intro e b hb
    obtain ⟨i, hi, rfl⟩ := memI hb
    have : ¬ inBV (bs.getD i b0) y := fun hc => hu.2 ⟨i, hi, hc⟩ e
    unfold inBV at this
    simp only [Bool.not_eq_true', Bool.and_eq_false_iff, decide_eq_false_iff_not]
    omega
  · intro ha
    by_cases e : (V.pg y).kind = 0
    · exact e
    · obtain ⟨i, hi, hb⟩ := hu.1 e
      have := ha _ (memD hi)
      simp only [Bool.not_eq_true', Bool.and_eq_false_iff, decide_eq_false_iff_not] at this
      obtain ⟨x1, x2⟩ := hb
      omega
end Go.Pol
namespace Go.Proofs.YtpabnbhbcphfiaaGreat
open Go Go.Proofs Go.RowKit Go.Pol Go.Shelf

/-- the blocks after moves, in new memory -/
def AfterN (r : List B3 × Int) (w : World) (e : Ending) (w' : World) : Prop := ∃ (A : Option Addr) (cap : Nat), e = .returned (.tuple #[.slice A r.1.length cap, .int .i64 r.2]) ∧ RT w' w'.heap.size A r.1 ∧ (∀ g o, A = some ⟨g, o, none⟩ → w.heap.size ≤ g) ∧ Below w.heap.size w w'
theorem afterN_err {w w' : World} {c : Int} (hb : Below w.heap.size w w') : AfterN ([], c) w (.returned (.tuple #[.slice none 0 0, .int .i64 c])) w' := ⟨none, 0, rfl, RT.nil, (fun _ _ e => nomatch e), hb⟩
set_option maxRecDepth 100000 in
set_option maxHeartbeats 1600000 in
theorem refAfterErrN_any (pages : Int) (A M : Option Addr) (n cap mn mcap : Nat) (bs : List B3) (ms : List (Int × Int)) (w : World) (hn : bs.length = n) (hm : n ≤ maxLen) (hr : RT w w.heap.size A bs) (hmn : ms.length = mn) (hmm : mn ≤ maxLen) (hbad : chkB pages bs ≠ 0 ∨ 256 < ms.length) :
    Calls Tryz.prog 26 #[.int .i64 pages, .slice A n cap, .slice M mn mcap] w (AfterN (afterB pages bs ms) w) := by
  have HC := Lib.hid (refCheck_any pages A n cap bs w hn hm hr)
  unfold maxLen at hmm
  by_cases h1 : chkB pages bs = 0
  · have h2 : 256 < ms.length := hbad.resolve_left (fun h => h h1)
    have hE : Hid (afterB pages bs ms = ([], 3)) := Lib.hid (by unfold afterB; rw [if_pos h1, if_pos h2])
    have h1' : (chkB pages bs == 0) = true := by simp [h1]
    have h2' : decide ((256 : Int) < (mn : Int)) = true := by simp; omega
    clear h1 h2 hbad hn hmn
    generalize afterB pages bs ms = R at *
    generalize chkB pages bs = ck at *
    go_enter Tryz.func26, Tryz.ntmps26
    go_wp2_with fail
    refine HC.out.mono ?_
    rintro e w1 ⟨rfl, hb1⟩
    go_wp2_with fail
    go_ret2
    rw [hE.out]
    exact afterN_err hb1
  · have hE : Hid (afterB pages bs ms = ([], chkB pages bs)) := Lib.hid (by unfold afterB; rw [if_neg h1])
    have h1' : (chkB pages bs != 0) = true := by simpa using h1
    have h1'' : (chkB pages bs == 0) = false := by simpa using h1
    clear h1 hbad hn hmn
    generalize afterB pages bs ms = R at *
    generalize chkB pages bs = ck at *
    go_enter Tryz.func26, Tryz.ntmps26
    go_wp2_with fail
    refine HC.out.mono ?_
    rintro e w1 ⟨rfl, hb1⟩
    go_wp2_with fail
    go_ret2
    rw [hE.out]
    exact afterN_err hb1

set_option maxRecDepth 100000 in
set_option maxHeartbeats 3200000 in
theorem refAfterOkN_any (pages : Int) (A M : Option Addr) (n cap mn mcap : Nat) (bs : List B3) (ms : List (Int × Int)) (w : World) (hn : bs.length = n) (hm : n ≤ maxLen) (hz : A = none → cap = 0) (hr : RT w w.heap.size A bs) (hmn : ms.length = mn) (hru : RU w w.heap.size M ms) (h1 : chkB pages bs = 0) (h2 : ms.length ≤ 256) :
    Calls Tryz.prog 26 #[.int .i64 pages, .slice A n cap, .slice M mn mcap] w (AfterN (afterB pages bs ms) w) := by
  have HC := Lib.hid (refCheck_any pages A n cap bs w hn hm hr)
  have ok := chkB_ok h1
  rw [h1] at HC
  have hpg := spaceB_bound ok.space
  have hn64 : n ≤ 64 := by rw [← hn]; exact ok.len
  have hE : Hid (afterB pages bs ms = afterL pages bs ms) := Lib.hid (by unfold afterB; rw [if_pos h1, if_neg (by omega)])
  have hok0 : Hid (∀ b ∈ bs, okPl b) := Lib.hid (fun b hb => ins_okPl hpg.2 (ok.ins b hb))
  have hmn256 : mn ≤ 256 := by omega
  have h2' : decide ((256 : Int) < (mn : Int)) = false := by simp; omega
  obtain ⟨i0, hi, hz0, hz1, hz2⟩ := infoMv_parts
  have hck : ((0 : Int) == 0) = true := rfl
  have hn' := Lib.hid hn
  have hmn' := Lib.hid hmn
  clear h1 h2 ok hn hmn
  generalize afterB pages bs ms = R at *
  go_enter Tryz.func26, Tryz.ntmps26
  go_wp2_with fail
  refine HC.out.mono ?_
  rintro e w1 ⟨rfl, hb1⟩
  have r1 := hr.on hb1
  have hbase := hb1.size
  obtain ⟨base, hbs⟩ : ∃ base, w1.heap.size = base := ⟨_, rfl⟩
  have hb2 := (Below.refl w1.heap.size w1).alloc (Nat.le_refl _) (.cells #[] 65)
  have hown0 := World.ownsRow_made (base := w1.heap.size) (e := 65) (size := 3) w1 #[] 0 (Nat.le_refl _) (by unfold maxLen; omega) rfl
  have HAP : ∃ (v : Value) (w2 : World), (Builtin.append_ #[56, 56] 56 #[.slice (some ⟨w1.heap.size, 0, none⟩) 0 0, .slice A n cap]).run Tryz.prog (w1.alloc (.cells #[] 65)) = .ok v w2 ∧ w2.ownsRow w1.heap.size 65 3 v n (tCells bs) ∧ Below w1.heap.size w1 w2 := by
    rcases r1.src with ⟨rfl, rfl⟩ | ⟨ad, rfl, hnews⟩
    · have hc := hz rfl
      subst hc
      obtain rfl : n = 0 := by have := hn'.out; simpa using this.symm
      exact ⟨_, _, run_append_owned_none (P := Tryz.prog) (w := w1.alloc (.cells #[] 65)) w1.heap.size 56 56 65 i0 3 Tryz.underlying56 hi _ 0 [] hown0, hown0, hb2⟩
    · obtain ⟨v', w', hrun, r1', r2', _⟩ := append_block (P := Tryz.prog) (w1.alloc (.cells #[] 65)) w1.heap.size 56 56 65 i0 (.agg #[.int .i64 0, .int .i64 0, .bool false]) 3 24 Tryz.underlying56 hi hz0 hz1 hz2 rfl (by decide) _ 0 [] hown0 ad n cap (tCells bs) (by rw [tCells_len, hn'.out]) (fun j u hu => by rw [World.cell?_alloc_some _ _ _ (by rw [hnews j u hu]; rfl)]; exact hnews j u hu) (tCells_one bs) (by unfold maxLen; omega) (by omega) (by simp)
      exact ⟨v', w', hrun, by simpa using r1', hb2.grown r2' (by simp) (fun j hj => by cases hj; exact Nat.le_refl _)⟩
  obtain ⟨v, w2, hap, hown, hb2'⟩ := HAP
  have B2 := hb1.trans (hb2'.mono hb1.size)
  have hbw := hb2'.size
  rw [hbs] at hown hbase hbw hap
  obtain ⟨A2, cap2, rfl⟩ := own_nilT hown hn'.out
  clear HC r1 hb1 hb2 hb2' hr hown0
  go_wp2_with (at_builtin; refine Lib.wpList_append_run _ rfl _ _ _ _ rfl _ _ rfl rfl _ _ hap ?_)
  go_loopw [10] (fun i wr => ∃ (k : Nat) (cs : List B3), k ≤ mn ∧ i = .int .i64 k ∧ cs.length = n ∧ wr.ownsRow base 65 3 (.slice A2 n cap2) n (tCells cs) ∧ base ≤ wr.heap.size ∧ Below w.heap.size w wr ∧ Hid (∀ b ∈ cs, okPl b) ∧ Hid (R = afterL pages cs (ms.drop k))) (fun i _ => mn - (intOf i).toNat)
  case atStart => exact ⟨0, bs, by omega, rfl, hn'.out, hown, hbw, B2, hok0, by simpa using hE⟩
  case round =>
    obtain ⟨k, cs, hk, rfl, hcs, hrow, hbr, hB, hok, hR⟩ := hrel
    have hru' := (hru.below hB).more hB.size
    have hcs' := Lib.hid hcs
    clear hcs
    by_cases hlt : k < mn
    · have hlt' : decide ((k : Int) < (mn : Int)) = true := by simpa using hlt
      obtain ⟨b, o, rfl, hbl, c1, c2⟩ := RU.at_' hru' (k := k) (by have := hmn'.out; omega)
      have hst := Lib.hid (show R = if possB pages cs (ms.getD k (0,0)) = 0 then afterL pages (movB cs (ms.getD k (0,0))) (ms.drop (k + 1)) else ([], possB pages cs (ms.getD k (0,0))) by
        rw [hR.out, Go.Pol.drop_cons (0,0) ms k (by have := hmn'.out; omega), afterL])
      generalize ms.getD k (0,0) = m at *
      obtain ⟨mk, mt⟩ := m
      simp only at c1 c2
      have hbm := hB
      have hrow1 := hrow
      obtain ⟨_, _, e2, hrt, _⟩ := own_RT hrow1 hcs'.out
      cases e2
      have HP := Lib.hid (refPossible_any pages A2 n cap2 cs (mk, mt) _ hcs'.out (by unfold maxLen; omega) hrt (by omega) hok.out)
      simp only at HP
      by_cases hpz : possB pages cs (mk, mt) = 0
      · rw [hpz] at HP
        have hin := possB_in hpz
        obtain ⟨q, rfl⟩ := Int.eq_ofNat_of_zero_le hin.1
        have hqn : q < n := by have := hcs'.out; simp only at hin; omega
        have hokm : Hid (∀ b ∈ cs.set q (mt, (cs.getD q b0).2), okPl b) := Lib.hid (movB_okPl hpg.2 (by have := hcs'.out; omega) hpz hok.out)
        have hst2 : Hid (R = afterL pages (cs.set q (mt, (cs.getD q b0).2)) (ms.drop (k + 1))) := Lib.hid (by rw [hst.out, if_pos hpz]; simp [movB])
        have hlen2 : Hid ((cs.set q (mt, (cs.getD q b0).2)).length = n) := Lib.hid (by rw [List.length_set]; exact hcs'.out)
        have hsetT := Lib.hid (tCells_set cs q mt (by have := hcs'.out; omega))
        obtain ⟨g, cq, e3, _⟩ := hrow.form (by omega)
        cases e3
        have hgb := hrow.lt g rfl
        clear hst hpz hin hR
        go_wp2_with fail
        refine HP.out.mono ?_
        rintro e w3 ⟨rfl, hb3⟩
        have B3 := hbm.trans (hb3.mono hbm.size)
        have d1 := (hb3.cell (p := ⟨b, o + k * 2, none⟩) hbl).trans c1
        have d2 := (hb3.cell (p := ⟨b, o + k * 2 + 1, none⟩) hbl).trans c2
        have q1 := fun z : Ext w3 => z.cell d1
        have q2 := fun z : Ext w3 => z.cell d2
        have hrow3 := ownsRow_call hrow1 hb3
        clear HP
        go_upto_region 13 with fail
        refine region_ext_tail 11 (by kernel_rfl) (by kernel_rfl) ?_
        simp only [List.take_succ_cons, List.take_zero, List.drop_succ_cons, List.drop_zero]
        repeat (go_big_quiet_step (fail))
        refine wpQuiet_nil ?_
        intro z
        have hrz := ownsRow_call hrow3 z.le
        have Bz := B3.trans (z.le.mono B3.size)
        have hf3 := hrz.frozenAt (q * 3)
        have hcell := hrz.cellAt (q * 3) (by omega)
        rw [(tCells_at cs q (by have := hcs'.out; omega)).1] at hcell
        obtain ⟨hst3, hgr3⟩ := hrz.stored (q * 3) (.int .i64 mt)
        rw [hsetT.out] at hst3
        have hg3 := hrz.lt g rfl
        go_wp2_with fail
        go_roundw
        case rel => exact ⟨k + 1, _, by omega, by go_num, hlen2.out, hst3, by have := hgr3.size; omega, Bz.grown hgr3 Bz.size (fun j hj => by cases hj; omega), hokm, hst2⟩
        case measure => simp [intOf]; omega
      · have hRR : Hid (R = ([], possB pages cs (mk, mt))) := Lib.hid (by rw [hst.out, if_neg hpz])
        have hpz' : (possB pages cs (mk, mt) != 0) = true := by simpa using hpz
        generalize possB pages cs (mk, mt) = pe at *
        clear hst hpz hR
        go_wp2_with fail
        refine HP.out.mono ?_
        rintro e w3 ⟨rfl, hb3⟩
        go_wp2_with fail
        go_ret2
        rw [hRR.out]
        exact afterN_err (hbm.trans (hb3.mono hbm.size))
    · obtain rfl : k = mn := by omega
      have hlt' : decide ((k : Int) < (k : Int)) = false := by simp
      have hRR : Hid (R = (cs, 0)) := Lib.hid (by rw [hR.out, List.drop_of_length_le (by have := hmn'.out; omega), afterL])
      obtain ⟨_, _, e2, hrt, _, _, hft, _⟩ := own_RT hrow hcs'.out
      cases e2
      clear hR
      go_wp2_with fail
      go_ret2
      rw [hRR.out]
      exact ⟨A2, cap2, by rw [hcs'.out]; rfl, hrt, fun g o hg => Nat.le_trans hbase (hft g o hg), hB⟩
theorem refAfterN_any (pages : Int) (A M : Option Addr) (n cap mn mcap : Nat) (bs : List B3) (ms : List (Int × Int)) (w : World) (hn : bs.length = n) (hm : n ≤ maxLen) (hz : A = none → cap = 0) (hr : RT w w.heap.size A bs) (hmn : ms.length = mn) (hmm : mn ≤ maxLen) (hru : RU w w.heap.size M ms) :
    Calls Tryz.prog 26 #[.int .i64 pages, .slice A n cap, .slice M mn mcap] w (AfterN (afterB pages bs ms) w) := by
  by_cases h1 : chkB pages bs = 0
  · by_cases h2 : ms.length ≤ 256
    · exact refAfterOkN_any pages A M n cap mn mcap bs ms w hn hm hz hr hmn hru h1 h2
    · exact refAfterErrN_any pages A M n cap mn mcap bs ms w hn hm hr hmn hmm (.inr (by omega))
  · exact refAfterErrN_any pages A M n cap mn mcap bs ms w hn hm hr hmn hmm (.inl h1)
end Go.Proofs.YtpabnbhbcphfiaaGreat
namespace Go.Proofs.YtpabnbhbcphfiaaGreat
open Go Go.Proofs Go.RowKit Go.Pol Go.Shelf Go.Deep

set_option maxRecDepth 100000 in
set_option maxHeartbeats 1600000 in
theorem lawFree_any (A : Option Addr) (n cap : Nat) (cs : List B3) (p q : Int) (w : World) (hn : cs.length = n) (hm : n ≤ 1000) (hr : RT w w.heap.size A cs) (hok : ∀ b ∈ cs, okPl b) (hp : 0 ≤ p ∧ p ≤ 100000) (hq : 0 ≤ q ∧ q ≤ 100000) :
    Calls Tryz.prog 30 #[.slice A n cap, .int .i64 p, .int .i64 q] w fun e w' => e = .returned (.bool (freeL cs p q)) ∧ Below w.heap.size w w' := by
  obtain ⟨R, hR⟩ : ∃ R, freeL cs p q = R := ⟨_, rfl⟩
  rw [hR]
  have hR' := Lib.hid hR
  have hn' := Lib.hid hn
  have hok' := Lib.hid hok
  clear hR hn hok
  go_enter Tryz.func30, Tryz.ntmps30
  go_wp2_with fail
  go_loopw [7] (fun i wr => ∃ k : Nat, k ≤ n ∧ i = .int .i64 k ∧ Below w.heap.size w wr ∧ Hid (∀ j, j < k → (decide ((cs.getD j b0).1 < p + q) && decide (p < (cs.getD j b0).1 + pw (cs.getD j b0).2.1)) = false)) (fun i _ => n - (intOf i).toNat)
  case atStart => exact ⟨0, by omega, rfl, Below.refl _ _, Lib.hid (fun j hj => by omega)⟩
  case round =>
    obtain ⟨k, hk, rfl, hB, hH⟩ := hrel
    by_cases hlt : k < n
    · have hlt' : decide ((k : Int) < (n : Int)) = true := by simpa using hlt
      obtain ⟨b, o, rfl, _, c1, c2, c3⟩ := ((hr.below hB).more hB.size).at_ (k := k) (by have := hn'.out; omega)
      have hob := hok'.out _ (memD (cs := cs) (k := k) (by have := hn'.out; omega))
      have hmem := Lib.hid (memD (cs := cs) (k := k) (by have := hn'.out; omega))
      have hat : Hid (∀ v : Bool, (decide ((cs.getD k b0).1 < p + q) && decide (p < (cs.getD k b0).1 + pw (cs.getD k b0).2.1)) = v → (v = true → R = false) ∧ (v = false → ∀ j, j < k + 1 → (decide ((cs.getD j b0).1 < p + q) && decide (p < (cs.getD j b0).1 + pw (cs.getD j b0).2.1)) = false)) := Lib.hid (fun v hv => by
        refine ⟨fun h => ?_, fun h j hj => ?_⟩
        · rw [← hR'.out]
          cases hfl : freeL cs p q with
          | false => rfl
          | true =>
            have := List.all_eq_true.1 hfl _ hmem.out
            rw [hv, h] at this
            cases this
        · by_cases e : j = k
          · rw [e, hv, h]
          · exact hH.out j (by omega))
      generalize cs.getD k b0 = y at *
      obtain ⟨ya, yo, yc⟩ := y
      simp only at c1 c2 c3 hat
      obtain ⟨hya, hyo⟩ := hob
      simp only at hya hyo
      have HS := Lib.hid (fun W => refSize_any yo W hyo)
      have hp1 := pw_pos yo
      have hp2 := pw_le hyo.2
      generalize pw yo = s at *
      have q1 := fun z : Ext wr => z.cell c1
      have q2 := fun z : Ext wr => z.cell c2
      have G := Lib.hid (fun z : Ext wr => Ext.call (x := z) ((HS.out z.w).mono (fun e w' h => ⟨h.1, by rw [h.2]; exact Below.refl _ _⟩)))
      clear hmem
      by_cases d1 : ya < p + q
      · have d1' : decide (ya < p + q) = true := by simpa using d1
        by_cases d2 : p < ya + s
        · have d2' : decide (p < ya + s) = true := by simpa using d2
          have hF : Hid (R = false) := Lib.hid ((hat.out true (by rw [d1', d2']; rfl)).1 rfl)
          clear hat d1 d2 hH
          go_upto_region 4 with fail
          refine region_ext (by kernel_rfl) (by kernel_rfl) ?_
          repeat (go_big_quiet_step ((go_at_call 23; exact G.out _)))
          refine wpQuiet_nil ?_
          rintro w5 ⟨⟨_, hw5⟩, rfl⟩
          go_wp2_with fail
          go_ret
          exact ⟨ret_bool hF.out.symm, hB.trans (hw5.mono hB.size)⟩
        · have d2' : decide (p < ya + s) = false := by simpa using d2
          have hN := Lib.hid ((hat.out false (by rw [d1', d2']; rfl)).2 rfl)
          clear hat d1 d2 hH
          go_upto_region 4 with fail
          refine region_ext (by kernel_rfl) (by kernel_rfl) ?_
          repeat (go_big_quiet_step ((go_at_call 23; exact G.out _)))
          refine wpQuiet_nil ?_
          rintro w5 ⟨⟨_, hw5⟩, rfl⟩
          go_wp2_with fail
          go_roundw
          case rel => exact ⟨k + 1, by omega, by go_num, hB.trans (hw5.mono hB.size), hN⟩
          case measure => simp [intOf]; omega
      · have d1' : decide (ya < p + q) = false := by simpa using d1
        have hN := Lib.hid ((hat.out false (by rw [d1']; rfl)).2 rfl)
        clear hat d1 hH
        go_upto_region 4 with fail
        refine region_ext (by kernel_rfl) (by kernel_rfl) ?_
        repeat (go_big_quiet_step ((go_at_call 23; exact G.out _)))
        refine wpQuiet_nil ?_
        rintro w5 ⟨⟨_, hw5⟩, rfl⟩
        go_wp2_with fail
        go_roundw
        case rel => exact ⟨k + 1, by omega, by go_num, hB.trans (hw5.mono hB.size), hN⟩
        case measure => simp [intOf]; omega
    · obtain rfl : k = n := by omega
      have hlt' : decide ((k : Int) < (k : Int)) = false := by simp
      have hT : Hid (R = true) := Lib.hid (by
        rw [← hR'.out]
        refine List.all_eq_true.2 (fun b hb => ?_)
        obtain ⟨j, hj, rfl⟩ := memI hb
        rw [hH.out j (by have := hn'.out; omega)]; rfl)
      clear hH
      go_wp2_with fail
      go_ret
      exact ⟨ret_bool hT.out.symm, hB⟩
end Go.Proofs.YtpabnbhbcphfiaaGreat
