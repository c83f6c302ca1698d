/- Merged texts. What moving's Do does, said in plain words; what After's answer says of the moves. Walks of layer 24 over a system: a move. What the struct 'look' of layer 13 holds, as cells; what a store into it makes of that. Walk: 'open' of layer 13. Walks of layer 13: Check; the groups of one kind as a function value that is ranged over. Walks of layer 13: Check, Groups. Walks over no system: Counts, and huge's Join, of a pointer that is nil. Walks of layer 24 over a system: Do. Walks of law 24's own functions: system. Walks of law 24's own functions over a system: great; Do of no system. Walks of the reference of layer 6: Release, Protect, Kind, Read. Walks of layer 24 over the reference's system: the runs of committed pages. Walks of layer 24 over the reference's system: a move. -/
import Derived.Deep.MidRow
import Derived.Test.YtpabnbhbcphfiaaGreatP7
namespace Go.Pol
open Go Go.RowKit
/-- the blocks after a move, and the spans that stay -/
def movBs (bs : List B3) (k : Nat) (q : Int) (r : Int × Bool × Bool × Vm) : List B3 := if r.2.1 = true then bs.set k (q, (bs.getD k b0).2) else bs
def movSt (st : List Sp) (p q n : Int) (r : Int × Bool × Bool × Vm) : List Sp := if r.2.2.1 = true then st ++ [(if r.2.1 = true then p else q, n)] else st
/-- a page that a block that is moved may not have -/
def badB (V : Vm) (p : Int) : Bool := (kindF V p == 0 || kindF V p == 3) || hugeF V p
def badM (V : Vm) (bs : List B3) (m : Int × Int) : Bool := (List.range (pw (bs.getD m.1.toNat b0).2.1).toNat).any fun i => badB V ((bs.getD m.1.toNat b0).1 + (i : Int))
def downB (V : Vm) (bs : List B3) (ms : List (Int × Int)) : Bool := ms.any (badM V bs)
/-- moves made one after the other: the blocks, what stays, the first error, the system -/
def moveM (V : Vm) (bs : List B3) (m : Int × Int) : Int × Bool × Bool × Vm := moveF V (bs.getD m.1.toNat b0).1 m.2 (pw (bs.getD m.1.toNat b0).2.1)
def doL : Vm → List B3 → List Sp → List (Int × Int) → List B3 × List Sp × Int × Vm
  | V, bs, st, [] => (bs, st, 0, V)
  | V, bs, st, m :: r => if (moveM V bs m).1 ≠ 0 then (movBs bs m.1.toNat m.2 (moveM V bs m), movSt st (bs.getD m.1.toNat b0).1 m.2 (pw (bs.getD m.1.toNat b0).2.1) (moveM V bs m), (moveM V bs m).1, (moveM V bs m).2.2.2)
    else doL (moveM V bs m).2.2.2 (movBs bs m.1.toNat m.2 (moveM V bs m)) (movSt st (bs.getD m.1.toNat b0).1 m.2 (pw (bs.getD m.1.toNat b0).2.1) (moveM V bs m)) r
def doF (V : Vm) (pages : Int) (bs : List B3) (ms : List (Int × Int)) : List B3 × List Sp × Int × Vm :=
  if (afterB pages bs ms).2 ≠ 0 then ([], [], (afterB pages bs ms).2, V) else if downB V bs ms = true then ([], [], 9, V) else doL V bs [] ms
/-- a move that meets no error has moved its block -/
theorem moveF_ok {V : Vm} {p q n : Int} (h : (moveF V p q n).1 = 0) : (moveF V p q n).2.1 = true := by
  unfold moveF at h ⊢
  split at h
  · rename_i h1; exact absurd h h1
  · rename_i h1
    rw [if_neg h1]
    simp only at h ⊢
    split at h
    · rename_i h2; exact absurd h h2
    · rename_i h2
      rw [if_neg h2]
theorem moveM_ok {V : Vm} {bs : List B3} {m : Int × Int} (h : (moveM V bs m).1 = 0) : movBs bs m.1.toNat m.2 (moveM V bs m) = movB bs m := by
  unfold movBs movB
  rw [if_pos (show (moveM V bs m).2.1 = true from moveF_ok h)]
theorem chk_ins {pages : Int} {bs : List B3} (h : chkB pages bs = 0) : pages ≤ 1024 ∧ bs.length ≤ 64 ∧ ∀ b ∈ bs, insB pages b.1 b.2.1 = true := by
  unfold chkB at h
  split at h
  · cases h
  · rename_i h1
    split at h
    · cases h
    · split at h
      · cases h
      · rename_i h2 h3
        rw [Bool.not_eq_false] at h1
        obtain ⟨o, ho, hp⟩ := spaceB_iff.1 h1
        refine ⟨by rw [hp]; exact pw_le (by omega), by omega, fun b hb => ?_⟩
        rw [Bool.not_eq_true, List.any_eq_false] at h3
        have := h3 b hb
        simpa using this
theorem ins_bounds {pages page o : Int} (hp : pages ≤ 1024) (h : insB pages page o = true) : (0 ≤ o ∧ o ≤ 10) ∧ 0 ≤ page ∧ page ≤ 1024 := by
  obtain ⟨h1, h2, _, h4⟩ := insB_iff.1 h
  have := pw_pos o
  exact ⟨h1, h2, by omega⟩
theorem poss_ins {pages : Int} {bs : List B3} {m : Int × Int} (h : possB pages bs m = 0) : (0 ≤ m.1 ∧ m.1 < bs.length) ∧ insB pages m.2 (bs.getD m.1.toNat b0).2.1 = true := by
  unfold possB at h
  split at h
  · cases h
  · rename_i h1
    split at h
    · cases h
    · split at h
      · cases h
      · rename_i h3
        rw [Bool.not_eq_false] at h3
        exact ⟨by omega, h3⟩
theorem after_cons {pages : Int} {bs : List B3} {m : Int × Int} {r : List (Int × Int)} (h : (afterL pages bs (m :: r)).2 = 0) : possB pages bs m = 0 ∧ (afterL pages (movB bs m) r).2 = 0 := by
  rw [afterL] at h
  split at h
  · rename_i h1; exact ⟨h1, h⟩
  · rename_i h1; exact absurd h h1
theorem after_all {pages : Int} : ∀ (ms : List (Int × Int)) (bs : List B3), (afterL pages bs ms).2 = 0 → ∀ m ∈ ms, 0 ≤ m.1 ∧ m.1 < bs.length
  | [], _, _, m, hm => by cases hm
  | x :: r, bs, h, m, hm => by
    obtain ⟨h1, h2⟩ := after_cons h
    rw [List.mem_cons] at hm
    rcases hm with rfl | hm
    · exact (poss_ins h1).1
    · have := after_all r _ h2 m hm
      unfold movB at this
      rwa [List.length_set] at this
theorem ins_mov {pages : Int} {bs : List B3} {m : Int × Int} (h : possB pages bs m = 0) (hall : ∀ b ∈ bs, insB pages b.1 b.2.1 = true) : ∀ b ∈ movB bs m, insB pages b.1 b.2.1 = true := by
  intro b hb
  unfold movB at hb
  rcases List.mem_or_eq_of_mem_set hb with hb | rfl
  · exact hall b hb
  · exact (poss_ins h).2
theorem after_of {pages : Int} {bs : List B3} {ms : List (Int × Int)} (h : (afterB pages bs ms).2 = 0) : chkB pages bs = 0 ∧ ms.length ≤ 256 ∧ (afterL pages bs ms).2 = 0 := by
  unfold afterB at h
  split at h
  · rename_i h1
    split at h
    · cases h
    · exact ⟨h1, by omega, h⟩
  · rename_i h1; exact absurd h h1
theorem downB_cons (V : Vm) (bs : List B3) (m : Int × Int) (r : List (Int × Int)) : downB V bs (m :: r) = (badM V bs m || downB V bs r) := by
  unfold downB
  rw [List.any_cons]
theorem doL_cons (V : Vm) (bs : List B3) (st : List Sp) (m : Int × Int) (r : List (Int × Int)) : doL V bs st (m :: r) = if (moveM V bs m).1 ≠ 0 then (movBs bs m.1.toNat m.2 (moveM V bs m), movSt st (bs.getD m.1.toNat b0).1 m.2 (pw (bs.getD m.1.toNat b0).2.1) (moveM V bs m), (moveM V bs m).1, (moveM V bs m).2.2.2)
    else doL (moveM V bs m).2.2.2 (movBs bs m.1.toNat m.2 (moveM V bs m)) (movSt st (bs.getD m.1.toNat b0).1 m.2 (pw (bs.getD m.1.toNat b0).2.1) (moveM V bs m)) r := rfl
end Go.Pol
namespace Go.Pol
open Go Go.Proofs Go.RowKit
/-- a mover in memory -/
structure MovIs (w : World) (tm tb ts : TypeId) (g0 b NB : Nat) (A : Option Addr) (nb nc : Nat) (bs : List B3) (st : List Sp) (V : Vm) : Prop where
  ex : ∃ v2, Blk w g0 tm #[.pointer (some ⟨b, 0, none⟩), .slice A nb nc, v2] ∧ w.ownsRow NB tb 3 (.slice A nb nc) nb (tCells bs) ∧ w.ownsRow NB ts 2 v2 st.length (spCells st)
  sys : SysIs w b V
end Go.Pol
namespace Go.Proofs.YtpabnbhbcphfiaaGreat
open Go Go.Proofs Go.RowKit Go.Pol Go.Shelf
attribute [local go_sem] Oper.semAt_some Go.Pol.wide_fn Go.Pol.wide_depth Go.Pol.wide_fn' Go.Pol.wide_depth'

set_option maxRecDepth 100000 in
set_option maxHeartbeats 3200000 in
theorem move24_any (g0 b NB gn nc nb mk : Nat) (q : Int) (bs : List B3) (st : List Sp) (v2 : Value) (V : Vm) (w : World) (hV : SysIs w b V) (kM : Blk w g0 169 #[.pointer (some ⟨b, 0, none⟩), .slice (some ⟨gn, 0, none⟩) nb nc, v2]) (hg : g0 ≠ b)
    (rn : w.ownsRow NB 65 3 (.slice (some ⟨gn, 0, none⟩) nb nc) nb (tCells bs)) (hbs : bs.length = nb) (ro : w.ownsRow NB 115 2 v2 st.length (spCells st)) (hNB : NB ≤ w.heap.size) (hbN : b < NB) (hst : st.length ≤ 1000) (hmk : mk < nb)
    (hp : 0 ≤ (bs.getD mk b0).1 ∧ (bs.getD mk b0).1 ≤ 1024) (ho : 0 ≤ (bs.getD mk b0).2.1 ∧ (bs.getD mk b0).2.1 ≤ 10) (hq : 0 ≤ q ∧ q ≤ 1024) :
    Calls Tryz.prog 88 #[.pointer (some ⟨g0, 0, none⟩), .agg #[.int .i64 mk, .int .i64 q]] w fun e w' => ∃ r, r = moveF V (bs.getD mk b0).1 q (pw (bs.getD mk b0).2.1) ∧ e = .returned (.int .i64 r.1) ∧
      MovIs w' 169 65 115 g0 b NB (some ⟨gn, 0, none⟩) nb nc (movBs bs mk q r) (movSt st (bs.getD mk b0).1 q (pw (bs.getD mk b0).2.1) r) r.2.2.2 ∧ Far (fun k => k = b ∨ k = g0 ∨ NB ≤ k) w w' := by
  have hcells := tCells_at bs mk (by omega)
  have hset := Lib.hid (tCells_set bs mk q (by omega))
  have hmv : Hid (∀ r : Int × Bool × Bool × Vm, movBs bs mk q r = if r.2.1 = true then bs.set mk (q, (bs.getD mk b0).2) else bs) := Lib.hid (fun r => rfl)
  generalize bs.getD mk b0 = blk at *
  obtain ⟨p, o, pin⟩ := blk
  simp only at hp ho hcells hset hmv ⊢
  obtain ⟨n, hn⟩ : ∃ n : Nat, pw o = (n : Int) := Int.eq_ofNat_of_zero_le (by have := pw_pos o; omega)
  have hn1 : n ≤ 1024 := by have := pw_le ho.2; omega
  have hn0 : 1 ≤ n := by have := pw_pos o; omega
  have HSz := Lib.hid (fun W => size_any o W ho)
  rw [hn] at HSz ⊢
  obtain ⟨R, hR⟩ : ∃ R, moveF V p q (n : Int) = R := ⟨_, rfl⟩
  have hR' : Hid (moveF V p q (n : Int) = R) := Lib.hid hR
  rw [hR]
  unfold moveF at hR
  rw [Int.toNat_natCast] at hR
  have hR2 := Lib.hid hR
  obtain ⟨s, hs⟩ : ∃ s, w.heap.size = s := ⟨_, rfl⟩
  have hb0 := (Below.refl w.heap.size w).alloc (Nat.le_refl _) (.cells #[.int .i64 (mk : Int), .int .i64 q] 152)
  have kB := Blk.new w 152 #[.int .i64 (mk : Int), .int .i64 q]
  rw [hs] at kB
  have kM0 := kM.call hb0
  have V0 := hV.call hb0
  have rn0 := ownsRow_call rn hb0
  have ro0 := ownsRow_call ro hb0
  have hmi : (mk : Int) < (nb : Int) := by omega
  have F0 : Far (fun k => k = b ∨ k = g0 ∨ NB ≤ k) w _ := .of_below hb0
  clear kM hV rn ro hb0 hR hR'
  go_enter Tryz.func88, Tryz.ntmps88
  go_upto_region 1 with fail
  generalize w.alloc _ = w0 at *
  try simp only [hs]
  have cp := rn0.cellAt (mk * 3) (by omega)
  have co := rn0.cellAt (mk * 3 + 1) (by omega)
  rw [hcells.1] at cp
  rw [hcells.2.1] at co
  have hgn := rn0.lt gn rfl
  have e0 := fun x : Ext w0 => (x.blk kM0).cell
  have e1 := fun x : Ext w0 => (x.blk kB).cell
  refine region_ext (by kernel_rfl) (by kernel_rfl) ?_
  repeat (go_big_quiet_step (fail))
  refine wpQuiet_nil ?_
  rintro w1 ⟨⟨_, hw1⟩, rfl⟩
  have co1 := (hw1.cell (p := ⟨gn, mk * 3 + 1, none⟩) hgn.2).trans co
  have cp1 := (hw1.cell (p := ⟨gn, mk * 3, none⟩) hgn.2).trans cp
  have kM1 := kM0.call hw1
  have kB1 := kB.call hw1
  have V1 := V0.call hw1
  have rn1 := ownsRow_call rn0 hw1
  have ro1 := ownsRow_call ro0 hw1
  have F1 : Far (fun k => k = b ∨ k = g0 ∨ NB ≤ k) w w1 := F0.trans (.of_below hw1)
  clear e0 e1 kM0 kB V0 rn0 ro0 F0 cp co hw1
  go_wp2_with fail
  refine (HSz.out _).mono ?_
  rintro e w2 ⟨rfl, hw2⟩
  replace hw2 := hw2.symm
  subst hw2
  have e0 := fun x : Ext w1 => (x.blk kM1).cell
  have e1 := fun x : Ext w1 => (x.blk kB1).cell
  go_upto_region 3 with fail
  refine region_ext_tail 7 (by kernel_rfl) (by kernel_rfl) ?_
  simp only [List.take_succ_cons, List.take_zero, List.drop_succ_cons, List.drop_zero]
  repeat (go_big_quiet_step (fail))
  refine wpQuiet_nil ?_
  intro z
  go_wp2_with fail
  have V2 := V1.call z.le
  have kM2 := kM1.call z.le
  have kB2 := kB1.call z.le
  have rn2 := ownsRow_call rn1 z.le
  have ro2 := ownsRow_call ro1 z.le
  have F2 : Far (fun k => k = b ∨ k = g0 ∨ NB ≤ k) w z.w := F1.trans (.of_below z.le)
  have cp2 := (z.le.cell (p := ⟨gn, mk * 3, none⟩) (rn1.lt gn rfl).2).trans cp1
  generalize z.w = w2 at *
  have hsb : ¬ s = b := by omega
  have hgb : ∀ g, ¬ NB ≤ g → True := fun _ _ => trivial
  clear e0 e1 kM1 kB1 V1 rn1 ro1 F1 cp1 co1 hgb
  refine (reserve_any b q n V w2 V2).mono ?_
  rintro e w3 ⟨rfl, V3, F3⟩
  have kM3 := F3.blk kM2 (by show ¬ g0 = b; exact hg)
  have kB3 := F3.blk kB2 (by show ¬ s = b; exact hsb)
  have rn3 := ownsRow_far rn2 F3 (fun g hg h => by have := (rn2.lt g hg).1; omega)
  have ro3 := ownsRow_far ro2 F3 (fun g hg h => by have := (ro2.lt g hg).1; omega)
  have F03 : Far (fun k => k = b ∨ k = g0 ∨ NB ≤ k) w w3 := F2.trans' F3 (fun i _ h => .inl h)
  have cp3 := F3.cell cp2 (by show ¬ gn = b; omega)
  have V3' := Lib.hid V3
  generalize bec V q (n : Int) 0 0 1 = J at *
  obtain ⟨je, jV⟩ := J
  simp only at hR2 V3'
  have hR3 := hR2.out
  clear V2 kM2 kB2 rn2 ro2 F2 cp2 F3 V3 hR2
  by_cases hj : je = 0
  case neg =>
    have hj' : (je != 0) = true := by simpa using hj
    rw [if_pos hj] at hR3
    have hR4 := Lib.hid hR3
    clear hR3
    go_wp2_with fail
    go_ret
    refine ⟨R, rfl, ?_, ?_, F03⟩
    · rw [← hR4.out]; rfl
    · rw [← hR4.out]
      exact ⟨⟨v2, kM3, rn3, ro3⟩, V3'.out⟩
  subst hj
  rw [if_neg (by simp)] at hR3
  have hinv := runsM_inv jV p n
  have HRu := Lib.hid (runs24_any g0 b p n (.slice (some ⟨gn, 0, none⟩) nb nc) v2 jV w3 V3'.out kM3 hp hn1)
  generalize (runsM jV p n).1 = l at *
  obtain ⟨hl1, hl2, _⟩ := hinv
  have hR4 := Lib.hid hR3
  have hlx := Lib.hid hl2
  obtain ⟨ln, hln⟩ : ∃ ln, l.length = ln := ⟨_, rfl⟩
  unfold SpansN at HRu
  rw [hln] at HRu hl1
  have hln' := Lib.hid hln
  clear hR3 hl2 hln
  go_wp2_with fail
  refine HRu.out.mono ?_
  rintro e w4 ⟨Al, cl, rfl, hrl, hfl, hcl, hclm, hlz, hb4⟩
  have kM4 := kM3.call hb4
  have kB4 := kB3.call hb4
  have rn4 := ownsRow_call rn3 hb4
  have ro4 := ownsRow_call ro3 hb4
  have F04 : Far (fun k => k = b ∨ k = g0 ∨ NB ≤ k) w w4 := F03.trans (.of_below hb4)
  have cp4 := (hb4.cell (p := ⟨gn, mk * 3, none⟩) (rn3.lt gn rfl).2).trans cp3
  have V4 := Lib.hid (V3'.out.call hb4)
  have hs3 : NB ≤ w3.heap.size := by have := F03.size; omega
  have hgn3 : gn < w3.heap.size ∧ NB ≤ gn := by have := rn3.lt gn rfl; omega
  have hs4 := hb4.size
  clear HRu V3' kM3 kB3 rn3 ro3 F03 cp3 hb4
  go_wp2_with fail
  go_loopw [48] (fun i wr => ∃ (k : Nat) (U : Vm), k ≤ ln ∧ i = .int .i64 k ∧ Hid (cmF q l jV = (k + (cmF q (l.drop k) U).1, (cmF q (l.drop k) U).2)) ∧ Hid (SysIs wr b U) ∧ Far (fun k => k = b) w4 wr) (fun i _ => ln - (intOf i).toNat)
  case atStart => exact ⟨0, jV, by omega, rfl, Lib.hid (by simp), V4, Far.refl _ _⟩
  case round =>
    clear V4
    obtain ⟨k, U, hk, rfl, hfl2, hU, hF⟩ := hrel
    have kMr := hF.blk kM4 (by show ¬ g0 = b; exact hg)
    have kBr := hF.blk kB4 (by show ¬ s = b; exact hsb)
    have hsr := hF.size
    by_cases hlt : k < ln
    · have hlt' : decide ((k : Int) < (ln : Int)) = true := by simpa using hlt
      have hln2 := hln'.out
      have hsn := cmF_step (by omega) hfl2.out
      obtain ⟨rb, ro', rfl, hrb, c5, c6⟩ := hrl.at_' (k := k) (by omega)
      have hrbs := hfl rb ro' rfl
      have d5 := hF.cell c5 (by show ¬ rb = b; omega)
      have d6 := hF.cell c6 (by show ¬ rb = b; omega)
      have hxm := hlx.out (l.getD k (0, 0)) (by rw [List.getD_eq_getElem?_getD, List.getElem?_eq_getElem (by omega)]; exact List.getElem_mem _)
      generalize l.getD k (0, 0) = x at *
      obtain ⟨xa, xb⟩ := x
      simp only at d5 d6 hsn hxm
      have hsn' := Lib.hid hsn
      have kx := Blk.new wr 115 #[.int .i64 xa, .int .i64 xb]
      have hbx : Below wr.heap.size wr (wr.alloc (.cells #[.int .i64 xa, .int .i64 xb] 115)) := (Below.refl _ _).alloc (Nat.le_refl _) _
      obtain ⟨gx, hgx⟩ : ∃ gx, wr.heap.size = gx := ⟨_, rfl⟩
      rw [hgx] at kx
      have hbz := hU.out.lt
      clear hsn c5 c6 hfl2 hln2
      go_upto_region 10 with fail
      have Tx := Lib.hid (hU.out.call hbx)
      have hFx : Far (fun k => k = b) w4 _ := hF.trans (.of_below hbx)
      have kMx := kMr.call hbx
      have kBx := kBr.call hbx
      generalize wr.alloc _ = w5 at *
      try simp only [hgx]
      have e0 := fun x : Ext w5 => (x.blk kMx).cell
      have e1 := fun x : Ext w5 => (x.blk kBx).cell
      have e2 := fun x : Ext w5 => (x.blk kx).cell
      clear hbx hU hF d5 d6 kMr kBr
      refine region_ext_tail 11 (by kernel_rfl) (by kernel_rfl) ?_
      simp only [List.take_succ_cons, List.take_zero, List.drop_succ_cons, List.drop_zero]
      repeat (go_big_quiet_step (fail))
      refine wpQuiet_nil ?_
      intro z
      go_wp2_with fail
      refine (commit_any b (q + xa) xb U z.w (Tx.out.call z.le)).mono ?_
      rintro e w6 ⟨rfl, V6, F6⟩
      have V6' := Lib.hid V6
      have hF6 : Far (fun k => k = b) w4 w6 := (hFx.trans (.of_below z.le)).trans F6
      have kM6 := F6.blk (kMx.call z.le) (by show ¬ g0 = b; exact hg)
      have kB6 := F6.blk (kBx.call z.le) (by show ¬ s = b; exact hsb)
      generalize bec U (q + xa) xb 2 1 2 = J at *
      obtain ⟨ce, cV⟩ := J
      simp only at hsn' V6'
      have hsn2 := hsn'.out
      clear e0 e1 e2 hsn' V6 hFx kMx kBx kx Tx F6
      by_cases hj : ce = 0
      · subst hj
        rw [if_pos rfl] at hsn2
        have hsn3 := Lib.hid hsn2
        clear hsn2
        go_wp2_with fail
        go_roundw
        case rel => exact ⟨k + 1, cV, by omega, by go_num, hsn3, V6', hF6⟩
        case measure => simp [intOf]; omega
      · have hj' : (ce != 0) = true := by simpa using hj
        rw [if_neg hj] at hsn2
        have hR5 : Hid (R = (ce, false, (leaveF cV q (n : Int) (l.take k).reverse).1 != 0, (leaveF cV q (n : Int) (l.take k).reverse).2)) := Lib.hid (by
          rw [← hR4.out]
          simp only [hsn2]
          rw [if_pos hj])
        have hkc : k ≤ cl := by omega
        have hlk : (l.take k).length = k := by rw [List.length_take, hln'.out]; omega
        have hrl6 : RU w6 w6.heap.size (some ⟨rb, ro', none⟩) (l.take k) := RU.takenS ((RU.more (fun j hj => by
          obtain ⟨b', o', e, hb', h1, h2⟩ := hrl j hj
          have := hfl b' o' e
          exact ⟨b', o', e, hb', hF6.cell h1 (by show ¬ b' = b; omega), hF6.cell h2 (by show ¬ b' = b; omega)⟩) hF6.size : RU w6 w6.heap.size (some ⟨rb, ro', none⟩) l)) k
        have HCl := Lib.hid (clone_any (some ⟨rb, ro', none⟩) k cl (l.take k) w6 hlk (by omega) hrl6)
        have hbd : ∀ x ∈ (l.take k).reverse, (0 ≤ x.1 ∧ x.1 ≤ 1024) ∧ 0 ≤ x.2 ∧ x.2 ≤ 1024 := fun x hx => by
          have := hlx.out x (List.mem_of_mem_take (List.mem_reverse.1 hx))
          omega
        have hbd' := Lib.hid hbd
        have hlk' := Lib.hid hlk
        have hrr : Hid ((l.take k).reverse.length = k) := Lib.hid (by rw [List.length_reverse]; exact hlk)
        generalize l.take k = lt at *
        clear hsn2 hR4 hlk hbd hrl6
        go_wp2_with fail
        refine HCl.out.mono ?_
        rintro e w7 ⟨vc, rfl, rc7, hb7⟩
        obtain ⟨Av, cv, rfl⟩ := own_slice rc7
        have hs6 := hF6.size
        have V7 := V6'.out.call hb7
        have HRv := Lib.hid (revAny_any (.slice Av k cv) k w6.heap.size lt w7 hlk'.out (by omega) rc7)
        clear HCl
        go_wp2_with fail
        refine HRv.out.mono ?_
        rintro e w8 ⟨rfl, rc8, F8⟩
        have F68 : Far (fun g => (Value.slice Av k cv).ownBlock = some g) w6 w8 := (Far.of_below hb7).trans F8
        have hF8 : Far (fun k => k = b) w4 w8 := hF6.trans' F68 (fun i hi h => by have := (rc7.lt i h).1; omega)
        have kM8 := F68.blk kM6 (fun h => by have := (rc7.lt g0 h).1; have := kM6.lt; omega)
        have kB8 := F68.blk kB6 (fun h => by have := (rc7.lt s h).1; have := kB6.lt; omega)
        have V8 := Lib.hid (V7.far F8 (fun h => by have := (rc7.lt b h).1; omega) (fun _ _ _ _ _ _ g _ _ _ hc hg => hc.elim fun cr hcr => own_other rc7 hg hcr (by decide)))
        have ro8 := ownsRow_far ro4 hF8 (fun g hg h => by have := (ro4.lt g hg).1; omega)
        have rn8 := ownsRow_far rn4 hF8 (fun g hg h => by have := (rn4.lt g hg).1; omega)
        have hs8 := hF8.size
        obtain ⟨Av', cv', e8, hr8, _, _, hfr8, _⟩ := own_RU rc8 hrr.out
        cases e8
        have HLv := Lib.hid (leave24_any g0 b NB q n Av k cv lt.reverse st _ v2 cV w8 V8.out kM8 hg ro8 (by omega) hbN hst hrr.out hr8 (fun g o e _ => by have := hfr8 g o e; omega) hbd'.out (by omega) hq hn1)
        have F08 : Far (fun k => k = b ∨ k = g0 ∨ NB ≤ k) w w8 := F04.trans' hF8 (fun i _ h => .inl h)
        obtain ⟨L, hL⟩ : ∃ L, leaveF cV q (n : Int) lt.reverse = L := ⟨_, rfl⟩
        rw [hL] at HLv hR5
        have c8 := kB8.cell
        clear HRv F68 hF8 F8 V7 hF6 kM6 kB6 rc8 hr8 hfr8 hL V8
        go_wp2_with fail
        refine HLv.out.mono ?_
        rintro e w9 ⟨rfl, v2', kM9, ro9, V9, F9⟩
        have rn9 := ownsRow_far rn8 F9 (fun g hg h => by
          rcases h with h | h | h
          · have := (rn8.lt g hg).1; omega
          · exact own_other rn8 (hg.trans (congrArg some h)) kM8 (by decide)
          · exact rows_apart rn8 ro8 (by decide) hg h)
        have F09 : Far (fun k => k = b ∨ k = g0 ∨ NB ≤ k) w w9 := F08.trans' F9 (fun i _ h => h.elim .inl (fun h => h.elim (fun h => .inr (.inl h)) (fun h => .inr (.inr (ro8.lt i h).1))))
        clear HLv c8 kM8 kB8 ro8 rn8 F08 F9
        go_wp2_with fail
        go_ret
        refine ⟨R, rfl, ?_, ?_, F09⟩
        · rw [hR5.out]; rfl
        · rw [hR5.out]
          have e1 : movSt st p q n (ce, false, L.1 != 0, L.2) = stayF st L.1 (q, n) := by
            unfold movSt stayF
            by_cases h : L.1 = 0 <;> simp [h]
          rw [e1]
          exact ⟨⟨v2', kM9, rn9, ro9⟩, V9⟩
    · obtain rfl : k = ln := by omega
      have hlt' : decide ((k : Int) < (k : Int)) = false := by simp
      have hcm : cmF q l jV = (k, 0, U) := by
        rw [hfl2.out, List.drop_of_length_le (by rw [hln'.out]; exact Nat.le_refl _)]
        rfl
      have hR5 : Hid (R = ((leaveF (l.foldl (copyS p q) U) p (n : Int) l).1, true, (leaveF (l.foldl (copyS p q) U) p (n : Int) l).1 != 0, (leaveF (l.foldl (copyS p q) U) p (n : Int) l).2)) := Lib.hid (by
        rw [← hR4.out]
        simp only [hcm]
        rw [if_neg (by simp)])
      obtain ⟨wA, rfl⟩ : ∃ wA, wA = wr := ⟨_, rfl⟩
      have rnA := ownsRow_far rn4 hF (fun g hg h => by have := (rn4.lt g hg).1; omega)
      have roA := ownsRow_far ro4 hF (fun g hg h => by have := (ro4.lt g hg).1; omega)
      have F0A : Far (fun k => k = b ∨ k = g0 ∨ NB ≤ k) w wA := F04.trans' hF (fun i _ h => .inl h)
      have cpA := hF.cell cp4 (by show ¬ gn = b; have := (rn4.lt gn rfl).1; omega)
      have hrlA : RU wA wA.heap.size Al l := RU.more (fun j hj => by
        obtain ⟨b', o', e, hb', h1, h2⟩ := hrl j hj
        have := hfl b' o' e
        exact ⟨b', o', e, hb', hF.cell h1 (by show ¬ b' = b; omega), hF.cell h2 (by show ¬ b' = b; omega)⟩) hF.size
      have hUA := hU
      clear hcm hfl2 hR4 hU hF rn4 ro4 F04 cp4 hrl kM4 kB4
      go_wp2_with fail
      go_loopw [83] (fun i w5 => ∃ (m : Nat) (T : Vm), m ≤ k ∧ i = .int .i64 m ∧ Hid ((l.take m).foldl (copyS p q) U = T) ∧ Hid (SysIs w5 b T) ∧ Far (fun k => k = b) wA w5) (fun i _ => k - (intOf i).toNat)
      case atStart => exact ⟨0, U, by omega, rfl, Lib.hid (by simp), hUA, Far.refl _ _⟩
      case round =>
        clear hUA
        obtain ⟨m, T, hm, rfl, hfl2, hT, hF⟩ := hrel
        have kM5 := hF.blk kMr (by show ¬ g0 = b; exact hg)
        have kB5 := hF.blk kBr (by show ¬ s = b; exact hsb)
        have cp5 := hF.cell cpA (by show ¬ gn = b; have := (rnA.lt gn rfl).1; omega)
        have hs5 := hF.size
        by_cases hlt2 : m < k
        · have hlt2' : decide ((m : Int) < (k : Int)) = true := by simpa using hlt2
          have hln2 := hln'.out
          have hst2 : (l.take (m + 1)).foldl (copyS p q) U = copyS p q T (l.getD m (0, 0)) := by rw [z_take (0, 0) l (by omega), List.foldl_append, hfl2.out]; rfl
          obtain ⟨rb, ro', rfl, hrb, c5, c6⟩ := hrlA.at_' (k := m) (by omega)
          have hrbs := hfl rb ro' rfl
          have d5 := hF.cell c5 (by show ¬ rb = b; omega)
          have d6 := hF.cell c6 (by show ¬ rb = b; omega)
          have hxm := hlx.out (l.getD m (0, 0)) (by rw [List.getD_eq_getElem?_getD, List.getElem?_eq_getElem (by omega)]; exact List.getElem_mem _)
          generalize l.getD m (0, 0) = x at *
          obtain ⟨xa, xb⟩ := x
          simp only at d5 d6 hst2 hxm
          obtain ⟨pa, hpa⟩ := Int.eq_ofNat_of_zero_le (show 0 ≤ p + xa by omega)
          obtain ⟨qa, hqa⟩ := Int.eq_ofNat_of_zero_le (show 0 ≤ q + xa by omega)
          obtain ⟨xn, rfl⟩ := Int.eq_ofNat_of_zero_le (show 0 ≤ xb by omega)
          have hst3 : Hid ((l.take (m + 1)).foldl (copyS p q) U = copyF T ((pa : Int) * 64) ((qa : Int) * 64) (xn * 64)) := Lib.hid (by
            rw [hst2]
            unfold copyS
            simp only [hpa, hqa]
            congr 1)
          have kx := Blk.new wr 115 #[.int .i64 xa, .int .i64 (xn : Int)]
          have hbx : Below wr.heap.size wr (wr.alloc (.cells #[.int .i64 xa, .int .i64 (xn : Int)] 115)) := (Below.refl _ _).alloc (Nat.le_refl _) _
          obtain ⟨gx, hgx⟩ : ∃ gx, wr.heap.size = gx := ⟨_, rfl⟩
          rw [hgx] at kx
          have hgw : gn < wr.heap.size := by have := (rnA.lt gn rfl).2; omega
          clear hst2 c5 c6 hfl2 hln2
          go_upto_region 20 with fail
          have Tx := Lib.hid (hT.out.call hbx)
          have hFx : Far (fun k => k = b) wA _ := hF.trans (.of_below hbx)
          have kMx := kM5.call hbx
          have kBx := kB5.call hbx
          have cpx := (hbx.cell (p := ⟨gn, mk * 3, none⟩) hgw).trans cp5
          generalize wr.alloc _ = w5 at *
          try simp only [hgx]
          have e1 := fun x : Ext w5 => (x.blk kBx).cell
          have e2 := fun x : Ext w5 => (x.blk kx).cell
          have e3 := fun x : Ext w5 => x.cell cpx
          clear hbx hT hF d5 d6 kM5 kB5 cp5
          refine region_ext_tail 15 (by kernel_rfl) (by kernel_rfl) ?_
          simp only [List.take_succ_cons, List.take_zero, List.drop_succ_cons, List.drop_zero]
          repeat (go_big_quiet_step (fail))
          refine wpQuiet_nil ?_
          intro z
          go_wp2_with fail
          refine (copy24_any g0 b pa qa xn _ v2 T z.w (Tx.out.call z.le) (kMx.call z.le) hg (by omega) (by omega) (by omega)).mono ?_
          rintro e w6 ⟨rfl, V6, F6⟩
          have V6' := Lib.hid V6
          have hF6 : Far (fun k => k = b) wA w6 := (hFx.trans (.of_below z.le)).trans F6
          clear e1 e2 e3 V6 F6 hFx Tx kMx kBx kx cpx
          go_wp2_with fail
          go_roundw
          case rel => exact ⟨m + 1, _, by omega, by go_num, hst3, V6', hF6⟩
          case measure => simp [intOf]; omega
        · obtain rfl : m = k := by omega
          have hlt2' : decide ((m : Int) < (m : Int)) = false := by simp
          have hln2 := hln'.out
          have hT4 : l.foldl (copyS p q) U = T := by have := hfl2.out; rwa [List.take_of_length_le (by omega)] at this
          rw [hT4] at hR5
          have rn5 := ownsRow_far rnA hF (fun g hg h => by have := (rnA.lt g hg).1; omega)
          have ro5 := ownsRow_far roA hF (fun g hg h => by have := (roA.lt g hg).1; omega)
          have F05 : Far (fun k => k = b ∨ k = g0 ∨ NB ≤ k) w wr := F0A.trans' hF (fun i _ h => .inl h)
          have hrl5 : RU wr wr.heap.size Al l := RU.more (fun j hj => by
            obtain ⟨b', o', e, hb', h1, h2⟩ := hrlA j hj
            have := hfl b' o' e
            exact ⟨b', o', e, hb', hF.cell h1 (by show ¬ b' = b; omega), hF.cell h2 (by show ¬ b' = b; omega)⟩) hF.size
          have fz := rn5.frozenAt (mk * 3)
          obtain ⟨hst5, _⟩ := rn5.stored (mk * 3) (.int .i64 q)
          rw [hset.out] at hst5
          have FS : Far (fun k => k = gn) wr (wr.setCell ⟨gn, mk * 3, none⟩ (.int .i64 q)) := Far.setCell (T := fun k => k = gn) (p := ⟨gn, mk * 3, none⟩) (Far.refl _ wr) (fun _ => rfl) _
          have c5 := kB5.cell
          have hV5 := hT
          clear hT4 hln2 hfl2 hrlA rnA roA F0A cpA hF hT
          go_upto_region 24 with fail
          generalize wr.setCell ⟨gn, mk * 3, none⟩ (.int .i64 q) = w6 at *
          have kM6 := FS.blk kM5 (fun h => own_other rn5 (by rw [h]; rfl) kM5 (by decide))
          have ro6 := ownsRow_far ro5 FS (fun g hg h => rows_apart ro5 rn5 (by decide) hg (by rw [h]; rfl))
          have V6 := Lib.hid (hV5.out.far FS (fun h => by omega) (fun _ _ _ _ _ _ g _ _ _ hc hg => hc.elim fun cr hcr => own_other rn5 (by rw [hg]; rfl) hcr (by decide)))
          have hrl6 : RU w6 w6.heap.size Al l := RU.more (fun j hj => by
            obtain ⟨b', o', e, hb', h1, h2⟩ := hrl5 j hj
            have := hfl b' o' e
            exact ⟨b', o', e, hb', FS.cell h1 (by show ¬ b' = gn; omega), FS.cell h2 (by show ¬ b' = gn; omega)⟩) FS.size
          have F06 : Far (fun k => k = b ∨ k = g0 ∨ NB ≤ k) w w6 := F05.trans' FS (fun i _ h => .inr (.inr (by omega)))
          have hs6 := F06.size
          have hbd : ∀ x ∈ l, (0 ≤ x.1 ∧ x.1 ≤ 1024) ∧ 0 ≤ x.2 ∧ x.2 ≤ 1024 := fun x hx => by have := hlx.out x hx; omega
          have HLv := Lib.hid (leave24_any g0 b NB p n Al m cl l st _ v2 T w6 V6.out kM6 hg ro6 (by omega) hbN hst hln'.out hrl6 (fun g o e _ => by have := hfl g o e; omega) hbd (by omega) hp hn1)
          obtain ⟨L, hL⟩ : ∃ L, leaveF T p (n : Int) l = L := ⟨_, rfl⟩
          rw [hL] at HLv hR5
          clear hbd hL hV5 hrl5 F05 ro5 FS c5 kB5 fz kM5 hrl6 V6
          go_wp2_with fail
          refine HLv.out.mono ?_
          rintro e w9 ⟨rfl, v2', kM9, ro9, V9, F9⟩
          have rn9 := ownsRow_far hst5 F9 (fun g hg h => by
            rcases h with h | h | h
            · have := (hst5.lt g hg).1; omega
            · exact own_other hst5 (hg.trans (congrArg some h)) kM6 (by decide)
            · exact rows_apart hst5 ro6 (by decide) hg h)
          have F09 : Far (fun k => k = b ∨ k = g0 ∨ NB ≤ k) w w9 := F06.trans' F9 (fun i _ h => h.elim .inl (fun h => h.elim (fun h => .inr (.inl h)) (fun h => .inr (.inr (ro6.lt i h).1))))
          clear HLv kM6 ro6 F06 F9
          go_wp2_with fail
          go_ret
          refine ⟨R, rfl, ?_, ?_, F09⟩
          · rw [hR5.out]; rfl
          · rw [hR5.out]
            have e1 : movSt st p q n (L.1, true, L.1 != 0, L.2) = stayF st L.1 (p, n) := by
              unfold movSt stayF
              by_cases h : L.1 = 0 <;> simp [h]
            rw [e1, hmv.out]
            exact ⟨⟨v2', kM9, rn9, ro9⟩, V9⟩
end Go.Proofs.YtpabnbhbcphfiaaGreat
namespace Go.Pol
open Go
/-- page q: committed, live; group q: number, committed, live, huge -/
structure LookIs (cs : Array Value) (cm lv : Nat → Bool) (nm gc gl : Nat → Int) (gh : Nat → Bool) : Prop where
  size : cs.size = 2304
  cm : ∀ q, q < 1024 → cs[q * 2]? = some (.bool (cm q))
  lv : ∀ q, q < 1024 → cs[q * 2 + 1]? = some (.bool (lv q))
  nm : ∀ q, q < 64 → cs[2048 + q * 4]? = some (.int .i64 (nm q))
  gc : ∀ q, q < 64 → cs[2048 + q * 4 + 1]? = some (.int .i64 (gc q))
  gl : ∀ q, q < 64 → cs[2048 + q * 4 + 2]? = some (.int .i64 (gl q))
  gh : ∀ q, q < 64 → cs[2048 + q * 4 + 3]? = some (.bool (gh q))
end Go.Pol
namespace Go.Pol
open Go Go.RowKit
/-- strips 2^d values 'false' off a list -/
def strip : Nat → List Value → Option (List Value)
  | 0, .bool false :: r => some r
  | 0, _ => none
  | d + 1, l => match strip d l with
    | some r => strip d r
    | none => none
theorem strip_spec : ∀ (d : Nat) (l r : List Value), strip d l = some r → l = List.replicate (2 ^ d) (.bool false) ++ r
  | 0, l, r, h => by
    unfold strip at h
    split at h
    · cases h; rfl
    · cases h
    · rename_i h2 _ _; omega
  | d + 1, l, r, h => by
    rw [strip] at h
    split at h
    · rename_i r' h'
      have h1 := strip_spec d l r' h'
      have h2 := strip_spec d r' r h
      rw [h1, h2, ← List.append_assoc, List.replicate_append_replicate]
      rw [show 2 ^ d + 2 ^ d = 2 ^ (d + 1) by rw [Nat.pow_succ]; omega]
    · cases h
theorem RI.on {w w' : World} {A : Option Addr} {us : List Int} (h : RI w w.heap.size A us) (hb : Below w.heap.size w w')   : RI w' w'.heap.size A us := (h.below hb).more hb.size
end Go.Pol
namespace Go.Pol
open Go Go.RowKit
/-- a group: number, committed, live, huge -/
abbrev Gp := Int × Int × Int × Bool
theorem ext_get {cs : Array Value} {s e j : Nat} (h : j < min e cs.size - s) : (cs.extract s e)[j]? = cs[s + j]? := by
  rw [Array.getElem?_extract_of_lt h]; exact (Array.getElem?_eq_getElem _).symm
theorem LookIs.rangeAt {w : World} {b : Nat} {t : TypeId} {cs : Array Value} {cm lv : Nat → Bool} {nm gc gl : Nat → Int} {gh : Nat → Bool} (h : LookIs cs cm lv nm gc gl gh) (hb : Blk w b t cs) :
    w.rangeAt b 2048 (cs.extract 2048 2304).toList := fun j v hj => by
  rw [Array.getElem?_toList] at hj
  have hlt : j < 256 := by
    have := (Array.getElem?_eq_some_iff.1 hj).1
    simp [h.size] at this
    exact this
  rw [hb.cell, ← hj, ext_get (by rw [h.size]; omega)]
end Go.Pol
namespace Go.Pol
open Go Go.RowKit
def hugeP (g : Gp) : Bool := g.2.2.2
end Go.Pol
namespace Go.Proofs.YtpabnbhbcphfiaaGreat
open Go Go.Proofs Go.RowKit Go.Pol Go.Shelf
attribute [local go_sem] Oper.semAt_some Go.Pol.wide_fn Go.Pol.wide_depth Go.Pol.wide_fn' Go.Pol.wide_depth'

/-- the value of a state, and what its slices hold -/
structure StIs (w : World) (S : Value) (C L : List Sp) (H : List Int) : Prop where
  ex : ∃ (A1 A2 A3 : Option Addr) (n1 c1 n2 c2 n3 c3 : Nat), S = .agg #[.slice A1 n1 c1, .slice A2 n2 c2, .slice A3 n3 c3] ∧ C.length = n1 ∧ n1 ≤ maxLen ∧ RU w w.heap.size A1 C ∧
    L.length = n2 ∧ n2 ≤ maxLen ∧ RU w w.heap.size A2 L ∧ H.length = n3 ∧ n3 ≤ maxLen ∧ RI w w.heap.size A3 H
theorem StIs.on {w w' : World} {S : Value} {C L : List Sp} {H : List Int} (h : StIs w S C L H) (hb : Below w.heap.size w w') : StIs w' S C L H := by
  obtain ⟨A1, A2, A3, n1, c1, n2, c2, n3, c3, h0, h1, h2, h3, h4, h5, h6, h7, h8, h9⟩ := h.ex
  exact ⟨A1, A2, A3, n1, c1, n2, c2, n3, c3, h0, h1, h2, h3.on hb, h4, h5, h6.on hb, h7, h8, RI.on h9 hb⟩
/-- what a list of numbers and an error look like that are handed back -/
def IntsE (r : List Int × Int) (w : World) (e : Ending) (w' : World) : Prop := ∃ (A : Option Addr) (cap : Nat), e = .returned (.tuple #[.slice A r.1.length cap, .int .i64 r.2]) ∧ RI w' w'.heap.size A r.1 ∧ Below w.heap.size w w'
/-- such a list in memory of its own -/
def IntsN (r : List Int × Int) (w : World) (e : Ending) (w' : World) : Prop := ∃ (A : Option Addr) (cap : Nat), e = .returned (.tuple #[.slice A r.1.length cap, .int .i64 r.2]) ∧ RI w' w'.heap.size A r.1 ∧ (∀ b o, A = some ⟨b, o, none⟩ → w.heap.size ≤ b) ∧ Below w.heap.size w w'
theorem IntsN.e {r : List Int × Int} {w : World} {e : Ending} {w' : World} (h : IntsN r w e w') : IntsE r w e w' := by
  obtain ⟨A, cap, h1, h2, _, h4⟩ := h
  exact ⟨A, cap, h1, h2, h4⟩
end Go.Proofs.YtpabnbhbcphfiaaGreat
namespace Go.Proofs.YtpabnbhbcphfiaaGreat
open Go Go.Proofs Go.RowKit Go.Pol Go.Shelf
attribute [local go_sem] Oper.semAt_some Go.Pol.wide_fn Go.Pol.wide_depth Go.Pol.wide_fn' Go.Pol.wide_depth'

theorem built_vc : Tryz.prog.built 163 [] = some #[.int .i64 0, .int .i64 0, .int .i64 0, .int .i64 0, .int .i64 0] := by kernel_rfl
set_option maxRecDepth 100000 in
set_option maxHeartbeats 1600000 in
theorem countsNil_any (w : World) :
    Calls Tryz.prog 85 #[.pointer none] w fun e w' => e = .returned (.tuple #[.agg #[.int .i64 0, .int .i64 0, .int .i64 0, .int .i64 0, .int .i64 0], .int .i64 1]) ∧ Below w.heap.size w w' := by
  have HI := Lib.hid (fun W => isNil_any W)
  have hb0 := (Below.refl w.heap.size w).alloc (Nat.le_refl _) (.cells #[.int .i64 0, .int .i64 0, .int .i64 0, .int .i64 0, .int .i64 0] 163)
  have k0 := Blk.new w 163 #[.int .i64 0, .int .i64 0, .int .i64 0, .int .i64 0, .int .i64 0]
  obtain ⟨s, hs⟩ : ∃ s, w.heap.size = s := ⟨_, rfl⟩
  rw [hs] at k0
  go_enter Tryz.func85, Tryz.ntmps85
  go_upto_region 1 with fail
  generalize w.alloc _ = w0 at *
  try simp only [hs]
  go_wp2_with fail
  refine (HI.out _).mono ?_
  rintro e9 w9 ⟨rfl, hw9⟩
  replace hw9 := hw9.symm
  subst hw9
  go_upto_region 2 with fail
  obtain ⟨Z, hZ⟩ : ∃ Z : Array Value, #[.int .i64 0, .int .i64 0, .int .i64 0, .int .i64 0, .int .i64 0] = Z := ⟨_, rfl⟩
  have hbv : Tryz.prog.built 163 [] = some Z := by rw [← hZ]; exact built_vc
  have hZs : Z.size = 5 := by rw [← hZ]; rfl
  have ht : w0.there s 0 Z.size := by rw [hZs]; exact z_there k0 0 5 (by simp)
  have hinf : (Tryz.prog.info? 163).map (·.size) = some Z.size := by rw [hZs]; exact infoVc
  have hone : Z.all (·.oneCell') = true := by
    rw [← hZ]
    exact Go.all_oneCell_toArray (cs := [.int .i64 0, .int .i64 0, .int .i64 0, .int .i64 0, .int .i64 0]) (fun v hv => by simp at hv; rw [hv]; rfl)
  have hF2 := Far.puts (T := fun k => k = s) rfl Z.toList 0 w0 w0 (Far.refl _ _)
  have kP := Blk.puts (g := s) (t := 163) (w := w0) (cs := #[]) Z.toList 0 w0 _ k0
  rw [putA_all (by rw [Array.length_toList, hZs]; rfl)] at kP
  have hZ' := Lib.hid hZ
  have hs' := Lib.hid hs
  clear hZ hs HI
  go_wp2_with (refine wpList_buildU rfl 10 rfl 163 [] rfl _ rfl Z hbv ?_; refine wpList_store_mid rfl 163 (.tmp 2) (.tmp 10) rfl s 0 Z rfl rfl ht hinf hone ?_)
  generalize World.setCells w0 s 0 Z.toList = w9 at *
  have hl9 := run_loadVar_mid (P := Tryz.prog) w9 s 0 163 Z.toList _ (fun j v hj => by rw [Nat.zero_add, kP.cell]; simpa using hj) Tryz.underlying163 rfl (by rw [Array.length_toList]; exact hinf)
  rw [Array.toArray_toList] at hl9
  refine bodyPost_ret (v := .tuple #[.agg Z, .int .i64 1]) ?_ rfl ?_
  · exact z_results_cell_tmp Tryz.results85 rfl hl9
  exact ⟨by rw [hZ'.out], by rw [hs'.out]; rw [hs'.out] at hb0; exact hb0.trans (hF2.below (by have := hb0.size; have := hs'.out; omega) (fun k hk e => by omega))⟩
end Go.Proofs.YtpabnbhbcphfiaaGreat
namespace Go.Pol
open Go Go.Proofs Go.RowKit
/-- the blocks afterwards, what stays, an error, and a system that has become this -/
def DoO (b : Nat) (r : List B3 × List Sp × Int × Vm) (w : World) (e : Ending) (w' : World) : Prop :=
  ∃ (A : Option Addr) (cap : Nat) (A' : Option Addr) (cap' : Nat), e = .returned (.tuple #[.slice A r.1.length cap, .slice A' r.2.1.length cap', .int .i64 r.2.2.1]) ∧ RT w' w'.heap.size A r.1 ∧ (∀ g o, A = some ⟨g, o, none⟩ → w.heap.size ≤ g) ∧ RU w' w'.heap.size A' r.2.1 ∧ (∀ g o, A' = some ⟨g, o, none⟩ → w.heap.size ≤ g) ∧ SysIs w' b r.2.2.2 ∧ Far (fun k => k = b) w w'
end Go.Pol
namespace Go.Proofs.YtpabnbhbcphfiaaGreat
open Go Go.Proofs Go.RowKit Go.Pol Go.Shelf
attribute [local go_sem] Oper.semAt_some Go.Pol.wide_fn Go.Pol.wide_depth Go.Pol.wide_fn' Go.Pol.wide_depth'

set_option maxRecDepth 100000 in
set_option maxHeartbeats 3200000 in
theorem do24_any (b : Nat) (pages : Int) (A M : Option Addr) (nb cb nm cm : Nat) (bs : List B3) (ms : List (Int × Int)) (V : Vm) (w : World) (hV : SysIs w b V) (hK : KindOk V) (hn : bs.length = nb) (hm : nb ≤ maxLen) (hz : A = none → cb = 0) (hr : RT w w.heap.size A bs) (hmn : ms.length = nm) (hmm : nm ≤ maxLen) (hru : RU w w.heap.size M ms)
    (hMb : ∀ g o, M = some ⟨g, o, none⟩ → 0 < nm → g ≠ b) :
    Calls Tryz.prog 27 #[.pointer (some ⟨b, 0, none⟩), .int .i64 pages, .slice A nb cb, .slice M nm cm] w (DoO b (doF V pages bs ms) w) := by
  have HC := Lib.hid (fun W h => counts_any b V W h hK)
  have HA := Lib.hid (fun W hr hru => after_any pages A M nb cb nm cm bs ms W hn hm hz hr hmn hmm hru)
  have hV0 := Lib.hid hV
  have hr0 := Lib.hid hr
  have hru0 := Lib.hid hru
  have hbs := hV.lt
  obtain ⟨R, hR⟩ : ∃ R, doF V pages bs ms = R := ⟨_, rfl⟩
  rw [hR]
  have hR' := Lib.hid hR
  have hn' := Lib.hid hn
  have hmn' := Lib.hid hmn
  clear hR hV hK hr hru hn hmn
  go_enter Tryz.func27, Tryz.ntmps27
  go_wp2_with fail
  refine (HC.out _ hV0.out).mono ?_
  rintro e w1 ⟨⟨cs, hcs, rfl⟩, hb1⟩
  obtain ⟨q, hq⟩ : ∃ q, w1.heap.size = q := ⟨_, rfl⟩
  have hsz := hcs.size
  have kz := Blk.new w1 163 #[.int .i64 0, .int .i64 0, .int .i64 0, .int .i64 0, .int .i64 0]
  rw [hq] at kz
  have ht : (w1.alloc (.cells #[.int .i64 0, .int .i64 0, .int .i64 0, .int .i64 0, .int .i64 0] 163)).there q 0 cs.size := by rw [hsz]; exact z_there kz 0 5 (by simp)
  have hF2 := Far.puts (T := fun k => k = q) rfl cs.toList 0 w1 _ ((Far.refl _ w1).alloc (.cells #[.int .i64 0, .int .i64 0, .int .i64 0, .int .i64 0, .int .i64 0] 163))
  have hone := Go.all_oneCell_toArray (hcs.one)
  rw [Array.toArray_toList] at hone
  have hinf : (Tryz.prog.info? 163).map (·.size) = some cs.size := by rw [hsz]; exact infoVc
  clear kz HC
  go_upto_region 2 with (refine wpList_store_mid rfl 163 (.tmp 11) (.tmp 28) rfl q 0 cs rfl rfl ht hinf hone ?_)
  generalize World.setCells _ q 0 _ = w2 at *
  have hb2 := hF2.below (n := w1.heap.size) (Nat.le_refl _) (fun k hk e => by omega)
  have B2 := hb1.trans (hb2.mono hb1.size)
  have r2 := hr0.out.on B2
  have ru2 := hru0.out.on B2
  clear hF2 ht hone hinf hcs hsz hb1 hb2
  go_wp2_with fail
  refine (HA.out _ r2 ru2).mono ?_
  rintro e w3 ⟨Aa, ca, rfl, _, hb3⟩
  have C3 := B2.trans (hb3.mono B2.size)
  have V3 := Lib.hid (hV0.out.call C3)
  have r3 := Lib.hid (hr0.out.on C3)
  have ru3 := Lib.hid (hru0.out.on C3)
  unfold doF at hR'
  have hsz3 := C3.size
  by_cases h0 : (afterB pages bs ms).2 = 0
  case neg =>
    have h0' : ((afterB pages bs ms).2 != 0) = true := by simpa using h0
    have hR2 : Hid (R = ([], [], (afterB pages bs ms).2, V)) := Lib.hid (by rw [← hR'.out, if_pos h0])
    generalize (afterB pages bs ms).2 = er at *
    clear HA r2 ru2 hR' h0
    go_wp2_with fail
    (try simp only [Exit.inBlock, Exit.then]); refine bodyPost_ret (results_tmp3 rfl _ _ _) rfl ?_
    rw [hR2.out]
    exact ⟨none, 0, none, 0, rfl, RT.nil, fun _ _ h => (by cases h), RU.nil, fun _ _ h => (by cases h), V3.out, .of_below C3⟩
  obtain ⟨hck, hml, hal⟩ := after_of h0
  obtain ⟨hp1, hnb, hins⟩ := chk_ins hck
  have hR2 : Hid (R = if downB V bs ms = true then ([], [], 9, V) else doL V bs [] ms) := Lib.hid (by rw [← hR'.out, if_neg (by simp [h0])])
  rw [h0]
  have hmem := Lib.hid (after_all ms bs hal)
  have hins' := Lib.hid hins
  have hal' := Lib.hid hal
  rw [hn'.out] at hnb
  rw [hmn'.out] at hml
  obtain ⟨D, hD⟩ : ∃ D, downB V bs ms = D := ⟨_, rfl⟩
  rw [hD] at hR2
  have hD' := Lib.hid hD
  have hB3 := Lib.hid C3
  clear HA r2 ru2 hR' h0 hck hal hins hD B2 hb3
  go_wp2_with fail
  go_loopw [45] (fun i wr => ∃ k : Nat, k ≤ nm ∧ i = .int .i64 k ∧ Hid (downB V bs (ms.drop k) = D) ∧ Below w3.heap.size w3 wr) (fun i _ => nm - (intOf i).toNat)
  case atStart => exact ⟨0, by omega, rfl, Lib.hid (by simpa using hD'.out), Below.refl _ _⟩
  case round =>
    clear hD'
    obtain ⟨k, hk, rfl, hdr, hB⟩ := hrel
    by_cases hlt : k < nm
    · have hlt' : decide ((k : Int) < (nm : Int)) = true := by simpa using hlt
      have hmn2 := hmn'.out
      have hn2 := hn'.out
      have hB3s := hsz3
      have hdc := hdr.out
      rw [drop_cons (0, 0) ms k (by omega), downB_cons] at hdc
      obtain ⟨rb, ro, rfl, hrb, c5, c6⟩ := (ru3.out.below hB).at_' (k := k) (by omega)
      have hxm := hmem.out (ms.getD k (0, 0)) (by rw [List.getD_eq_getElem?_getD, List.getElem?_eq_getElem (by omega)]; exact List.getElem_mem _)
      generalize ms.getD k (0, 0) = x at *
      obtain ⟨xk, xt⟩ := x
      simp only at hxm c5 c6
      obtain ⟨mk, rfl⟩ := Int.eq_ofNat_of_zero_le hxm.1
      have hbm : Hid (badM V bs ((mk : Int), xt) = (List.range (pw (bs.getD mk b0).2.1).toNat).any fun i => badB V ((bs.getD mk b0).1 + (i : Int))) := Lib.hid rfl
      obtain ⟨ab, ao, rfl, hab, p0, p1, _⟩ := (r3.out.below hB).at_ (k := mk) (by omega)
      have hib := ins_bounds hp1 (hins'.out (bs.getD mk b0) (by rw [List.getD_eq_getElem?_getD, List.getElem?_eq_getElem (by omega)]; exact List.getElem_mem _))
      generalize bs.getD mk b0 = blk at *
      obtain ⟨p, o, pin⟩ := blk
      simp only at p0 p1 hbm hib
      obtain ⟨n, hpn⟩ : ∃ n : Nat, pw o = (n : Int) := Int.eq_ofNat_of_zero_le (by have := pw_pos o; omega)
      have hn1 : n ≤ 1024 := by have := pw_le hib.1.2; omega
      have HSz := Lib.hid (fun W => size_any o W hib.1)
      rw [hpn] at HSz hbm
      rw [Int.toNat_natCast] at hbm
      have hmki : (mk : Int) < (nb : Int) := by omega
      have kx := Blk.new wr 152 #[.int .i64 (mk : Int), .int .i64 xt]
      have hbx : Below wr.heap.size wr (wr.alloc (.cells #[.int .i64 (mk : Int), .int .i64 xt] 152)) := (Below.refl _ _).alloc (Nat.le_refl _) _
      obtain ⟨gx, hgx⟩ : ∃ gx, wr.heap.size = gx := ⟨_, rfl⟩
      rw [hgx] at kx
      have hsB := hB.size
      have p05 := (hbx.cell (p := ⟨ab, ao + mk * 3, none⟩) (by show ab < wr.heap.size; omega)).trans p0
      have p15 := (hbx.cell (p := ⟨ab, ao + mk * 3 + 1, none⟩) (by show ab < wr.heap.size; omega)).trans p1
      have hdc' := Lib.hid hdc
      have cx := kx.cell
      clear hdr hdc hxm hpn
      go_upto_region 10 with fail
      have B5 : Below w3.heap.size w3 _ := hB.trans (hbx.mono hsB)
      generalize wr.alloc _ = w5 at *
      try simp only [hgx]
      clear hbx hB p0 p1 c5 c6
      go_wp2_with fail
      refine (HSz.out _).mono ?_
      rintro e w6 ⟨rfl, hw6⟩
      replace hw6 := hw6.symm
      subst hw6
      clear cx p15
      go_wp2_with fail
      go_loopw [56] (fun i wz => ∃ j : Nat, j ≤ n ∧ i = .int .i64 j ∧ Hid (∀ i : Nat, i < j → badB V (p + (i : Int)) = false) ∧ Below w5.heap.size w5 wz) (fun i _ => n - (intOf i).toNat)
      case atStart => exact ⟨0, by omega, rfl, Lib.hid (fun i hi => absurd hi (by omega)), Below.refl _ _⟩
      case round =>
        obtain ⟨j, hj, rfl, hall, hB6⟩ := hrel
        by_cases hlt2 : j < n
        · have hlt2' : decide ((j : Int) < (n : Int)) = true := by simpa using hlt2
          have kx6 := kx.call hB6
          have cx := kx6.cell
          have p06 := (hB6.cell (p := ⟨ab, ao + mk * 3, none⟩) (by show ab < w5.heap.size; have := B5.size; omega)).trans p05
          have V6 := V3.out.call (B5.trans (hB6.mono B5.size))
          have HKd := vkind_any b (p + (j : Int)) V wr V6
          obtain ⟨kd, hkd⟩ : ∃ kd, kindF V (p + (j : Int)) = kd := ⟨_, rfl⟩
          obtain ⟨hu, hhu⟩ : ∃ hu, hugeF V (p + (j : Int)) = hu := ⟨_, rfl⟩
          have hbd : Hid (badB V (p + (j : Int)) = ((kd == 0 || kd == 3) || hu)) := Lib.hid (by unfold badB; rw [hkd, hhu])
          unfold kindF at hkd
          unfold hugeF at hhu
          rw [hkd, hhu] at HKd
          generalize (if 0 ≤ p + (j : Int) ∧ p + (j : Int) < 1024 then (0 : Int) else 7) = er at HKd
          have HKd' := Lib.hid HKd
          clear hkd hhu HKd kx6
          go_wp2_with fail
          refine HKd'.out.mono ?_
          rintro e w7 ⟨rfl, hb7⟩
          have B7 := B5.trans ((hB6.trans (hb7.mono hB6.size)).mono B5.size)
          have Bw7 := hB3.out.trans (B7.mono hsz3)
          have V7 := V3.out.call B7
          have hbad : ((kd == 0 || kd == 3) || hu) = true → Hid (R = ([], [], 9, V)) := fun h => Lib.hid (by
            have hDt : D = true := by
              rw [← hdc'.out, hbm.out, Bool.or_eq_true]
              refine .inl (List.any_eq_true.2 ⟨j, List.mem_range.2 hlt2, ?_⟩)
              rw [hbd.out]; exact h
            rw [hR2.out, if_pos hDt])
          have hb67 := hB6.trans (hb7.mono hB6.size)
          clear HKd' cx p06 V6 hb7
          by_cases h1 : kd = 0
          · subst h1
            have hR3 := hbad (by simp)
            clear hbad
            go_wp2_with fail
            (try simp only [Exit.inBlock, Exit.then]); refine bodyPost_ret (results_tmp3 rfl _ _ _) rfl ?_
            rw [hR3.out]
            exact ⟨none, 0, none, 0, rfl, RT.nil, fun _ _ h => (by cases h), RU.nil, fun _ _ h => (by cases h), V7, .of_below Bw7⟩
          by_cases h2 : kd = 3
          · subst h2
            have hR3 := hbad (by simp)
            clear hbad
            go_wp2_with fail
            (try simp only [Exit.inBlock, Exit.then]); refine bodyPost_ret (results_tmp3 rfl _ _ _) rfl ?_
            rw [hR3.out]
            exact ⟨none, 0, none, 0, rfl, RT.nil, fun _ _ h => (by cases h), RU.nil, fun _ _ h => (by cases h), V7, .of_below Bw7⟩
          have h1' : (kd == 0) = false := by simpa using h1
          have h2' : (kd == 3) = false := by simpa using h2
          cases hu with
          | true =>
            have hR3 := hbad (by simp)
            clear hbad h1 h2
            go_wp2_with fail
            (try simp only [Exit.inBlock, Exit.then]); refine bodyPost_ret (results_tmp3 rfl _ _ _) rfl ?_
            rw [hR3.out]
            exact ⟨none, 0, none, 0, rfl, RT.nil, fun _ _ h => (by cases h), RU.nil, fun _ _ h => (by cases h), V7, .of_below Bw7⟩
          | false =>
            have hall2 : Hid (∀ i : Nat, i < j + 1 → badB V (p + (i : Int)) = false) := Lib.hid (fun i hi => by
              by_cases e : i = j
              · subst e
                rw [hbd.out, h1', h2']; rfl
              · exact hall.out i (by omega))
            clear hbad h1 h2 V7
            go_wp2_with fail
            go_roundw
            case rel => exact ⟨j + 1, by omega, by go_num, hall2, hb67⟩
            case measure => simp [intOf]; omega
        · obtain rfl : j = n := by omega
          have hlt2' : decide ((j : Int) < (j : Int)) = false := by simp
          have hnx : Hid (downB V bs (ms.drop (k + 1)) = D) := Lib.hid (by
            have := hdc'.out
            rw [hbm.out, List.any_eq_false.2 (fun i hi => by rw [hall.out i (List.mem_range.1 hi)]; decide), Bool.false_or] at this
            exact this)
          have B6 := B5.trans (hB6.mono B5.size)
          go_wp2_with fail
          go_roundw
          case rel => exact ⟨k + 1, by omega, by go_num, hnx, B6⟩
          case measure => simp [intOf]; omega
    · obtain rfl : k = nm := by omega
      have hlt' : decide ((k : Int) < (k : Int)) = false := by simp
      have hDf : D = false := by
        rw [← hdr.out, List.drop_of_length_le (by rw [hmn'.out]; exact Nat.le_refl _)]
        rfl
      have hR3 : Hid (R = doL V bs [] ms) := Lib.hid (by rw [hR2.out, hDf, if_neg (by decide)])
      obtain ⟨wA, rfl⟩ : ∃ wA, wA = wr := ⟨_, rfl⟩
      obtain ⟨NB, hNB⟩ : ∃ NB, wA.heap.size = NB := ⟨_, rfl⟩
      have BA := hB3.out.trans (hB.mono hsz3)
      have VA := Lib.hid (V3.out.call hB)
      have hsA := hB.size
      have HCl := Lib.hid (clone_anyV A nb cb bs wA hn'.out (by omega) hz ((r3.out.below hB).more hB.size))
      have ruA := Lib.hid (show RU wA w3.heap.size M ms from ru3.out.below hB)
      clear hR2 hdr hDf hB
      go_wp2_with fail
      refine HCl.out.mono ?_
      rintro e w6 ⟨vc, rfl, rn6, hb6⟩
      obtain ⟨Av, cv, rfl⟩ := own_slice rn6
      have B6 := BA.trans (hb6.mono BA.size)
      have V6 := VA.out.call hb6
      have hs6 := hb6.size
      rw [hNB] at rn6 hb6
      have kM := Blk.new w6 169 #[.pointer (some ⟨b, 0, none⟩), .slice Av nb cv, .slice none 0 0]
      have hbm : Below w6.heap.size w6 (w6.alloc (.cells #[.pointer (some ⟨b, 0, none⟩), .slice Av nb cv, .slice none 0 0] 169)) := (Below.refl _ _).alloc (Nat.le_refl _) _
      obtain ⟨g0, hg0⟩ : ∃ g0, w6.heap.size = g0 := ⟨_, rfl⟩
      rw [hg0] at kM
      have ru6 := ruA.out.below (hb6.mono (by omega))
      clear HCl ruA VA
      go_upto_region 19 with fail
      have V7 := V6.call hbm
      have rn7 := ownsRow_call rn6 hbm
      have B7 := B6.trans (hbm.mono B6.size)
      have ru7 := Lib.hid (ru6.below (hbm.mono (by omega)))
      have hs7 := hbm.size
      generalize w6.alloc _ = w7 at *
      try simp only [hg0]
      have hMv7 := Lib.hid (MovIs.mk (tm := 169) (tb := 65) (ts := 115) (g0 := g0) (b := b) (NB := NB) (A := Av) (nb := nb) (nc := cv) (bs := bs) (st := []) (V := V) (w := w7) ⟨_, kM, rn7, World.ownsRow_nil _ _ _ _⟩ V7)
      have B7' := Lib.hid B7
      have hbNB : b < NB := by omega
      have hgb : g0 ≠ b := by omega
      clear V6 rn6 B6 hb6 ru6 hbm kM rn7 V7 B7 BA
      go_wp2_with fail
      go_loopw [91] (fun i w5 => ∃ (j : Nat) (bk : List B3) (sk : List Sp) (U : Vm), j ≤ k ∧ i = .int .i64 j ∧ Hid (doL V bs [] ms = doL U bk sk (ms.drop j)) ∧ Hid ((afterL pages bk (ms.drop j)).2 = 0) ∧ Hid (∀ x ∈ bk, insB pages x.1 x.2.1 = true) ∧ Hid (bk.length = nb) ∧ sk.length ≤ j ∧ Hid (MovIs w5 169 65 115 g0 b NB Av nb cv bk sk U) ∧ Far (fun k => k = b ∨ k = g0 ∨ NB ≤ k) w7 w5) (fun i _ => k - (intOf i).toNat)
      case atStart => exact ⟨0, bs, [], V, by omega, rfl, Lib.hid (by simp), Lib.hid (by simpa using hal'.out), hins', hn', by simp, hMv7, Far.refl _ _⟩
      case round =>
        clear hMv7
        obtain ⟨j, bk, sk, U, hj, rfl, hdo, haf, hik, hbl, hsk, hMv, hF⟩ := hrel
        have hB7s := B7'.out.size
        by_cases hlt2 : j < k
        · have hlt2' : decide ((j : Int) < (k : Int)) = true := by simpa using hlt2
          have hmn2 := hmn'.out
          have hdo2 := hdo.out
          have haf2 := haf.out
          rw [drop_cons (0, 0) ms j (by omega), doL_cons] at hdo2
          rw [drop_cons (0, 0) ms j (by omega)] at haf2
          obtain ⟨rb, ro, rfl, hrb, c5, c6⟩ := ru7.out.at_' (k := j) (by omega)
          have hne := hMb _ _ rfl (by omega)
          have d5 := hF.cell c5 (by show ¬ (rb = b ∨ rb = g0 ∨ NB ≤ rb); omega)
          have d6 := hF.cell c6 (by show ¬ (rb = b ∨ rb = g0 ∨ NB ≤ rb); omega)
          generalize ms.getD j (0, 0) = x at *
          obtain ⟨xk, xt⟩ := x
          simp only at d5 d6
          obtain ⟨hps, haf3⟩ := after_cons haf2
          obtain ⟨hin, hit⟩ := poss_ins hps
          simp only at hin hit
          obtain ⟨mk, rfl⟩ := Int.eq_ofNat_of_zero_le hin.1
          have hbl2 := hbl.out
          have hit2 := ins_bounds hp1 hit
          have hib := ins_bounds hp1 (hik.out (bk.getD mk b0) (by rw [List.getD_eq_getElem?_getD, List.getElem?_eq_getElem (by omega)]; exact List.getElem_mem _))
          have hik2 := Lib.hid (ins_mov hps hik.out)
          have hmkn : mk < nb := by omega
          obtain ⟨v2, kMk, rnk, rok⟩ := hMv.out.ex
          obtain ⟨gn, cq, e3, _⟩ := rnk.form (by omega)
          have eA : Av = some ⟨gn, 0, none⟩ := by injection e3
          subst eA
          clear e3
          have Vk := hMv.out.sys
          have kx := Blk.new wr 152 #[.int .i64 (mk : Int), .int .i64 xt]
          have hbx : Below wr.heap.size wr (wr.alloc (.cells #[.int .i64 (mk : Int), .int .i64 xt] 152)) := (Below.refl _ _).alloc (Nat.le_refl _) _
          obtain ⟨gx, hgx⟩ : ∃ gx, wr.heap.size = gx := ⟨_, rfl⟩
          rw [hgx] at kx
          have cx := kx.cell
          have hsr := hF.size
          have haf4 := Lib.hid haf3
          have hdo3 := Lib.hid hdo2
          clear hps hin hit haf2 haf3 hdo2 c5 c6 hdo haf
          go_upto_region 22 with fail
          have kM5 := kMk.call hbx
          have rn5 := ownsRow_call rnk hbx
          have ro5 := ownsRow_call rok hbx
          have V5 := Vk.call hbx
          have hF5 : Far (fun k => k = b ∨ k = g0 ∨ NB ≤ k) w7 _ := hF.trans (.of_below hbx)
          generalize wr.alloc _ = w5 at *
          try simp only [hgx]
          have hs5 := hF5.size
          have HMv := Lib.hid (move24_any g0 b NB gn cv nb mk xt bk sk v2 U w5 V5 kM5 hgb rn5 hbl2 ro5 (by omega) hbNB (by omega) hmkn hib.2 hib.1 hit2.2)
          clear kMk rnk rok Vk hMv hbx hF d5 d6 kM5 rn5 ro5 V5
          go_wp2_with fail
          refine HMv.out.mono ?_
          rintro e w8 ⟨r, hr, rfl, hM8, F8⟩
          have hF8 := hF5.trans F8
          have hmm : moveM U bk ((mk : Int), xt) = r := by rw [hr]; rfl
          rw [hmm] at hdo3
          obtain ⟨re, rt, rs, rV⟩ := r
          simp only at hdo3 hM8
          have hbl3 : Hid ((movBs bk mk xt (re, rt, rs, rV)).length = nb) := Lib.hid (by
            unfold movBs
            split
            · rw [List.length_set]; exact hbl2
            · exact hbl2)
          have hbo : re = 0 → movBs bk mk xt (re, rt, rs, rV) = movB bk ((mk : Int), xt) := fun h => by
            have := moveM_ok (V := U) (bs := bk) (m := ((mk : Int), xt)) (by rw [hmm]; exact h)
            rw [hmm] at this
            exact this
          have hsl : (movSt sk (bk.getD mk b0).1 xt (pw (bk.getD mk b0).2.1) (re, rt, rs, rV)).length ≤ sk.length + 1 := by
            unfold movSt
            split
            · rw [List.length_append]; exact Nat.le_refl _
            · omega
          rw [Int.toNat_natCast] at hdo3
          generalize movSt sk (bk.getD mk b0).1 xt (pw (bk.getD mk b0).2.1) (re, rt, rs, rV) = sk2 at *
          generalize movBs bk mk xt (re, rt, rs, rV) = bk2 at *
          have hM8' := Lib.hid hM8
          clear HMv hr hmm hM8 F8 hF5 kx cx
          by_cases hj2 : re = 0
          · subst hj2
            rw [if_neg (by simp)] at hdo3
            have hdo4 : Hid (doL V bs [] ms = doL rV bk2 sk2 (ms.drop (j + 1))) := Lib.hid hdo3
            have hb2 := hbo rfl
            have haf5 : Hid ((afterL pages bk2 (ms.drop (j + 1))).2 = 0) := Lib.hid (by rw [hb2]; exact haf4.out)
            have hik3 : Hid (∀ x ∈ bk2, insB pages x.1 x.2.1 = true) := Lib.hid (by rw [hb2]; exact hik2.out)
            clear hdo3 hbo hb2
            go_wp2_with fail
            go_roundw
            case rel => exact ⟨j + 1, bk2, sk2, rV, by omega, by go_num, hdo4, haf5, hik3, hbl3, by omega, hM8', hF8⟩
            case measure => simp [intOf]; omega
          · have hj2' : (re != 0) = true := by simpa using hj2
            rw [if_pos hj2] at hdo3
            have hR4 : Hid (R = (bk2, sk2, re, rV)) := Lib.hid (by rw [hR3.out, hdo3])
            obtain ⟨v8, kM8, rn8, ro8⟩ := hM8'.out.ex
            have V8 := hM8'.out.sys
            obtain ⟨A8, c8, e8, rt8, _, _, hft8, _⟩ := own_RT rn8 hbl3.out
            simp only [Value.slice.injEq] at e8
            obtain ⟨rfl, _, rfl⟩ := e8
            obtain ⟨A9, c9, rfl, ru9, _, _, hfu9, _⟩ := own_RU ro8 rfl
            have e0 := fun x : Ext w8 => (x.blk kM8).cell
            have FF : Far (fun k => k = b) w w8 := (Far.of_below B7'.out : Far (fun k => k = b) w w7).trans' hF8 (fun i hi h => by
              rcases h with h | h | h
              · exact h
              · omega
              · omega)
            clear hdo3 hbo
            go_upto_region 24 with fail
            refine region_ext (by kernel_rfl) (by kernel_rfl) ?_
            repeat (go_big_quiet_step (fail))
            refine wpQuiet_nil ?_
            rintro w9 ⟨⟨_, hw9⟩, rfl⟩
            go_wp2_with fail
            (try simp only [Exit.inBlock, Exit.then]); refine bodyPost_ret (results_tmp3 rfl _ _ _) rfl ?_
            rw [hR4.out]
            exact ⟨_, _, A9, c9, by rw [hbl3.out]; rfl, rt8.on hw9, fun g o e => by have := hft8 g o e; omega, ru9.on hw9, fun g o e => by have := hfu9 g o e; omega, V8.call hw9, FF.trans (.of_below hw9)⟩
        · obtain rfl : j = k := by omega
          have hlt2' : decide ((j : Int) < (j : Int)) = false := by simp
          have hR4 : Hid (R = (bk, sk, 0, U)) := Lib.hid (by
            rw [hR3.out, hdo.out, List.drop_of_length_le (by rw [hmn'.out]; exact Nat.le_refl _)]
            rfl)
          obtain ⟨v8, kM8, rn8, ro8⟩ := hMv.out.ex
          have V8 := hMv.out.sys
          obtain ⟨A8, c8, e8, rt8, _, _, hft8, _⟩ := own_RT rn8 hbl.out
          simp only [Value.slice.injEq] at e8
          obtain ⟨rfl, _, rfl⟩ := e8
          obtain ⟨A9, c9, rfl, ru9, _, _, hfu9, _⟩ := own_RU ro8 rfl
          have e0 := fun x : Ext wr => (x.blk kM8).cell
          have FF : Far (fun k => k = b) w wr := (Far.of_below B7'.out : Far (fun k => k = b) w w7).trans' hF (fun i hi h => by
            rcases h with h | h | h
            · exact h
            · omega
            · omega)
          clear hdo hMv
          go_upto_region 26 with fail
          refine region_ext (by kernel_rfl) (by kernel_rfl) ?_
          repeat (go_big_quiet_step (fail))
          refine wpQuiet_nil ?_
          rintro w9 ⟨⟨_, hw9⟩, rfl⟩
          go_wp2_with fail
          (try simp only [Exit.inBlock, Exit.then]); refine bodyPost_ret (results_tmp3 rfl _ _ _) rfl ?_
          rw [hR4.out]
          exact ⟨_, _, A9, c9, by rw [hbl.out]; rfl, rt8.on hw9, fun g o e => by have := hft8 g o e; omega, ru9.on hw9, fun g o e => by have := hfu9 g o e; omega, V8.call hw9, FF.trans (.of_below hw9)⟩
end Go.Proofs.YtpabnbhbcphfiaaGreat
namespace Go.Pol
open Go Go.RowKit
def resS (V : Vm) (x : Int × Int) : Vm := (bec V x.1 x.2 0 0 1).2
def comS (V : Vm) (x : Int × Int) : Vm := (bec V x.1 x.2 2 1 2).2
def guaS (V : Vm) (x : Int × Int) : Vm := (bec V x.1 x.2 4 1 3).2
def wriS (V : Vm) (x : Int × Int) : Vm := writeF V x.1 x.2
def joiS (V : Vm) (g : Int) : Vm := (Go.Pol.joinF V g).2
/-- what law 24 makes a system of -/
def sysG (rs cs gs : List (Int × Int)) (hs : List Int) (ws : List (Int × Int)) (l : List Ru) : Vm := planF (hs.foldl joiS (ws.foldl wriS (gs.foldl guaS (cs.foldl comS (rs.foldl resS newVm))))) l
end Go.Pol
namespace Go.Proofs.YtpabnbhbcphfiaaGreat
open Go Go.Proofs Go.RowKit Go.Pol Go.Shelf
attribute [local go_sem] Oper.semAt_some Go.Pol.wide_fn Go.Pol.wide_depth Go.Pol.wide_fn' Go.Pol.wide_depth'

set_option maxRecDepth 100000 in
set_option maxHeartbeats 3200000 in
theorem sys24_any (A1 A2 A3 Ah Aw Ar : Option Addr) (n1 c1 n2 c2 n3 c3 nh ch nw cw nr cr : Nat) (rs cs gs : List (Int × Int)) (hs : List Int) (ws : List (Int × Int)) (l : List Ru) (w : World)
    (h1 : rs.length = n1) (h2 : cs.length = n2) (h3 : gs.length = n3) (hhs : hs.length = nh) (hws : ws.length = nw) (hl : l.length = nr) (hm : (n1 ≤ 1000 ∧ n2 ≤ 1000 ∧ n3 ≤ 1000) ∧ nh ≤ 1000 ∧ nw ≤ 1000 ∧ nr ≤ 1000) (hz : Ar = none → cr = 0)
    (r1 : RU w w.heap.size A1 rs) (r2 : RU w w.heap.size A2 cs) (r3 : RU w w.heap.size A3 gs) (ri : RI w w.heap.size Ah hs) (rb : Rd w w.heap.size Aw (fl wrC ws)) (rr : Rd w w.heap.size Ar (fl ruC l)) :
    Calls Tryz.prog 33 #[.agg #[.slice A1 n1 c1, .slice A2 n2 c2, .slice A3 n3 c3, .slice Ah nh ch, .slice Aw nw cw, .slice Ar nr cr]] w (SysO (sysG rs cs gs hs ws l) w) := by
  obtain ⟨⟨hm1, hm2, hm3⟩, hm4, hm5, hm6⟩ := hm
  obtain ⟨P, hP⟩ : ∃ P, sysG rs cs gs hs ws l = P := ⟨_, rfl⟩
  rw [hP]
  have hP' : Hid (planF (hs.foldl joiS (ws.foldl wriS (gs.foldl guaS (cs.foldl comS (rs.foldl resS newVm))))) l = P) := Lib.hid hP
  clear hP
  have HN := Lib.hid (fun W => new_any W)
  have hb0 := (Below.refl w.heap.size w).alloc (Nat.le_refl _) (.cells #[.slice A1 n1 c1, .slice A2 n2 c2, .slice A3 n3 c3, .slice Ah nh ch, .slice Aw nw cw, .slice Ar nr cr] 78)
  have k0 := Blk.new w 78 #[.slice A1 n1 c1, .slice A2 n2 c2, .slice A3 n3 c3, .slice Ah nh ch, .slice Aw nw cw, .slice Ar nr cr]
  obtain ⟨s, hs0⟩ : ∃ s, w.heap.size = s := ⟨_, rfl⟩
  have hsz0 : (w.alloc (.cells #[.slice A1 n1 c1, .slice A2 n2 c2, .slice A3 n3 c3, .slice Ah nh ch, .slice Aw nw cw, .slice Ar nr cr] 78)).heap.size = s + 1 := by rw [World.size_alloc, hs0]
  have r10 := Lib.hid (r1.below hb0)
  have r20 := Lib.hid (r2.below hb0)
  have r30 := Lib.hid (r3.below hb0)
  have ri0 := Lib.hid (ri.below hb0)
  have rb0 := Lib.hid (rb.below hb0)
  have rr0 := Lib.hid (rr.below hb0)
  have hGd : Hid (∀ _ : Nat, True) := Lib.hid (fun _ => trivial)
  rw [hs0] at k0 hb0 r10 r20 r30 ri0 rb0 rr0
  clear r1 r2 r3 ri rb rr
  go_enter Tryz.func33, Tryz.ntmps33
  go_upto_region 1 with fail
  generalize w.alloc _ = w0 at *
  go_wp2_with fail
  unfold NewO at HN
  refine (HN.out w0).mono ?_
  rintro e w1 ⟨b, rfl, V1, hbb, hb1⟩
  rw [hsz0] at hb1 hbb
  have hV0 := Lib.hid V1
  have hB0 := hb1
  clear V1 hb1 HN
  go_wp2_with fail
  go_loopw [5] (fun u wr => ∃ k : Nat, k ≤ n1 ∧ u = .int .i64 k ∧ Below (s + 1) w0 wr ∧ Hid (SysIs wr b ((rs.take k).foldl resS newVm))) (fun u _ => n1 - (intOf u).toNat)
  case atStart => exact ⟨0, by omega, rfl, hB0, by simpa using hV0⟩
  clear hV0 hB0
  obtain ⟨k, hk, rfl, hB, hV⟩ := hrel
  have kb := k0.below hB (by omega)
  have c0 := kb.cell
  by_cases hlt : k < n1
  case pos =>
    have hlt' : decide ((k : Int) < (n1 : Int)) = true := by simpa using hlt
    have hstep : (rs.take (k + 1)).foldl resS newVm = resS ((rs.take k).foldl resS newVm) (rs.getD k (0, 0)) := by
      rw [z_take (0, 0) rs (by omega), List.foldl_append]
      rfl
    have hstep' := Lib.hid hstep
    obtain ⟨ub, uo, rfl, hub, hc, hd⟩ := (r10.out.below (hB.mono (by omega))).at_' (k := k) (by omega)
    generalize rs.getD k (0, 0) = x at *
    generalize (rs.take k).foldl resS newVm = V at *
    obtain ⟨xa, xn⟩ := x
    simp only at hc hd
    have e0 := fun x : Ext wr => (x.blk kb).cell
    have e1 := fun x : Ext wr => x.cell hc
    have e2 := fun x : Ext wr => x.cell hd
    clear hstep hc hd
    go_upto_region 7 with fail
    clear c0
    refine region_ext_tail 13 (by kernel_rfl) (by kernel_rfl) ?_
    simp only [List.take_succ_cons, List.take_zero, List.drop_succ_cons, List.drop_zero]
    repeat (go_big_quiet_step (fail))
    refine wpQuiet_nil ?_
    intro z
    go_wp2_with fail
    refine (reserve_any b xa xn V z.w (hV.out.call z.le)).mono ?_
    rintro e w2 ⟨rfl, V2, F2⟩
    have hB2 := (hB.trans (z.le.mono (by have := hB.size; omega))).trans (F2.below (by have := hB.size; have := z.le.size; omega) (fun k hk e => by omega))
    have V2' := Lib.hid V2
    clear e0 e1 e2 hV F2 V2
    go_wp2_with fail
    go_roundw
    case rel => exact ⟨k + 1, by omega, by go_num, hB2, Lib.hid (by rw [hstep'.out]; exact V2'.out)⟩
    case measure => simp [intOf]; omega
  obtain rfl : k = n1 := by omega
  have hlt' : decide ((k : Int) < (k : Int)) = false := by simp
  have hV2 : Hid (SysIs wr b (rs.foldl resS newVm)) := Lib.hid (by have := hV.out; rwa [show k = rs.length from (by omega), List.take_length] at this)
  generalize rs.foldl resS newVm = Va at *
  clear hV
  go_wp2_with fail
  clear hlt' c0 hlt
  have hB0 := hB
  have hV0 := hV2
  clear hB hV2 kb hk
  go_loopw [6] (fun u wr => ∃ k : Nat, k ≤ n2 ∧ u = .int .i64 k ∧ Below (s + 1) w0 wr ∧ Hid (SysIs wr b ((cs.take k).foldl comS Va))) (fun u _ => n2 - (intOf u).toNat)
  case atStart => exact ⟨0, by omega, rfl, hB0, by simpa using hV0⟩
  clear hV0 hB0
  obtain ⟨k, hk, rfl, hB, hV⟩ := hrel
  have kb := k0.below hB (by omega)
  have c0 := kb.cell
  by_cases hlt : k < n2
  case pos =>
    have hlt' : decide ((k : Int) < (n2 : Int)) = true := by simpa using hlt
    have hstep : (cs.take (k + 1)).foldl comS Va = comS ((cs.take k).foldl comS Va) (cs.getD k (0, 0)) := by
      rw [z_take (0, 0) cs (by omega), List.foldl_append]
      rfl
    have hstep' := Lib.hid hstep
    obtain ⟨ub, uo, rfl, hub, hc, hd⟩ := (r20.out.below (hB.mono (by omega))).at_' (k := k) (by omega)
    generalize cs.getD k (0, 0) = x at *
    generalize (cs.take k).foldl comS Va = V at *
    obtain ⟨xa, xn⟩ := x
    simp only at hc hd
    have e0 := fun x : Ext wr => (x.blk kb).cell
    have e1 := fun x : Ext wr => x.cell hc
    have e2 := fun x : Ext wr => x.cell hd
    clear hstep hc hd
    go_upto_region 11 with fail
    clear c0
    refine region_ext_tail 13 (by kernel_rfl) (by kernel_rfl) ?_
    simp only [List.take_succ_cons, List.take_zero, List.drop_succ_cons, List.drop_zero]
    repeat (go_big_quiet_step (fail))
    refine wpQuiet_nil ?_
    intro z
    go_wp2_with fail
    refine (commit_any b xa xn V z.w (hV.out.call z.le)).mono ?_
    rintro e w2 ⟨rfl, V2, F2⟩
    have hB2 := (hB.trans (z.le.mono (by have := hB.size; omega))).trans (F2.below (by have := hB.size; have := z.le.size; omega) (fun k hk e => by omega))
    have V2' := Lib.hid V2
    clear e0 e1 e2 hV F2 V2
    go_wp2_with fail
    go_roundw
    case rel => exact ⟨k + 1, by omega, by go_num, hB2, Lib.hid (by rw [hstep'.out]; exact V2'.out)⟩
    case measure => simp [intOf]; omega
  obtain rfl : k = n2 := by omega
  have hlt' : decide ((k : Int) < (k : Int)) = false := by simp
  have hV2 : Hid (SysIs wr b (cs.foldl comS Va)) := Lib.hid (by have := hV.out; rwa [show k = cs.length from (by omega), List.take_length] at this)
  generalize cs.foldl comS Va = Vb at *
  clear hV
  go_wp2_with fail
  clear hlt' c0 hlt
  have hB0 := hB
  have hV0 := hV2
  clear hB hV2 kb hk
  go_loopw [7] (fun u wr => ∃ k : Nat, k ≤ n3 ∧ u = .int .i64 k ∧ Below (s + 1) w0 wr ∧ Hid (SysIs wr b ((gs.take k).foldl guaS Vb))) (fun u _ => n3 - (intOf u).toNat)
  case atStart => exact ⟨0, by omega, rfl, hB0, by simpa using hV0⟩
  clear hV0 hB0
  obtain ⟨k, hk, rfl, hB, hV⟩ := hrel
  have kb := k0.below hB (by omega)
  have c0 := kb.cell
  by_cases hlt : k < n3
  case pos =>
    have hlt' : decide ((k : Int) < (n3 : Int)) = true := by simpa using hlt
    have hstep : (gs.take (k + 1)).foldl guaS Vb = guaS ((gs.take k).foldl guaS Vb) (gs.getD k (0, 0)) := by
      rw [z_take (0, 0) gs (by omega), List.foldl_append]
      rfl
    have hstep' := Lib.hid hstep
    obtain ⟨ub, uo, rfl, hub, hc, hd⟩ := (r30.out.below (hB.mono (by omega))).at_' (k := k) (by omega)
    generalize gs.getD k (0, 0) = x at *
    generalize (gs.take k).foldl guaS Vb = V at *
    obtain ⟨xa, xn⟩ := x
    simp only at hc hd
    have e0 := fun x : Ext wr => (x.blk kb).cell
    have e1 := fun x : Ext wr => x.cell hc
    have e2 := fun x : Ext wr => x.cell hd
    clear hstep hc hd
    go_upto_region 15 with fail
    clear c0
    refine region_ext_tail 13 (by kernel_rfl) (by kernel_rfl) ?_
    simp only [List.take_succ_cons, List.take_zero, List.drop_succ_cons, List.drop_zero]
    repeat (go_big_quiet_step (fail))
    refine wpQuiet_nil ?_
    intro z
    go_wp2_with fail
    refine (guard_any b xa xn V z.w (hV.out.call z.le)).mono ?_
    rintro e w2 ⟨rfl, V2, F2⟩
    have hB2 := (hB.trans (z.le.mono (by have := hB.size; omega))).trans (F2.below (by have := hB.size; have := z.le.size; omega) (fun k hk e => by omega))
    have V2' := Lib.hid V2
    clear e0 e1 e2 hV F2 V2
    go_wp2_with fail
    go_roundw
    case rel => exact ⟨k + 1, by omega, by go_num, hB2, Lib.hid (by rw [hstep'.out]; exact V2'.out)⟩
    case measure => simp [intOf]; omega
  obtain rfl : k = n3 := by omega
  have hlt' : decide ((k : Int) < (k : Int)) = false := by simp
  have hV2 : Hid (SysIs wr b (gs.foldl guaS Vb)) := Lib.hid (by have := hV.out; rwa [show k = gs.length from (by omega), List.take_length] at this)
  generalize gs.foldl guaS Vb = Vc at *
  clear hV
  go_wp2_with fail
  clear hlt' c0 hlt
  have hB0 := hB
  have hV0 := hV2
  clear hB hV2 kb hk
  go_loopw [8] (fun u wr => ∃ k : Nat, k ≤ nw ∧ u = .int .i64 k ∧ Below (s + 1) w0 wr ∧ Hid (SysIs wr b ((ws.take k).foldl wriS Vc))) (fun u _ => nw - (intOf u).toNat)
  case atStart => exact ⟨0, by omega, rfl, hB0, by simpa using hV0⟩
  clear hV0 hB0
  obtain ⟨k, hk, rfl, hB, hV⟩ := hrel
  have kb := k0.below hB (by omega)
  have c0 := kb.cell
  by_cases hlt : k < nw
  case pos =>
    have hlt' : decide ((k : Int) < (nw : Int)) = true := by simpa using hlt
    have hstep : (ws.take (k + 1)).foldl wriS Vc = wriS ((ws.take k).foldl wriS Vc) (ws.getD k (0, 0)) := by
      rw [z_take (0, 0) ws (by omega), List.foldl_append]
      rfl
    have hstep' := Lib.hid hstep
    obtain ⟨ub, uo, rfl, hub, hc⟩ := (rb0.out.below (hB.mono (by omega))).elem wrC_len (by omega) (0, 0) (k := k) (by omega)
    generalize ws.getD k (0, 0) = x at *
    generalize (ws.take k).foldl wriS Vc = V at *
    obtain ⟨xa, xv⟩ := x
    have hc0 : wr.cell? ⟨ub, uo + k * 2, none⟩ = some (.int .i64 xa) := hc 0 _ rfl
    have hc1 : wr.cell? ⟨ub, uo + k * 2 + 1, none⟩ = some (.int .u8 xv) := hc 1 _ rfl
    have e0 := fun x : Ext wr => (x.blk kb).cell
    have e1 := fun x : Ext wr => x.cell hc0
    have e2 := fun x : Ext wr => x.cell hc1
    clear hstep hc hc0 hc1
    go_upto_region 19 with fail
    clear c0
    refine region_ext_tail 13 (by kernel_rfl) (by kernel_rfl) ?_
    simp only [List.take_succ_cons, List.take_zero, List.drop_succ_cons, List.drop_zero]
    repeat (go_big_quiet_step (fail))
    refine wpQuiet_nil ?_
    intro z
    go_wp2_with fail
    refine (write_any b xa xv V z.w (hV.out.call z.le)).mono ?_
    rintro e w2 ⟨rfl, V2, F2⟩
    have hB2 := (hB.trans (z.le.mono (by have := hB.size; omega))).trans (F2.below (by have := hB.size; have := z.le.size; omega) (fun k hk e => by omega))
    have V2' := Lib.hid V2
    clear e0 e1 e2 hV F2 V2
    go_wp2_with fail
    go_roundw
    case rel => exact ⟨k + 1, by omega, by go_num, hB2, Lib.hid (by rw [hstep'.out]; exact V2'.out)⟩
    case measure => simp [intOf]; omega
  obtain rfl : k = nw := by omega
  have hlt' : decide ((k : Int) < (k : Int)) = false := by simp
  have hV2 : Hid (SysIs wr b (ws.foldl wriS Vc)) := Lib.hid (by have := hV.out; rwa [show k = ws.length from (by omega), List.take_length] at this)
  generalize ws.foldl wriS Vc = Vd at *
  clear hV
  go_wp2_with fail
  clear hlt' c0 hlt
  have hB0 := hB
  have hV0 := hV2
  clear hB hV2 kb hk
  go_loopw [9] (fun u wr => ∃ k : Nat, k ≤ nh ∧ u = .int .i64 k ∧ Below (s + 1) w0 wr ∧ Hid (SysIs wr b ((hs.take k).foldl joiS Vd))) (fun u _ => nh - (intOf u).toNat)
  case atStart => exact ⟨0, by omega, rfl, hB0, by simpa using hV0⟩
  clear hV0 hB0
  obtain ⟨k, hk, rfl, hB, hV⟩ := hrel
  have kb := k0.below hB (by omega)
  have c0 := kb.cell
  by_cases hlt : k < nh
  case pos =>
    have hlt' : decide ((k : Int) < (nh : Int)) = true := by simpa using hlt
    have hstep : (hs.take (k + 1)).foldl joiS Vd = joiS ((hs.take k).foldl joiS Vd) (hs.getD k 0) := by
      rw [z_take 0 hs (by omega), List.foldl_append]
      rfl
    obtain ⟨ub, uo, rfl, hub, hc⟩ := (ri0.out.below (hB.mono (by omega))).at_ (k := k) (by omega)
    generalize hs.getD k 0 = x at *
    have hGk := hGd.out k
    generalize (hs.take k).foldl joiS Vd = V at *
    have hstep' : Hid ((hs.take (k + 1)).foldl joiS Vd = (Go.Pol.joinF V x).2) := Lib.hid hstep
    have HJ := Lib.hid (vjoin_any b x V wr hV.out)
    clear hstep
    go_wp2_with fail
    refine HJ.out.mono ?_
    rintro e w2 ⟨rfl, V2, F2⟩
    have hB2 := hB.trans (F2.below (by have := hB.size; omega) (fun k hk e => by omega))
    have V2' := Lib.hid V2
    clear hV F2 V2 HJ
    go_wp2_with fail
    go_roundw
    case rel => exact ⟨k + 1, by omega, by go_num, hB2, Lib.hid (by rw [hstep'.out]; exact V2'.out)⟩
    case measure => simp [intOf]; omega
  obtain rfl : k = nh := by omega
  have hlt' : decide ((k : Int) < (k : Int)) = false := by simp
  have hV2 : Hid (SysIs wr b (hs.foldl joiS Vd)) := Lib.hid (by have := hV.out; rwa [show k = hs.length from (by omega), List.take_length] at this)
  generalize hs.foldl joiS Vd = Ve at *
  clear hV hGd
  have HP := Lib.hid (plan_any b Ar nr cr l _ wr hV2.out hl (by omega) hz ((rr0.out.below (hB.mono (by omega))).more (by have := hB.size; omega)))
  go_wp2_with fail
  refine HP.out.mono ?_
  rintro e w2 ⟨rfl, V2, F2⟩
  have hB2 := hb0.trans ((hB.trans (F2.below (by have := hB.size; omega) (fun k hk e => by omega))).mono (by omega))
  have V2' := Lib.hid V2
  clear HP hV2 F2 V2 hB
  go_wp2_with fail
  go_ret
  exact ⟨b, rfl, by rw [← hP'.out]; exact V2'.out, by omega, by rw [hs0]; exact hB2⟩
end Go.Proofs.YtpabnbhbcphfiaaGreat
namespace Go.Pol
open Go
def greatG (n1 n2 n3 nh nw nr : Nat) : Bool := decide (70 < n1) || decide (70 < n2) || decide (70 < n3) || decide (70 < nh) || decide (100 < nw) || decide (55 < nr)
end Go.Pol
namespace Go.Proofs.YtpabnbhbcphfiaaGreat
open Go Go.Proofs Go.RowKit Go.Pol Go.Shelf
attribute [local go_sem] Oper.semAt_some Go.Pol.wide_fn Go.Pol.wide_depth Go.Pol.wide_fn' Go.Pol.wide_depth'

set_option maxHeartbeats 800000 in
theorem great24_any (A1 A2 A3 Ah Aw Ar : Option Addr) (n1 c1 n2 c2 n3 c3 nh ch nw cw nr cr : Nat) (w : World) :
    Calls Tryz.prog 31 #[.agg #[.slice A1 n1 c1, .slice A2 n2 c2, .slice A3 n3 c3, .slice Ah nh ch, .slice Aw nw cw, .slice Ar nr cr]] w fun e w' => e = .returned (.bool (greatG n1 n2 n3 nh nw nr)) ∧ Below w.heap.size w w' := by
  have hb0 := (Below.refl w.heap.size w).alloc (Nat.le_refl _) (.cells #[.slice A1 n1 c1, .slice A2 n2 c2, .slice A3 n3 c3, .slice Ah nh ch, .slice Aw nw cw, .slice Ar nr cr] 78)
  have hG := Lib.hid (show greatG n1 n2 n3 nh nw nr = (decide (70 < n1) || decide (70 < n2) || decide (70 < n3) || decide (70 < nh) || decide (100 < nw) || decide (55 < nr)) from rfl)
  generalize greatG n1 n2 n3 nh nw nr = R at *
  by_cases h1 : 70 < n1
  · have d1 : decide ((70 : Int) < (n1 : Int)) = true := by rw [decide_eq_true_eq]; omega
    have hR : Hid (true = R) := Lib.hid (by rw [hG.out, decide_eq_true h1]; simp)
    clear h1
    go_enter Tryz.func31, Tryz.ntmps31
    go_wp2_with fail
    go_ret
    exact ⟨z_ret_bool hR.out, hb0⟩
  have d1 : decide ((70 : Int) < (n1 : Int)) = false := by rw [decide_eq_false_iff_not]; omega
  by_cases h2 : 70 < n2
  · have d2 : decide ((70 : Int) < (n2 : Int)) = true := by rw [decide_eq_true_eq]; omega
    have hR : Hid (true = R) := Lib.hid (by rw [hG.out, decide_eq_true h2]; simp)
    clear h1 h2
    go_enter Tryz.func31, Tryz.ntmps31
    go_wp2_with fail
    go_ret
    exact ⟨z_ret_bool hR.out, hb0⟩
  have d2 : decide ((70 : Int) < (n2 : Int)) = false := by rw [decide_eq_false_iff_not]; omega
  by_cases h3 : 70 < n3
  · have d3 : decide ((70 : Int) < (n3 : Int)) = true := by rw [decide_eq_true_eq]; omega
    have hR : Hid (true = R) := Lib.hid (by rw [hG.out, decide_eq_true h3]; simp)
    clear h1 h2 h3
    go_enter Tryz.func31, Tryz.ntmps31
    go_wp2_with fail
    go_ret
    exact ⟨z_ret_bool hR.out, hb0⟩
  have d3 : decide ((70 : Int) < (n3 : Int)) = false := by rw [decide_eq_false_iff_not]; omega
  by_cases h4 : 70 < nh
  · have d4 : decide ((70 : Int) < (nh : Int)) = true := by rw [decide_eq_true_eq]; omega
    have hR : Hid (true = R) := Lib.hid (by rw [hG.out, decide_eq_true h4]; simp)
    clear h1 h2 h3 h4
    go_enter Tryz.func31, Tryz.ntmps31
    go_wp2_with fail
    go_ret
    exact ⟨z_ret_bool hR.out, hb0⟩
  have d4 : decide ((70 : Int) < (nh : Int)) = false := by rw [decide_eq_false_iff_not]; omega
  by_cases h5 : 100 < nw
  · have d5 : decide ((100 : Int) < (nw : Int)) = true := by rw [decide_eq_true_eq]; omega
    have hR : Hid (true = R) := Lib.hid (by rw [hG.out, decide_eq_true h5]; simp)
    clear h1 h2 h3 h4 h5
    go_enter Tryz.func31, Tryz.ntmps31
    go_wp2_with fail
    go_ret
    exact ⟨z_ret_bool hR.out, hb0⟩
  have d5 : decide ((100 : Int) < (nw : Int)) = false := by rw [decide_eq_false_iff_not]; omega
  by_cases h6 : 55 < nr
  · have d6 : decide ((55 : Int) < (nr : Int)) = true := by rw [decide_eq_true_eq]; omega
    have hR : Hid (true = R) := Lib.hid (by rw [hG.out, decide_eq_true h6]; simp)
    clear h1 h2 h3 h4 h5 h6
    go_enter Tryz.func31, Tryz.ntmps31
    go_wp2_with fail
    go_ret
    exact ⟨z_ret_bool hR.out, hb0⟩
  have d6 : decide ((55 : Int) < (nr : Int)) = false := by rw [decide_eq_false_iff_not]; omega
  have hR : Hid (false = R) := Lib.hid (by rw [hG.out, decide_eq_false h1, decide_eq_false h2, decide_eq_false h3, decide_eq_false h4, decide_eq_false h5, decide_eq_false h6]; rfl)
  clear h1 h2 h3 h4 h5 h6
  go_enter Tryz.func31, Tryz.ntmps31
  go_wp2_with fail
  go_ret
  exact ⟨z_ret_bool hR.out, hb0⟩
theorem doNil_any (pages : Int) (A M : Option Addr) (n c m d : Nat) (w : World) :
    Calls Tryz.prog 27 #[.pointer none, .int .i64 pages, .slice A n c, .slice M m d] w fun e w' => e = .returned (.tuple #[.slice none 0 0, .slice none 0 0, .int .i64 1]) ∧ Below w.heap.size w w' := by
  have HC := Lib.hid (fun W => countsNil_any W)
  go_enter Tryz.func27, Tryz.ntmps27
  go_wp2_with fail
  refine (HC.out _).mono ?_
  rintro e w1 ⟨rfl, hb1⟩
  have hb2 := hb1.alloc hb1.size (.cells #[.int .i64 0, .int .i64 0, .int .i64 0, .int .i64 0, .int .i64 0] 163)
  go_wp2_with fail
  (try simp only [Exit.inBlock, Exit.then]); refine bodyPost_ret (results_tmp3 rfl _ _ _) rfl ?_
  exact ⟨rfl, hb2⟩
end Go.Proofs.YtpabnbhbcphfiaaGreat
namespace Go.Proofs.YtpabnbhbcphfiaaGreat
open Go Go.Proofs Go.RowKit Go.Pol Go.Shelf
attribute [local go_sem] Oper.semAt_some Go.Pol.wide_fn Go.Pol.wide_depth Go.Pol.wide_fn' Go.Pol.wide_depth'

theorem release6_any (B b : Nat) (a n : Int) (V : Vm) (w : World) (hV : RefIs w B b V) :
    Calls Tryz.prog 158 #[.pointer (some ⟨b, 0, none⟩), .int .i64 a, .int .i64 n] w fun e w' => e = .returned (.int .i64 (bec V a n 1 1 0).1) ∧ RefTo B b (bec V a n 1 1 0).2 w w' := by
  have HC := Lib.hid (change_any B b a n 1 0 1 V w hV (by decide))
  clear hV
  generalize bec V a n 1 1 0 = R at *
  go_enter Tryz.func158, Tryz.ntmps158
  go_wp2_with fail
  refine HC.out.mono ?_
  rintro e w1 ⟨rfl, h1, h2⟩
  go_wp2_with fail
  go_ret
  exact ⟨rfl, h1, h2⟩
theorem guard6_any (B b : Nat) (a n : Int) (V : Vm) (w : World) (hV : RefIs w B b V) :
    Calls Tryz.prog 60 #[.pointer (some ⟨b, 0, none⟩), .int .i64 a, .int .i64 n, .bool true] w fun e w' => e = .returned (.int .i64 (bec V a n 4 1 3).1) ∧ RefTo B b (bec V a n 4 1 3).2 w w' := by
  have HC := Lib.hid (change_any B b a n 1 3 4 V w hV (by decide))
  clear hV
  generalize bec V a n 4 1 3 = R at *
  go_enter Tryz.func60, Tryz.ntmps60
  go_wp2_with fail
  refine HC.out.mono ?_
  rintro e w1 ⟨rfl, h1, h2⟩
  go_wp2_with fail
  go_ret
  exact ⟨rfl, h1, h2⟩
set_option maxRecDepth 100000 in
theorem kind6_any (B b : Nat) (p : Int) (V : Vm) (w : World) (hV : RefIs w B b V) :
    Calls Tryz.prog 93 #[.pointer (some ⟨b, 0, none⟩), .int .i64 p] w fun e w' =>
      e = .returned (.tuple #[.int .i64 (kindF V p), .bool (hugeF V p), .int .i64 (if 0 ≤ p ∧ p < 1024 then 0 else 7)]) ∧ Below w.heap.size w w' := by
  have HP := Lib.hid (fun W => page_any p W)
  by_cases c : 0 ≤ p ∧ p < 1024
  · rw [pageB_true.2 c] at HP
    obtain ⟨k, rfl⟩ := Int.eq_ofNat_of_zero_le c.1
    have hk : k < 1024 := by omega
    have ek : kindF V (k : Int) = (V.pg k).kind := by unfold kindF; rw [if_pos c]; rfl
    have eh : hugeF V (k : Int) = (V.pg k).huge := by unfold hugeF; rw [if_pos c]; rfl
    rw [ek, eh, if_pos c]
    obtain ⟨cs, A, n, cap, hkb, hc, _⟩ := hV.ex
    have c0 := (hkb.cell k).trans (hc.kind k hk)
    have c1 := (hkb.cell (1024 + k / 16)).trans (hc.huge k hk)
    obtain ⟨q, hq, hqz⟩ : ∃ q : Nat, Int.tdiv (k : Int) 16 = (q : Int) ∧ k / 16 = q := ⟨k / 16, by rw [Int.tdiv_eq_ediv_of_nonneg (by omega)]; omega, rfl⟩
    rw [hqz] at c1
    have hql : (q : Int) < 64 := by omega
    have hkl : (k : Int) < 1024 := by omega
    generalize (V.pg k).kind = kd at *
    generalize (V.pg k).huge = hu at *
    clear hkb hc hV hqz c
    go_enter Tryz.func93, Tryz.ntmps93
    go_wp2_with fail
    refine (HP.out _).mono ?_
    rintro e9 w9 ⟨rfl, rfl⟩
    have e0 := fun x : Ext w => x.cell c0
    have e1 := fun x : Ext w => x.cell c1
    go_upto_region 3 with fail
    refine region_ext (by kernel_rfl) (by kernel_rfl) ?_
    repeat (go_big_quiet_step (fail))
    refine wpQuiet_nil ?_
    rintro w1 ⟨⟨_, hw1⟩, rfl⟩
    go_wp2_with fail
    (try simp only [Exit.inBlock, Exit.then]); refine bodyPost_ret (results_tmp3 rfl _ _ _) rfl ?_
    exact ⟨rfl, hw1⟩
  · rw [pageB_false.2 c] at HP
    have ek : kindF V p = 0 := by unfold kindF; rw [if_neg c]
    have eh : hugeF V p = false := by unfold hugeF; rw [if_neg c]
    rw [ek, eh, if_neg c]
    clear hV c
    go_enter Tryz.func93, Tryz.ntmps93
    go_wp2_with fail
    refine (HP.out _).mono ?_
    rintro e9 w9 ⟨rfl, rfl⟩
    go_wp2_with fail
    (try simp only [Exit.inBlock, Exit.then]); refine bodyPost_ret (results_tmp3 rfl _ _ _) rfl ?_
    exact ⟨rfl, Below.refl _ _⟩
set_option maxRecDepth 100000 in
theorem read6_any (B b : Nat) (a : Int) (V : Vm) (w : World) (hV : RefIs w B b V) :
    Calls Tryz.prog 159 #[.pointer (some ⟨b, 0, none⟩), .int .i64 a] w fun e w' => e = .returned (.tuple #[.int .u8 (readF V a), .int .i64 (whF V a)]) ∧ w' = w := by
  have HW := Lib.hid (where6_any B b a V w hV)
  obtain ⟨P, hP⟩ : ∃ P, readF V a = P := ⟨_, rfl⟩
  rw [hP]
  unfold readF at hP
  obtain ⟨R, hR⟩ : ∃ R, whF V a = R := ⟨_, rfl⟩
  rw [hR] at hP HW ⊢
  by_cases c0 : R = 0
  · subst c0
    rw [if_pos rfl] at hP
    simp only [if_true] at HW
    have ha : ¬ (a < 0 ∨ 65536 ≤ a) := fun hc => by unfold whF at hR; rw [if_pos hc] at hR; omega
    obtain ⟨q, hq1⟩ : ∃ q : Nat, a / 64 = (q : Int) := ⟨(a / 64).toNat, by omega⟩
    obtain ⟨k, hk1⟩ : ∃ k : Nat, a % 64 = (k : Int) := ⟨(a % 64).toNat, by omega⟩
    rw [hq1, hk1] at hP HW
    simp only [Int.toNat_natCast] at hP
    have hq : q < 1024 := by omega
    have hk : k < 64 := by omega
    have hq2 : (q : Int) < 1024 := by omega
    have hk2 : (k : Int) < 64 := by omega
    obtain ⟨cs, A, n, cap, hkb, hc, _⟩ := hV.ex
    have e1 := (hkb.cell (1088 + q * 64 + k)).trans (hc.byt q hq k hk)
    rw [hP] at e1
    clear hkb hc hV hP hR ha hq1 hk1
    go_enter Tryz.func159, Tryz.ntmps159
    go_wp2_with fail
    refine HW.out.mono ?_
    rintro e9 w9 ⟨rfl, hw9⟩
    replace hw9 := hw9.symm
    subst hw9
    go_wp2_with fail
    go_ret2
    exact ⟨rfl, rfl⟩
  · rw [if_neg c0] at hP
    simp only [if_neg c0] at HW
    subst hP
    have d0 : (R != 0) = true := by simpa using c0
    clear hR hV
    go_enter Tryz.func159, Tryz.ntmps159
    go_wp2_with fail
    refine HW.out.mono ?_
    rintro e9 w9 ⟨rfl, hw9⟩
    replace hw9 := hw9.symm
    subst hw9
    go_wp2_with fail
    go_ret2
    exact ⟨rfl, rfl⟩
end Go.Proofs.YtpabnbhbcphfiaaGreat
namespace Go.Pol
open Go Go.RowKit
/-- the runs end ahead of here, where the last does not go on -/
theorem runsM_off (V : Vm) (p : Int) : ∀ i, (runsM V p i).2 = false → ∀ x ∈ (runsM V p i).1, x.1 + x.2 < (i : Int)
  | 0, _, x, hx => by cases hx
  | i + 1, h, x, hx => by
    have h2 := (runsM_inv V p i).2.1
    rw [runsM_succ] at h hx
    split at h
    · rename_i h1
      rw [if_pos h1] at hx
      have := h2 x hx
      omega
    · split at h <;> cases h
end Go.Pol
namespace Go.Proofs.YtpabnbhbcphfiaaGreat
open Go Go.Proofs Go.RowKit Go.Pol Go.Shelf
attribute [local go_sem] Oper.semAt_some Go.Pol.wide_fn Go.Pol.wide_depth Go.Pol.wide_fn' Go.Pol.wide_depth'

theorem own_spanA {w : World} {base g n cap p : Nat} {e : TypeId} {l : List Sp} (h : w.ownsRow base e 2 (.slice (some ⟨g, 0, none⟩) n cap) n (spCells l)) (hl : l.length = n) (hp : p < n) :
    w.cell? ⟨g, p * 2, none⟩ = some (.int .i64 (l.getD p (0, 0)).1) ∧ w.cell? ⟨g, p * 2 + 1, none⟩ = some (.int .i64 (l.getD p (0, 0)).2) := by
  have h2 := spCells_at l p (by omega)
  rw [h.cellAt _ (by omega), h.cellAt _ (by omega)]
  exact h2
set_option maxRecDepth 100000 in
set_option maxHeartbeats 1600000 in
theorem runs6_any (B b : Nat) (p : Int) (n : Nat) (V : Vm) (w : World) (hV : RefIs w B b V) (hp : 0 ≤ p ∧ p ≤ 1024) (hn : n ≤ 1024) :
    Calls Tryz.prog 156 #[.pointer (some ⟨b, 0, none⟩), .int .i64 p, .int .i64 n] w (SpansN (runsM V p n).1 w) := by
  obtain ⟨i0, hi, hz0, hz1, hz2⟩ := infoSp_parts
  obtain ⟨R, hR⟩ : ∃ R, (runsM V p n).1 = R := ⟨_, rfl⟩
  rw [hR]
  have hR' := Lib.hid hR
  have HK := Lib.hid (fun (q : Int) W h => kind6_any B b q V W h)
  have hV' := Lib.hid hV
  clear hR hV
  go_enter Tryz.func156, Tryz.ntmps156
  go_wp2_with fail
  go_loopw [7, 8] (fun v i wr => ∃ (k : Nat) (l : List Sp) (ins : Bool), k ≤ n ∧ i = .int .i64 k ∧ Hid (runsM V p k = (l, ins)) ∧ wr.ownsRow w.heap.size 115 2 v l.length (spCells l) ∧ Below w.heap.size w wr) (fun _ i _ => n - (intOf i).toNat)
  case atStart => exact ⟨0, [], false, by omega, rfl, Lib.hid rfl, World.ownsRow_nil _ _ _ _, Below.refl _ _⟩
  case round =>
    obtain ⟨k, l, ins, hk, rfl, hl, hrow, hB⟩ := hrel
    have V1 := hV'.out.call hB
    by_cases hlt : k < n
    · have hlt' : decide ((k : Int) < (n : Int)) = true := by simpa using hlt
      obtain ⟨kd, hkd⟩ : ∃ kd, kindF V (p + (k : Int)) = kd := ⟨_, rfl⟩
      have hinv := runsM_inv V p k
      have hoff := runsM_off V p k
      rw [hl.out] at hinv hoff
      have hst : Hid (runsM V p (k + 1) = if kd ≠ 2 then (l, false) else if ins = true then (bumpS l, true) else (l ++ [((k : Int), 1)], true)) := Lib.hid (by rw [runsM_succ, hkd, hl.out])
      have HK1 := HK.out (p + (k : Int)) wr V1
      rw [hkd] at HK1
      generalize (if 0 ≤ p + (k : Int) ∧ p + (k : Int) < 1024 then (0 : Int) else 7) = er at HK1
      generalize hugeF V (p + (k : Int)) = hu at HK1
      have HK2 := Lib.hid HK1
      obtain ⟨ll, hll⟩ : ∃ ll, l.length = ll := ⟨_, rfl⟩
      rw [hll] at hrow hinv
      obtain ⟨h1, h2, h3⟩ := hinv
      simp only at h1 h2 h3 hoff
      have hoff' := Lib.hid hoff
      clear hkd HK1 hl hoff
      go_wp2_with fail
      refine HK2.out.mono ?_
      rintro e w1 ⟨rfl, hb1⟩
      have B1 := hB.trans (hb1.mono hB.size)
      have hrow1 := ownsRow_call hrow hb1
      have hs1 := B1.size
      clear HK2 hrow V1 hb1
      by_cases hk2 : kd = 2
      · subst hk2
        have hk2' : ((2 : Int) != 2) = false := by decide
        have hst1 : Hid (runsM V p (k + 1) = if ins = true then (bumpS l, true) else (l ++ [((k : Int), 1)], true)) := Lib.hid (by rw [hst.out, if_neg (by simp)])
        clear hst
        rcases List.eq_nil_or_concat l with hnil | ⟨pre, x, hcon⟩
        · subst hnil
          obtain rfl : ins = false := by
            cases ins with
            | false => rfl
            | true => obtain ⟨_, _, e, _⟩ := h3 rfl; simp at e
          obtain rfl : ll = 0 := by rw [← hll]; rfl
          have hst2 : Hid (runsM V p (k + 1) = ([] ++ [((k : Int), 1)], true)) := Lib.hid (by rw [hst1.out, if_neg (by decide)])
          obtain ⟨A0, c0, rfl⟩ := own_nil_iff hrow1 rfl
          clear hst1 h2 h3 hoff'
          go_upto_region 8 with fail
          refine region_ext (by kernel_rfl) (by kernel_rfl) ?_
          repeat (go_big_quiet_step (fail))
          refine wpQuiet_nil ?_
          rintro w2 ⟨⟨_, hw2⟩, rfl⟩
          have hrow2 := ownsRow_call hrow1 (hw2.mono (Nat.le_refl _))
          have B2 := B1.trans (hw2.mono hs1)
          have hs2 := B2.size
          have kN := Blk.new w2 115 #[.int .i64 (k : Int), .int .i64 1]
          go_wp2_with (refine wpList_append_own _ rfl (.tmp 57) (.tmp 60) 22 rfl w.heap.size 115 i0 (.agg #[.int .i64 0, .int .i64 0]) 2 16 Tryz.underlying22 hi hz0 hz1 hz2 rfl (by decide) _ 0 (spCells ([] : List Sp)) rfl (hrow2.alloc _) ⟨w2.heap.size, 0, none⟩ 1 1 [.int .i64 (k : Int), .int .i64 1] rfl rfl (news_two kN) news_one2 (by unfold maxLen; omega) (by omega) (by simp; omega) ?_; intro v' w3 hown' hgrow _)
          go_roundw
          case rel => exact ⟨k + 1, _, true, by omega, by go_num, hst2, by simpa [spCells] using hown', (B2.alloc hs2 _).grown hgrow (by simp; omega) (fun j hj => (hrow2.lt j hj).1)⟩
          case measure => simp [intOf]; omega
        · rw [List.concat_eq_append] at hcon
          subst hcon
          obtain ⟨pl, hpl⟩ : ∃ pl, pre.length = pl := ⟨_, rfl⟩
          have hlp : pl + 1 = ll := by rw [← hll, List.length_append, hpl]; rfl
          have hxm := h2 x (by simp)
          have hpk : (pl : Int) < 1024 := by omega
          rw [← hlp] at hrow1
          obtain ⟨g, cap, e2⟩ := ownsRow_succ hrow1
          subst e2
          have hcc := own_spanA hrow1 (by rw [List.length_append, hpl]; rfl) (p := pl) (by omega)
          have hgd : (pre ++ [x]).getD pl (0, 0) = x := by rw [← hpl]; simp
          rw [hgd] at hcc
          have hx1 : ins = true → x.1 + x.2 = (k : Int) := fun h => by
            obtain ⟨l', x', e, hx'⟩ := h3 h
            have := (List.append_inj' e rfl).2
            simp only [List.cons.injEq, and_true] at this
            rw [this]; exact hx'
          have hx2 : ins = false → x.1 + x.2 < (k : Int) := fun h => hoff'.out h x (by simp)
          obtain ⟨xa, xb⟩ := x
          simp only at hxm hcc hx1 hx2
          obtain ⟨ca, cb⟩ := hcc
          have e1 := fun z : Ext w1 => z.cell ca
          have e2 := fun z : Ext w1 => z.cell cb
          have hplI : (pl : Int) < (pl : Int) + 1 := by omega
          cases ins with
          | true =>
            have hxe : (xa + xb == (k : Int)) = true := by rw [beq_iff_eq]; exact hx1 rfl
            have hst2 : Hid (runsM V p (k + 1) = (pre ++ [(xa, xb + 1)], true)) := Lib.hid (by rw [hst1.out, if_pos rfl, bumpS_snoc])
            have hpl' := Lib.hid hpl
            clear hst1 h2 h3 hoff' hx2 hgd hll hlp
            go_upto_region 8 with fail
            refine region_ext (by kernel_rfl) (by kernel_rfl) ?_
            repeat (go_big_quiet_step (fail))
            refine wpQuiet_nil ?_
            rintro w2 ⟨⟨_, hw2⟩, rfl⟩
            have hrow2 := ownsRow_call hrow1 hw2
            have B2 := B1.trans (hw2.mono hs1)
            have hs2 := B2.size
            have hgb := hrow2.lt g rfl
            have cb2 := (hw2.cell (p := ⟨g, pl * 2 + 1, none⟩) (hrow1.lt g rfl).2).trans cb
            have hfx := hrow2.frozenAt (pl * 2 + 1)
            obtain ⟨hst3, hgr⟩ := hrow2.stored (pl * 2 + 1) (.int .i64 (xb + 1))
            rw [← hpl, spCells_set, hpl] at hst3
            clear e1 e2 ca cb hpl
            go_wp2_with fail
            go_roundw
            case rel => exact ⟨k + 1, _, true, by omega, by go_num, hst2, by rw [List.length_append, hpl'.out]; exact hst3, B2.grown hgr hs2 (fun j hj => by cases hj; exact hgb.1)⟩
            case measure => simp [intOf]; omega
          | false =>
            have hxe : (xa + xb == (k : Int)) = false := by rw [beq_eq_false_iff_ne]; have := hx2 rfl; omega
            have hst2 : Hid (runsM V p (k + 1) = ((pre ++ [(xa, xb)]) ++ [((k : Int), 1)], true)) := Lib.hid (by rw [hst1.out, if_neg (by decide)])
            have hpl' := Lib.hid hpl
            clear hst1 h2 h3 hoff' hx1 hgd hll hlp hpl
            go_upto_region 8 with fail
            refine region_ext (by kernel_rfl) (by kernel_rfl) ?_
            repeat (go_big_quiet_step (fail))
            refine wpQuiet_nil ?_
            rintro w2 ⟨⟨_, hw2⟩, rfl⟩
            have hrow2 := ownsRow_call hrow1 hw2
            have B2 := B1.trans (hw2.mono hs1)
            have hs2 := B2.size
            have kN := Blk.new w2 115 #[.int .i64 (k : Int), .int .i64 1]
            generalize pre ++ [(xa, xb)] = l2 at *
            clear e1 e2 ca cb
            go_wp2_with (refine wpList_append_own _ rfl (.tmp 57) (.tmp 60) 22 rfl w.heap.size 115 i0 (.agg #[.int .i64 0, .int .i64 0]) 2 16 Tryz.underlying22 hi hz0 hz1 hz2 rfl (by decide) _ (pl + 1) (spCells l2) rfl (hrow2.alloc _) ⟨w2.heap.size, 0, none⟩ 1 1 [.int .i64 (k : Int), .int .i64 1] rfl rfl (news_two kN) news_one2 (by unfold maxLen; omega) (by omega) (by simp; omega) ?_; intro v' w3 hown' hgrow _)
            go_roundw
            case rel =>
              refine ⟨k + 1, _, true, by omega, by go_num, hst2, ?_, (B2.alloc hs2 _).grown hgrow (by simp; omega) (fun j hj => (hrow2.lt j hj).1)⟩
              rw [spCells_snoc, List.length_append, List.length_singleton, show l2.length = pl + 1 by have := hrow2.1; rw [spCells_len] at this; omega]
              exact hown'
            case measure => simp [intOf]; omega
      · have hk2' : (kd != 2) = true := by simpa using hk2
        have hst2 : Hid (runsM V p (k + 1) = (l, false)) := Lib.hid (by rw [hst.out, if_pos hk2])
        clear hst h2 h3 hk2 hoff'
        go_wp2_with fail
        go_roundw
        case rel => exact ⟨k + 1, l, false, by omega, by go_num, hst2, by rw [hll]; exact hrow1, B1⟩
        case measure => simp [intOf]; omega
    · obtain rfl : k = n := by omega
      have hlt' : decide ((k : Int) < (k : Int)) = false := by simp
      have hRl : R = l := by rw [← hR'.out, hl.out]
      subst hRl
      obtain ⟨A', cap', rfl, hru, hnc, hcm, hfr, hnz⟩ := own_RU hrow rfl
      have hnz' : A' = none → cap' = 0 := fun hA => own_cap hrow hA
      go_wp2_with fail
      go_ret
      exact ⟨A', cap', rfl, hru, hfr, hnc, hcm, hnz', hB⟩
end Go.Proofs.YtpabnbhbcphfiaaGreat
namespace Go.Pol
open Go Go.RowKit
def anyE (es : List Int) : Bool := es.any fun x => x != 0
theorem anyE_snoc (es : List Int) (e : Int) : anyE (es ++ [e]) = (anyE es || (e != 0)) := by simp [anyE]
theorem firE_snoc (e : Int) : ∀ es : List Int, firE (es ++ [e]) = if firE es = 0 then e else firE es
  | [] => by
    show (if e ≠ 0 then e else 0) = if (0 : Int) = 0 then e else 0
    rw [if_pos rfl]
    by_cases h : e = 0
    · rw [if_neg (by simpa using h), h]
    · rw [if_pos h]
  | x :: r => by
    have ih := firE_snoc e r
    show (if x ≠ 0 then x else firE (r ++ [e])) = if (if x ≠ 0 then x else firE r) = 0 then e else (if x ≠ 0 then x else firE r)
    by_cases h : x = 0
    · subst h
      have e1 : (if (0 : Int) ≠ 0 then (0 : Int) else firE (r ++ [e])) = firE (r ++ [e]) := if_neg (by simp)
      have e2 : (if (0 : Int) ≠ 0 then (0 : Int) else firE r) = firE r := if_neg (by simp)
      rw [e1, e2]; exact ih
    · rw [if_pos h, if_pos h, if_neg h]
theorem firE_bne (es : List Int) : (firE es != 0) = anyE es := by
  rw [Bool.eq_iff_iff]
  unfold anyE
  rw [List.any_eq_true]
  have := firE_any es
  simpa using this
theorem RU.takenT {w : World} {B : Nat} {A : Option Addr} {us : List Sp} (h : RU w B A us) (m : Nat) : RU w B A (us.take m) := fun k hk => by
  have hk2 : k < m ∧ k < us.length := by rw [List.length_take] at hk; omega
  have e : (us.take m).getD k (0, 0) = us.getD k (0, 0) := by simp [List.getD_eq_getElem?_getD, hk2.1]
  rw [e]
  exact h k hk2.2
theorem errs_rev (q : Int) (l : List Sp) (s : List Int × Vm) {k : Nat} (hk : k < l.length) : (l.drop k).reverse.foldl (errsS q) s = errsS q ((l.drop (k + 1)).reverse.foldl (errsS q) s) (l.getD k (0, 0)) := by
  rw [drop_cons (0, 0) l k hk, List.reverse_cons, List.foldl_append]; rfl
end Go.Pol
namespace Go.Proofs.YtpabnbhbcphfiaaGreat
open Go Go.Proofs Go.RowKit Go.Pol Go.Shelf
attribute [local go_sem] Oper.semAt_some Go.Pol.wide_fn Go.Pol.wide_depth Go.Pol.wide_fn' Go.Pol.wide_depth'

set_option maxRecDepth 100000 in
set_option maxHeartbeats 3200000 in
theorem moved6_any (B b : Nat) (p q : Int) (n : Nat) (V : Vm) (w : World) (hV : RefIs w B b V) (hp : 0 ≤ p ∧ p ≤ 1024) (hq : 0 ≤ q ∧ q ≤ 1024) (hn : n ≤ 1024) :
    Calls Tryz.prog 94 #[.pointer (some ⟨b, 0, none⟩), .int .i64 p, .int .i64 q, .int .i64 n] w fun e w' => ∃ r, r = moveF V p q n ∧ e = .returned (.tuple #[.bool r.2.1, .bool r.2.2.1, .int .i64 r.1]) ∧ RefTo B b r.2.2.2 w w' := by
  obtain ⟨R, hR⟩ : ∃ R, moveF V p q (n : Int) = R := ⟨_, rfl⟩
  rw [hR]
  unfold moveF at hR
  rw [Int.toNat_natCast] at hR
  have hR2 := Lib.hid hR
  have HRs := Lib.hid (reserve6_any B b q n V w hV)
  have hbs := hV.lt
  clear hR hV
  go_enter Tryz.func94, Tryz.ntmps94
  go_wp2_with fail
  refine HRs.out.mono ?_
  rintro e w3 ⟨rfl, V3, F03⟩
  have V3' := Lib.hid V3
  have hs3 := F03.size
  generalize bec V q (n : Int) 0 0 1 = J at *
  obtain ⟨je, jV⟩ := J
  simp only at hR2 V3'
  have hR3 := hR2.out
  clear V3 hR2 HRs
  by_cases hj : je = 0
  case neg =>
    have hj' : (je != 0) = true := by simpa using hj
    rw [if_pos hj] at hR3
    have hR4 := Lib.hid hR3
    clear hR3
    go_wp2_with fail
    (try simp only [Exit.inBlock, Exit.then]); refine bodyPost_ret (results_tmp3 rfl _ _ _) rfl ?_
    refine ⟨R, rfl, ?_, ?_⟩
    · rw [← hR4.out]; rfl
    · rw [← hR4.out]
      exact ⟨V3'.out, F03⟩
  subst hj
  rw [if_neg (by simp)] at hR3
  have hinv := runsM_inv jV p n
  have HRu := Lib.hid (runs6_any B b p n jV w3 V3'.out hp hn)
  generalize (runsM jV p n).1 = l at *
  obtain ⟨hl1, hl2, _⟩ := hinv
  have hR4 := Lib.hid hR3
  have hlx := Lib.hid hl2
  obtain ⟨ln, hln⟩ : ∃ ln, l.length = ln := ⟨_, rfl⟩
  unfold SpansN at HRu
  rw [hln] at HRu hl1
  have hln' := Lib.hid hln
  clear hR3 hl2 hln
  go_wp2_with fail
  refine HRu.out.mono ?_
  rintro e w4 ⟨Al, cl, rfl, hrl, hfl, hcl, hclm, hlz, hb4⟩
  have F04 : Far (fun k => k = b) w w4 := F03.trans (.of_below hb4)
  have V4 := Lib.hid (V3'.out.call hb4)
  have hs4 := hb4.size
  clear HRu V3' F03 hb4
  go_wp2_with fail
  go_loopw [13] (fun i wr => ∃ (k : Nat) (U : Vm), k ≤ ln ∧ i = .int .i64 k ∧ Hid (cmF q l jV = (k + (cmF q (l.drop k) U).1, (cmF q (l.drop k) U).2)) ∧ Hid (RefIs wr B b U) ∧ Far (fun k => k = b) w4 wr) (fun i _ => ln - (intOf i).toNat)
  case atStart => exact ⟨0, jV, by omega, rfl, Lib.hid (by simp), V4, Far.refl _ _⟩
  case round =>
    clear V4
    obtain ⟨k, U, hk, rfl, hfl2, hU, hF⟩ := hrel
    have hsr := hF.size
    by_cases hlt : k < ln
    · have hlt' : decide ((k : Int) < (ln : Int)) = true := by simpa using hlt
      have hln2 := hln'.out
      have hsn := cmF_step (by omega) hfl2.out
      obtain ⟨rb, ro', rfl, hrb, c5, c6⟩ := hrl.at_' (k := k) (by omega)
      have hrbs := hfl rb ro' rfl
      have d5 := hF.cell c5 (by show ¬ rb = b; omega)
      have d6 := hF.cell c6 (by show ¬ rb = b; omega)
      have hxm := hlx.out (l.getD k (0, 0)) (by rw [List.getD_eq_getElem?_getD, List.getElem?_eq_getElem (by omega)]; exact List.getElem_mem _)
      generalize l.getD k (0, 0) = x at *
      obtain ⟨xa, xb⟩ := x
      simp only at d5 d6 hsn hxm
      have hsn' := Lib.hid hsn
      have e1 := fun x : Ext wr => x.cell d5
      have e2 := fun x : Ext wr => x.cell d6
      clear hsn c5 c6 hfl2 hln2 d5 d6
      go_upto_region 8 with fail
      refine region_ext_tail 13 (by kernel_rfl) (by kernel_rfl) ?_
      simp only [List.take_succ_cons, List.take_zero, List.drop_succ_cons, List.drop_zero]
      repeat (go_big_quiet_step (fail))
      refine wpQuiet_nil ?_
      intro z
      go_wp2_with fail
      refine (commit6_any B b (q + xa) xb U z.w (hU.out.call z.le)).mono ?_
      rintro e w6 ⟨rfl, V6, F6⟩
      have V6' := Lib.hid V6
      have hF6 : Far (fun k => k = b) w4 w6 := (hF.trans (.of_below z.le)).trans F6
      generalize bec U (q + xa) xb 2 1 2 = J at *
      obtain ⟨ce, cV⟩ := J
      simp only at hsn' V6'
      have hsn2 := hsn'.out
      clear e1 e2 hsn' V6 F6 hU hF
      by_cases hj : ce = 0
      · subst hj
        rw [if_pos rfl] at hsn2
        have hsn3 := Lib.hid hsn2
        clear hsn2
        go_wp2_with fail
        go_roundw
        case rel => exact ⟨k + 1, cV, by omega, by go_num, hsn3, V6', hF6⟩
        case measure => (first | (simp [intOf]; done) | (simp [intOf]; omega))
      · have hj' : (ce == 0) = false := by simpa using hj
        rw [if_neg hj] at hsn2
        have hR5 : Hid (R = (ce, false, (leaveF cV q (n : Int) (l.take k).reverse).1 != 0, (leaveF cV q (n : Int) (l.take k).reverse).2)) := Lib.hid (by
          rw [← hR4.out]
          simp only [hsn2]
          rw [if_pos hj])
        have hlk : (l.take k).length = k := by rw [List.length_take, hln'.out]; omega
        have hrl6 : RU w6 w6.heap.size (some ⟨rb, ro', none⟩) (l.take k) := RU.takenT ((RU.more (fun j hj => by
          obtain ⟨b', o', e, hb', h1, h2⟩ := hrl j hj
          have := hfl b' o' e
          exact ⟨b', o', e, hb', hF6.cell h1 (by show ¬ b' = b; omega), hF6.cell h2 (by show ¬ b' = b; omega)⟩) hF6.size : RU w6 w6.heap.size (some ⟨rb, ro', none⟩) l)) k
        have hlk' := Lib.hid hlk
        have hlb : Hid (∀ x ∈ l.take k, 0 ≤ x.1 ∧ 1 ≤ x.2 ∧ x.1 + x.2 ≤ (n : Int)) := Lib.hid (fun x hx => hlx.out x (List.mem_of_mem_take hx))
        generalize l.take k = lt at *
        have hs6 := hF6.size
        have hk1024 : (k : Int) ≤ 1024 := by omega
        obtain ⟨wA, rfl⟩ : ∃ wA, wA = w6 := ⟨_, rfl⟩
        clear hsn2 hR4 hlk hlx hln'
        go_wp2_with fail
        clear hj'
        go_loopw [14, 15] (fun st i wr => ∃ (m : Nat) (j : Int) (es : List Int) (W : Vm) (sb : Bool), m ≤ k ∧ i = .int .i64 j ∧ st = .bool sb ∧ Hid (j = (m : Int) - 1) ∧ (-1 ≤ j ∧ j < 1024) ∧ Hid ((lt.drop m).reverse.foldl (errsS q) ([], cV) = (es, W)) ∧ Hid (anyE es = sb) ∧ Hid (RefIs wr B b W) ∧ Far (fun k => k = b) wA wr) (fun _ i _ => (intOf i + 1).toNat)
        case atStart => exact ⟨k, (k : Int) - 1, [], cV, false, by omega, rfl, rfl, Lib.hid rfl, by omega, Lib.hid (by rw [List.drop_of_length_le (by rw [hlk'.out]; exact Nat.le_refl _)]; rfl), Lib.hid rfl, V6', Far.refl _ _⟩
        case round =>
          clear V6'
          obtain ⟨m, j, es, W, sb, hm, rfl, rfl, hjm, hjb, hfo, hsb, hW, hFA⟩ := hrel
          by_cases hlt2 : 0 ≤ j
          · have hlt2' : decide ((0 : Int) ≤ j) = true := by simpa using hlt2
            obtain ⟨jn, rfl⟩ := Int.eq_ofNat_of_zero_le hlt2
            have hlk2 := hlk'.out
            have hjm2 := hjm.out
            obtain rfl : m = jn + 1 := by omega
            obtain ⟨rb2, ro2, e2, _, c5, c6⟩ := hrl6.at_' (k := jn) (by omega)
            cases e2
            have d5 := hFA.cell c5 (by show ¬ rb = b; omega)
            have d6 := hFA.cell c6 (by show ¬ rb = b; omega)
            have hst := errs_rev q lt ([], cV) (k := jn) (by omega)
            rw [hfo.out] at hst
            have hxm2 := hlb.out (lt.getD jn (0, 0)) (by rw [List.getD_eq_getElem?_getD, List.getElem?_eq_getElem (by omega)]; exact List.getElem_mem _)
            generalize lt.getD jn (0, 0) = x at *
            obtain ⟨xc, xd⟩ := x
            simp only at d5 d6 hxm2
            have hst' : Hid ((lt.drop jn).reverse.foldl (errsS q) ([], cV) = (es ++ [(bec W (q + xc) xd 3 2 1).1], (bec W (q + xc) xd 3 2 1).2)) := Lib.hid hst
            have e1 := fun x : Ext wr => x.cell d5
            have e2 := fun x : Ext wr => x.cell d6
            have hjk : (jn : Int) < (cl : Int) := by omega
            clear hst c5 c6 d5 d6 hjm2 hfo hlk2
            go_upto_region 14 with fail
            refine region_ext_tail 13 (by kernel_rfl) (by kernel_rfl) ?_
            simp only [List.take_succ_cons, List.take_zero, List.drop_succ_cons, List.drop_zero]
            repeat (go_big_quiet_step (fail))
            refine wpQuiet_nil ?_
            intro z
            go_wp2_with fail
            refine (decommit6_any B b (q + xc) xd W z.w (hW.out.call z.le)).mono ?_
            rintro e w7 ⟨rfl, V7, F7⟩
            have V7' := Lib.hid V7
            have hF7 : Far (fun k => k = b) wA w7 := (hFA.trans (.of_below z.le)).trans F7
            generalize bec W (q + xc) xd 3 2 1 = J at *
            obtain ⟨de, dV⟩ := J
            simp only at hst' V7'
            clear e1 e2 V7 F7 hW hFA
            by_cases hd : de = 0
            · subst hd
              have hs2 : Hid (anyE (es ++ [0]) = sb) := Lib.hid (by rw [anyE_snoc, hsb.out]; simp)
              clear hsb
              go_wp2_with fail
              go_roundw
              case rel => exact ⟨jn, (jn : Int) - 1, _, dV, sb, by omega, by go_num, rfl, Lib.hid rfl, by omega, hst', hs2, V7', hF7⟩
              case measure => (first | (simp [intOf]; done) | (simp [intOf]; omega))
            · have hd' : (de != 0) = true := by simpa using hd
              have hs2 : Hid (anyE (es ++ [de]) = true) := Lib.hid (by rw [anyE_snoc, hd', Bool.or_true])
              clear hsb hd
              go_wp2_with fail
              go_roundw
              case rel => exact ⟨jn, (jn : Int) - 1, _, dV, true, by omega, by go_num, rfl, Lib.hid rfl, by omega, hst', hs2, V7', hF7⟩
              case measure => (first | (simp [intOf]; done) | (simp [intOf]; omega))
          · have hlt2' : decide ((0 : Int) ≤ j) = false := by simpa using hlt2
            obtain rfl : m = 0 := by have := hjm.out; omega
            have hfo2 : Hid (errsF cV q lt.reverse = (es, W)) := Lib.hid hfo.out
            have HRl := Lib.hid (release6_any B b q n W wr hW.out)
            have hlv : Hid (leaveF cV q (n : Int) lt.reverse = (firE (es ++ [(bec W q (n : Int) 1 1 0).1]), (bec W q (n : Int) 1 1 0).2)) := Lib.hid (by
              unfold leaveF
              rw [hfo2.out])
            generalize bec W q (n : Int) 1 1 0 = J at *
            obtain ⟨de, dV⟩ := J
            simp only at HRl hlv
            have hlt3 := hlt2'
            clear hfo hfo2 hW hrl6
            go_wp2_with fail
            refine HRl.out.mono ?_
            rintro e w8 ⟨rfl, V8, F8⟩
            have hR6 : Hid (R = (ce, false, (sb || (de != 0)), dV)) := Lib.hid (by
              rw [hR5.out, hlv.out]
              simp only
              rw [firE_bne, anyE_snoc, hsb.out])
            have F08 : Far (fun k => k = b) w w8 := ((F04.trans hF6).trans hFA).trans F8
            have V8' := Lib.hid V8
            clear HRl hlv hR5 hsb V8 F8 hFA
            by_cases hd : de = 0
            · subst hd
              go_wp2_with fail
              (try simp only [Exit.inBlock, Exit.then]); refine bodyPost_ret (results_tmp3 rfl _ _ _) rfl ?_
              refine ⟨R, rfl, ?_, ?_⟩
              · rw [hR6.out, show ((0 : Int) != 0) = false from rfl, Bool.or_false]; rfl
              · rw [hR6.out]; exact ⟨V8'.out, F08⟩
            · have hd' : (de != 0) = true := by simpa using hd
              clear hd
              go_wp2_with fail
              (try simp only [Exit.inBlock, Exit.then]); refine bodyPost_ret (results_tmp3 rfl _ _ _) rfl ?_
              refine ⟨R, rfl, ?_, ?_⟩
              · rw [hR6.out, hd', Bool.or_true]; rfl
              · rw [hR6.out]; exact ⟨V8'.out, F08⟩
    · obtain rfl : k = ln := by omega
      have hlt' : decide ((k : Int) < (k : Int)) = false := by simp
      have hcm : cmF q l jV = (k, 0, U) := by
        rw [hfl2.out, List.drop_of_length_le (by rw [hln'.out]; exact Nat.le_refl _)]
        rfl
      have hR5 : Hid (R = ((leaveF (l.foldl (copyS p q) U) p (n : Int) l).1, true, (leaveF (l.foldl (copyS p q) U) p (n : Int) l).1 != 0, (leaveF (l.foldl (copyS p q) U) p (n : Int) l).2)) := Lib.hid (by
        rw [← hR4.out]
        simp only [hcm]
        rw [if_neg (by simp)])
      obtain ⟨wA, rfl⟩ : ∃ wA, wA = wr := ⟨_, rfl⟩
      have F0A : Far (fun k => k = b) w wA := F04.trans hF
      have hget := Lib.hid (fun (j : Nat) (hj : j < k) (W : World) (h : Far (fun k => k = b) wA W) => show ∃ rb ro, Al = some ⟨rb, ro, none⟩ ∧ W.cell? ⟨rb, ro + j * 2, none⟩ = some (.int .i64 (l.getD j (0, 0)).1) ∧ W.cell? ⟨rb, ro + j * 2 + 1, none⟩ = some (.int .i64 (l.getD j (0, 0)).2) from by
        obtain ⟨rb, ro', e, hrb, c5, c6⟩ := hrl.at_' (k := j) (by rw [hln'.out]; exact hj)
        have hrbs := hfl rb ro' e
        exact ⟨rb, ro', e, h.cell (hF.cell c5 (by show ¬ rb = b; omega)) (by show ¬ rb = b; omega), h.cell (hF.cell c6 (by show ¬ rb = b; omega)) (by show ¬ rb = b; omega)⟩)
      have hxm' : Hid (∀ j, j < k → 0 ≤ (l.getD j (0, 0)).1 ∧ 1 ≤ (l.getD j (0, 0)).2 ∧ (l.getD j (0, 0)).1 + (l.getD j (0, 0)).2 ≤ (n : Int)) := Lib.hid (fun j hj => hlx.out (l.getD j (0, 0)) (by rw [List.getD_eq_getElem?_getD, List.getElem?_eq_getElem (by rw [hln'.out]; exact hj)]; exact List.getElem_mem _))
      have hkn : k ≤ 1024 := by omega
      clear hfl2 hcm hR4 hrl hfl hlx
      go_wp2_with fail
      clear hlt'
      go_loopw [16] (fun i wr => ∃ (j : Nat) (T : Vm), j ≤ k ∧ i = .int .i64 j ∧ Hid ((l.take j).foldl (copyS p q) U = T) ∧ Hid (RefIs wr B b T) ∧ Far (fun k => k = b) wA wr) (fun i _ => k - (intOf i).toNat)
      case atStart => exact ⟨0, U, by omega, rfl, Lib.hid rfl, hU, Far.refl _ _⟩
      case round =>
        clear hU hF
        obtain ⟨j, T, hj, rfl, hfo, hT, hFA⟩ := hrel
        by_cases hlt2 : j < k
        · have hlt2' : decide ((j : Int) < (k : Int)) = true := by simpa using hlt2
          have hst : Hid ((l.take (j + 1)).foldl (copyS p q) U = copyS p q T (l.getD j (0, 0))) := Lib.hid (by
            rw [z_take (0, 0) l (by rw [hln'.out]; exact hlt2), List.foldl_append, hfo.out]; rfl)
          have hcl2 := Lib.hid (hget.out j hlt2)
          have hxm := hxm'.out j hlt2
          obtain ⟨rb, ro', rfl, d5, d6⟩ := hcl2.out wr hFA
          generalize l.getD j (0, 0) = x at *
          obtain ⟨xa, xb⟩ := x
          simp only at hxm d5 d6 hcl2
          obtain ⟨m, hm⟩ : ∃ m : Nat, xb * 64 = (m : Int) := ⟨(xb * 64).toNat, by omega⟩
          have hst2 : Hid ((l.take (j + 1)).foldl (copyS p q) U = copyF T ((p + xa) * 64) ((q + xa) * 64) m) := Lib.hid (by
            rw [hst.out]
            unfold copyS
            rw [show ((xa, xb) : Sp).2 * 64 = (m : Int) from hm, Int.toNat_natCast])
          have hm' := Lib.hid hm
          obtain ⟨wB, rfl⟩ : ∃ wB, wB = wr := ⟨_, rfl⟩
          have hmb : m ≤ 65536 := by omega
          clear hst hfo hm
          go_wp2_with fail
          clear hlt2'
          go_loopw [17] (fun i wr => ∃ (y : Nat) (Y : Vm), y ≤ m ∧ i = .int .i64 y ∧ Hid (copyF T ((p + xa) * 64) ((q + xa) * 64) y = Y) ∧ Hid (RefIs wr B b Y) ∧ Far (fun k => k = b) wB wr) (fun i _ => m - (intOf i).toNat)
          case atStart => exact ⟨0, T, by omega, rfl, Lib.hid rfl, hT, Far.refl _ _⟩
          case round =>
            clear hT d5 d6
            obtain ⟨y, Y, hy, rfl, hcp, hY, hFB⟩ := hrel
            obtain ⟨rb2, ro2, e2, d5, d6⟩ := hcl2.out wr (hFA.trans hFB)
            cases e2
            by_cases hlt3 : y < m
            · have hlt3' : decide ((y : Int) < xb * 64) = true := by rw [decide_eq_true_eq, hm'.out]; omega
              have hadr : p * 64 + (xa * 64 + (y : Int)) = (p + xa) * 64 + (y : Int) := by omega
              have hadw : q * 64 + (xa * 64 + (y : Int)) = (q + xa) * 64 + (y : Int) := by omega
              have hst3 : Hid (copyF T ((p + xa) * 64) ((q + xa) * 64) (y + 1) = writeF Y (q * 64 + (xa * 64 + (y : Int))) (readF Y (p * 64 + (xa * 64 + (y : Int))))) := Lib.hid (by rw [hadr, hadw, copyF, hcp.out])
              have HR1 := Lib.hid (read6_any B b (p * 64 + (xa * 64 + (y : Int))) Y wr hY.out)
              generalize readF Y (p * 64 + (xa * 64 + (y : Int))) = v at *
              have HW1 := Lib.hid (write6_any B b (q * 64 + (xa * 64 + (y : Int))) v Y wr hY.out)
              clear hadr hadw hcp
              go_wp2_with fail
              refine HR1.out.mono ?_
              rintro e w7 ⟨rfl, hw7⟩
              replace hw7 := hw7.symm
              subst hw7
              go_wp2_with fail
              refine HW1.out.mono ?_
              rintro e w8 ⟨rfl, V8, F8⟩
              have hF8 := hFB.trans F8
              have V8' := Lib.hid V8
              clear HR1 HW1 V8 F8 d5 d6
              go_wp2_with fail
              go_roundw
              case rel => exact ⟨y + 1, _, by omega, by go_num, hst3, V8', hF8⟩
              case measure => (first | (simp [intOf]; done) | (simp [intOf]; omega))
            · obtain rfl : y = m := by omega
              have hlt3' : decide ((y : Int) < xb * 64) = false := by rw [decide_eq_false_iff_not, hm'.out]; omega
              have hst4 : Hid ((l.take (j + 1)).foldl (copyS p q) U = Y) := Lib.hid (by rw [hst2.out, hcp.out])
              have hF9 := hFA.trans hFB
              clear hst2 hcp
              go_wp2_with fail
              go_roundw
              case rel => exact ⟨j + 1, Y, by omega, by go_num, hst4, hY, hF9⟩
              case measure => (first | (simp [intOf]; done) | (simp [intOf]; omega))
        · obtain rfl : j = k := by omega
          have hlt2' : decide ((j : Int) < (j : Int)) = false := by simp
          have hfo2 : Hid (l.foldl (copyS p q) U = T) := Lib.hid (by have := hfo.out; rwa [← hln'.out, List.take_length] at this)
          have hR6 : Hid (R = ((leaveF T p (n : Int) l).1, true, (leaveF T p (n : Int) l).1 != 0, (leaveF T p (n : Int) l).2)) := Lib.hid (by rw [hR5.out, hfo2.out])
          obtain ⟨wC, rfl⟩ : ∃ wC, wC = wr := ⟨_, rfl⟩
          clear hfo hfo2 hR5
          go_wp2_with fail
          clear hlt2'
          go_loopw [21, 22] (fun c i wr => ∃ (y : Nat) (es : List Int) (Y : Vm) (ec : Int), i = .int .i64 y ∧ c = .int .i64 ec ∧ Hid (firE es = ec) ∧ Hid (RefIs wr B b Y) ∧ Far (fun k => k = b) wC wr ∧ y ≤ j + 1 ∧ Hid (if y ≤ j then (l.take y).foldl (errsS p) ([], T) = (es, Y) else leaveF T p (n : Int) l = (ec, Y))) (fun _ i _ => j + 1 - (intOf i).toNat)
          case atStart => exact ⟨0, [], T, 0, rfl, rfl, Lib.hid rfl, hT, Far.refl _ _, by omega, Lib.hid (by rw [if_pos (by omega)]; rfl)⟩
          case round =>
            clear hT
            obtain ⟨y, es, Y, ec, rfl, rfl, hec, hY, hFC, hyj, hfo⟩ := hrel
            by_cases hlt3 : y ≤ j
            · have hlt3' : decide ((y : Int) ≤ (j : Int)) = true := by simpa using hlt3
              have hfo2 := hfo.out
              rw [if_pos hlt3] at hfo2
              by_cases hlt4 : y < j
              · have hlt4' : decide ((y : Int) < (j : Int)) = true := by simpa using hlt4
                have hst : (l.take (y + 1)).foldl (errsS p) ([], T) = errsS p (es, Y) (l.getD y (0, 0)) := by
                  rw [z_take (0, 0) l (by rw [hln'.out]; exact hlt4), List.foldl_append, hfo2]; rfl
                obtain ⟨rb, ro', rfl, d5, d6⟩ := hget.out y hlt4 wr (hFA.trans hFC)
                have hxm := hxm'.out y hlt4
                generalize l.getD y (0, 0) = x at *
                obtain ⟨xa, xb⟩ := x
                simp only at d5 d6 hxm
                have hst' : Hid ((l.take (y + 1)).foldl (errsS p) ([], T) = (es ++ [(bec Y (p + xa) xb 3 2 1).1], (bec Y (p + xa) xb 3 2 1).2)) := Lib.hid hst
                have e1 := fun x : Ext wr => x.cell d5
                have e2 := fun x : Ext wr => x.cell d6
                clear hst d5 d6 hfo hfo2
                go_upto_region 33 with fail
                refine region_ext_tail 13 (by kernel_rfl) (by kernel_rfl) ?_
                simp only [List.take_succ_cons, List.take_zero, List.drop_succ_cons, List.drop_zero]
                repeat (go_big_quiet_step (fail))
                refine wpQuiet_nil ?_
                intro z
                go_wp2_with fail
                refine (decommit6_any B b (p + xa) xb Y z.w (hY.out.call z.le)).mono ?_
                rintro e w7 ⟨rfl, V7, F7⟩
                have V7' := Lib.hid V7
                have hF7 : Far (fun k => k = b) wC w7 := (hFC.trans (.of_below z.le)).trans F7
                generalize bec Y (p + xa) xb 3 2 1 = J at *
                obtain ⟨de, dV⟩ := J
                simp only at hst' V7'
                have hsn := firE_snoc de es
                rw [hec.out] at hsn
                have hfo3 : ∀ c, Hid (if y + 1 ≤ j then (l.take (y + 1)).foldl (errsS p) ([], T) = (es ++ [de], dV) else leaveF T p (n : Int) l = (c, dV)) := fun c => Lib.hid (by rw [if_pos (by omega)]; exact hst'.out)
                clear e1 e2 V7 F7 hY hFC hst' hec
                by_cases hd : de = 0
                · subst hd
                  have hs2 : Hid (firE (es ++ [0]) = ec) := Lib.hid (by rw [hsn]; split <;> omega)
                  clear hsn
                  go_wp2_with fail
                  go_roundw
                  case rel => exact ⟨y + 1, es ++ [0], dV, ec, by go_num, rfl, hs2, V7', hF7, by omega, hfo3 ec⟩
                  case measure => (first | (simp [intOf]; done) | (simp [intOf]; omega))
                · have hd' : (de != 0) = true := by simpa using hd
                  by_cases hc : ec = 0
                  · subst hc
                    have hs2 : Hid (firE (es ++ [de]) = de) := Lib.hid (by rw [hsn, if_pos rfl])
                    clear hsn hd
                    go_wp2_with fail
                    go_roundw
                    case rel => exact ⟨y + 1, es ++ [de], dV, de, by go_num, rfl, hs2, V7', hF7, by omega, hfo3 de⟩
                    case measure => (first | (simp [intOf]; done) | (simp [intOf]; omega))
                  · have hc' : (ec == 0) = false := by simpa using hc
                    have hs2 : Hid (firE (es ++ [de]) = ec) := Lib.hid (by rw [hsn, if_neg hc])
                    clear hsn hd hc
                    go_wp2_with fail
                    go_roundw
                    case rel => exact ⟨y + 1, es ++ [de], dV, ec, by go_num, rfl, hs2, V7', hF7, by omega, hfo3 ec⟩
                    case measure => (first | (simp [intOf]; done) | (simp [intOf]; omega))
              · obtain rfl : y = j := by omega
                have hlt4' : decide ((y : Int) < (y : Int)) = false := by simp
                have hfo3 : errsF T p l = (es, Y) := by
                  rw [← hln'.out, List.take_length] at hfo2
                  exact hfo2
                have hlv : leaveF T p (n : Int) l = (firE (es ++ [(bec Y p (n : Int) 1 1 0).1]), (bec Y p (n : Int) 1 1 0).2) := by
                  unfold leaveF
                  rw [hfo3]
                have HRl := Lib.hid (release6_any B b p n Y wr hY.out)
                generalize bec Y p (n : Int) 1 1 0 = J at *
                obtain ⟨de, dV⟩ := J
                simp only at HRl hlv
                have hsn := firE_snoc de es
                rw [hec.out] at hsn
                rw [hsn] at hlv
                have hlv' : ∀ c, (if ec = 0 then de else ec) = c → Hid (if y + 1 ≤ y then (l.take (y + 1)).foldl (errsS p) ([], T) = (es ++ [de], dV) else leaveF T p (n : Int) l = (c, dV)) := fun c h => Lib.hid (by rw [if_neg (by omega), hlv, h])
                have hsn' := Lib.hid hsn
                clear hsn hlv hfo hfo2 hfo3 hY hec
                go_wp2_with fail
                refine HRl.out.mono ?_
                rintro e w7 ⟨rfl, V7, F7⟩
                have V7' := Lib.hid V7
                have hF7 : Far (fun k => k = b) wC w7 := hFC.trans F7
                clear HRl V7 F7 hFC
                by_cases hd : de = 0
                · subst hd
                  have hs2 : Hid (firE (es ++ [0]) = ec) := Lib.hid (by rw [hsn'.out]; split <;> omega)
                  have hl3 := hlv' ec (by split <;> omega)
                  clear hsn' hlv'
                  go_wp2_with fail
                  go_roundw
                  case rel => exact ⟨y + 1, es ++ [0], dV, ec, by go_num, rfl, hs2, V7', hF7, by omega, hl3⟩
                  case measure => (first | (simp [intOf]; done) | (simp [intOf]; omega))
                · have hd' : (de != 0) = true := by simpa using hd
                  by_cases hc : ec = 0
                  · subst hc
                    have hs2 : Hid (firE (es ++ [de]) = de) := Lib.hid (by rw [hsn'.out, if_pos rfl])
                    have hl3 := hlv' de (by rw [if_pos rfl])
                    clear hsn' hd hlv'
                    go_wp2_with fail
                    go_roundw
                    case rel => exact ⟨y + 1, es ++ [de], dV, de, by go_num, rfl, hs2, V7', hF7, by omega, hl3⟩
                    case measure => (first | (simp [intOf]; done) | (simp [intOf]; omega))
                  · have hc' : (ec == 0) = false := by simpa using hc
                    have hs2 : Hid (firE (es ++ [de]) = ec) := Lib.hid (by rw [hsn'.out, if_neg hc])
                    have hl3 := hlv' ec (by rw [if_neg hc])
                    clear hsn' hd hc hlv'
                    go_wp2_with fail
                    go_roundw
                    case rel => exact ⟨y + 1, es ++ [de], dV, ec, by go_num, rfl, hs2, V7', hF7, by omega, hl3⟩
                    case measure => (first | (simp [intOf]; done) | (simp [intOf]; omega))
            · obtain rfl : y = j + 1 := by omega
              have hlt3' : decide (((j : Int) + 1) ≤ (j : Int)) = false := by rw [decide_eq_false_iff_not]; omega
              have hfo2 := hfo.out
              rw [if_neg (by omega)] at hfo2
              have hR7 : Hid (R = (ec, true, ec != 0, Y)) := Lib.hid (by rw [hR6.out, hfo2])
              have F09 : Far (fun k => k = b) w wr := (F0A.trans hFA).trans hFC
              clear hfo hfo2 hR6
              go_wp2_with fail
              (try simp only [Exit.inBlock, Exit.then]); refine bodyPost_ret (results_tmp3 rfl _ _ _) rfl ?_
              refine ⟨R, rfl, ?_, ?_⟩
              · rw [hR7.out]; rfl
              · rw [hR7.out]; exact ⟨hY.out, F09⟩
end Go.Proofs.YtpabnbhbcphfiaaGreat
