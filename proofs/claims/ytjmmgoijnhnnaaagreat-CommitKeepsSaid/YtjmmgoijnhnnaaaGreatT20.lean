/- Walks: Count; Pieces as a function value that is ranged over. -/
import Derived.Test.YtjmmgoijnhnnaaaGreatT19
namespace Go.Proofs.YtjmmgoijnhnnaaaGreat
open Go Go.Proofs Go.RowKit Go.Pol Go.Shelf
attribute [local go_sem] Oper.semAt_some Go.Pol.wide_fn Go.Pol.wide_depth Go.Pol.wide_fn' Go.Pol.wide_depth'
set_option maxRecDepth 100000 in
set_option maxHeartbeats 1600000 in
theorem pieces1_seq (A : Option Addr) (n cap : Nat) (us : List Sp) (size : Int) (B1 B2 : Nat) (K : Nat → Prop) (w : World) (hK1 : K B1) (hK2 : K B2)
  (k1 : Blk w B1 41 #[.slice A n cap]) (k2 : Blk w B2 3 #[.int .i64 size]) (hn : us.length = n) (hm : n ≤ maxLen) (hr : RU w w.heap.size A us) (hown : us ≠ [] → ∀ b o, A = some ⟨b, o, none⟩ → K b) :
  SeqX Tryz.prog 189 #[.pointer (some ⟨B1, 0, none⟩), .pointer (some ⟨B2, 0, none⟩)] spV (fun _ => False) K (piecesF us size) w := by
 intro m l J Jx W hW hJ hJx hnew hY h0
 have kB1 := hW.blk k1 (by simpa using hK1)
 have kB2 := hW.blk k2 (by simpa using hK2)
 have far_ru : ∀ {W1 W2 : World} {N : Nat} {T : Nat → Prop}, RU W1 N A us → Far T W1 W2 → (∀ k, K k → ¬ T k) → RU W2 N A us := fun h hf hT => by
  by_cases h0 : us = []
  ·subst h0; exact RU.nil
  ·exact hf.ru h (fun b o e => hT b (hown h0 b o e))
 have hrW : RU W W.heap.size A us := (far_ru hr hW (fun k hk h => h hk)).more hW.size
 have HC := Lib.hid (spCheck_any A n cap us W hn hm hrW)
 refine callsIn_of_wp Tryz.func189 rfl trivial ?_ rfl
 simp only [Tryz.ntmps189, List.size_toArray, List.length_cons, List.length_nil, Nat.reduceAdd, Nat.reduceSub, Array.replicate_succ, Array.replicate_zero, List.push_toArray, List.append_toArray, List.nil_append, List.cons_append]
 have c1 := kB1.cell
 by_cases hc : chkS us = 0
 case neg =>
  have hE : Hid (piecesF us size = []) := Lib.hid (by unfold piecesF; rw [if_neg (fun h => hc h.1)])
  generalize chkS us = er at *
  have hc' : (er != 0) = true := by simpa using hc
  gi_wp2_with (gi_at_call 98; refine (callsIn_wide.2 HC.out).mono ?_; rintro e w1 ⟨rfl, hq⟩; have hJ1 := hJ _ [] W w1 h0 (.of_below hq))
  refine bodyPost_ret (results_none rfl _ _ _) rfl ?_
  exact ⟨⟨_, rfl⟩, .inl ⟨_, by rw [hE.out]; exact hJ1⟩⟩
 rw [hc] at HC
 by_cases hs1 : size < 1
 case pos =>
  have hE : Hid (piecesF us size = []) := Lib.hid (by unfold piecesF; rw [if_neg (fun h => by omega)])
  have hs1' : decide (size < 1) = true := by simpa using hs1
  gi_wp2_with (gi_at_call 98; refine (callsIn_wide.2 HC.out).mono ?_; rintro e w1 ⟨rfl, hq⟩; have hJ1 := hJ _ [] W w1 h0 (.of_below hq); have c2 := (kB2.call hq).cell)
  refine bodyPost_ret (results_none rfl _ _ _) rfl ?_
  exact ⟨⟨_, rfl⟩, .inl ⟨_, by rw [hE.out]; exact hJ1⟩⟩
 have hs1' : decide (size < 1) = false := by simpa using hs1
 by_cases hs2 : 1024 < size
 case pos =>
  have hE : Hid (piecesF us size = []) := Lib.hid (by unfold piecesF; rw [if_neg (fun h => by omega)])
  have hs2' : decide (1024 < size) = true := by simpa using hs2
  gi_wp2_with (gi_at_call 98; refine (callsIn_wide.2 HC.out).mono ?_; rintro e w1 ⟨rfl, hq⟩; have hJ1 := hJ _ [] W w1 h0 (.of_below hq); have c2 := (kB2.call hq).cell)
  refine bodyPost_ret (results_none rfl _ _ _) rfl ?_
  exact ⟨⟨_, rfl⟩, .inl ⟨_, by rw [hE.out]; exact hJ1⟩⟩
 have hs2' : decide (1024 < size) = false := by simpa using hs2
 have hP : Hid (piecesF us size = us.flatMap (cutF size)) := Lib.hid (by unfold piecesF; rw [if_pos ⟨hc, by omega, by omega⟩])
 have hcan := chkS_zero.1 hc
 have hlen := hcan.len
 have hvl := Lib.hid hcan.1
 have hn' := Lib.hid hn
 have hn512 : n ≤ 512 := by omega
 clear hcan hc hn
 gi_wp2_with (gi_at_call 98; refine (callsIn_wide.2 HC.out).mono ?_; rintro e w1 ⟨rfl, hq⟩; have kB1a := kB1.call hq; have kB2a := kB2.call hq; have c1a := kB1a.cell; have c2a := kB2a.cell)
 have hJ1 := hJ _ [] W w1 h0 (.of_below hq)
 have hr1 : RU w1 W.heap.size A us := hrW.below hq
 clear hr hrW HC h0 kB1 kB2 c1
 have hwz : W.heap.size ≤ w1.heap.size := hq.size
 gi_loopw [21] (fun i wr => ∃ k : Nat, k ≤ n ∧ i = .int .i64 k ∧ W.heap.size ≤ wr.heap.size ∧ J (fun _ => False) ((us.take k).flatMap (cutF size)) wr ∧ Blk wr B1 41 #[.slice A n cap] ∧ Blk wr B2 3 #[.int .i64 size] ∧ RU wr W.heap.size A us) (fun i _ => n - (intOf i).toNat)
 case atStart => exact ⟨0, by omega, rfl, hwz, hJ1, kB1a, kB2a, hr1⟩
 case round =>
  clear hJ1 kB1a kB2a hr1 c1a c2a hwz hq
  obtain ⟨k, hk, rfl, hwz, hJs, kB1, kB2, hru⟩ := hrel
  by_cases hlt : k < n
  ·have hlt' : decide ((k : Int) < (n : Int)) = true := by simpa using hlt
   obtain ⟨b, o, rfl, hbl, hc, hd⟩ := RU.at_' hru (k := k) (by have := hn'.out; omega)
   have hvx := vld_iff.1 (hvl.out (us.getD k (0,0)) (by rw [List.getD_eq_getElem?_getD, List.getElem?_eq_getElem (by have := hn'.out; omega)]; simp))
   have hft := Lib.hid (flat_take us size k (by have := hn'.out; omega))
   have hfp := Lib.hid (flat_pre us size (k + 1))
   generalize us.getD k (0,0) = x at *
   obtain ⟨xa, xb⟩ := x
   dsimp only at hc hd hvx
   have kX := Blk.new wr 140 #[.int .i64 xa, .int .i64 xb]
   have hfa : Far (fun _ => False) wr (wr.alloc (.cells #[.int .i64 xa, .int .i64 xb] 140)) := (Far.refl _ wr).alloc _
   have hJ2 := hJ _ _ _ _ (hnew _ (fun k => k = wr.heap.size) _ wr hJs (fun j hj => .inr (by omega))) (hfa.mono fun _ _ h => h.elim)
   have kB1b := kB1.alloc (.cells #[.int .i64 xa, .int .i64 xb] 140)
   have kB2b := kB2.alloc (.cells #[.int .i64 xa, .int .i64 xb] 140)
   have hrub := far_ru hru hfa (fun _ _ h => h)
   have hszb : W.heap.size ≤ (wr.alloc (.cells #[.int .i64 xa, .int .i64 xb] 140)).heap.size := by simp; omega
   have hbx0 : wr.heap.size < (wr.alloc (.cells #[.int .i64 xa, .int .i64 xb] 140)).heap.size := by simp
   obtain ⟨L0, hL0⟩ : ∃ L0, (us.take k).flatMap (cutF size) = L0 := ⟨_, rfl⟩
   have hft' : Hid ((us.take (k + 1)).flatMap (cutF size) = L0 ++ cutF size (xa, xb)) := Lib.hid (by rw [hft.out, hL0])
   rw [hL0] at hJ2
   clear hft hL0
   gi_wp2_with fail
   generalize wr.alloc (.cells #[.int .i64 xa, .int .i64 xb] 140) = wa at *
   generalize wr.heap.size = bx at *
   clear hJs kB1 kB2 hru hfa hc hd hbl hwz
   gi_loopw [6] (fun at_ wr => ∃ (a : Int) (f : Nat) (don : List Sp), at_ = .int .i64 a ∧ xa ≤ a ∧ a ≤ 1024 ∧ xa + xb - a ≤ f ∧ W.heap.size ≤ wr.heap.size ∧ bx < wr.heap.size ∧ J (fun k => k = bx) (L0 ++ don) wr ∧ Blk wr B1 41 #[.slice (some ⟨b, o, none⟩) n cap] ∧ Blk wr B2 3 #[.int .i64 size] ∧ RU wr W.heap.size (some ⟨b, o, none⟩) us ∧ Blk wr bx 140 #[.int .i64 xa, .int .i64 xb] ∧ Hid (cutF size (xa, xb) = don ++ cutN size (xa + xb) f a)) (fun at_ _ => (xa + xb - intOf at_).toNat)
   case atStart => exact ⟨xa, 1024, [], rfl, by omega, by omega, by omega, hszb, hbx0, by rw [List.append_nil]; exact hJ2, kB1b, kB2b, hrub, kX, Lib.hid rfl⟩
   case round =>
    clear hJ2 kB1b kB2b hrub kX hszb hbx0
    obtain ⟨a, f, don, rfl, ha0, ha1, haf, hwz, hbx, hJs, kB1, kB2, hru, kX, hcut⟩ := hrel
    have cX := kX.cell
    by_cases hlt2 : a < xa + xb
    ·have hlt2' : decide (a < xa + xb) = true := by simpa using hlt2
     obtain ⟨f', rfl⟩ : ∃ f', f = f' + 1 := ⟨f - 1, by omega⟩
     obtain ⟨q, hq⟩ : ∃ q, a / size = q := ⟨_, rfl⟩
     have hdiv : Int.tdiv a size = q := by rw [← hq]; exact Int.tdiv_eq_ediv_of_nonneg (by omega)
     have hq0 : 0 ≤ q := by rw [← hq]; exact Int.ediv_nonneg (by omega) (by omega)
     have hq1 : q ≤ a := by rw [← hq]; exact Int.ediv_le_self _ (by omega)
     obtain ⟨M, hM⟩ : ∃ M, nextM size a = M := ⟨_, rfl⟩
     have hMg := nextM_gt (size := size) (a := a) (by omega)
     rw [hM] at hMg
     have hmul : wrap64 ((q + 1) * size) = M := by rw [mul_wrap64 _ _ (by omega) (by omega), ← hM, nextM, hq]
     have hcs : Hid (cutF size (xa, xb) = (don ++ [(a, min M (xa + xb) - a)]) ++ cutN size (xa + xb) f' (min M (xa + xb))) := Lib.hid (by rw [hcut.out, cutN_step hlt2, hM]; simp)
     have hs0 : (size == 0) = false := by simp; omega
     clear hcut hq hM
     gi_upto_region 6 with (gi_at_call 168; refine (callsIn_wide.2 (end_any xa xb _ (by omega) (by omega))).mono ?_; rintro e w2 ⟨rfl, hq2⟩)
     have kX2 := kX.call hq2
     have kB12 := kB1.call hq2
     have kB22 := kB2.call hq2
     have hru2 := hru.below (hq2.mono hwz)
     have hJ2 := hJ _ _ wr w2 hJs (.of_below hq2)
     have hwz2 := Nat.le_trans hwz hq2.size
     have hbx2 := Nat.lt_of_lt_of_le hbx hq2.size
     clear kX kB1 kB2 hru hJs hwz hbx hq2 cX
     have e1 := fun z : Ext w2 => (z.blk kX2).cell
     have e2 := fun z : Ext w2 => (z.blk kB22).cell
     have HE : Hid (∀ z : Ext w2, Calls Tryz.prog 168 #[.agg #[.int .i64 xa, .int .i64 xb]] z.w fun e w'' => e = .returned (.int .i64 (xa + xb)) ∧ ∃ t : Ext w2, w'' = t.w) := Lib.hid (fun z => Ext.call (end_any xa xb _ (by omega) (by omega)))
     refine wpIn_wide.2 ?_
     refine region_ext (by kernel_rfl) (by kernel_rfl) ?_
     repeat (go_big_quiet_step ((go_at_call 168; exact HE.out _)))
     refine wpQuiet_nil ?_
     rintro w3 ⟨⟨_, hw3⟩, rfl⟩
     have hM2 : a < min M (xa + xb) ∧ min M (xa + xb) ≤ xa + xb := by omega
     generalize min M (xa + xb) = c at *
     have kX3 := kX2.call hw3
     have kB13 := kB12.call hw3
     have kB23 := kB22.call hw3
     have hru3 := hru2.below (hw3.mono hwz2)
     have hJ3 := hJ _ _ w2 w3 hJ2 (.of_below hw3)
     have hwz3 := Nat.le_trans hwz2 hw3.size
     have hbx3 := Nat.lt_of_lt_of_le hbx2 hw3.size
     clear kX2 kB12 kB22 hru2 hJ2 hwz2 hbx2 hw3 e1 e2 HE hmul hdiv hMg
     have hpre : Hid ((L0 ++ don) ++ [(a, c - a)] <+: piecesF us size) := Lib.hid (by
      rw [hP.out]
      refine List.IsPrefix.trans ?_ hfp.out
      rw [hft'.out, hcs.out]
      exact ⟨cutN size (xa + xb) f' c, by simp⟩)
     obtain ⟨fn, tmps, assign, body, hy, hRd⟩ := hY (m - 1) (fun k => k = bx) (L0 ++ don) (a, c - a) w3 hJ3 (fun k hk => by rw [hk]; exact hbx3) hpre.out
     clear hY
     gi_wp2_with fail
     refine hRd.mono ?_
     rintro e W4 (⟨rfl, hJ4, hF4⟩ | ⟨rfl, hJx4⟩)
     ·gi_wp2_with fail
      go_roundw
      case rel => exact ⟨c, f', don ++ [(a, c - a)], by go_num, by omega, by omega, by omega, Nat.le_trans hwz3 hF4.size, Nat.lt_of_lt_of_le hbx3 hF4.size, by rw [← List.append_assoc]; exact hJ4, hF4.blk kB13 (fun h => h (.inl hK1)), hF4.blk kB23 (fun h => h (.inl hK2)), far_ru hru3 hF4 (fun k hk h => h (.inl hk)), hF4.blk kX3 (fun h => h (.inr rfl)), hcs⟩
      case measure => simp [intOf]; omega
     ·gi_wp2_with fail
      refine bodyPost_ret (results_none rfl _ _ _) rfl ?_
      exact ⟨⟨_, rfl⟩, .inr ⟨_, (L0 ++ don) ++ [(a, c - a)], hpre.out, hJx4⟩⟩
    ·have hlt2' : decide (a < xa + xb) = false := by simpa using hlt2
     have hend : Hid (L0 ++ don = (us.take (k + 1)).flatMap (cutF size)) := Lib.hid (by rw [hft'.out, hcut.out, cutN_end hlt2, List.append_nil])
     gi_wp2_with (gi_at_call 168; refine (callsIn_wide.2 (end_any xa xb _ (by omega) (by omega))).mono ?_; rintro e w2 ⟨rfl, hq2⟩)
     have hJ2 := hnew _ (fun _ => False) _ _ (hJ _ _ wr w2 hJs (.of_below hq2)) (fun _ h => h.elim)
     go_roundw
     case rel => exact ⟨k + 1, by omega, by go_num, Nat.le_trans hwz hq2.size, by rw [← hend.out]; exact hJ2, kB1.call hq2, kB2.call hq2, hru.below (hq2.mono hwz)⟩
     case measure => simp [intOf]; omega
  ·have hlt' : decide ((k : Int) < (n : Int)) = false := by simp; omega
   have hE : Hid ((us.take k).flatMap (cutF size) = piecesF us size) := Lib.hid (by rw [hP.out, List.take_of_length_le (by have := hn'.out; omega)])
   gi_wp2_with fail
   go_end0
   exact ⟨⟨_, rfl⟩, .inl ⟨_, by rw [← hE.out]; exact hJs⟩⟩
end Go.Proofs.YtjmmgoijnhnnaaaGreat
