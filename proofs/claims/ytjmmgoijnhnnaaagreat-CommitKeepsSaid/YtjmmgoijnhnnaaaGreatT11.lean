/- Walks of layer 6: Save. -/
import Derived.Great.BuildSlice
import Derived.Shelf.SlSortCmp.WholeK
import Derived.Ground.SlsfProg
import Derived.Shelf.Spec.SlicesGrow
import Derived.Ground.Names8Prog
import Derived.Test.YtjmmgoijnhnnaaaGreatProg
import Derived.Sort.OwnSortedInts
import Derived.Laws.AppendOwnNone
import Derived.Deep.MidRow
import Derived.Deep.CutRange
import Derived.OwnWalk
import Derived.Laws.CopyRow
import Derived.Lib.AppendZerosOnto
import Derived.Deep.DeepAppendWide
import Derived.Lib.Overlaps
import Derived.Shelf.RegionOpenPlain
import Derived.Laws.Externs
import Derived.Shelf.Abstract
import Derived.RangeFuncLeaves
import Derived.Test.YtjmmgoijnhnnaaaGreatRows
import Derived.Carry
import Derived.ChangeSlices
import Derived.RowKit2
import Derived.RowKit3
import Derived.JoinedAt
import Derived.Test.YtjmmgoijnhnnaaaGreatT10
namespace Go.Pol
open Go Go.RowKit
def daA (p : Int) (f : Nat → Int) : Array Value := (Value.int .i64 p :: (List.range 64).map fun i => Value.int .u8 (f i)).toArray
theorem Rd.farN {w w' : World} {N : Nat} {A : Option Addr} {xs : List Value} {T : Nat → Prop} (h : Rd w N A xs) (hF : Far T w w') (hT : ∀ k, k < N → (∃ o, A = some ⟨k, o, none⟩) → ¬ T k) : Rd w' N A xs := fun k hk => by
 obtain ⟨b, o, e, hb, hc⟩ := h k hk
 exact ⟨b, o, e, hb, hF.cell hc (hT b hb ⟨o, e⟩)⟩
def SaveO (V : Vm) (w : World) (e : Ending) (w' : World) : Prop := ∃ S, e = .returned S ∧ VsIs w' S V ∧ Below w.heap.size w w'
theorem nzB_all (g : Pg) : (List.range 64).all (fun i => g.byt i == 0) = !nzB g := by
 unfold nzB
 rw [Bool.eq_iff_iff]
 simp
theorem daC_eq (V : Vm) (p : Nat) : daC V p = (daA p (V.pg p).byt).toList := rfl
end Go.Pol
namespace Go.Proofs.YtjmmgoijnhnnaaaGreat
open Go Go.Proofs Go.RowKit Go.Pol Go.Shelf
attribute [local go_sem] Oper.semAt_some Go.Pol.wide_fn Go.Pol.wide_depth Go.Pol.wide_fn' Go.Pol.wide_depth'
theorem z_results_cell1 {P : Program} {fn : Func} {a : Tmp} {t : TypeId} {tmps : Array Value} {w : World} {v : Value} {p : Addr} (h : fn.results = #[.cell a t]) (ha : tmps.getD a undef = .pointer (some p)) (hl : (loadVar t p).run P w = .ok v w) :
  (results fn tmps).run P w = .ok v w := by
 have ha' : tmps[a]?.getD undef = .pointer (some p) := by rw [← ha, Array.getD_eq_getD_getElem?]
 simp [results, h, ha', asAddr, hl]
theorem wpList_buildSliceU {P : Program} {ops : Array Oper} {rest : List Oper} {o : Oper} {a : Act} {w : World} {Q : Exit → Act → World → Prop} (hg : o.guard = none) (d : Nat) (hd : o.dst = some d) (t e : TypeId) (len : Nat) (parts : List (Nat × Operand)) (ho : o.op = .buildSlice t len parts.toArray)
  (vals : List (Nat × Value)) (hv : parts.map (fun x => (x.1, a.eval x.2)) = vals) (cells : Array Value) (ie : TypeInfo) (z : Value)
  (hu : P.underlying t = some (.slice e)) (hie : P.info? e = some ie) (hz : ie.zero = some z) (hsmall : ¬ len * ie.size > 2 ^ 24) (hpos : ¬ len * ie.size = 0)
  (hf : Instr.fill (fun i => some (i * ie.size, ie.size)) ((Array.range (len * ie.size)).map (z.cells[· % z.cells.size]!)) vals = some cells)
  (h : wpList P ops Q rest (a.put (some d) (.slice (some ⟨w.heap.size, 0, none⟩) len len)) (w.alloc (.cells cells e))) : wpList P ops Q (o :: rest) a w :=
 wpList_buildSlice hg t e len parts.toArray ho cells ie z hu hie hz hsmall hpos (by rw [← hf, ← hv]; simp) (by rw [hd]; exact h)
theorem infoInQ : (Tryz.prog.info? 3).map (fun i => (i.zero, i.size, i.bytes)) = some (some (.int .i64 0), 1, 8) := by kernel_rfl
theorem infoDa : (Tryz.prog.info? 167).map (fun i => (i.zero, i.size, i.bytes)) = some (some (.agg (daA 0 (fun _ => 0))), 65, 72) := by kernel_rfl
theorem built_da (p : Int) (f : Nat → Int) : Tryz.prog.built 167 [(0, .int .i64 p), (1, .agg (arrI .u8 64 f))] = some (daA p f) := by kernel_rfl
theorem fill_da (p : Int) (f : Nat → Int) : Instr.fill (fun i => some (i * 65, 65)) ((Array.range (1 * 65)).map ((Value.agg (daA 0 (fun _ => 0))).cells[· % (Value.agg (daA 0 (fun _ => 0))).cells.size]!)) [(0, .agg (daA p f))] = some (daA p f) := by kernel_rfl
set_option maxRecDepth 100000 in
set_option maxHeartbeats 3200000 in
theorem save_any (b : Nat) (V : Vm) (w : World) (hV : SysIs w b V) :
  Calls Tryz.prog 26 #[.pointer (some ⟨b, 0, none⟩)] w (SaveO V w) := by
 have hV' := Lib.hid hV
 have hb0 := (Below.refl w.heap.size w).alloc (Nat.le_refl _) (.cells (stC (.slice none 0 0) (.slice none 0 0) (.slice none 0 0) (.slice none 0 0) (fun _ => 0) (fun _ => 0)).toArray 87)
 have k2 := Blk.new w 87 (stC (.slice none 0 0) (.slice none 0 0) (.slice none 0 0) (.slice none 0 0) (fun _ => 0) (fun _ => 0)).toArray
 have V0 := hV.call hb0
 have hbs := hV.lt
 have HI := Lib.hid (fun W h => is_any b V W h)
 obtain ⟨s, hs⟩ : ∃ s, w.heap.size = s := ⟨_, rfl⟩
 have hsz0 : (w.alloc (.cells (stC (.slice none 0 0) (.slice none 0 0) (.slice none 0 0) (.slice none 0 0) (fun _ => 0) (fun _ => 0)).toArray 87)).heap.size = s + 1 := by rw [World.size_alloc, hs]
 rw [hs] at k2
 unfold stC rfC at hb0 k2 V0 hsz0
 clear hV
 go_enter Tryz.func26, Tryz.ntmps26
 go_upto_region 1 with fail
 generalize w.alloc _ = w0 at *
 try simp only [hs]
 go_wp2_with fail
 refine (HI.out _ V0).mono ?_
 rintro e9 w9 ⟨rfl, hw9⟩
 replace hw9 := hw9.symm
 subst hw9
 obtain ⟨cs, A, n, cap, kb, hc, hn, hr, hz, _⟩ := V0.ex
 have hok := V0.ok
 go_upto_region 3 with fail
 refine save_first _ _ b cs V A n cap (Nat.le_of_ble_eq_true rfl) rfl kb hc ?_
 intro B1 s3 v12 w1 hs3 k3 hrow1 hb1
 simp only [lpput, Act.put, List.setIfInBounds_toArray, List.set_cons_succ, List.set_cons_zero]
 obtain ⟨A1, cap1, rfl, r1, _, _, hA1, _⟩ := own_Rd hrow1
 have hA13 : ∀ o, A1 ≠ some ⟨s3, o, none⟩ := fun o e => by
  subst e
  exact own_other hrow1 rfl k3 (by decide)
 obtain ⟨N1, hN1⟩ : ∃ N1, (vrunsL V 1024).length = N1 := ⟨_, rfl⟩
 rw [hN1] at k3 hrow1
 try simp only [hN1]
 have kb1 := kb.call hb1
 have c67 : w1.cell? ⟨b, 67585, none⟩ = some (.slice A n cap) := by rw [kb1.cell]; exact (hc.rf 0 (by omega)).trans rfl
 have hr1 := hr.on_ hb1
 have hlen50 := (chkR_zero.1 hok.plan).1
 have hb1' := Lib.hid hb1
 have k2' := Lib.hid (k2.call hb1)
 have h01 : s + 1 ≤ w0.heap.size := Nat.le_of_eq hsz0.symm
 have B1 : Below s w w1 := by rw [← hs]; exact hb0.trans (hb1.mono (by rw [hs]; omega))
 have HCl := Lib.hid (cloneR_any A n cap V.rf.rules w1 hn (by omega) hz hr1)
 have f3 := k3.frozen
 have c3 := k3.cell
 have hc' := Lib.hid hc
 have hN1' := Lib.hid hN1
 have r1' := Lib.hid r1
 have hAs := Lib.hid hA1
 have k3' := Lib.hid k3
 clear hb1 k2 kb hr hz hok hrow1 V0 HI hn hb0 hc hN1 r1 hA1 hr1 hlen50 k3 c3 f3
 unfold rfV stC rfC
 go_wp2_with fail
 refine HCl.out.mono ?_
 rintro e w2 ⟨v4, rfl, hv4⟩
 obtain ⟨A4, c4, rfl, q1, _, _, q4, q5, hb2⟩ := hv4
 have k32 := k3'.out.call hb2
 have k22 := k2'.out.call hb2
 have kb2 := kb1.call hb2
 have r12 := Lib.hid (r1'.out.below hb2)
 have B2 := B1.trans (hb2.mono (by have := B1.size; omega))
 have c3 := k32.cell
 have f3 := k32.frozen
 have c33 : w2.cell? ⟨s3, 3, none⟩ = some (.slice A n cap) := (k32.cell 3).trans rfl
 have k33 := k32.set_ 3 (.slice A4 V.rf.rules.length c4)
 have F3 : Far (fun k => k = s3) w2 (w2.setCell ⟨s3, 3, none⟩ (.slice A4 V.rf.rules.length c4)) := Far.setCell (T := fun k => k = s3) (p := ⟨s3, 3, none⟩) (Far.refl _ w2) (fun _ => rfl) _
 have hsb1 := kb1.lt
 have hls3 := k3'.out.lt
 clear HCl c67 kb1 c3 k2'
 go_upto_region 5 with fail
 generalize w2.setCell ⟨s3, 3, none⟩ _ = w3 at *
 have k34 : Blk w3 s3 87 (stC (.slice A1 N1 cap1) (.slice none 0 0) (.slice none 0 0) (.slice A4 V.rf.rules.length c4) V.rf.calls V.rf.hits).toArray := k33
 have q13 : Rd w3 w2.heap.size A4 (fl ruC V.rf.rules) := q1.far_ F3 (fun g o e => by have := q4 g o e; show ¬ g = s3; omega)
 have r13 : Rd w3 w1.heap.size A1 (fl rnC (vrunsL V 1024)) := r12.out.farN F3 (fun k _ ⟨o, e⟩ h => hA13 o (h ▸ e))
 have kb3 := F3.blk kb2 (by show ¬ b = s3; omega)
 have k23 := F3.blk k22 (by show ¬ s = s3; omega)
 have B3 := B2.trans (F3.below (by have := B2.size; omega) (fun k hk e => by omega))
 have hsz3 : w2.heap.size ≤ w3.heap.size := F3.size
 have hsz2 := hb2.size
 have q13' := Lib.hid q13
 have r13' := Lib.hid r13
 clear F3 k32 k22 kb2 r12 B2 c33 k33 q13 r13 q1 f3 hb2 k3' r1' B1
 generalize hN4 : V.rf.rules.length = N4 at *
 have hN4' := Lib.hid hN4
 clear hN4
 obtain ⟨i0, hi, hz0, hz1, hz2⟩ := info_parts infoInQ
 obtain ⟨iD, hiD, hzD0, hzD1, hzD2⟩ := info_parts infoDa
 obtain ⟨NB, hNB⟩ : ∃ NB, w3.heap.size = NB := ⟨_, rfl⟩
 go_wp2_with fail
 go_loopw [28] (fun u wr => ∃ (k : Nat) (v2 v3 : Value), k ≤ 1024 ∧ u = .int .i64 k ∧ Blk wr s3 87 (stC (.slice A1 N1 cap1) v2 v3 (.slice A4 N4 c4) V.rf.calls V.rf.hits).toArray ∧
  wr.ownsRow NB 3 1 v2 (hugL V k).length ((hugL V k).map (Value.int .i64)) ∧ wr.ownsRow NB 167 65 v3 (datL V k).length (fl (daC V) (datL V k)) ∧ Far (fun k => k = s3 ∨ NB ≤ k) w3 wr) (fun u _ => 1024 - (intOf u).toNat)
 case atStart => exact ⟨0, _, _, by omega, rfl, k34, World.ownsRow_nil _ _ _ _, World.ownsRow_nil _ _ _ _, Far.refl _ _⟩
 case round =>
  clear k34
  obtain ⟨k, v2, v3, hk, rfl, k3, ro2, ro3, hF⟩ := hrel
  by_cases hlt : k < 1024
  ·have hlt' : decide ((k : Int) < 1024) = true := by rw [decide_eq_true_eq]; omega
   have hkl : (k : Int) < 1024 := by omega
   have kbr := hF.blk kb3 (by show ¬ (b = s3 ∨ NB ≤ b); omega)
   have HFi := Lib.hid (vfirst_any (k : Int) wr)
   have hfk : fstB (k : Int) = decide (k % 16 = 0) := by
    unfold fstB
    rw [Bool.eq_iff_iff]
    simp
    omega
   rw [hfk] at HFi
   have hstH : Hid (hugL V (k + 1) = if k % 16 = 0 ∧ (V.pg k).huge = true then hugL V k ++ [(k : Int)] else hugL V k) := Lib.hid rfl
   have hstD : Hid (datL V (k + 1) = if nzB (V.pg k) = true then datL V k ++ [k] else datL V k) := Lib.hid rfl
   have hcH := (kbr.cell (1 + k * 66 + 1)).trans (hc'.out.hug hlt)
   have hlH := hugL_len V k
   have hlD := datL_len V k
   clear hfk
   by_cases hm : k % 16 = 0
   ·rw [decide_eq_true hm] at HFi
    cases hh : (V.pg k).huge with
    | true =>
     rw [hh] at hcH
     have hst2 : Hid (hugL V (k + 1) = hugL V k ++ [(k : Int)]) := Lib.hid (by rw [hstH.out, if_pos ⟨hm, hh⟩])
     clear hstH hm hh
     obtain ⟨ll, hll⟩ : ∃ ll, (hugL V k).length = ll := ⟨_, rfl⟩
     rw [hll] at ro2 hlH
     obtain ⟨A2, cap2, rfl, _⟩ := own_Rd ro2
     have kN := Blk.new wr 3 #[.int .i64 (k : Int)]
     have hbN : Below wr.heap.size wr (wr.alloc (.cells #[.int .i64 (k : Int)] 3)) := (Below.refl _ _).alloc (Nat.le_refl _) _
     have hsF := hF.size
     have c3 := k3.cell
     unfold stC rfC at c3
     go_wp2_with fail
     refine HFi.out.mono ?_
     rintro e8 w8 ⟨rfl, hw8⟩
     replace hw8 := hw8.symm
     subst hw8
     go_upto_region 10 with (refine wpList_append_own _ rfl (.tmp 43) (.tmp 45) 84 rfl NB 3 i0 (.int .i64 0) 1 8 Tryz.underlying84 hi hz0 hz1 hz2 rfl (by decide) _ ll ((hugL V k).map (Value.int .i64)) rfl (ro2.alloc _) ⟨wr.heap.size, 0, none⟩ 1 1 [.int .i64 (k : Int)] rfl rfl (news_i kN) ints_one (by unfold maxLen; omega) (by omega) (by simp; omega) ?_; intro v' w7 hown' hgrow _; rw [show (hugL V k).map (Value.int .i64) ++ [Value.int .i64 (k : Int)] = (hugL V k ++ [(k : Int)]).map (Value.int .i64) by simp] at hown'; have F7 : Far (fun g => (Value.slice A2 ll cap2).ownBlock = some g) wr w7 := (Far.of_below hbN).grown hgrow (fun g hg _ => hg); have k37 := F7.blk k3 (fun h => own_other ro2 h k3 (by decide)); have f37 := k37.frozen; have c371 : w7.cell? ⟨s3, 1, none⟩ = some (.slice A2 ll cap2) := (k37.cell 1).trans rfl; obtain ⟨A2n, cap2n, rfl, _⟩ := own_Rd hown'; clear c3)
     have F8 : Far (fun k => k = s3) w7 (w7.setCell ⟨s3, 1, none⟩ (.slice A2n (ll + 1) cap2n)) := Far.setCell (T := fun k => k = s3) (p := ⟨s3, 1, none⟩) (Far.refl _ w7) (fun _ => rfl) _
     have k38 : Blk (w7.setCell ⟨s3, 1, none⟩ (.slice A2n (ll + 1) cap2n)) s3 87 (stC (.slice A1 N1 cap1) (.slice A2n (ll + 1) cap2n) v3 (.slice A4 N4 c4) V.rf.calls V.rf.hits).toArray := k37.set_ 1 _
     have ro28 : (w7.setCell ⟨s3, 1, none⟩ (.slice A2n (ll + 1) cap2n)).ownsRow NB 3 1 (.slice A2n (ll + 1) cap2n) (hugL V (k + 1)).length ((hugL V (k + 1)).map (Value.int .i64)) := by
      rw [hst2.out, List.length_append, List.length_singleton, hll]
      exact ownsRow_far hown' F8 (fun g hg h => own_other hown' (hg.trans (congrArg some h)) k37 (by decide))
     have ro38 := ownsRow_far (ownsRow_far ro3 F7 (fun g hg h => by
      rcases ro2.2 with ⟨hx, _⟩ | ⟨g', cap', cur, hx, _, hkx, _⟩
      ·rw [hx] at h; cases h
      ·rw [hx] at h
       have e' : g' = g := by injection h
       subst e'
       exact own_other ro3 hg (show Blk wr g' 3 cur from hkx) (by decide))) F8 (fun g hg h => by
      have := (ro3.lt g hg).1
      omega)
     have F38 : Far (fun k => k = s3 ∨ NB ≤ k) w3 (w7.setCell ⟨s3, 1, none⟩ (.slice A2n (ll + 1) cap2n)) := (hF.trans' F7 (fun i hi h => .inr (ro2.lt i h).1)).trans' F8 (fun i hi h => .inl h)
     have kb8 := F8.blk (F7.blk kbr (fun h => by have := (ro2.lt b h).1; omega)) (by show ¬ b = s3; omega)
     clear F7 F8 k37 f37 c371 hown' hgrow ro2 ro3 hF k3 kbr kN hbN hcH hlH hsF HFi
     generalize w7.setCell ⟨s3, 1, none⟩ _ = w8 at *
     generalize (.slice A2n (ll + 1) cap2n : Value) = v2n at *
     obtain ⟨X, hX⟩ : ∃ X, arrI .u8 64 (V.pg k).byt = X := ⟨_, rfl⟩
     have hXs : X.size = 64 := by rw [← hX]; simp [arrI]
     have hra : w8.rangeAt b (1 + k * 66 + 2) X.toList := fun j v hj => by
      rw [← hX] at hj
      have hj64 : j < 64 := by have := (List.getElem?_eq_some_iff.1 hj).1; simpa [arrI] using this
      rw [kb8.cell, show 1 + k * 66 + 2 + j = 1 + k * 66 + (j + 2) by omega, hc'.out.byte hlt hj64, ← hj, Array.getElem?_toList, arrI_at hj64]
     have hinf : (Tryz.prog.info? 63).map (·.size) = some X.size := by rw [hXs]; exact infoKinds
     have hinfl : (Tryz.prog.info? 63).map (·.size) = some X.toList.length := by rw [Array.length_toList]; exact hinf
     have hone : X.all (·.oneCell') = true := by
      rw [← hX]; unfold arrI
      exact Go.all_oneCell_toArray (fun x hx => by simp only [List.mem_map] at hx; obtain ⟨i, _, rfl⟩ := hx; rfl)
     have ht : ∀ Z : Array Value, Z.size = 64 → (w8.alloc (.cells Z 63)).there w8.heap.size 0 X.size := fun Z hZ => z_there (Blk.new w8 _ Z) 0 X.size (by omega)
     have hw9 : ∀ (Z : Array Value) w9, (w8.alloc (.cells Z 63)).setCells w8.heap.size 0 X.toList = w9 → Z.size = 64 → Blk w9 w8.heap.size 63 X ∧ Below w8.heap.size w8 w9 := fun Z w9 h hZ => by
      have kP := Blk.puts (g := w8.heap.size) (t := 63) (w := w8) (cs := #[]) X.toList 0 _ _ (Blk.new w8 63 Z)
      rw [putA_all (by rw [Array.length_toList]; omega)] at kP
      have hF := Far.puts (T := fun k => k = w8.heap.size) rfl X.toList 0 w8 _ ((Far.refl _ w8).alloc (.cells Z 63))
      rw [h] at kP hF
      exact ⟨kP, hF.below (Nat.le_refl _) (fun k hk e => by omega)⟩
     have heq : ∀ W, (Op.equalIn 10000 63 (.agg X) (.agg #[.int .u8 0, .int .u8 0, .int .u8 0, .int .u8 0, .int .u8 0, .int .u8 0, .int .u8 0, .int .u8 0, .int .u8 0, .int .u8 0, .int .u8 0, .int .u8 0, .int .u8 0, .int .u8 0, .int .u8 0, .int .u8 0, .int .u8 0, .int .u8 0, .int .u8 0, .int .u8 0, .int .u8 0, .int .u8 0, .int .u8 0, .int .u8 0, .int .u8 0, .int .u8 0, .int .u8 0, .int .u8 0, .int .u8 0, .int .u8 0, .int .u8 0, .int .u8 0, .int .u8 0, .int .u8 0, .int .u8 0, .int .u8 0, .int .u8 0, .int .u8 0, .int .u8 0, .int .u8 0, .int .u8 0, .int .u8 0, .int .u8 0, .int .u8 0, .int .u8 0, .int .u8 0, .int .u8 0, .int .u8 0, .int .u8 0, .int .u8 0, .int .u8 0, .int .u8 0, .int .u8 0, .int .u8 0, .int .u8 0, .int .u8 0, .int .u8 0, .int .u8 0, .int .u8 0, .int .u8 0, .int .u8 0, .int .u8 0, .int .u8 0, .int .u8 0])).run Tryz.prog W = .ok (!nzB (V.pg k)) W := fun W => by
      have h := eq64_any (V.pg k).byt (fun _ => 0) W
      rw [hX, nzB_all] at h
      exact h
     have hX' := Lib.hid hX
     have hXs' := Lib.hid hXs
     clear hX hXs
     go_upto_region 11 with (first
      | (refine wpList_load_mid rfl 63 (.tmp 53) rfl b (1 + k * 66 + 2) rfl X.toList _ hra Tryz.underlying63 rfl hinfl ?_; rw [Array.toArray_toList])
      | (refine wpList_store_mid rfl 63 (.tmp 5) (.tmp 54) rfl w8.heap.size 0 X rfl rfl (ht _ rfl) hinf hone ?_))
     generalize hW9 : World.setCells _ w8.heap.size 0 X.toList = w9
     obtain ⟨k9, hb9⟩ := hw9 _ _ hW9 rfl
     clear hW9 hw9 ht hra
     have hra9 : w9.rangeAt w8.heap.size 0 X.toList := fun j v hj => by rw [Nat.zero_add, k9.cell]; simpa using hj
     cases hnz : nzB (V.pg k) with
     | false =>
      rw [hnz] at heq
      go_wp2_with (refine wpList_load_mid rfl 63 (.tmp 5) rfl w8.heap.size 0 rfl X.toList _ hra9 Tryz.underlying63 rfl hinfl ?_; rw [Array.toArray_toList])
      go_roundw
      case rel =>
       have hstD2 : datL V (k + 1) = datL V k := by rw [hstD.out, if_neg (by rw [hnz]; decide)]
       exact ⟨k + 1, v2n, v3, by omega, by go_num, k38.call hb9, ownsRow_call ro28 hb9, by rw [hstD2]; exact ownsRow_call ro38 hb9, F38.trans (.of_below hb9)⟩
      case measure => simp [intOf]; omega
     | true =>
      rw [hnz] at heq
      go_upto_region 12 with (refine wpList_load_mid rfl 63 (.tmp 5) rfl w8.heap.size 0 rfl X.toList _ hra9 Tryz.underlying63 rfl hinfl ?_; rw [Array.toArray_toList])
      obtain ⟨D, hD⟩ : ∃ D, daA (k : Int) (V.pg k).byt = D := ⟨_, rfl⟩
      have hbt : Tryz.prog.built 167 [(0, .int .i64 (k : Int)), (1, .agg X)] = some D := by rw [← hD, ← hX'.out]; exact built_da _ _
      have hb171 : ∀ W, (Instr.build 167 #[(0, .int .i64 (k : Int)), (1, .agg X)]).run Tryz.prog W = .ok (.agg D) W := fun W => run_build W _ _ _ hbt
      have hbs := fill_da (k : Int) (V.pg k).byt
      rw [hD] at hbs
      have hDs : D.toList.length = 65 := by rw [← hD]; simp [daA]
      have hDo : ∀ u ∈ D.toList, u.oneCell' = true := by
       intro u hu
       rw [← hD, ← daC_eq] at hu
       exact daC_one V [k] u (by simpa [fl] using hu)
      have hDl : fl (daC V) [k] = D.toList := by rw [← hD, ← daC_eq]; simp [fl]
      have hstD2 : Hid (datL V (k + 1) = datL V k ++ [k]) := Lib.hid (by rw [hstD.out, if_pos hnz])
      obtain ⟨dl, hdl⟩ : ∃ dl, (datL V k).length = dl := ⟨_, rfl⟩
      rw [hdl] at ro38 hlD
      have ro39 := ownsRow_call ro38 hb9
      have k39 := k38.call hb9
      obtain ⟨A3n, cap3n, rfl, _⟩ := own_Rd ro39
      have c39 : w9.cell? ⟨s3, 2, none⟩ = some (.slice A3n dl cap3n) := (k39.cell 2).trans rfl
      clear hD hnz heq
      have hfl : Instr.fill (fun i => some (i * iD.size, iD.size)) ((Array.range (1 * iD.size)).map ((Value.agg (daA 0 (fun _ => 0))).cells[· % (Value.agg (daA 0 (fun _ => 0))).cells.size]!)) [(0, .agg D)] = some D := by rw [hzD1]; exact hbs
      have hs1 : ¬ 1 * iD.size > 2 ^ 24 := by rw [hzD1]; decide
      have hs2 : ¬ 1 * iD.size = 0 := by rw [hzD1]; decide
      have kD := Blk.new w9 167 D
      have hbD : Below w9.heap.size w9 (w9.alloc (.cells D 167)) := (Below.refl _ _).alloc (Nat.le_refl _) _
      have nwD : ∀ (j : Nat) (u : Value), D.toList[j]? = some u → (w9.alloc (.cells D 167)).cell? ((⟨w9.heap.size, 0, none⟩ : Addr).add j) = some u := fun j u hu => by
       rw [addr_add0, Nat.zero_add, kD.cell]; simpa using hu
      have hsF9 := (F38.trans (.of_below hb9)).size
      clear hbs hb171
      go_wp2_with (refine wpList_load_mid rfl 63 (.tmp 5) rfl w8.heap.size 0 rfl X.toList _ hra9 Tryz.underlying63 rfl hinfl ?_; rw [Array.toArray_toList]; refine wpList_buildU rfl 62 rfl 167 [(0, .tmp 60), (1, .tmp 61)] rfl _ rfl D hbt ?_; refine wpList_buildSliceU rfl 63 rfl 85 167 1 [(0, .tmp 62)] rfl _ rfl D iD _ Tryz.underlying85 hiD hzD0 hs1 hs2 hfl ?_; refine wpList_append_own _ rfl (.tmp 59) (.tmp 63) 85 rfl NB 167 iD (.agg (daA 0 (fun _ => 0))) 65 72 Tryz.underlying85 hiD hzD0 hzD1 hzD2 rfl (by decide) _ dl (fl (daC V) (datL V k)) rfl (ro39.alloc _) ⟨w9.heap.size, 0, none⟩ 1 1 D.toList rfl hDs nwD hDo (by unfold maxLen; omega) (by omega) (by simp; omega) ?_; intro v' w10 hown' hgrow _; rw [← hDl, ← fl_append] at hown'; have F10 : Far (fun g => (Value.slice A3n dl cap3n).ownBlock = some g) w9 w10 := (Far.of_below hbD).grown hgrow (fun g hg _ => hg); have k310 := F10.blk k39 (fun h => own_other ro39 h k39 (by decide)); have f310 := k310.frozen; have c310 : w10.cell? ⟨s3, 2, none⟩ = some (.slice A3n dl cap3n) := (k310.cell 2).trans rfl; obtain ⟨A3m, cap3m, rfl, _⟩ := own_Rd hown'; clear c39)
      have F11 : Far (fun k => k = s3) w10 (w10.setCell ⟨s3, 2, none⟩ (.slice A3m (dl + 1) cap3m)) := Far.setCell (T := fun k => k = s3) (p := ⟨s3, 2, none⟩) (Far.refl _ w10) (fun _ => rfl) _
      have k311 : Blk (w10.setCell ⟨s3, 2, none⟩ (.slice A3m (dl + 1) cap3m)) s3 87 (stC (.slice A1 N1 cap1) v2n (.slice A3m (dl + 1) cap3m) (.slice A4 N4 c4) V.rf.calls V.rf.hits).toArray := k310.set_ 2 _
      have ro311 : (w10.setCell ⟨s3, 2, none⟩ (.slice A3m (dl + 1) cap3m)).ownsRow NB 167 65 (.slice A3m (dl + 1) cap3m) (datL V (k + 1)).length (fl (daC V) (datL V (k + 1))) := by
       rw [hstD2.out, List.length_append, List.length_singleton, hdl]
       exact ownsRow_far hown' F11 (fun g hg h => own_other hown' (hg.trans (congrArg some h)) k310 (by decide))
      have ro29 := ownsRow_call ro28 hb9
      have ro211 := ownsRow_far (ownsRow_far ro29 F10 (fun g hg h => by
       rcases ro39.2 with ⟨hx, _⟩ | ⟨g', cap', cur, hx, _, hkx, _⟩
       ·rw [hx] at h; cases h
       ·rw [hx] at h
        have e' : g' = g := by injection h
        subst e'
        exact own_other ro29 hg (show Blk w9 g' 167 cur from hkx) (by decide))) F11 (fun g hg h => by
       have := (ro29.lt g hg).1
       omega)
      have F311 : Far (fun k => k = s3 ∨ NB ≤ k) w3 (w10.setCell ⟨s3, 2, none⟩ (.slice A3m (dl + 1) cap3m)) := ((F38.trans (.of_below hb9)).trans' F10 (fun i hi h => .inr (ro39.lt i h).1)).trans' F11 (fun i hi h => .inl h)
      go_roundw
      case rel => exact ⟨k + 1, v2n, _, by omega, by go_num, k311, ro211, ro311, F311⟩
      case measure => simp [intOf]; omega
    | false =>
     rw [hh] at hcH
     have hst2 : Hid (hugL V (k + 1) = hugL V k) := Lib.hid (by rw [hstH.out, if_neg (by rw [hh]; simp)])
     clear hstH hm hh
     have k38 := k3
     have ro28 : wr.ownsRow NB 3 1 v2 (hugL V (k + 1)).length ((hugL V (k + 1)).map (Value.int .i64)) := by rw [hst2.out]; exact ro2
     have ro38 := ro3
     have F38 := hF
     have kb8 := kbr
     clear k3 ro2 ro3 hF kbr hlH
     go_upto_region 10 with fail
     refine HFi.out.mono ?_
     rintro e8 w8 ⟨rfl, hw8⟩
     replace hw8 := hw8.symm
     subst hw8
     go_upto_region 10 with fail
     clear HFi hcH
     obtain ⟨X, hX⟩ : ∃ X, arrI .u8 64 (V.pg k).byt = X := ⟨_, rfl⟩
     have hXs : X.size = 64 := by rw [← hX]; simp [arrI]
     have hra : wr.rangeAt b (1 + k * 66 + 2) X.toList := fun j v hj => by
      rw [← hX] at hj
      have hj64 : j < 64 := by have := (List.getElem?_eq_some_iff.1 hj).1; simpa [arrI] using this
      rw [kb8.cell, show 1 + k * 66 + 2 + j = 1 + k * 66 + (j + 2) by omega, hc'.out.byte hlt hj64, ← hj, Array.getElem?_toList, arrI_at hj64]
     have hinf : (Tryz.prog.info? 63).map (·.size) = some X.size := by rw [hXs]; exact infoKinds
     have hinfl : (Tryz.prog.info? 63).map (·.size) = some X.toList.length := by rw [Array.length_toList]; exact hinf
     have hone : X.all (·.oneCell') = true := by
      rw [← hX]; unfold arrI
      exact Go.all_oneCell_toArray (fun x hx => by simp only [List.mem_map] at hx; obtain ⟨i, _, rfl⟩ := hx; rfl)
     have ht : ∀ Z : Array Value, Z.size = 64 → (wr.alloc (.cells Z 63)).there wr.heap.size 0 X.size := fun Z hZ => z_there (Blk.new wr _ Z) 0 X.size (by omega)
     have hw9 : ∀ (Z : Array Value) w9, (wr.alloc (.cells Z 63)).setCells wr.heap.size 0 X.toList = w9 → Z.size = 64 → Blk w9 wr.heap.size 63 X ∧ Below wr.heap.size wr w9 := fun Z w9 h hZ => by
      have kP := Blk.puts (g := wr.heap.size) (t := 63) (w := wr) (cs := #[]) X.toList 0 _ _ (Blk.new wr 63 Z)
      rw [putA_all (by rw [Array.length_toList]; omega)] at kP
      have hF := Far.puts (T := fun k => k = wr.heap.size) rfl X.toList 0 wr _ ((Far.refl _ wr).alloc (.cells Z 63))
      rw [h] at kP hF
      exact ⟨kP, hF.below (Nat.le_refl _) (fun k hk e => by omega)⟩
     have heq : ∀ W, (Op.equalIn 10000 63 (.agg X) (.agg #[.int .u8 0, .int .u8 0, .int .u8 0, .int .u8 0, .int .u8 0, .int .u8 0, .int .u8 0, .int .u8 0, .int .u8 0, .int .u8 0, .int .u8 0, .int .u8 0, .int .u8 0, .int .u8 0, .int .u8 0, .int .u8 0, .int .u8 0, .int .u8 0, .int .u8 0, .int .u8 0, .int .u8 0, .int .u8 0, .int .u8 0, .int .u8 0, .int .u8 0, .int .u8 0, .int .u8 0, .int .u8 0, .int .u8 0, .int .u8 0, .int .u8 0, .int .u8 0, .int .u8 0, .int .u8 0, .int .u8 0, .int .u8 0, .int .u8 0, .int .u8 0, .int .u8 0, .int .u8 0, .int .u8 0, .int .u8 0, .int .u8 0, .int .u8 0, .int .u8 0, .int .u8 0, .int .u8 0, .int .u8 0, .int .u8 0, .int .u8 0, .int .u8 0, .int .u8 0, .int .u8 0, .int .u8 0, .int .u8 0, .int .u8 0, .int .u8 0, .int .u8 0, .int .u8 0, .int .u8 0, .int .u8 0, .int .u8 0, .int .u8 0, .int .u8 0])).run Tryz.prog W = .ok (!nzB (V.pg k)) W := fun W => by
      have h := eq64_any (V.pg k).byt (fun _ => 0) W
      rw [hX, nzB_all] at h
      exact h
     have hX' := Lib.hid hX
     have hXs' := Lib.hid hXs
     clear hX hXs
     go_upto_region 11 with (first
      | (refine wpList_load_mid rfl 63 (.tmp 53) rfl b (1 + k * 66 + 2) rfl X.toList _ hra Tryz.underlying63 rfl hinfl ?_; rw [Array.toArray_toList])
      | (refine wpList_store_mid rfl 63 (.tmp 5) (.tmp 54) rfl wr.heap.size 0 X rfl rfl (ht _ rfl) hinf hone ?_))
     generalize hW9 : World.setCells _ wr.heap.size 0 X.toList = w9
     obtain ⟨k9, hb9⟩ := hw9 _ _ hW9 rfl
     clear hW9 hw9 ht hra
     have hra9 : w9.rangeAt wr.heap.size 0 X.toList := fun j v hj => by rw [Nat.zero_add, k9.cell]; simpa using hj
     cases hnz : nzB (V.pg k) with
     | false =>
      rw [hnz] at heq
      go_wp2_with (refine wpList_load_mid rfl 63 (.tmp 5) rfl wr.heap.size 0 rfl X.toList _ hra9 Tryz.underlying63 rfl hinfl ?_; rw [Array.toArray_toList])
      go_roundw
      case rel =>
       have hstD2 : datL V (k + 1) = datL V k := by rw [hstD.out, if_neg (by rw [hnz]; decide)]
       exact ⟨k + 1, v2, v3, by omega, by go_num, k38.call hb9, ownsRow_call ro28 hb9, by rw [hstD2]; exact ownsRow_call ro38 hb9, F38.trans (.of_below hb9)⟩
      case measure => simp [intOf]; omega
     | true =>
      rw [hnz] at heq
      go_upto_region 12 with (refine wpList_load_mid rfl 63 (.tmp 5) rfl wr.heap.size 0 rfl X.toList _ hra9 Tryz.underlying63 rfl hinfl ?_; rw [Array.toArray_toList])
      obtain ⟨D, hD⟩ : ∃ D, daA (k : Int) (V.pg k).byt = D := ⟨_, rfl⟩
      have hbt : Tryz.prog.built 167 [(0, .int .i64 (k : Int)), (1, .agg X)] = some D := by rw [← hD, ← hX'.out]; exact built_da _ _
      have hb171 : ∀ W, (Instr.build 167 #[(0, .int .i64 (k : Int)), (1, .agg X)]).run Tryz.prog W = .ok (.agg D) W := fun W => run_build W _ _ _ hbt
      have hbs := fill_da (k : Int) (V.pg k).byt
      rw [hD] at hbs
      have hDs : D.toList.length = 65 := by rw [← hD]; simp [daA]
      have hDo : ∀ u ∈ D.toList, u.oneCell' = true := by
       intro u hu
       rw [← hD, ← daC_eq] at hu
       exact daC_one V [k] u (by simpa [fl] using hu)
      have hDl : fl (daC V) [k] = D.toList := by rw [← hD, ← daC_eq]; simp [fl]
      have hstD2 : Hid (datL V (k + 1) = datL V k ++ [k]) := Lib.hid (by rw [hstD.out, if_pos hnz])
      obtain ⟨dl, hdl⟩ : ∃ dl, (datL V k).length = dl := ⟨_, rfl⟩
      rw [hdl] at ro38 hlD
      have ro39 := ownsRow_call ro38 hb9
      have k39 := k38.call hb9
      obtain ⟨A3n, cap3n, rfl, _⟩ := own_Rd ro39
      have c39 : w9.cell? ⟨s3, 2, none⟩ = some (.slice A3n dl cap3n) := (k39.cell 2).trans rfl
      clear hD hnz heq
      have hfl : Instr.fill (fun i => some (i * iD.size, iD.size)) ((Array.range (1 * iD.size)).map ((Value.agg (daA 0 (fun _ => 0))).cells[· % (Value.agg (daA 0 (fun _ => 0))).cells.size]!)) [(0, .agg D)] = some D := by rw [hzD1]; exact hbs
      have hs1 : ¬ 1 * iD.size > 2 ^ 24 := by rw [hzD1]; decide
      have hs2 : ¬ 1 * iD.size = 0 := by rw [hzD1]; decide
      have kD := Blk.new w9 167 D
      have hbD : Below w9.heap.size w9 (w9.alloc (.cells D 167)) := (Below.refl _ _).alloc (Nat.le_refl _) _
      have nwD : ∀ (j : Nat) (u : Value), D.toList[j]? = some u → (w9.alloc (.cells D 167)).cell? ((⟨w9.heap.size, 0, none⟩ : Addr).add j) = some u := fun j u hu => by
       rw [addr_add0, Nat.zero_add, kD.cell]; simpa using hu
      have hsF9 := (F38.trans (.of_below hb9)).size
      clear hbs hb171
      go_wp2_with (refine wpList_load_mid rfl 63 (.tmp 5) rfl wr.heap.size 0 rfl X.toList _ hra9 Tryz.underlying63 rfl hinfl ?_; rw [Array.toArray_toList]; refine wpList_buildU rfl 62 rfl 167 [(0, .tmp 60), (1, .tmp 61)] rfl _ rfl D hbt ?_; refine wpList_buildSliceU rfl 63 rfl 85 167 1 [(0, .tmp 62)] rfl _ rfl D iD _ Tryz.underlying85 hiD hzD0 hs1 hs2 hfl ?_; refine wpList_append_own _ rfl (.tmp 59) (.tmp 63) 85 rfl NB 167 iD (.agg (daA 0 (fun _ => 0))) 65 72 Tryz.underlying85 hiD hzD0 hzD1 hzD2 rfl (by decide) _ dl (fl (daC V) (datL V k)) rfl (ro39.alloc _) ⟨w9.heap.size, 0, none⟩ 1 1 D.toList rfl hDs nwD hDo (by unfold maxLen; omega) (by omega) (by simp; omega) ?_; intro v' w10 hown' hgrow _; rw [← hDl, ← fl_append] at hown'; have F10 : Far (fun g => (Value.slice A3n dl cap3n).ownBlock = some g) w9 w10 := (Far.of_below hbD).grown hgrow (fun g hg _ => hg); have k310 := F10.blk k39 (fun h => own_other ro39 h k39 (by decide)); have f310 := k310.frozen; have c310 : w10.cell? ⟨s3, 2, none⟩ = some (.slice A3n dl cap3n) := (k310.cell 2).trans rfl; obtain ⟨A3m, cap3m, rfl, _⟩ := own_Rd hown'; clear c39)
      have F11 : Far (fun k => k = s3) w10 (w10.setCell ⟨s3, 2, none⟩ (.slice A3m (dl + 1) cap3m)) := Far.setCell (T := fun k => k = s3) (p := ⟨s3, 2, none⟩) (Far.refl _ w10) (fun _ => rfl) _
      have k311 : Blk (w10.setCell ⟨s3, 2, none⟩ (.slice A3m (dl + 1) cap3m)) s3 87 (stC (.slice A1 N1 cap1) v2 (.slice A3m (dl + 1) cap3m) (.slice A4 N4 c4) V.rf.calls V.rf.hits).toArray := k310.set_ 2 _
      have ro311 : (w10.setCell ⟨s3, 2, none⟩ (.slice A3m (dl + 1) cap3m)).ownsRow NB 167 65 (.slice A3m (dl + 1) cap3m) (datL V (k + 1)).length (fl (daC V) (datL V (k + 1))) := by
       rw [hstD2.out, List.length_append, List.length_singleton, hdl]
       exact ownsRow_far hown' F11 (fun g hg h => own_other hown' (hg.trans (congrArg some h)) k310 (by decide))
      have ro29 := ownsRow_call ro28 hb9
      have ro211 := ownsRow_far (ownsRow_far ro29 F10 (fun g hg h => by
       rcases ro39.2 with ⟨hx, _⟩ | ⟨g', cap', cur, hx, _, hkx, _⟩
       ·rw [hx] at h; cases h
       ·rw [hx] at h
        have e' : g' = g := by injection h
        subst e'
        exact own_other ro29 hg (show Blk w9 g' 167 cur from hkx) (by decide))) F11 (fun g hg h => by
       have := (ro29.lt g hg).1
       omega)
      have F311 : Far (fun k => k = s3 ∨ NB ≤ k) w3 (w10.setCell ⟨s3, 2, none⟩ (.slice A3m (dl + 1) cap3m)) := ((F38.trans (.of_below hb9)).trans' F10 (fun i hi h => .inr (ro39.lt i h).1)).trans' F11 (fun i hi h => .inl h)
      go_roundw
      case rel => exact ⟨k + 1, v2, _, by omega, by go_num, k311, ro211, ro311, F311⟩
      case measure => simp [intOf]; omega
   ·rw [decide_eq_false hm] at HFi
    have hst2 : Hid (hugL V (k + 1) = hugL V k) := Lib.hid (by rw [hstH.out, if_neg (fun h => hm h.1)])
    clear hstH hm
    have k38 := k3
    have ro28 : wr.ownsRow NB 3 1 v2 (hugL V (k + 1)).length ((hugL V (k + 1)).map (Value.int .i64)) := by rw [hst2.out]; exact ro2
    have ro38 := ro3
    have F38 := hF
    have kb8 := kbr
    clear k3 ro2 ro3 hF kbr hlH hcH
    go_upto_region 10 with fail
    refine HFi.out.mono ?_
    rintro e8 w8 ⟨rfl, hw8⟩
    replace hw8 := hw8.symm
    subst hw8
    go_upto_region 10 with fail
    clear HFi
    obtain ⟨X, hX⟩ : ∃ X, arrI .u8 64 (V.pg k).byt = X := ⟨_, rfl⟩
    have hXs : X.size = 64 := by rw [← hX]; simp [arrI]
    have hra : wr.rangeAt b (1 + k * 66 + 2) X.toList := fun j v hj => by
     rw [← hX] at hj
     have hj64 : j < 64 := by have := (List.getElem?_eq_some_iff.1 hj).1; simpa [arrI] using this
     rw [kb8.cell, show 1 + k * 66 + 2 + j = 1 + k * 66 + (j + 2) by omega, hc'.out.byte hlt hj64, ← hj, Array.getElem?_toList, arrI_at hj64]
    have hinf : (Tryz.prog.info? 63).map (·.size) = some X.size := by rw [hXs]; exact infoKinds
    have hinfl : (Tryz.prog.info? 63).map (·.size) = some X.toList.length := by rw [Array.length_toList]; exact hinf
    have hone : X.all (·.oneCell') = true := by
     rw [← hX]; unfold arrI
     exact Go.all_oneCell_toArray (fun x hx => by simp only [List.mem_map] at hx; obtain ⟨i, _, rfl⟩ := hx; rfl)
    have ht : ∀ Z : Array Value, Z.size = 64 → (wr.alloc (.cells Z 63)).there wr.heap.size 0 X.size := fun Z hZ => z_there (Blk.new wr _ Z) 0 X.size (by omega)
    have hw9 : ∀ (Z : Array Value) w9, (wr.alloc (.cells Z 63)).setCells wr.heap.size 0 X.toList = w9 → Z.size = 64 → Blk w9 wr.heap.size 63 X ∧ Below wr.heap.size wr w9 := fun Z w9 h hZ => by
     have kP := Blk.puts (g := wr.heap.size) (t := 63) (w := wr) (cs := #[]) X.toList 0 _ _ (Blk.new wr 63 Z)
     rw [putA_all (by rw [Array.length_toList]; omega)] at kP
     have hF := Far.puts (T := fun k => k = wr.heap.size) rfl X.toList 0 wr _ ((Far.refl _ wr).alloc (.cells Z 63))
     rw [h] at kP hF
     exact ⟨kP, hF.below (Nat.le_refl _) (fun k hk e => by omega)⟩
    have heq : ∀ W, (Op.equalIn 10000 63 (.agg X) (.agg #[.int .u8 0, .int .u8 0, .int .u8 0, .int .u8 0, .int .u8 0, .int .u8 0, .int .u8 0, .int .u8 0, .int .u8 0, .int .u8 0, .int .u8 0, .int .u8 0, .int .u8 0, .int .u8 0, .int .u8 0, .int .u8 0, .int .u8 0, .int .u8 0, .int .u8 0, .int .u8 0, .int .u8 0, .int .u8 0, .int .u8 0, .int .u8 0, .int .u8 0, .int .u8 0, .int .u8 0, .int .u8 0, .int .u8 0, .int .u8 0, .int .u8 0, .int .u8 0, .int .u8 0, .int .u8 0, .int .u8 0, .int .u8 0, .int .u8 0, .int .u8 0, .int .u8 0, .int .u8 0, .int .u8 0, .int .u8 0, .int .u8 0, .int .u8 0, .int .u8 0, .int .u8 0, .int .u8 0, .int .u8 0, .int .u8 0, .int .u8 0, .int .u8 0, .int .u8 0, .int .u8 0, .int .u8 0, .int .u8 0, .int .u8 0, .int .u8 0, .int .u8 0, .int .u8 0, .int .u8 0, .int .u8 0, .int .u8 0, .int .u8 0, .int .u8 0])).run Tryz.prog W = .ok (!nzB (V.pg k)) W := fun W => by
     have h := eq64_any (V.pg k).byt (fun _ => 0) W
     rw [hX, nzB_all] at h
     exact h
    have hX' := Lib.hid hX
    have hXs' := Lib.hid hXs
    clear hX hXs
    go_upto_region 11 with (first
     | (refine wpList_load_mid rfl 63 (.tmp 53) rfl b (1 + k * 66 + 2) rfl X.toList _ hra Tryz.underlying63 rfl hinfl ?_; rw [Array.toArray_toList])
     | (refine wpList_store_mid rfl 63 (.tmp 5) (.tmp 54) rfl wr.heap.size 0 X rfl rfl (ht _ rfl) hinf hone ?_))
    generalize hW9 : World.setCells _ wr.heap.size 0 X.toList = w9
    obtain ⟨k9, hb9⟩ := hw9 _ _ hW9 rfl
    clear hW9 hw9 ht hra
    have hra9 : w9.rangeAt wr.heap.size 0 X.toList := fun j v hj => by rw [Nat.zero_add, k9.cell]; simpa using hj
    cases hnz : nzB (V.pg k) with
    | false =>
     rw [hnz] at heq
     go_wp2_with (refine wpList_load_mid rfl 63 (.tmp 5) rfl wr.heap.size 0 rfl X.toList _ hra9 Tryz.underlying63 rfl hinfl ?_; rw [Array.toArray_toList])
     go_roundw
     case rel =>
      have hstD2 : datL V (k + 1) = datL V k := by rw [hstD.out, if_neg (by rw [hnz]; decide)]
      exact ⟨k + 1, v2, v3, by omega, by go_num, k38.call hb9, ownsRow_call ro28 hb9, by rw [hstD2]; exact ownsRow_call ro38 hb9, F38.trans (.of_below hb9)⟩
     case measure => simp [intOf]; omega
    | true =>
     rw [hnz] at heq
     go_upto_region 12 with (refine wpList_load_mid rfl 63 (.tmp 5) rfl wr.heap.size 0 rfl X.toList _ hra9 Tryz.underlying63 rfl hinfl ?_; rw [Array.toArray_toList])
     obtain ⟨D, hD⟩ : ∃ D, daA (k : Int) (V.pg k).byt = D := ⟨_, rfl⟩
     have hbt : Tryz.prog.built 167 [(0, .int .i64 (k : Int)), (1, .agg X)] = some D := by rw [← hD, ← hX'.out]; exact built_da _ _
     have hb171 : ∀ W, (Instr.build 167 #[(0, .int .i64 (k : Int)), (1, .agg X)]).run Tryz.prog W = .ok (.agg D) W := fun W => run_build W _ _ _ hbt
     have hbs := fill_da (k : Int) (V.pg k).byt
     rw [hD] at hbs
     have hDs : D.toList.length = 65 := by rw [← hD]; simp [daA]
     have hDo : ∀ u ∈ D.toList, u.oneCell' = true := by
      intro u hu
      rw [← hD, ← daC_eq] at hu
      exact daC_one V [k] u (by simpa [fl] using hu)
     have hDl : fl (daC V) [k] = D.toList := by rw [← hD, ← daC_eq]; simp [fl]
     have hstD2 : Hid (datL V (k + 1) = datL V k ++ [k]) := Lib.hid (by rw [hstD.out, if_pos hnz])
     obtain ⟨dl, hdl⟩ : ∃ dl, (datL V k).length = dl := ⟨_, rfl⟩
     rw [hdl] at ro38 hlD
     have ro39 := ownsRow_call ro38 hb9
     have k39 := k38.call hb9
     obtain ⟨A3n, cap3n, rfl, _⟩ := own_Rd ro39
     have c39 : w9.cell? ⟨s3, 2, none⟩ = some (.slice A3n dl cap3n) := (k39.cell 2).trans rfl
     clear hD hnz heq
     have hfl : Instr.fill (fun i => some (i * iD.size, iD.size)) ((Array.range (1 * iD.size)).map ((Value.agg (daA 0 (fun _ => 0))).cells[· % (Value.agg (daA 0 (fun _ => 0))).cells.size]!)) [(0, .agg D)] = some D := by rw [hzD1]; exact hbs
     have hs1 : ¬ 1 * iD.size > 2 ^ 24 := by rw [hzD1]; decide
     have hs2 : ¬ 1 * iD.size = 0 := by rw [hzD1]; decide
     have kD := Blk.new w9 167 D
     have hbD : Below w9.heap.size w9 (w9.alloc (.cells D 167)) := (Below.refl _ _).alloc (Nat.le_refl _) _
     have nwD : ∀ (j : Nat) (u : Value), D.toList[j]? = some u → (w9.alloc (.cells D 167)).cell? ((⟨w9.heap.size, 0, none⟩ : Addr).add j) = some u := fun j u hu => by
      rw [addr_add0, Nat.zero_add, kD.cell]; simpa using hu
     have hsF9 := (F38.trans (.of_below hb9)).size
     clear hbs hb171
     go_wp2_with (refine wpList_load_mid rfl 63 (.tmp 5) rfl wr.heap.size 0 rfl X.toList _ hra9 Tryz.underlying63 rfl hinfl ?_; rw [Array.toArray_toList]; refine wpList_buildU rfl 62 rfl 167 [(0, .tmp 60), (1, .tmp 61)] rfl _ rfl D hbt ?_; refine wpList_buildSliceU rfl 63 rfl 85 167 1 [(0, .tmp 62)] rfl _ rfl D iD _ Tryz.underlying85 hiD hzD0 hs1 hs2 hfl ?_; refine wpList_append_own _ rfl (.tmp 59) (.tmp 63) 85 rfl NB 167 iD (.agg (daA 0 (fun _ => 0))) 65 72 Tryz.underlying85 hiD hzD0 hzD1 hzD2 rfl (by decide) _ dl (fl (daC V) (datL V k)) rfl (ro39.alloc _) ⟨w9.heap.size, 0, none⟩ 1 1 D.toList rfl hDs nwD hDo (by unfold maxLen; omega) (by omega) (by simp; omega) ?_; intro v' w10 hown' hgrow _; rw [← hDl, ← fl_append] at hown'; have F10 : Far (fun g => (Value.slice A3n dl cap3n).ownBlock = some g) w9 w10 := (Far.of_below hbD).grown hgrow (fun g hg _ => hg); have k310 := F10.blk k39 (fun h => own_other ro39 h k39 (by decide)); have f310 := k310.frozen; have c310 : w10.cell? ⟨s3, 2, none⟩ = some (.slice A3n dl cap3n) := (k310.cell 2).trans rfl; obtain ⟨A3m, cap3m, rfl, _⟩ := own_Rd hown'; clear c39)
     have F11 : Far (fun k => k = s3) w10 (w10.setCell ⟨s3, 2, none⟩ (.slice A3m (dl + 1) cap3m)) := Far.setCell (T := fun k => k = s3) (p := ⟨s3, 2, none⟩) (Far.refl _ w10) (fun _ => rfl) _
     have k311 : Blk (w10.setCell ⟨s3, 2, none⟩ (.slice A3m (dl + 1) cap3m)) s3 87 (stC (.slice A1 N1 cap1) v2 (.slice A3m (dl + 1) cap3m) (.slice A4 N4 c4) V.rf.calls V.rf.hits).toArray := k310.set_ 2 _
     have ro311 : (w10.setCell ⟨s3, 2, none⟩ (.slice A3m (dl + 1) cap3m)).ownsRow NB 167 65 (.slice A3m (dl + 1) cap3m) (datL V (k + 1)).length (fl (daC V) (datL V (k + 1))) := by
      rw [hstD2.out, List.length_append, List.length_singleton, hdl]
      exact ownsRow_far hown' F11 (fun g hg h => own_other hown' (hg.trans (congrArg some h)) k310 (by decide))
     have ro29 := ownsRow_call ro28 hb9
     have ro211 := ownsRow_far (ownsRow_far ro29 F10 (fun g hg h => by
      rcases ro39.2 with ⟨hx, _⟩ | ⟨g', cap', cur, hx, _, hkx, _⟩
      ·rw [hx] at h; cases h
      ·rw [hx] at h
       have e' : g' = g := by injection h
       subst e'
       exact own_other ro29 hg (show Blk w9 g' 167 cur from hkx) (by decide))) F11 (fun g hg h => by
      have := (ro29.lt g hg).1
      omega)
     have F311 : Far (fun k => k = s3 ∨ NB ≤ k) w3 (w10.setCell ⟨s3, 2, none⟩ (.slice A3m (dl + 1) cap3m)) := ((F38.trans (.of_below hb9)).trans' F10 (fun i hi h => .inr (ro39.lt i h).1)).trans' F11 (fun i hi h => .inl h)
     go_roundw
     case rel => exact ⟨k + 1, v2, _, by omega, by go_num, k311, ro211, ro311, F311⟩
     case measure => simp [intOf]; omega
  ·obtain rfl : k = 1024 := by omega
   have hlt' : decide (((1024 : Nat) : Int) < 1024) = false := by decide
   obtain ⟨A2, cap2, rfl, r2, _, _, g2, _⟩ := own_Rd ro2
   obtain ⟨A3, cap3, rfl, r3, _, _, g3, _⟩ := own_Rd ro3
   have k2r := hF.blk k23 (by show ¬ (s = s3 ∨ NB ≤ s); omega)
   obtain ⟨C18, hC18⟩ : ∃ C18, stC (.slice A1 N1 cap1) (.slice A2 (hugL V 1024).length cap2) (.slice A3 (datL V 1024).length cap3) (.slice A4 N4 c4) V.rf.calls V.rf.hits = C18 := ⟨_, rfl⟩
   have hC18s : C18.length = 18 := by rw [← hC18]; rfl
   have hC18o : C18.toArray.all (·.oneCell') = true := by rw [← hC18]; exact Go.all_oneCell_toArray (stC_one rfl rfl rfl rfl _ _)
   rw [hC18] at k3
   have hra : wr.rangeAt s3 0 C18 := fun j v hj => by rw [Nat.zero_add, k3.cell]; simpa using hj
   have hinf : (Tryz.prog.info? 87).map (·.size) = some C18.length := by rw [hC18s]; exact infoSt
   have hinfa : (Tryz.prog.info? 87).map (·.size) = some C18.toArray.size := by rw [List.size_toArray]; exact hinf
   have ht : wr.there s 0 C18.toArray.size := z_there k2r 0 _ (by rw [List.size_toArray, hC18s]; exact Nat.le_refl _)
   have kP := Blk.puts (g := s) (t := 87) (w := wr) (cs := #[]) C18 0 wr _ k2r
   rw [putA_all (by rw [hC18s]; rfl)] at kP
   have F9 := Far.puts (T := fun k => k = s) rfl C18 0 wr wr (Far.refl _ _)
   have hC' := Lib.hid hC18
   have hs' := Lib.hid hs
   clear hC18 hC18s hs
   go_wp2_with (first
    | (refine wpList_load_mid rfl 87 (.tmp 3) rfl s3 0 rfl C18 _ hra Tryz.underlying87 rfl hinf ?_)
    | (refine wpList_store_mid rfl 87 (.tmp 2) (.tmp 67) rfl s 0 C18.toArray rfl rfl ht hinfa hC18o ?_))
   generalize World.setCells wr s 0 C18 = w9 at *
   have hl9 := run_loadVar_mid (P := Tryz.prog) w9 s 0 87 C18 _ (fun j v hj => by rw [Nat.zero_add, kP.cell]; simpa using hj) Tryz.underlying87 rfl hinf
   refine bodyPost_ret (v := .agg C18.toArray) ?_ rfl ?_
   ·exact z_results_cell1 Tryz.results26 rfl hl9
   have q1r := q13'.out.farN hF (fun k hk ⟨o, e⟩ => by
    have := q4 k o e
    show ¬ (k = s3 ∨ NB ≤ k)
    omega)
   have r1r := r13'.out.farN hF (fun k hk ⟨o, e⟩ h => by
    rcases h with h | h
    ·exact hA13 o (h ▸ e)
    ·omega)
   have hsz9 := F9.size
   have hszr := hF.size
   refine ⟨_, rfl, ⟨A1, A2, A3, A4, N1, cap1, _, cap2, _, cap3, N4, c4, by rw [hC'.out], hN1'.out, ?_, rfl, ?_, rfl, ?_, hN4'.out, ?_⟩, ?_⟩
   ·exact (r1r.farN F9 (fun k hk ⟨o, e⟩ h => by have := hAs.out k o e; omega)).more (by omega)
   ·exact RI.more (r2.farN F9 (fun k hk ⟨o, e⟩ h => by have := g2 k o e; omega)) hsz9
   ·exact (r3.farN F9 (fun k hk ⟨o, e⟩ h => by have := g3 k o e; omega)).more hsz9
   ·exact (q1r.farN F9 (fun k hk ⟨o, e⟩ h => by have := q4 k o e; omega)).more (by omega)
   ·rw [hs'.out]
    exact B3.trans ((hF.below (by omega) (fun k hk h => by omega)).trans (F9.below (by omega) (fun k hk h => by omega)))
end Go.Proofs.YtjmmgoijnhnnaaaGreat
namespace Go.Proofs.YtjmmgoijnhnnaaaGreat
open Go Go.Proofs Go.RowKit Go.Pol
theorem refusable_any (pg n f b ev : Int) (w : World) (hp : PlanOk pg n f b ev) (L : List Int) (hL : pagesOf (runsL pg n f b ev) = L) :
  Calls Tryz.prog 44 #[planV pg n f b ev] w fun e w' => ∃ (A' : Option Addr) (cap' : Nat), e = .returned (.slice A' L.length cap') ∧ RI w' w'.heap.size A' L ∧ Below w.heap.size w w' := by
 have hb0 := (Below.refl w.heap.size w).alloc (Nat.le_refl _) (.cells (planC pg n f b ev) 25)
 have k0 := Blk.new w 25 (planC pg n f b ev)
 have c0 := k0.cell
 have HS := Lib.hid (fun W => refset_any pg n f b ev true W hp _ (setM_true hp))
 have HP := Lib.hid (fun A cap W h1 h2 => refPages_any A (runsL pg n f b ev).length cap (runsL pg n f b ev) W rfl h1 h2 (runsL_can hp) L hL)
 clear hp hL
 generalize runsL pg n f b ev = G at *
 go_enter Tryz.func44, Tryz.ntmps44
 go_wp2_with (first
  | (go_at_call 112; refine (HS.out _).mono ?_; rintro e w1 ⟨A, cap, rfl, hru, h1, h2, h3, hq⟩)
  | (go_at_call 111; refine (HP.out _ _ _ (Nat.le_trans h1 h2) hru).mono ?_; rintro e w2 ⟨A2, cap2, rfl, hri, hq2⟩))
 go_ret
 have hb1 := hb0.trans (hq.mono hb0.size)
 exact ⟨A2, cap2, rfl, hri, hb1.trans (hq2.mono hb1.size)⟩
set_option maxHeartbeats 400000 in
theorem refNth_any (pg n f b ev i : Int) (w : World) (R : Int × Int) (hR : (if chkG pg n f b ev = 0 then nthF (runsL pg n f b ev) i else (0, chkG pg n f b ev)) = R) :
  Calls Tryz.prog 13 #[planV pg n f b ev, .int .i64 i] w fun e w' => e = .returned (.tuple #[.int .i64 R.1, .int .i64 R.2]) ∧ Below w.heap.size w w' := by
 have HC := Lib.hid (fun W => rgcheck_any pg n f b ev W)
 have hb0 := (Below.refl w.heap.size w).alloc (Nat.le_refl _) (.cells (planC pg n f b ev) 25)
 have k0 := Blk.new w 25 (planC pg n f b ev)
 have c0 := k0.cell
 by_cases hc : chkG pg n f b ev = 0
 ·have hp := chkG_zero.1 hc
  rw [if_pos hc, nthF_pages _ _ (fun x hx => (vld_iff.1 ((runsL_can hp).1 x hx)).2.2.1)] at hR
  rw [hc] at HC
  have HU := Lib.hid (fun W => refusable_any pg n f b ev W hp _ rfl)
  have hsum := pagesOf_len (runsL pg n f b ev) (fun x hx => by have := (vld_iff.1 ((runsL_can hp).1 x hx)).2.2.1; omega)
  have hsb := sumS_bound (runsL pg n f b ev) (runsL_can hp).1
  have hl := (runsL_can hp).len
  generalize pagesOf (runsL pg n f b ev) = L at *
  generalize hLL : L.length = LL at *
  rw [← hsum] at hsb
  clear hsum hp hc
  by_cases h1 : i < 0
  ·have h1' : decide (i < 0) = true := by simpa using h1
   have hE : Hid (R = (0, 7)) := Lib.hid (by rw [← hR, nthP, if_pos (.inl h1)])
   clear hR h1
   go_enter Tryz.func13, Tryz.ntmps13
   go_wp2_with (first
    | (go_at_call 43; refine (HC.out _).mono ?_; rintro e w1 ⟨rfl, hq⟩; have k1 := k0.call hq; have c1 := k1.cell)
    | (go_at_call 44; refine (HU.out _).mono ?_; rintro e w2 ⟨A2, cap2, rfl, hri, hq2⟩))
   have hb1 := hb0.trans (hq.mono hb0.size)
   have hb2 := hb1.trans (hq2.mono hb1.size)
   refine bodyPost_ret (v := .tuple #[.int .i64 0, .int .i64 7]) (by simp [results, Tryz.results13, go_sem]) rfl ⟨by rw [hE.out], hb2⟩
  ·have h1' : decide (i < 0) = false := by simpa using h1
   by_cases h2 : (LL : Int) ≤ i
   ·have h2' : decide ((LL : Int) ≤ i) = true := by simpa using h2
    have hE : Hid (R = (0, 7)) := Lib.hid (by rw [← hR, nthP, if_pos (.inr (by rw [hLL]; exact h2))])
    clear hR h1
    go_enter Tryz.func13, Tryz.ntmps13
    go_wp2_with (first
     | (go_at_call 43; refine (HC.out _).mono ?_; rintro e w1 ⟨rfl, hq⟩; have k1 := k0.call hq; have c1 := k1.cell)
     | (go_at_call 44; refine (HU.out _).mono ?_; rintro e w2 ⟨A2, cap2, rfl, hri, hq2⟩))
    have hb1 := hb0.trans (hq.mono hb0.size)
    have hb2 := hb1.trans (hq2.mono hb1.size)
    refine bodyPost_ret (v := .tuple #[.int .i64 0, .int .i64 7]) (by simp [results, Tryz.results13, go_sem]) rfl ⟨by rw [hE.out], hb2⟩
   ·have h2' : decide ((LL : Int) ≤ i) = false := by simpa using h2
    have hE : Hid (R = (L.getD i.toNat 0, 0)) := Lib.hid (by rw [← hR, nthP, if_neg (by rw [hLL]; omega)])
    have hi : 0 ≤ i ∧ i < LL := by omega
    clear hR
    obtain ⟨y, hy⟩ : ∃ y, L.getD i.toNat 0 = y := ⟨_, rfl⟩
    rw [hy] at hE
    have hy' := Lib.hid hy
    clear hy
    go_enter Tryz.func13, Tryz.ntmps13
    go_wp2_with (first
     | (go_at_call 43; refine (HC.out _).mono ?_; rintro e w1 ⟨rfl, hq⟩; have k1 := k0.call hq; have c1 := k1.cell)
     | (go_at_call 44; refine (HU.out _).mono ?_; rintro e w2 ⟨A2, cap2, rfl, hri, hq2⟩; obtain ⟨bb, oo, rfl, hbb, hcc⟩ := RI.at_ hri (k := i.toNat) (by omega); rw [hy'.out] at hcc))
    have hb1 := hb0.trans (hq.mono hb0.size)
    have hb2 := hb1.trans (hq2.mono hb1.size)
    refine bodyPost_ret (v := .tuple #[.int .i64 y, .int .i64 0]) (by simp [results, Tryz.results13, go_sem]) rfl ⟨by rw [hE.out], hb2⟩
 ·rw [if_neg hc] at hR
  generalize chkG pg n f b ev = er at *
  have hc' : (er != 0) = true := by simpa using hc
  have hE : Hid (R = (0, er)) := Lib.hid hR.symm
  clear hc hR
  go_enter Tryz.func13, Tryz.ntmps13
  go_wp2_with (go_at_call 43; refine (HC.out _).mono ?_; rintro e w1 ⟨rfl, hq⟩)
  refine bodyPost_ret (v := .tuple #[.int .i64 0, .int .i64 er]) (by simp [results, Tryz.results13, go_sem]) rfl ⟨by rw [hE.out], hb0.trans (hq.mono hb0.size)⟩
end Go.Proofs.YtjmmgoijnhnnaaaGreat
namespace Go.Pol
open Go Go.RowKit
def setLimB (L : List Nd) (n : Nat) (l : Int) : Int × List Nd :=
 if l < 0 ∨ 4096 < l then (7, L) else (0, L.modify n fun x => { x with lim := l })
def childB (L : List Nd) (l : Int) : Int × List Nd :=
 if l < 0 ∨ 4096 < l then (7, L) else (0, L ++ [⟨(L.length : Int) - 1, l, 0, 0, false, 0⟩])
theorem BudOk.setLim {L : List Nd} (h : BudOk L) {n : Nat} {l : Int} (hl : 0 ≤ l ∧ l ≤ 4096) : BudOk (L.modify n fun x => { x with lim := l }) := by
 obtain ⟨M, hM⟩ : ∃ M, (L.modify n fun x => { x with lim := l }) = M := ⟨_, rfl⟩
 have hlen : M.length = L.length := by rw [← hM]; simp
 have hat : ∀ i, i < L.length → M.getD i nd0 = (if n = i then { L.getD i nd0 with lim := l } else L.getD i nd0) := fun i hi => by
  rw [← hM]
  refine getD_of ?_
  have hg : L[i]? = some (L.getD i nd0) := by rw [List.getD_eq_getElem?_getD, List.getElem?_eq_getElem hi]; rfl
  rw [modify_at, hg]
  by_cases h2 : n = i
  ·rw [if_pos h2, if_pos h2]; rfl
  ·rw [if_neg h2, if_neg h2]
 have hfl : ∀ i, i < L.length → (M.getD i nd0).lim = (if n = i then l else (L.getD i nd0).lim) ∧ (M.getD i nd0).cl = (L.getD i nd0).cl ∧ (M.getD i nd0).par = (L.getD i nd0).par ∧ (M.getD i nd0).own = (L.getD i nd0).own ∧ (M.getD i nd0).all = (L.getD i nd0).all ∧ (M.getD i nd0).peak = (L.getD i nd0).peak := fun i hi => by
  rw [hat i hi]
  by_cases h2 : n = i
  ·rw [if_pos h2, if_pos h2]; exact ⟨rfl, rfl, rfl, rfl, rfl, rfl⟩
  ·rw [if_neg h2, if_neg h2]; exact ⟨rfl, rfl, rfl, rfl, rfl, rfl⟩
 have hmem : ∀ x ∈ M, ∃ i, i < L.length ∧ x = M.getD i nd0 := fun x hx => by
  obtain ⟨i, hi, rfl⟩ := List.getElem_of_mem hx
  exact ⟨i, by omega, by rw [List.getD_eq_getElem?_getD, List.getElem?_eq_getElem hi]; rfl⟩
 rw [hM]
 refine ⟨by rw [hlen]; exact h.pos, by rw [hlen]; exact h.few, fun i hi => ?_, fun x hx => ?_, fun x hx => ?_, fun x hx => ?_, fun i hi => ?_⟩
 ·rw [hlen] at hi
  rw [(hfl i hi).2.1, (hfl i hi).2.2.1]; exact h.chain i hi
 ·obtain ⟨i, hi, rfl⟩ := hmem x hx
  rw [(hfl i hi).1]
  have := h.get hi
  split <;> omega
 ·obtain ⟨i, hi, rfl⟩ := hmem x hx
  rw [(hfl i hi).2.2.2.1]; exact (h.get hi).2.2.1
 ·obtain ⟨i, hi, rfl⟩ := hmem x hx
  rw [(hfl i hi).2.2.2.2.1, (hfl i hi).2.2.2.2.2]; have := h.get hi; omega
 ·rw [hlen] at hi
  rw [(hfl i hi).2.2.2.2.1, h.all i hi]
  refine sumB_own (by simp [hlen]) fun j hj => ?_
  rw [List.length_drop] at hj
  have := (hfl (i + j) (by omega)).2.2.2.1
  rw [List.getD_eq_getElem?_getD, List.getD_eq_getElem?_getD, List.getElem?_drop, List.getElem?_drop, ← List.getD_eq_getElem?_getD, ← List.getD_eq_getElem?_getD]
  exact this.symm
theorem setLimB_ok {L : List Nd} (h : BudOk L) (n : Nat) (l : Int) : BudOk (setLimB L n l).2 := by
 unfold setLimB
 split
 ·exact h
 ·exact h.setLim (by omega)
theorem childB_ok {l m : Int} (hm : 0 ≤ m ∧ m ≤ 4096) : BudOk (childB (newB m) l).2 := by
 unfold childB
 split
 ·exact newB_ok hm
 ·rename_i hl
  refine ⟨by simp, by simp [newB], fun i hi => ?_, fun x hx => ?_, fun x hx => ?_, fun x hx => ?_, fun i hi => ?_⟩
  ·have : i = 0 ∨ i = 1 := by simp [newB] at hi; omega
   rcases this with rfl | rfl <;> exact ⟨rfl, rfl⟩
  ·simp only [newB, List.cons_append, List.nil_append, List.mem_cons, List.not_mem_nil, or_false] at hx
   rcases hx with rfl | rfl
   ·exact hm
   ·show 0 ≤ l ∧ l ≤ 4096; omega
  ·simp only [newB, List.cons_append, List.nil_append, List.mem_cons, List.not_mem_nil, or_false] at hx
   rcases hx with rfl | rfl <;> exact Int.le_refl 0
  ·simp only [newB, List.cons_append, List.nil_append, List.mem_cons, List.not_mem_nil, or_false] at hx
   rcases hx with rfl | rfl <;> exact ⟨Int.le_refl 0, (show (0 : Int) ≤ 4096 by omega)⟩
  ·have : i = 0 ∨ i = 1 := by simp [newB] at hi; omega
   rcases this with rfl | rfl <;> rfl
end Go.Pol
namespace Go.Proofs.YtjmmgoijnhnnaaaGreat
open Go Go.Proofs Go.RowKit Go.Pol Go.Shelf
attribute [local go_sem] Oper.semAt_some Go.Pol.wide_fn Go.Pol.wide_depth Go.Pol.wide_fn' Go.Pol.wide_depth'
set_option maxRecDepth 100000 in
set_option maxHeartbeats 1600000 in
theorem setLimB_any (b n : Nat) (l : Int) (L : List Nd) (w : World) (hB : BudIs w b L) (hO : BudOk L) (hn : n < L.length) :
  Calls Tryz.prog 46 #[.pointer (some ⟨b, 0, none⟩), .int .i64 n, .int .i64 l] w fun e w' => e = .returned (.int .i64 (setLimB L n l).1) ∧ BudTo b (setLimB L n l).2 w w' := by
 have HK := Lib.hid (ask_box b n L w hB hO.ch hn)
 have hb1 := (Below.refl w.heap.size w).alloc (Nat.le_refl _) (.cells #[.int .i64 n] 3)
 have hB1 := hB.call hb1
 have HO := Lib.hid (fun W => outsideB_any l 4096 W)
 obtain ⟨R, hR⟩ : ∃ R, setLimB L n l = R := ⟨_, rfl⟩
 rw [hR]
 have hR' := Lib.hid hR
 unfold setLimB at hR'
 obtain ⟨w1, hw1⟩ : ∃ w1, w.alloc (.cells #[.int .i64 n] 3) = w1 := ⟨_, rfl⟩
 rw [hw1] at HK hb1 hB1
 have hB' := Lib.hid hB1
 by_cases h1 : l < 0 ∨ 4096 < l
 ·have hR2 : Hid (R = (7, L)) := Lib.hid (by rw [← hR'.out, if_pos h1])
  rw [decide_eq_true h1] at HO
  clear hR hR' h1 hB hB1
  go_enter Tryz.func46, Tryz.ntmps46
  go_wp2_with (first | (go_at_call 76; refine HK.out.mono ?_; rintro e w2 ⟨rfl, hw2⟩; replace hw2 := hw2.symm; subst hw2) | (go_at_call 48; refine (HO.out _).mono ?_; rintro e w2 ⟨rfl, hw2⟩; replace hw2 := hw2.symm; subst hw2))
  go_ret
  rw [hR2.out]
  exact ⟨rfl, hB'.out, Far.of_below hb1⟩
 ·rw [decide_eq_false h1] at HO
  have hR2 := hR'.out
  rw [if_neg h1] at hR2
  have hR3 := Lib.hid hR2
  obtain ⟨g, cap, hc1, hc2, kb, hgN, hgl, hcell, hfz, hput⟩ := hB1.put hn
  have c1 := hcell 1 _ rfl
  have cb := kb.cell
  have hP := Lib.hid (hput w1 (Below.refl _ _) 1 (.int .i64 l) (fun x : Nd => { x with lim := l }) (by omega) rfl)
  have hF3 := Lib.hid (NdT.one (Far.of_below hb1) hgN hP.out.2)
  have hnl : n < L.length := hn
  clear hcell hput hR hR' hR2 h1 hB hB1
  generalize L.length = ml at *
  go_enter Tryz.func46, Tryz.ntmps46
  go_wp2_with (first | (go_at_call 76; refine HK.out.mono ?_; rintro e w2 ⟨rfl, hw2⟩; replace hw2 := hw2.symm; subst hw2) | (go_at_call 48; refine (HO.out _).mono ?_; rintro e w2 ⟨rfl, hw2⟩; replace hw2 := hw2.symm; subst hw2))
  go_ret
  rw [← hR3.out]
  exact ⟨rfl, hP.out.1, hF3.out⟩
end Go.Proofs.YtjmmgoijnhnnaaaGreat
namespace Go.Pol
open Go Go.RowKit
theorem CmI.shrink {V : Vm} {L : List Nd} {r : Cr} (h : CmI V L r) (tt : Int) : CmI V L (shrinkC r tt).1 := by
 unfold shrinkC
 by_cases h1 : chkCm r ≠ 0
 ·rw [if_pos h1]; exact h
 rw [if_neg h1]
 have ho : CrOk r := chkCm_zero.1 (by omega)
 obtain ⟨hn, hk, _⟩ := h.of_ok ho
 by_cases h2 : r.cl = true
 ·rw [if_pos h2]; exact h
 rw [if_neg h2]
 by_cases h3 : tt < 0 ∨ r.live < tt
 ·rw [if_pos h3]; exact h
 rw [if_neg h3]
 have hlv1 := ho.live1
 have hus := ho.us1
 have hcb : Can (belC tt r.live) := can_belC (by omega) (by omega)
 have hm := fun k => mem_union ho.can hcb k
 have hks : ∀ k, mem k (setOf (r.kept ++ belC tt r.live)) = true → tt ≤ k ∧ k < usC r := fun k hk => by
  rw [hm k, Bool.or_eq_true, mem_belC] at hk
  rcases hk with hk | hk
  ·have := ho.keptIn k hk; omega
  ·simp at hk; omega
 have ho' : CrOk { r with kept := setOf (r.kept ++ belC tt r.live), live := tt } := ⟨ho.plan, by show 0 ≤ tt; omega, by show tt ≤ usC r; omega, ho.node, setOf_can _, fun hc => absurd hc h2, can_low (setOf_can _) hks⟩
 have hsum : sumS (setOf (r.kept ++ belC tt r.live)) = sumS r.kept + (r.live - tt) := by
  rw [union_sum ho.can hcb (fun k a b => by have := (ho.keptIn k a).1; rw [mem_belC] at b; simp at b; omega), sum_belC (by omega)]
 refine ⟨h.pln, h.bok, h.two, h.root, h.own, ?_, .inr ⟨ho', hn, fun _ => ?_, fun hc => absurd hc h2⟩⟩
 ·show cmN V = tt + sumS (setOf (r.kept ++ belC tt r.live))
  rw [hsum, h.many]; omega
 ·refine (hk (by simpa using h2)).congr (runs_pos ho.plan) (fun k h4 h5 => ?_)
  unfold useC
  simp only
  rw [hm, mem_belC]
  cases mem k r.kept <;> rw [Bool.eq_iff_iff] <;> simp <;> omega
theorem CmI.kindOk {V : Vm} {L : List Nd} {r : Cr} (h : CmI V L r) : KindOk V := fun p _ => by
 have hk : Go.Pol.kd V p = (V.pg p).kind := rfl
 rw [← hk]
 rcases h.st with ⟨_, h1⟩ | ⟨_, _, h1, h2⟩
 ·rw [h1 p]; omega
 ·cases hc : r.cl with
  | false =>
   rw [h1 hc p]
   split
   ·split <;> omega
   ·split <;> omega
  | true =>
   have := h2 hc p
   split at this <;> omega
theorem CmI.write {V : Vm} {L : List Nd} {r : Cr} (h : CmI V L r) (a v : Int) : CmI (writeF V a v) L r := by
 unfold writeF
 by_cases hw : whF V a = 0
 ·rw [if_pos hw]
  have h2 : (V.pg (a / 64).toNat).kind = 2 := by
   unfold whF at hw
   by_cases h1 : a < 0 ∨ 65536 ≤ a
   ·rw [if_pos h1] at hw; exact absurd hw (by decide)
   ·rw [if_neg h1] at hw
    by_cases h3 : (V.pg (a / 64).toNat).kind ≠ 2
    ·rw [if_pos h3] at hw; exact absurd hw (by decide)
    ·simpa using h3
  have hk : ∀ p, Go.Pol.kd (V.setP (a / 64).toNat ((V.pg (a / 64).toNat).byteP (a % 64).toNat v)) p = Go.Pol.kd V p := fun p => by
   unfold Go.Pol.kd Vm.setP
   simp only
   by_cases e : p = (a / 64).toNat
   ·rw [if_pos e, e]; rfl
   ·rw [if_neg e]
  refine h.kd ⟨fun p => ?_, fun p hp j => ?_⟩ hk
  ·unfold Vm.setP
   simp only
   by_cases e : p = (a / 64).toNat
   ·rw [if_pos e]; exact h.pln.hug _
   ·rw [if_neg e]; exact h.pln.hug p
  ·rw [hk p] at hp
   unfold Vm.setP
   simp only
   by_cases e : p = (a / 64).toNat
   ·exfalso
    apply hp
    rw [e]; exact h2
   ·rw [if_neg e]; exact h.pln.byt p hp j
 ·rw [if_neg hw]; exact h
theorem CmI.limit {V : Vm} {L : List Nd} {r : Cr} (h : CmI V L r) (l : Int) : CmI V (setLimB L 1 l).2 r := by
 have h1 := setLimB_ok h.bok 1 l
 have h2 := h.two
 have e : (setLimB L 1 l).2.length = L.length ∧ ((setLimB L 1 l).2.getD 0 nd0).own = (L.getD 0 nd0).own ∧ ((setLimB L 1 l).2.getD 1 nd0).own = (L.getD 1 nd0).own := by
  match L, h2 with
  | [a, b], _ =>
   unfold setLimB
   split <;> exact ⟨rfl, rfl, rfl⟩
 exact ⟨h.pln, h1, by rw [e.1]; exact h2, by rw [e.2.1]; exact h.root, by rw [e.2.2]; exact h.own, h.many, h.st⟩
theorem newVm_plain : Plain newVm := ⟨fun _ => rfl, fun _ _ _ => rfl⟩
theorem newR_sys (l : List Ru) (h : (chkR l).2 = 0) : planF newVm l = { newVm with rf := newRf l } := by unfold planF; rw [if_pos h]
theorem SysC.congr {cs : Array Value} {v : Value} {V U : Vm} (h : SysC cs v V) (hp : U.pg = V.pg) (hc : U.rf.calls = V.rf.calls) (hh : U.rf.hits = V.rf.hits) : SysC cs v U :=
 ⟨h.size, h.made, fun p hp2 i hi => by rw [hp]; exact h.page p hp2 i hi, fun i hi => by rw [hc, hh]; exact h.rf i hi⟩
end Go.Pol
namespace Go.Proofs.YtjmmgoijnhnnaaaGreat
open Go Go.Proofs Go.RowKit Go.Pol Go.Shelf
attribute [local go_sem] Oper.semAt_some Go.Pol.wide_fn Go.Pol.wide_depth Go.Pol.wide_fn' Go.Pol.wide_depth'
set_option maxRecDepth 100000 in
set_option maxHeartbeats 1600000 in
theorem newR_any (A : Option Addr) (n cap : Nat) (l : List Ru) (w : World) (hn : l.length = n) (hm : n ≤ 1000) (hz : A = none → cap = 0) (hr : Rd w w.heap.size A (fl ruC l)) :
  Calls Tryz.prog 17 #[.agg #[.slice A n cap]] w fun e w' => ((chkR l).2 ≠ 0 ∧ e = .returned (.tuple #[.pointer none, .int .i64 (chkR l).2]) ∨ (chkR l).2 = 0 ∧ ∃ b, e = .returned (.tuple #[.pointer (some ⟨b, 0, none⟩), .int .i64 0]) ∧ SysIs w' b (planF newVm l) ∧ w.heap.size ≤ b) ∧ Below w.heap.size w w' := by
 have hb0 := (Below.refl w.heap.size w).alloc (Nat.le_refl _) (.cells #[.slice A n cap] 28)
 have k0 := Blk.new w 28 #[.slice A n cap]
 have c0 := k0.cell
 have hr0 := hr.on_ hb0
 have HS := Lib.hid (fun W h => start_any A n cap l W hn hm hz h)
 have hln := Lib.hid hn
 clear hn hr
 go_enter Tryz.func17, Tryz.ntmps17
 go_wp2_with fail
 refine (HS.out _ hr0).mono ?_
 rintro e w1 hS
 rcases hS with ⟨h0, rfl, hb1⟩ | ⟨h0, v, rfl, hv⟩
 ·have B1 := hb0.trans (hb1.mono hb0.size)
  have h0H := Lib.hid h0
  have d0 : ((chkR l).2 != 0) = true := by simpa using h0
  have hB2 := B1.alloc B1.size (.cells (rfC (.slice none 0 0) (fun _ => 0) (fun _ => 0)).toArray 69)
  clear h0
  unfold rfC at hB2
  unfold rfV rfC
  go_wp2_with fail
  go_ret2
  exact ⟨.inl ⟨h0H.out, rfl⟩, hB2⟩
 obtain ⟨A, cap, rfl, v1, v2, v3, v4, v5, hb1⟩ := hv
 have h0H := Lib.hid h0
 obtain ⟨ln, hln2⟩ : ∃ ln, l.length = ln := ⟨_, rfl⟩
 rw [hln2] at v2
 simp only [hln2]
 have hlnH := Lib.hid hln2
 have v1H := Lib.hid v1
 have v5H := Lib.hid v5
 have B1 := hb0.trans (hb1.mono hb0.size)
 have hB2 := B1.alloc B1.size (.cells (rfC (.slice A ln cap) (fun _ => 0) (fun _ => 0)).toArray 69)
 have hb2 := (Below.refl w1.heap.size w1).alloc (Nat.le_refl _) (.cells (rfC (.slice A ln cap) (fun _ => 0) (fun _ => 0)).toArray 69)
 have hzs := Tryz.zeroCells71_size
 have hzz := zeroSys
 obtain ⟨zc, hzc⟩ : ∃ zc, Tryz.zeroCells71 = zc := ⟨_, rfl⟩
 rw [hzc] at hzs hzz
 have hne : ¬ zc = #[] := fun e => by rw [e] at hzs; simp at hzs
 have hC := Lib.hid (newSys hzz (.slice A ln cap))
 have kz := Blk.new w1 69 (rfC (.slice A ln cap) (fun _ => 0) (fun _ => 0)).toArray
 clear hzz c0 k0 v1 HS v5 h0 hln2
 unfold rfC at hB2 kz hb2
 unfold rfV rfC
 go_upto_region 4 with fail
 generalize w1.alloc _ = w2 at *
 have cz := kz.cell
 have hB3 := hB2.alloc hB2.size (.cells (putA (putA zc 0 [.bool true]) 67585 (rfC (.slice A ln cap) (fun _ => 0) (fun _ => 0))) 71)
 have hb3 := (Below.refl w2.heap.size w2).alloc (Nat.le_refl _) (.cells (putA (putA zc 0 [.bool true]) 67585 (rfC (.slice A ln cap) (fun _ => 0) (fun _ => 0))) 71)
 have kS := Blk.new w2 71 (putA (putA zc 0 [.bool true]) 67585 (rfC (.slice A ln cap) (fun _ => 0) (fun _ => 0)))
 have hbs := hB2.size
 go_wp2_with fail
 go_ret2
 refine ⟨.inr ⟨h0H.out, w2.heap.size, rfl, ?_, hbs⟩, hB3⟩
 have e := newR_sys l h0H.out
 rw [e]
 have hr2 := ((v1H.out.on_ hb2).on_ hb3)
 refine ⟨_, A, ln, cap, kS, hC.out.congr rfl rfl rfl, hlnH.out, hr2, v5H.out.1, fun g o e h => ?_, newRf_ok h0H.out, fun g o e h => ?_⟩
 ·have := v4 g o e
  obtain ⟨cr, hcr⟩ := v5H.out.2 g o e h
  have := (hcr.call hb2).lt
  omega
 ·obtain ⟨cr, hcr⟩ := v5H.out.2 g o e h
  exact ⟨cr, (hcr.call hb2).call hb3⟩
theorem infoNd : (Tryz.prog.info? 122).map (fun i => (i.zero, i.size, i.bytes)) = some (some (.agg #[.int .i64 0, .int .i64 0, .int .i64 0, .int .i64 0, .bool false, .int .i64 0]), 6, 48) := by kernel_rfl
theorem infoNd_parts : ∃ i0, Tryz.prog.info? 122 = some i0 ∧ i0.zero = some (.agg #[.int .i64 0, .int .i64 0, .int .i64 0, .int .i64 0, .bool false, .int .i64 0]) ∧ i0.size = 6 ∧ i0.bytes = 48 := by
 obtain ⟨i0, h⟩ := info_parts infoNd
 exact ⟨i0, h⟩
theorem child1_enters : ∀ args w, (callFunc 108 args).run Tryz.prog w = .ok (.enter 108 args) w := enters_of Tryz.func108 (by kernel_rfl) rfl
theorem child1_any (a b c d f : Int) (cl : Bool) (w : World) : Calls Tryz.prog 108 #[.agg #[.int .i64 a, .int .i64 b, .int .i64 c, .int .i64 d, .bool cl, .int .i64 f]] w fun e w' => e = .returned (.bool cl) ∧ Below w.heap.size w w' := by
 have hb0 := (Below.refl w.heap.size w).alloc (Nat.le_refl _) (.cells #[.int .i64 a, .int .i64 b, .int .i64 c, .int .i64 d, .bool cl, .int .i64 f] 122)
 have k0 := Blk.new w 122 #[.int .i64 a, .int .i64 b, .int .i64 c, .int .i64 d, .bool cl, .int .i64 f]
 have c0 := k0.cell
 go_enter Tryz.func108, Tryz.ntmps108
 go_wp2_with fail
 go_ret
 exact ⟨rfl, hb0⟩
theorem indexNd_any (g cap : Nat) (a b c d f : Int) (w : World) (c0 : ∀ (q : Nat) (v : Value), [Value.int .i64 a, .int .i64 b, .int .i64 c, .int .i64 d, .bool false, .int .i64 f][q]? = some v → w.cell? ⟨g, q, none⟩ = some v) :
  Calls Tryz.prog 107 #[.slice (some ⟨g, 0, none⟩) 1 cap, .func (.func 108) #[] #[]] w fun e w' => e = .returned (.int .i64 (-1)) ∧ Below w.heap.size w w' := by
 have q0 := c0 0 _ rfl
 have q1 := c0 1 _ rfl
 have q2 := c0 2 _ rfl
 have q3 := c0 3 _ rfl
 have q4 := c0 4 _ rfl
 have q5 := c0 5 _ rfl
 have HC := Lib.hid (fun W => child1_any a b c d f false W)
 clear c0
 have eg := child1_enters
 go_enter Tryz.func107, Tryz.ntmps107
 go_wp2_with fail
 go_loopw [8] (fun u wr => (u = .int .i64 0 ∧ wr = w) ∨ (u = .int .i64 1 ∧ Below w.heap.size w wr)) (fun u _ => 2 - (intOf u).toNat)
 case atStart => exact .inl ⟨rfl, rfl⟩
 case round =>
  rcases hrel with ⟨rfl, rfl⟩ | ⟨rfl, hB⟩
  ·go_wp2_with fail
   refine (HC.out _).mono ?_
   rintro e w1 ⟨rfl, hb1⟩
   go_wp2_with fail
   go_roundw
   case rel => exact .inr ⟨rfl, hb1⟩
   case measure => decide
  ·go_wp2_with fail
   go_ret
   exact ⟨rfl, hB⟩
theorem own_two {w : World} {base : Nat} {e : TypeId} {v : Value} {xs : List Value} (h : w.ownsRow base e 6 v (1 + 1) xs) :
  ∃ g cap, v = .slice (some ⟨g, 0, none⟩) 2 cap ∧ base ≤ g ∧ 2 ≤ cap ∧ cap ≤ maxLen ∧ ∃ cs, Blk w g e cs := by
 rcases h.2 with ⟨_, hn⟩ | ⟨g, cap, cur, hv, hb, hk, hc, hm, _, _⟩
 ·omega
 ·exact ⟨g, cap, hv, hb, hc, hm, cur, hk⟩
set_option maxRecDepth 100000 in
set_option maxHeartbeats 1600000 in
theorem child_any (b : Nat) (m lim : Int) (w : World) (hB : BudIs w b (newB m)) (hm : 0 ≤ m ∧ m ≤ 4096) :
  Calls Tryz.prog 42 #[.pointer (some ⟨b, 0, none⟩), .int .i64 0, .int .i64 lim] w fun e w' => (∃ k : Int, e = .returned (.tuple #[.int .i64 k, .int .i64 (childB (newB m) lim).1]) ∧ ((childB (newB m) lim).1 = 0 → k = 1)) ∧ BudIs w' b (childB (newB m) lim).2 ∧ Far (fun k => k = b ∨ NdT b w k) w w' := by
 obtain ⟨i0, hi0, hi1, hi2, hi3⟩ := infoNd_parts
 have HK := Lib.hid (ask_box b 0 (newB m) w hB (newB_ok hm).ch Nat.zero_lt_one)
 have hb1 := (Below.refl w.heap.size w).alloc (Nat.le_refl _) (.cells #[.int .i64 0] 3)
 have hB1 := hB.call hb1
 have HO := Lib.hid (fun W => outsideB_any lim 4096 W)
 obtain ⟨w1, hw1⟩ : ∃ w1, w.alloc (.cells #[.int .i64 0] 3) = w1 := ⟨_, rfl⟩
 rw [show ((0 : Nat) : Int) = 0 from rfl, hw1] at HK
 rw [hw1] at hb1 hB1
 unfold childB
 by_cases h1 : lim < 0 ∨ 4096 < lim
 ·rw [if_pos h1]
  rw [decide_eq_true h1] at HO
  have hBH := Lib.hid hB1
  clear h1 hB hB1
  go_enter Tryz.func42, Tryz.ntmps42
  go_wp2_with (first | (go_at_call 76; refine HK.out.mono ?_; rintro e w2 ⟨rfl, hw2⟩; replace hw2 := hw2.symm; subst hw2) | (go_at_call 48; refine (HO.out _).mono ?_; rintro e w2 ⟨rfl, hw2⟩; replace hw2 := hw2.symm; subst hw2))
  go_ret2
  exact ⟨⟨0, rfl, fun h => absurd h (by decide)⟩, hBH.out, Far.of_below hb1⟩
 rw [if_neg h1]
 rw [decide_eq_false h1] at HO
 obtain ⟨A, cap, k, r⟩ := hB1.ex
 obtain ⟨g, cap2, hc1, hc2, kb, hgN, hgl, hcell, hfz⟩ := hB1.node (i := 0) Nat.zero_lt_one
 have c0 : ∀ (q : Nat) (v : Value), [Value.int .i64 (-1), .int .i64 m, .int .i64 0, .int .i64 0, .bool false, .int .i64 0][q]? = some v → w1.cell? ⟨g, q, none⟩ = some v := fun q v hv => by
  have := hcell 0 Nat.zero_lt_one q v hv
  rwa [Nat.zero_mul, Nat.zero_add] at this
 have HI := Lib.hid (fun W (h : Below w1.heap.size w1 W) => indexNd_any g cap2 (-1) m 0 0 0 W (fun q v hv => (h.cell (block_lt_of_cell (c0 q v hv))).trans (c0 q v hv)))
 have rH := Lib.hid r
 have hbg : b ≠ g := fun e => by subst e; obtain ⟨_, cs, hc⟩ := hgN; exact Blk.ne_ kb hc (by decide) rfl
 have eA : A = some ⟨g, 0, none⟩ ∧ cap = cap2 := by
  have := k.cell 1
  rw [kb.cell] at this
  simpa using this.symm
 obtain ⟨rfl, rfl⟩ := eA
 have cb := kb.cell
 have hlen : (newB m).length = 1 := rfl
 rw [hlen] at cb
 clear hcell k r hB hB1 h1 c0 hlen
 go_enter Tryz.func42, Tryz.ntmps42
 go_wp2_with (first | (go_at_call 76; refine HK.out.mono ?_; rintro e w2 ⟨rfl, hw2⟩; replace hw2 := hw2.symm; subst hw2) | (go_at_call 48; refine (HO.out _).mono ?_; rintro e w2 ⟨rfl, hw2⟩; replace hw2 := hw2.symm; subst hw2))
 refine (HI.out w1 (Below.refl _ _)).mono ?_
 rintro e w2 ⟨rfl, hb2⟩
 have kb1 : Blk w1 b 75 #[.bool true, .slice (some ⟨g, 0, none⟩) 1 cap] := kb
 have kb2 := kb1.call hb2
 have cb2 := kb2.cell
 have fb2 := kb2.frozen
 have row1 : w1.ownsRow (b - 1) 122 6 (.slice (some ⟨g, 0, none⟩) 1 cap) 1 [.int .i64 (-1), .int .i64 m, .int .i64 0, .int .i64 0, .bool false, .int .i64 0] := rH.out
 have row2 := Lib.hid (ownsRow_call row1 hb2)
 clear row1
 have hsz2 := hb2.size
 have hbl := kb2.lt
 have kN := Blk.new w2 122 #[.int .i64 0, .int .i64 0, .int .i64 0, .int .i64 0, .bool false, .int .i64 0]
 clear cb kb kb1
 go_upto_region 8 with fail
 go_upto_region 12 with (at_builtin; refine wpList_append_own _ rfl (.tmp 33) (.tmp 35) 73 rfl (b - 1) 122 i0 (.agg #[.int .i64 0, .int .i64 0, .int .i64 0, .int .i64 0, .bool false, .int .i64 0]) 6 48 Tryz.underlying73 hi0 hi1 hi2 hi3 rfl (by decide) (.slice (some ⟨g, 0, none⟩) 1 cap) 1 [.int .i64 (-1), .int .i64 m, .int .i64 0, .int .i64 0, .bool false, .int .i64 0] rfl (row2.out.alloc _) ⟨w2.heap.size, 0, none⟩ 1 1 [.int .i64 0, .int .i64 0, .int .i64 0, .int .i64 0, .bool false, .int .i64 0] rfl rfl (fun j u hu => by
   rw [addr_add0, Nat.zero_add, kN.cell]; simpa using hu) (fun u hu => by simp only [List.mem_cons, List.not_mem_nil, or_false] at hu; rcases hu with rfl | rfl | rfl | rfl | rfl | rfl <;> rfl) (by unfold maxLen; omega) (by omega) (by simp; omega) ?_; intro v' w3 hown' hgrow _; obtain ⟨g', cap', rfl, hbg', hc2', hcm', cs', hcs'⟩ := own_two hown'; have kb3 := (kb2.alloc (.cells #[.int .i64 0, .int .i64 0, .int .i64 0, .int .i64 0, .bool false, .int .i64 0] 122)).grown hgrow (fun e => hbg (by simpa [Value.ownBlock] using e)); have cb3 := kb3.cell; have fb3 := kb3.frozen)
 have F4 : Far (fun k => k = b) w3 (w3.setCell ⟨b, 1, none⟩ (.slice (some ⟨g', 0, none⟩) 2 cap')) := Far.setCell (T := fun k => k = b) (p := ⟨b, 1, none⟩) (Far.refl _ w3) (fun _ => rfl) _
 have kb4 := kb3.set_ 1 (.slice (some ⟨g', 0, none⟩) 2 cap')
 have hne : g' ≠ b := fun e => by subst e; exact Blk.ne_ hcs' kb3 (by decide) rfl
 have row4 := ownsRow_far hown' F4 (fun q hq e => by
  have hq : some g' = some q := hq
  have e : q = b := e
  subst e
  exact hne (Option.some.inj hq))
 have kg4 := F4.blk hcs' hne
 have FA : Far (fun k => k = b ∨ NdT b w k) w w3 := ((Far.of_below (hb1.trans (hb2.mono hb1.size))).alloc _).grown hgrow (fun q hq hlt => by
  have hq : some g = some q := hq
  cases hq
  exact .inr (NdT.back (Far.of_below hb1) hlt hgN))
 have FB := FA.trans (F4.mono (fun _ _ h => .inl h))
 generalize w3.setCell ⟨b, 1, none⟩ (.slice (some ⟨g', 0, none⟩) 2 cap') = w4 at *
 simp only [List.setIfInBounds_toArray, List.set_cons_zero, List.set_cons_succ] at kb4
 clear kb2 kb3 cb2 fb2 cb3 fb3 F4 FA hown' hcs' hgrow row2 kN HI HK HO
 have cb4 := kb4.cell
 have fg4 := kg4.frozen
 have cg4 := row4.cells (g := g') rfl
 have q6 : w4.cell? ⟨g', 6, none⟩ = some (.int .i64 0) := by have := cg4 6 _ rfl; rwa [addr_add0, Nat.zero_add] at this
 have q7 : w4.cell? ⟨g', 7, none⟩ = some (.int .i64 0) := by have := cg4 7 _ rfl; rwa [addr_add0, Nat.zero_add] at this
 have q8 : w4.cell? ⟨g', 8, none⟩ = some (.int .i64 0) := by have := cg4 8 _ rfl; rwa [addr_add0, Nat.zero_add] at this
 have q9 : w4.cell? ⟨g', 9, none⟩ = some (.int .i64 0) := by have := cg4 9 _ rfl; rwa [addr_add0, Nat.zero_add] at this
 have q10 : w4.cell? ⟨g', 10, none⟩ = some (.bool false) := by have := cg4 10 _ rfl; rwa [addr_add0, Nat.zero_add] at this
 have q11 : w4.cell? ⟨g', 11, none⟩ = some (.int .i64 0) := by have := cg4 11 _ rfl; rwa [addr_add0, Nat.zero_add] at this
 clear cg4
 go_wp2_with fail
 go_ret2
 have F5 : Far (fun k => k = g') w4 ((((((w4.setCell ⟨g', 6, none⟩ (.int .i64 0)).setCell ⟨g', 7, none⟩ (.int .i64 lim)).setCell ⟨g', 8, none⟩ (.int .i64 0)).setCell ⟨g', 9, none⟩ (.int .i64 0)).setCell ⟨g', 10, none⟩ (.bool false)).setCell ⟨g', 11, none⟩ (.int .i64 0)) :=
  ((((((Far.refl (fun k => k = g') w4).setCell (p := ⟨g', 6, none⟩) (fun _ => rfl) _).setCell (p := ⟨g', 7, none⟩) (fun _ => rfl) _).setCell (p := ⟨g', 8, none⟩) (fun _ => rfl) _).setCell (p := ⟨g', 9, none⟩) (fun _ => rfl) _).setCell (p := ⟨g', 10, none⟩) (fun _ => rfl) _).setCell (p := ⟨g', 11, none⟩) (fun _ => rfl) _
 have r5 := own_bumpB (i := 11) (v := .int .i64 0) (own_bumpB (i := 10) (v := .bool false) (own_bumpB (i := 9) (v := .int .i64 0) (own_bumpB (i := 8) (v := .int .i64 0) (own_bumpB (i := 7) (v := .int .i64 lim) (own_bumpB (i := 6) (v := .int .i64 0) row4)))))
 have kb5 := F5.blk kb4 (fun e => hne e.symm)
 generalize (((((w4.setCell ⟨g', 6, none⟩ (.int .i64 0)).setCell ⟨g', 7, none⟩ (.int .i64 lim)).setCell ⟨g', 8, none⟩ (.int .i64 0)).setCell ⟨g', 9, none⟩ (.int .i64 0)).setCell ⟨g', 10, none⟩ (.bool false)).setCell ⟨g', 11, none⟩ (.int .i64 0) = w5 at *
 refine ⟨⟨1, rfl, fun _ => rfl⟩, ⟨some ⟨g', 0, none⟩, cap', kb5, r5⟩, FB.trans' F5 (fun i hi e => ?_)⟩
 by_cases h0 : i = b ∨ NdT b w i
 ·exact h0
 ·have e : i = g' := e
  exact .inr ⟨by omega, _, (FB.block i hi h0).symm.trans (e ▸ kg4)⟩
end Go.Proofs.YtjmmgoijnhnnaaaGreat
namespace Go.Pol
open Go Go.Proofs Go.RowKit Go.ChangeShapes Go.WideShapes Go.Deep
theorem Rd.of_elem {α : Type} {enc : α → List Value} {sz : Nat} {w : World} {B b o : Nat} (hlen : ∀ x, (enc x).length = sz) (h0 : 0 < sz) (d : α) (us : List α) (hb : us ≠ [] → b < B)
  (h : ∀ k, k < us.length → ∀ (j : Nat) (v : Value), (enc (us.getD k d))[j]? = some v → w.cell? ⟨b, o + k * sz + j, none⟩ = some v) : Rd w B (some ⟨b, o, none⟩) (fl enc us) := fun i hi => by
 have hl := fl_len hlen us
 have hk : i / sz < us.length := Nat.div_lt_of_lt_mul (by rw [Nat.mul_comm, ← hl]; exact hi)
 have hj : i % sz < sz := Nat.mod_lt _ h0
 have hi2 : i / sz * sz + i % sz = i := Nat.div_add_mod' i sz
 have e := fl_at hlen d us (i / sz) hk (i % sz) hj
 rw [hi2] at e
 refine ⟨b, o, rfl, hb (fun h => by rw [h] at hk; simp at hk), ?_⟩
 have := h (i / sz) hk (i % sz) _ (e.symm.trans (List.getElem?_eq_getElem hi))
 rwa [Nat.add_assoc, hi2] at this
section
variable {H : Type} {enc : TypeId × Value → H} {P : Program} {w : World} {base : Nat} {held : Bool}
theorem openR {t e : TypeId} {f0 f1 f2 f3 : Field} {fuel : Nat} {v : Value} {x : DataW H × List MemPlace} (ht : P.underlying t = some (.slice e)) (he : P.underlying e = some (.struct #[f0, f1, f2, f3])) (hone : oneCellFields P #[f0, f1, f2, f3] = true) (hC : P.cellsOf e = 4)
  (h0 : P.underlying f0.type = some (.int .i64)) (h1 : P.underlying f1.type = some (.int .i64)) (h2 : P.underlying f2.type = some (.int .i64)) (h3 : P.underlying f3.type = some (.int .i64))
  (h : DataW.trod enc P w base (fun _ => true) held fuel t [v] = some x) : ∃ (A : Option Addr) (n cap : Nat) (us : List Ru), v = .slice A n cap ∧ us.length = n ∧ n ≤ maxLen ∧ Rd w w.heap.size A (fl ruC us) ∧ (A = none → cap = 0) := by
 rcases open_slice_fields ht he hone hC h with ⟨hcs, _⟩ | ⟨a, len, cap, m, D, Pl, hcs, _, hl, hm, hmm, _, hi⟩
 ·simp only [List.cons.injEq, and_true] at hcs
  exact ⟨none, 0, 0, [], hcs, rfl, by unfold maxLen; omega, fun k hk => absurd hk (by simp [fl]), fun _ => rfl⟩
 ·simp only [List.cons.injEq, and_true] at hcs
  simp only [if_true] at hmm
  have each : ∀ i, i < len → ∃ p q r s : Int, w.cell? (a.add (i * 4)) = some (.int .i64 p) ∧ w.cell? (a.add (i * 4 + 1)) = some (.int .i64 q) ∧ w.cell? (a.add (i * 4 + 2)) = some (.int .i64 r) ∧ w.cell? (a.add (i * 4 + 3)) = some (.int .i64 s) := by
   intro i hil
   obtain ⟨ys, n, _, _, _, hf⟩ := hi i (by omega)
   obtain ⟨v0, y0, c0, _, t0⟩ := hf 0 f0 rfl
   obtain ⟨v1, y1, c1, _, t1⟩ := hf 1 f1 rfl
   obtain ⟨v2, y2, c2, _, t2⟩ := hf 2 f2 rfl
   obtain ⟨v3, y3, c3, _, t3⟩ := hf 3 f3 rfl
   obtain ⟨p, e0, _⟩ := DataW.trod_int h0 t0
   obtain ⟨q, e1, _⟩ := DataW.trod_int h1 t1
   obtain ⟨r, e2, _⟩ := DataW.trod_int h2 t2
   obtain ⟨s, e3, _⟩ := DataW.trod_int h3 t3
   simp only [List.cons.injEq, and_true] at e0 e1 e2 e3
   subst e0; subst e1; subst e2; subst e3
   exact ⟨p, q, r, s, c0, c1, c2, c3⟩
  obtain ⟨f, hf⟩ := Classical.axiomOfChoice (r := fun (i : Nat) (x : Ru) => i < len → w.cell? (a.add (i * 4)) = some (.int .i64 x.1) ∧ w.cell? (a.add (i * 4 + 1)) = some (.int .i64 x.2.1) ∧ w.cell? (a.add (i * 4 + 2)) = some (.int .i64 x.2.2.1) ∧ w.cell? (a.add (i * 4 + 3)) = some (.int .i64 x.2.2.2)) (fun i => by
   by_cases hil : i < len
   ·obtain ⟨p, q, r, s, c⟩ := each i hil
    exact ⟨(p, q, r, s), fun _ => c⟩
   ·exact ⟨(0, 0, 0, 0), fun h => absurd h hil⟩)
  by_cases hz : len = 0
  ·subst hz
   exact ⟨some a, 0, cap, [], hcs, rfl, by omega, fun k hk => absurd hk (by simp [fl]), fun h => (by cases h)⟩
  ·obtain ⟨b, off, spot⟩ := a
   have hspot : spot = none := by
    obtain ⟨c0', _⟩ := hf 0 (by omega)
    simpa [Addr.add] using World.cell?_spot c0'
   subst hspot
   refine ⟨_, len, cap, (List.range len).map f, hcs, by simp, by omega, Rd.of_elem ruC_len (by omega) ru0 _ (fun _ => ?_) (fun k hk j v hj => ?_), fun h => (by cases h)⟩
   ·obtain ⟨c0', _⟩ := hf 0 (by omega)
    rw [add_plain] at c0'
    exact World.block_lt_of_cell? _ _ c0'
   ·have hk' : k < len := by simpa using hk
    obtain ⟨c0, c1, c2, c3⟩ := hf k hk'
    have e : ((List.range len).map f).getD k ru0 = f k := by simp [List.getD_eq_getElem?_getD, hk']
    rw [e] at hj
    rw [add_plain] at c0 c1 c2 c3
    match j, hj with
    | 0, hj => cases hj; exact c0
    | 1, hj => cases hj; rw [Nat.add_assoc]; exact c1
    | 2, hj => cases hj; rw [Nat.add_assoc]; exact c2
    | 3, hj => cases hj; rw [Nat.add_assoc]; exact c3
end
end Go.Pol
namespace Go.Proofs.YtjmmgoijnhnnaaaGreat
open Go Go.Proofs Go.RowKit Go.Pol Go.ChangeShapes Go.WideShapes Go.Deep
theorem ruStruct : ∃ f0 f1 f2 f3 : Field, Tryz.prog.underlying 164 = some (.struct #[f0, f1, f2, f3]) ∧ oneCellFields Tryz.prog #[f0, f1, f2, f3] = true ∧ f0.type = 3 ∧ f1.type = 3 ∧ f2.type = 3 ∧ f3.type = 3 := ⟨_, _, _, _, Tryz.underlying164, by kernel_rfl, rfl, rfl, rfl, rfl⟩
theorem rusCells : Tryz.prog.cellsOf 26 = 1 := by kernel_rfl
theorem plCells : Tryz.prog.cellsOf 28 = 1 := by kernel_rfl
end Go.Proofs.YtjmmgoijnhnnaaaGreat
namespace Go.Pol
open Go Go.Proofs Go.RowKit Go.ChangeShapes Go.WideShapes Go.Deep
def acC (x : Int × Int) : List Value := [.int .u8 x.1, .int .i64 x.2]
theorem acC_len (x : Int × Int) : (acC x).length = 2 := rfl
section
variable {H : Type} {enc : TypeId × Value → H} {P : Program} {w : World} {base : Nat} {held : Bool}
theorem openA {t e : TypeId} {f0 f1 : Field} {fuel : Nat} {v : Value} {x : DataW H × List MemPlace} (ht : P.underlying t = some (.slice e)) (he : P.underlying e = some (.struct #[f0, f1])) (hone : oneCellFields P #[f0, f1] = true) (hC : P.cellsOf e = 2)
  (h0 : P.underlying f0.type = some (.int .u8)) (h1 : P.underlying f1.type = some (.int .i64))
  (h : DataW.trod enc P w base (fun _ => true) held fuel t [v] = some x) : ∃ (A : Option Addr) (n cap : Nat) (us : List (Int × Int)), v = .slice A n cap ∧ us.length = n ∧ n ≤ maxLen ∧ Rd w w.heap.size A (fl acC us) ∧ ∀ x ∈ us, 0 ≤ x.1 ∧ x.1 ≤ 255 ∧ -9223372036854775808 ≤ x.2 ∧ x.2 ≤ 9223372036854775807 := by
 rcases open_slice_fields ht he hone hC h with ⟨hcs, _⟩ | ⟨a, len, cap, m, D, Pl, hcs, _, hl, hm, hmm, _, hi⟩
 ·simp only [List.cons.injEq, and_true] at hcs
  exact ⟨none, 0, 0, [], hcs, rfl, by unfold maxLen; omega, fun k hk => absurd hk (by simp [fl]), fun x hx => (by cases hx)⟩
 ·simp only [List.cons.injEq, and_true] at hcs
  simp only [if_true] at hmm
  have each : ∀ i, i < len → ∃ p q : Int, w.cell? (a.add (i * 2)) = some (.int .u8 p) ∧ w.cell? (a.add (i * 2 + 1)) = some (.int .i64 q) ∧ (Lit.int .u8 p).wf = true ∧ (Lit.int .i64 q).wf = true := by
   intro i hil
   obtain ⟨ys, n, _, _, _, hf⟩ := hi i (by omega)
   obtain ⟨v0, y0, c0, _, t0⟩ := hf 0 f0 rfl
   obtain ⟨v1, y1, c1, _, t1⟩ := hf 1 f1 rfl
   obtain ⟨p, e0, _, w0⟩ := DataW.trod_int h0 t0
   obtain ⟨q, e1, _, w1⟩ := DataW.trod_int h1 t1
   simp only [List.cons.injEq, and_true] at e0 e1
   subst e0; subst e1
   exact ⟨p, q, c0, c1, w0, w1⟩
  obtain ⟨f, hf⟩ := Classical.axiomOfChoice (r := fun (i : Nat) (pq : Int × Int) => i < len → w.cell? (a.add (i * 2)) = some (.int .u8 pq.1) ∧ w.cell? (a.add (i * 2 + 1)) = some (.int .i64 pq.2) ∧ (Lit.int .u8 pq.1).wf = true ∧ (Lit.int .i64 pq.2).wf = true) (fun i => by
   by_cases hil : i < len
   ·obtain ⟨p, q, c0, c1, c2, c3⟩ := each i hil
    exact ⟨(p, q), fun _ => ⟨c0, c1, c2, c3⟩⟩
   ·exact ⟨(0, 0), fun h => absurd h hil⟩)
  by_cases hz : len = 0
  ·subst hz
   exact ⟨some a, 0, cap, [], hcs, rfl, by omega, fun k hk => absurd hk (by simp [fl]), fun x hx => (by cases hx)⟩
  ·obtain ⟨b, off, spot⟩ := a
   have hspot : spot = none := by
    obtain ⟨c0', _⟩ := hf 0 (by omega)
    simpa [Addr.add] using World.cell?_spot c0'
   subst hspot
   refine ⟨_, len, cap, (List.range len).map f, hcs, by simp, by omega, Rd.of_elem acC_len (by omega) (0, 0) _ (fun _ => ?_) (fun k hk j v hj => ?_), fun x hx => ?_⟩
   ·obtain ⟨c0', _⟩ := hf 0 (by omega)
    rw [add_plain] at c0'
    exact World.block_lt_of_cell? _ _ c0'
   ·have hk' : k < len := by simpa using hk
    obtain ⟨c0, c1, _, _⟩ := hf k hk'
    have e : ((List.range len).map f).getD k (0, 0) = f k := by simp [List.getD_eq_getElem?_getD, hk']
    rw [e] at hj
    rw [add_plain] at c0 c1
    match j, hj with
    | 0, hj => cases hj; exact c0
    | 1, hj => cases hj; rw [Nat.add_assoc]; exact c1
   ·obtain ⟨k, hk, rfl⟩ := List.mem_map.1 hx
    obtain ⟨_, _, h2, h3⟩ := hf k (List.mem_range.1 hk)
    simp [Lit.wf, IntKind.min, IntKind.max, IntKind.signed, IntKind.bits] at h2 h3
    omega
end
end Go.Pol
namespace Go.Proofs.YtjmmgoijnhnnaaaGreat
open Go Go.Proofs Go.RowKit Go.Pol Go.ChangeShapes Go.WideShapes Go.Deep
theorem plyCells : Tryz.prog.cellsOf 31 = 8 := by kernel_rfl
theorem acsCells : Tryz.prog.cellsOf 29 = 1 := by kernel_rfl
theorem acStruct : ∃ f0 f1 : Field, Tryz.prog.underlying 51 = some (.struct #[f0, f1]) ∧ oneCellFields Tryz.prog #[f0, f1] = true ∧ f0.type = 5 ∧ f1.type = 3 := ⟨_, _, Tryz.underlying51, by kernel_rfl, rfl, rfl⟩
section
variable {H : Type} {enc : TypeId × Value → H} {w : World} {base b0 : Nat} {held : Bool} {r : Reach} {v : Value} {d : DataW H} {p : List MemPlace}
set_option maxRecDepth 100000 in
theorem openPlay (hv : Value.okWide Tryz.prog w r b0 31 v) (h : DataW.Trod enc Tryz.prog w base (fun _ => true) held 31 v d p) :
  ∃ (A1 A2 : Option Addr) (n1 c1 n2 c2 : Nat) (pg n f bk ev lim : Int) (l : List Ru) (us : List (Int × Int)), v = .agg #[.int .i64 pg, .int .i64 n, .int .i64 f, .int .i64 bk, .int .i64 ev, .int .i64 lim, .slice A1 n1 c1, .slice A2 n2 c2] ∧
   l.length = n1 ∧ Rd w w.heap.size A1 (fl ruC l) ∧ (A1 = none → c1 = 0) ∧ us.length = n2 ∧ n2 ≤ maxLen ∧ Rd w w.heap.size A2 (fl acC us) ∧ (∀ x ∈ us, 0 ≤ x.1 ∧ x.1 ≤ 255 ∧ -9223372036854775808 ≤ x.2 ∧ x.2 ≤ 9223372036854775807) ∧ -9223372036854775808 ≤ lim ∧ lim ≤ 9223372036854775807 := by
 obtain ⟨r0, r1, r2, r3, hru, hrone, rt0, rt1, rt2, rt3⟩ := ruStruct
 obtain ⟨f0, f1, hs, hone, t0, t1⟩ := acStruct
 obtain ⟨cs, rfl, hsz⟩ := okWide_struct Tryz.underlying31 hv
 obtain ⟨l⟩ := cs
 obtain ⟨fuel, hf⟩ := h
 obtain ⟨xs, m, _, hx, hl, hlen, hg⟩ := DataW.trod_struct Tryz.underlying31 hf
 rw [plyCells] at hsz
 match l, hsz with
 | [c0, c1, c2, c3, c4, c5, c6, c7], _ =>
  have g0 : DataW.trod enc Tryz.prog w base (fun _ => true) held m 25 [c0, c1, c2, c3, c4] = xs[0]? := by have := hg 0 _ rfl; simpa [Value.cells, planCells] using this
  have g1 : DataW.trod enc Tryz.prog w base (fun _ => true) held m 3 [c5] = xs[1]? := by have := hg 1 _ rfl; simpa [Value.cells, planCells, intCells] using this
  have g2 : DataW.trod enc Tryz.prog w base (fun _ => true) held m 28 [c6] = xs[2]? := by have := hg 2 _ rfl; simpa [Value.cells, planCells, intCells, plCells] using this
  have g3 : DataW.trod enc Tryz.prog w base (fun _ => true) held m 29 [c7] = xs[3]? := by have := hg 3 _ rfl; simpa [Value.cells, planCells, intCells, plCells, acsCells] using this
  match xs, hlen with
  | [y0, y1, y2, y3], _ =>
   obtain ⟨pg, n, f, b, ev, e0⟩ := planOf (g0.trans rfl)
   obtain ⟨n1, e1, _, w1⟩ := DataW.trod_int Tryz.underlying3 (g1.trans rfl)
   have g2' : DataW.trod enc Tryz.prog w base (fun _ => true) held m 28 [c6] = some y2 := g2.trans rfl
   obtain ⟨zs, m2, _, hx2, hl2, hlen2, hg2⟩ := DataW.trod_struct Tryz.underlying28 g2'
   have g4 : DataW.trod enc Tryz.prog w base (fun _ => true) held m2 26 [c6] = zs[0]? := by have := hg2 0 _ rfl; simpa [Value.cells, rusCells] using this
   match zs, hlen2 with
   | [z0], _ =>
    obtain ⟨A4, n4, k4, L, rfl, u1, u2, u3, u4⟩ := openR Tryz.underlying26 hru hrone (by kernel_rfl) (by rw [rt0]; exact Tryz.underlying3) (by rw [rt1]; exact Tryz.underlying3) (by rw [rt2]; exact Tryz.underlying3) (by rw [rt3]; exact Tryz.underlying3) (g4.trans rfl)
    obtain ⟨A5, n5, k5, U, rfl, q1, q2, q3, q4⟩ := openA Tryz.underlying29 hs hone (by kernel_rfl) (by rw [t0]; exact Tryz.underlying5) (by rw [t1]; exact Tryz.underlying3) (g3.trans rfl)
    simp only [List.cons.injEq, and_true] at e0 e1
    obtain ⟨rfl, rfl, rfl, rfl, rfl⟩ := e0
    subst e1
    have hw : -9223372036854775808 ≤ n1 ∧ n1 ≤ 9223372036854775807 := by
     simp [Lit.wf, IntKind.min, IntKind.max, IntKind.signed, IntKind.bits] at w1
     omega
    exact ⟨A4, A5, n4, k4, n5, k5, pg, n, f, b, ev, n1, L, U, rfl, u1, u3, u4, q1, q2, q3, q4, hw.1, hw.2⟩
end
end Go.Proofs.YtjmmgoijnhnnaaaGreat
namespace Go.Pol
open Go Go.RowKit
abbrev twC (ps pb : Option Addr) (r : Cr) (v : Value) : Array Value := #[.pointer ps, .pointer pb, .int .i64 r.pg, .int .i64 r.n, .int .i64 r.f, .int .i64 r.bk, .int .i64 r.ev, .int .i64 r.node, .int .i64 r.live, v, .bool r.cl,
 .pointer none, .pointer none, .int .i64 0, .int .i64 0, .int .i64 0, .int .i64 0, .int .i64 0, .int .i64 0, .int .i64 0, .slice none 0 0, .bool false]
def putT (W : World) (g : Nat) (r : Cr) (v : Value) : World :=
 ((((((((W.setCell ⟨g, 2, none⟩ (.int .i64 r.pg)).setCell ⟨g, 3, none⟩ (.int .i64 r.n)).setCell ⟨g, 4, none⟩ (.int .i64 r.f)).setCell ⟨g, 5, none⟩ (.int .i64 r.bk)).setCell ⟨g, 6, none⟩ (.int .i64 r.ev)).setCell ⟨g, 7, none⟩ (.int .i64 r.node)).setCell ⟨g, 8, none⟩ (.int .i64 r.live)).setCell ⟨g, 9, none⟩ v).setCell ⟨g, 10, none⟩ (.bool r.cl)
theorem putT_blk {W : World} {g : Nat} {t : TypeId} {a b a0 a1 a2 a3 a4 a5 a6 a7 a8 b0 b1 b2 b3 b4 b5 b6 b7 b8 b9 b10 : Value} (h : Blk W g t #[a, b, a0, a1, a2, a3, a4, a5, a6, a7, a8, b0, b1, b2, b3, b4, b5, b6, b7, b8, b9, b10]) (r : Cr) (v : Value) :
  Blk (putT W g r v) g t #[a, b, .int .i64 r.pg, .int .i64 r.n, .int .i64 r.f, .int .i64 r.bk, .int .i64 r.ev, .int .i64 r.node, .int .i64 r.live, v, .bool r.cl, b0, b1, b2, b3, b4, b5, b6, b7, b8, b9, b10] := by
 have := ((((((((h.set_ 2 (.int .i64 r.pg)).set_ 3 (.int .i64 r.n)).set_ 4 (.int .i64 r.f)).set_ 5 (.int .i64 r.bk)).set_ 6 (.int .i64 r.ev)).set_ 7 (.int .i64 r.node)).set_ 8 (.int .i64 r.live)).set_ 9 v).set_ 10 (.bool r.cl)
 simpa [putT] using this
theorem putT_far (W : World) (g : Nat) (r : Cr) (v : Value) : Far (fun k => k = g) W (putT W g r v) :=
 (((((((((Far.refl (fun k => k = g) W).setCell (p := ⟨g, 2, none⟩) (fun _ => rfl) _).setCell (p := ⟨g, 3, none⟩) (fun _ => rfl) _).setCell (p := ⟨g, 4, none⟩) (fun _ => rfl) _).setCell (p := ⟨g, 5, none⟩) (fun _ => rfl) _).setCell (p := ⟨g, 6, none⟩) (fun _ => rfl) _).setCell (p := ⟨g, 7, none⟩) (fun _ => rfl) _).setCell (p := ⟨g, 8, none⟩) (fun _ => rfl) _).setCell (p := ⟨g, 9, none⟩) (fun _ => rfl) _).setCell (p := ⟨g, 10, none⟩) (fun _ => rfl) _
structure PlyAt (W : World) (N y bs bb : Nat) (V : Vm) (L : List Nd) (r : Cr) : Prop where
 sys : SysIs W bs V
 bud : BudIs W bb L
 two : ∃ (A : Option Addr) (cap : Nat), Blk W y 49 (twC (some ⟨bs, 0, none⟩) (some ⟨bb, 0, none⟩) r (.slice A r.kept.length cap)) ∧ KeptAt W A r.kept ∧ r.kept.length ≤ cap ∧ cap ≤ maxLen
 lo : N ≤ y ∧ N ≤ bs ∧ N + 1 ≤ bb
 inv : CmI V L r
theorem PlyAt.call {W W' : World} {N y bs bb : Nat} {V : Vm} {L : List Nd} {r : Cr} (h : PlyAt W N y bs bb V L r) (hb : Below W.heap.size W W') : PlyAt W' N y bs bb V L r := by
 obtain ⟨A, cap, k, hk, h1, h2⟩ := h.two
 exact ⟨h.sys.call hb, h.bud.call hb, ⟨A, cap, k.call hb, hk.call hb, h1, h2⟩, h.lo, h.inv⟩
theorem child_cm {l : Int} (h : (childB (newB 4096) l).1 = 0) : BudOk (childB (newB 4096) l).2 ∧ (childB (newB 4096) l).2.length = 2 ∧ ((childB (newB 4096) l).2.getD 0 nd0).own = 0 ∧ ((childB (newB 4096) l).2.getD 1 nd0).own = 0 := by
 refine ⟨childB_ok (by decide), ?_⟩
 unfold childB at h ⊢
 split at h
 ·exact absurd h (by decide)
 ·rename_i h1
  rw [if_neg h1]
  exact ⟨rfl, rfl, rfl⟩
end Go.Pol
namespace Go.Proofs.YtjmmgoijnhnnaaaGreat
open Go Go.Proofs Go.RowKit Go.Pol Go.Shelf
attribute [local go_sem] Oper.semAt_some Go.Pol.wide_fn Go.Pol.wide_depth Go.Pol.wide_fn' Go.Pol.wide_depth'
theorem openC_ok {V : Vm} {L : List Nd} {pg n f bk ev : Int} (hP : Plain V) (h0 : ∀ p, kd V p = 0) (hL : BudOk L) (h2 : L.length = 2) (hr : (L.getD 0 nd0).own = 0) (h1 : (L.getD 1 nd0).own = 0) (he : (openC V pg n f bk ev 1).2.1 = 0) :
  CmI (openC V pg n f bk ev 1).2.2 L (openC V pg n f bk ev 1).1 ∧ (openC V pg n f bk ev 1).1 = ⟨pg, n, f, bk, ev, 1, 0, [], false⟩ := by
 unfold openC at he ⊢
 dsimp only at he ⊢
 by_cases c1 : chkCm ⟨pg, n, f, bk, ev, 1, 0, [], false⟩ ≠ 0
 ·rw [if_pos c1] at he; exact absurd he c1
 rw [if_neg c1] at he ⊢
 have ho := chkCm_zero.1 (by simpa using c1)
 by_cases c2 : (bec V pg n 0 0 1).1 ≠ 0
 ·rw [if_pos c2] at he; exact absurd he c2
 rw [if_neg c2] at he ⊢
 have hck : chkG pg n f bk ev = 0 := chkG_zero.2 ho.plan
 rw [hck] at he ⊢
 by_cases c3 : (placeG (bec V pg n 0 0 1).2 0 (guardsF pg n f bk ev)).2.1 = 0
 ·rw [if_pos c3]
  exact ⟨CmI.open hP h0 hL h2 hr h1 ho (guards_set ho.plan) (by simpa using c2) c3, rfl⟩
 ·rw [if_neg c3] at he
  split at he
  ·split at he <;> exact absurd he c3
  ·exact absurd he c3
set_option maxRecDepth 100000 in
set_option maxHeartbeats 3200000 in
theorem played_any (A1 A2 : Option Addr) (n1 c1 n2 c2 : Nat) (pg n f bk ev lim : Int) (l : List Ru) (w : World) (hl : l.length = n1) (hm : n1 ≤ 1000) (hz : A1 = none → c1 = 0) (hr : Rd w w.heap.size A1 (fl ruC l)) :
  Calls Tryz.prog 12 #[.agg #[.int .i64 pg, .int .i64 n, .int .i64 f, .int .i64 bk, .int .i64 ev, .int .i64 lim, .slice A1 n1 c1, .slice A2 n2 c2]] w fun e w' =>
   (e = .returned (.tuple #[.pointer none, .int .i64 2]) ∨ ∃ y bs bb V L, e = .returned (.tuple #[.pointer (some ⟨y, 0, none⟩), .int .i64 0]) ∧ PlyAt w' w.heap.size y bs bb V L ⟨pg, n, f, bk, ev, 1, 0, [], false⟩) ∧ Below w.heap.size w w' := by
 have hb0 := (Below.refl w.heap.size w).alloc (Nat.le_refl _) (.cells #[.int .i64 pg, .int .i64 n, .int .i64 f, .int .i64 bk, .int .i64 ev, .int .i64 lim, .slice A1 n1 c1, .slice A2 n2 c2] 31)
 have k0 := Blk.new w 31 #[.int .i64 pg, .int .i64 n, .int .i64 f, .int .i64 bk, .int .i64 ev, .int .i64 lim, .slice A1 n1 c1, .slice A2 n2 c2]
 have hr0 := hr.on_ hb0
 have HN := Lib.hid (fun W h => newR_any A1 n1 c1 l W hl hm hz h)
 obtain ⟨s, hs⟩ : ∃ s, w.heap.size = s := ⟨_, rfl⟩
 rw [hs] at k0
 clear hl hz hr
 go_enter Tryz.func12, Tryz.ntmps12
 go_upto_region 1 with fail
 generalize w.alloc _ = w0 at *
 try simp only [hs]
 have hba := (Below.refl w0.heap.size w0).alloc (Nat.le_refl _) (.cells (twC none none cr0 (.slice none 0 0)) 49)
 have ky := Blk.new w0 49 (twC none none cr0 (.slice none 0 0))
 dsimp only [twC, cr0] at hba ky
 have k1 := k0.call hba
 have hr1 := hr0.on_ hba
 have B1 := hb0.trans (hba.mono hb0.size)
 obtain ⟨y, hy⟩ : ∃ y, w0.heap.size = y := ⟨_, rfl⟩
 have hyw : w.heap.size ≤ y := by rw [← hy]; exact hb0.size
 rw [hy] at ky
 go_upto_region 2 with fail
 generalize w0.alloc _ = w1 at *
 try simp only [hy]
 have c1' := k1.cell
 clear k0 hr0 hba hb0
 go_wp2_with fail
 refine (HN.out _ hr1).mono ?_
 rintro e w2 ⟨hcase, hb2⟩
 have B2 := B1.trans (hb2.mono B1.size)
 have hby := hb2.size
 have ky2 := ky.call hb2
 have k2 := k1.call hb2
 have cy2 := ky2.cell
 have fy2 := ky2.frozen
 rcases hcase with ⟨h0, rfl⟩ | ⟨h0, bs, rfl, hV, hbs⟩
 ·have d0 : ((chkR l).2 != 0) = true := by simpa using h0
  have B3 := B2.setCell (p := ⟨y, 0, none⟩) (by show w.heap.size ≤ y; omega) (.pointer none)
  clear h0 ky k1 hr1 hb2 HN
  go_wp2_with fail
  go_ret2
  exact ⟨.inl rfl, B3⟩
 have hbs' : w.heap.size ≤ bs := Nat.le_trans B1.size hbs
 have B3 := B2.setCell (p := ⟨y, 0, none⟩) (by show w.heap.size ≤ y; omega) (.pointer (some ⟨bs, 0, none⟩))
 have F3 : Far (fun k => k = y) w2 (w2.setCell ⟨y, 0, none⟩ (.pointer (some ⟨bs, 0, none⟩))) := Far.setCell (T := fun k => k = y) (p := ⟨y, 0, none⟩) (Far.refl _ w2) (fun _ => rfl) _
 have ky3 := ky2.set_ 0 (.pointer (some ⟨bs, 0, none⟩))
 obtain ⟨cv, hcv⟩ := hV.typed
 have hyb : y ≠ bs := fun e => by subst e; exact ky2.ne hcv (by decide)
 have V3 := hV.far F3 (fun e => hyb e.symm) (fun _ _ _ _ _ _ q _ _ _ ⟨_, hq⟩ e => by have e : q = y := e; rw [e] at hq; exact hq.ne ky2 (by decide))
 have k3 := F3.blk k2 (fun e => by have e : s = y := e; rw [e] at k2; exact k2.ne ky2 (by decide))
 have hP0 : Hid (Plain (planF newVm l) ∧ (∀ p, kd (planF newVm l) p = 0)) := Lib.hid (by rw [newR_sys l h0]; exact ⟨newVm_plain.pg rfl, fun p => rfl⟩)
 have hK0 : Hid (KindOk (planF newVm l)) := Lib.hid (by rw [newR_sys l h0]; exact newVm_kind)
 generalize planF newVm l = V0 at *
 have d0 : ((0 : Int) != 0) = false := rfl
 clear ky k1 hr1 hb2 HN hV hcv h0
 go_upto_region 6 with fail
 generalize w2.setCell ⟨y, 0, none⟩ _ = w3 at *
 simp only [List.setIfInBounds_toArray, List.set_cons_zero] at ky3
 clear ky2 k2 cy2 fy2 F3 B2 B1 c1'
 go_wp2_with fail
 refine (newB_any 4096 w3).mono ?_
 rintro e w4 ⟨he, hb4⟩
 rw [if_neg (by decide)] at he
 obtain ⟨bb, rfl, hbb, hB4⟩ := he
 have V4 := V3.call hb4
 have ky4 := ky3.call hb4
 have k4 := k3.call hb4
 have B4 := B3.trans (hb4.mono B3.size)
 have hb3s := B3.size
 have cy4 := ky4.cell
 have fy4 := ky4.frozen
 clear V3 ky3 k3 B3 hb4
 go_upto_region 9 with fail
 have B5 := B4.setCell (p := ⟨y, 1, none⟩) (by show w.heap.size ≤ y; omega) (.pointer (some ⟨bb, 0, none⟩))
 have F5 : Far (fun k => k = y) w4 (w4.setCell ⟨y, 1, none⟩ (.pointer (some ⟨bb, 0, none⟩))) := Far.setCell (T := fun k => k = y) (p := ⟨y, 1, none⟩) (Far.refl _ w4) (fun _ => rfl) _
 have ky5 := ky4.set_ 1 (.pointer (some ⟨bb, 0, none⟩))
 have V5 := V4.far F5 (fun e => hyb e.symm) (fun _ _ _ _ _ _ q _ _ _ ⟨_, hq⟩ e => by have e : q = y := e; rw [e] at hq; exact hq.ne ky4 (by decide))
 have hB5 := hB4.far F5 (fun e => by obtain ⟨_, _, kq, _⟩ := hB4.ex; have e : bb = y := e; rw [e] at kq; exact kq.ne ky4 (by decide)) (fun q ⟨_, _, hq⟩ e => by have e : q = y := e; rw [e] at hq; exact hq.ne ky4 (by decide))
 have k5 := F5.blk k4 (fun e => by have e : s = y := e; rw [e] at k4; exact k4.ne ky4 (by decide))
 generalize w4.setCell ⟨y, 1, none⟩ _ = w5 at *
 simp only [List.setIfInBounds_toArray, List.set_cons_zero, List.set_cons_succ] at ky5
 have cy5 := ky5.cell
 have c5 := k5.cell
 have HC := child_any bb 4096 lim w5 hB5 (by decide)
 have hch := Lib.hid (child_cm (l := lim))
 obtain ⟨S, hS⟩ : ∃ S, childB (newB 4096) lim = S := ⟨_, rfl⟩
 rw [hS] at HC hch
 obtain ⟨se, sL⟩ := S
 simp only at HC hch
 clear V4 ky4 k4 B4 F5 cy4 fy4 hB4 hS
 go_wp2_with fail
 refine HC.mono ?_
 rintro e w6 ⟨⟨ck, rfl, _⟩, hB6, F6⟩
 have hbT : ∀ g t cs, Blk w5 g t cs → t ≠ 75 → t ≠ 122 → ¬ (g = bb ∨ NdT bb w5 g) := by
  rintro g t cs hg g1 g2 (e | ⟨_, ds, hd⟩)
  ·obtain ⟨_, _, kq, _⟩ := hB5.ex
   rw [e] at hg; exact hg.ne kq g1
  ·exact hg.ne hd g2
 obtain ⟨cv, hcv⟩ := V5.typed
 have V6 := V5.far F6 (hbT _ _ _ hcv (by decide) (by decide)) (fun _ _ _ _ _ _ q _ _ _ ⟨_, hq⟩ => hbT _ _ _ hq (by decide) (by decide))
 have ky6 := F6.blk ky5 (hbT _ _ _ ky5 (by decide) (by decide))
 have k6 := F6.blk k5 (hbT _ _ _ k5 (by decide) (by decide))
 have B6 := B5.trans (F6.below (by have := B5.size; omega) (fun k hk e => by
  rcases e with rfl | ⟨e, _⟩ <;> omega))
 clear V5 ky5 k5 B5 F6 hbT hB5 cy5 c5 hcv HC
 have cy6 := ky6.cell
 have fy6 := ky6.frozen
 have c6 := k6.cell
 by_cases hse : se = 0
 case neg =>
  have d1 : (se != 0) = true := by simpa using hse
  clear hse
  go_wp2_with fail
  go_ret2
  exact ⟨.inl rfl, B6⟩
 subst hse
 have HO := cmOpen_any bs V0 pg n f bk ev 1 w6 V6 hK0.out
 have hok := Lib.hid (openC_ok (pg := pg) (n := n) (f := f) (bk := bk) (ev := ev) hP0.out.1 hP0.out.2 (hch.out rfl).1 (hch.out rfl).2.1 (hch.out rfl).2.2.1 (hch.out rfl).2.2.2)
 unfold planV at HO
 generalize openC V0 pg n f bk ev 1 = S at *
 obtain ⟨sr, se, sV⟩ := S
 simp only at HO hok
 go_wp2_with fail
 refine HO.mono ?_
 rintro e w7 ⟨v7, rfl, ⟨A7, c7, rfl, hl7, hm7, hk7⟩, S7⟩
 dsimp only [crC]
 have hB7 := hB6.far S7.2 (fun e => by obtain ⟨_, _, kq, _⟩ := hB6.ex; obtain ⟨_, hq⟩ := V6.typed; have e : bb = bs := e; rw [e] at kq; exact kq.ne hq (by decide)) (fun q ⟨_, _, hq⟩ e => by obtain ⟨_, hc⟩ := V6.typed; have e : q = bs := e; rw [e] at hq; exact hq.ne hc (by decide))
 have ky7 := S7.blk V6 ky6 (by decide)
 have B7 := B6.trans (S7.2.below B6.size (fun k hk e => by have e : k = bs := e; omega))
 have cy7 := ky7.cell
 have fy7 := ky7.frozen
 have V7 := S7.1
 clear V6 ky6 k6 B6 hB6 cy6 fy6 c6 S7 HO
 by_cases hse : se = 0
 case neg =>
  have d1 : (se != 0) = true := by simpa using hse
  clear hse
  go_upto_region 13 with fail
  have B8 := B7.trans ((putT_far w7 y sr (.slice A7 sr.kept.length c7)).below B7.size (fun k hk e => by have e : k = y := e; omega))
  change Code.wp _ _ _ _ (putT w7 y sr (.slice A7 sr.kept.length c7))
  generalize putT w7 y sr (.slice A7 sr.kept.length c7) = w8 at *
  go_wp2_with fail
  go_ret2
  exact ⟨.inl rfl, B8⟩
 subst hse
 go_upto_region 13 with fail
 have F8 := putT_far w7 y sr (.slice A7 sr.kept.length c7)
 have B8 := B7.trans (F8.below B7.size (fun k hk e => by have e : k = y := e; omega))
 have ky8 := putT_blk ky7 sr (.slice A7 sr.kept.length c7)
 have V8 := V7.far F8 (fun e => hyb e.symm) (fun _ _ _ _ _ _ q _ _ _ ⟨_, hq⟩ e => by have e : q = y := e; rw [e] at hq; exact hq.ne ky7 (by decide))
 have hB8 := hB7.far F8 (fun e => by obtain ⟨_, _, kq, _⟩ := hB7.ex; have e : bb = y := e; rw [e] at kq; exact kq.ne ky7 (by decide)) (fun q ⟨_, _, hq⟩ e => by have e : q = y := e; rw [e] at hq; exact hq.ne ky7 (by decide))
 have hk8 := hk7.far F8 (fun g cs hG e => by have e : g = y := e; rw [e] at hG; exact hG.ne ky7 (by decide))
 change Code.wp _ _ _ _ (putT w7 y sr (.slice A7 sr.kept.length c7))
 generalize putT w7 y sr (.slice A7 sr.kept.length c7) = w8 at *
 clear cy7 fy7 ky7 V7 hB7 F8 B7 hk7
 go_wp2_with fail
 go_ret2
 have hbbw : w.heap.size + 1 ≤ bb := by omega
 obtain ⟨hI, hre⟩ := hok.out trivial
 rw [hs] at B8 hyw hbs' hbbw
 refine ⟨.inr ⟨y, rfl, bs, bb, sV, sL, ?_⟩, B8⟩
 rw [← hre]
 exact ⟨V8, hB8, ⟨A7, c7, ky8, hk8, hl7, hm7⟩, ⟨hyw, hbs', hbbw⟩, hI⟩
end Go.Proofs.YtjmmgoijnhnnaaaGreat
