/- Walks of layer 12 (commit): what the laws ask of a range, its system and its budgets after each call. -/
import Derived.Test.YtjmmgoijnhnnaaaGreatT33
namespace Go.Pol
open Go Go.RowKit
def TwR (y bs bb : Nat) (r : Cr) (v : Value) (W : World) : Prop := W.cell? ⟨y, 0, none⟩ = some (.pointer (some ⟨bs, 0, none⟩)) ∧ W.cell? ⟨y, 1, none⟩ = some (.pointer (some ⟨bb, 0, none⟩)) ∧ W.cell? ⟨y, 2, none⟩ = some (.int .i64 r.pg) ∧ W.cell? ⟨y, 3, none⟩ = some (.int .i64 r.n) ∧ W.cell? ⟨y, 4, none⟩ = some (.int .i64 r.f) ∧ W.cell? ⟨y, 5, none⟩ = some (.int .i64 r.bk) ∧ W.cell? ⟨y, 6, none⟩ = some (.int .i64 r.ev) ∧ W.cell? ⟨y, 7, none⟩ = some (.int .i64 r.node) ∧ W.cell? ⟨y, 8, none⟩ = some (.int .i64 r.live) ∧ W.cell? ⟨y, 9, none⟩ = some v ∧ W.cell? ⟨y, 10, none⟩ = some (.bool r.cl)
theorem TwR.of {y bs bb : Nat} {r : Cr} {v : Value} {W : World} {t : TypeId} (h : Blk W y t (twC (some ⟨bs, 0, none⟩) (some ⟨bb, 0, none⟩) r v)) : TwR y bs bb r v W :=
 ⟨h.cell 0, h.cell 1, h.cell 2, h.cell 3, h.cell 4, h.cell 5, h.cell 6, h.cell 7, h.cell 8, h.cell 9, h.cell 10⟩
end Go.Pol
namespace Go.Proofs.YtjmmgoijnhnnaaaGreat
open Go Go.Proofs Go.RowKit Go.Pol Go.Shelf
attribute [local go_sem] Oper.semAt_some Go.Pol.wide_fn Go.Pol.wide_depth Go.Pol.wide_fn' Go.Pol.wide_depth'
set_option maxRecDepth 100000 in
set_option maxHeartbeats 3200000 in
theorem fit_any (N y bs bb : Nat) (V : Vm) (L : List Nd) (r : Cr) (w : World) (h : PlyAt w N y bs bb V L r) :
  Calls Tryz.prog 30 #[.pointer (some ⟨y, 0, none⟩)] w fun e w' => e = .returned (.bool true) ∧ Below w.heap.size w w' := by
 have HU := Lib.hid (fun W h1 => usedB_any bb 1 L W h1 h.inv.bok (by rw [h.inv.two]; decide))
 have HCt := Lib.hid (fun W h1 => countsV_any bs V W h1 h.inv.kindOk)
 rw [h.inv.own, show ((1 : Nat) : Int) = 1 from rfl] at HU
 have hn2 := numsV_cm V
 obtain ⟨c, hc⟩ : ∃ c, cmN V = c := ⟨_, rfl⟩
 have hmany := h.inv.many
 rw [hc] at HU hn2 hmany
 have hn2H := Lib.hid hn2
 have hmanyH := Lib.hid hmany
 clear hn2 hc hmany
 obtain ⟨A, cap, ky, hk, hl, hm⟩ := h.two
 have hV := h.sys
 have hB := h.bud
 have hinv := Lib.hid h.inv
 have cy := ky.cell
 clear h
 go_enter Tryz.func30, Tryz.ntmps30
 go_wp2_with fail
 refine (HU.out _ hB).mono ?_
 rintro e w1 ⟨rfl, hb1⟩
 have ky1 := ky.call hb1
 have hk1 := hk.call hb1
 have V1 := hV.call hb1
 have cy1 := ky1.cell
 clear ky hk hV hB HU cy
 go_wp2_with fail
 refine (HCt.out _ V1).mono ?_
 rintro e w2 ⟨rfl, hb2⟩
 have B2 := hb1.trans (hb2.mono hb1.size)
 have ky2 := ky1.call hb2
 have hk2 := hk1.call hb2
 have V2 := V1.call hb2
 clear ky1 hk1 V1 hb1 hb2 HCt cy1
 obtain ⟨g, hg⟩ : ∃ g, w2.heap.size = g := ⟨_, rfl⟩
 have kn := Blk.new w2 106 (numsA V 1024)
 have hba := (Below.refl w2.heap.size w2).alloc (Nat.le_refl _) (.cells (numsA V 1024) 106)
 rw [hg] at kn
 have ky3 := ky2.call hba
 have hk3 := hk2.call hba
 have V3 := V2.call hba
 have B3 := B2.trans (hba.mono B2.size)
 clear ky2 hk2 V2 B2 hba
 go_upto_region 3 with fail
 generalize w2.alloc _ = w3 at *
 try simp only [hg]
 have cy3 := ky3.cell
 have n0 : w3.cell? ⟨g, 0, none⟩ = some (.int .i64 (numsV V 1024 0)) := kn.cell 0
 have n2 : w3.cell? ⟨g, 2, none⟩ = some (.int .i64 (numsV V 1024 2)) := kn.cell 2
 rw [hn2H.out] at n2
 by_cases hrn : r.n = 0
 ·obtain ⟨rfl, hfr, _, _⟩ := hinv.out.closed (by omega)
  have hf0 := numsV_free hfr 1024
  rw [show ((1024 : Nat) : Int) = 1024 from rfl] at hf0
  rw [hf0] at n0
  clear hf0
  have hz : ((cr0.n == 0) = true) := rfl
  go_wp2_with fail
  go_ret
  exact ⟨rfl, B3⟩
 have hne : (r.n == 0) = false := by simpa using hrn
 have ho : CrOk r := by
  rcases hinv.out.kept with h | h
  ·rw [h] at hrn; exact absurd rfl hrn
  ·exact h
 have HF := Lib.hid (fun W h1 h2 => fits_any bs V r A cap W h1 hinv.out.kindOk hl hm h2)
 rw [hinv.out.fits ho] at HF
 have HCk := Lib.hid (fun W h1 => cmCheck_any r A cap W hl hm h1)
 rw [chkCm_zero.2 ho] at HCk
 have hpos := Lib.hid (fun x hx => Int.le_trans (by decide : (0 : Int) ≤ 1) ((vld_iff.1 (ho.can.1 x hx)).2.2.1))
 have hl0 := ho.live0
 have hl1 := Int.le_trans ho.live1 ho.us1
 have hsum24 : sumS r.kept ≤ 1024 := by
  have := cnt_mem ho.can
  have := (cntN_bound (fun q => mem q r.kept) 1024 0).2
  omega
 have hkl : r.kept.length ≤ maxLen := Nat.le_trans hl hm
 clear hrn ho kn
 go_upto_region 7 with fail
 clear n0 n2
 have hbd := (Below.refl w3.heap.size w3).drew
 have V4 := V3.call hbd
 have ky4 := ky3.call hbd
 have hk4 := hk3.call hbd
 have B4 := B3.trans (hbd.mono B3.size)
 refine wp_noPanic ?_
 refine wp_region_T (TwR y bs bb r (.slice A r.kept.length cap)) [] (by kernel_rfl) ?_
 generalize w3.drew = wd at *
 have hS := TwR.of ky4
 dsimp only [TwR] at hS ⊢
 clear V3 ky3 hk3 B3 cy3 hbd
 refine tkQ 0 hS ?_
 try simp only [Act.put, qsA, qsB, qsC]
 refine tkQ 1 hS ?_
 try simp only [Act.put, qsA, qsB, qsC]
 refine tkQ 2 hS ?_
 try simp only [Act.put, qsA, qsB, qsC]
 refine tkQ 3 hS ?_
 try simp only [Act.put, qsA, qsB, qsC]
 refine tkQ 4 hS ?_
 try simp only [Act.put, qsA, qsB, qsC]
 refine tkQ 5 hS ?_
 try simp only [Act.put, qsA, qsB, qsC]
 refine tkQ 6 hS ?_
 try simp only [Act.put, qsA, qsB, qsC]
 refine tkQ 7 hS ?_
 try simp only [Act.put, qsA, qsB, qsC]
 refine tkR 8 fun K hK => ?_
 go_simp
 refine ((HF.out wd V4 hk4)).mono ?_
 rintro (e w5 ⟨rfl, hb5⟩)
 refine hK.out _ _ (fun _ => TwR.of (ky4.call hb5)) (fun hS => ?_)
 clear hK K
 replace hS := hS rfl
 refine tkQ 9 hS ?_
 try simp only [Act.put, qsA, qsB, qsC]
 refine tkQ 10 hS ?_
 try simp only [Act.put, qsA, qsB, qsC]
 refine tkQ 11 hS ?_
 try simp only [Act.put, qsA, qsB, qsC]
 refine tkQ 12 hS ?_
 try simp only [Act.put, qsA, qsB, qsC]
 refine tkQ 13 hS ?_
 try simp only [Act.put, qsA, qsB, qsC]
 refine tkQ 14 hS ?_
 try simp only [Act.put, qsA, qsB, qsC]
 refine tkQ 15 hS ?_
 refine wpAnyT_done (by kernel_rfl) ?_ _
 refine noPanic_normal ?_
 have ky5 := ky4.call hb5
 have hk5 := hk4.call hb5
 have B5 := B4.trans (hb5.mono B4.size)
 have cy5 := ky5.cell
 clear V4 ky4 hk4 B4 hS hb5 HF
 go_wp2_with fail
 refine (HCk.out _ hk5.ru).mono ?_
 rintro e w6 ⟨rfl, hb6⟩
 have ky6 := ky5.call hb6
 have hk6 := hk5.call hb6
 have B6 := B5.trans (hb6.mono B5.size)
 have cy6 := ky6.cell
 clear ky5 hk5 B5 cy5 hb6 HCk
 go_upto_region 12 with fail
 have hlen : Hid (r.kept.length ≤ cap) := Lib.hid hl
 obtain ⟨K, hK⟩ : ∃ K, r.kept = K := ⟨_, rfl⟩
 rw [hK] at hkl hk6 hpos hsum24
 obtain ⟨nk, hnk0⟩ : ∃ nk, K.length = nk := ⟨_, rfl⟩
 have hcy9 : ∀ W : World, W = w6 → W.cell? ⟨y, 9, none⟩ = some (.slice A nk cap) := fun W e => by rw [e, ← hnk0, ← hK]; exact ky6.cell 9
 have hnk := Lib.hid hnk0
 rw [hnk0] at hkl
 have hnkB : nk ≤ 9223372036854775807 := by unfold maxLen at hkl; omega
 clear hkl
 have hsumH := Lib.hid (show c = r.live + sumS K by rw [← hK]; exact hmanyH.out)
 have hru6 := hk6.ru
 have c2 := ky6.cell 8
 have c9 := hcy9 w6 rfl
 clear cy6 ky6 hcy9 hnk0 hl hk6
 generalize r.live = live at *
 go_loopw [10, 11] (fun u10 u11 wr => ∃ (i : Nat) (x : Int), u10 = .int .i64 x ∧ x = live + sumS (K.take i) ∧ u11 = .int .i64 i ∧ i ≤ nk ∧ wr = w6) (fun _ u11 _ => nk - (intOf u11).toNat)
 case atStart => exact ⟨0, live, rfl, by simp [sumS], rfl, by omega, rfl⟩
 case round =>
  obtain ⟨i, x, rfl, hx, rfl, hi, rfl⟩ := hrel
  have hxH := Lib.hid hx
  clear hx
  by_cases hlt : i < nk
  ·have d1 : decide ((i : Int) < (nk : Int)) = true := by simpa using hlt
   obtain ⟨b, o, rfl, hb, hc0, hd0⟩ := hru6.at_' (k := i) (by rw [hnk.out]; exact hlt)
   have hb2 := sumS_part i hpos.out
   have hst := sumS_take K (i := i) (by rw [hnk.out]; exact hlt)
   have hp1 := hpos.out (K.getD i (0, 0)) (by rw [List.getD_eq_getElem?_getD, List.getElem?_eq_getElem (by rw [hnk.out]; exact hlt)]; exact List.getElem_mem _)
   have hb3 := sumS_part (i + 1) hpos.out
   generalize K.getD i (0, 0) = e at *
   have hxb : 0 ≤ x ∧ x ≤ 2048 := by have := hxH.out; omega
   have hx2 : Hid (x + e.2 = live + sumS (K.take (i + 1))) := Lib.hid (by rw [hxH.out, hst]; omega)
   have he2 : 0 ≤ e.2 ∧ e.2 ≤ 1024 := by omega
   clear hst hb2 hb3
   go_wp2_with fail
   go_roundw
   case rel => exact ⟨i + 1, x + e.2, by go_num, hx2.out, by go_num, by omega, trivial⟩
   case measure => simp [intOf]; omega
  ·obtain rfl : i = nk := by omega
   have d1 : decide ((i : Int) < (i : Int)) = false := by simp
   have hxc : x = c := by
    rw [hxH.out, hsumH.out, ← hnk.out, List.take_length]
   subst hxc
   go_wp2_with fail
   go_ret
   exact ⟨by simp, B6⟩
end Go.Proofs.YtjmmgoijnhnnaaaGreat
