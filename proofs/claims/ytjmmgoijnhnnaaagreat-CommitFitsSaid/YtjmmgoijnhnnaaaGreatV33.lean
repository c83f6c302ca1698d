/- Walks of layer 10 (account): Save. -/
import Derived.Test.YtjmmgoijnhnnaaaGreatV32
namespace Go.Pol
open Go Go.RowKit
def anC (x : Nd) : List Value := [.int .i64 x.par, .int .i64 x.lim, .int .i64 x.own, .int .i64 x.peak, .bool x.cl]
theorem anC_len (x : Nd) : (anC x).length = 5 := rfl
theorem takeNd_snoc (L : List Nd) (i : Nat) (hi : i < L.length) : L.take (i + 1) = L.take i ++ [L.getD i nd0] := by
 rw [List.take_add_one, List.getElem?_eq_getElem hi, Option.toList_some, List.getD_eq_getElem?_getD, List.getElem?_eq_getElem hi]
 rfl
end Go.Pol
namespace Go.Proofs.YtjmmgoijnhnnaaaGreat
open Go Go.Proofs Go.RowKit Go.Pol Go.Shelf
attribute [local go_sem] Oper.semAt_some Go.Pol.wide_fn Go.Pol.wide_depth Go.Pol.wide_fn' Go.Pol.wide_depth'
theorem infoAn : (Tryz.prog.info? 120).map (fun i => (i.zero, i.size, i.bytes)) = some (some (.agg #[.int .i64 0, .int .i64 0, .int .i64 0, .int .i64 0, .bool false]), 5, 40) := by kernel_rfl
theorem infoAn_parts : ∃ i0, Tryz.prog.info? 120 = some i0 ∧ i0.zero = some (.agg #[.int .i64 0, .int .i64 0, .int .i64 0, .int .i64 0, .bool false]) ∧ i0.size = 5 ∧ i0.bytes = 40 := by
 have h := infoAn
 cases hi : Tryz.prog.info? 120 with
 | none => rw [hi] at h; cases h
 | some i0 =>
  rw [hi] at h
  simp only [Option.map_some, Option.some.injEq, Prod.mk.injEq] at h
  exact ⟨i0, rfl, h.1, h.2.1, h.2.2⟩
set_option maxRecDepth 100000 in
set_option maxHeartbeats 3200000 in
theorem saveB_any (b : Nat) (L : List Nd) (w : World) (hB : BudIs w b L) (hO : L.length ≤ 64) :
  Calls Tryz.prog 32 #[.pointer (some ⟨b, 0, none⟩)] w fun e w' => (∃ (A : Option Addr) (cap : Nat), e = .returned (.agg #[.slice A L.length cap]) ∧ Rd w' w'.heap.size A (fl anC L) ∧ L.length ≤ cap ∧ cap ≤ maxLen) ∧ Below w.heap.size w w' := by
 obtain ⟨s, hs⟩ : ∃ s, w.heap.size = s := ⟨_, rfl⟩
 have hb0 := (Below.refl w.heap.size w).alloc (Nat.le_refl _) (.cells #[.slice none 0 0] 94)
 have k0 := Blk.new w 94 #[.slice none 0 0]
 have hz1 : (w.alloc (.cells #[.slice none 0 0] 94)).heap.size = s + 1 := by simp [hs]
 rw [hs] at k0
 go_enter Tryz.func32, Tryz.ntmps32
 go_upto_region 1 with fail
 generalize w.alloc _ = w0 at *
 try simp only [hs]
 have hb1 := (Below.refl w0.heap.size w0).alloc (Nat.le_refl _) (.cells #[.slice none 0 0] 94)
 have k1 := Blk.new w0 94 #[.slice none 0 0]
 rw [hz1] at k1
 have B1 := hb0.trans (hb1.mono hb0.size)
 have k01 := k0.call hb1
 have hz2 : (w0.alloc (.cells #[.slice none 0 0] 94)).heap.size = s + 2 := by simp [hz1]
 go_upto_region 2 with fail
 generalize w0.alloc _ = w1 at *
 try simp only [hz1]
 have hBH := Lib.hid hB
 have hB1 := hB.call B1
 clear k0 hb0 hb1 hB
 obtain ⟨A0, cap0, kb0, row⟩ := hBH.out.ex
 have kbH := Lib.hid kb0
 have kb := kb0.call B1
 have cb := kb.cell
 have hA0 : ∀ {i : Nat}, i < L.length → ∃ g, A0 = some ⟨g, 0, none⟩ := fun {i} hi => by
  obtain ⟨g, c', _, _, kg, _⟩ := hB1.node hi
  have := (kg.cell 1).symm.trans (kb.cell 1)
  simp at this
  exact ⟨g, this.1.symm⟩
 obtain ⟨n, hn0⟩ : ∃ n, L.length = n := ⟨_, rfl⟩
 have hn := Lib.hid hn0
 rw [hn0] at cb hO hA0
 clear hn0 row kb0
 obtain ⟨i0, hi0, hi1, hi2, hi3⟩ := infoAn_parts
 have hL64 : n ≤ 64 := hO
 go_upto_region 4 with fail
 go_loopw [13] (fun u wr => ∃ (i : Nat) (v : Value), u = .int .i64 i ∧ i ≤ n ∧ Blk wr s 94 #[.slice none 0 0] ∧ Blk wr (s + 1) 94 #[v] ∧ wr.ownsRow (s + 2) 120 5 v i (fl anC (L.take i)) ∧ Below w.heap.size w wr ∧ s + 2 ≤ wr.heap.size) (fun u _ => n - (intOf u).toNat)
 case atStart => exact ⟨0, _, rfl, by omega, k01, k1, World.ownsRow_nil _ _ _ _, B1, by omega⟩
 case round =>
  clear k01 k1 hB1 kb B1 cb
  obtain ⟨i, v, rfl, hi, k0, k1, hrow, hB, hsz⟩ := hrel
  by_cases hlt : i < n
  ·have d1 : decide ((i : Int) < (n : Int)) = true := by simpa using hlt
   obtain ⟨g, rfl⟩ := hA0 hlt
   have hBu := hBH.out.call hB
   obtain ⟨g', c', _, _, kg, _, hgl, hcell, _⟩ := hBu.node (i := i) (by rw [hn.out]; exact hlt)
   have hgg : g' = g := by
    have := (kg.cell 1).symm.trans ((kbH.out.call hB).cell 1)
    simp at this
    exact this.1
   subst hgg
   have hst := takeNd_snoc L i (by rw [hn.out]; exact hlt)
   have hq : ∀ (q : Nat) (v : Value), (ndC (L.getD i nd0))[q]? = some v → wr.cell? ⟨g', i * 6 + q, none⟩ = some v := hcell i (by rw [hn.out]; exact hlt)
   generalize L.getD i nd0 = x at *
   have q0 := hq 0 _ rfl
   have q1 := hq 1 _ rfl
   have q2 := hq 2 _ rfl
   have q3 := hq 3 _ rfl
   have q4 := hq 4 _ rfl
   have q5 := hq 5 _ rfl
   simp only [Nat.add_zero] at q0
   have ck1 := k1.cell
   clear hq hcell kg hBu
   go_upto_region 6 with fail
   have hba := (Below.refl wr.heap.size wr).alloc (Nat.le_refl _) (.cells #[.int .i64 x.par, .int .i64 x.lim, .int .i64 x.own, .int .i64 x.peak, .bool x.cl, .int .i64 x.all] 122)
   have kx := Blk.new wr 122 #[.int .i64 x.par, .int .i64 x.lim, .int .i64 x.own, .int .i64 x.peak, .bool x.cl, .int .i64 x.all]
   have k02 := k0.call hba
   have k12 := k1.call hba
   have hrow2 := ownsRow_call hrow hba
   have B2 := hB.trans (hba.mono hB.size)
   have hz2 := hba.size
   obtain ⟨gx, hgx⟩ : ∃ gx, wr.heap.size = gx := ⟨_, rfl⟩
   rw [hgx] at kx
   generalize wr.alloc _ = w2 at *
   try simp only [hgx]
   have cx := kx.cell
   have ck2 := k12.cell
   have kN := Blk.new w2 120 (anC x).toArray
   clear q0 q1 q2 q3 q4 q5 ck1 k0 k1 hrow hB hba
   go_upto_region 7 with (at_builtin; refine wpList_append_own _ rfl (.tmp 18) (.tmp 21) 92 rfl (s + 2) 120 i0 (.agg #[.int .i64 0, .int .i64 0, .int .i64 0, .int .i64 0, .bool false]) 5 40 Tryz.underlying92 hi0 hi1 hi2 hi3 rfl (by decide) v i (fl anC (L.take i)) rfl (hrow2.alloc _) ⟨w2.heap.size, 0, none⟩ 1 1 (anC x) rfl rfl (news_list kN) (fun u hu => by simp only [anC, List.mem_cons, List.not_mem_nil, or_false] at hu; rcases hu with rfl | rfl | rfl | rfl | rfl <;> rfl) (by unfold maxLen; omega) (by omega) (by simp; omega) ?_; intro v' w3 hown' hgrow _; rw [← fl_snoc, ← hst] at hown'; obtain ⟨A', cap', rfl, hrd', hn', hm', _, _⟩ := own_Rd hown'; have k03 := (k02.alloc (.cells (anC x).toArray 120)).grown hgrow (fun e => by have := (hrow2.lt s e.symm).1; omega); have k13 := (k12.alloc (.cells (anC x).toArray 120)).grown hgrow (fun e => by have := (hrow2.lt (s + 1) e.symm).1; omega); have ck3 := k13.cell; have fk3 := k13.frozen)
   have F3 : Far (fun k => k = s + 1) w3 (w3.setCell ⟨s + 1, 0, none⟩ (.slice A' (i + 1) cap')) := Far.setCell (T := fun k => k = s + 1) (p := ⟨s + 1, 0, none⟩) (Far.refl _ w3) (fun _ => rfl) _
   have B3 := (B2.alloc B2.size (.cells (anC x).toArray 120)).grown hgrow (by rw [World.size_alloc]; omega) (fun k hk => by have := (hrow2.lt k hk).1; omega)
   have k14 := k13.set_ 0 (.slice A' (i + 1) cap')
   have k04 := F3.blk k03 (by omega)
   have row4 := ownsRow_far hown' F3 (fun g hg => by have := (hown'.lt g hg).1; omega)
   have B4 := B3.trans (F3.below B3.size (fun k hk e => by omega))
   have hz3 := hgrow.size
   rw [World.size_alloc] at hz3
   have hz4 := F3.size
   generalize w3.setCell _ _ = w4 at *
   go_wp2_with fail
   go_roundw
   case rel => exact ⟨i + 1, _, by go_num, by omega, k04, k14, row4, B4, by omega⟩
   case measure => simp [intOf]; omega
  ·obtain rfl : i = n := by omega
   have d1 : decide ((i : Int) < (i : Int)) = false := by simp
   obtain ⟨A', cap', rfl, hrd', hn', hm', _, _⟩ := own_Rd hrow
   have c1 := k1.cell
   have c0 := k0.cell
   have f0 := k0.frozen
   have k05 := k0.set_ 0 (.slice A' i cap')
   have F5 : Far (fun k => k = s) wr (wr.setCell ⟨s, 0, none⟩ (.slice A' i cap')) := Far.setCell (T := fun k => k = s) (p := ⟨s, 0, none⟩) (Far.refl _ wr) (fun _ => rfl) _
   have B5 := hB.trans (F5.below hB.size (fun k hk e => by omega))
   have row5 := ownsRow_far hrow F5 (fun g hg => by have := (hrow.lt g hg).1; omega)
   go_wp2_with fail
   generalize wr.setCell _ _ = w5 at *
   have c5 := k05.cell
   refine bodyPost_ret (v := .agg #[.slice A' i cap']) (by simp [results, Tryz.results32, go_sem, c5]) rfl ?_
   obtain ⟨A2, cap2, he, hrd2, hn2, hm2, _, _⟩ := own_Rd row5
   cases he
   rw [List.take_of_length_le (by rw [hn.out]; exact Nat.le_refl _)] at hrd2
   refine ⟨⟨A', cap', by rw [hn.out], hrd2, by rw [hn.out]; exact hn2, hm2⟩, B5⟩
end Go.Proofs.YtjmmgoijnhnnaaaGreat
