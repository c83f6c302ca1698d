/- Merged texts. Walks of the reference of layer 5: is a state one; a plan begun; the next call. Walks of the reference of layer 6: is a page one; are pages of a kind; pages put anew. Walks of the reference of layer 6: a call counted, and perhaps refused; changes of pages. Walks of the reference of layer 6: Write, Join, Split, Plan, New. Walks of the reference of layer 6: Plan, New. Walks of the reference of layer 6: the two regions of Save that draw their order, over any slots. Walks of layer 24 over a system: a place left. Walks of layer 24 over a system: a list of spans turned round. -/
import Derived.Test.YtpabnbhbcphfiaaGreatP6
namespace Go.Proofs.YtpabnbhbcphfiaaGreat
open Go Go.Proofs Go.RowKit Go.Pol Go.Shelf
attribute [local go_sem] Oper.semAt_some Go.Pol.wide_fn Go.Pol.wide_depth Go.Pol.wide_fn' Go.Pol.wide_depth'

set_option maxRecDepth 100000 in
set_option maxHeartbeats 1600000 in
theorem rcheckState_any (A : Option Addr) (n cap : Nat) (S : Rf) (w : World) (hS : RfOk S) (hn : S.rules.length = n) (hr : Rd w w.heap.size A (fl ruC S.rules)) :
    Calls Tryz.prog 233 #[rfV (.slice A n cap) S.calls S.hits] w fun e w' => e = .returned (.int .i64 0) ∧ Below w.heap.size w w' := by
  obtain ⟨l, cs, hs⟩ := S
  obtain ⟨h1, h2, h3⟩ := hS
  simp only at h1 h2 h3 hn hr
  simp only
  obtain ⟨hlen, hok⟩ := chkR_zero.1 h1
  have hn50 : n ≤ 50 := by omega
  have HC := Lib.hid (fun W h => rplanCheck_any A n cap l W hn h)
  rw [h1] at HC
  generalize (chkR l).1 = ci at *
  have hb0 := (Below.refl w.heap.size w).alloc (Nat.le_refl _) (.cells (rfC (.slice A n cap) cs hs).toArray 51)
  have k0 := Blk.new w 51 (rfC (.slice A n cap) cs hs).toArray
  have r0 := hr.on_ hb0
  obtain ⟨s, hsz⟩ : ∃ s, w.heap.size = s := ⟨_, rfl⟩
  have hh2 := Lib.hid h2
  have hh3 := Lib.hid h3
  have hok' := Lib.hid hok
  have hn' := Lib.hid hn
  clear hr h1 h2 h3 hok hn
  unfold rfV rfC
  unfold rfC at hb0 k0 r0
  go_enter Tryz.func233, Tryz.ntmps233
  go_upto_region 1 with fail
  generalize w.alloc _ = w0 at *
  rw [hsz] at hb0 k0
  try simp only [hsz]
  have hsz' := Lib.hid hsz
  clear hsz
  have c0 := k0.cell
  go_wp2_with fail
  refine (HC.out _ r0).mono ?_
  rintro e w1 ⟨rfl, hb1⟩
  have k1 : Blk w1 s 51 (rfC (.slice A n cap) cs hs).toArray := k0.call hb1
  have r1 := r0.on_ hb1
  have B1 := hb0.trans (hb1.mono (by have := hb0.size; have := hsz'.out; omega))
  clear c0 k0 r0 hb0 hb1 HC
  go_wp2_with fail
  go_loopw [5] (fun u wr => ∃ j : Nat, j ≤ 7 ∧ u = .int .i64 j ∧ wr = w1) (fun u _ => 7 - (intOf u).toNat)
  case atStart => exact ⟨0, by omega, rfl, rfl⟩
  case round =>
    obtain ⟨j, hj, rfl, hw⟩ := hrel
    have hw' := hw.symm
    clear hw
    subst hw'
    by_cases hlt : j < 7
    · have hlt' : decide ((j : Int) < 7) = true := by simp; omega
      have hin : (j : Int) < 7 := by omega
      have hca := hh2.out j hlt
      have hcell := (k1.cell (1 + j)).trans (rfC_calls (.slice A n cap) cs hs hlt)
      have HI := in_any (cs j) 0 1000000 w1
      rw [inB_true.2 hca] at HI
      have HI' := Lib.hid HI
      generalize cs j = m at *
      clear HI hca
      go_wp2_with fail
      refine HI'.out.mono ?_
      rintro e9 w9 ⟨rfl, rfl⟩
      go_wp2_with fail
      go_roundw
      case rel => exact ⟨j + 1, by omega, by go_num, trivial⟩
      case measure => simp [intOf]; omega
    · obtain rfl : j = 7 := by omega
      have hlt' : decide (((7 : Nat) : Int) < 7) = false := by simp
      go_wp2_with fail
      go_loopw [6] (fun u wr => ∃ j : Nat, j ≤ 7 ∧ u = .int .i64 j ∧ Below w1.heap.size w1 wr) (fun u _ => 7 - (intOf u).toNat)
      case atStart => exact ⟨0, by omega, rfl, Below.refl _ _⟩
      case round =>
        clear hlt hj hlt'
        obtain ⟨j, hj, rfl, hB⟩ := hrel
        by_cases hlt : j < 7
        · have hlt' : decide ((j : Int) < 7) = true := by simp; omega
          have hin : (j : Int) < 7 := by omega
          have hca := hh2.out j hlt
          have hhi := hh3.out j hlt
          have kr := k1.call hB
          have hcell := (kr.cell (8 + j)).trans (rfC_hits (.slice A n cap) cs hs hlt)
          rw [hhi] at hcell
          have hcellc := (kr.cell (1 + j)).trans (rfC_calls (.slice A n cap) cs hs hlt)
          obtain ⟨m, hm⟩ : ∃ m : Nat, cs j = (m : Int) := ⟨(cs j).toNat, by omega⟩
          rw [hm] at hcell hca hcellc
          simp only [Int.toNat_natCast] at hcell
          have G := Lib.hid (fun z : Ext wr => Ext.call (x := z) (rhits_any A n cap l (j : Int) m z.w hn'.out (by omega) hok'.out (by omega) ((r1.on_ hB).on_ z.le)))
          generalize hitN l (j : Int) m = H at *
          have d3 : (H != H) = false := by simp
          have z0 := fun z : Ext wr => z.cell (show wr.cell? ⟨s, 0, none⟩ = some (.slice A n cap) from (kr.cell 0).trans rfl)
          have zh := fun z : Ext wr => z.cell hcell
          have zc := fun z : Ext wr => z.cell hcellc
          clear hhi hm hcell hcellc kr
          go_upto_region 12 with fail
          refine region_ext (by kernel_rfl) (by kernel_rfl) ?_
          repeat (go_big_quiet_step ((go_at_call 247; exact G.out _)))
          refine wpQuiet_nil ?_
          rintro w2 ⟨⟨_, hw2⟩, rfl⟩
          clear z0 zh zc
          go_wp2_with fail
          go_roundw
          case rel => exact ⟨j + 1, by omega, by go_num, hB.trans (hw2.mono hB.size)⟩
          case measure => simp [intOf]; omega
        · obtain rfl : j = 7 := by omega
          have hlt' : decide (((7 : Nat) : Int) < 7) = false := by simp
          go_wp2_with fail
          go_ret
          exact ⟨rfl, by rw [hsz'.out]; exact B1.trans (hB.mono (by have := B1.size; have := hsz'.out; omega))⟩
/-- what the reference's Start hands back: the rules are those that came -/
def RStartO (v : Value) (l : List Ru) (w : World) (e : Ending) (w' : World) : Prop :=
  e = .returned (.tuple #[if (chkR l).2 = 0 then rfV v (fun _ => 0) (fun _ => 0) else rfV (.slice none 0 0) (fun _ => 0) (fun _ => 0), .int .i64 (chkR l).2]) ∧ Below w.heap.size w w'
set_option maxRecDepth 100000 in
set_option maxHeartbeats 1600000 in
theorem rstart_any (A : Option Addr) (n cap : Nat) (l : List Ru) (w : World) (hn : l.length = n) (hr : Rd w w.heap.size A (fl ruC l)) :
    Calls Tryz.prog 125 #[.agg #[.slice A n cap]] w (RStartO (.slice A n cap) l w) := by
  have HC := Lib.hid (fun W h => rplanCheck_any A n cap l W hn h)
  have hb0 := (Below.refl w.heap.size w).alloc (Nat.le_refl _) (.cells #[.slice A n cap] 25)
  have k0 := Blk.new w 25 #[.slice A n cap]
  unfold RStartO
  generalize hR : chkR l = R at *
  obtain ⟨ri, re⟩ := R
  simp only at HC ⊢
  clear hR hn
  obtain ⟨s, hs⟩ : ∃ s, w.heap.size = s := ⟨_, rfl⟩
  have hs' := Lib.hid hs
  have hb1 := hb0.alloc (by simp) (.cells (rfC (.slice none 0 0) (fun _ => 0) (fun _ => 0)).toArray 51)
  have k1 := k0.alloc (.cells (rfC (.slice none 0 0) (fun _ => 0) (fun _ => 0)).toArray 51)
  have b1 := Blk.new (w.alloc (.cells #[.slice A n cap] 25)) 51 (rfC (.slice none 0 0) (fun _ => 0) (fun _ => 0)).toArray
  rw [World.size_alloc, hs] at b1
  rw [hs] at k1
  unfold rfC at b1 k1 hb1
  go_enter Tryz.func125, Tryz.ntmps125
  go_upto_region 1 with fail
  generalize (w.alloc (.cells #[.slice A n cap] 25)).alloc _ = w1 at *
  have r1 := hr.on_ hb1
  have c1 := k1.cell
  clear k0 hb0 hr hs
  go_wp2_with fail
  refine (HC.out _ r1).mono ?_
  rintro e w2 ⟨rfl, hb2⟩
  have k2 := k1.call hb2
  have c2 := k2.cell
  have b2 := b1.call hb2
  have B2 := hb1.trans (hb2.mono hb1.size)
  clear r1 c1 k1 b1 hb1 hb2 HC
  by_cases he : re = 0
  · subst he
    go_wp2_with (refine wpList_store_mid rfl 51 (.tmp 2) (.tmp 16) rfl (s + 1) 0 (rfC (.slice A n cap) (fun _ => 0) (fun _ => 0)).toArray rfl rfl (z_there b2 0 15 (by simp)) infoRf (Go.all_oneCell_toArray (rfC_one rfl _ _)) ?_)
    have k4 := Blk.puts (g := s + 1) (t := 51) (w := w2) (cs := #[]) (rfC (.slice A n cap) (fun _ => 0) (fun _ => 0)) 0 w2 _ b2
    rw [putA_all (by rfl)] at k4
    have hF4 := Far.puts (T := fun k => k = s + 1) rfl (rfC (.slice A n cap) (fun _ => 0) (fun _ => 0)) 0 w2 w2 (Far.refl _ _)
    generalize (w2).setCells (s + 1) 0 (rfC (.slice A n cap) (fun _ => 0) (fun _ => 0)) = w4 at *
    have hl4 := run_loadVar_mid (P := Tryz.prog) w4 (s + 1) 0 51 (rfC (.slice A n cap) (fun _ => 0) (fun _ => 0)) _ (fun j v hj => by rw [Nat.zero_add, k4.cell]; simpa using hj) Tryz.underlying51 rfl infoRf
    have hB4 : Below w.heap.size w2 w4 := hF4.below (by have := B2.size; omega) (fun k hk e => by have := hs'.out; omega)
    refine bodyPost_ret (v := .tuple #[rfV (.slice A n cap) (fun _ => 0) (fun _ => 0), .int .i64 0]) ?_ rfl ?_
    · exact z_results_cell_tmp Tryz.results125 rfl hl4
    exact ⟨rfl, B2.trans hB4⟩
  · have he' : (re != 0) = true := by simpa using he
    go_wp2_with (refine wpList_store_mid rfl 51 (.tmp 2) (.tmp 13) rfl (s + 1) 0 (rfC (.slice none 0 0) (fun _ => 0) (fun _ => 0)).toArray rfl rfl (z_there b2 0 15 (by simp)) infoRf (Go.all_oneCell_toArray (rfC_one rfl _ _)) ?_)
    have k4 := Blk.puts (g := s + 1) (t := 51) (w := w2) (cs := #[]) (rfC (.slice none 0 0) (fun _ => 0) (fun _ => 0)) 0 w2 _ b2
    rw [putA_all (by rfl)] at k4
    have hF4 := Far.puts (T := fun k => k = s + 1) rfl (rfC (.slice none 0 0) (fun _ => 0) (fun _ => 0)) 0 w2 w2 (Far.refl _ _)
    generalize (w2).setCells (s + 1) 0 (rfC (.slice none 0 0) (fun _ => 0) (fun _ => 0)) = w4 at *
    have hl4 := run_loadVar_mid (P := Tryz.prog) w4 (s + 1) 0 51 (rfC (.slice none 0 0) (fun _ => 0) (fun _ => 0)) _ (fun j v hj => by rw [Nat.zero_add, k4.cell]; simpa using hj) Tryz.underlying51 rfl infoRf
    have hB4 : Below w.heap.size w2 w4 := hF4.below (by have := B2.size; omega) (fun k hk e => by have := hs'.out; omega)
    refine bodyPost_ret (v := .tuple #[rfV (.slice none 0 0) (fun _ => 0) (fun _ => 0), .int .i64 re]) ?_ rfl ?_
    · exact z_results_cell_tmp Tryz.results125 rfl hl4
    exact ⟨rfl, B2.trans hB4⟩
/-- what the reference's Next hands back -/
def RNextO (v : Value) (S : Rf) (k : Nat) (w : World) (e : Ending) (w' : World) : Prop :=
  (S.calls k = 1000000 ∧ e = .returned (.tuple #[rfV (.slice none 0 0) (fun _ => 0) (fun _ => 0), .bool false, .int .i64 3]) ∧ Below w.heap.size w w') ∨
  (S.calls k ≠ 1000000 ∧ e = .returned (.tuple #[rfV v (nextS S k).calls (nextS S k).hits, .bool (nextB S k), .int .i64 0]) ∧ Below w.heap.size w w')
set_option maxRecDepth 100000 in
set_option maxHeartbeats 1600000 in
theorem rnextR_any (A : Option Addr) (n cap : Nat) (S : Rf) (k : Nat) (w : World) (hS : RfOk S) (hk : k < 7) (hn : S.rules.length = n) (hr : Rd w w.heap.size A (fl ruC S.rules)) :
    Calls Tryz.prog 206 #[rfV (.slice A n cap) S.calls S.hits, .int .i64 k] w (RNextO (.slice A n cap) S k w) := by
  obtain ⟨h1, h2, h3⟩ := hS
  obtain ⟨hlen, hok⟩ := chkR_zero.1 h1
  have hn50 : n ≤ 50 := by omega
  have hck := h2 k hk
  have HC := Lib.hid (fun W h => rcheckState_any A n cap S W ⟨h1, h2, h3⟩ hn h)
  have HI := Lib.hid (fun W => in_any (k : Int) 0 6 W)
  rw [inB_true.2 (by omega)] at HI
  obtain ⟨Q, hQ⟩ : ∃ Q, RNextO (.slice A n cap) S k w = Q := ⟨_, rfl⟩
  rw [hQ]
  have hQ1 := Lib.hid (fun (h : S.calls k = 1000000) w' (hb : Below w.heap.size w w') => show Q (.returned (.tuple #[rfV (.slice none 0 0) (fun _ => 0) (fun _ => 0), .bool false, .int .i64 3])) w' by rw [← hQ]; exact .inl ⟨h, rfl, hb⟩)
  have hQ2 := Lib.hid (fun (h : S.calls k ≠ 1000000) w' (hb : Below w.heap.size w w') => show Q (.returned (.tuple #[rfV (.slice A n cap) (nextS S k).calls (nextS S k).hits, .bool (nextB S k), .int .i64 0])) w' by rw [← hQ]; exact .inr ⟨h, rfl, hb⟩)
  unfold nextS nextB at hQ2
  have HR := Lib.hid (fun (hc : S.calls k ≠ 1000000) W h => rrefused_any A n cap S.rules (k : Int) (S.calls k + 1) W hn (by omega) hok ⟨by omega, by omega⟩ h)
  have hcell := Lib.hid (rfC_calls (.slice A n cap) S.calls S.hits hk)
  have hset := Lib.hid (fun v (x : Int) => rfC_setC v S.calls S.hits hk x)
  have hseth := Lib.hid (fun v cs (x : Int) => rfC_setH v cs S.hits hk x)
  have hhk : 0 ≤ S.hits k ∧ S.hits k ≤ 1000000 := by
    have := hitN_bound S.rules k (S.calls k).toNat
    rw [← h3 k hk] at this
    omega
  obtain ⟨l, cs, hs⟩ := S
  simp only at hcell hset hseth hQ1 hQ2 HR HC hr hn hck hhk
  clear hQ h1 h2 h3 hlen hok hn
  have hb0 := ((Below.refl w.heap.size w).alloc (Nat.le_refl _) (.cells (rfC (.slice A n cap) cs hs).toArray 51)).alloc (by simp) (.cells (rfC (.slice none 0 0) (fun _ => 0) (fun _ => 0)).toArray 51)
  have k0 := (Blk.new w 51 (rfC (.slice A n cap) cs hs).toArray).alloc (.cells (rfC (.slice none 0 0) (fun _ => 0) (fun _ => 0)).toArray 51)
  have b0 := Blk.new (w.alloc (.cells (rfC (.slice A n cap) cs hs).toArray 51)) 51 (rfC (.slice none 0 0) (fun _ => 0) (fun _ => 0)).toArray
  obtain ⟨s, hsz⟩ : ∃ s, w.heap.size = s := ⟨_, rfl⟩
  rw [World.size_alloc, hsz] at b0
  rw [hsz] at k0
  have hwb : ∀ g o, A = some ⟨g, o, none⟩ → l ≠ [] → g < s := fun g o e hne => by
    cases l with
    | nil => exact absurd rfl hne
    | cons x r =>
      obtain ⟨b, o', e', hb, _⟩ := hr 0 (by rw [fl_len ruC_len]; simp)
      rw [e] at e'; cases e'; omega
  unfold rfV rfC at HC ⊢
  simp only at HC ⊢
  unfold rfC at hb0 k0 b0
  have r0 := hr.on_ hb0
  go_enter Tryz.func206, Tryz.ntmps206
  go_upto_region 1 with fail
  generalize (w.alloc _).alloc _ = w0 at *
  rw [hsz] at hb0
  try simp only [hsz]
  have hsz' := Lib.hid hsz
  clear hsz hr
  have c0 := k0.cell
  go_wp2_with fail
  refine (HC.out _ r0).mono ?_
  rintro e w1 ⟨rfl, hb1⟩
  have k1 : Blk w1 s 51 (rfC (.slice A n cap) cs hs).toArray := k0.call hb1
  have b1 := b0.call hb1
  have r1 := r0.on_ hb1
  have B1 := hb0.trans (hb1.mono (by have := hb0.size; have := hsz'.out; omega))
  clear c0 k0 b0 r0 hb0 hb1 HC
  have hin : (k : Int) < 7 := by omega
  have ck := (k1.cell (1 + k)).trans hcell.out
  go_wp2_with fail
  refine (HI.out _).mono ?_
  rintro e9 w9 ⟨rfl, rfl⟩
  by_cases hc : cs k = 1000000
  · have hQ3 := Lib.hid (hQ1.out hc)
    rw [hc] at ck
    clear hQ2 HR hc
    go_upto_region 7 with fail
    go_wp2_with (refine wpList_store_mid rfl 51 (.tmp 4) (.tmp 29) rfl (s + 1) 0 (rfC (.slice none 0 0) (fun _ => 0) (fun _ => 0)).toArray rfl rfl (z_there b1 0 15 (by simp)) infoRf (Go.all_oneCell_toArray (rfC_one rfl _ _)) ?_)
    have k4 := Blk.puts (g := s + 1) (t := 51) (w := w1) (cs := #[]) (rfC (.slice none 0 0) (fun _ => 0) (fun _ => 0)) 0 w1 _ b1
    rw [putA_all (by rfl)] at k4
    have hF4 := Far.puts (T := fun k => k = s + 1) rfl (rfC (.slice none 0 0) (fun _ => 0) (fun _ => 0)) 0 w1 w1 (Far.refl _ _)
    generalize (w1).setCells (s + 1) 0 (rfC (.slice none 0 0) (fun _ => 0) (fun _ => 0)) = w4 at *
    have hl4 := run_loadVar_mid (P := Tryz.prog) w4 (s + 1) 0 51 (rfC (.slice none 0 0) (fun _ => 0) (fun _ => 0)) _ (fun j v hj => by rw [Nat.zero_add, k4.cell]; simpa using hj) Tryz.underlying51 rfl infoRf
    have hB4 : Below w.heap.size w1 w4 := hF4.below (by have := B1.size; have := hsz'.out; omega) (fun k hk e => by have := hsz'.out; omega)
    refine bodyPost_ret (v := .tuple #[rfV (.slice none 0 0) (fun _ => 0) (fun _ => 0), .bool false, .int .i64 3]) ?_ rfl ?_
    · exact z_results_cell_tmp2 Tryz.results206 rfl hl4
    rw [← hsz'.out] at B1
    exact hQ3.out _ (B1.trans hB4)
  · have d3 : (cs k == 1000000) = false := by simpa using hc
    have hQ3 := Lib.hid (hQ2.out hc)
    have HR' := Lib.hid (HR.out hc)
    have hw1 : IntKind.i64.wrap (cs k + 1) = cs k + 1 := by rw [IntKind.wrap_i64]; omega
    have hw2 : IntKind.i64.wrap (hs k + 1) = hs k + 1 := by rw [IntKind.wrap_i64]; omega
    have hup : ∀ (f : Nat → Int) x, upN f k x k = x := fun f x => by simp [upN]
    have hup' := Lib.hid hup
    have f1 := k1.frozen
    clear hQ2 hQ1 HR hup hc
    go_upto_region 9 with fail
    have k4 := k1.set_ (1 + k) (.int .i64 (cs k + 1))
    rw [hset.out] at k4
    have hF4 : Far (fun k => k = s) w1 (w1.setCell ⟨s, 1 + k, none⟩ (.int .i64 (cs k + 1))) := Far.setCell (T := fun k => k = s) (p := ⟨s, 1 + k, none⟩) (Far.refl _ _) (fun _ => rfl) _
    generalize w1.setCell ⟨s, 1 + k, none⟩ (.int .i64 (cs k + 1)) = w4 at *
    have c4 := (k4.cell (1 + k)).trans (rfC_calls (.slice A n cap) (upN cs k (cs k + 1)) hs hk)
    rw [hup'.out] at c4
    have c40 : w4.cell? ⟨s, 0, none⟩ = some (.slice A n cap) := (k4.cell 0).trans rfl
    have r4 : Rd w4 w4.heap.size A (fl ruC l) := (r1.keepR hF4 (fun b o e hne => by have := hwb b o e hne; show ¬ b = s; omega)).more hF4.size
    have z0 := fun z : Ext w4 => z.cell c40
    have z1 := fun z : Ext w4 => z.cell c4
    have G := Lib.hid (fun z : Ext w4 => Ext.call (x := z) (HR'.out z.w (r4.on_ z.le)))
    have b4 := hF4.blk b1 (by show ¬ s + 1 = s; omega)
    generalize rfd l (k : Int) (cs k + 1) = bb at *
    clear c4 c40 HR' k1 b1 r1 r4 f1 ck
    refine region_ext (by kernel_rfl) (by kernel_rfl) ?_
    repeat (go_big_quiet_step ((go_at_call 235; exact G.out _)))
    refine wpQuiet_nil ?_
    rintro w5 ⟨⟨_, hw5⟩, rfl⟩
    have k5 := k4.call hw5
    have b5 := b4.call hw5
    have hF5 : Far (fun k => k = s) w1 w5 := hF4.trans (.of_below hw5)
    clear z0 z1 G k4 b4 hw5 hF4
    cases bb with
    | true =>
      simp only [if_true] at hQ3
      have c5 := (k5.cell (8 + k)).trans (rfC_hits (.slice A n cap) (upN cs k (cs k + 1)) hs hk)
      have f5 := k5.frozen
      go_upto_region 12 with fail
      have k6 := k5.set_ (8 + k) (.int .i64 (hs k + 1))
      rw [hseth.out] at k6
      have b6 := b5.far (p := ⟨s, 8 + k, none⟩) (by show s + 1 ≠ s; omega) (.int .i64 (hs k + 1))
      have hF6 : Far (fun k => k = s) w1 (w5.setCell ⟨s, 8 + k, none⟩ (.int .i64 (hs k + 1))) := hF5.setCell (p := ⟨s, 8 + k, none⟩) (fun _ => rfl) _
      generalize w5.setCell ⟨s, 8 + k, none⟩ (.int .i64 (hs k + 1)) = w6 at *
      clear c5 f5 k5 b5 hF5
      generalize upN hs k (hs k + 1) = hs2 at *
      generalize upN cs k (cs k + 1) = cs2 at *
      have hrng : World.rangeAt w6 s 0 (rfC (.slice A n cap) cs2 hs2) := fun j v hj => by rw [Nat.zero_add, (k6).cell]; simpa using hj
      go_wp2_with (first
        | (refine wpList_load_mid rfl 51 (.tmp 2) rfl s 0 rfl (rfC (.slice A n cap) cs2 hs2) _ hrng Tryz.underlying51 rfl infoRf ?_)
        | (refine wpList_store_mid rfl 51 (.tmp 4) (.tmp 54) rfl (s + 1) 0 (rfC (.slice A n cap) cs2 hs2).toArray rfl rfl (z_there b6 0 15 (by simp)) infoRf (Go.all_oneCell_toArray (rfC_one rfl _ _)) ?_))
      have k7 := Blk.puts (g := s + 1) (t := 51) (w := w6) (cs := #[]) (rfC (.slice A n cap) cs2 hs2) 0 w6 _ b6
      rw [putA_all (by rfl)] at k7
      have hF7 := Far.puts (T := fun k => k = s ∨ k = s + 1) (.inr rfl) (rfC (.slice A n cap) cs2 hs2) 0 w1 w6 ((hF6).mono (fun _ _ h => .inl h))
      generalize (w6).setCells (s + 1) 0 (rfC (.slice A n cap) cs2 hs2) = w7 at *
      have hl7 := run_loadVar_mid (P := Tryz.prog) w7 (s + 1) 0 51 (rfC (.slice A n cap) cs2 hs2) _ (fun j v hj => by rw [Nat.zero_add, k7.cell]; simpa using hj) Tryz.underlying51 rfl infoRf
      have hB7 : Below w.heap.size w1 w7 := hF7.below (by have := B1.size; have := hsz'.out; omega) (fun k hk e => by have := hsz'.out; omega)
      rw [← hsz'.out] at B1
      refine bodyPost_ret (v := .tuple #[rfV (.slice A n cap) cs2 hs2, .bool true, .int .i64 0]) ?_ rfl ?_
      · exact z_results_cell_tmp2 Tryz.results206 rfl hl7
      exact hQ3.out _ (B1.trans hB7)
    | false =>
      simp only [Bool.false_eq_true, if_false] at hQ3
      generalize upN cs k (cs k + 1) = cs2 at *
      have hrng : World.rangeAt w5 s 0 (rfC (.slice A n cap) cs2 hs) := fun j v hj => by rw [Nat.zero_add, (k5).cell]; simpa using hj
      go_wp2_with (first
        | (refine wpList_load_mid rfl 51 (.tmp 2) rfl s 0 rfl (rfC (.slice A n cap) cs2 hs) _ hrng Tryz.underlying51 rfl infoRf ?_)
        | (refine wpList_store_mid rfl 51 (.tmp 4) (.tmp 54) rfl (s + 1) 0 (rfC (.slice A n cap) cs2 hs).toArray rfl rfl (z_there b5 0 15 (by simp)) infoRf (Go.all_oneCell_toArray (rfC_one rfl _ _)) ?_))
      have k7 := Blk.puts (g := s + 1) (t := 51) (w := w5) (cs := #[]) (rfC (.slice A n cap) cs2 hs) 0 w5 _ b5
      rw [putA_all (by rfl)] at k7
      have hF7 := Far.puts (T := fun k => k = s ∨ k = s + 1) (.inr rfl) (rfC (.slice A n cap) cs2 hs) 0 w1 w5 ((hF5).mono (fun _ _ h => .inl h))
      generalize (w5).setCells (s + 1) 0 (rfC (.slice A n cap) cs2 hs) = w7 at *
      have hl7 := run_loadVar_mid (P := Tryz.prog) w7 (s + 1) 0 51 (rfC (.slice A n cap) cs2 hs) _ (fun j v hj => by rw [Nat.zero_add, k7.cell]; simpa using hj) Tryz.underlying51 rfl infoRf
      have hB7 : Below w.heap.size w1 w7 := hF7.below (by have := B1.size; have := hsz'.out; omega) (fun k hk e => by have := hsz'.out; omega)
      rw [← hsz'.out] at B1
      refine bodyPost_ret (v := .tuple #[rfV (.slice A n cap) cs2 hs, .bool false, .int .i64 0]) ?_ rfl ?_
      · exact z_results_cell_tmp2 Tryz.results206 rfl hl7
      exact hQ3.out _ (B1.trans hB7)
end Go.Proofs.YtpabnbhbcphfiaaGreat
namespace Go.Pol
open Go Go.RowKit
def pageB (p : Int) : Bool := decide (0 ≤ p) && decide (p < 1024)
theorem pageB_true {p : Int} : pageB p = true ↔ 0 ≤ p ∧ p < 1024 := by simp [pageB]
theorem pageB_false {p : Int} : pageB p = false ↔ ¬ (0 ≤ p ∧ p < 1024) := by rw [← pageB_true]; simp
end Go.Pol
namespace Go.Proofs.YtpabnbhbcphfiaaGreat
open Go Go.Proofs Go.RowKit Go.Pol Go.Shelf
attribute [local go_sem] Oper.semAt_some Go.Pol.wide_fn Go.Pol.wide_depth Go.Pol.wide_fn' Go.Pol.wide_depth'

theorem wpList_value {P : Program} {ops : Array Oper} {rest : List Oper} {op : Oper} {a : Act} {w : World} {Q : Exit → Act → World → Prop} {v : Value} (d : Nat) (hgd : op.guard = none) (hd : op.dst = some d)
    (hr : (execOp a.eval op).run P w = .ok (.value v) w) (h : wpList P ops Q rest (a.put (some d) v) w) : wpList P ops Q (op :: rest) a w :=
  wpList_plain hgd fun K hK => by
    unfold Oper.wp
    rw [hr]
    show K (a.put op.dst v) w
    rw [hd]
    exact hK _ _ h
theorem page_any (p : Int) (w : World) : Calls Tryz.prog 153 #[.int .i64 p] w fun e w' => e = .returned (.bool (pageB p)) ∧ w = w' := by
  by_cases h1 : 0 ≤ p
  · have d1 : decide (0 ≤ p) = true := by simpa using h1
    have hE : pageB p = decide (p < 1024) := by simp [pageB, h1]
    rw [hE]
    clear hE h1
    go_enter Tryz.func153, Tryz.ntmps153
    go_wp2_with fail
    go_ret
    exact ⟨rfl, rfl⟩
  · have d1 : decide (0 ≤ p) = false := by simpa using h1
    have hE : pageB p = false := by simp [pageB, h1]
    rw [hE]
    clear hE h1
    go_enter Tryz.func153, Tryz.ntmps153
    go_wp2_with fail
    go_ret
    exact ⟨rfl, rfl⟩
set_option maxRecDepth 100000 in
set_option maxHeartbeats 1600000 in
theorem kinds_any (B b a n : Nat) (kd : Int) (V : Vm) (w : World) (hV : RefIs w B b V) (hn : a + n ≤ 1024) :
    Calls Tryz.prog 154 #[.pointer (some ⟨b, 0, none⟩), .int .i64 a, .int .i64 n, .int .i64 kd] w fun e w' => e = .returned (.bool (allP V a n (fun g => g.kind == kd))) ∧ w = w' := by
  obtain ⟨R, hR⟩ : ∃ R, allP V a n (fun g => g.kind == kd) = R := ⟨_, rfl⟩
  rw [hR]
  have hR' := Lib.hid hR
  obtain ⟨cs, A, m, cap, hk, hc, _⟩ := hV.ex
  have hkd := Lib.hid (fun p h => (hk.cell p).trans (hc.kind p h))
  clear hR hk hc hV
  have hwn : wrap64 ((a : Int) + (n : Int)) = ((a + n : Nat) : Int) := by unfold wrap64; omega
  go_enter Tryz.func154, Tryz.ntmps154
  go_wp2_with fail
  go_loopw [9] (fun u wr => ∃ i : Nat, i ≤ n ∧ u = .int .i64 ((a + i : Nat) : Int) ∧ Hid (∀ q, a ≤ q → q < a + i → ((V.pg q).kind == kd) = true) ∧ wr = w) (fun u _ => a + n - (intOf u).toNat)
  case atStart => exact ⟨0, by omega, rfl, Lib.hid (fun _ _ _ => by omega), rfl⟩
  case round =>
    obtain ⟨i, hi, rfl, hA, hw⟩ := hrel
    have hw' := hw.symm
    clear hw
    subst hw'
    by_cases hlt : i < n
    · obtain ⟨p, hp⟩ : ∃ p, a + i = p := ⟨_, rfl⟩
      have hlt' : decide ((p : Int) < (a : Int) + (n : Int)) = true := by rw [decide_eq_true_eq]; omega
      have hpl : (p : Int) < 1024 := by omega
      have hcell := hkd.out p (by omega)
      have hws : wrap64 ((p : Int) + 1) = ((p + 1 : Nat) : Int) := by unfold wrap64; omega
      rw [hp]
      have hp' := Lib.hid hp
      clear hp
      by_cases hv : (V.pg p).kind = kd
      · have hv' : ((V.pg p).kind != kd) = false := by simpa using hv
        have hA2 : Hid (∀ q, a ≤ q → q < a + (i + 1) → ((V.pg q).kind == kd) = true) := Lib.hid (fun q h1 h2 => by
          by_cases e : q = p
          · subst e; simpa using hv
          · exact hA.out q h1 (by have := hp'.out; omega))
        clear hA hv
        go_wp2_with fail
        go_roundw
        case rel => exact ⟨i + 1, by omega, by rw [show ((p : Int) + 1) = ((a + (i + 1) : Nat) : Int) by have := hp'.out; omega], hA2, trivial⟩
        case measure => have := hp'.out; simp [intOf]; omega
      · have hv' : ((V.pg p).kind != kd) = true := by simpa using hv
        have hRf : Hid (false = R) := Lib.hid (by
          rw [← hR'.out]
          symm
          rw [Bool.eq_false_iff]
          intro h
          have := allP_iff.1 h p (by have := hp'.out; omega) (by have := hp'.out; omega)
          exact hv (by simpa using this))
        clear hA hv
        go_wp2_with fail
        go_ret
        exact ⟨z_ret_bool hRf.out, rfl⟩
    · obtain rfl : i = n := by omega
      have hlt' : decide (((a + i : Nat) : Int) < (a : Int) + (i : Int)) = false := by simp
      have hRt : Hid (true = R) := Lib.hid (by rw [← hR'.out]; exact (allP_iff.2 hA.out).symm)
      clear hA
      go_wp2_with fail
      go_ret
      exact ⟨z_ret_bool hRt.out, rfl⟩
set_option maxRecDepth 100000 in
set_option maxHeartbeats 1600000 in
theorem set_any (B b a n : Nat) (kd : Int) (V : Vm) (w : World) (hV : RefIs w B b V) (hn : a + n ≤ 1024) (hh : ∀ q, a ≤ q → q < a + n → (V.pg q).huge = false) :
    Calls Tryz.prog 184 #[.pointer (some ⟨b, 0, none⟩), .int .i64 a, .int .i64 n, .int .i64 kd] w fun e w' => e = .returned (.tuple #[]) ∧ RefIs w' B b (V.eachP a n (fun _ => newPg kd)) ∧ Far (fun k => k = b) w w' := by
  have hV' := Lib.hid hV
  have hh' := Lib.hid hh
  have hwn : wrap64 ((a : Int) + (n : Int)) = ((a + n : Nat) : Int) := by unfold wrap64; omega
  clear hV hh
  go_enter Tryz.func184, Tryz.ntmps184
  go_wp2_with fail
  go_loopw [8] (fun u wr => ∃ i : Nat, i ≤ n ∧ u = .int .i64 ((a + i : Nat) : Int) ∧ Hid (RefIs wr B b (V.eachP a i (fun _ => newPg kd))) ∧ Far (fun k => k = b) w wr) (fun u _ => a + n - (intOf u).toNat)
  case atStart => exact ⟨0, by omega, rfl, Lib.hid (by rw [Vm.eachP_zero]; exact hV'.out), Far.refl _ _⟩
  case round =>
    obtain ⟨i, hi, rfl, hR, hF⟩ := hrel
    by_cases hlt : i < n
    · obtain ⟨p, hp⟩ : ∃ p, a + i = p := ⟨_, rfl⟩
      have hlt' : decide ((p : Int) < (a : Int) + (n : Int)) = true := by rw [decide_eq_true_eq]; omega
      have hpl : (p : Int) < 1024 := by omega
      have hws : wrap64 ((p : Int) + 1) = ((p + 1 : Nat) : Int) := by unfold wrap64; omega
      have hput := Lib.hid (hR.out.put (p := p) (by omega) (by
        show (if a ≤ p ∧ p < a + i then newPg kd else V.pg p).huge = false
        rw [if_neg (by omega)]; exact hh'.out p (by omega) (by omega)) kd)
      have hes : Hid (V.eachP a (i + 1) (fun _ => newPg kd) = (V.eachP a i (fun _ => newPg kd)).setP p (newPg kd)) := Lib.hid (by rw [Vm.eachP_succ, hp])
      rw [hp]
      have hp' := Lib.hid hp
      clear hp
      obtain ⟨cs, A, m, cap, hk, hc, _⟩ := hR.out.ex
      have hcell := (hk.cell p).trans (hc.kind p (by omega))
      have hfr := hk.frozen
      have hcs := hc.size
      have k2 := hk.set_ p (.int .i64 kd)
      obtain ⟨Z, hZ⟩ : ∃ Z, (List.replicate 64 (Value.int .u8 0)).toArray = Z := ⟨_, rfl⟩
      have hZl : List.replicate 64 (Value.int .u8 0) = Z.toList := by rw [← hZ]
      have hZs : Z.size = 64 := by rw [← hZ]; simp
      rw [hZl] at hput
      have ht : (wr.setCell ⟨b, p, none⟩ (.int .i64 kd)).there b (1088 + p * 64) Z.size := z_there k2 (1088 + p * 64) Z.size (by rw [Array.size_setIfInBounds]; omega)
      have hinf : (Tryz.prog.info? 85).map (·.size) = some Z.size := by rw [hZs]; exact infoKinds
      have hone : Z.all (·.oneCell') = true := by rw [← hZ]; exact Go.all_oneCell_toArray (fun x hx => by rw [List.eq_of_mem_replicate hx]; rfl)
      have hZ' := Lib.hid hZ
      clear hR hk hc k2 hZl hZs hZ
      go_upto_region 4 with fail
      generalize wr.setCell ⟨b, p, none⟩ _ = w2 at *
      go_wp2_with (first
        | (refine wpList_value (v := .agg Z) 25 rfl rfl ?hbb ?_)
        | (refine wpList_store_mid rfl 85 (.tmp 28) (.tmp 25) rfl b (1088 + p * 64) Z rfl rfl ht hinf hone ?_))
      case hbb =>
        rw [← hZ'.out]
        rfl
      generalize w2.setCells b (1088 + p * 64) _ = w3 at *
      go_roundw
      case rel => exact ⟨i + 1, by omega, by rw [show ((p : Int) + 1) = ((a + (i + 1) : Nat) : Int) by have := hp'.out; omega], Lib.hid (by rw [hes.out]; exact hput.out.1), hF.trans hput.out.2⟩
      case measure => have := hp'.out; simp [intOf]; omega
    · obtain rfl : i = n := by omega
      have hlt' : decide (((a + i : Nat) : Int) < (a : Int) + (i : Int)) = false := by simp
      go_wp2_with fail
      go_end0
      exact ⟨rfl, hR.out, hF⟩
end Go.Proofs.YtpabnbhbcphfiaaGreat
namespace Go.Pol
open Go Go.RowKit
/-- the reference's system afterwards, and nothing else of what was -/
def RefTo (B b : Nat) (V : Vm) (w w' : World) : Prop := RefIs w' B b V ∧ Far (fun k => k = b) w w'
end Go.Pol
namespace Go.Proofs.YtpabnbhbcphfiaaGreat
open Go Go.Proofs Go.RowKit Go.Pol Go.Shelf
attribute [local go_sem] Oper.semAt_some Go.Pol.wide_fn Go.Pol.wide_depth Go.Pol.wide_fn' Go.Pol.wide_depth'

set_option maxHeartbeats 1600000 in
theorem refRefused_any (B b k : Nat) (V : Vm) (w : World) (hV : RefIs w B b V) (hk : k < 7) :
    Calls Tryz.prog 155 #[.pointer (some ⟨b, 0, none⟩), .int .i64 k] w fun e w' => e = .returned (.bool (refB V.rf k)) ∧ RefTo B b (V.ref k) w w' := by
  have hV' := Lib.hid hV
  obtain ⟨cs, A, n, cap, hk0, hc, hn, hr, hB, hok⟩ := hV.ex
  have hbl := hk0.lt
  have HN := Lib.hid (rnextR_any A n cap V.rf k w hok hk hn.1 (hr.more (by omega)))
  have hrng : w.rangeAt b 66624 (rfC (.slice A n cap) V.rf.calls V.rf.hits) := fun j v hj => by
    have hj15 : j < 15 := (List.getElem?_eq_some_iff.1 hj).1
    rw [hk0.cell, hc.rf j hj15]; exact hj
  have hok' := Lib.hid hok
  have hr' := Lib.hid hr
  have hn' := Lib.hid hn
  have hrl := Lib.hid (show refB V.rf k = if V.rf.calls k = 1000000 then false else nextB V.rf k from rfl)
  have hrs := Lib.hid (show V.ref k = { V with rf := if V.rf.calls k = 1000000 then V.rf else nextS V.rf k } from rfl)
  unfold RNextO at HN
  generalize refB V.rf k = R at *
  generalize V.ref k = V2 at *
  clear hc hr hn hok hV
  go_enter Tryz.func155, Tryz.ntmps155
  go_wp2_with (first
    | (refine wpList_load_mid rfl 51 (.tmp 11) rfl b 66624 rfl (rfC (.slice A n cap) V.rf.calls V.rf.hits) _ hrng Tryz.underlying51 rfl infoRf ?_))
  clear hrng
  refine HN.out.mono ?_
  rintro e w1 hN
  rcases hN with ⟨hc, rfl, hb1⟩ | ⟨hc, rfl, hb1⟩
  · rw [if_pos hc] at hrl hrs
    have hV1 := hV'.out.call hb1
    have hE := Lib.hid (And.intro hrl.out hrs.out)
    clear hrl hrs hc HN hk0 hok'
    unfold rfV rfC
    go_wp2_with fail
    go_ret
    obtain ⟨e1, e2⟩ := hE.out
    rw [e1, e2]
    have hbz := (Below.refl w1.heap.size w1).alloc (Nat.le_refl _) (.cells (rfC (.slice none 0 0) (fun _ => 0) (fun _ => 0)).toArray 51)
    unfold rfC at hbz
    exact ⟨rfl, hV1.call hbz, .of_below (hb1.trans (hbz.mono hb1.size))⟩
  · rw [if_neg hc] at hrl hrs
    have hS2 : RfOk (nextS V.rf k) := nextS_ok hok'.out hk hc
    have hbz := (Below.refl w1.heap.size w1).alloc (Nat.le_refl _) (.cells (rfC (.slice A n cap) (nextS V.rf k).calls (nextS V.rf k).hits).toArray 51)
    have hb2 := hb1.trans (hbz.mono hb1.size)
    have hput := hV'.out.putRf (nextS V.rf k) A n cap hb2 hn'.out.1 hn'.out.2 (hr'.out.keepB (T := fun _ => False) (Far.of_below hb2) (fun _ h => h.elim)) hS2
    have k9 := hk0.call hb2
    have hcs9 : cs.size = 66639 := by
      obtain ⟨cs9, _, _, _, k8, h8, _⟩ := hV'.out.ex
      have e : cs9 = cs := by unfold Blk at k8 hk0; rw [k8] at hk0; injection hk0 with h; injection h with h
      rw [← e]; exact h8.size
    have hE := Lib.hid (And.intro hrl.out hrs.out)
    have kz := Blk.new w1 51 (rfC (.slice A n cap) (nextS V.rf k).calls (nextS V.rf k).hits).toArray
    clear hrl hrs hc HN hk0 hok' hS2 hb2 hb1 hr' hn'
    generalize (nextS V.rf k).calls = cs2 at *
    generalize (nextS V.rf k).hits = hs2 at *
    have hput' := Lib.hid hput
    clear hput
    rw [← hE.out.1]
    rw [← hE.out.2] at hput'
    clear hE hV'
    unfold rfC at hbz k9 hput' kz
    unfold rfV rfC
    obtain ⟨s, hs⟩ : ∃ s, w1.heap.size = s := ⟨_, rfl⟩
    rw [hs] at kz
    go_upto_region 2 with fail
    generalize w1.alloc _ = w2 at *
    clear hs hbz
    have cz := kz.cell
    have ht : w2.there b 66624 (rfC (.slice A n cap) cs2 hs2).toArray.size := z_there k9 66624 15 (by omega)
    have hone := Go.all_oneCell_toArray (rfC_one (v := .slice A n cap) rfl cs2 hs2)
    clear hcs9 k9 kz
    have hput2 : Hid (RefIs (w2.setCells b 66624 (rfC (.slice A n cap) cs2 hs2)) B b V2 ∧ Far (fun k => k = b) w (w2.setCells b 66624 (rfC (.slice A n cap) cs2 hs2))) := hput'
    clear hput'
    go_wp2_with (refine wpList_store_mid rfl 51 (.tmp 23) (.tmp 21) rfl b 66624 (rfC (.slice A n cap) cs2 hs2).toArray ?hxx ?hyy ht infoRf hone ?_)
    case hxx => rfl
    case hyy => rfl
    generalize w2.setCells b 66624 _ = w4 at *
    go_ret
    exact ⟨rfl, hput2.out.1, hput2.out.2⟩
set_option maxRecDepth 100000 in
set_option maxHeartbeats 1600000 in
theorem change_any (B b : Nat) (a n fr tk : Int) (call : Nat) (V : Vm) (w : World) (hV : RefIs w B b V) (hk : call < 7) :
    Calls Tryz.prog 126 #[.pointer (some ⟨b, 0, none⟩), .int .i64 a, .int .i64 n, .int .i64 fr, .int .i64 tk, .int .i64 call] w fun e w' => e = .returned (.int .i64 (bec V a n call fr tk).1) ∧ RefTo B b (bec V a n call fr tk).2 w w' := by
  have hV' := Lib.hid hV
  obtain ⟨R, hR⟩ : ∃ R, bec V a n call fr tk = R := ⟨_, rfl⟩
  rw [hR]
  unfold bec makeF at hR
  have HP := Lib.hid (fun W => page_any a W)
  by_cases c1 : n < 1
  · have d1 : decide (n < 1) = true := by simpa using c1
    rw [if_pos (.inl c1)] at hR
    subst hR
    clear HP hV
    go_enter Tryz.func126, Tryz.ntmps126
    go_wp2_with fail
    go_ret
    exact ⟨rfl, hV'.out, Far.refl _ _⟩
  have d1 : decide (n < 1) = false := by simpa using c1
  by_cases c2 : 0 ≤ a ∧ a < 1024
  · rw [pageB_true.2 c2] at HP
    have w1 : IntKind.i64.wrap (1024 - a) = 1024 - a := by rw [IntKind.wrap_i64]; omega
    by_cases c3 : 1024 - a < n
    · have d3 : decide (1024 - a < n) = true := by simpa using c3
      rw [if_pos (by omega)] at hR
      subst hR
      clear hV
      go_enter Tryz.func126, Tryz.ntmps126
      go_wp2_with fail
      refine (HP.out _).mono ?_
      rintro e9 w9 ⟨rfl, rfl⟩
      go_wp2_with fail
      go_ret
      exact ⟨rfl, hV'.out, Far.refl _ _⟩
    · have d3 : decide (1024 - a < n) = false := by simpa using c3
      rw [if_neg (by omega)] at hR
      obtain ⟨aa, rfl⟩ : ∃ aa : Nat, a = (aa : Int) := ⟨a.toNat, by omega⟩
      obtain ⟨nn, rfl⟩ : ∃ nn : Nat, n = (nn : Int) := ⟨n.toNat, by omega⟩
      simp only [Int.toNat_natCast] at hR
      have hsum : aa + nn ≤ 1024 := by omega
      have HK := Lib.hid (kinds_any B b aa nn fr V w hV hsum)
      have HRf := Lib.hid (refRefused_any B b call V w hV hk)
      have HSt := Lib.hid (fun (hh : ∀ q, aa ≤ q → q < aa + nn → (V.pg q).huge = false) W (h : RefIs W B b (V.ref call)) => set_any B b aa nn tk (V.ref call) W h hsum hh)
      obtain ⟨cs, A, m, cap, hkb, hc, _⟩ := hV.ex
      have hhg := Lib.hid (fun p (h : p < 1024) => (hkb.cell (1024 + p / 16)).trans (hc.huge p h))
      clear hkb hc hV
      cases hkd : allP V aa nn (fun g => g.kind == fr) with
      | false =>
        rw [hkd] at HK
        have hf : allP V aa nn (fun g => g.kind == fr && !g.huge) = false := by
          rw [Bool.eq_false_iff]
          intro h
          rw [Bool.eq_false_iff] at hkd
          exact hkd (allP_iff.2 fun q h1 h2 => by have := allP_iff.1 h q h1 h2; rw [Bool.and_eq_true] at this; exact this.1)
        rw [if_pos hf] at hR
        subst hR
        clear HRf HSt hhg hf hkd c3
        go_enter Tryz.func126, Tryz.ntmps126
        go_wp2_with fail
        refine (HP.out _).mono ?_
        rintro e9 w9 ⟨rfl, rfl⟩
        go_wp2_with fail
        refine HK.out.mono ?_
        rintro e9 w9 ⟨rfl, rfl⟩
        go_wp2_with fail
        go_ret
        exact ⟨rfl, hV'.out, Far.refl _ _⟩
      | true =>
        rw [hkd] at HK
        have hkd' := Lib.hid hkd
        have hR' := Lib.hid hR
        clear hkd hR c3
        go_enter Tryz.func126, Tryz.ntmps126
        go_wp2_with fail
        refine (HP.out _).mono ?_
        rintro e9 w9 ⟨rfl, rfl⟩
        go_wp2_with fail
        refine HK.out.mono ?_
        rintro e9 w9 ⟨rfl, rfl⟩
        go_wp2_with fail
        go_loopw [13] (fun u wr => ∃ i : Nat, i ≤ nn ∧ u = .int .i64 ((aa + i : Nat) : Int) ∧ Hid (∀ q, aa ≤ q → q < aa + i → (V.pg q).huge = false) ∧ wr = w) (fun u _ => aa + nn - (intOf u).toNat)
        case atStart => exact ⟨0, by omega, rfl, Lib.hid (fun _ _ _ => by omega), rfl⟩
        case round =>
          obtain ⟨i, hi, rfl, hA, hw⟩ := hrel
          have hw' := hw.symm
          clear hw
          subst hw'
          by_cases hlt : i < nn
          · obtain ⟨p, hp⟩ : ∃ p, aa + i = p := ⟨_, rfl⟩
            have hlt' : decide ((p : Int) < (aa : Int) + (nn : Int)) = true := by rw [decide_eq_true_eq]; omega
            have hpl : (p : Int) < 1024 := by omega
            have hdv : Int.tdiv (p : Int) 16 = ((p / 16 : Nat) : Int) := by rw [Int.tdiv_eq_ediv_of_nonneg (by omega)]; omega
            have hdl : ((p / 16 : Nat) : Int) < 64 := by omega
            have hcell := hhg.out p (by omega)
            rw [hp]
            have hp' := Lib.hid hp
            clear hp
            cases hv : (V.pg p).huge with
            | false =>
              rw [hv] at hcell
              have hA2 : Hid (∀ q, aa ≤ q → q < aa + (i + 1) → (V.pg q).huge = false) := Lib.hid (fun q h1 h2 => by
                by_cases e : q = p
                · subst e; exact hv
                · exact hA.out q h1 (by have := hp'.out; omega))
              clear hA hv
              go_wp2_with fail
              go_roundw
              case rel => exact ⟨i + 1, by omega, by rw [show ((p : Int) + 1) = ((aa + (i + 1) : Nat) : Int) by have := hp'.out; omega], hA2, trivial⟩
              case measure => have := hp'.out; simp [intOf]; omega
            | true =>
              rw [hv] at hcell
              have hRf : Hid ((9, V) = R) := Lib.hid (by
                have hr := hR'.out
                rw [if_pos (by
                  rw [Bool.eq_false_iff]
                  intro h
                  have := allP_iff.1 h p (by have := hp'.out; omega) (by have := hp'.out; omega)
                  rw [hv] at this; simp at this)] at hr
                exact hr)
              clear hA hv
              go_wp2_with fail
              go_ret
              rw [← hRf.out]
              exact ⟨rfl, hV'.out, Far.refl _ _⟩
          · obtain rfl : i = nn := by omega
            have hlt' : decide (((aa + i : Nat) : Int) < (aa : Int) + (i : Int)) = false := by simp
            have hR2 : Hid ((if refB V.rf call = true then (60, V.ref call) else (0, (V.ref call).eachP aa i (fun _ => newPg tk))) = R) := Lib.hid (by
              have hr := hR'.out
              rw [if_neg (by
                rw [Bool.not_eq_false]
                exact allP_iff.2 fun q h1 h2 => by
                  rw [hA.out q h1 h2, allP_iff.1 hkd'.out q h1 h2]; rfl)] at hr
              exact hr)
            have HS2 := Lib.hid (HSt.out hA.out)
            generalize refB V.rf call = rb at *
            generalize V.ref call = V2 at *
            clear hA HSt hR' hkd'
            go_wp2_with fail
            refine HRf.out.mono ?_
            rintro e1 w1 ⟨rfl, V1, F1⟩
            cases rb with
            | true =>
              have hR3 := hR2.out
              rw [if_pos rfl] at hR3
              subst hR3
              clear HS2 hR2
              go_wp2_with fail
              go_ret
              exact ⟨rfl, V1, F1⟩
            | false =>
              have hR3 := hR2.out
              rw [if_neg (by decide)] at hR3
              subst hR3
              clear hR2
              go_wp2_with fail
              refine (HS2.out _ V1).mono ?_
              rintro e2 w2 ⟨rfl, V3, F3⟩
              go_wp2_with fail
              go_ret
              exact ⟨rfl, V3, F1.trans F3⟩
  · rw [pageB_false.2 c2] at HP
    rw [if_pos (by omega)] at hR
    subst hR
    clear hV
    go_enter Tryz.func126, Tryz.ntmps126
    go_wp2_with fail
    refine (HP.out _).mono ?_
    rintro e9 w9 ⟨rfl, rfl⟩
    go_wp2_with fail
    go_ret
    exact ⟨rfl, hV'.out, Far.refl _ _⟩
theorem reserve6_any (B b : Nat) (a n : Int) (V : Vm) (w : World) (hV : RefIs w B b V) :
    Calls Tryz.prog 58 #[.pointer (some ⟨b, 0, none⟩), .int .i64 a, .int .i64 n] w fun e w' => e = .returned (.int .i64 (bec V a n 0 0 1).1) ∧ RefTo B b (bec V a n 0 0 1).2 w w' := by
  have HC := Lib.hid (change_any B b a n 0 1 0 V w hV (by decide))
  clear hV
  generalize bec V a n 0 0 1 = R at *
  go_enter Tryz.func58, Tryz.ntmps58
  go_wp2_with fail
  refine HC.out.mono ?_
  rintro e w1 ⟨rfl, h1, h2⟩
  go_wp2_with fail
  go_ret
  exact ⟨rfl, h1, h2⟩
theorem commit6_any (B b : Nat) (a n : Int) (V : Vm) (w : World) (hV : RefIs w B b V) :
    Calls Tryz.prog 59 #[.pointer (some ⟨b, 0, none⟩), .int .i64 a, .int .i64 n] w fun e w' => e = .returned (.int .i64 (bec V a n 2 1 2).1) ∧ RefTo B b (bec V a n 2 1 2).2 w w' := by
  have HC := Lib.hid (change_any B b a n 1 2 2 V w hV (by decide))
  clear hV
  generalize bec V a n 2 1 2 = R at *
  go_enter Tryz.func59, Tryz.ntmps59
  go_wp2_with fail
  refine HC.out.mono ?_
  rintro e w1 ⟨rfl, h1, h2⟩
  go_wp2_with fail
  go_ret
  exact ⟨rfl, h1, h2⟩
theorem decommit6_any (B b : Nat) (a n : Int) (V : Vm) (w : World) (hV : RefIs w B b V) :
    Calls Tryz.prog 157 #[.pointer (some ⟨b, 0, none⟩), .int .i64 a, .int .i64 n] w fun e w' => e = .returned (.int .i64 (bec V a n 3 2 1).1) ∧ RefTo B b (bec V a n 3 2 1).2 w w' := by
  have HC := Lib.hid (change_any B b a n 2 1 3 V w hV (by decide))
  clear hV
  generalize bec V a n 3 2 1 = R at *
  go_enter Tryz.func157, Tryz.ntmps157
  go_wp2_with fail
  refine HC.out.mono ?_
  rintro e w1 ⟨rfl, h1, h2⟩
  go_wp2_with fail
  go_ret
  exact ⟨rfl, h1, h2⟩
end Go.Proofs.YtpabnbhbcphfiaaGreat
namespace Go.Pol
open Go Go.RowKit
/-- pages of huge groups are committed; pages that are not have no bytes; kinds are kinds -/
structure GoodV (V : Vm) : Prop where
  kinds : KindOk V
  hug : ∀ p, p < 1024 → (V.pg p).huge = true → (V.pg p).kind = 2
  byt : ∀ p, p < 1024 → (V.pg p).kind ≠ 2 → ∀ k, (V.pg p).byt k = 0
theorem GoodV.of_pg {V U : Vm} (h : GoodV V) (e : U.pg = V.pg) : GoodV U := ⟨fun p hp => by rw [e]; exact h.kinds p hp, fun p hp => by rw [e]; exact h.hug p hp, fun p hp => by rw [e]; exact h.byt p hp⟩
theorem GoodV.eachP {V : Vm} (h : GoodV V) (a n : Nat) (f : Pg → Pg) (hk : ∀ p, p < 1024 → a ≤ p → p < a + n → 0 ≤ (f (V.pg p)).kind ∧ (f (V.pg p)).kind ≤ 3 ∧ ((f (V.pg p)).huge = true → (f (V.pg p)).kind = 2) ∧ ((f (V.pg p)).kind ≠ 2 → ∀ k, (f (V.pg p)).byt k = 0)) : GoodV (V.eachP a n f) := by
  have e : ∀ p, (V.eachP a n f).pg p = if a ≤ p ∧ p < a + n then f (V.pg p) else V.pg p := fun p => rfl
  refine ⟨fun p hp => ?_, fun p hp => ?_, fun p hp => ?_⟩
  · rw [e]
    split
    · rename_i h1; exact ⟨(hk p hp h1.1 h1.2).1, (hk p hp h1.1 h1.2).2.1⟩
    · exact h.kinds p hp
  · rw [e]
    split
    · rename_i h1; exact (hk p hp h1.1 h1.2).2.2.1
    · exact h.hug p hp
  · rw [e]
    split
    · rename_i h1; exact (hk p hp h1.1 h1.2).2.2.2
    · exact h.byt p hp
theorem GoodV.make {V : Vm} (h : GoodV V) (a n : Int) (call : Nat) (pr : Pg → Bool) (f : Pg → Pg) (hf : ∀ p, p < 1024 → pr (V.pg p) = true → 0 ≤ (f (V.pg p)).kind ∧ (f (V.pg p)).kind ≤ 3 ∧ ((f (V.pg p)).huge = true → (f (V.pg p)).kind = 2) ∧ ((f (V.pg p)).kind ≠ 2 → ∀ k, (f (V.pg p)).byt k = 0)) :
    GoodV (makeF V a n call pr f).2 := by
  unfold makeF
  split
  · exact h
  · split
    · exact h
    · rename_i hp
      rw [Bool.not_eq_false] at hp
      split
      · exact h.of_pg rfl
      · exact (h.of_pg (U := V.ref call) rfl).eachP _ _ _ (fun p hp2 h1 h2 => hf p hp2 (allP_iff.1 hp p h1 h2))
theorem GoodV.bec {V : Vm} (h : GoodV V) (a n : Int) (call : Nat) (fr tk : Int) (ht : 0 ≤ tk ∧ tk ≤ 3) : GoodV (bec V a n call fr tk).2 :=
  h.make a n call _ _ (fun p _ _ => ⟨ht.1, ht.2, fun h => (by cases h), fun _ _ => rfl⟩)
theorem GoodV.join {V : Vm} (h : GoodV V) (p : Int) : GoodV (Go.Pol.joinF V p).2 := by
  unfold Go.Pol.joinF
  split
  · exact h
  · split
    · exact h
    · refine h.make _ _ _ _ _ (fun q hq hk => ?_)
      have h2 : (V.pg q).kind = 2 := by simpa using hk
      have hg : ((V.pg q).hugeP true).kind = 2 := h2
      rw [hg]
      exact ⟨by omega, by omega, fun _ => rfl, fun h => absurd rfl h⟩
theorem GoodV.split {V : Vm} (h : GoodV V) (p : Int) : GoodV (splitF V p).2 := by
  unfold splitF
  split
  · exact h
  · refine h.make _ _ _ _ _ (fun q hq hk => ?_)
    have hb := h.kinds q hq
    exact ⟨hb.1, hb.2, fun h => (by cases h), h.byt q hq⟩
theorem GoodV.write {V : Vm} (h : GoodV V) (a v : Int) : GoodV (writeF V a v) := by
  unfold writeF
  by_cases c : whF V a = 0
  · rw [if_pos c]
    have hk : (V.pg (a / 64).toNat).kind = 2 := by
      unfold whF at c
      split at c
      · omega
      · split at c
        · omega
        · rename_i h; simpa using h
    have e : ∀ q, (V.setP (a / 64).toNat ((V.pg (a / 64).toNat).byteP (a % 64).toNat v)).pg q = if q = (a / 64).toNat then (V.pg (a / 64).toNat).byteP (a % 64).toNat v else V.pg q := fun q => rfl
    have e2 : ((V.pg (a / 64).toNat).byteP (a % 64).toNat v).kind = 2 := hk
    refine ⟨fun q hq => ?_, fun q hq => ?_, fun q hq => ?_⟩
    · rw [e]
      split
      · rw [e2]; omega
      · exact h.kinds q hq
    · rw [e]
      split
      · intro _; exact e2
      · exact h.hug q hq
    · rw [e]
      split
      · intro hc; exact absurd e2 hc
      · exact h.byt q hq
  · rw [if_neg c]; exact h
theorem GoodV.new : GoodV newVm := ⟨fun p _ => by show (0 : Int) ≤ 0 ∧ (0 : Int) ≤ 3; omega, fun p _ h => (by cases h), fun p _ _ k => rfl⟩
theorem GoodV.plan {V : Vm} (h : GoodV V) (l : List Ru) : GoodV (planF V l) := by
  unfold planF
  split
  · exact h.of_pg rfl
  · exact h
end Go.Pol
namespace Go.Proofs.YtpabnbhbcphfiaaGreat
open Go Go.Proofs Go.RowKit Go.Pol Go.Shelf
attribute [local go_sem] Oper.semAt_some Go.Pol.wide_fn Go.Pol.wide_depth Go.Pol.wide_fn' Go.Pol.wide_depth'

set_option maxRecDepth 100000 in
set_option maxHeartbeats 1600000 in
theorem where6_any (B b : Nat) (a : Int) (V : Vm) (w : World) (hV : RefIs w B b V) :
    Calls Tryz.prog 152 #[.pointer (some ⟨b, 0, none⟩), .int .i64 a] w fun e w' => e = .returned (.tuple #[.int .i64 (if whF V a = 0 then a / 64 else 0), .int .i64 (if whF V a = 0 then a % 64 else 0), .int .i64 (whF V a)]) ∧ w = w' := by
  obtain ⟨R, hR⟩ : ∃ R, whF V a = R := ⟨_, rfl⟩
  rw [hR]
  unfold whF at hR
  by_cases c1 : a < 0
  · have d1 : decide (a < 0) = true := by simpa using c1
    rw [if_pos (.inl c1)] at hR
    subst hR
    simp only [show ¬ (7 : Int) = 0 by omega, if_false]
    go_enter Tryz.func152, Tryz.ntmps152
    go_wp2_with fail
    (try simp only [Exit.inBlock, Exit.then]); refine bodyPost_ret (results_tmp3 rfl _ _ _) rfl ?_
    exact ⟨rfl, rfl⟩
  have d1 : decide (a < 0) = false := by simpa using c1
  by_cases c2 : 65536 ≤ a
  · have d2 : decide (65536 ≤ a) = true := by simpa using c2
    rw [if_pos (.inr c2)] at hR
    subst hR
    simp only [show ¬ (7 : Int) = 0 by omega, if_false]
    go_enter Tryz.func152, Tryz.ntmps152
    go_wp2_with fail
    (try simp only [Exit.inBlock, Exit.then]); refine bodyPost_ret (results_tmp3 rfl _ _ _) rfl ?_
    exact ⟨rfl, rfl⟩
  have d2 : decide (65536 ≤ a) = false := by simpa using c2
  rw [if_neg (by omega)] at hR
  obtain ⟨q, k, hqa, hq, hk⟩ : ∃ q k : Nat, a = ((q * 64 + k : Nat) : Int) ∧ q < 1024 ∧ k < 64 := ⟨(a / 64).toNat, (a % 64).toNat, by omega, by omega, by omega⟩
  have e1 : a / 64 = (q : Int) := by omega
  have e2 : a % 64 = (k : Int) := by omega
  rw [e1, Int.toNat_natCast] at hR
  rw [e1, e2]
  have hdv : Int.tdiv a 64 = (q : Int) := by rw [Int.tdiv_eq_ediv_of_nonneg (by omega)]; exact e1
  have hmd : Int.tmod a 64 = (k : Int) := by rw [Int.tmod_eq_emod_of_nonneg (by omega)]; exact e2
  have hql : (q : Int) < 1024 := by omega
  have hwq : wrap64 (q : Int) = (q : Int) := by unfold wrap64; omega
  obtain ⟨cs, A, n, cap, hkb, hc, _⟩ := hV.ex
  have c0 := (hkb.cell q).trans (hc.kind q hq)
  clear hkb hc hV e1 e2 hqa c1 c2
  by_cases hkd : (V.pg q).kind = 2
  · rw [if_neg (by simp [hkd])] at hR
    subst hR
    have dk : ((V.pg q).kind != 2) = false := by simpa using hkd
    simp only [if_true]
    clear hkd
    go_enter Tryz.func152, Tryz.ntmps152
    go_wp2_with fail
    (try simp only [Exit.inBlock, Exit.then]); refine bodyPost_ret (results_tmp3 rfl _ _ _) rfl ?_
    exact ⟨rfl, rfl⟩
  · rw [if_pos hkd] at hR
    subst hR
    have dk : ((V.pg q).kind != 2) = true := by simpa using hkd
    simp only [show ¬ (61 : Int) = 0 by omega, if_false]
    clear hkd
    go_enter Tryz.func152, Tryz.ntmps152
    go_wp2_with fail
    (try simp only [Exit.inBlock, Exit.then]); refine bodyPost_ret (results_tmp3 rfl _ _ _) rfl ?_
    exact ⟨rfl, rfl⟩
set_option maxRecDepth 100000 in
set_option maxHeartbeats 1600000 in
theorem write6_any (B b : Nat) (a v : Int) (V : Vm) (w : World) (hV : RefIs w B b V) :
    Calls Tryz.prog 91 #[.pointer (some ⟨b, 0, none⟩), .int .i64 a, .int .u8 v] w fun e w' => e = .returned (.int .i64 (whF V a)) ∧ RefTo B b (writeF V a v) w w' := by
  have HW := Lib.hid (where6_any B b a V w hV)
  have hV' := Lib.hid hV
  unfold RefTo
  obtain ⟨P, hP⟩ : ∃ P, writeF V a v = P := ⟨_, rfl⟩
  rw [hP]
  unfold writeF at hP
  obtain ⟨R, hR⟩ : ∃ R, whF V a = R := ⟨_, rfl⟩
  rw [hR] at hP HW ⊢
  by_cases c0 : R = 0
  · subst c0
    rw [if_pos rfl] at hP
    simp only [if_true] at HW
    have ha : ¬ (a < 0 ∨ 65536 ≤ a) := fun hc => by unfold whF at hR; rw [if_pos hc] at hR; omega
    obtain ⟨q, hq1⟩ : ∃ q : Nat, a / 64 = (q : Int) := ⟨(a / 64).toNat, by omega⟩
    obtain ⟨k, hk1⟩ : ∃ k : Nat, a % 64 = (k : Int) := ⟨(a % 64).toNat, by omega⟩
    rw [hq1, hk1] at hP HW
    simp only [Int.toNat_natCast] at hP
    have hq : q < 1024 := by omega
    have hk : k < 64 := by omega
    have hq2 : (q : Int) < 1024 := by omega
    have hk2 : (k : Int) < 64 := by omega
    have hset := hV.putByte hq hk v
    rw [hP] at hset
    have hset' := Lib.hid hset
    obtain ⟨cs, A, n, cap, hkb, hc, _⟩ := hV.ex
    have e1 := (hkb.cell (1088 + q * 64 + k)).trans (hc.byt q hq k hk)
    have f1 := hkb.frozen
    clear hkb hc hV hP hset hR ha hq1 hk1
    go_enter Tryz.func91, Tryz.ntmps91
    go_wp2_with fail
    refine HW.out.mono ?_
    rintro e9 w9 ⟨rfl, rfl⟩
    go_wp2_with fail
    go_ret
    exact ⟨rfl, hset'.out.1, hset'.out.2⟩
  · rw [if_neg c0] at hP
    simp only [if_neg c0] at HW
    subst hP
    have d0 : (R == 0) = false := by simpa using c0
    clear hR hV
    go_enter Tryz.func91, Tryz.ntmps91
    go_wp2_with fail
    refine HW.out.mono ?_
    rintro e9 w9 ⟨rfl, rfl⟩
    go_wp2_with fail
    go_ret
    exact ⟨rfl, hV'.out, Far.refl _ _⟩
theorem fst_mod {q : Nat} (h : fstB (q : Int) = false) (hq : q < 1024) : (Int.tmod (q : Int) 16 != 0) = true := by
  unfold fstB at h
  rw [bne_iff_ne, Int.tmod_eq_emod_of_nonneg (by omega)]
  simp at h
  omega
theorem fst_mod1 {q : Nat} (h : fstB (q : Int) = true) : (Int.tmod (q : Int) 16 != 0) = false ∧ q < 1024 ∧ ∃ g, q = g * 16 ∧ g < 64 := by
  unfold fstB at h
  simp at h
  refine ⟨?_, by omega, q / 16, by omega, by omega⟩
  rw [Bool.eq_false_iff]
  intro hc
  rw [bne_iff_ne, Int.tmod_eq_emod_of_nonneg (by omega)] at hc
  omega
set_option maxRecDepth 100000 in
set_option maxHeartbeats 1600000 in
theorem join6_any (B b : Nat) (p : Int) (V : Vm) (w : World) (hV : RefIs w B b V) (hG : GoodV V) :
    Calls Tryz.prog 92 #[.pointer (some ⟨b, 0, none⟩), .int .i64 p] w fun e w' => e = .returned (.int .i64 (Go.Pol.joinF V p).1) ∧ RefTo B b (Go.Pol.joinF V p).2 w w' := by
  have hV' := Lib.hid hV
  have HP := Lib.hid (fun W => page_any p W)
  obtain ⟨R, hR⟩ : ∃ R, Go.Pol.joinF V p = R := ⟨_, rfl⟩
  rw [hR]
  unfold Go.Pol.joinF at hR
  by_cases c2 : 0 ≤ p ∧ p < 1024
  · rw [pageB_true.2 c2] at HP
    obtain ⟨q, rfl⟩ : ∃ q : Nat, p = (q : Int) := ⟨p.toNat, by omega⟩
    simp only [Int.toNat_natCast] at hR
    have hq : q < 1024 := by omega
    cases hf : fstB (q : Int) with
    | false =>
      rw [if_pos hf] at hR
      subst hR
      have d2 := fst_mod hf hq
      obtain ⟨rm, hrm⟩ : ∃ rm, Int.tmod (q : Int) 16 = rm := ⟨_, rfl⟩
      rw [hrm] at d2
      clear hf hV
      go_enter Tryz.func92, Tryz.ntmps92
      go_wp2_with fail
      refine (HP.out _).mono ?_
      rintro e9 w9 ⟨rfl, rfl⟩
      go_wp2_with fail
      go_ret
      exact ⟨rfl, hV'.out, Far.refl _ _⟩
    | true =>
      rw [if_neg (by simp [hf])] at hR
      obtain ⟨d2, _, g, hqg, hg⟩ := fst_mod1 hf
      obtain ⟨rm, hrm⟩ : ∃ rm, Int.tmod (q : Int) 16 = rm := ⟨_, rfl⟩
      rw [hrm] at d2
      have hdv : Int.tdiv (q : Int) 16 = (g : Int) := by rw [Int.tdiv_eq_ediv_of_nonneg (by omega)]; omega
      have hwg : wrap64 (g : Int) = (g : Int) := by unfold wrap64; omega
      have hgl : (g : Int) < 64 := by omega
      have HK := Lib.hid (kinds_any B b q 16 2 V w hV (by omega))
      have HRf := Lib.hid (refRefused_any B b 5 V w hV (by decide))
      obtain ⟨cs, A, n, cap, hkb, hc, _⟩ := hV.ex
      have hch := hc.huge q hq
      rw [show q / 16 = g by omega] at hch
      have c1 := (hkb.cell (1024 + g)).trans hch
      have hR' := Lib.hid hR
      have hmk : makeF V (q : Int) 16 5 (fun g => g.kind == 2) (fun g => g.hugeP true) = if allP V q 16 (fun g => g.kind == 2) = false then (9, V) else if refB V.rf 5 = true then (60, V.ref 5) else (0, (V.ref 5).eachP q 16 (fun g => g.hugeP true)) := by
        unfold makeF
        rw [if_neg (by omega)]
        simp only [Int.toNat_natCast]
        rfl
      cases hh : (V.pg q).huge with
      | true =>
        -- a huge page's group is committed as a whole
        have hall : allP V q 16 (fun g => g.kind == 2) = true := allP_iff.2 fun r h1 h2 => by
          have hr := hc.huge r (by omega)
          rw [show r / 16 = g by omega, hch, hh] at hr
          have : (V.pg r).huge = true := by injection hr with hr; injection hr with hr; exact hr.symm
          simpa using hG.hug r (by omega) this
        rw [hall] at HK
        rw [hh] at c1
        have hR2 := hR'.out
        rw [if_pos hh] at hR2
        subst hR2
        clear hf hV hkb hc hch hmk hall hR hqg
        go_enter Tryz.func92, Tryz.ntmps92
        go_wp2_with fail
        refine (HP.out _).mono ?_
        rintro e9 w9 ⟨rfl, rfl⟩
        go_wp2_with fail
        refine HK.out.mono ?_
        rintro e9 w9 ⟨rfl, rfl⟩
        go_wp2_with fail
        go_ret
        exact ⟨rfl, hV'.out, Far.refl _ _⟩
      | false =>
        rw [hh] at c1
        have hR2 := hR'.out
        rw [if_neg (by simp [hh]), hmk] at hR2
        have hR3 := Lib.hid hR2
        clear hf hV hkb hc hch hmk hR hR2 hR' hh
        have hqg' := Lib.hid hqg
        clear hqg
        generalize allP V q 16 (fun g => g.kind == 2) = al at *
        cases al with
        | false =>
          have hR4 := hR3.out
          rw [if_pos rfl] at hR4
          subst hR4
          go_enter Tryz.func92, Tryz.ntmps92
          go_wp2_with fail
          refine (HP.out _).mono ?_
          rintro e9 w9 ⟨rfl, rfl⟩
          go_wp2_with fail
          refine HK.out.mono ?_
          rintro e9 w9 ⟨rfl, rfl⟩
          go_wp2_with fail
          go_ret
          exact ⟨rfl, hV'.out, Far.refl _ _⟩
        | true =>
          have hR4 := hR3.out
          rw [if_neg (by decide)] at hR4
          have hR5 := Lib.hid hR4
          clear hR3 hR4
          generalize refB V.rf 5 = rb at *
          generalize V.ref 5 = V2 at *
          go_enter Tryz.func92, Tryz.ntmps92
          go_wp2_with fail
          refine (HP.out _).mono ?_
          rintro e9 w9 ⟨rfl, rfl⟩
          go_wp2_with fail
          refine HK.out.mono ?_
          rintro e9 w9 ⟨rfl, rfl⟩
          go_wp2_with fail
          refine HRf.out.mono ?_
          rintro e9 w1 ⟨rfl, V1, F1⟩
          cases rb with
          | true =>
            have hR6 := hR5.out
            rw [if_pos rfl] at hR6
            subst hR6
            go_wp2_with fail
            go_ret
            exact ⟨rfl, V1, F1⟩
          | false =>
            have hR6 := hR5.out
            rw [if_neg (by decide)] at hR6
            have hput := V1.putH hg true
            rw [← hqg'.out] at hput
            obtain rfl := hR6
            have hput' := Lib.hid hput
            obtain ⟨cs1, A1, n1, cap1, hkb1, hc1, _⟩ := V1.ex
            have hch1 := hc1.huge q hq
            rw [show q / 16 = g by have := hqg'.out; omega] at hch1
            have c2 := (hkb1.cell (1024 + g)).trans hch1
            have f2 := hkb1.frozen
            clear hkb1 hc1 hch1 hput c1
            go_wp2_with fail
            go_ret
            exact ⟨rfl, hput'.out.1, F1.trans hput'.out.2⟩
  · rw [pageB_false.2 c2] at HP
    have hf : fstB p = false := by
      unfold fstB
      rw [Bool.eq_false_iff]
      intro h
      simp at h
      omega
    rw [if_pos hf] at hR
    subst hR
    clear hf hV
    go_enter Tryz.func92, Tryz.ntmps92
    go_wp2_with fail
    refine (HP.out _).mono ?_
    rintro e9 w9 ⟨rfl, rfl⟩
    go_wp2_with fail
    go_ret
    exact ⟨rfl, hV'.out, Far.refl _ _⟩
end Go.Proofs.YtpabnbhbcphfiaaGreat
namespace Go.Pol
open Go Go.RowKit
/-- a new system of the reference is handed back; its rules are none -/
def RNewO (B : Nat) (w : World) (e : Ending) (w' : World) : Prop := ∃ b, e = .returned (.tuple #[.pointer (some ⟨b, 0, none⟩), .int .i64 0]) ∧ RefIs w' B b newVm ∧ w.heap.size ≤ b ∧ Below w.heap.size w w'
end Go.Pol
namespace Go.Proofs.YtpabnbhbcphfiaaGreat
open Go Go.Proofs Go.RowKit Go.Pol Go.Shelf
attribute [local go_sem] Oper.semAt_some Go.Pol.wide_fn Go.Pol.wide_depth Go.Pol.wide_fn' Go.Pol.wide_depth'

set_option maxRecDepth 100000 in
set_option maxHeartbeats 1600000 in
theorem new6_any (B : Nat) (w : World) (hB : B ≤ w.heap.size) :
    Calls Tryz.prog 57 #[.agg #[.slice none 0 0]] w (RNewO B w) := by
  have hb0 := (Below.refl w.heap.size w).alloc (Nat.le_refl _) (.cells #[.slice none 0 0] 25)
  have k0 := Blk.new w 25 #[.slice none 0 0]
  have c0 := k0.cell
  have HS := Lib.hid (fun W => rstart_any none 0 0 [] W rfl (fun k hk => absurd hk (by simp [fl])))
  unfold RStartO at HS
  have hch : chkR [] = (0, 0) := by decide
  rw [hch] at HS
  simp only [if_true] at HS
  go_enter Tryz.func57, Tryz.ntmps57
  go_wp2_with fail
  refine (HS.out _).mono ?_
  rintro e w1 ⟨rfl, hb1⟩
  have B1 := hb0.trans (hb1.mono hb0.size)
  have hB2 := B1.alloc B1.size (.cells (rfC (.slice none 0 0) (fun _ => 0) (fun _ => 0)).toArray 51)
  have hzs := Tryz.zeroCells142_size
  have hzz := zeroRef
  obtain ⟨zc, hzc⟩ : ∃ zc, Tryz.zeroCells142 = zc := ⟨_, rfl⟩
  rw [hzc] at hzs hzz
  have hne : ¬ zc = #[] := fun e => by rw [e] at hzs; simp at hzs
  have hC := Lib.hid (newRef hzz (.slice none 0 0))
  have kz := Blk.new w1 51 (rfC (.slice none 0 0) (fun _ => 0) (fun _ => 0)).toArray
  clear hzz c0 k0 HS
  unfold rfC at hB2 kz
  unfold rfV rfC
  go_upto_region 4 with fail
  generalize w1.alloc _ = w2 at *
  have cz := kz.cell
  have hB3 := hB2.alloc hB2.size (.cells (putA zc 66624 (rfC (.slice none 0 0) (fun _ => 0) (fun _ => 0))) 142)
  have kS := Blk.new w2 142 (putA zc 66624 (rfC (.slice none 0 0) (fun _ => 0) (fun _ => 0)))
  have hbs := hB2.size
  go_wp2_with fail
  go_ret2
  refine ⟨w2.heap.size, rfl, ?_, hbs, hB3⟩
  exact ⟨_, none, 0, 0, kS, hC.out, ⟨rfl, fun _ => rfl⟩, fun k hk => absurd hk (by simp [fl, newVm]), by omega, ⟨by decide, fun k _ => ⟨Int.le_refl _, (by show (0 : Int) ≤ 1000000; decide)⟩, fun k _ => rfl⟩⟩
set_option maxRecDepth 100000 in
set_option maxHeartbeats 1600000 in
theorem plan6_any (B b : Nat) (A : Option Addr) (n cap : Nat) (l : List Ru) (V : Vm) (w : World) (hV : RefIs w B b V) (hn : l.length = n) (hz : A = none → cap = 0) (hr : Rd w B A (fl ruC l)) :
    Calls Tryz.prog 61 #[.pointer (some ⟨b, 0, none⟩), .agg #[.slice A n cap]] w fun e w' => e = .returned (.int .i64 (chkR l).2) ∧ RefTo B b (planF V l) w w' := by
  have hb0 := (Below.refl w.heap.size w).alloc (Nat.le_refl _) (.cells #[.slice A n cap] 25)
  have k0 := Blk.new w 25 #[.slice A n cap]
  have c0 := k0.cell
  have hbs := hV.lt
  have hbB := hV.base
  have r0 := (hr.more (show B ≤ w.heap.size by omega)).on_ hb0
  have HS := Lib.hid (fun W h => rstart_any A n cap l W hn h)
  have hV' := Lib.hid hV
  have hr' := Lib.hid hr
  have hn' := Lib.hid hn
  have hz' := Lib.hid hz
  unfold RefTo
  obtain ⟨P, hP⟩ : ∃ P, planF V l = P := ⟨_, rfl⟩
  rw [hP]
  unfold planF at hP
  have hnk := Lib.hid (newRf_ok (l := l))
  unfold RStartO at HS
  obtain ⟨f0, hf0⟩ : ∃ f0 : Nat → Int, (fun _ : Nat => (0 : Int)) = f0 := ⟨_, rfl⟩
  have e1 : (newRf l).calls = f0 := hf0
  have e2 : (newRf l).hits = f0 := hf0
  have e12 := Lib.hid (And.intro e1 e2)
  rw [hf0] at HS
  clear e1 e2 hf0
  generalize (chkR l).2 = re at *
  have hP' := Lib.hid hP
  clear hP hV hr k0 hn hz
  go_enter Tryz.func61, Tryz.ntmps61
  go_upto_region 1 with fail
  generalize w.alloc _ = w0 at *
  go_wp2_with fail
  refine (HS.out _ r0).mono ?_
  rintro e w1 ⟨rfl, hb1⟩
  by_cases h0 : re = 0
  · have hP2 := hP'.out
    rw [if_pos h0] at hP2
    rw [if_pos h0]
    have B1 := hb0.trans (hb1.mono hb0.size)
    have hbz := (Below.refl w1.heap.size w1).alloc (Nat.le_refl _) (.cells (rfC (.slice A n cap) f0 f0).toArray 51)
    have hb2 := B1.trans (hbz.mono B1.size)
    have hput := hV'.out.putRf (newRf l) A n cap hb2 hn'.out hz'.out (hr'.out.keepB (T := fun _ => False) (Far.of_below hb2) (fun _ h => h.elim)) (hnk.out h0)
    obtain ⟨cs9, A9, n9, c9, k8, h9, h10⟩ := hV'.out.ex
    have k9 := k8.call hb2
    have hcs9 := h9.size
    have kz := Blk.new w1 51 (rfC (.slice A n cap) f0 f0).toArray
    clear h10 h9 hb2 HS hP' c0 r0 k8
    rw [e12.out.1, e12.out.2] at hput
    change RefIs (World.setCells _ b 66624 (rfC (.slice A n cap) f0 f0)) B b { V with rf := newRf l } ∧ Far (fun k => k = b) w (World.setCells _ b 66624 (rfC (.slice A n cap) f0 f0)) at hput
    rw [hP2] at hput
    subst h0
    have hput' := Lib.hid hput
    clear hput hP2
    unfold rfC at hbz k9 hput' kz
    unfold rfV rfC
    obtain ⟨s, hs⟩ : ∃ s, w1.heap.size = s := ⟨_, rfl⟩
    rw [hs] at kz
    go_upto_region 2 with fail
    generalize w1.alloc _ = w2 at *
    clear hs hbz
    have cz := kz.cell
    have ht : w2.there b 66624 (rfC (.slice A n cap) f0 f0).toArray.size := z_there k9 66624 15 (by omega)
    have hone := Go.all_oneCell_toArray (rfC_one (v := .slice A n cap) rfl f0 f0)
    have hput2 : Hid (RefIs (w2.setCells b 66624 (rfC (.slice A n cap) f0 f0)) B b P ∧ Far (fun k => k = b) w (w2.setCells b 66624 (rfC (.slice A n cap) f0 f0))) := hput'
    clear hcs9 k9 kz hput'
    go_wp2_with (refine wpList_store_mid rfl 51 (.tmp 17) (.tmp 15) rfl b 66624 (rfC (.slice A n cap) f0 f0).toArray ?hxx ?hyy ht infoRf hone ?_)
    case hxx => rfl
    case hyy => rfl
    generalize w2.setCells b 66624 _ = w4 at *
    go_ret
    exact ⟨rfl, hput2.out.1, hput2.out.2⟩
  · have hP2 := hP'.out
    rw [if_neg h0] at hP2
    subst hP2
    rw [if_neg h0]
    have he : (re == 0) = false := by simpa using h0
    have hbz := (hb0.trans (hb1.mono hb0.size)).alloc (by have := hb0.size; have := hb1.size; omega) (.cells (rfC (.slice none 0 0) f0 f0).toArray 51)
    unfold rfC at hbz
    have V1 := hV'.out.call hbz
    clear HS hP' c0 r0
    unfold rfV rfC
    go_wp2_with fail
    go_ret
    exact ⟨rfl, V1, .of_below hbz⟩
end Go.Proofs.YtpabnbhbcphfiaaGreat
namespace Go.Proofs.YtpabnbhbcphfiaaGreat
open Go Go.Proofs Go.RowKit Go.Pol Go.Shelf
attribute [local go_sem] Oper.semAt_some Go.Pol.wide_fn Go.Pol.wide_depth Go.Pol.wide_fn' Go.Pol.wide_depth'
/-- a cell of an own row put anew -/
theorem own_bump {w : World} {base n sz g i cap : Nat} {e : TypeId} {xs : List Value} {v : Value} (h : w.ownsRow base e sz (.slice (some ⟨g, 0, none⟩) n cap) n xs) (_ : i < n * sz) :
    (w.setCell ⟨g, i, none⟩ v).ownsRow base e sz (.slice (some ⟨g, 0, none⟩) n cap) n (xs.set i v) := by
  refine ⟨by rw [List.length_set]; exact h.1, ?_⟩
  rcases h.2 with ⟨hn, _⟩ | ⟨g', cap', cur, hv, hb, hk, hc, hm, hs, ht⟩
  · cases hn
  · cases hv
    have hk' : Blk w g e cur := hk
    refine .inr ⟨g, cap, cur.setIfInBounds i v, rfl, hb, hk'.set_ i v, hc, hm, by rw [Array.size_setIfInBounds]; exact hs, ?_⟩
    rw [Array.toList_setIfInBounds, List.take_set, ht]
theorem fl_bump (l : List Rn) (x : Rn) : fl rnC (l ++ [(x.1, x.2.1 + 1, x.2.2)]) = (fl rnC (l ++ [x])).set (l.length * 3 + 1) (.int .i64 (x.2.1 + 1)) := by
  rw [fl_append, fl_append, List.set_append_right _ _ (by rw [fl_len rnC_len]; omega), fl_len rnC_len, show l.length * 3 + 1 - l.length * 3 = 1 by omega]
  rfl
theorem rnC_one1 (x : Rn) : ∀ u ∈ rnC x, u.oneCell' = true := fun u hu => rnC_one [x] u (by simpa [fl] using hu)
theorem news_list {w : World} {g : Nat} {t : TypeId} {l : List Value} (h : Blk w g t l.toArray) : ∀ (j : Nat) (u : Value), l[j]? = some u → w.cell? ((⟨g, 0, none⟩ : Addr).add j) = some u := fun j u hu => by
  rw [addr_add0, Nat.zero_add, h.cell]; simpa using hu
theorem yieldsIf_build {P : Program} {ops : Array Oper} {S : World → Prop} {op : Oper} {a : Act} (hw : Region.wanted op (yielded ops a.tmps) = true) (t : TypeId) (parts : List (Nat × Operand)) (ho : op.op = .build t parts.toArray)
    (vals : List (Nat × Value)) (hv : parts.map (fun x => (x.1, a.eval x.2)) = vals) (cells : Array Value) (hb : P.built t vals = some cells) : YieldsIf P ops S op (.agg cells) a :=
  .inl ⟨hw, fun w _ => by
    have hb' : P.built t (parts.toArray.map fun (i, x) => (i, a.eval x)).toList = some cells := by
      rw [← hb, ← hv]; simp
    unfold execOp
    simp only [ho, Sem.run_bind, run_build w t _ cells hb', Result.andThen_ok]
    rfl⟩
theorem wp_buildSliceU {P : Program} {o : Oper} {a : Act} {w : World} {K : Act → World → Prop} {Q : Exit → Act → World → Prop} (t e : TypeId) (len : Nat) (parts : List (Nat × Operand)) (ho : o.op = .buildSlice t len parts.toArray)
    (vals : List (Nat × Value)) (hv : parts.map (fun x => (x.1, a.eval x.2)) = vals) (cells : Array Value) (ie : TypeInfo) (z : Value)
    (hu : P.underlying t = some (.slice e)) (hie : P.info? e = some ie) (hz : ie.zero = some z) (hsmall : ¬ len * ie.size > 2 ^ 24) (hpos : ¬ len * ie.size = 0)
    (hf : Instr.fill (fun i => some (i * ie.size, ie.size)) ((Array.range (len * ie.size)).map (z.cells[· % z.cells.size]!)) vals = some cells)
    (h : K (a.put o.dst (.slice (some ⟨w.heap.size, 0, none⟩) len len)) (w.alloc (.cells cells e))) : o.wp P a w K Q :=
  wp_buildSlice t e len parts.toArray ho cells ie z hu hie hz hsmall hpos (by rw [← hf, ← hv]; simp) h
theorem wpList_load_midW {P : Program} {ops : Array Oper} {rest : List Oper} {op : Oper} {a : Act} {w : World} {Q : Exit → Act → World → Prop} (ty : TypeId) (x : Operand) (ho : op.op = .load ty x) (hw : Region.wanted op (yielded ops a.tmps) = true)
    (b o : Nat) (hx : a.eval x = .pointer (some ⟨b, o, none⟩)) (cs : List Value) (d : TypeDesc) (hc : w.rangeAt b o cs)
    (hu : P.underlying ty = some d) (hd : d.isRow = true) (hi : (P.info? ty).map (·.size) = some cs.length)
    (h : wpList P ops Q rest (a.put op.dst (.agg cs.toArray)) w) : wpList P ops Q (op :: rest) a w :=
  wpList_step fun K hK => by
    simp only [hw, if_true]
    exact wp_load_mid ty x ho b o hx cs d hc hu hd hi (hK _ _ h)
theorem rows_apart {w : World} {base1 base2 n1 n2 sz1 sz2 g : Nat} {e1 e2 : TypeId} {v1 v2 : Value} {xs1 xs2 : List Value} (h1 : w.ownsRow base1 e1 sz1 v1 n1 xs1) (h2 : w.ownsRow base2 e2 sz2 v2 n2 xs2) (hne : e1 ≠ e2)
    (hg1 : v1.ownBlock = some g) (hg2 : v2.ownBlock = some g) : False := by
  rcases h2.2 with ⟨hx, _⟩ | ⟨g', cap', cur, hx, _, hkx, _⟩
  · rw [hx] at hg2; cases hg2
  · rw [hx] at hg2
    have e' : g' = g := by injection hg2
    subst e'
    exact own_other h1 hg1 (show Blk w g' e2 cur from hkx) hne
theorem row_kept {w w' : World} {NB n1 n2 sz1 sz2 s : Nat} {e1 e2 : TypeId} {v1 v2 : Value} {xs1 xs2 : List Value} (h1 : w.ownsRow NB e1 sz1 v1 n1 xs1) (h2 : w.ownsRow NB e2 sz2 v2 n2 xs2) (hne : e1 ≠ e2) (hs : s < NB)
    (F : Far (fun g => g = s ∨ v2.ownBlock = some g) w w') : w'.ownsRow NB e1 sz1 v1 n1 xs1 :=
  ownsRow_far h1 F (fun g hg h => h.elim (fun h => by have := (h1.lt g hg).1; omega) (fun h => rows_apart h1 h2 hne hg h))
/-- of the runs the last goes on -/
theorem vruns_last {V : Vm} : ∀ k, k ≤ 1024 → ∀ x ∈ vrunsL V k, 0 ≤ x.2.1 ∧ x.2.1 ≤ (k : Int)
  | 0, _, x, hx => by cases hx
  | k + 1, hk, x, hx => by
    have ih := vruns_last (V := V) k (by omega)
    rw [vrunsL_succ] at hx
    split at hx
    · have := ih x hx; omega
    · split at hx
      · rcases List.eq_nil_or_concat (vrunsL V k) with h | ⟨l, y, h⟩
        · rw [h] at hx; cases hx
        · rw [h, List.concat_eq_append, bumpR_snoc] at hx
          rw [List.mem_append, List.mem_singleton] at hx
          rcases hx with hx | rfl
          · have := ih x (by rw [h, List.concat_eq_append]; exact List.mem_append_left _ hx); omega
          · have := ih y (by rw [h, List.concat_eq_append]; simp)
            show 0 ≤ y.2.1 + 1 ∧ y.2.1 + 1 ≤ _
            omega
      · rw [List.mem_append, List.mem_singleton] at hx
        rcases hx with hx | rfl
        · have := ih x hx; omega
        · show (0 : Int) ≤ 1 ∧ (1 : Int) ≤ _
          omega
noncomputable def runOps : Array Oper := (Tryz.f17.body.bind (regOpsU 10)).getD #[]
noncomputable def datOps : Array Oper := (Tryz.f17.body.bind (regOpsU 14)).getD #[]
def RunS (b s k : Nat) (v : Value) (K : Int) (w : World) : Prop := w.cell? ⟨s, 0, none⟩ = some v ∧ w.cell? ⟨b, k, none⟩ = some (.int .i64 K)
theorem RunS.later {b s k : Nat} {v : Value} {K : Int} {w w' : World} (h : RunS b s k v K w) (hF : Below w.heap.size w w') (hb : b < w.heap.size) (hs : s < w.heap.size) : RunS b s k v K w' :=
  ⟨(hF.cell (p := ⟨s, 0, none⟩) hs).trans h.1, (hF.cell (p := ⟨b, k, none⟩) hb).trans h.2⟩
set_option maxRecDepth 100000 in
set_option maxHeartbeats 1600000 in
theorem save6_run {Q : Exit → Act → World → Prop} {u1 u2 u5 u6 u7 u8 u9 u10 u11 u12 u13 u14 u15 u16 u17 u18 u19 u20 u21 u22 u23 u24 u25 u26 u27 u28 u29 u30 u31 u32 u33 u34 u35 u36 u37 u38 u39 u40 u41 u42 u43 u44 u45 u46 u47 u48 u49 u50 u51 u52 u53 u54 u55 u56 u57 u58 u59 u60 u61 u62 u63 u64 u65 u66 u67 u68 u69 u70 u71 u72 u73 u74 u75 u76 u77 u78 u79 u80 u81 u82 u83 u84 u85 u86 u87 u88 u89 u90 u91 u92 u93 u94 u95 u96 u97 u98 u99 u100 u101 u102 u103 u104 u105 u106 u107 u108 u109 u110 u111 u112 u113 u114 u115 u116 u117 u118 u119 u120 u121 u122 u123 u124 u125 : Value} {D : List Deferred} (b s k NB N1 cap1 : Nat) (A1 : Option Addr) (kd : Int) (cs : Array Value) (xs : List Value) (w : World)
    (hk : (k : Int) < 1024) (hN : N1 ≤ 1024) (hb : b < w.heap.size) (hs : s < w.heap.size) (hNB : NB ≤ w.heap.size) (hbN : b < NB) (hbs : ¬ b = s) (hcK : w.cell? ⟨b, k, none⟩ = some (.int .i64 kd))
    (k3 : Blk w s 53 cs) (h3 : w.cell? ⟨s, 0, none⟩ = some (.slice A1 N1 cap1)) (ro : w.ownsRow NB 122 3 (.slice A1 N1 cap1) N1 xs)
    (hQ : ∀ (x64 x65 x66 x67 x68 x69 x70 x71 x72 x73 x74 x75 x76 : Value) (w' : World) (A1' : Option Addr) (cap1' : Nat), w.heap.size ≤ w'.heap.size → Blk w' s 53 (cs.setIfInBounds 0 (.slice A1' (N1 + 1) cap1')) → w'.ownsRow NB 122 3 (.slice A1' (N1 + 1) cap1') (N1 + 1) (xs ++ rnC ((k : Int), 1, kd)) →
      Far (fun g => g = s ∨ (Value.slice A1 N1 cap1).ownBlock = some g) w w' → Q .normal ⟨#[(.pointer (some ⟨b, 0, none⟩)), u1, u2, (.pointer (some ⟨s, 0, none⟩)), (.int .i64 (k : Int)), u5, u6, u7, u8, u9, u10, u11, u12, u13, u14, u15, u16, u17, u18, u19, u20, u21, u22, u23, u24, u25, u26, u27, u28, u29, u30, u31, u32, u33, u34, u35, u36, u37, u38, u39, u40, u41, u42, u43, u44, u45, u46, u47, u48, u49, u50, u51, u52, u53, u54, u55, u56, u57, u58, u59, u60, u61, u62, u63, x64, x65, x66, x67, x68, x69, x70, x71, x72, x73, x74, x75, x76, u77, u78, u79, u80, u81, u82, u83, u84, u85, u86, u87, u88, u89, u90, u91, u92, u93, u94, u95, u96, u97, u98, u99, u100, u101, u102, u103, u104, u105, u106, u107, u108, u109, u110, u111, u112, u113, u114, u115, u116, u117, u118, u119, u120, u121, u122, u123, u124, u125], D⟩ w') :
    (Code.region 10 runOps true).wp Tryz.prog Q ⟨#[(.pointer (some ⟨b, 0, none⟩)), u1, u2, (.pointer (some ⟨s, 0, none⟩)), (.int .i64 (k : Int)), u5, u6, u7, u8, u9, u10, u11, u12, u13, u14, u15, u16, u17, u18, u19, u20, u21, u22, u23, u24, u25, u26, u27, u28, u29, u30, u31, u32, u33, u34, u35, u36, u37, u38, u39, u40, u41, u42, u43, u44, u45, u46, u47, u48, u49, u50, u51, u52, u53, u54, u55, u56, u57, u58, u59, u60, u61, u62, u63, u64, u65, u66, u67, u68, u69, u70, u71, u72, u73, u74, u75, u76, u77, u78, u79, u80, u81, u82, u83, u84, u85, u86, u87, u88, u89, u90, u91, u92, u93, u94, u95, u96, u97, u98, u99, u100, u101, u102, u103, u104, u105, u106, u107, u108, u109, u110, u111, u112, u113, u114, u115, u116, u117, u118, u119, u120, u121, u122, u123, u124, u125], D⟩ w := by
  conv => arg 2; arg 2; whnf
  obtain ⟨i0, hi, hz0, hz1, hz2⟩ := infoRn_parts
  refine wp_noPanic ?_
  refine wp_region_T (RunS b s k (.slice A1 N1 cap1) kd) [13] (by kernel_rfl) ?_
  have hS0 : RunS b s k (.slice A1 N1 cap1) kd w := ⟨h3, hcK⟩
  have hB0 : Below w.heap.size w w.drew := (Below.refl _ w).drew
  have hS : RunS b s k (.slice A1 N1 cap1) kd w.drew := hS0
  clear h3 hcK
  refine' wpAnyT_take (i := 0) (v := _) ?hiT0 (by kernel_rfl) ?hQT0 (Or.inl ⟨?hwT0, ?hyT0⟩) hS ?reT0
  case hiT0 => (simp only [List.getElem?_toArray, List.getElem?_cons_zero]; rfl)
  case hQT0 => exact fun _ _ _ h => h
  case hwT0 => rfl
  case hyT0 => (intro wS hSw; obtain ⟨_, _⟩ := hSw; go_simp; (try with_reducible rfl))
  try simp only [Act.put, List.setIfInBounds_toArray, List.set_cons_zero, List.set_cons_succ]
  refine' wpAnyT_take (i := 1) (v := _) ?hiT1 (by kernel_rfl) ?hQT1 (Or.inl ⟨?hwT1, ?hyT1⟩) hS ?reT1
  case hiT1 => (simp only [List.getElem?_toArray, List.getElem?_cons_succ, List.getElem?_cons_zero]; rfl)
  case hQT1 => exact fun _ _ _ h => h
  case hwT1 => rfl
  case hyT1 => (intro wS hSw; obtain ⟨_, _⟩ := hSw; go_simp; (try with_reducible rfl))
  try simp only [Act.put, List.setIfInBounds_toArray, List.set_cons_zero, List.set_cons_succ]
  refine' wpAnyT_take (i := 2) (v := _) ?hiT2 (by kernel_rfl) ?hQT2 (Or.inl ⟨?hwT2, ?hyT2⟩) hS ?reT2
  case hiT2 => (simp only [List.getElem?_toArray, List.getElem?_cons_succ, List.getElem?_cons_zero]; rfl)
  case hQT2 => exact fun _ _ _ h => h
  case hwT2 => rfl
  case hyT2 => (intro wS hSw; obtain ⟨_, _⟩ := hSw; go_simp; (try with_reducible rfl))
  try simp only [Act.put, List.setIfInBounds_toArray, List.set_cons_zero, List.set_cons_succ]
  refine' wpAnyT_take (i := 3) (v := _) ?hiT3 (by kernel_rfl) ?hQT3 (Or.inl ⟨?hwT3, ?hyT3⟩) hS ?reT3
  case hiT3 => (simp only [List.getElem?_toArray, List.getElem?_cons_succ, List.getElem?_cons_zero]; rfl)
  case hQT3 => exact fun _ _ _ h => h
  case hwT3 => rfl
  case hyT3 => (intro wS hSw; obtain ⟨_, _⟩ := hSw; go_simp; (try with_reducible rfl))
  try simp only [Act.put, List.setIfInBounds_toArray, List.set_cons_zero, List.set_cons_succ]
  refine' wpAnyT_take (i := 4) (v := _) ?hiT4 (by kernel_rfl) ?hQT4 (Or.inl ⟨?hwT4, ?hyT4⟩) hS ?reT4
  case hiT4 => (simp only [List.getElem?_toArray, List.getElem?_cons_succ, List.getElem?_cons_zero]; rfl)
  case hQT4 => exact fun _ _ _ h => h
  case hwT4 => rfl
  case hyT4 => (intro wS hSw; obtain ⟨_, _⟩ := hSw; go_simp; (try with_reducible rfl))
  try simp only [Act.put, List.setIfInBounds_toArray, List.set_cons_zero, List.set_cons_succ]
  refine' wpAnyT_take (i := 5) (v := _) ?hiT5 (by kernel_rfl) ?hQT5 (Or.inl ⟨?hwT5, ?hyT5⟩) hS ?reT5
  case hiT5 => (simp only [List.getElem?_toArray, List.getElem?_cons_succ, List.getElem?_cons_zero]; rfl)
  case hQT5 => exact fun _ _ _ h => h
  case hwT5 => rfl
  case hyT5 => (intro wS hSw; obtain ⟨_, _⟩ := hSw; go_simp; (try with_reducible rfl))
  try simp only [Act.put, List.setIfInBounds_toArray, List.set_cons_zero, List.set_cons_succ]
  refine' wpAnyT_take (i := 6) (v := _) ?hiT6 (by kernel_rfl) ?hQT6 (Or.inl ⟨?hwT6, ?hyT6⟩) hS ?reT6
  case hiT6 => (simp only [List.getElem?_toArray, List.getElem?_cons_succ, List.getElem?_cons_zero]; rfl)
  case hQT6 => exact fun _ _ _ h => h
  case hwT6 => rfl
  case hyT6 => (intro wS hSw; obtain ⟨_, _⟩ := hSw; go_simp; (try with_reducible rfl))
  try simp only [Act.put, List.setIfInBounds_toArray, List.set_cons_zero, List.set_cons_succ]
  refine' wpAnyT_take (i := 7) (v := _) ?hiT7 (by kernel_rfl) ?hQT7 (Or.inl ⟨?hwT7, ?hyT7⟩) hS ?reT7
  case hiT7 => (simp only [List.getElem?_toArray, List.getElem?_cons_succ, List.getElem?_cons_zero]; rfl)
  case hQT7 => exact fun _ _ _ h => h
  case hwT7 => rfl
  case hyT7 => (intro wS hSw; obtain ⟨_, _⟩ := hSw; go_simp; (try with_reducible rfl))
  try simp only [Act.put, List.setIfInBounds_toArray, List.set_cons_zero, List.set_cons_succ]
  refine' wpAnyT_take (i := 8) (v := _) ?hiT8 (by kernel_rfl) ?hQT8 (Or.inl ⟨?hwT8, ?hyT8⟩) hS ?reT8
  case hiT8 => (simp only [List.getElem?_toArray, List.getElem?_cons_succ, List.getElem?_cons_zero]; rfl)
  case hQT8 => exact fun _ _ _ h => h
  case hwT8 => rfl
  case hyT8 => (intro wS hSw; obtain ⟨_, _⟩ := hSw; go_simp; (try with_reducible rfl))
  try simp only [Act.put, List.setIfInBounds_toArray, List.set_cons_zero, List.set_cons_succ]
  refine' wpAnyT_take (i := 9) (v := _) ?hiT9 (by kernel_rfl) ?hQT9 (Or.inl ⟨?hwT9, ?hyT9⟩) hS ?reT9
  case hiT9 => (simp only [List.getElem?_toArray, List.getElem?_cons_succ, List.getElem?_cons_zero]; rfl)
  case hQT9 => exact fun _ _ _ h => h
  case hwT9 => rfl
  case hyT9 => (intro wS hSw; obtain ⟨_, _⟩ := hSw; go_simp; (try with_reducible rfl))
  try simp only [Act.put, List.setIfInBounds_toArray, List.set_cons_zero, List.set_cons_succ]
  refine wpAnyT_ready (rs := [10]) (by kernel_rfl) (by simp) ?_
  refine' AllReadyT.cons ?hi10 (fun K hK => ?st10) AllReadyT.nil
  case hi10 => (simp only [List.getElem?_toArray, List.getElem?_cons_succ, List.getElem?_cons_zero]; rfl)
  go_simp
  have hB1 := hB0.alloc hB0.size (.cells #[.int .i64 (k : Int), .int .i64 1, .int .i64 kd] 122)
  refine hK.out _ _ (fun _ => hS0.later hB1 hb hs) (fun hS => ?_)
  clear hK K
  replace hS := hS rfl
  try simp only [Act.put, List.setIfInBounds_toArray, List.set_cons_zero, List.set_cons_succ]
  have kN := Blk.new w.drew 122 #[.int .i64 (k : Int), .int .i64 1, .int .i64 kd]
  have k31 : Blk (w.drew.alloc (.cells #[.int .i64 (k : Int), .int .i64 1, .int .i64 kd] 122)) s 53 cs := k3.call hB1
  have ro1 : (w.drew.alloc (.cells #[.int .i64 (k : Int), .int .i64 1, .int .i64 kd] 122)).ownsRow NB 122 3 (.slice A1 N1 cap1) N1 xs := ownsRow_call ro hB1
  refine wpAnyT_ready (rs := [11]) (by kernel_rfl) (by simp) ?_
  refine' AllReadyT.cons ?hi11 (fun K hK => ?st11) AllReadyT.nil
  case hi11 => (simp only [List.getElem?_toArray, List.getElem?_cons_succ, List.getElem?_cons_zero]; rfl)
  rw [if_pos (by simp [Region.wanted])]
  refine wp_append_own _ (.tmp 65) (.tmp 74) 46 rfl NB 122 i0 (.agg #[.int .i64 0, .int .i64 0, .int .i64 0]) 3 24 Tryz.underlying46 hi hz0 hz1 hz2 rfl (by decide) _ N1 xs rfl ro1 ⟨w.heap.size, 0, none⟩ 1 1 [.int .i64 (k : Int), .int .i64 1, .int .i64 kd] rfl rfl (news_list kN) (rnC_one1 ((k : Int), 1, kd)) (by unfold maxLen; omega) (by omega) (Nat.le_trans hNB hB1.size) ?_
  intro v' w4 hown' hgrow _
  obtain ⟨A1', cap1', rfl, _⟩ := own_Rd hown'
  have F4 : Far (fun g => g = s ∨ (Value.slice A1 N1 cap1).ownBlock = some g) w w4 := (Far.of_below hB1).grown hgrow (fun g hg _ => .inr hg)
  have k34 := k31.grown hgrow (fun h => own_other ro1 h.symm k31 (by decide))
  have f34 := k34.frozen
  have c34 : w4.cell? ⟨s, 0, none⟩ = some (.slice A1 N1 cap1) := (k34.cell 0).trans ((k3.cell 0).symm.trans hS0.1)
  have hbr : (Value.slice A1 N1 cap1).ownBlock ≠ some b := fun h => by have := (ro.lt b h).1; omega
  refine hK.out _ _ (fun _ => ?later) (fun hS => ?_)
  case later => exact ⟨c34, F4.cell hS0.2 (fun h => h.elim (fun h => hbs h) hbr)⟩
  clear hK K
  replace hS := hS rfl
  try simp only [Act.put, List.setIfInBounds_toArray, List.set_cons_zero, List.set_cons_succ]
  refine wpAnyT_ready (rs := [12]) (by kernel_rfl) (by simp) ?_
  refine' AllReadyT.cons ?hi12 (fun K hK => ?st12) AllReadyT.nil
  case hi12 => (simp only [List.getElem?_toArray, List.getElem?_cons_succ, List.getElem?_cons_zero]; rfl)
  go_simp
  refine hK.out _ _ (fun _ => hS) (fun hS => ?_)
  clear hK K
  replace hS := hS rfl
  try simp only [Act.put, List.setIfInBounds_toArray, List.set_cons_zero, List.set_cons_succ]
  refine wpAnyT_ready (rs := [13]) (by kernel_rfl) (by simp) ?_
  refine' AllReadyT.cons ?hi13 (fun K hK => ?st13) AllReadyT.nil
  case hi13 => (simp only [List.getElem?_toArray, List.getElem?_cons_succ, List.getElem?_cons_zero]; rfl)
  go_simp
  refine hK.out _ _ (fun h => absurd h (by decide)) (fun _ => ?_)
  clear hK K
  refine wpAnyT_done (by kernel_rfl) ?_ _
  refine noPanic_normal ?_
  have F5 : Far (fun g => g = s ∨ (Value.slice A1 N1 cap1).ownBlock = some g) w (w4.setCell ⟨s, 0, none⟩ (.slice A1' (N1 + 1) cap1')) := F4.setCell (p := ⟨s, 0, none⟩) (fun _ => .inl rfl) _
  have F6 : Far (fun g => g = s) w4 (w4.setCell ⟨s, 0, none⟩ (.slice A1' (N1 + 1) cap1')) := Far.setCell (T := fun g => g = s) (p := ⟨s, 0, none⟩) (Far.refl _ _) (fun _ => rfl) _
  exact hQ _ _ _ _ _ _ _ _ _ _ _ _ _ _ A1' cap1' F5.size (k34.set_ 0 _) (ownsRow_far hown' F6 (fun g hg h => own_other hown' (hg.trans (congrArg some h)) k34 (by decide))) F5
def DatS (b s k : Nat) (v : Value) (cs : List Value) (w : World) : Prop := w.cell? ⟨s, 2, none⟩ = some v ∧ w.rangeAt b (1088 + k * 64) cs
theorem DatS.later {b s k : Nat} {v : Value} {cs : List Value} {w w' : World} (h : DatS b s k v cs w) (hF : Below w.heap.size w w') (hb : b < w.heap.size) (hs : s < w.heap.size) : DatS b s k v cs w' :=
  ⟨(hF.cell (p := ⟨s, 2, none⟩) hs).trans h.1, fun j u hj => (hF.cell (p := ⟨b, _, none⟩) hb).trans (h.2 j u hj)⟩
set_option maxRecDepth 100000 in
set_option maxHeartbeats 1600000 in
theorem save6_dat {Q : Exit → Act → World → Prop} {u1 u2 u5 u6 u7 u8 u9 u10 u11 u12 u13 u14 u15 u16 u17 u18 u19 u20 u21 u22 u23 u24 u25 u26 u27 u28 u29 u30 u31 u32 u33 u34 u35 u36 u37 u38 u39 u40 u41 u42 u43 u44 u45 u46 u47 u48 u49 u50 u51 u52 u53 u54 u55 u56 u57 u58 u59 u60 u61 u62 u63 u64 u65 u66 u67 u68 u69 u70 u71 u72 u73 u74 u75 u76 u77 u78 u79 u80 u81 u82 u83 u84 u85 u86 u87 u88 u89 u90 u91 u92 u93 u94 u95 u96 u97 u98 u99 u100 u101 u102 u103 u104 u105 u106 u107 u108 u109 u110 u111 u112 u113 u114 u115 u116 u117 u118 u119 u120 u121 u122 u123 u124 u125 : Value} {D : List Deferred} (b s k NB N3 cap3 : Nat) (A3 : Option Addr) (f : Nat → Int) (cs : Array Value) (xs : List Value) (w : World)
    (hk : (k : Int) < 1024) (hN : N3 ≤ 1024) (hb : b < w.heap.size) (hs : s < w.heap.size) (hNB : NB ≤ w.heap.size) (hbN : b < NB) (hbs : ¬ b = s) (hcX : w.rangeAt b (1088 + k * 64) (arrI .u8 64 f).toList)
    (k3 : Blk w s 53 cs) (h3 : w.cell? ⟨s, 2, none⟩ = some (.slice A3 N3 cap3)) (ro : w.ownsRow NB 124 65 (.slice A3 N3 cap3) N3 xs)
    (hQ : ∀ (x112 x113 x114 x115 x116 x117 x118 x119 x120 x121 x122 x123 x124 : Value) (w' : World) (A3' : Option Addr) (cap3' : Nat), w.heap.size ≤ w'.heap.size → Blk w' s 53 (cs.setIfInBounds 2 (.slice A3' (N3 + 1) cap3')) → w'.ownsRow NB 124 65 (.slice A3' (N3 + 1) cap3') (N3 + 1) (xs ++ (daA (k : Int) f).toList) →
      Far (fun g => g = s ∨ (Value.slice A3 N3 cap3).ownBlock = some g) w w' → Q .normal ⟨#[(.pointer (some ⟨b, 0, none⟩)), u1, u2, (.pointer (some ⟨s, 0, none⟩)), (.int .i64 (k : Int)), u5, u6, u7, u8, u9, u10, u11, u12, u13, u14, u15, u16, u17, u18, u19, u20, u21, u22, u23, u24, u25, u26, u27, u28, u29, u30, u31, u32, u33, u34, u35, u36, u37, u38, u39, u40, u41, u42, u43, u44, u45, u46, u47, u48, u49, u50, u51, u52, u53, u54, u55, u56, u57, u58, u59, u60, u61, u62, u63, u64, u65, u66, u67, u68, u69, u70, u71, u72, u73, u74, u75, u76, u77, u78, u79, u80, u81, u82, u83, u84, u85, u86, u87, u88, u89, u90, u91, u92, u93, u94, u95, u96, u97, u98, u99, u100, u101, u102, u103, u104, u105, u106, u107, u108, u109, u110, u111, x112, x113, x114, x115, x116, x117, x118, x119, x120, x121, x122, x123, x124, u125], D⟩ w') :
    (Code.region 14 datOps true).wp Tryz.prog Q ⟨#[(.pointer (some ⟨b, 0, none⟩)), u1, u2, (.pointer (some ⟨s, 0, none⟩)), (.int .i64 (k : Int)), u5, u6, u7, u8, u9, u10, u11, u12, u13, u14, u15, u16, u17, u18, u19, u20, u21, u22, u23, u24, u25, u26, u27, u28, u29, u30, u31, u32, u33, u34, u35, u36, u37, u38, u39, u40, u41, u42, u43, u44, u45, u46, u47, u48, u49, u50, u51, u52, u53, u54, u55, u56, u57, u58, u59, u60, u61, u62, u63, u64, u65, u66, u67, u68, u69, u70, u71, u72, u73, u74, u75, u76, u77, u78, u79, u80, u81, u82, u83, u84, u85, u86, u87, u88, u89, u90, u91, u92, u93, u94, u95, u96, u97, u98, u99, u100, u101, u102, u103, u104, u105, u106, u107, u108, u109, u110, u111, u112, u113, u114, u115, u116, u117, u118, u119, u120, u121, u122, u123, u124, u125], D⟩ w := by
  conv => arg 2; arg 2; whnf
  obtain ⟨iD, hi, hz0, hz1, hz2⟩ := info_parts infoDa
  have hbt := built_da (k : Int) f
  have hfl := fill_da (k : Int) f
  obtain ⟨E, hE⟩ : ∃ E, daA (k : Int) f = E := ⟨_, rfl⟩
  have hEs : E.toList.length = 65 := by rw [← hE]; simp [daA]
  have hEo : ∀ u ∈ E.toList, u.oneCell' = true := by
    intro u hu
    rw [← hE] at hu
    unfold daA at hu
    rw [List.mem_cons] at hu
    rcases hu with rfl | hu
    · rfl
    · rw [List.mem_map] at hu
      obtain ⟨i, _, rfl⟩ := hu
      rfl
  obtain ⟨X, hX⟩ : ∃ X, arrI .u8 64 f = X := ⟨_, rfl⟩
  have hinfl : (Tryz.prog.info? 85).map (·.size) = some X.toList.length := by rw [← hX]; exact infoKinds
  rw [hX] at hbt hcX
  rw [hE] at hfl hbt hQ
  clear hX hE
  have hfl' : Instr.fill (fun i => some (i * iD.size, iD.size)) ((Array.range (1 * iD.size)).map ((Value.agg (daA 0 (fun _ => 0))).cells[· % (Value.agg (daA 0 (fun _ => 0))).cells.size]!)) [(0, .agg E)] = some E := by rw [hz1]; exact hfl
  have hs1 : ¬ 1 * iD.size > 2 ^ 24 := by rw [hz1]; decide
  have hs2 : ¬ 1 * iD.size = 0 := by rw [hz1]; decide
  refine wp_noPanic ?_
  refine wp_region_T (DatS b s k (.slice A3 N3 cap3) X.toList) [13] (by kernel_rfl) ?_
  have hS0 : DatS b s k (.slice A3 N3 cap3) X.toList w := ⟨h3, hcX⟩
  have hB0 : Below w.heap.size w w.drew := (Below.refl _ w).drew
  have hS : DatS b s k (.slice A3 N3 cap3) X.toList w.drew := hS0
  clear h3 hcX hfl
  refine' wpAnyT_take (i := 0) (v := _) ?hiT0 (by kernel_rfl) ?hQT0 (Or.inl ⟨?hwT0, ?hyT0⟩) hS ?reT0
  case hiT0 => (simp only [List.getElem?_toArray, List.getElem?_cons_zero]; rfl)
  case hQT0 => exact fun _ _ _ h => h
  case hwT0 => rfl
  case hyT0 => (intro wS hSw; obtain ⟨_, _⟩ := hSw; go_simp; (try with_reducible rfl))
  try simp only [Act.put, List.setIfInBounds_toArray, List.set_cons_zero, List.set_cons_succ]
  refine' wpAnyT_take (i := 1) (v := _) ?hiT1 (by kernel_rfl) ?hQT1 (Or.inl ⟨?hwT1, ?hyT1⟩) hS ?reT1
  case hiT1 => (simp only [List.getElem?_toArray, List.getElem?_cons_succ, List.getElem?_cons_zero]; rfl)
  case hQT1 => exact fun _ _ _ h => h
  case hwT1 => rfl
  case hyT1 => (intro wS hSw; obtain ⟨_, _⟩ := hSw; go_simp; (try with_reducible rfl))
  try simp only [Act.put, List.setIfInBounds_toArray, List.set_cons_zero, List.set_cons_succ]
  refine' wpAnyT_take (i := 2) (v := _) ?hiT2 (by kernel_rfl) ?hQT2 (Or.inl ⟨?hwT2, ?hyT2⟩) hS ?reT2
  case hiT2 => (simp only [List.getElem?_toArray, List.getElem?_cons_succ, List.getElem?_cons_zero]; rfl)
  case hQT2 => exact fun _ _ _ h => h
  case hwT2 => rfl
  case hyT2 => (intro wS hSw; obtain ⟨_, _⟩ := hSw; go_simp; (try with_reducible rfl))
  try simp only [Act.put, List.setIfInBounds_toArray, List.set_cons_zero, List.set_cons_succ]
  refine' wpAnyT_take (i := 3) (v := _) ?hiT3 (by kernel_rfl) ?hQT3 (Or.inl ⟨?hwT3, ?hyT3⟩) hS ?reT3
  case hiT3 => (simp only [List.getElem?_toArray, List.getElem?_cons_succ, List.getElem?_cons_zero]; rfl)
  case hQT3 => exact fun _ _ _ h => h
  case hwT3 => rfl
  case hyT3 => (intro wS hSw; obtain ⟨_, _⟩ := hSw; go_simp; (try with_reducible rfl))
  try simp only [Act.put, List.setIfInBounds_toArray, List.set_cons_zero, List.set_cons_succ]
  refine' wpAnyT_take (i := 4) (v := _) ?hiT4 (by kernel_rfl) ?hQT4 (Or.inl ⟨?hwT4, ?hyT4⟩) hS ?reT4
  case hiT4 => (simp only [List.getElem?_toArray, List.getElem?_cons_succ, List.getElem?_cons_zero]; rfl)
  case hQT4 => exact fun _ _ _ h => h
  case hwT4 => rfl
  case hyT4 => (intro wS hSw; obtain ⟨_, _⟩ := hSw; go_simp; (try with_reducible rfl))
  try simp only [Act.put, List.setIfInBounds_toArray, List.set_cons_zero, List.set_cons_succ]
  refine' wpAnyT_take (i := 5) (v := _) ?hiT5 (by kernel_rfl) ?hQT5 (Or.inl ⟨?hwT5, ?hyT5⟩) hS ?reT5
  case hiT5 => (simp only [List.getElem?_toArray, List.getElem?_cons_succ, List.getElem?_cons_zero]; rfl)
  case hQT5 => exact fun _ _ _ h => h
  case hwT5 => rfl
  case hyT5 => (intro wS hSw; obtain ⟨_, _⟩ := hSw; go_simp; (try with_reducible rfl))
  try simp only [Act.put, List.setIfInBounds_toArray, List.set_cons_zero, List.set_cons_succ]
  refine' wpAnyT_take (i := 6) (v := _) ?hiT6 (by kernel_rfl) ?hQT6 (Or.inl ⟨?hwT6, ?hyT6⟩) hS ?reT6
  case hiT6 => (simp only [List.getElem?_toArray, List.getElem?_cons_succ, List.getElem?_cons_zero]; rfl)
  case hQT6 => exact fun _ _ _ h => h
  case hwT6 => rfl
  case hyT6 => (intro wS hSw; obtain ⟨_, _⟩ := hSw; go_simp; (try with_reducible rfl))
  try simp only [Act.put, List.setIfInBounds_toArray, List.set_cons_zero, List.set_cons_succ]
  refine' wpAnyT_take (i := 7) (v := _) ?hiT7 (by kernel_rfl) ?hQT7 (Or.inl ⟨?hwT7, ?hyT7⟩) hS ?reT7
  case hiT7 => (simp only [List.getElem?_toArray, List.getElem?_cons_succ, List.getElem?_cons_zero]; rfl)
  case hQT7 => exact fun _ _ _ h => h
  case hwT7 => rfl
  case hyT7 => (intro wS hSw; obtain ⟨_, _⟩ := hSw; go_simp; (try with_reducible rfl))
  try simp only [Act.put, List.setIfInBounds_toArray, List.set_cons_zero, List.set_cons_succ]
  refine' wpAnyT_take (i := 8) (v := .agg X.toList.toArray) ?hiT8 (by kernel_rfl) ?hQT8 ?hyT8 hS ?reT8
  case hiT8 => (simp only [List.getElem?_toArray, List.getElem?_cons_succ, List.getElem?_cons_zero]; rfl)
  case hQT8 => exact fun _ _ _ h => h
  case hyT8 => exact yieldsIf_load_mid rfl 85 (.tmp 119) rfl b (1088 + k * 64) rfl X.toList _ (fun _ h => h.2) Tryz.underlying85 rfl hinfl
  try simp only [Act.put, List.setIfInBounds_toArray, List.set_cons_zero, List.set_cons_succ]
  rw [Array.toArray_toList]
  refine' wpAnyT_take (i := 9) (v := .agg E) ?hiT9 (by kernel_rfl) ?hQT9 ?hyT9 hS ?reT9
  case hiT9 => (simp only [List.getElem?_toArray, List.getElem?_cons_succ, List.getElem?_cons_zero]; rfl)
  case hQT9 => exact fun _ _ _ h => h
  case hyT9 => exact yieldsIf_build rfl 124 [(0, .tmp 114), (1, .tmp 120)] rfl _ rfl E hbt
  try simp only [Act.put, List.setIfInBounds_toArray, List.set_cons_zero, List.set_cons_succ]
  have hB1 := hB0.alloc hB0.size (.cells E 124)
  have kN := Blk.new w.drew 124 E
  have k31 : Blk (w.drew.alloc (.cells E 124)) s 53 cs := k3.call hB1
  have ro1 : (w.drew.alloc (.cells E 124)).ownsRow NB 124 65 (.slice A3 N3 cap3) N3 xs := ownsRow_call ro hB1
  refine wpAnyT_ready (rs := [10]) (by kernel_rfl) (by simp) ?_
  refine' AllReadyT.cons ?hi10 (fun K hK => ?st10) AllReadyT.nil
  case hi10 => (simp only [List.getElem?_toArray, List.getElem?_cons_succ, List.getElem?_cons_zero]; rfl)
  rw [if_pos (by simp [Region.wanted])]
  refine wp_buildSliceU 48 124 1 [(0, .tmp 121)] rfl _ rfl E iD _ Tryz.underlying48 hi hz0 hs1 hs2 hfl' ?_
  refine hK.out _ _ (fun _ => hS0.later hB1 hb hs) (fun hS => ?_)
  clear hK K
  replace hS := hS rfl
  try simp only [Act.put, List.setIfInBounds_toArray, List.set_cons_zero, List.set_cons_succ]
  refine wpAnyT_ready (rs := [11]) (by kernel_rfl) (by simp) ?_
  refine' AllReadyT.cons ?hi11 (fun K hK => ?st11) AllReadyT.nil
  case hi11 => (simp only [List.getElem?_toArray, List.getElem?_cons_succ, List.getElem?_cons_zero]; rfl)
  rw [if_pos (by simp [Region.wanted])]
  refine wp_append_own _ (.tmp 113) (.tmp 122) 48 rfl NB 124 iD (.agg (daA 0 (fun _ => 0))) 65 72 Tryz.underlying48 hi hz0 hz1 hz2 rfl (by decide) _ N3 xs rfl ro1 ⟨w.heap.size, 0, none⟩ 1 1 E.toList rfl hEs (news_list (l := E.toList) kN) hEo (by unfold maxLen; omega) (by omega) (Nat.le_trans hNB hB1.size) ?_
  intro v' w4 hown' hgrow _
  obtain ⟨A3', cap3', rfl, _⟩ := own_Rd hown'
  have F4 : Far (fun g => g = s ∨ (Value.slice A3 N3 cap3).ownBlock = some g) w w4 := (Far.of_below hB1).grown hgrow (fun g hg _ => .inr hg)
  have k34 := k31.grown hgrow (fun h => own_other ro1 h.symm k31 (by decide))
  have f34 := k34.frozen
  have c34 : w4.cell? ⟨s, 2, none⟩ = some (.slice A3 N3 cap3) := (k34.cell 2).trans ((k3.cell 2).symm.trans hS0.1)
  have hbr : (Value.slice A3 N3 cap3).ownBlock ≠ some b := fun h => by have := (ro.lt b h).1; omega
  refine hK.out _ _ (fun _ => ?later) (fun hS => ?_)
  case later => exact ⟨c34, fun j u hj => F4.cell (hS0.2 j u hj) (fun h => h.elim (fun h => hbs h) hbr)⟩
  clear hK K
  replace hS := hS rfl
  try simp only [Act.put, List.setIfInBounds_toArray, List.set_cons_zero, List.set_cons_succ]
  refine wpAnyT_ready (rs := [12]) (by kernel_rfl) (by simp) ?_
  refine' AllReadyT.cons ?hi12 (fun K hK => ?st12) AllReadyT.nil
  case hi12 => (simp only [List.getElem?_toArray, List.getElem?_cons_succ, List.getElem?_cons_zero]; rfl)
  go_simp
  refine hK.out _ _ (fun _ => hS) (fun hS => ?_)
  clear hK K
  replace hS := hS rfl
  try simp only [Act.put, List.setIfInBounds_toArray, List.set_cons_zero, List.set_cons_succ]
  refine wpAnyT_ready (rs := [13]) (by kernel_rfl) (by simp) ?_
  refine' AllReadyT.cons ?hi13 (fun K hK => ?st13) AllReadyT.nil
  case hi13 => (simp only [List.getElem?_toArray, List.getElem?_cons_succ, List.getElem?_cons_zero]; rfl)
  go_simp
  refine hK.out _ _ (fun h => absurd h (by decide)) (fun _ => ?_)
  clear hK K
  refine wpAnyT_done (by kernel_rfl) ?_ _
  refine noPanic_normal ?_
  have F5 : Far (fun g => g = s ∨ (Value.slice A3 N3 cap3).ownBlock = some g) w (w4.setCell ⟨s, 2, none⟩ (.slice A3' (N3 + 1) cap3')) := F4.setCell (p := ⟨s, 2, none⟩) (fun _ => .inl rfl) _
  have F6 : Far (fun g => g = s) w4 (w4.setCell ⟨s, 2, none⟩ (.slice A3' (N3 + 1) cap3')) := Far.setCell (T := fun g => g = s) (p := ⟨s, 2, none⟩) (Far.refl _ _) (fun _ => rfl) _
  exact hQ _ _ _ _ _ _ _ _ _ _ _ _ _ _ A3' cap3' F5.size (k34.set_ 2 _) (ownsRow_far hown' F6 (fun g hg h => own_other hown' (hg.trans (congrArg some h)) k34 (by decide))) F5
end Go.Proofs.YtpabnbhbcphfiaaGreat
namespace Go.Pol
open Go Go.Proofs Go.RowKit
def stayF (st : List Sp) (e : Int) (x : Sp) : List Sp := if e ≠ 0 then st ++ [x] else st
/-- what the statement of leave whose order is open reads -/
def LvS (g0 b gx : Nat) (xa xb : Int) (w : World) : Prop := w.cell? ⟨g0, 0, none⟩ = some (.pointer (some ⟨b, 0, none⟩)) ∧ w.cell? ⟨gx, 0, none⟩ = some (.int .i64 xa) ∧ w.cell? ⟨gx, 1, none⟩ = some (.int .i64 xb)
theorem LvS.far {g0 b gx : Nat} {xa xb : Int} {T : Nat → Prop} {w w' : World} (h : LvS g0 b gx xa xb w) (F : Far T w w') (h0 : ¬ T g0) (hx : ¬ T gx) : LvS g0 b gx xa xb w' := ⟨F.cell h.1 h0, F.cell h.2.1 hx, F.cell h.2.2 hx⟩
end Go.Pol
namespace Go.Proofs.YtpabnbhbcphfiaaGreat
open Go Go.Proofs Go.RowKit Go.Pol Go.Shelf
attribute [local go_sem] Oper.semAt_some Go.Pol.wide_fn Go.Pol.wide_depth Go.Pol.wide_fn' Go.Pol.wide_depth'

theorem idx_firE : ∀ (es : List Int) (k : Nat), (idxI (fun x => x != 0) es k = -1 ∧ firE es = 0) ∨ (∃ j : Nat, j < es.length ∧ idxI (fun x => x != 0) es k = ((k + j : Nat) : Int) ∧ es.getD j 0 = firE es ∧ firE es ≠ 0)
  | [], k => .inl ⟨rfl, rfl⟩
  | x :: r, k => by
    by_cases h : x = 0
    · subst h
      have e1 : idxI (fun x => x != 0) ((0 : Int) :: r) k = idxI (fun x => x != 0) r (k + 1) := by rw [idxI, if_neg (by simp)]
      have e2 : firE ((0 : Int) :: r) = firE r := by rw [firE, if_neg (by simp)]
      rw [e1, e2]
      rcases idx_firE r (k + 1) with ⟨h1, h2⟩ | ⟨j, h1, h2, h3, h4⟩
      · exact .inl ⟨h1, h2⟩
      · exact .inr ⟨j + 1, by simp; omega, by rw [h2]; congr 1; omega, by simpa using h3, h4⟩
    · refine .inr ⟨0, by simp, by rw [idxI, if_pos (by simpa using h)]; simp, ?_, ?_⟩
      · rw [firE, if_pos h]; rfl
      · rw [firE, if_pos h]; exact h
theorem leave1_any (x : Int) (W : World) : Calls Tryz.prog 205 #[.int .i64 x] W fun e W' => e = .returned (.bool (x != 0)) ∧ Below W.heap.size W W' := by
  go_enter Tryz.func205, Tryz.ntmps205
  go_wp2_with fail
  go_ret
  exact ⟨rfl, Below.refl _ _⟩
theorem leave1_enters : ∀ args w, (callFunc 205 args).run Tryz.prog w = .ok (.enter 205 args) w := enters_of Tryz.func205 (by kernel_rfl) rfl
set_option maxRecDepth 100000 in
theorem indexE_any (p : Int → Bool) (g : Nat) (lb : Array Value) (A : Option Addr) (n cap : Nat) (bs : List Int) (w : World) (hn : bs.length = n) (hm : n ≤ maxLen) (hr : RI w w.heap.size A bs)
    (eg : ∀ args w, (callFunc g args).run Tryz.prog w = .ok (.enter g args) w)
    (hp : ∀ x ∈ bs, ∀ W, Below w.heap.size w W → Calls Tryz.prog g (#[.int .i64 x] ++ lb) W fun e W' => e = .returned (.bool (p x)) ∧ Below W.heap.size W W') :
    Calls Tryz.prog 204 #[.slice A n cap, .func (.func g) #[] lb] w fun e w' => e = .returned (.int .i64 (idxI p bs 0)) ∧ Below w.heap.size w w' := by
  unfold maxLen at hm
  obtain ⟨R, hR⟩ : ∃ R, idxI p bs 0 = R := ⟨_, rfl⟩
  rw [hR]
  have hR' := Lib.hid hR
  have hn' := Lib.hid hn
  have hp' := Lib.hid hp
  clear hR hn hp
  go_enter Tryz.func204, Tryz.ntmps204
  go_wp2_with fail
  go_loopw [8] (fun i wr => ∃ k : Nat, k ≤ n ∧ i = .int .i64 k ∧ Below w.heap.size w wr ∧ Hid (idxI p (bs.drop k) k = R)) (fun i _ => n - (intOf i).toNat)
  case atStart => exact ⟨0, by omega, rfl, Below.refl _ _, by simpa using hR'⟩
  case round =>
    obtain ⟨k, hk, rfl, hB, hH⟩ := hrel
    by_cases hlt : k < n
    · have hlt' : decide ((k : Int) < (n : Int)) = true := by simpa using hlt
      obtain ⟨b, o, rfl, _, c1⟩ := ((hr.below hB).more hB.size).at_ (k := k) (by have := hn'.out; omega)
      have HP := Lib.hid (hp'.out (bs.getD k 0) (getD_memI (by have := hn'.out; omega)) wr hB)
      have hst := hH.out
      rw [Go.Pol.drop_cons 0 bs k (by have := hn'.out; omega), idxI] at hst
      generalize bs.getD k 0 = x at *
      cases hpx : p x with
      | true =>
        rw [hpx] at HP
        rw [if_pos hpx] at hst
        have hst' := Lib.hid hst
        clear hst hH hpx
        go_wp2_with fail
        refine HP.out.mono ?_
        rintro e w1 ⟨rfl, hb1⟩
        go_wp2_with fail
        go_ret
        exact ⟨ret_int hst'.out, hB.trans (hb1.mono hB.size)⟩
      | false =>
        rw [hpx] at HP
        rw [if_neg (by simp [hpx])] at hst
        have hst' := Lib.hid hst
        clear hst hH hpx
        go_wp2_with fail
        refine HP.out.mono ?_
        rintro e w1 ⟨rfl, hb1⟩
        go_wp2_with fail
        go_roundw
        case rel => exact ⟨k + 1, by omega, by go_num, hB.trans (hb1.mono hB.size), hst'⟩
        case measure => simp [intOf]; omega
    · obtain rfl : k = n := by omega
      have hlt' : decide ((k : Int) < (k : Int)) = false := by simp
      have hst := hH.out
      rw [List.drop_of_length_le (by have := hn'.out; omega)] at hst
      have hst' := Lib.hid (show -1 = R from hst)
      clear hst hH
      go_wp2_with fail
      go_ret
      exact ⟨ret_int hst'.out, hB⟩
theorem own_slice {w : World} {base sz n : Nat} {e : TypeId} {v : Value} {xs : List Value} (h : w.ownsRow base e sz v n xs) : ∃ (A : Option Addr) (cap : Nat), v = .slice A n cap := by
  obtain ⟨A, cap, h, _⟩ := own_Rd h
  exact ⟨A, cap, h⟩
theorem infoEr : (Tryz.prog.info? 35).map (fun i => (i.zero, i.size, i.bytes)) = some (some (.int .i64 0), 1, 8) := by kernel_rfl
set_option maxRecDepth 100000 in
set_option maxHeartbeats 3200000 in
theorem leave24_any (g0 b NB : Nat) (p : Int) (n : Nat) (A : Option Addr) (ln cl : Nat) (l st : List Sp) (v1 v2 : Value) (V : Vm) (w : World) (hV : SysIs w b V) (kM : Blk w g0 169 #[.pointer (some ⟨b, 0, none⟩), v1, v2]) (hg : g0 ≠ b)
    (ro : w.ownsRow NB 115 2 v2 st.length (spCells st)) (hNB : NB ≤ w.heap.size) (hbN : b < NB) (hst : st.length ≤ 1000) (hl : l.length = ln) (hr : RU w w.heap.size A l) (hAb : ∀ g o, A = some ⟨g, o, none⟩ → 0 < ln → g ≠ b)
    (hx : ∀ x ∈ l, (0 ≤ x.1 ∧ x.1 ≤ 1024) ∧ 0 ≤ x.2 ∧ x.2 ≤ 1024) (hln : ln ≤ 1024) (hp : 0 ≤ p ∧ p ≤ 1024) (_ : n ≤ 1024) :
    Calls Tryz.prog 147 #[.pointer (some ⟨g0, 0, none⟩), .int .i64 p, .int .i64 n, .slice A ln cl] w fun e w' => e = .returned (.int .i64 (leaveF V p n l).1) ∧
      ∃ v2', Blk w' g0 169 #[.pointer (some ⟨b, 0, none⟩), v1, v2'] ∧ w'.ownsRow NB 115 2 v2' (stayF st (leaveF V p n l).1 (p, n)).length (spCells (stayF st (leaveF V p n l).1 (p, n))) ∧ SysIs w' b (leaveF V p n l).2 ∧ Far (fun k => k = b ∨ k = g0 ∨ v2.ownBlock = some k) w w' := by
  obtain ⟨i0, hi, hz0, hz1, hz2⟩ := info_parts infoEr
  obtain ⟨j0, hj, hy0, hy1, hy2⟩ := infoSp_parts
  have HD := Lib.hid (fun (q m : Int) U W h => decommit_any b q m U W h)
  have HRl := Lib.hid (fun U W h => release_any b p n U W h)
  have hL : Hid (leaveF V p n l = (firE ((errsF V p l).1 ++ [(bec (errsF V p l).2 p n 1 1 0).1]), (bec (errsF V p l).2 p n 1 1 0).2)) := Lib.hid rfl
  obtain ⟨R, hR⟩ : ∃ R, leaveF V p n l = R := ⟨_, rfl⟩
  rw [hR] at hL ⊢
  have hV' := Lib.hid hV
  have hx' := Lib.hid hx
  have hl' := Lib.hid hl
  have hr' := Lib.hid hr
  have hbs := hV.lt
  have hgs := kM.lt
  clear hR hV hx hl hr
  go_enter Tryz.func147, Tryz.ntmps147
  go_wp2_with fail
  go_loopw [9, 15] (fun v i wr => ∃ (k : Nat) (es : List Int) (U : Vm), k ≤ ln ∧ i = .int .i64 k ∧ Hid ((l.take k).foldl (errsS p) ([], V) = (es, U)) ∧ Hid (es.length = k) ∧ wr.ownsRow w.heap.size 35 1 v k (es.map (Value.int .i64)) ∧ Hid (SysIs wr b U) ∧ Far (fun k => k = b) w wr) (fun _ i _ => ln - (intOf i).toNat)
  case atStart => exact ⟨0, [], V, by omega, rfl, Lib.hid (by simp), Lib.hid rfl, World.ownsRow_nil _ _ _ _, hV', Far.refl _ _⟩
  case round =>
    clear hV'
    obtain ⟨k, es, U, hk, rfl, hfl, hel, hrow, hU, hF⟩ := hrel
    have kMr := hF.blk kM (by show ¬ g0 = b; exact hg)
    have hs4 := hF.size
    by_cases hlt : k < ln
    · have hlt' : decide ((k : Int) < (ln : Int)) = true := by simpa using hlt
      have hln2 := hl'.out
      have hsn : (l.take (k + 1)).foldl (errsS p) ([], V) = errsS p (es, U) (l.getD k (0, 0)) := by rw [z_take (0, 0) l (by omega), List.foldl_append, hfl.out]; rfl
      obtain ⟨rb, ro', rfl, hrb, c5, c6⟩ := hr'.out.at_' (k := k) (by omega)
      have hne := hAb _ _ rfl (by omega)
      have d5 := hF.cell c5 (by show ¬ rb = b; omega)
      have d6 := hF.cell c6 (by show ¬ rb = b; omega)
      have hxb := hx'.out (l.getD k (0, 0)) (by rw [List.getD_eq_getElem?_getD, List.getElem?_eq_getElem (by omega)]; exact List.getElem_mem _)
      generalize l.getD k (0, 0) = x at *
      obtain ⟨xa, xb⟩ := x
      simp only at d5 d6 hsn hxb
      have hsn' : Hid ((l.take (k + 1)).foldl (errsS p) ([], V) = (es ++ [(bec U (p + xa) xb 3 2 1).1], (bec U (p + xa) xb 3 2 1).2)) := Lib.hid hsn
      have kx := Blk.new wr 115 #[.int .i64 xa, .int .i64 xb]
      have hbx : Below wr.heap.size wr (wr.alloc (.cells #[.int .i64 xa, .int .i64 xb] 115)) := (Below.refl _ _).alloc (Nat.le_refl _) _
      obtain ⟨gx, hgx⟩ : ∃ gx, wr.heap.size = gx := ⟨_, rfl⟩
      rw [hgx] at kx
      have hbz := hU.out.lt
      have hgz := kMr.lt
      clear hsn c5 c6 hfl hln2
      go_upto_region 5 with fail
      have Tx := Lib.hid (hU.out.call hbx)
      have rowx := ownsRow_call hrow hbx
      have hFx : Far (fun k => k = b) w _ := hF.trans (.of_below hbx)
      have kMx := kMr.call hbx
      generalize wr.alloc _ = w5 at *
      try simp only [hgx]
      have hS0 : LvS g0 b gx xa xb w5 := ⟨kMx.cell 0, kx.cell 0, kx.cell 1⟩
      have hb5 : Below w5.heap.size w5 w5.drew := (Below.refl _ w5).drew
      have HD5 := Lib.hid (HD.out (p + xa) xb U w5.drew (Tx.out.call hb5))
      clear hbx hU hrow hF d5 d6 kMr
      refine wp_noPanic ?_
      refine wp_region_T (LvS g0 b gx xa xb) [14] (by kernel_rfl) ?_
      have hS : LvS g0 b gx xa xb w5.drew := hS0
      refine' wpAnyT_take (i := 0) (v := _) ?hiT0 (by kernel_rfl) ?hQT0 (Or.inl ⟨?hwT0, ?hyT0⟩) hS ?reT0
      case hiT0 => (simp only [List.getElem?_toArray, List.getElem?_cons_zero]; rfl)
      case hQT0 => exact fun _ _ _ h => h
      case hwT0 => rfl
      case hyT0 => (intro wS hSw; obtain ⟨_, _⟩ := hSw; go_simp; (try with_reducible rfl))
      try simp only [Act.put, List.setIfInBounds_toArray, List.set_cons_zero, List.set_cons_succ]
      refine' wpAnyT_take (i := 1) (v := _) ?hiT1 (by kernel_rfl) ?hQT1 (Or.inl ⟨?hwT1, ?hyT1⟩) hS ?reT1
      case hiT1 => (simp only [List.getElem?_toArray, List.getElem?_cons_succ, List.getElem?_cons_zero]; rfl)
      case hQT1 => exact fun _ _ _ h => h
      case hwT1 => rfl
      case hyT1 => (intro wS hSw; obtain ⟨_, _⟩ := hSw; go_simp; (try with_reducible rfl))
      try simp only [Act.put, List.setIfInBounds_toArray, List.set_cons_zero, List.set_cons_succ]
      refine' wpAnyT_take (i := 2) (v := _) ?hiT2 (by kernel_rfl) ?hQT2 (Or.inl ⟨?hwT2, ?hyT2⟩) hS ?reT2
      case hiT2 => (simp only [List.getElem?_toArray, List.getElem?_cons_succ, List.getElem?_cons_zero]; rfl)
      case hQT2 => exact fun _ _ _ h => h
      case hwT2 => rfl
      case hyT2 => (intro wS hSw; obtain ⟨_, _⟩ := hSw; go_simp; (try with_reducible rfl))
      try simp only [Act.put, List.setIfInBounds_toArray, List.set_cons_zero, List.set_cons_succ]
      refine' wpAnyT_take (i := 3) (v := _) ?hiT3 (by kernel_rfl) ?hQT3 (Or.inl ⟨?hwT3, ?hyT3⟩) hS ?reT3
      case hiT3 => (simp only [List.getElem?_toArray, List.getElem?_cons_succ, List.getElem?_cons_zero]; rfl)
      case hQT3 => exact fun _ _ _ h => h
      case hwT3 => rfl
      case hyT3 => (intro wS hSw; obtain ⟨_, _⟩ := hSw; go_simp; (try with_reducible rfl))
      try simp only [Act.put, List.setIfInBounds_toArray, List.set_cons_zero, List.set_cons_succ]
      refine' wpAnyT_take (i := 4) (v := _) ?hiT4 (by kernel_rfl) ?hQT4 (Or.inl ⟨?hwT4, ?hyT4⟩) hS ?reT4
      case hiT4 => (simp only [List.getElem?_toArray, List.getElem?_cons_succ, List.getElem?_cons_zero]; rfl)
      case hQT4 => exact fun _ _ _ h => h
      case hwT4 => rfl
      case hyT4 => (intro wS hSw; obtain ⟨_, _⟩ := hSw; go_simp; (try with_reducible rfl))
      try simp only [Act.put, List.setIfInBounds_toArray, List.set_cons_zero, List.set_cons_succ]
      refine' wpAnyT_take (i := 5) (v := _) ?hiT5 (by kernel_rfl) ?hQT5 (Or.inl ⟨?hwT5, ?hyT5⟩) hS ?reT5
      case hiT5 => (simp only [List.getElem?_toArray, List.getElem?_cons_succ, List.getElem?_cons_zero]; rfl)
      case hQT5 => exact fun _ _ _ h => h
      case hwT5 => rfl
      case hyT5 => (intro wS hSw; obtain ⟨_, _⟩ := hSw; go_simp; (try with_reducible rfl))
      try simp only [Act.put, List.setIfInBounds_toArray, List.set_cons_zero, List.set_cons_succ]
      refine' wpAnyT_take (i := 6) (v := _) ?hiT6 (by kernel_rfl) ?hQT6 (Or.inl ⟨?hwT6, ?hyT6⟩) hS ?reT6
      case hiT6 => (simp only [List.getElem?_toArray, List.getElem?_cons_succ, List.getElem?_cons_zero]; rfl)
      case hQT6 => exact fun _ _ _ h => h
      case hwT6 => rfl
      case hyT6 => (intro wS hSw; obtain ⟨_, _⟩ := hSw; go_simp; (try with_reducible rfl))
      try simp only [Act.put, List.setIfInBounds_toArray, List.set_cons_zero, List.set_cons_succ]
      refine' wpAnyT_take (i := 7) (v := _) ?hiT7 (by kernel_rfl) ?hQT7 (Or.inl ⟨?hwT7, ?hyT7⟩) hS ?reT7
      case hiT7 => (simp only [List.getElem?_toArray, List.getElem?_cons_succ, List.getElem?_cons_zero]; rfl)
      case hQT7 => exact fun _ _ _ h => h
      case hwT7 => rfl
      case hyT7 => (intro wS hSw; obtain ⟨_, _⟩ := hSw; go_simp; (try with_reducible rfl))
      try simp only [Act.put, List.setIfInBounds_toArray, List.set_cons_zero, List.set_cons_succ]
      refine' wpAnyT_take (i := 8) (v := _) ?hiT8 (by kernel_rfl) ?hQT8 (Or.inl ⟨?hwT8, ?hyT8⟩) hS ?reT8
      case hiT8 => (simp only [List.getElem?_toArray, List.getElem?_cons_succ, List.getElem?_cons_zero]; rfl)
      case hQT8 => exact fun _ _ _ h => h
      case hwT8 => rfl
      case hyT8 => (intro wS hSw; obtain ⟨_, _⟩ := hSw; go_simp; (try with_reducible rfl))
      try simp only [Act.put, List.setIfInBounds_toArray, List.set_cons_zero, List.set_cons_succ]
      try rw [IntWalk.i64_in (p + xa) (by omega)]
      refine' wpAnyT_take (i := 9) (v := _) ?hiT9 (by kernel_rfl) ?hQT9 (Or.inl ⟨?hwT9, ?hyT9⟩) hS ?reT9
      case hiT9 => (simp only [List.getElem?_toArray, List.getElem?_cons_succ, List.getElem?_cons_zero]; rfl)
      case hQT9 => exact fun _ _ _ h => h
      case hwT9 => rfl
      case hyT9 => (intro wS hSw; obtain ⟨_, _⟩ := hSw; go_simp; (try with_reducible rfl))
      try simp only [Act.put, List.setIfInBounds_toArray, List.set_cons_zero, List.set_cons_succ]
      refine' wpAnyT_take (i := 10) (v := _) ?hiT10 (by kernel_rfl) ?hQT10 (Or.inl ⟨?hwT10, ?hyT10⟩) hS ?reT10
      case hiT10 => (simp only [List.getElem?_toArray, List.getElem?_cons_succ, List.getElem?_cons_zero]; rfl)
      case hQT10 => exact fun _ _ _ h => h
      case hwT10 => rfl
      case hyT10 => (intro wS hSw; obtain ⟨_, _⟩ := hSw; go_simp; (try with_reducible rfl))
      try simp only [Act.put, List.setIfInBounds_toArray, List.set_cons_zero, List.set_cons_succ]
      refine wpAnyT_ready (rs := [11]) (by kernel_rfl) (by simp) ?_
      refine' AllReadyT.cons ?hi11 (fun K hK => ?st11) AllReadyT.nil
      case hi11 => (simp only [List.getElem?_toArray, List.getElem?_cons_succ, List.getElem?_cons_zero]; rfl)
      go_simp
      refine HD5.out.mono ?_
      rintro e w6 ⟨rfl, V6, F6⟩
      have hF6 : Far (fun k => k = b) w w6 := (hFx.trans (.of_below hb5)).trans F6
      have hgxb : ¬ gx = b := by omega
      have hS6 : LvS g0 b gx xa xb w6 := hS.far F6 (by show ¬ g0 = b; exact hg) (by show ¬ gx = b; exact hgxb)
      have kM6 := F6.blk (kMx.call hb5) (by show ¬ g0 = b; exact hg)
      have kx6 := F6.blk (kx.call hb5) (by show ¬ gx = b; exact hgxb)
      have row5 := ownsRow_call rowx hb5
      have row6 := ownsRow_far row5 F6 (fun g hg h => by have := (row5.lt g hg).1; omega)
      have V6' := Lib.hid V6
      generalize bec U (p + xa) xb 3 2 1 = J at *
      obtain ⟨je, jV⟩ := J
      simp only at hsn' V6'
      refine hK.out _ _ (fun _ => hS6) (fun hS => ?_)
      clear hK K HD5 Tx V6 rowx row5 hFx F6
      replace hS := hS rfl
      refine wpAnyT_ready (rs := [12]) (by kernel_rfl) (by simp) ?_
      refine' AllReadyT.cons ?hi12 (fun K hK => ?st12) AllReadyT.nil
      case hi12 => (simp only [List.getElem?_toArray, List.getElem?_cons_succ, List.getElem?_cons_zero]; rfl)
      go_simp
      have kN := Blk.new w6 35 #[.int .i64 je]
      have hbN : Below w6.heap.size w6 (w6.alloc (.cells #[.int .i64 je] 35)) := (Below.refl _ _).alloc (Nat.le_refl _) _
      refine hK.out _ _ (fun _ => hS6.far (T := fun _ => False) (.of_below hbN) id id) (fun hS => ?_)
      clear hK K
      replace hS := hS rfl
      try simp only [Act.put, List.setIfInBounds_toArray, List.set_cons_zero, List.set_cons_succ]
      have hs6 := hF6.size
      refine wpAnyT_ready (rs := [13]) (by kernel_rfl) (by simp) ?_
      refine' AllReadyT.cons ?hi13 (fun K hK => ?st13) AllReadyT.nil
      case hi13 => (simp only [List.getElem?_toArray, List.getElem?_cons_succ, List.getElem?_cons_zero]; rfl)
      rw [if_pos (by simp [Region.wanted])]
      refine wp_append_own _ (.tmp 19) (.tmp 31) 285 rfl w.heap.size 35 i0 (.int .i64 0) 1 8 Tryz.underlying285 hi hz0 hz1 hz2 rfl (by decide) _ k (es.map (Value.int .i64)) rfl (row6.alloc _) ⟨w6.heap.size, 0, none⟩ 1 1 [.int .i64 je] rfl rfl (news_i kN) ints_one (by unfold maxLen; omega) (by omega) (by simp; omega) ?_
      intro v' w7 hown' hgrow _
      rw [show es.map (Value.int .i64) ++ [Value.int .i64 je] = (es ++ [je]).map (Value.int .i64) by simp] at hown'
      have F8 := (Far.of_below hbN).grown hgrow (T := fun k => Value.ownBlock _ = some k) (fun g hg _ => hg)
      have hS7 := hS6.far F8 (fun h => own_other row6 h kM6 (by decide)) (fun h => own_other row6 h kx6 (by decide))
      refine hK.out _ _ (fun _ => hS7) (fun hS => ?_)
      clear hK K
      replace hS := hS rfl
      try simp only [Act.put, List.setIfInBounds_toArray, List.set_cons_zero, List.set_cons_succ]
      refine wpAnyT_ready (rs := [14]) (by kernel_rfl) (by simp) ?_
      refine' AllReadyT.cons ?hi14 (fun K hK => ?st14) AllReadyT.nil
      case hi14 => (simp only [List.getElem?_toArray, List.getElem?_cons_succ, List.getElem?_cons_zero]; rfl)
      go_simp
      refine hK.out _ _ (fun h => absurd h (by decide)) (fun _ => ?_)
      clear hK K
      refine wpAnyT_done (by kernel_rfl) ?_ _
      refine noPanic_normal ?_
      go_wp2_with fail
      go_roundw
      case rel =>
        exact ⟨k + 1, es ++ [je], jV, by omega, by go_num, hsn', Lib.hid (by rw [List.length_append, hel.out]; rfl), hown', Lib.hid (V6'.out.far F8 (fun h => by have := (row6.lt b h).1; omega) (fun _ _ _ _ _ _ g _ _ _ hc hg => hc.elim fun cr hcr => own_other row6 hg hcr (by decide))), hF6.trans' F8 (fun i hi h => by have := (row6.lt i h).1; omega)⟩
      case measure => simp [intOf]; omega
    · obtain rfl : k = ln := by omega
      have hlt' : decide ((k : Int) < (k : Int)) = false := by simp
      have hln2 := hl'.out
      have hEr : Hid (errsF V p l = (es, U)) := Lib.hid (by have := hfl.out; rwa [List.take_of_length_le (by omega)] at this)
      obtain ⟨wA, rfl⟩ : ∃ wA, wA = wr := ⟨_, rfl⟩
      have HR1 := Lib.hid (HRl.out U wA hU.out)
      have cM := kMr.cell
      clear hfl hr' hx' hln2
      go_wp2_with fail
      refine HR1.out.mono ?_
      rintro e w6 ⟨rfl, V6, F6⟩
      have hF6 : Far (fun k => k = b) w w6 := hF.trans F6
      have kM6 := F6.blk kMr (by show ¬ g0 = b; exact hg)
      have row6 := ownsRow_far hrow F6 (fun g hg h => by have := (hrow.lt g hg).1; omega)
      have V6' := Lib.hid V6
      have hL2 : Hid (R = (firE (es ++ [(bec U p n 1 1 0).1]), (bec U p n 1 1 0).2)) := Lib.hid (by rw [hL.out, hEr.out])
      generalize bec U p n 1 1 0 = J at *
      obtain ⟨je, jV⟩ := J
      simp only at hL2 V6'
      have kN := Blk.new w6 35 #[.int .i64 je]
      have hbN : Below w6.heap.size w6 (w6.alloc (.cells #[.int .i64 je] 35)) := (Below.refl _ _).alloc (Nat.le_refl _) _
      have hs6 := hF6.size
      clear HR1 HRl V6 F6 hrow hF hU cM kMr hL hEr
      go_upto_region 8 with (refine wpList_append_own _ rfl (.tmp 34) (.tmp 42) 285 rfl w.heap.size 35 i0 (.int .i64 0) 1 8 Tryz.underlying285 hi hz0 hz1 hz2 rfl (by decide) _ k (es.map (Value.int .i64)) rfl (row6.alloc _) ⟨w6.heap.size, 0, none⟩ 1 1 [.int .i64 je] rfl rfl (news_i kN) ints_one (by unfold maxLen; omega) (by omega) (by simp; omega) ?_; intro v' w7 hown' hgrow _; rw [show es.map (Value.int .i64) ++ [Value.int .i64 je] = (es ++ [je]).map (Value.int .i64) by simp] at hown'; have F8 := (Far.of_below hbN).grown hgrow (T := fun k => Value.ownBlock _ = some k) (fun g hg _ => hg); obtain ⟨A9, c9, rfl, hru9, _, _, hfr9, _⟩ := own_Rd hown')
      have V7 := Lib.hid (V6'.out.far F8 (fun h => by have := (row6.lt b h).1; omega) (fun _ _ _ _ _ _ g _ _ _ hc hg => hc.elim fun cr hcr => own_other row6 hg hcr (by decide)))
      have hF7 : Far (fun k => k = b) w w7 := hF6.trans' F8 (fun i hi h => by have := (row6.lt i h).1; omega)
      have kM7 := F8.blk kM6 (fun h => own_other row6 h kM6 (by decide))
      have hel' : (es ++ [je]).length = k + 1 := by rw [List.length_append, hel.out]; rfl
      generalize es ++ [je] = fs at *
      have HI := indexE_any (fun x => x != 0) 205 #[] A9 (k + 1) c9 fs w7 hel' (by unfold maxLen; omega) hru9 leave1_enters (fun x _ W _ => leave1_any x W)
      have hfi := idx_firE fs 0
      have ro7 := ownsRow_far ro hF7 (fun g hg h => by have := (ro.lt g hg).1; omega)
      have hgv : ∀ g, v2.ownBlock = some g → NB ≤ g ∧ g < w.heap.size := fun g hg => ro.lt g hg
      generalize idxI (fun x => x != 0) fs 0 = ix at *
      have HI' := Lib.hid HI
      clear HI row6 hown' hgrow F8 hbN kN kM6 V6' hF6 hs6
      rcases hfi with ⟨rfl, hf0⟩ | ⟨j, hj1, hj2, hj3, hj4⟩
      · rw [hf0] at hL2
        go_wp2_with fail
        refine HI'.out.mono ?_
        rintro e w8 ⟨rfl, hb8⟩
        go_wp2_with fail
        go_ret
        rw [hL2.out]
        exact ⟨rfl, v2, kM7.call hb8, by simp only [stayF]; exact ownsRow_call ro7 hb8, V7.out.call hb8, (hF7.trans (.of_below hb8)).mono (fun k _ h => .inl h)⟩
      · rw [Nat.zero_add] at hj2
        subst hj2
        have hj0 : decide ((j : Int) < 0) = false := by rw [decide_eq_false_iff_not]; omega
        have hjk : (j : Int) < ((k + 1 : Nat) : Int) := by omega
        obtain ⟨rb, ro', rfl, hrb, c9'⟩ := RI.at_ (xs := fs) hru9 (k := j) (by omega)
        have hrbw := hfr9 rb ro' rfl
        rw [hj3] at c9'
        obtain ⟨er, her⟩ : ∃ er, firE fs = er := ⟨_, rfl⟩
        rw [her] at c9' hL2 hj4
        obtain ⟨A2, cap2, rfl, _⟩ := own_RU ro7 rfl
        clear her hj3 hru9
        go_wp2_with fail
        refine HI'.out.mono ?_
        rintro e w8 ⟨rfl, hb8⟩
        have kM8 := kM7.call hb8
        have cM8 := kM8.cell
        have V8 := Lib.hid (V7.out.call hb8)
        have ro8 := ownsRow_call ro7 hb8
        have c98 := (hb8.cell (p := ⟨rb, ro' + j, none⟩) hrb).trans c9'
        have hs7 := hF7.size
        have hs8 := hb8.size
        have kN := Blk.new w8 115 #[.int .i64 p, .int .i64 (n : Int)]
        have hbN : Below w8.heap.size w8 (w8.alloc (.cells #[.int .i64 p, .int .i64 (n : Int)] 115)) := (Below.refl _ _).alloc (Nat.le_refl _) _
        obtain ⟨sl, hsl⟩ : ∃ sl, st.length = sl := ⟨_, rfl⟩
        have F78 : Far (fun k => k = b) w w8 := hF7.trans (.of_below hb8)
        rw [hsl] at ro8 hgv hst kM8 cM8
        have T6 : ¬ (Value.slice A2 sl cap2).ownBlock = some rb := (fun h => by have := hgv _ h; omega)
        clear HI' kM7 c9' V7 ro7 hF7 ro
        go_wp2_with (refine wpList_append_own _ rfl (.tmp 52) (.tmp 56) 22 rfl NB 115 j0 (.agg #[.int .i64 0, .int .i64 0]) 2 16 Tryz.underlying22 hj hy0 hy1 hy2 rfl (by decide) _ sl (spCells st) rfl (ro8.alloc _) ⟨w8.heap.size, 0, none⟩ 1 1 [.int .i64 p, .int .i64 (n : Int)] rfl rfl (news_two kN) news_one2 (by unfold maxLen; omega) (by omega) (by simp; omega) ?_; intro v' w9 hown' hgrow _; have F9 : Far (fun g => (Value.slice A2 sl cap2).ownBlock = some g) w8 w9 := (Far.of_below hbN).grown hgrow (fun g hg _ => hg); have kM9 := F9.blk kM8 (fun h => own_other ro8 h kM8 (by decide)); have fM9 := kM9.frozen; have cM9 := kM9.cell; have c99 := F9.cell c98 T6; obtain ⟨A2n, cap2n, rfl⟩ := own_slice hown'; clear cM8)
        go_ret
        have FS : Far (fun i => i = g0) w9 (w9.setCell ⟨g0, 2, none⟩ (.slice A2n (sl + 1) cap2n)) := Far.setCell (T := fun i => i = g0) (p := ⟨g0, 2, none⟩) (Far.refl _ w9) (fun _ => rfl) _
        have V9 := V8.out.far F9 (fun h => by have := (ro8.lt b h).1; omega) (fun _ _ _ _ _ _ g _ _ _ hc hg => hc.elim fun cr hcr => own_other ro8 hg hcr (by decide))
        rw [hL2.out]
        refine ⟨rfl, _, kM9.set_ 2 (.slice A2n (sl + 1) cap2n), ?_, V9.far FS (fun h => hg h.symm) (fun _ _ _ _ _ _ g _ _ _ hc hg => hc.elim fun cr hcr => Blk.ne_ hcr kM9 (by decide) hg), ?_⟩
        · rw [show stayF st er (p, (n : Int)) = st ++ [(p, (n : Int))] by rw [stayF, if_pos hj4], List.length_append, List.length_singleton, hsl, spCells_snoc]
          exact ownsRow_far hown' FS (fun g hg h => own_other hown' (hg.trans (congrArg some h)) kM9 (by decide))
        · rw [hsl]
          exact ((F78.mono (T' := fun k => k = b ∨ k = g0 ∨ (Value.slice A2 sl cap2).ownBlock = some k) (fun k _ h => .inl h)).trans' F9 (fun i _ h => .inr (.inr h))).trans' FS (fun i _ h => .inr (.inl h))
end Go.Proofs.YtpabnbhbcphfiaaGreat
namespace Go.Pol
open Go Go.Proofs Go.RowKit
section
variable {P : Program} {ops : Array Oper} {Q : Exit → Act → World → Prop} {md : Region.Mode} {S : World → Prop} {tl : List Nat}
/-- operations that need nothing may be taken ahead: the condition on the world is asked from here on -/
theorem wpAnyT_weakS : ∀ (fuel : Nat) (listed : Array Bool) (a : Act) (w : World), wpAnyT P md ops Q S tl fuel listed a w → wpAnyT P md ops Q (fun _ => True) [] fuel listed a w
  | 0, _, _, _, h => h
  | fuel + 1, _, _, _, h => ⟨h.1, fun i hi => wpOp_mono (fun a' w' h' => ⟨fun _ => trivial, wpAnyT_weakS fuel _ a' w' h'.2⟩) (h.2 i hi)⟩
end
/-- the cells of two spans of a row -/
def SwT (g p q : Nat) (x y : Sp) (W : World) : Prop := (W.cell? ⟨g, p * 2, none⟩ = some (.int .i64 x.1) ∧ W.cell? ⟨g, p * 2 + 1, none⟩ = some (.int .i64 x.2)) ∧ W.cell? ⟨g, q * 2, none⟩ = some (.int .i64 y.1) ∧ W.cell? ⟨g, q * 2 + 1, none⟩ = some (.int .i64 y.2)
end Go.Pol
namespace Go.Proofs.YtpabnbhbcphfiaaGreat
open Go Go.Proofs Go.RowKit Go.Pol Go.Shelf
attribute [local go_sem] Oper.semAt_some Go.Pol.wide_fn Go.Pol.wide_depth Go.Pol.wide_fn' Go.Pol.wide_depth'

theorem own_frozen {w : World} {base g n sz cap : Nat} {e : TypeId} {xs : List Value} (h : w.ownsRow base e sz (.slice (some ⟨g, 0, none⟩) n cap) n xs) : ∃ cur, Blk w g e cur := by
  rcases h.2 with ⟨hn, _⟩ | ⟨g', cap', cur, hv, _, hk, _⟩
  · cases hn
  · cases hv; exact ⟨cur, hk⟩
theorem own_span {w : World} {base g n cap p : Nat} {e : TypeId} {l : List Sp} (h : w.ownsRow base e 2 (.slice (some ⟨g, 0, none⟩) n cap) n (spCells l)) (hl : l.length = n) (hp : p < n) :
    w.cell? ⟨g, p * 2, none⟩ = some (.int .i64 (l.getD p (0, 0)).1) ∧ w.cell? ⟨g, p * 2 + 1, none⟩ = some (.int .i64 (l.getD p (0, 0)).2) := by
  have h2 := spCells_at l p (by omega)
  rw [h.cellAt _ (by omega), h.cellAt _ (by omega)]
  exact h2
theorem own_setSpan {w : World} {base g n cap p : Nat} {e : TypeId} {l : List Sp} (h : w.ownsRow base e 2 (.slice (some ⟨g, 0, none⟩) n cap) n (spCells l)) (hp : p < n) (y : Sp) :
    ((w.setCell ⟨g, p * 2, none⟩ (.int .i64 y.1)).setCell ⟨g, p * 2 + 1, none⟩ (.int .i64 y.2)).ownsRow base e 2 (.slice (some ⟨g, 0, none⟩) n cap) n (spCells (l.set p y)) := by
  rw [← spCells_setE]
  exact own_bump (own_bump h (by omega)) (by omega)
set_option maxRecDepth 100000 in
set_option maxHeartbeats 1600000 in
theorem rev_any (g n cap base : Nat) (l : List Sp) (w : World) (hl : l.length = n) (hn : n ≤ 1024) (ro : w.ownsRow base 115 2 (.slice (some ⟨g, 0, none⟩) n cap) n (spCells l)) :
    Calls Tryz.prog 146 #[.slice (some ⟨g, 0, none⟩) n cap] w fun e w' => e = .returned (.tuple #[]) ∧ w'.ownsRow base 115 2 (.slice (some ⟨g, 0, none⟩) n cap) n (spCells l.reverse) ∧ Far (fun k => k = g) w w' := by
  have hl' := Lib.hid hl
  clear hl
  go_enter Tryz.func146, Tryz.ntmps146
  go_wp2_with fail
  go_loopw [2, 3] (fun i j wr => ∃ (k : Nat) (jv : Int), 2 * k ≤ n ∧ i = .int .i64 k ∧ j = .int .i64 jv ∧ jv = (n : Int) - 1 - k ∧ wr.ownsRow base 115 2 (.slice (some ⟨g, 0, none⟩) n cap) n (spCells (revK k l)) ∧ Far (fun k => k = g) w wr) (fun i _ _ => n - (intOf i).toNat)
  case atStart => exact ⟨0, _, by omega, rfl, rfl, by omega, ro, Far.refl _ _⟩
  case round =>
    clear ro
    obtain ⟨k, jv, hk, rfl, rfl, hjv, ro, hF⟩ := hrel
    by_cases hlt : (k : Int) < jv
    · have hlt' : decide ((k : Int) < jv) = true := by simpa using hlt
      obtain ⟨q, rfl⟩ := Int.eq_ofNat_of_zero_le (show 0 ≤ jv by omega)
      have hq : q = l.length - 1 - k := by have := hl'.out; omega
      have hlk := revK_len l k
      rw [hl'.out] at hlk
      have hnext : Hid (revK (k + 1) l = ((revK k l).set k ((revK k l).getD q (0, 0))).set q ((revK k l).getD k (0, 0))) := Lib.hid (by rw [revK, hq])
      have hS0 : SwT g k q ((revK k l).getD k (0, 0)) ((revK k l).getD q (0, 0)) wr := ⟨own_span ro hlk (by omega), own_span ro hlk (by omega)⟩
      generalize revK k l = lk at *
      have hset := own_setSpan (w := wr.drew) (p := k) (show wr.drew.ownsRow base _ 2 _ n (spCells lk) from ownsRow_call ro ((Below.refl _ wr).drew)) (by omega) (lk.getD q (0, 0))
      have hset2 := own_setSpan (p := q) hset (by omega) (lk.getD k (0, 0))
      rw [← hnext.out] at hset2
      generalize lk.getD k (0, 0) = x at *
      generalize hY : lk.getD q (0, 0) = y at *
      obtain ⟨cur, hcur⟩ := own_frozen ro
      have hkn : (k : Int) < (n : Int) := by omega
      have hkq : k < q := by omega
      have hqn : (q : Int) < (n : Int) := by omega
      have hjv' := Lib.hid hjv
      have hk' := Lib.hid hk
      clear hjv hlt
      go_upto_region 3 with fail
      refine wp_noPanic ?_
      refine wp_region_T (fun _ => True) [] (by kernel_rfl) ?_
      have hS : SwT g k q x y wr.drew := hS0
      have kd := hcur.drew
      have hFd := hF.drew
      generalize wr.drew = w1 at *
      obtain ⟨xa, xb⟩ := x
      obtain ⟨ya, yb⟩ := y
      clear hS0 hcur hF ro hnext hq
      refine' wpAnyT_take (i := 0) (v := _) ?hiT0 (by kernel_rfl) ?hQT0 (Or.inl ⟨?hwT0, ?hyT0⟩) trivial ?reT0
      case hiT0 => (simp only [List.getElem?_toArray, List.getElem?_cons_zero]; rfl)
      case hQT0 => exact fun _ _ _ h => h
      case hwT0 => rfl
      case hyT0 => (intro wS hSw; go_simp; (try with_reducible rfl))
      try simp only [Act.put, List.setIfInBounds_toArray, List.set_cons_zero, List.set_cons_succ]
      refine' wpAnyT_take (i := 1) (v := _) ?hiT1 (by kernel_rfl) ?hQT1 (Or.inl ⟨?hwT1, ?hyT1⟩) trivial ?reT1
      case hiT1 => (simp only [List.getElem?_toArray, List.getElem?_cons_succ, List.getElem?_cons_zero]; rfl)
      case hQT1 => exact fun _ _ _ h => h
      case hwT1 => rfl
      case hyT1 => (intro wS hSw; go_simp; (try with_reducible rfl))
      try simp only [Act.put, List.setIfInBounds_toArray, List.set_cons_zero, List.set_cons_succ]
      refine' wpAnyT_take (i := 2) (v := _) ?hiT2 (by kernel_rfl) ?hQT2 (Or.inl ⟨?hwT2, ?hyT2⟩) trivial ?reT2
      case hiT2 => (simp only [List.getElem?_toArray, List.getElem?_cons_succ, List.getElem?_cons_zero]; rfl)
      case hQT2 => exact fun _ _ _ h => h
      case hwT2 => rfl
      case hyT2 => (intro wS hSw; go_simp; (try with_reducible rfl))
      try simp only [Act.put, List.setIfInBounds_toArray, List.set_cons_zero, List.set_cons_succ]
      refine' wpAnyT_take (i := 3) (v := _) ?hiT3 (by kernel_rfl) ?hQT3 (Or.inl ⟨?hwT3, ?hyT3⟩) trivial ?reT3
      case hiT3 => (simp only [List.getElem?_toArray, List.getElem?_cons_succ, List.getElem?_cons_zero]; rfl)
      case hQT3 => exact fun _ _ _ h => h
      case hwT3 => rfl
      case hyT3 => (intro wS hSw; go_simp; (try with_reducible rfl))
      try simp only [Act.put, List.setIfInBounds_toArray, List.set_cons_zero, List.set_cons_succ]
      refine wpAnyT_weakS (S := SwT g k q (xa, xb) (ya, yb)) (tl := [13, 14, 15]) _ _ _ _ ?_
      refine' wpAnyT_take (i := 4) (v := _) ?hiT4 (by kernel_rfl) ?hQT4 (Or.inl ⟨?hwT4, ?hyT4⟩) hS ?reT4
      case hiT4 => (simp only [List.getElem?_toArray, List.getElem?_cons_succ, List.getElem?_cons_zero]; rfl)
      case hQT4 => exact fun _ _ _ h => h
      case hwT4 => rfl
      case hyT4 => (intro wS hSw; obtain ⟨_, _⟩ := hSw; go_simp; (try with_reducible rfl))
      try simp only [Act.put, List.setIfInBounds_toArray, List.set_cons_zero, List.set_cons_succ]
      refine' wpAnyT_take (i := 5) (v := _) ?hiT5 (by kernel_rfl) ?hQT5 (Or.inl ⟨?hwT5, ?hyT5⟩) hS ?reT5
      case hiT5 => (simp only [List.getElem?_toArray, List.getElem?_cons_succ, List.getElem?_cons_zero]; rfl)
      case hQT5 => exact fun _ _ _ h => h
      case hwT5 => rfl
      case hyT5 => (intro wS hSw; obtain ⟨_, _⟩ := hSw; go_simp; (try with_reducible rfl))
      try simp only [Act.put, List.setIfInBounds_toArray, List.set_cons_zero, List.set_cons_succ]
      refine' wpAnyT_take (i := 6) (v := _) ?hiT6 (by kernel_rfl) ?hQT6 (Or.inl ⟨?hwT6, ?hyT6⟩) hS ?reT6
      case hiT6 => (simp only [List.getElem?_toArray, List.getElem?_cons_succ, List.getElem?_cons_zero]; rfl)
      case hQT6 => exact fun _ _ _ h => h
      case hwT6 => rfl
      case hyT6 => (intro wS hSw; obtain ⟨_, _⟩ := hSw; go_simp; (try with_reducible rfl))
      try simp only [Act.put, List.setIfInBounds_toArray, List.set_cons_zero, List.set_cons_succ]
      refine' wpAnyT_take (i := 7) (v := _) ?hiT7 (by kernel_rfl) ?hQT7 (Or.inl ⟨?hwT7, ?hyT7⟩) hS ?reT7
      case hiT7 => (simp only [List.getElem?_toArray, List.getElem?_cons_succ, List.getElem?_cons_zero]; rfl)
      case hQT7 => exact fun _ _ _ h => h
      case hwT7 => rfl
      case hyT7 => (intro wS hSw; obtain ⟨_, _⟩ := hSw; go_simp; (try with_reducible rfl))
      try simp only [Act.put, List.setIfInBounds_toArray, List.set_cons_zero, List.set_cons_succ]
      refine' wpAnyT_take (i := 8) (v := _) ?hiT8 (by kernel_rfl) ?hQT8 (Or.inl ⟨?hwT8, ?hyT8⟩) hS ?reT8
      case hiT8 => (simp only [List.getElem?_toArray, List.getElem?_cons_succ, List.getElem?_cons_zero]; rfl)
      case hQT8 => exact fun _ _ _ h => h
      case hwT8 => rfl
      case hyT8 => (intro wS hSw; obtain ⟨_, _⟩ := hSw; go_simp; (try with_reducible rfl))
      try simp only [Act.put, List.setIfInBounds_toArray, List.set_cons_zero, List.set_cons_succ]
      refine' wpAnyT_take (i := 9) (v := _) ?hiT9 (by kernel_rfl) ?hQT9 (Or.inl ⟨?hwT9, ?hyT9⟩) hS ?reT9
      case hiT9 => (simp only [List.getElem?_toArray, List.getElem?_cons_succ, List.getElem?_cons_zero]; rfl)
      case hQT9 => exact fun _ _ _ h => h
      case hwT9 => rfl
      case hyT9 => (intro wS hSw; obtain ⟨_, _⟩ := hSw; go_simp; (try with_reducible rfl))
      try simp only [Act.put, List.setIfInBounds_toArray, List.set_cons_zero, List.set_cons_succ]
      refine' wpAnyT_take (i := 10) (v := _) ?hiT10 (by kernel_rfl) ?hQT10 (Or.inl ⟨?hwT10, ?hyT10⟩) hS ?reT10
      case hiT10 => (simp only [List.getElem?_toArray, List.getElem?_cons_succ, List.getElem?_cons_zero]; rfl)
      case hQT10 => exact fun _ _ _ h => h
      case hwT10 => rfl
      case hyT10 => (intro wS hSw; obtain ⟨_, _⟩ := hSw; go_simp; (try with_reducible rfl))
      try simp only [Act.put, List.setIfInBounds_toArray, List.set_cons_zero, List.set_cons_succ]
      refine' wpAnyT_take (i := 11) (v := _) ?hiT11 (by kernel_rfl) ?hQT11 (Or.inl ⟨?hwT11, ?hyT11⟩) hS ?reT11
      case hiT11 => (simp only [List.getElem?_toArray, List.getElem?_cons_succ, List.getElem?_cons_zero]; rfl)
      case hQT11 => exact fun _ _ _ h => h
      case hwT11 => rfl
      case hyT11 => (intro wS hSw; obtain ⟨_, _⟩ := hSw; go_simp; (try with_reducible rfl))
      try simp only [Act.put, List.setIfInBounds_toArray, List.set_cons_zero, List.set_cons_succ]
      refine' wpAnyT_take (i := 12) (v := _) ?hiT12 (by kernel_rfl) ?hQT12 (Or.inl ⟨?hwT12, ?hyT12⟩) hS ?reT12
      case hiT12 => (simp only [List.getElem?_toArray, List.getElem?_cons_succ, List.getElem?_cons_zero]; rfl)
      case hQT12 => exact fun _ _ _ h => h
      case hwT12 => rfl
      case hyT12 => (intro wS hSw; obtain ⟨_, _⟩ := hSw; go_simp; (try with_reducible rfl))
      try simp only [Act.put, List.setIfInBounds_toArray, List.set_cons_zero, List.set_cons_succ]
      have fzd := kd.frozen
      refine wpAnyT_ready (rs := [13]) (by kernel_rfl) (by simp) ?_
      refine' AllReadyT.cons ?hi13 (fun K hK => ?st13) AllReadyT.nil
      case hi13 => (simp only [List.getElem?_toArray, List.getElem?_cons_succ, List.getElem?_cons_zero]; rfl)
      obtain ⟨⟨a0, a1⟩, b0, b1⟩ := hS
      go_simp
      refine hK.out _ _ (fun h => by cases h) (fun _ => ?_)
      clear hK K a0 a1 b0 b1 fzd
      have F2 : Far (fun k => k = g) w1 ((w1.setCell ⟨g, k * 2, none⟩ (.int .i64 ya)).setCell ⟨g, k * 2 + 1, none⟩ (.int .i64 yb)) := Far.setCell (T := fun k => k = g) (p := ⟨g, k * 2 + 1, none⟩) (Far.setCell (T := fun k => k = g) (p := ⟨g, k * 2, none⟩) (Far.refl _ _) (fun _ => rfl) _) (fun _ => rfl) _
      have k2 := (kd.set_ (k * 2) (.int .i64 ya)).set_ (k * 2 + 1) (.int .i64 yb)
      simp only at hset hset2
      generalize (w1.setCell ⟨g, k * 2, none⟩ (.int .i64 ya)).setCell ⟨g, k * 2 + 1, none⟩ (.int .i64 yb) = w2 at *
      try simp only [Act.put, List.setIfInBounds_toArray, List.set_cons_zero, List.set_cons_succ]
      refine wpAnyT_ready (rs := [14]) (by kernel_rfl) (by simp) ?_
      refine' AllReadyT.cons ?hi14 (fun K hK => ?st14) AllReadyT.nil
      case hi14 => (simp only [List.getElem?_toArray, List.getElem?_cons_succ, List.getElem?_cons_zero]; rfl)
      go_simp
      refine hK.out _ _ (fun h => by cases h) (fun _ => ?_)
      clear hK K
      try simp only [Act.put, List.setIfInBounds_toArray, List.set_cons_zero, List.set_cons_succ]
      have fz2 := k2.frozen
      obtain ⟨c0, c1⟩ := own_span hset (p := q) (by rw [List.length_set]; exact hlk) (by omega)
      refine wpAnyT_ready (rs := [15]) (by kernel_rfl) (by simp) ?_
      refine' AllReadyT.cons ?hi15 (fun K hK => ?st15) AllReadyT.nil
      case hi15 => (simp only [List.getElem?_toArray, List.getElem?_cons_succ, List.getElem?_cons_zero]; rfl)
      go_simp
      refine hK.out _ _ (fun h => by cases h) (fun _ => ?_)
      clear hK K c0 c1 fz2
      have F3 : Far (fun k => k = g) w2 ((w2.setCell ⟨g, q * 2, none⟩ (.int .i64 xa)).setCell ⟨g, q * 2 + 1, none⟩ (.int .i64 xb)) := Far.setCell (T := fun k => k = g) (p := ⟨g, q * 2 + 1, none⟩) (Far.setCell (T := fun k => k = g) (p := ⟨g, q * 2, none⟩) (Far.refl _ _) (fun _ => rfl) _) (fun _ => rfl) _
      generalize (w2.setCell ⟨g, q * 2, none⟩ (.int .i64 xa)).setCell ⟨g, q * 2 + 1, none⟩ (.int .i64 xb) = w3 at *
      refine wpAnyT_done (by kernel_rfl) ?_ _
      have F13 := hFd.trans (F2.trans F3)
      clear F2 F3 hFd k2 kd hset
      refine noPanic_normal ?_
      go_wp2_with fail
      go_roundw
      case rel => exact ⟨k + 1, _, by have := hjv'.out; omega, by go_num, rfl, by have := hjv'.out; omega, hset2, F13⟩
      case measure => simp [intOf]; omega
    · have hlt' : decide ((k : Int) < jv) = false := by simpa using hlt
      have hrv := revK_rev l k (by have := hl'.out; omega) (by have := hl'.out; omega)
      rw [hrv] at ro
      go_wp2_with fail
      go_end0
      exact ⟨rfl, ro, hF⟩
theorem revNil_any (A : Option Addr) (cap : Nat) (w : World) : Calls Tryz.prog 146 #[.slice A 0 cap] w fun e w' => e = .returned (.tuple #[]) ∧ w' = w := by
  go_enter Tryz.func146, Tryz.ntmps146
  go_wp2_with fail
  go_loopw [2, 3] (fun i j wr => i = .int .i64 0 ∧ j = .int .i64 (-1) ∧ wr = w) (fun _ _ _ => 0)
  case atStart => exact ⟨rfl, rfl, rfl⟩
  case round =>
    obtain ⟨rfl, rfl, hw⟩ := hrel
    have hw' := hw.symm
    clear hw
    subst hw'
    go_wp2_with fail
    go_end0
    exact ⟨rfl, rfl⟩
theorem revAny_any (v : Value) (n base : Nat) (l : List Sp) (w : World) (hl : l.length = n) (hn : n ≤ 1024) (ro : w.ownsRow base 115 2 v n (spCells l)) :
    Calls Tryz.prog 146 #[v] w fun e w' => e = .returned (.tuple #[]) ∧ w'.ownsRow base 115 2 v n (spCells l.reverse) ∧ Far (fun k => v.ownBlock = some k) w w' := by
  cases n with
  | zero =>
    obtain ⟨A, cap, rfl⟩ := own_slice ro
    obtain rfl : l = [] := List.eq_nil_of_length_eq_zero hl
    refine (revNil_any A cap w).mono ?_
    rintro e w' ⟨rfl, rfl⟩
    exact ⟨rfl, ro, Far.refl _ _⟩
  | succ m =>
    obtain ⟨g, cap, rfl⟩ := ownsRow_succ ro
    refine (rev_any g (m + 1) cap base l w hl hn ro).mono ?_
    rintro e w' ⟨rfl, h1, h2⟩
    exact ⟨rfl, h1, h2.mono (fun k _ h => by rw [h]; rfl)⟩
theorem RU.takenS {w : World} {B : Nat} {A : Option Addr} {us : List Sp} (h : RU w B A us) (m : Nat) : RU w B A (us.take m) := fun k hk => by
  have hk2 : k < m ∧ k < us.length := by rw [List.length_take] at hk; omega
  have e : (us.take m).getD k (0, 0) = us.getD k (0, 0) := by simp [List.getD_eq_getElem?_getD, hk2.1]
  rw [e]
  exact h k hk2.2
end Go.Proofs.YtpabnbhbcphfiaaGreat
