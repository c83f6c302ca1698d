/- Walk: can blocks of these orders be placed? (holds) -/
import Derived.Deep.MidRow
import Derived.Test.YtifdgabfnnkghaaVWalkM
namespace Go.Pol
open Go Go.RowKit
/-- the cells of an array of eleven numbers -/
structure ArrAre (cs : Array Value) (g : Nat → Int) : Prop where
  size : cs.size = 11
  at_ : ∀ t, t < 11 → cs[t]? = some (.int .i64 (g t))
theorem ArrAre.set {cs : Array Value} {g : Nat → Int} (h : ArrAre cs g) {t : Nat} (ht : t < 11) (v : Int) : ArrAre (cs.setIfInBounds t (.int .i64 v)) (fun t' => if t' = t then v else g t') := by
  refine ⟨by simp [h.size], fun t' ht' => ?_⟩
  rw [Array.getElem?_setIfInBounds]
  by_cases e : t = t'
  · subst e
    rw [if_pos rfl, if_pos (by rw [h.size]; exact ht)]
    simp
  · rw [if_neg e, h.at_ t' ht']
    have : ¬ t' = t := fun h => e h.symm
    simp [this]
theorem ArrAre.ext {cs : Array Value} {g g' : Nat → Int} (h : ArrAre cs g) (hg : ∀ t, t < 11 → g t = g' t) : ArrAre cs g' := ⟨h.size, fun t ht => by rw [h.at_ t ht, hg t ht]⟩
def needO (o t : Nat) : Nat := if t ≤ o then 2 ^ (o - t) else 0
theorem needB_snoc (os : List Nat) (o t : Nat) : needB (os ++ [o]) t = needB os t + needO o t := by simp [needB, needO]
theorem needB_le (os : List Nat) (t : Nat) (h : ∀ o ∈ os, o ≤ 10) : needB os t ≤ os.length * 1024 := by
  induction os with
  | nil => simp [needB]
  | cons o r ih =>
    have ih' := ih (fun x hx => h x (by simp [hx]))
    have ho := h o (by simp)
    have : (if t ≤ o then 2 ^ (o - t) else 0) ≤ 1024 := by
      split
      · exact Nat.le_trans (Nat.pow_le_pow_right (by decide) (show o - t ≤ 10 by omega)) (by decide)
      · omega
    simp only [needB, List.map_cons, List.sum_cons, List.length_cons] at ih' ⊢
    omega
end Go.Pol
namespace Go.Proofs.Ytifdgabfnnkghaa
open Go Go.Proofs Go.RowKit Go.Pol Go.Shelf Go.Deep

theorem idx_arr (cs : Array Value) (g : Nat → Int) (h : ArrAre cs g) (t : Nat) (ht : t < 11) (W : World) : (Instr.index 95 (.agg cs) (.int .i64 t)).run Try.prog W = .ok (.int .i64 (g t)) W := by
  have u := Try.underlying95
  have a3 := Try.isAgg3
  have z3 := Try.sizeOf3
  have hg := h.at_ t ht
  have h1 : 0 ≤ (t : Int) ∧ (t : Int) < 11 := by omega
  unfold Instr.index
  simp only [Sem.run_bind, run_underlying u, Result.andThen_ok]
  simp [part, asIntOf, a3, Result.andThen, h1, hg]
theorem rangeAt_blk {w : World} {g : Nat} {t : TypeId} {cs : Array Value} (h : Blk w g t cs) : w.rangeAt g 0 cs.toList := fun j v hj => by
  rw [Nat.zero_add, h.cell]; simpa using hj
set_option maxRecDepth 100000 in
set_option maxHeartbeats 1600000 in
theorem holds_any (B : Nat) (f : Nat → Nat → Bool) (cs : Array Value) (A : Option Addr) (n cap : Nat) (os : List Nat) (w : World) (hn : os.length = n) (hn64 : n ≤ 1000) (hos : ∀ o ∈ os, o ≤ 10) (hr : RI w w.heap.size A (os.map fun o : Nat => (o : Int))) (kB : Blk w B 97 cs) (hR : RoomAre cs f (cntI f)) :
    Calls Try.prog 68 #[.pointer (some ⟨B, 0, none⟩), .slice A n cap] w fun e w' => e = .returned (.bool (holdsB f os)) ∧ Below w.heap.size w w' := by
  obtain ⟨R, hRR⟩ : ∃ R, holdsB f os = R := ⟨_, rfl⟩
  rw [hRR]
  have hE := Lib.hid hRR
  have hn' := Lib.hid hn
  have hos' := Lib.hid hos
  have hR' := Lib.hid hR
  clear hRR hn hos hR
  have hb0 := (Below.refl w.heap.size w).alloc (Nat.le_refl _) (.cells #[.int .i64 0, .int .i64 0, .int .i64 0, .int .i64 0, .int .i64 0, .int .i64 0, .int .i64 0, .int .i64 0, .int .i64 0, .int .i64 0, .int .i64 0] 95)
  have kN := Blk.new w 95 #[.int .i64 0, .int .i64 0, .int .i64 0, .int .i64 0, .int .i64 0, .int .i64 0, .int .i64 0, .int .i64 0, .int .i64 0, .int .i64 0, .int .i64 0]
  have hz : ArrAre #[.int .i64 0, .int .i64 0, .int .i64 0, .int .i64 0, .int .i64 0, .int .i64 0, .int .i64 0, .int .i64 0, .int .i64 0, .int .i64 0, .int .i64 0] (fun _ => 0) := ⟨rfl, fun t ht => by
    rcases (show t = 0 ∨ t = 1 ∨ t = 2 ∨ t = 3 ∨ t = 4 ∨ t = 5 ∨ t = 6 ∨ t = 7 ∨ t = 8 ∨ t = 9 ∨ t = 10 by omega) with rfl | rfl | rfl | rfl | rfl | rfl | rfl | rfl | rfl | rfl | rfl <;> rfl⟩
  have hlB := kB.lt
  go_enter Try.func68, Try.ntmps68
  go_upto_region 2 with fail
  generalize w.alloc (.cells #[.int .i64 0, .int .i64 0, .int .i64 0, .int .i64 0, .int .i64 0, .int .i64 0, .int .i64 0, .int .i64 0, .int .i64 0, .int .i64 0, .int .i64 0] 95) = w0 at *
  generalize #[Value.int .i64 0, .int .i64 0, .int .i64 0, .int .i64 0, .int .i64 0, .int .i64 0, .int .i64 0, .int .i64 0, .int .i64 0, .int .i64 0, .int .i64 0] = zc at *
  go_wp2_with fail
  go_loopw [13] (fun i wr => ∃ (k : Nat) (ds : Array Value), k ≤ n ∧ i = .int .i64 k ∧ Blk wr w.heap.size 95 ds ∧ Hid (ArrAre ds (fun t => (needB (os.take k) t : Nat))) ∧ Below w.heap.size w wr) (fun i _ => n - (intOf i).toNat)
  case atStart => exact ⟨0, zc, by omega, rfl, kN, Lib.hid (hz.ext (fun t _ => by simp [needB])), hb0⟩
  case round =>
    obtain ⟨k, ds, hk, rfl, kD, hD, hB⟩ := hrel
    by_cases hlt : k < n
    · have hlt' : decide ((k : Int) < (n : Int)) = true := by simpa using hlt
      obtain ⟨b, o, rfl, hbl, c1⟩ := ((hr.below hB).more hB.size).at_ (k := k) (by rw [List.length_map]; have := hn'.out; omega)
      obtain ⟨od, hod⟩ : ∃ od, os.getD k 0 = od := ⟨_, rfl⟩
      have hge : (os.map fun o : Nat => (o : Int)).getD k 0 = (od : Int) := by
        rw [← hod]
        simp only [List.getD_eq_getElem?_getD, List.getElem?_map]
        rw [List.getElem?_eq_getElem (by have := hn'.out; omega)]; simp
      rw [hge] at c1
      have hmem : od ∈ os := by rw [← hod, List.getD_eq_getElem?_getD, List.getElem?_eq_getElem (by have := hn'.out; omega)]; simp
      have hod10 := hos'.out od hmem
      have hts : Hid (os.take (k + 1) = os.take k ++ [od]) := Lib.hid (by
        rw [List.take_add_one, List.getElem?_eq_getElem (by have := hn'.out; omega), ← hod, List.getD_eq_getElem?_getD, List.getElem?_eq_getElem (by have := hn'.out; omega)]; rfl)
      have hnb := Lib.hid (fun t => needB_le (os.take k) t (fun x hx => hos'.out x (List.mem_of_mem_take hx)))
      clear hge hod hmem
      go_wp2_with fail
      go_loopw [8] (fun i wr2 => ∃ (j : Nat) (es : Array Value), j ≤ od + 1 ∧ i = .int .i64 j ∧ Blk wr2 w.heap.size 95 es ∧ Hid (ArrAre es (fun t => ((needB (os.take k) t + if t < j then needO od t else 0 : Nat) : Int))) ∧ Below w.heap.size w wr2) (fun i _ => od + 1 - (intOf i).toNat)
      case atStart => exact ⟨0, ds, by omega, rfl, kD, Lib.hid (hD.out.ext (fun t _ => by simp)), hB⟩
      case round =>
        clear kD hD hB c1 hbl
        obtain ⟨j, es, hj, rfl, kE, hEs, hB⟩ := hrel
        by_cases hlt2 : j ≤ od
        · have hlt2' : decide ((j : Int) ≤ (od : Int)) = true := by simpa using hlt2
          have HS := Lib.hid (fun W => size_any ((od : Int) - (j : Int)) W (by omega))
          have hpw : pw ((od : Int) - (j : Int)) = ((2 ^ (od - j) : Nat) : Int) := by rw [show (od : Int) - (j : Int) = ((od - j : Nat) : Int) by omega, pw_nat]
          rw [hpw] at HS
          have hq1024 : 2 ^ (od - j) ≤ 1024 := Nat.le_trans (Nat.pow_le_pow_right (by decide) (show od - j ≤ 10 by omega)) (by decide)
          have hno : Hid (needO od j = 2 ^ (od - j)) := Lib.hid (by unfold needO; rw [if_pos hlt2])
          obtain ⟨q, hq⟩ : ∃ q, 2 ^ (od - j) = q := ⟨_, rfl⟩
          rw [hq] at HS hq1024
          have hno' : Hid (needO od j = q) := Lib.hid (by rw [hno.out, hq])
          clear hpw hq hno
          have hcell : _ := (kE.cell j).trans (hEs.out.at_ j (by omega))
          obtain ⟨nd, hnd⟩ : ∃ nd, needB (os.take k) j = nd := ⟨_, rfl⟩
          have hnd64 : nd ≤ 1024000 := by
            rw [← hnd]
            have := hnb.out j
            have h2 : (os.take k).length ≤ n := by rw [List.length_take]; omega
            have h3 : (os.take k).length * 1024 ≤ n * 1024 := Nat.mul_le_mul_right _ h2
            omega
          have hcv : Hid (((needB (os.take k) j + if j < j then needO od j else 0 : Nat) : Int) = (nd : Int)) := Lib.hid (by rw [hnd]; simp)
          rw [hcv.out] at hcell
          have hset := Lib.hid (hEs.out.set (t := j) (by omega) ((nd : Int) + (q : Int)))
          have hnext : Hid (ArrAre (es.setIfInBounds j (.int .i64 ((nd : Int) + (q : Int)))) (fun t => ((needB (os.take k) t + if t < j + 1 then needO od t else 0 : Nat) : Int))) := Lib.hid (hset.out.ext (fun t _ => by
            by_cases e : t = j
            · subst e
              rw [if_pos rfl, if_pos (by omega), hnd, hno'.out]; rfl
            · rw [if_neg e]
              by_cases e2 : t < j
              · rw [if_pos e2, if_pos (by omega)]
              · rw [if_neg e2, if_neg (by omega)]))
          have q1 := fun z : Ext wr => z.cell hcell
          have G := Lib.hid (fun z : Ext wr => Ext.call (x := z) ((HS.out z.w).mono (fun e w' h => ⟨h.1, by rw [h.2]; exact Below.refl _ _⟩)))
          clear hEs hset hcv
          go_upto_region 8 with fail
          refine region_ext_tail 9 (by kernel_rfl) (by kernel_rfl) ?_
          simp only [List.take_succ_cons, List.take_zero, List.drop_succ_cons, List.drop_zero]
          repeat (go_big_quiet_step ((go_at_call 29; exact G.out _)))
          refine wpQuiet_nil ?_
          intro z
          have kZ := z.blk kE
          have fZ := kZ.frozen
          have hcz := z.cell hcell
          have hBz := hB.trans (z.le.mono hB.size)
          go_wp2_with fail
          go_roundw
          case rel => exact ⟨j + 1, _, by omega, by go_num, kZ.set_ j (.int .i64 ((nd : Int) + (q : Int))), hnext, hBz.setCell (p := ⟨w.heap.size, j, none⟩) (by simp) _⟩
          case measure => simp [intOf]; omega
        · obtain rfl : j = od + 1 := by omega
          have hlt2' : decide (((od + 1 : Nat) : Int) ≤ (od : Int)) = false := by simp; omega
          have hlt2'' : decide ((od : Int) + 1 ≤ (od : Int)) = false := by simp; omega
          have hnext : Hid (ArrAre es (fun t => (needB (os.take (k + 1)) t : Nat))) := Lib.hid (hEs.out.ext (fun t _ => by
            rw [hts.out, needB_snoc]
            unfold needO
            by_cases e : t ≤ od
            · rw [if_pos (by omega)]
            · rw [if_neg (by omega), if_neg e]))
          clear hEs
          go_wp2_with fail
          go_roundw
          case rel => exact ⟨k + 1, es, by omega, by go_num, kE, hnext, hB⟩
          case measure => simp [intOf]; omega
    · obtain rfl : k = n := by omega
      have hlt' : decide ((k : Int) < (k : Int)) = false := by simp
      have hD2 : Hid (ArrAre ds (fun t => (needB os t : Nat))) := Lib.hid (hD.out.ext (fun t _ => by rw [List.take_of_length_le (by have := hn'.out; omega)]))
      have hsz := hD2.out.size
      have hidx := fun t ht W => idx_arr ds _ hD2.out t ht W
      have hidx' := Lib.hid hidx
      clear hD hidx
      go_wp2_with (refine wpList_load_mid rfl 95 (.tmp 5) rfl w.heap.size 0 rfl ds.toList _ (rangeAt_blk kD) Try.underlying95 rfl (by rw [Array.length_toList, hsz]; kernel_rfl) ?_; rw [Array.toArray_toList])
      have kR := kB.call hB
      have hcR := kR.cell
      go_loopw [33] (fun i wr2 => ∃ j : Nat, j ≤ 11 ∧ i = .int .i64 j ∧ wr2 = wr ∧ Hid (∀ t, t < j → needB os t ≤ cntB (f t) 1024)) (fun i _ => 11 - (intOf i).toNat)
      case atStart => exact ⟨0, by omega, rfl, rfl, Lib.hid (by omega)⟩
      case round =>
        obtain ⟨j, hj, rfl, hw, hL⟩ := hrel
        have hw' := hw.symm
        clear hw
        subst hw'
        by_cases hlt2 : j < 11
        · have hlt2' : decide ((j : Int) < 11) = true := by simp; omega
          have hx := hidx'.out j hlt2
          have hcell : _ := (kR.cell (11264 + j)).trans (hR'.out.many j hlt2)
          obtain ⟨c, hc⟩ : ∃ c, cntB (f j) 1024 = c := ⟨_, rfl⟩
          have hcI : Hid (cntI f j = (c : Int)) := Lib.hid (by unfold cntI; rw [hc])
          rw [hcI.out] at hcell
          obtain ⟨nd, hnd⟩ : ∃ nd, needB os j = nd := ⟨_, rfl⟩
          rw [hnd] at hx
          have hc' := Lib.hid hc
          have hnd' := Lib.hid hnd
          clear hc hnd hcR
          by_cases hcmp : c < nd
          · have hcmp' : decide ((c : Int) < (nd : Int)) = true := by simpa using hcmp
            have hF : Hid (R = false) := Lib.hid (by
              rw [← hE.out]
              cases h : holdsB f os with
              | false => rfl
              | true =>
                have := (List.all_eq_true.1 h) j (List.mem_range.2 hlt2)
                rw [hnd'.out, hc'.out] at this
                simp at this; omega)
            clear hE hL
            go_wp2_with fail
            go_ret
            exact ⟨ret_bool hF.out.symm, hB⟩
          · have hcmp' : decide ((c : Int) < (nd : Int)) = false := by simpa using hcmp
            have hL2 : Hid (∀ t, t < j + 1 → needB os t ≤ cntB (f t) 1024) := Lib.hid (fun t ht => by
              by_cases e : t = j
              · subst e; rw [hnd'.out, hc'.out]; omega
              · exact hL.out t (by omega))
            clear hL
            go_wp2_with fail
            go_roundw
            case rel => exact ⟨j + 1, by omega, by go_num, by first | rfl | trivial, hL2⟩
            case measure => simp [intOf]; omega
        · obtain rfl : j = 11 := by omega
          have hT : Hid (R = true) := Lib.hid (by
            rw [← hE.out]
            exact List.all_eq_true.2 (fun t ht => by simpa using hL.out t (List.mem_range.1 ht)))
          clear hE hL
          go_wp2_with fail
          go_ret
          exact ⟨ret_bool hT.out.symm, hB⟩
end Go.Proofs.Ytifdgabfnnkghaa
