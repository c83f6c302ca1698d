/- Walks: the law's free, opened. -/
import Derived.Test.YtifdgabfnnkghaaVSpecI
import Derived.Test.YtifdgabfnnkghaaVWalkT
namespace Go.Proofs.Ytifdgabfnnkghaa
open Go Go.Proofs Go.RowKit Go.Pol Go.Shelf Go.Deep

set_option maxRecDepth 100000 in
set_option maxHeartbeats 1600000 in
theorem lawFree_any (A : Option Addr) (n cap : Nat) (cs : List B3) (p q : Int) (w : World) (hn : cs.length = n) (hm : n ≤ 1000) (hr : RT w w.heap.size A cs) (hok : ∀ b ∈ cs, okPl b) (hp : 0 ≤ p ∧ p ≤ 100000) (hq : 0 ≤ q ∧ q ≤ 100000) :
    Calls Try.prog 24 #[.slice A n cap, .int .i64 p, .int .i64 q] w fun e w' => e = .returned (.bool (freeL cs p q)) ∧ Below w.heap.size w w' := by
  obtain ⟨R, hR⟩ : ∃ R, freeL cs p q = R := ⟨_, rfl⟩
  rw [hR]
  have hR' := Lib.hid hR
  have hn' := Lib.hid hn
  have hok' := Lib.hid hok
  clear hR hn hok
  go_enter Try.func24, Try.ntmps24
  go_wp2_with fail
  go_loopw [7] (fun i wr => ∃ k : Nat, k ≤ n ∧ i = .int .i64 k ∧ Below w.heap.size w wr ∧ Hid (∀ j, j < k → (decide ((cs.getD j b0).1 < p + q) && decide (p < (cs.getD j b0).1 + pw (cs.getD j b0).2.1)) = false)) (fun i _ => n - (intOf i).toNat)
  case atStart => exact ⟨0, by omega, rfl, Below.refl _ _, Lib.hid (fun j hj => by omega)⟩
  case round =>
    obtain ⟨k, hk, rfl, hB, hH⟩ := hrel
    by_cases hlt : k < n
    · have hlt' : decide ((k : Int) < (n : Int)) = true := by simpa using hlt
      obtain ⟨b, o, rfl, _, c1, c2, c3⟩ := ((hr.below hB).more hB.size).at_ (k := k) (by have := hn'.out; omega)
      have hob := hok'.out _ (memD (cs := cs) (k := k) (by have := hn'.out; omega))
      have hmem := Lib.hid (memD (cs := cs) (k := k) (by have := hn'.out; omega))
      have hat : Hid (∀ v : Bool, (decide ((cs.getD k b0).1 < p + q) && decide (p < (cs.getD k b0).1 + pw (cs.getD k b0).2.1)) = v → (v = true → R = false) ∧ (v = false → ∀ j, j < k + 1 → (decide ((cs.getD j b0).1 < p + q) && decide (p < (cs.getD j b0).1 + pw (cs.getD j b0).2.1)) = false)) := Lib.hid (fun v hv => by
        refine ⟨fun h => ?_, fun h j hj => ?_⟩
        · rw [← hR'.out]
          cases hfl : freeL cs p q with
          | false => rfl
          | true =>
            have := List.all_eq_true.1 hfl _ hmem.out
            rw [hv, h] at this
            cases this
        · by_cases e : j = k
          · rw [e, hv, h]
          · exact hH.out j (by omega))
      generalize cs.getD k b0 = y at *
      obtain ⟨ya, yo, yc⟩ := y
      simp only at c1 c2 c3 hat
      obtain ⟨hya, hyo⟩ := hob
      simp only at hya hyo
      have HS := Lib.hid (fun W => refSize_any yo W hyo)
      have hp1 := pw_pos yo
      have hp2 := pw_le hyo.2
      generalize pw yo = s at *
      have q1 := fun z : Ext wr => z.cell c1
      have q2 := fun z : Ext wr => z.cell c2
      have G := Lib.hid (fun z : Ext wr => Ext.call (x := z) ((HS.out z.w).mono (fun e w' h => ⟨h.1, by rw [h.2]; exact Below.refl _ _⟩)))
      clear hmem
      by_cases d1 : ya < p + q
      · have d1' : decide (ya < p + q) = true := by simpa using d1
        by_cases d2 : p < ya + s
        · have d2' : decide (p < ya + s) = true := by simpa using d2
          have hF : Hid (R = false) := Lib.hid ((hat.out true (by rw [d1', d2']; rfl)).1 rfl)
          clear hat d1 d2 hH
          go_upto_region 4 with fail
          refine region_ext (by kernel_rfl) (by kernel_rfl) ?_
          repeat (go_big_quiet_step ((go_at_call 22; exact G.out _)))
          refine wpQuiet_nil ?_
          rintro w5 ⟨⟨_, hw5⟩, rfl⟩
          go_wp2_with fail
          go_ret
          exact ⟨ret_bool hF.out.symm, hB.trans (hw5.mono hB.size)⟩
        · have d2' : decide (p < ya + s) = false := by simpa using d2
          have hN := Lib.hid ((hat.out false (by rw [d1', d2']; rfl)).2 rfl)
          clear hat d1 d2 hH
          go_upto_region 4 with fail
          refine region_ext (by kernel_rfl) (by kernel_rfl) ?_
          repeat (go_big_quiet_step ((go_at_call 22; exact G.out _)))
          refine wpQuiet_nil ?_
          rintro w5 ⟨⟨_, hw5⟩, rfl⟩
          go_wp2_with fail
          go_roundw
          case rel => exact ⟨k + 1, by omega, by go_num, hB.trans (hw5.mono hB.size), hN⟩
          case measure => simp [intOf]; omega
      · have d1' : decide (ya < p + q) = false := by simpa using d1
        have hN := Lib.hid ((hat.out false (by rw [d1']; rfl)).2 rfl)
        clear hat d1 hH
        go_upto_region 4 with fail
        refine region_ext (by kernel_rfl) (by kernel_rfl) ?_
        repeat (go_big_quiet_step ((go_at_call 22; exact G.out _)))
        refine wpQuiet_nil ?_
        rintro w5 ⟨⟨_, hw5⟩, rfl⟩
        go_wp2_with fail
        go_roundw
        case rel => exact ⟨k + 1, by omega, by go_num, hB.trans (hw5.mono hB.size), hN⟩
        case measure => simp [intOf]; omega
    · obtain rfl : k = n := by omega
      have hlt' : decide ((k : Int) < (k : Int)) = false := by simp
      have hT : Hid (R = true) := Lib.hid (by
        rw [← hR'.out]
        refine List.all_eq_true.2 (fun b hb => ?_)
        obtain ⟨j, hj, rfl⟩ := memI hb
        rw [hH.out j (by have := hn'.out; omega)]; rfl)
      clear hH
      go_wp2_with fail
      go_ret
      exact ⟨ret_bool hT.out.symm, hB⟩
set_option maxRecDepth 100000 in
set_option maxHeartbeats 1600000 in
theorem opened_any (pg P : Nat) (A : Option Addr) (n cap : Nat) (cs : List B3) (o : Nat) (w : World) (hP : P ≤ 10) (hpg : pg = 2 ^ P) (ho : o ≤ P) (hn : cs.length = n) (hm : n ≤ 1000) (hr : RT w w.heap.size A cs) (hok : ∀ b ∈ cs, okPl b) :
    Calls Try.prog 23 #[.int .i64 pg, .slice A n cap, .int .i64 o] w fun e w' => e = .returned (.bool (openL pg cs o)) ∧ Below w.heap.size w w' := by
  have hpg1024 : pg ≤ 1024 := by rw [hpg]; exact Nat.pow_le_pow_right (by decide) hP
  have HS := Lib.hid (fun W => refSize_any (o : Int) W ⟨by omega, by omega⟩)
  rw [pw_nat] at HS
  obtain ⟨Q, hQ⟩ : ∃ Q, pg / 2 ^ o = Q := ⟨_, rfl⟩
  have hdv : 2 ^ o ∣ pg := by rw [hpg]; exact Nat.pow_dvd_pow 2 ho
  have hpq : pg = Q * 2 ^ o := by rw [← hQ]; exact (Nat.div_mul_cancel hdv).symm
  obtain ⟨R, hR⟩ : ∃ R, openL pg cs o = R := ⟨_, rfl⟩
  rw [hR]
  have hR2 : Hid (R = (List.range Q).any fun k => freeL cs ((k * 2 ^ o : Nat) : Int) ((2 ^ o : Nat) : Int)) := Lib.hid (by rw [← hR]; unfold openL; rw [hQ])
  obtain ⟨sz, hsz⟩ : ∃ sz, 2 ^ o = sz := ⟨_, rfl⟩
  have hsz1 : 1 ≤ sz := by rw [← hsz]; exact Nat.two_pow_pos o
  have hsz1024 : sz ≤ 1024 := by rw [← hsz]; exact Nat.le_trans (Nat.pow_le_pow_right (by decide) (show o ≤ 10 by omega)) (by decide)
  rw [hsz] at HS hpq hR2
  have hpq' := Lib.hid hpq
  have HF := Lib.hid (fun (x : Nat) (hx : x ≤ 1024) W (h : RT W W.heap.size A cs) => lawFree_any A n cap cs (x : Int) (sz : Int) W hn hm h hok ⟨by omega, by omega⟩ ⟨by omega, by omega⟩)
  clear hR hQ hdv hpq hsz hn hok hpg
  go_enter Try.func23, Try.ntmps23
  go_wp2_with (go_at_call 22; refine (HS.out _).mono ?_; rintro e wS ⟨rfl, hwS⟩; replace hwS := hwS.symm; subst hwS)
  go_loopw [8] (fun i wr => ∃ k x : Nat, k ≤ Q ∧ i = .int .i64 x ∧ Hid (x = k * sz) ∧ Below w.heap.size w wr ∧ Hid (∀ j, j < k → freeL cs ((j * sz : Nat) : Int) (sz : Int) = false)) (fun i _ => pg + 1 - (intOf i).toNat)
  case atStart => exact ⟨0, 0, by omega, rfl, Lib.hid (by simp), Below.refl _ _, Lib.hid (fun j hj => by omega)⟩
  case round =>
    obtain ⟨k, x, hk, rfl, hx, hB, hH⟩ := hrel
    by_cases hlt : k < Q
    · have hxs : x + sz ≤ pg := by
        have := Nat.mul_le_mul_right sz (show k + 1 ≤ Q by omega)
        rw [Nat.succ_mul, ← hx.out, ← hpq'.out] at this
        exact this
      have hlt' : decide ((x : Int) + (sz : Int) ≤ (pg : Int)) = true := by simp; omega
      have hlt2 : decide (x + sz ≤ pg) = true := by simp; omega
      have HFx := Lib.hid (HF.out x (by omega) wr ((hr.below hB).more hB.size))
      cases hv : freeL cs (x : Int) (sz : Int) with
      | true =>
        rw [hv] at HFx
        have hT : Hid (R = true) := Lib.hid (by rw [hR2.out]; exact List.any_eq_true.2 ⟨k, List.mem_range.2 hlt, by rw [← hx.out]; exact hv⟩)
        clear hv hH
        go_wp2_with (go_at_call 24; refine HFx.out.mono ?_; rintro e w5 ⟨rfl, hb5⟩)
        go_ret
        exact ⟨ret_bool hT.out.symm, hB.trans (hb5.mono hB.size)⟩
      | false =>
        rw [hv] at HFx
        have hN : Hid (∀ j, j < k + 1 → freeL cs ((j * sz : Nat) : Int) (sz : Int) = false) := Lib.hid (fun j hj => by
          by_cases e : j = k
          · rw [e, ← hx.out]; exact hv
          · exact hH.out j (by omega))
        clear hv hH
        go_wp2_with (go_at_call 24; refine HFx.out.mono ?_; rintro e w5 ⟨rfl, hb5⟩)
        go_roundw
        case rel => exact ⟨k + 1, x + sz, by omega, by go_num, Lib.hid (by rw [hx.out, Nat.succ_mul]), hB.trans (hb5.mono hB.size), hN⟩
        case measure => simp [intOf]; omega
    · obtain rfl : k = Q := by omega
      have hxp : x = pg := by rw [hx.out, ← hpq'.out]
      have hlt' : decide ((x : Int) + (sz : Int) ≤ (pg : Int)) = false := by simp; omega
      have hlt2 : decide (x + sz ≤ pg) = false := by simp; omega
      have hx1024 : x ≤ 1024 := by omega
      have hF : Hid (R = false) := Lib.hid (by
        rw [hR2.out, List.any_eq_false]
        intro j hj
        rw [hH.out j (List.mem_range.1 hj)]; simp)
      clear hH hxp
      go_wp2_with fail
      go_ret
      exact ⟨ret_bool hF.out.symm, hB⟩
end Go.Proofs.Ytifdgabfnnkghaa
