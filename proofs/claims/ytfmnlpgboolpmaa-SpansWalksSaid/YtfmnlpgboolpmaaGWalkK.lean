/- Walks: the reference's usable pages and guards as sets. -/
import Derived.Test.YtfmnlpgboolpmaaGWalkJ
import Derived.Test.YtfmnlpgboolpmaaGSpecB
import Derived.Deep.MidRow
namespace Go.Pol
open Go Go.RowKit
theorem MarksAre.set {cs : Array Value} {f g : Nat → Bool} (h : MarksAre cs f) (k : Nat) (hk : k < 1024) (b : Bool) (hb : g k = b) (hg : ∀ j, j ≠ k → g j = f j) : MarksAre (cs.setIfInBounds k (.bool b)) g :=
  ⟨by simp [h.size], fun j hj => by
    by_cases hjk : j = k
    · subst hjk
      rw [Array.getElem?_setIfInBounds_self_of_lt (by rw [h.size]; exact hk), hb]
    · rw [Array.getElem?_setIfInBounds_ne (Ne.symm hjk), hg j hjk]; exact h.at_ j hj⟩
theorem rangeAt_blk {w : World} {g : Nat} {t : TypeId} {cs : Array Value} (h : Blk w g t cs) : w.rangeAt g 0 cs.toList := fun j v hj => by
  rw [Nat.zero_add, h.cell]; simpa using hj
/-- the marks of the first pages of a plan -/
def setM (pg n f b ev : Int) (us : Bool) (j : Nat) (q : Nat) : Bool := decide (pg ≤ (q : Int) ∧ (q : Int) < pg + j) && ((kindG pg n f b ev q == 0) == us)
end Go.Pol
namespace Go.Proofs.Ytfmnlpgboolpmaa
open Go Go.Proofs Go.RowKit Go.Pol
theorem zeros_are : MarksAre Try.zeroCells103 (fun _ => false) := by
  have e : Try.zeroCells103 = Array.replicate 1024 (.bool false) := by kernel_rfl
  rw [e]
  exact ⟨by simp, fun k hk => by simp [hk]⟩

set_option maxRecDepth 100000 in
set_option maxHeartbeats 1600000 in
theorem refset_any (pg n f b ev : Int) (us : Bool) (w : World) (hp : PlanOk pg n f b ev) (S : List Sp) (hS : setA (setM pg n f b ev us n.toNat) = S) :
    Calls Try.prog 78 #[planV pg n f b ev, .bool us] w (SpansO w S) := by
  have HK := Lib.hid (fun q W h0 h1 => kind_any pg n f b ev q W hp h0 h1)
  have HSet := Lib.hid (fun cs f W h => refSet_any cs f W h)
  obtain ⟨p1, p2, p3, p4, p5, p6, p7, p8, p9, p10, p11⟩ := hp
  obtain ⟨s, hs⟩ : ∃ s, w.heap.size = s := ⟨_, rfl⟩
  obtain ⟨W0, hW0⟩ : ∃ W0, (w.alloc (.cells (planC pg n f b ev) 25)).alloc (.cells Try.zeroCells103 103) = W0 := ⟨_, rfl⟩
  have hb0 : Below s w W0 := by rw [← hW0, ← hs]; exact ((Below.refl w.heap.size w).alloc (Nat.le_refl _) _).alloc (by simp) _
  have kP : Blk W0 s 25 (planC pg n f b ev) := by rw [← hW0, ← hs]; exact (Blk.new _ _ _).alloc _
  have kM : Blk W0 (s + 1) 103 Try.zeroCells103 := by
    have := Blk.new (w.alloc (.cells (planC pg n f b ev) 25)) 103 Try.zeroCells103
    rw [World.size_alloc, hs, hW0] at this; exact this
  have hZ := zeros_are
  have hS' := Lib.hid hS
  have hW1 := Lib.hid hW0
  clear hS hW0
  go_enter Try.func78, Try.ntmps78
  go_upto_region 2 with fail
  try simp only [Nat.add_assoc, Nat.reduceAdd]
  rw [hW1.out]
  have cP0 := kP.cell
  generalize Try.zeroCells103 = Z at *
  clear hW1
  go_wp2_with fail
  go_loopw [6] (fun i wr => ∃ (j : Nat) (cs : Array Value), (j : Int) ≤ n ∧ i = .int .i64 (pg + j) ∧ Blk wr s 25 (planC pg n f b ev) ∧ Blk wr (s + 1) 103 cs ∧ MarksAre cs (setM pg n f b ev us j) ∧ Below s w wr) (fun i _ => (pg + n - intOf i).toNat)
  case atStart => exact ⟨0, Z, by omega, by simp, kP, kM, ⟨hZ.size, fun k hk => by rw [hZ.at_ k hk]; simp [setM]; omega⟩, hb0⟩
  case round =>
    obtain ⟨j, cs, hj, rfl, kP, kM, hM, hB⟩ := hrel
    have cP := kP.cell
    have hBs := hB.size
    have hwl := kM.lt
    by_cases hlt : (j : Int) < n
    · have hlt' : decide (pg + (j : Int) < pg + n) = true := by simp; omega
      have hKK := Lib.hid (fun W => HK.out (pg + j) W (by omega) (by omega))
      have hst := Lib.hid (hM.set (g := setM pg n f b ev us (j + 1)) (pg + j).toNat (by omega) ((kindG pg n f b ev (pg + j) == 0) == us) (by
        have e : (((pg + (j : Int)).toNat : Nat) : Int) = pg + j := by omega
        simp only [setM, e]
        rw [decide_eq_true (by omega), Bool.true_and]) (fun k hk => by
        simp only [setM]
        congr 1
        exact decide_eq_decide.2 (by omega)))
      have hold := hM.at_ (pg + j).toNat (by omega)
      generalize setM pg n f b ev us j (pg + (j : Int)).toNat = B0 at hold
      generalize kindG pg n f b ev (pg + j) = K at *
      have hN : (pg + (j : Int) + 1) = pg + ((j + 1 : Nat) : Int) := by omega
      have hN' := Lib.hid hN
      clear hN
      go_wp2_with (go_at_call 76; refine (hKK.out _).mono ?_; rintro e w1 ⟨rfl, hq⟩; have kP1 := kP.call hq; have kM1 := kM.call hq; have fM1 := kM1.frozen; have cM1 : w1.cell? ⟨s + 1, (pg + (j : Int)).toNat, none⟩ = some (.bool B0) := (kM1.cell _).trans hold)
      have hf4 : Far (fun k => k = s + 1) w1 (w1.setCell ⟨s + 1, (pg + (j : Int)).toNat, none⟩ (.bool ((K == 0) == us))) := Far.setCell (T := fun k => k = s + 1) (p := ⟨s + 1, (pg + (j : Int)).toNat, none⟩) (Far.refl _ _) (fun _ => rfl) _
      have hB1 := hB.trans (hq.mono (by omega))
      go_roundw
      case rel => exact ⟨j + 1, _, by omega, by rw [hN'.out], hf4.blk kP1 (by omega), kM1.set_ _ _, hst.out, hB1.trans (hf4.below (by have := hB1.size; omega) (fun k hk => by omega))⟩
      case measure => simp [intOf]; omega
    · have hlt' : decide (pg + (j : Int) < pg + n) = false := by simp; omega
      have hjn : n.toNat = j := by omega
      rw [hjn] at hS'
      have HS2 := Lib.hid (fun W => HSet.out cs _ W hM)
      rw [hS'.out] at HS2
      have hsz := hM.size
      go_wp2_with (first
        | (refine wpList_load_mid rfl 103 (.tmp 5) rfl (s + 1) 0 rfl cs.toList _ (rangeAt_blk kM) Try.underlying103 rfl (by rw [Array.length_toList, hsz]; kernel_rfl) ?_; rw [Array.toArray_toList])
        | (go_at_call 91; refine (HS2.out _).mono ?_; rintro e w2 ⟨A, cap, rfl, hru, h1, h2, h3, hq2⟩))
      go_ret
      exact ⟨A, cap, rfl, hru, h1, h2, fun b o e => by have := h3 b o e; omega, by rw [hs]; exact hB.trans (hq2.mono (by omega))⟩
end Go.Proofs.Ytfmnlpgboolpmaa
