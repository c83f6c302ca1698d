/- Plain laws: Minus is Meet with Not, Not of Union is Meet of both Nots, absorption; page by page. -/
import Derived.Test.YtfmnlpgboolpmaaSWalkJ
namespace Go.Proofs.Ytfmnlpgboolpmaa
open Go Go.Proofs Go.RowKit Go.Pol
abbrev allF (s : List Sp) : List Sp := gapsF s (0, 1024)
section
variable {us vs : List Sp}
theorem comb_can (how : Int) (us vs : List Sp) : Go.Pol.Can (combF how us vs) := by
  unfold combF
  split
  · exact setA_can _
  · exact ⟨by simp, rfl⟩
theorem comb_mem {how : Int} (hz : chk2 us vs = 0) (hh : combG how false false = false) (q : Int) : mem q (combF how us vs) = combG how (mem q us) (mem q vs) := by
  obtain ⟨hU, hV⟩ := chk2_zero hz
  unfold combF
  rw [if_pos hz, Bool.eq_iff_iff, mem_setA]
  constructor
  · rintro ⟨h1, h2⟩
    rwa [show ((q.toNat : Nat) : Int) = q by omega] at h2
  · intro h
    have hr : 0 ≤ q ∧ q < 1024 := by
      by_cases h1 : mem q us = true
      · exact hU.range h1
      · by_cases h2 : mem q vs = true
        · exact hV.range h2
        · rw [Bool.not_eq_true] at h1 h2
          rw [h1, h2, hh] at h
          cases h
    exact ⟨hr, by rwa [show ((q.toNat : Nat) : Int) = q by omega]⟩
theorem all_can (h : Go.Pol.Can us) : Go.Pol.Can (allF us) := (h.gaps (i := (0, 1024)) (by decide)).1
theorem all_mem (h : Go.Pol.Can us) (q : Int) : mem q (allF us) = (decide (0 ≤ q ∧ q < 1024) && !mem q us) := by
  have := (h.gaps (i := (0, 1024)) (by decide)).2 q
  rw [Bool.eq_iff_iff, this]
  simp
theorem law_minus (hz : chk2 us vs = 0) : commonF us (allF vs) = combF 3 us vs := by
  obtain ⟨hU, hV⟩ := chk2_zero hz
  refine (hU.common (all_can hV)).eq (comb_can _ _ _) fun q => ?_
  rw [hU.mem_common (all_can hV), comb_mem hz rfl, all_mem hV]
  show _ = (mem q us && !mem q vs)
  cases hq : mem q us with
  | false => rfl
  | true => rw [decide_eq_true (hU.range hq)]; rfl
theorem law_not (hz : chk2 us vs = 0) : commonF (allF us) (allF vs) = allF (combF 1 us vs) := by
  obtain ⟨hU, hV⟩ := chk2_zero hz
  refine ((all_can hU).common (all_can hV)).eq (all_can (comb_can _ _ _)) fun q => ?_
  rw [(all_can hU).mem_common (all_can hV), all_mem hU, all_mem hV, all_mem (comb_can _ _ _), comb_mem hz rfl]
  show _ = (_ && !(mem q us || mem q vs))
  cases decide (0 ≤ q ∧ q < 1024) <;> cases mem q us <;> cases mem q vs <;> rfl
theorem law_join (hz : chk2 us vs = 0) : combF 1 us (combF 2 us vs) = us := by
  obtain ⟨hU, hV⟩ := chk2_zero hz
  have hz2 : chk2 us (combF 2 us vs) = 0 := by
    unfold chk2
    rw [chkS_zero.2 hU, if_pos rfl]
    exact chkS_zero.2 (comb_can _ _ _)
  refine (comb_can _ _ _).eq hU fun q => ?_
  rw [comb_mem hz2 rfl, comb_mem hz rfl]
  show (mem q us || (mem q us && mem q vs)) = mem q us
  cases mem q us <;> cases mem q vs <;> rfl
theorem law_both (hz : chk2 us vs = 0) : commonF us (combF 1 us vs) = us := by
  obtain ⟨hU, hV⟩ := chk2_zero hz
  refine (hU.common (comb_can _ _ _)).eq hU fun q => ?_
  rw [hU.mem_common (comb_can _ _ _), comb_mem hz rfl]
  show (mem q us && (mem q us || mem q vs)) = mem q us
  cases mem q us <;> cases mem q vs <;> rfl
end
/-! what the calls answer for sets -/
theorem not_can {S : List Sp} (hS : Go.Pol.Can S) (A : Option Addr) (n cap : Nat) (W : World) (hn : S.length = n) (hm : n ≤ cap) (hc : cap ≤ maxLen) (hr : RU W W.heap.size A S) :
    Calls Try.prog 66 #[.slice A n cap, .agg #[.int .i64 0, .int .i64 1024]] W (SpansL W (allF S) 0) := by
  have h := not_any A n cap S 0 1024 W hn hm hc hr
  have ha : askS S (0, 1024) = 0 := by rw [askS, if_pos (chkS_zero.2 hS)]; rfl
  rw [ha, if_pos rfl] at h
  exact h.mono fun _ _ h => h.light
theorem has_can {S : List Sp} (hS : Go.Pol.Can S) {q : Int} (hq : 0 ≤ q ∧ q < 1024) (A : Option Addr) (n cap : Nat) (W : World) (hn : S.length = n) (hm : n ≤ cap) (hc : cap ≤ maxLen) (hr : RU W W.heap.size A S) :
    Calls Try.prog 37 #[.slice A n cap, .agg #[.int .i64 q, .int .i64 1]] W fun e w' => e = .returned (.tuple #[.bool (mem q S), .int .i64 0]) ∧ Below W.heap.size W w' := by
  have hv : vld (q, 1) = true := vld_iff.2 ⟨hq.1, hq.2, by simp, by simp only; omega⟩
  have h := has_any A n cap S q 1 W hn hm hc hr
  have ha : askS S (q, 1) = 0 := by rw [askS, if_pos (chkS_zero.2 hS), if_pos hv]
  rw [ha, has_one hS hv] at h
  exact h
theorem meet_can {S T R : List Sp} (hS : Go.Pol.Can S) (hT : Go.Pol.Can T) (hR : commonF S T = R) (A1 A2 : Option Addr) (n1 c1 n2 c2 : Nat) (W : World) (hn1 : S.length = n1) (hm1 : n1 ≤ c1) (hc1 : c1 ≤ maxLen) (hr1 : RU W W.heap.size A1 S) (hn2 : T.length = n2) (hm2 : n2 ≤ c2) (hc2 : c2 ≤ maxLen) (hr2 : RU W W.heap.size A2 T) :
    Calls Try.prog 35 #[.slice A1 n1 c1, .slice A2 n2 c2] W (SpansOwn W R 0) := by
  have h := meet_own A1 A2 n1 c1 n2 c2 S T W hn1 hm1 hc1 hr1 hn2 hm2 hc2 hr2
  rw [chkS_zero.2 hS, chkS_zero.2 hT, if_pos ⟨rfl, rfl⟩, if_pos rfl, hR] at h
  exact h
theorem union_can {S T R : List Sp} (hS : Go.Pol.Can S) (hT : Go.Pol.Can T) (hR : combF 1 S T = R) (A1 A2 : Option Addr) (n1 c1 n2 c2 : Nat) (W : World) (hn1 : S.length = n1) (hm1 : n1 ≤ c1) (hc1 : c1 ≤ maxLen) (hr1 : RU W W.heap.size A1 S) (hn2 : T.length = n2) (hm2 : n2 ≤ c2) (hc2 : c2 ≤ maxLen) (hr2 : RU W W.heap.size A2 T)
    (hz1 : A1 = none → c1 = 0) (hz2 : A2 = none → c2 = 0) :
    Calls Try.prog 36 #[.slice A1 n1 c1, .slice A2 n2 c2] W (SpansL W R 0) := by
  have h := unionT_any A1 A2 n1 c1 n2 c2 S T W hn1 hm1 hc1 hr1 hn2 hm2 hc2 hr2 hz1 hz2
  rw [union_eq, hR, chkS_zero.2 hS, chkS_zero.2 hT, if_pos rfl] at h
  exact h
theorem check_can {S : List Sp} (hS : Go.Pol.Can S) (A : Option Addr) (n cap : Nat) (W : World) (hn : S.length = n) (hm : n ≤ maxLen) (hr : RU W W.heap.size A S) :
    Calls Try.prog 42 #[.slice A n cap] W fun e w' => e = .returned (.int .i64 0) ∧ Below W.heap.size W w' := by
  have h := spCheck_any A n cap S W hn hm hr
  rw [chkS_zero.2 hS] at h
  exact h
end Go.Proofs.Ytfmnlpgboolpmaa
