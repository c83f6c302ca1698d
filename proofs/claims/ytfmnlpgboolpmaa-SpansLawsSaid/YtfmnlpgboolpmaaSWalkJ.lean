/- Walks: the reference's Union, Meet, Minus and Not. -/
import Derived.Test.YtfmnlpgboolpmaaSWalkE
import Derived.Test.YtfmnlpgboolpmaaSWalkH
import Derived.Test.YtfmnlpgboolpmaaSWalkK
import Derived.Test.YtfmnlpgboolpmaaGWalkO
namespace Go.Pol
open Go
/-- how both sets are combined -/
def combG (how : Int) (x y : Bool) : Bool := if how = 1 then x || y else if how = 2 then x && y else x && !y
/-- what is wrong with two sets -/
def chk2 (us vs : List Sp) : Int := if chkS us = 0 then chkS vs else chkS us
def combF (how : Int) (us vs : List Sp) : List Sp := if chk2 us vs = 0 then setA (fun p => combG how (mem (p : Int) us) (mem (p : Int) vs)) else []
theorem chk2_zero {us vs : List Sp} (h : chk2 us vs = 0) : Can us ∧ Can vs := by
  unfold chk2 at h
  by_cases h1 : chkS us = 0
  · rw [if_pos h1] at h
    exact ⟨chkS_zero.1 h1, chkS_zero.1 h⟩
  · rw [if_neg h1] at h
    exact absurd h h1
end Go.Pol
namespace Go.Proofs.Ytfmnlpgboolpmaa
open Go Go.Proofs Go.RowKit Go.Pol Go.Shelf

set_option maxRecDepth 100000 in
set_option maxHeartbeats 3200000 in
theorem combined_any (A1 A2 : Option Addr) (n1 c1 n2 c2 : Nat) (us vs : List Sp) (how : Int) (hhow : how = 1 ∨ how = 2 ∨ how = 3) (w : World) (hn1 : us.length = n1) (hm1 : n1 ≤ maxLen) (hr1 : RU w w.heap.size A1 us) (hn2 : vs.length = n2) (hm2 : n2 ≤ maxLen) (hr2 : RU w w.heap.size A2 vs) :
    Calls Try.prog 101 #[.slice A1 n1 c1, .slice A2 n2 c2, .int .i64 how] w (SpansR w (combF how us vs) (chk2 us vs)) := by
  have H1 := Lib.hid (fun W h => refSpCheck_any A1 n1 c1 us W hn1 hm1 h)
  have H2 := Lib.hid (fun W h => refSpCheck_any A2 n2 c2 vs W hn2 hm2 h)
  by_cases hz : chk2 us vs = 0
  case neg =>
    unfold combF
    rw [if_neg hz]
    unfold chk2 at hz ⊢
    by_cases h1 : chkS us = 0
    · rw [if_pos h1] at hz ⊢
      rw [h1] at H1
      generalize chkS vs = er at *
      have hz' : (er != 0) = true := by simpa using hz
      clear hz h1 hhow
      go_enter Try.func101, Try.ntmps101
      go_wp2_with fail
      refine (H1.out _ hr1).mono ?_
      rintro e w1 ⟨rfl, hb1⟩
      go_wp2_with fail
      refine (H2.out _ (hr2.on hb1)).mono ?_
      rintro e w2 ⟨rfl, hb2⟩
      go_wp2_with fail
      go_ret2
      exact ⟨none, 0, rfl, RU.nil, by simp, by unfold maxLen; omega, fun b o e => (by cases e), hb1.trans (hb2.mono hb1.size)⟩
    · rw [if_neg h1] at hz ⊢
      generalize chkS us = er at *
      have hz' : (er != 0) = true := by simpa using hz
      have hz2 : (er == 0) = false := by simpa using hz
      clear hz h1 hhow
      go_enter Try.func101, Try.ntmps101
      go_wp2_with fail
      refine (H1.out _ hr1).mono ?_
      rintro e w1 ⟨rfl, hb1⟩
      go_wp2_with fail
      go_ret2
      exact ⟨none, 0, rfl, RU.nil, by simp, by unfold maxLen; omega, fun b o e => (by cases e), hb1⟩
  case pos =>
    obtain ⟨hU, hV⟩ := chk2_zero hz
    have z1 := chkS_zero.2 hU
    have z2 := chkS_zero.2 hV
    rw [z1] at H1
    rw [z2] at H2
    have hC : Hid (combF how us vs = setA (fun p => combG how (mem (p : Int) us) (mem (p : Int) vs))) := Lib.hid (by unfold combF; rw [if_pos hz])
    rw [hz]
    have l1 := hU.len
    have l2 := hV.len
    have M1 := Lib.hid (fun W h => marks_any A1 n1 c1 us W hn1 (by omega) h hU.1)
    have M2 := Lib.hid (fun W h => marks_any A2 n2 c2 vs W hn2 (by omega) h hV.1)
    obtain ⟨R, hR⟩ : ∃ R, combF how us vs = R := ⟨_, rfl⟩
    rw [hR]
    rw [hR] at hC
    obtain ⟨f1, hf1⟩ : ∃ f1 : Nat → Bool, (fun p : Nat => mem (p : Int) us) = f1 := ⟨_, rfl⟩
    obtain ⟨f2, hf2⟩ : ∃ f2 : Nat → Bool, (fun p : Nat => mem (p : Int) vs) = f2 := ⟨_, rfl⟩
    have hC2 : Hid (R = setA (fun p => combG how (f1 p) (f2 p))) := Lib.hid (by rw [hC.out, ← hf1, ← hf2])
    rw [hf1] at M1
    rw [hf2] at M2
    have HSet := Lib.hid (fun cs f W h => refSet_any cs f W h)
    have hZ := zeros_are
    clear hC hf1 hf2 hR hU hV hz hn1 hn2 z1 z2
    go_enter Try.func101, Try.ntmps101
    go_wp2_with fail
    refine (H1.out _ hr1).mono ?_
    rintro e w1 ⟨rfl, hb1⟩
    have r1 := hr1.on hb1
    have r2 := hr2.on hb1
    go_wp2_with fail
    refine (H2.out _ r2).mono ?_
    rintro e w2 ⟨rfl, hb2⟩
    have B2 := hb1.trans (hb2.mono hb1.size)
    have r1b := r1.on hb2
    have r2b := r2.on hb2
    clear H1 H2 hb1 hb2 r1 r2 hr1 hr2
    go_wp2_with fail
    refine (M1.out _ r1b).mono ?_
    rintro e w3 ⟨cs1, rfl, hM1, hb3⟩
    have B3 := B2.trans (hb3.mono B2.size)
    have r2c := r2b.on hb3
    clear M1 B2 hb3 r1b r2b
    go_wp2_with fail
    refine (M2.out _ r2c).mono ?_
    rintro e w4 ⟨cs2, rfl, hM2, hb4⟩
    have B4 := B3.trans (hb4.mono B3.size)
    clear M2 B3 hb4 r2c
    obtain ⟨g, hg⟩ : ∃ g, w4.heap.size = g := ⟨_, rfl⟩
    have kA : Blk ((w4.alloc (.cells Try.zeroCells103 103)).alloc (.cells Try.zeroCells103 103)) g 103 Try.zeroCells103 := by rw [← hg]; exact (Blk.new _ _ _).alloc _
    have kB : Blk ((w4.alloc (.cells Try.zeroCells103 103)).alloc (.cells Try.zeroCells103 103)) (g + 1) 103 Try.zeroCells103 := by
      have := Blk.new (w4.alloc (.cells Try.zeroCells103 103)) 103 Try.zeroCells103
      rw [World.size_alloc, hg] at this; exact this
    have hbA : Below g w4 ((w4.alloc (.cells Try.zeroCells103 103)).alloc (.cells Try.zeroCells103 103)) := by rw [← hg]; exact ((Below.refl w4.heap.size w4).alloc (Nat.le_refl _) _).alloc (by simp) _
    have hzs := hZ.size
    have hs1 := hM1.size
    have hs2 := hM2.size
    have ho1 := hM1.one
    have ho2 := hM2.one
    have ht1 := blk_there kA
    have ht2 := blk_there kB
    rw [hzs] at ht1 ht2
    have hBg := B4.size
    go_upto_region 7 with (first
      | (refine wpList_store_mid rfl 103 (.tmp 9) (.tmp 23) rfl g 0 cs1 rfl rfl (by rw [hs1]; exact ht1) (by rw [hs1]; kernel_rfl) ho1 ?_)
      | (refine wpList_store_mid rfl 103 (.tmp 10) (.tmp 25) rfl (g + 1) 0 cs2 rfl rfl (by rw [hs2]; exact World.there_setCells ht2 _ _ _) (by rw [hs2]; kernel_rfl) ho2 ?_))
    have hg1 := World.rangeAt_setCells_same ((w4.alloc (.cells Try.zeroCells103 103)).alloc (.cells Try.zeroCells103 103)) g 0 cs1.toList (by rw [Array.length_toList, hs1]; exact ht1)
    have hg1b := World.rangeAt_setCells_apart hg1 (g + 1) 0 cs2.toList (.inl (by omega))
    have hg2 := World.rangeAt_setCells_same (((w4.alloc (.cells Try.zeroCells103 103)).alloc (.cells Try.zeroCells103 103)).setCells g 0 cs1.toList) (g + 1) 0 cs2.toList (by rw [Array.length_toList, hs2]; exact World.there_setCells ht2 _ _ _)
    have hb5 := below_setCells (s := g) (g + 1) (by omega) cs2.toList 0 _ (below_setCells g (Nat.le_refl _) cs1.toList 0 _ hbA)
    generalize (((w4.alloc (.cells Try.zeroCells103 103)).alloc (.cells Try.zeroCells103 103)).setCells g 0 cs1.toList).setCells (g + 1) 0 cs2.toList = W5 at *
    have hc1 : ∀ p : Nat, p < 1024 → W5.cell? ⟨g, p, none⟩ = some (.bool (f1 p)) := fun p hp => by
      have h := hg1b p (.bool (f1 p)) (by rw [Array.getElem?_toList, hM1.at_ p hp])
      rw [Nat.zero_add] at h
      exact h
    have hc2 : ∀ p : Nat, p < 1024 → W5.cell? ⟨g + 1, p, none⟩ = some (.bool (f2 p)) := fun p hp => by
      have h := hg2 p (.bool (f2 p)) (by rw [Array.getElem?_toList, hM2.at_ p hp])
      rw [Nat.zero_add] at h
      exact h
    have hlt5 : g + 1 < W5.heap.size := World.block_lt_of_cell? _ _ (hc2 0 (by omega))
    have B5 := B4.trans (hb5.mono (by omega))
    have hz5 := hb5.size
    clear hg1 hg1b hg2 ht1 ht2 kA kB hbA ho1 ho2 hM1 hM2 hb5 B4
    go_upto_region 8 with fail
    have kO := Blk.new W5 103 Try.zeroCells103
    have hb6 := (Below.refl W5.heap.size W5).alloc (Nat.le_refl _) (.cells Try.zeroCells103 103)
    generalize W5.alloc (.cells Try.zeroCells103 103) = W6 at *
    generalize Try.zeroCells103 = Z at *
    obtain ⟨o, ho⟩ : ∃ o, W5.heap.size = o := ⟨_, rfl⟩
    rw [ho] at hb6 kO hlt5
    have hws : w.heap.size ≤ o := by rw [← ho]; exact B5.size
    try simp only [ho]
    go_wp2_with fail
    go_loopw [12] (fun i wr => ∃ (k : Nat) (cs : Array Value), k ≤ 1024 ∧ i = .int .i64 k ∧ Blk wr o 103 cs ∧ MarksAre cs (fun p => decide (p < k) && combG how (f1 p) (f2 p)) ∧ Below o W5 wr) (fun i _ => 1024 - (intOf i).toNat)
    case atStart => exact ⟨0, Z, by omega, rfl, kO, hZ.congr (fun p _ => by simp), hb6⟩
    case round =>
      clear kO hb6
      obtain ⟨k, cs, hk, rfl, kO, hM, hB⟩ := hrel
      by_cases hlt : k < 1024
      · have hlt' : decide ((k : Int) < 1024) = true := by simp; omega
        have x1 := (hB.cell (p := ⟨g, k, none⟩) (by show g < o; omega)).trans (hc1 k hlt)
        have x2 := (hB.cell (p := ⟨g + 1, k, none⟩) hlt5).trans (hc2 k hlt)
        have hold := hM.at_ k hlt
        generalize (decide (k < k) && combG how (f1 k) (f2 k)) = B0 at hold
        have hst := fun b (hb : combG how (f1 k) (f2 k) = b) => hM.set (g := fun p => decide (p < k + 1) && combG how (f1 p) (f2 p)) k hlt b (by
          show (decide (k < k + 1) && combG how (f1 k) (f2 k)) = b
          rw [decide_eq_true (by omega), hb, Bool.true_and]) (fun q hq => by
          congr 1
          exact decide_eq_decide.2 (by omega))
        have hst' := Lib.hid hst
        clear hst
        have fO := kO.frozen
        have cO : wr.cell? ⟨o, k, none⟩ = some (.bool B0) := (kO.cell k).trans hold
        generalize f1 k = u at *
        generalize f2 k = v at *
        rcases hhow with rfl | rfl | rfl <;> cases u <;> cases v
        all_goals (go_wp2_with fail; go_roundw; (case rel => exact ⟨k + 1, _, by omega, by go_num, kO.set_ _ _, hst'.out _ rfl, hB.setCell (p := ⟨o, k, none⟩) (Nat.le_refl _) _⟩); (case measure => simp [intOf]; omega))
      · have hlt' : decide ((k : Int) < 1024) = false := by simp; omega
        obtain rfl : k = 1024 := by omega
        have hMe := hM.congr (g := fun p => combG how (f1 p) (f2 p)) (fun p hp => by rw [decide_eq_true hp, Bool.true_and])
        have hsz := hM.size
        have HS2 := Lib.hid (fun W => HSet.out cs _ W hMe)
        rw [← hC2.out] at HS2
        have B9 := B5.trans (hB.mono hws)
        go_wp2_with (first
          | (refine wpList_load_mid rfl 103 (.tmp 11) rfl o 0 rfl cs.toList _ (rangeAt_blk kO) Try.underlying103 rfl (by rw [Array.length_toList, hsz]; kernel_rfl) ?_; rw [Array.toArray_toList])
          | (go_at_call 91; refine (HS2.out _).mono ?_; rintro e w2 ⟨A, cap, rfl, hru, h1, h2, h3, hq2⟩))
        go_ret2
        exact ⟨A, cap, rfl, hru, h1, h2, fun b o e => by have := h3 b o e; have := B9.size; omega, B9.trans (hq2.mono B9.size)⟩

theorem rUnion_any (A1 A2 : Option Addr) (n1 c1 n2 c2 : Nat) (us vs : List Sp) (w : World) (hn1 : us.length = n1) (hm1 : n1 ≤ maxLen) (hr1 : RU w w.heap.size A1 us) (hn2 : vs.length = n2) (hm2 : n2 ≤ maxLen) (hr2 : RU w w.heap.size A2 vs) :
    Calls Try.prog 62 #[.slice A1 n1 c1, .slice A2 n2 c2] w (SpansR w (combF 1 us vs) (chk2 us vs)) := by
  have H := Lib.hid (combined_any A1 A2 n1 c1 n2 c2 us vs 1 (by omega) w hn1 hm1 hr1 hn2 hm2 hr2)
  generalize combF 1 us vs = R at *
  generalize chk2 us vs = er at *
  go_enter Try.func62, Try.ntmps62
  go_wp2_with fail
  refine H.out.mono ?_
  rintro e w1 ⟨A, cap, rfl, h1, h2, h3, h4, h5⟩
  go_wp2_with fail
  go_ret2
  exact ⟨A, cap, rfl, h1, h2, h3, h4, h5⟩
theorem rMeet_any (A1 A2 : Option Addr) (n1 c1 n2 c2 : Nat) (us vs : List Sp) (w : World) (hn1 : us.length = n1) (hm1 : n1 ≤ maxLen) (hr1 : RU w w.heap.size A1 us) (hn2 : vs.length = n2) (hm2 : n2 ≤ maxLen) (hr2 : RU w w.heap.size A2 vs) :
    Calls Try.prog 63 #[.slice A1 n1 c1, .slice A2 n2 c2] w (SpansR w (combF 2 us vs) (chk2 us vs)) := by
  have H := Lib.hid (combined_any A1 A2 n1 c1 n2 c2 us vs 2 (by omega) w hn1 hm1 hr1 hn2 hm2 hr2)
  generalize combF 2 us vs = R at *
  generalize chk2 us vs = er at *
  go_enter Try.func63, Try.ntmps63
  go_wp2_with fail
  refine H.out.mono ?_
  rintro e w1 ⟨A, cap, rfl, h1, h2, h3, h4, h5⟩
  go_wp2_with fail
  go_ret2
  exact ⟨A, cap, rfl, h1, h2, h3, h4, h5⟩
theorem rMinus_any (A1 A2 : Option Addr) (n1 c1 n2 c2 : Nat) (us vs : List Sp) (w : World) (hn1 : us.length = n1) (hm1 : n1 ≤ maxLen) (hr1 : RU w w.heap.size A1 us) (hn2 : vs.length = n2) (hm2 : n2 ≤ maxLen) (hr2 : RU w w.heap.size A2 vs) :
    Calls Try.prog 65 #[.slice A1 n1 c1, .slice A2 n2 c2] w (SpansR w (combF 3 us vs) (chk2 us vs)) := by
  have H := Lib.hid (combined_any A1 A2 n1 c1 n2 c2 us vs 3 (by omega) w hn1 hm1 hr1 hn2 hm2 hr2)
  generalize combF 3 us vs = R at *
  generalize chk2 us vs = er at *
  go_enter Try.func65, Try.ntmps65
  go_wp2_with fail
  refine H.out.mono ?_
  rintro e w1 ⟨A, cap, rfl, h1, h2, h3, h4, h5⟩
  go_wp2_with fail
  go_ret2
  exact ⟨A, cap, rfl, h1, h2, h3, h4, h5⟩

def notF (us : List Sp) (x : Sp) : List Sp := if askS us x = 0 then combF 3 [x] us else []
set_option maxHeartbeats 800000 in
theorem rNot_any (A : Option Addr) (n cap : Nat) (us : List Sp) (p q : Int) (w : World) (hn : us.length = n) (hm : n ≤ maxLen) (hr : RU w w.heap.size A us) :
    Calls Try.prog 67 #[.slice A n cap, .agg #[.int .i64 p, .int .i64 q]] w (SpansL w (notF us (p, q)) (askS us (p, q))) := by
  have hb0 := (Below.refl w.heap.size w).alloc (Nat.le_refl _) (.cells #[.int .i64 p, .int .i64 q] 40)
  have k0 := Blk.new w 40 #[.int .i64 p, .int .i64 q]
  have z0 := k0.cell
  have hr0 := hr.on hb0
  have HA := Lib.hid (asked_any A n cap us p q _ hn hm hr0)
  by_cases h0 : askS us (p, q) = 0
  · obtain ⟨hu, hv⟩ := askS_zero h0
    have hz : chk2 [(p, q)] us = 0 := by
      unfold chk2
      rw [chkS_zero.2 (Go.Pol.Can.one hv), if_pos rfl]
      exact chkS_zero.2 hu
    have HM := Lib.hid (fun A2 W h1 h2 => rMinus_any A2 A 1 1 n cap [(p, q)] us W rfl (by unfold maxLen; omega) h1 hn hm h2)
    rw [hz] at HM
    unfold notF
    rw [if_pos h0, h0]
    rw [h0] at HA
    generalize combF 3 [(p, q)] us = R at *
    clear h0 hu hv hz hn
    go_enter Try.func67, Try.ntmps67
    go_wp2_with fail
    refine HA.out.mono ?_
    rintro e w1 ⟨rfl, hb1⟩
    have B1 := hb0.trans (hb1.mono hb0.size)
    have k1 := k0.call hb1
    have z1 := k1.cell
    have r1 := hr0.on hb1
    have hbX := (Below.refl w1.heap.size w1).alloc (Nat.le_refl _) (.cells #[.int .i64 p, .int .i64 q] 40)
    have kX := Blk.new w1 40 #[.int .i64 p, .int .i64 q]
    have HM2 := Lib.hid (HM.out _ _ (ru_blkL (us := [(p, q)]) kX rfl) (r1.on hbX))
    have B2 := B1.trans (hbX.mono B1.size)
    clear HA k0 z0 hr0 HM kX r1
    go_wp2_with fail
    refine HM2.out.mono ?_
    rintro e w2 ⟨A2, cap2, rfl, h1, h2, h3, h4, h5⟩
    go_wp2_with fail
    go_ret2
    exact ⟨A2, cap2, rfl, h1, h2, h3, B2.trans (h5.mono B2.size)⟩
  · unfold notF
    rw [if_neg h0]
    obtain ⟨er, her⟩ : ∃ er, askS us (p, q) = er := ⟨_, rfl⟩
    rw [her] at HA h0 ⊢
    have hz' : (er != 0) = true := by simpa using h0
    clear her h0
    go_enter Try.func67, Try.ntmps67
    go_wp2_with fail
    refine HA.out.mono ?_
    rintro e w1 ⟨rfl, hb1⟩
    go_wp2_with fail
    go_ret2
    exact ⟨none, 0, rfl, RU.nil, by simp, by unfold maxLen; omega, hb0.trans (hb1.mono hb0.size)⟩

/-! the program's answers are the reference's -/
theorem chk2_both {us vs : List Sp} : (chkS us = 0 ∧ chkS vs = 0) ↔ chk2 us vs = 0 := by
  unfold chk2
  by_cases h : chkS us = 0
  · rw [if_pos h]; exact ⟨fun h => h.2, fun h2 => ⟨h, h2⟩⟩
  · rw [if_neg h]; exact ⟨fun h2 => absurd h2.1 h, fun h2 => absurd h2 h⟩
theorem union_eq (us vs : List Sp) : (if chkS us = 0 ∧ chkS vs = 0 then setOf (us ++ vs) else []) = combF 1 us vs := by
  unfold combF
  by_cases h : chk2 us vs = 0
  · rw [if_pos (chk2_both.2 h), if_pos h]
    unfold setOf
    congr 1
    funext p
    rw [mem_append]; rfl
  · rw [if_neg (fun h2 => h (chk2_both.1 h2)), if_neg h]
theorem meet_eq (us vs : List Sp) : (if chkS us = 0 ∧ chkS vs = 0 then commonF us vs else []) = combF 2 us vs := by
  unfold combF
  by_cases h : chk2 us vs = 0
  · rw [if_pos (chk2_both.2 h), if_pos h]
    obtain ⟨hU, hV⟩ := chk2_zero h
    refine (hU.common hV).eq_setA _ fun p _ => ?_
    rw [hU.mem_common hV]; rfl
  · rw [if_neg (fun h2 => h (chk2_both.1 h2)), if_neg h]
theorem minus_eq (us vs : List Sp) : (if chkS us = 0 ∧ chkS vs = 0 then commonF us (gapsF vs (0, 1024)) else []) = combF 3 us vs := by
  unfold combF
  by_cases h : chk2 us vs = 0
  · rw [if_pos (chk2_both.2 h), if_pos h]
    obtain ⟨hU, hV⟩ := chk2_zero h
    obtain ⟨hG, hm⟩ := hV.gaps (i := (0, 1024)) (by decide)
    refine (hU.common hG).eq_setA _ fun p hp => ?_
    rw [hU.mem_common hG]
    show (mem p us && !mem p vs) = (mem p us && mem p (gapsF vs (0, 1024)))
    congr 1
    have := hm p
    cases hq : mem (p : Int) vs with
    | true =>
      rw [hq] at this
      cases hg : mem (p : Int) (gapsF vs (0, 1024)) with
      | false => rfl
      | true => have := (this.1 hg).2; cases this
    | false => rw [this.2 ⟨by simp only; omega, hq⟩]; rfl
  · rw [if_neg (fun h2 => h (chk2_both.1 h2)), if_neg h]
theorem not_eq (us : List Sp) (x : Sp) : (if askS us x = 0 then gapsF us x else []) = notF us x := by
  unfold notF
  by_cases h : askS us x = 0
  · rw [if_pos h, if_pos h]
    obtain ⟨hU, hv⟩ := askS_zero h
    have hz : chk2 [x] us = 0 := by
      unfold chk2
      rw [chkS_zero.2 (Go.Pol.Can.one hv), if_pos rfl]
      exact chkS_zero.2 hU
    unfold combF
    rw [if_pos hz]
    obtain ⟨hG, hm⟩ := hU.gaps hv
    refine hG.eq_setA _ fun p hp => ?_
    show (mem p [x] && !mem p us) = mem p (gapsF us x)
    have := hm p
    rw [Bool.eq_iff_iff, this, Bool.and_eq_true, mem_one]
    simp
  · rw [if_neg h, if_neg h]
end Go.Proofs.Ytfmnlpgboolpmaa
