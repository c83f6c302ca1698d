/- Walks: Best of the program and of the reference, errors and all. -/
import Derived.Test.YtiohcegkkpeodaaWalkG
import Derived.Test.YtiohcegkkpeodaaWalkO
namespace Go.Pol
/-- the table, the waste, the error -/
def bestF (us : List (Int × Int)) (k : Int) : List Int × Int × Int :=
  if chkU us = 0 then
    if us.length = 0 then ([], 0, 4)
    else if k < 1 ∨ 64 < k then ([], 0, 7)
    else (recon us (mSel us (min k.toNat us.length) (min k.toNat us.length)) 0, rowF us (min k.toNat us.length) 0, 0)
  else ([], 0, chkU us)
end Go.Pol
namespace Go.Proofs.Ytiohcegkkpeodaa
open Go Go.Proofs Go.RowKit Go.Pol
def BestR (w : World) (r : List Int × Int × Int) (e : Ending) (w' : World) : Prop := ∃ (A : Option Addr) (cap : Nat), e = .returned (.tuple #[.agg #[.slice A r.1.length cap], .int .i64 r.2.1, .int .i64 r.2.2]) ∧ RI w' w'.heap.size A r.1 ∧ Below w.heap.size w w'
set_option maxHeartbeats 800000 in
set_option maxRecDepth 100000 in
theorem best_no (A : Option Addr) (n cap : Nat) (us : List (Int × Int)) (k : Int) (w : World) (hn : us.length = n) (hm : n ≤ maxLen) (hr : RU w w.heap.size A us) (er : Int)
    (h : (chkU us ≠ 0 ∧ er = chkU us) ∨ (chkU us = 0 ∧ n = 0 ∧ er = 4) ∨ (chkU us = 0 ∧ n ≠ 0 ∧ (k < 1 ∨ 64 < k) ∧ er = 7)) :
    Calls Try.prog 18 #[.slice A n cap, .int .i64 k] w (BestR w ([], 0, er)) := by
  have HCK := Lib.hid (fun W (h : RU W W.heap.size A us) => checkUse_any A n cap us W hn hm h)
  unfold maxLen at hm
  clear hn
  have hb0 : Below w.heap.size w ((w.alloc (Obj.cells #[Value.slice A n cap] 36)).alloc (Obj.cells #[Value.slice none 0 0] 24)) := ((Below.refl _ _).alloc (Nat.le_refl _) _).alloc (by simp) _
  have hr0 := (hr.below hb0).more (B' := ((w.alloc (Obj.cells #[Value.slice A n cap] 36)).alloc (Obj.cells #[Value.slice none 0 0] 24)).heap.size) (by simp; omega)
  rcases h with ⟨h1, rfl⟩ | ⟨h1, h0, rfl⟩ | ⟨h1, h2, h3, rfl⟩
  · have he' : (chkU us != 0) = true := by simpa using h1
    clear h1
    generalize chkU us = ck at *
    go_enter Try.func18, Try.ntmps18
    go_wp2_with (go_at_call 25; refine (HCK.out _ hr0).mono ?_; rintro e w1 ⟨rfl, hq⟩; have k1 := (((Blk.new w 36 #[Value.slice A n cap]).alloc (.cells #[.slice none 0 0] 24)).call hq); have k2 := (Blk.new (w.alloc (.cells #[.slice A n cap] 36)) 24 #[Value.slice none 0 0]).call hq; rw [World.size_alloc] at k2; have c1 := k1.cell; have c2 := k2.cell; have f2 := k2.frozen)
    have hbF := (hb0.trans (hq.mono (by simp; omega))).setCell (p := ⟨w.heap.size + 1, 0, none⟩) (by simp) (.slice none 0 0)
    exact bodyPost_ret (v := .tuple #[.agg #[.slice none 0 0], .int .i64 0, .int .i64 ck]) (by simp [results, Try.results18, go_sem, c2]) rfl ⟨none, 0, rfl, RI.nil, hbF⟩
  · have he' : (chkU us != 0) = false := by simp [h1]
    have hn0 : ((n : Int) == 0) = true := by simp; omega
    clear h1 h0
    generalize chkU us = ck at *
    go_enter Try.func18, Try.ntmps18
    go_wp2_with (go_at_call 25; refine (HCK.out _ hr0).mono ?_; rintro e w1 ⟨rfl, hq⟩; have k1 := (((Blk.new w 36 #[Value.slice A n cap]).alloc (.cells #[.slice none 0 0] 24)).call hq); have k2 := (Blk.new (w.alloc (.cells #[.slice A n cap] 36)) 24 #[Value.slice none 0 0]).call hq; rw [World.size_alloc] at k2; have c1 := k1.cell; have c2 := k2.cell; have f2 := k2.frozen)
    have hbF := (hb0.trans (hq.mono (by simp; omega))).setCell (p := ⟨w.heap.size + 1, 0, none⟩) (by simp) (.slice none 0 0)
    exact bodyPost_ret (v := .tuple #[.agg #[.slice none 0 0], .int .i64 0, .int .i64 4]) (by simp [results, Try.results18, go_sem, c2]) rfl ⟨none, 0, rfl, RI.nil, hbF⟩
  · have he' : (chkU us != 0) = false := by simp [h1]
    have hn0 : ((n : Int) == 0) = false := by simp; omega
    clear h1
    generalize chkU us = ck at *
    by_cases h4 : k < 1
    · have h4' : decide (k < 1) = true := by simpa using h4
      clear h3
      go_enter Try.func18, Try.ntmps18
      go_wp2_with (go_at_call 25; refine (HCK.out _ hr0).mono ?_; rintro e w1 ⟨rfl, hq⟩; have k1 := (((Blk.new w 36 #[Value.slice A n cap]).alloc (.cells #[.slice none 0 0] 24)).call hq); have k2 := (Blk.new (w.alloc (.cells #[.slice A n cap] 36)) 24 #[Value.slice none 0 0]).call hq; rw [World.size_alloc] at k2; have c1 := k1.cell; have c2 := k2.cell; have f2 := k2.frozen)
      have hbF := (hb0.trans (hq.mono (by simp; omega))).setCell (p := ⟨w.heap.size + 1, 0, none⟩) (by simp) (.slice none 0 0)
      exact bodyPost_ret (v := .tuple #[.agg #[.slice none 0 0], .int .i64 0, .int .i64 7]) (by simp [results, Try.results18, go_sem, c2]) rfl ⟨none, 0, rfl, RI.nil, hbF⟩
    · have h4' : decide (k < 1) = false := by simp; omega
      have h5' : decide (64 < k) = true := by simp; omega
      clear h3
      go_enter Try.func18, Try.ntmps18
      go_wp2_with (go_at_call 25; refine (HCK.out _ hr0).mono ?_; rintro e w1 ⟨rfl, hq⟩; have k1 := (((Blk.new w 36 #[Value.slice A n cap]).alloc (.cells #[.slice none 0 0] 24)).call hq); have k2 := (Blk.new (w.alloc (.cells #[.slice A n cap] 36)) 24 #[Value.slice none 0 0]).call hq; rw [World.size_alloc] at k2; have c1 := k1.cell; have c2 := k2.cell; have f2 := k2.frozen)
      have hbF := (hb0.trans (hq.mono (by simp; omega))).setCell (p := ⟨w.heap.size + 1, 0, none⟩) (by simp) (.slice none 0 0)
      exact bodyPost_ret (v := .tuple #[.agg #[.slice none 0 0], .int .i64 0, .int .i64 7]) (by simp [results, Try.results18, go_sem, c2]) rfl ⟨none, 0, rfl, RI.nil, hbF⟩
theorem best_any (A : Option Addr) (n cap : Nat) (us : List (Int × Int)) (k : Int) (w : World) (hn : us.length = n) (hm : n ≤ maxLen) (hr : RU w w.heap.size A us) :
    Calls Try.prog 18 #[.slice A n cap, .int .i64 k] w (BestR w (bestF us k)) := by
  by_cases h1 : chkU us = 0
  · by_cases h2 : n = 0
    · have e : bestF us k = ([], 0, 4) := by unfold bestF; rw [if_pos h1, if_pos (hn.trans h2)]
      rw [e]
      exact best_no A n cap us k w hn hm hr 4 (.inr (.inl ⟨h1, h2, rfl⟩))
    · by_cases h3 : k < 1 ∨ 64 < k
      · have e : bestF us k = ([], 0, 7) := by unfold bestF; rw [if_pos h1, if_neg (by omega), if_pos h3]
        rw [e]
        exact best_no A n cap us k w hn hm hr 7 (.inr (.inr ⟨h1, h2, h3, rfl⟩))
      · have e : bestF us k = (recon us (mSel us (min k.toNat n) (min k.toNat n)) 0, rowF us (min k.toNat n) 0, 0) := by unfold bestF; rw [if_pos h1, if_neg (by omega), if_neg h3, hn]
        rw [e]
        refine (best_ok A n cap us k w hn hm hr h1 (by omega) (by omega) (by omega) _ rfl).mono ?_
        rintro e w' ⟨v, rfl, hown, hb⟩
        obtain ⟨A', cap', rfl, hr', _, _⟩ := own_RI' rfl hown
        exact ⟨A', cap', rfl, hr', hb⟩
  · have e : bestF us k = ([], 0, chkU us) := by unfold bestF; rw [if_neg h1]
    rw [e]
    exact best_no A n cap us k w hn hm hr _ (.inl ⟨h1, rfl⟩)
set_option maxHeartbeats 800000 in
theorem refBest_no (A : Option Addr) (n cap : Nat) (us : List (Int × Int)) (k : Int) (w : World) (hn : us.length = n) (hm : n ≤ maxLen) (hr : RU w w.heap.size A us) (er : Int)
    (h : (chkU us ≠ 0 ∧ er = chkU us) ∨ (chkU us = 0 ∧ n = 0 ∧ er = 4) ∨ (chkU us = 0 ∧ n ≠ 0 ∧ (k < 1 ∨ 64 < k) ∧ er = 7)) :
    Calls Try.prog 19 #[.slice A n cap, .int .i64 k] w (BestR w ([], 0, er)) := by
  have HCK := Lib.hid (fun W (h : RU W W.heap.size A us) => refCheckUse_any A n cap us W hn hm h)
  unfold maxLen at hm
  clear hn
  have hb0 := (Below.refl w.heap.size w).alloc (Nat.le_refl _) (.cells #[.slice none 0 0] 24)
  have k0 := Blk.new w 24 #[.slice none 0 0]
  have hr0 := RU.later' hr hb0
  rcases h with ⟨h1, rfl⟩ | ⟨h1, h0, rfl⟩ | ⟨h1, h2, h3, rfl⟩
  · have he' : (chkU us != 0) = true := by simpa using h1
    have he2 : (chkU us == 0) = false := by simpa using h1
    clear h1
    generalize chkU us = ck at *
    go_enter Try.func19, Try.ntmps19
    go_wp2_with (go_at_call 26; refine (HCK.out _ hr0).mono ?_; rintro e w1 ⟨rfl, hq⟩; have k2 := k0.call hq; have c2 := k2.cell; have f2 := k2.frozen)
    have hbF := (hb0.trans (hq.mono hb0.size)).setCell (p := ⟨w.heap.size, 0, none⟩) (by simp) (.slice none 0 0)
    exact bodyPost_ret (v := .tuple #[.agg #[.slice none 0 0], .int .i64 0, .int .i64 ck]) (by simp [results, Try.results19, go_sem, c2]) rfl ⟨none, 0, rfl, RI.nil, hbF⟩
  · have he' : (chkU us != 0) = false := by simp [h1]
    have he2 : (chkU us == 0) = true := by simp [h1]
    have hn0 : ((n : Int) == 0) = true := by simp; omega
    clear h1 h0
    generalize chkU us = ck at *
    go_enter Try.func19, Try.ntmps19
    go_wp2_with (go_at_call 26; refine (HCK.out _ hr0).mono ?_; rintro e w1 ⟨rfl, hq⟩; have k2 := k0.call hq; have c2 := k2.cell; have f2 := k2.frozen)
    have hbF := (hb0.trans (hq.mono hb0.size)).setCell (p := ⟨w.heap.size, 0, none⟩) (by simp) (.slice none 0 0)
    exact bodyPost_ret (v := .tuple #[.agg #[.slice none 0 0], .int .i64 0, .int .i64 4]) (by simp [results, Try.results19, go_sem, c2]) rfl ⟨none, 0, rfl, RI.nil, hbF⟩
  · have he' : (chkU us != 0) = false := by simp [h1]
    have he2 : (chkU us == 0) = true := by simp [h1]
    have hn0 : ((n : Int) == 0) = false := by simp; omega
    clear h1
    generalize chkU us = ck at *
    by_cases h4 : k < 1
    · have h4' : decide (k < 1) = true := by simpa using h4
      clear h3
      go_enter Try.func19, Try.ntmps19
      go_wp2_with (go_at_call 26; refine (HCK.out _ hr0).mono ?_; rintro e w1 ⟨rfl, hq⟩; have k2 := k0.call hq; have c2 := k2.cell; have f2 := k2.frozen)
      have hbF := (hb0.trans (hq.mono hb0.size)).setCell (p := ⟨w.heap.size, 0, none⟩) (by simp) (.slice none 0 0)
      exact bodyPost_ret (v := .tuple #[.agg #[.slice none 0 0], .int .i64 0, .int .i64 7]) (by simp [results, Try.results19, go_sem, c2]) rfl ⟨none, 0, rfl, RI.nil, hbF⟩
    · have h4' : decide (k < 1) = false := by simp; omega
      have h5' : decide (64 < k) = true := by simp; omega
      clear h3
      go_enter Try.func19, Try.ntmps19
      go_wp2_with (go_at_call 26; refine (HCK.out _ hr0).mono ?_; rintro e w1 ⟨rfl, hq⟩; have k2 := k0.call hq; have c2 := k2.cell; have f2 := k2.frozen)
      have hbF := (hb0.trans (hq.mono hb0.size)).setCell (p := ⟨w.heap.size, 0, none⟩) (by simp) (.slice none 0 0)
      exact bodyPost_ret (v := .tuple #[.agg #[.slice none 0 0], .int .i64 0, .int .i64 7]) (by simp [results, Try.results19, go_sem, c2]) rfl ⟨none, 0, rfl, RI.nil, hbF⟩
set_option maxHeartbeats 800000 in
theorem refBest_ok (A : Option Addr) (n cap k : Nat) (us : List (Int × Int)) (w : World) (hn : us.length = n) (hm : n ≤ maxLen) (hr : RU w w.heap.size A us) (he : chkU us = 0) (hn1 : 1 ≤ n) (hk1 : 1 ≤ k) (hk2 : k ≤ 64) :
    Calls Try.prog 19 #[.slice A n cap, .int .i64 k] w (BestR w ((chooseF us k n [] ([], 0)).1, (chooseF us k n [] ([], 0)).2, 0)) := by
  have HCK := Lib.hid (fun W (h : RU W W.heap.size A us) => refCheckUse_any A n cap us W hn hm h)
  have HCH := Lib.hid (fun W (h : RU W W.heap.size A us) => choose_any us n k cap A hn (chkU_ok he) n [] [] none none 0 0 0 0 W (by omega) (Nat.le_refl _) (by simp) (by simp) RI.nil (fun _ => ⟨rfl, rfl⟩) (by simp) RI.nil h)
  unfold maxLen at hm
  clear hn
  obtain ⟨R, hR⟩ : ∃ R, chooseF us k n [] ([], 0) = R := ⟨_, rfl⟩
  rw [hR] at HCH ⊢
  clear hR
  have hb0 := (Below.refl w.heap.size w).alloc (Nat.le_refl _) (.cells #[.slice none 0 0] 24)
  have k0 := Blk.new w 24 #[.slice none 0 0]
  have hr0 := RU.later' hr hb0
  have he' : (chkU us != 0) = false := by simp [he]
  have he2 : (chkU us == 0) = true := by simp [he]
  have hn0 : ((n : Int) == 0) = false := by simp; omega
  have h4' : decide ((k : Int) < 1) = false := by simp; omega
  have h5' : decide (64 < (k : Int)) = false := by simp; omega
  have h6' : decide (64 < k) = false := by simp; omega
  clear he
  generalize chkU us = ck at *
  go_enter Try.func19, Try.ntmps19
  go_wp2_with (go_at_call 26; refine (HCK.out _ hr0).mono ?_; rintro e w1 ⟨rfl, hq⟩; have k2 := k0.call hq; have hr1 := RU.later' hr0 hq; have hb1 := hb0.trans (hq.mono hb0.size))
  refine (HCH.out _ hr1).mono ?_
  rintro e w3 ⟨A3, c3, rfl, hr3, hb3, hq3⟩
  have k3 := k2.call hb3
  have hb13 := hb1.trans (hb3.mono hb1.size)
  obtain ⟨R2, hR2⟩ : ∃ R2 : Nat, R.1.length = R2 := ⟨_, rfl⟩
  rw [hR2]
  have HR2 := Lib.hid hR2
  clear hR2
  have kT := Blk.new w3 24 #[.slice A3 R2 c3]
  have k4 := k3.alloc (.cells #[.slice A3 R2 c3] 24)
  have hbT := (Below.refl w3.heap.size w3).alloc (Nat.le_refl _) (.cells #[.slice A3 R2 c3] 24)
  have hr4 := RI.later' hr3 hbT
  have c4 := k4.cell
  have f4 := k4.frozen
  have hr5 := RI.set2 hr4 (p := ⟨w.heap.size, 0, none⟩) (.slice A3 R2 c3) (fun hne b o e => by
    rcases hq3 with ⟨h1, h2⟩ | h
    · exact absurd h2 hne
    · have := h b o e; have := k2.lt; simp only; omega)
  have hb5 := (hb13.trans (hbT.mono hb13.size)).setCell (p := ⟨w.heap.size, 0, none⟩) (by simp) (.slice A3 R2 c3)
  clear k2 k3 kT hr3 hb3 hb13 hbT hr4 hq3 hr1 hb1 hq HCK HCH
  go_wp2_with fail
  exact bodyPost_ret (v := .tuple #[.agg #[.slice A3 R2 c3], .int .i64 R.2, .int .i64 0]) (by simp [results, Try.results19, go_sem, c4]) rfl ⟨A3, c3, by rw [HR2.out], hr5, hb5⟩
theorem refBest_any (A : Option Addr) (n cap : Nat) (us : List (Int × Int)) (k : Int) (w : World) (hn : us.length = n) (hm : n ≤ maxLen) (hr : RU w w.heap.size A us) :
    Calls Try.prog 19 #[.slice A n cap, .int .i64 k] w (BestR w (bestF us k)) := by
  by_cases h1 : chkU us = 0
  · by_cases h2 : n = 0
    · have e : bestF us k = ([], 0, 4) := by unfold bestF; rw [if_pos h1, if_pos (hn.trans h2)]
      rw [e]
      exact refBest_no A n cap us k w hn hm hr 4 (.inr (.inl ⟨h1, h2, rfl⟩))
    · by_cases h3 : k < 1 ∨ 64 < k
      · have e : bestF us k = ([], 0, 7) := by unfold bestF; rw [if_pos h1, if_neg (by omega), if_pos h3]
        rw [e]
        exact refBest_no A n cap us k w hn hm hr 7 (.inr (.inr ⟨h1, h2, h3, rfl⟩))
      · have e : bestF us k = (recon us (mSel us (min k.toNat n) (min k.toNat n)) 0, rowF us (min k.toNat n) 0, 0) := by unfold bestF; rw [if_pos h1, if_neg (by omega), if_neg h3, hn]
        obtain ⟨m, rfl⟩ : ∃ m : Nat, k = m := ⟨k.toNat, by omega⟩
        have h := refBest_ok A n cap m us w hn hm hr h1 (by omega) (by omega) (by omega)
        have hl := choose_law (chkU_ok h1) m (min m n) (by omega) (by omega) (by rw [hn])
        rw [hn] at hl
        rw [hl] at h
        rw [e, Int.toNat_natCast]
        exact h
  · have e : bestF us k = ([], 0, chkU us) := by unfold bestF; rw [if_neg h1]
    rw [e]
    exact refBest_no A n cap us k w hn hm hr _ (.inl ⟨h1, rfl⟩)
end Go.Proofs.Ytiohcegkkpeodaa
