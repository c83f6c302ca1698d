/- Walks: Class and Waste of the program and of the reference, errors and all. -/
import Derived.Test.YtiohcegkkpeodaaWalkN
namespace Go.Pol
/-- the class of a size, and the error -/
def classT (xs : List Int) (s : Int) : Int × Int :=
  if chkT xs = 0 then if isSz s = true then if cls xs s = xs.length then (0, 4) else ((cls xs s : Nat), 0) else (0, 7) else (0, chkT xs)
end Go.Pol
namespace Go.Proofs.Ytiohcegkkpeodaa
open Go Go.Proofs Go.RowKit Go.Pol
theorem RI.laterQ {w w' : World} {A : Option Addr} {xs : List Int} (h : RI w w.heap.size A xs) (hb : Below w.heap.size w w') : RI w' w'.heap.size A xs := (h.below hb).more hb.size
theorem RU.laterQ {w w' : World} {A : Option Addr} {us : List (Int × Int)} (h : RU w w.heap.size A us) (hb : Below w.heap.size w w') : RU w' w'.heap.size A us := (h.below hb).more hb.size
def PairR (r : Int × Int) (w : World) (e : Ending) (w' : World) : Prop := e = .returned (.tuple #[.int .i64 r.1, .int .i64 r.2]) ∧ Below w.heap.size w w'
set_option maxHeartbeats 800000 in
theorem class_any (A : Option Addr) (n cap : Nat) (xs : List Int) (s : Int) (w : World) (hn : xs.length = n) (hm : n ≤ maxLen) (hr : RI w w.heap.size A xs) :
    Calls Try.prog 21 #[.agg #[.slice A n cap], .int .i64 s] w (PairR (classT xs s) w) := by
  have HCK := Lib.hid (fun W (h : RI W W.heap.size A xs) => check_any A n cap xs W hn hm h)
  have hb0 := (Below.refl w.heap.size w).alloc (Nat.le_refl _) (.cells #[Value.slice A n cap] 24)
  have k0 := Blk.new w 24 #[Value.slice A n cap]
  have hr0 := RI.laterQ hr hb0
  by_cases h1 : chkT xs = 0
  · have h1' : (chkT xs != 0) = false := by simp [h1]
    have hok := chkT_ok h1
    have HCL := Lib.hid (fun W (h : RI W W.heap.size A xs) => ceiling_any A n cap xs s W hn (by have := hok.len; omega) h hok)
    by_cases h2 : isSz s = true
    · by_cases h3 : cls xs s = n
      · have HE : Hid (classT xs s = (0, 4)) := Lib.hid (by unfold classT; rw [if_pos h1, if_pos h2, if_pos (by rw [hn]; exact h3)])
        have h3' : ((cls xs s : Nat) : Int) == (n : Int) := by simp [h3]
        clear h1 h3 hn hok
        generalize classT xs s = R at *
        generalize chkT xs = ck at *
        go_enter Try.func21, Try.ntmps21
        go_wp2_with (first
          | (go_at_call 17; refine (HCK.out _ hr0).mono ?_; rintro e w1 ⟨rfl, hq⟩; have k1 := k0.call hq; have hb1 := hb0.trans (hq.mono hb0.size); have hr1 := RI.laterQ hr0 hq; have c1 := k1.cell; have l1 := k1.lt)
          | (go_at_call 34; refine (isSize_any _ _).mono ?_; rintro e w' ⟨rfl, rfl⟩)
          | (go_at_call 41; refine (HCL.out _ hr1).mono ?_; rintro e w' ⟨rfl, rfl⟩))
        go_ret2
        exact ⟨by rw [HE.out]; rfl, hb1⟩
      · have HE : Hid (classT xs s = (((cls xs s : Nat) : Int), 0)) := Lib.hid (by unfold classT; rw [if_pos h1, if_pos h2, if_neg (by rw [hn]; exact h3)])
        have h3' : (((cls xs s : Nat) : Int) == (n : Int)) = false := by simp; omega
        clear h1 h3 hn hok
        generalize classT xs s = R at *
        generalize chkT xs = ck at *
        go_enter Try.func21, Try.ntmps21
        go_wp2_with (first
          | (go_at_call 17; refine (HCK.out _ hr0).mono ?_; rintro e w1 ⟨rfl, hq⟩; have k1 := k0.call hq; have hb1 := hb0.trans (hq.mono hb0.size); have hr1 := RI.laterQ hr0 hq; have c1 := k1.cell; have l1 := k1.lt)
          | (go_at_call 34; refine (isSize_any _ _).mono ?_; rintro e w' ⟨rfl, rfl⟩)
          | (go_at_call 41; refine (HCL.out _ hr1).mono ?_; rintro e w' ⟨rfl, rfl⟩))
        go_ret2
        exact ⟨by rw [HE.out]; rfl, hb1⟩
    · have h2' : isSz s = false := by simpa using h2
      have HE : Hid (classT xs s = (0, 7)) := Lib.hid (by unfold classT; rw [if_pos h1, if_neg h2])
      clear h1 h2 hn hok
      generalize classT xs s = R at *
      generalize chkT xs = ck at *
      go_enter Try.func21, Try.ntmps21
      go_wp2_with (first
        | (go_at_call 17; refine (HCK.out _ hr0).mono ?_; rintro e w1 ⟨rfl, hq⟩; have k1 := k0.call hq; have hb1 := hb0.trans (hq.mono hb0.size); have hr1 := RI.laterQ hr0 hq; have c1 := k1.cell; have l1 := k1.lt)
        | (go_at_call 34; refine (isSize_any _ _).mono ?_; rintro e w' ⟨rfl, rfl⟩)
        | (go_at_call 41; refine (HCL.out _ hr1).mono ?_; rintro e w' ⟨rfl, rfl⟩))
      go_ret2
      exact ⟨by rw [HE.out]; rfl, hb1⟩
  · have h1' : (chkT xs != 0) = true := by simpa using h1
    have HE : Hid (classT xs s = (0, chkT xs)) := Lib.hid (by unfold classT; rw [if_neg h1])
    have HCL : True := trivial
    clear h1 hn
    generalize classT xs s = R at *
    generalize chkT xs = ck at *
    go_enter Try.func21, Try.ntmps21
    go_wp2_with (first
      | (go_at_call 17; refine (HCK.out _ hr0).mono ?_; rintro e w1 ⟨rfl, hq⟩; have k1 := k0.call hq; have hb1 := hb0.trans (hq.mono hb0.size); have hr1 := RI.laterQ hr0 hq; have c1 := k1.cell; have l1 := k1.lt)
      | (go_at_call 34; refine (isSize_any _ _).mono ?_; rintro e w' ⟨rfl, rfl⟩)
      | (go_at_call 41; refine (HCL.out _ hr1).mono ?_; rintro e w' ⟨rfl, rfl⟩))
    go_ret2
    exact ⟨by rw [HE.out]; rfl, hb1⟩
set_option maxHeartbeats 800000 in
theorem refClassT_any (A : Option Addr) (n cap : Nat) (xs : List Int) (s : Int) (w : World) (hn : xs.length = n) (hm : n ≤ maxLen) (hr : RI w w.heap.size A xs) :
    Calls Try.prog 22 #[.agg #[.slice A n cap], .int .i64 s] w (PairR (classT xs s) w) := by
  have HCK := Lib.hid (fun W (h : RI W W.heap.size A xs) => refCheck_any A n cap xs W hn hm h)
  have HCL := Lib.hid (fun W (h : RI W W.heap.size A xs) => refClass_any A n cap xs s W hn hm h)
  unfold maxLen at hm
  have hb0 := (Below.refl w.heap.size w).alloc (Nat.le_refl _) (.cells #[Value.slice A n cap] 24)
  have k0 := Blk.new w 24 #[Value.slice A n cap]
  have hr0 := RI.laterQ hr hb0
  by_cases h1 : chkT xs = 0
  · have h1' : (chkT xs != 0) = false := by simp [h1]
    have h1'' : (chkT xs == 0) = true := by simp [h1]
    by_cases h2 : isSz s = true
    · by_cases h3 : cls xs s = n
      · have HE : Hid (classT xs s = (0, 4)) := Lib.hid (by unfold classT; rw [if_pos h1, if_pos h2, if_pos (by rw [hn]; exact h3)])
        have h3' : ((cls xs s : Nat) : Int) == (n : Int) := by simp [h3]
        clear h1 h3 hn
        generalize classT xs s = R at *
        generalize chkT xs = ck at *
        generalize cls xs s = ci at *
        go_enter Try.func22, Try.ntmps22
        go_upto_region 4 with (first
          | (go_at_call 24; refine (HCK.out _ hr0).mono ?_; rintro e w1 ⟨rfl, hq⟩; have k1 := k0.call hq; have hb1 := hb0.trans (hq.mono hb0.size); have hr1 := RI.laterQ hr0 hq)
          | (go_at_call 37; refine (refSize_any _ _).mono ?_; rintro e w' ⟨rfl, rfl⟩))
        have HCLC : Hid (∀ z : Ext w1, Calls Try.prog 33 #[.agg #[.slice A n cap], .int .i64 s] z.w fun e w'' => e = .returned (.int .i64 ((ci : Nat) : Int)) ∧ ∃ y : Ext w1, w'' = y.w) := Lib.hid (fun z => Ext.call (HCL.out _ (RI.laterQ hr1 z.le)))
        have q1 := fun z : Ext w1 => (z.blk k1).cell
        refine region_ext (by kernel_rfl) (by kernel_rfl) ?_
        repeat (go_big_quiet_step (((go_at_call 33; exact HCLC.out _))))
        refine wpQuiet_nil ?_
        rintro w2 ⟨⟨_, hw2⟩, rfl⟩
        have hb2 := hb1.trans (hw2.mono hb1.size)
        have k2 := k1.call hw2
        have hr2 := RI.laterQ hr1 hw2
        clear q1 HCLC
        go_wp2_with fail
        go_ret2
        exact ⟨by rw [HE.out]; rfl, hb2⟩
      · have HE : Hid (classT xs s = (((cls xs s : Nat) : Int), 0)) := Lib.hid (by unfold classT; rw [if_pos h1, if_pos h2, if_neg (by rw [hn]; exact h3)])
        have h3' : (((cls xs s : Nat) : Int) == (n : Int)) = false := by simp; omega
        clear h1 h3 hn
        generalize classT xs s = R at *
        generalize chkT xs = ck at *
        generalize cls xs s = ci at *
        go_enter Try.func22, Try.ntmps22
        go_upto_region 4 with (first
          | (go_at_call 24; refine (HCK.out _ hr0).mono ?_; rintro e w1 ⟨rfl, hq⟩; have k1 := k0.call hq; have hb1 := hb0.trans (hq.mono hb0.size); have hr1 := RI.laterQ hr0 hq)
          | (go_at_call 37; refine (refSize_any _ _).mono ?_; rintro e w' ⟨rfl, rfl⟩))
        have HCLC : Hid (∀ z : Ext w1, Calls Try.prog 33 #[.agg #[.slice A n cap], .int .i64 s] z.w fun e w'' => e = .returned (.int .i64 ((ci : Nat) : Int)) ∧ ∃ y : Ext w1, w'' = y.w) := Lib.hid (fun z => Ext.call (HCL.out _ (RI.laterQ hr1 z.le)))
        have q1 := fun z : Ext w1 => (z.blk k1).cell
        refine region_ext (by kernel_rfl) (by kernel_rfl) ?_
        repeat (go_big_quiet_step (((go_at_call 33; exact HCLC.out _))))
        refine wpQuiet_nil ?_
        rintro w2 ⟨⟨_, hw2⟩, rfl⟩
        have hb2 := hb1.trans (hw2.mono hb1.size)
        have k2 := k1.call hw2
        have hr2 := RI.laterQ hr1 hw2
        clear q1 HCLC
        have c2 := k2.cell
        go_wp2_with fail
        refine (HCL.out _ hr2).mono ?_
        rintro e w4 ⟨rfl, hb4⟩
        go_wp2_with fail
        go_ret2
        exact ⟨by rw [HE.out]; rfl, hb2.trans (hb4.mono hb2.size)⟩
    · have h2' : isSz s = false := by simpa using h2
      have HE : Hid (classT xs s = (0, 7)) := Lib.hid (by unfold classT; rw [if_pos h1, if_neg h2])
      clear h1 h2 hn
      generalize classT xs s = R at *
      generalize chkT xs = ck at *
      generalize cls xs s = ci at *
      go_enter Try.func22, Try.ntmps22
      go_upto_region 4 with (first
        | (go_at_call 24; refine (HCK.out _ hr0).mono ?_; rintro e w1 ⟨rfl, hq⟩; have k1 := k0.call hq; have hb1 := hb0.trans (hq.mono hb0.size); have hr1 := RI.laterQ hr0 hq)
        | (go_at_call 37; refine (refSize_any _ _).mono ?_; rintro e w' ⟨rfl, rfl⟩))
      have HCLC : Hid (∀ z : Ext w1, Calls Try.prog 33 #[.agg #[.slice A n cap], .int .i64 s] z.w fun e w'' => e = .returned (.int .i64 ((ci : Nat) : Int)) ∧ ∃ y : Ext w1, w'' = y.w) := Lib.hid (fun z => Ext.call (HCL.out _ (RI.laterQ hr1 z.le)))
      have q1 := fun z : Ext w1 => (z.blk k1).cell
      refine region_ext (by kernel_rfl) (by kernel_rfl) ?_
      repeat (go_big_quiet_step (((go_at_call 33; exact HCLC.out _))))
      refine wpQuiet_nil ?_
      rintro w2 ⟨⟨_, hw2⟩, rfl⟩
      have hb2 := hb1.trans (hw2.mono hb1.size)
      have k2 := k1.call hw2
      have hr2 := RI.laterQ hr1 hw2
      clear q1 HCLC
      go_wp2_with fail
      go_ret2
      exact ⟨by rw [HE.out]; rfl, hb2⟩
  · have h1' : (chkT xs != 0) = true := by simpa using h1
    have h1'' : (chkT xs == 0) = false := by simpa using h1
    have HE : Hid (classT xs s = (0, chkT xs)) := Lib.hid (by unfold classT; rw [if_neg h1])
    clear h1 hn
    generalize classT xs s = R at *
    generalize chkT xs = ck at *
    generalize cls xs s = ci at *
    go_enter Try.func22, Try.ntmps22
    go_upto_region 4 with (first
      | (go_at_call 24; refine (HCK.out _ hr0).mono ?_; rintro e w1 ⟨rfl, hq⟩; have k1 := k0.call hq; have hb1 := hb0.trans (hq.mono hb0.size); have hr1 := RI.laterQ hr0 hq)
      | (go_at_call 37; refine (refSize_any _ _).mono ?_; rintro e w' ⟨rfl, rfl⟩))
    have HCLC : Hid (∀ z : Ext w1, Calls Try.prog 33 #[.agg #[.slice A n cap], .int .i64 s] z.w fun e w'' => e = .returned (.int .i64 ((ci : Nat) : Int)) ∧ ∃ y : Ext w1, w'' = y.w) := Lib.hid (fun z => Ext.call (HCL.out _ (RI.laterQ hr1 z.le)))
    have q1 := fun z : Ext w1 => (z.blk k1).cell
    refine region_ext (by kernel_rfl) (by kernel_rfl) ?_
    repeat (go_big_quiet_step (((go_at_call 33; exact HCLC.out _))))
    refine wpQuiet_nil ?_
    rintro w2 ⟨⟨_, hw2⟩, rfl⟩
    have hb2 := hb1.trans (hw2.mono hb1.size)
    have k2 := k1.call hw2
    have hr2 := RI.laterQ hr1 hw2
    clear q1 HCLC
    go_wp2_with fail
    go_ret2
    exact ⟨by rw [HE.out]; rfl, hb2⟩
theorem waste_any (A U : Option Addr) (n cap m ucap : Nat) (xs : List Int) (us : List (Int × Int)) (w : World) (hn : xs.length = n) (hm : us.length = m) (hn2 : n ≤ maxLen) (hm2 : m ≤ maxLen) (hr : RI w w.heap.size A xs) (hu : RU w w.heap.size U us) :
    Calls Try.prog 20 #[.agg #[.slice A n cap], .slice U m ucap] w (PairR (wasteT xs us) w) := by
  by_cases h1 : chkT xs = 0
  · by_cases h2 : chkU us = 0
    · exact waste_ok A U n cap m ucap xs us w hn hm hn2 hm2 hr hu h1 h2
    · have HE : Hid (wasteT xs us = (0, chkU us)) := Lib.hid (by unfold wasteT; rw [if_pos h1, if_neg h2])
      have HCK := Lib.hid (fun W (h : RI W W.heap.size A xs) => check_any A n cap xs W hn hn2 h)
      have HCU := Lib.hid (fun W (h : RU W W.heap.size U us) => checkUse_any U m ucap us W hm hm2 h)
      have hb0 := (Below.refl w.heap.size w).alloc (Nat.le_refl _) (.cells #[Value.slice A n cap] 24)
      have hr0 := RI.laterQ hr hb0
      have h1' : (chkT xs != 0) = false := by simp [h1]
      have h2' : (chkU us != 0) = true := by simpa using h2
      clear h1 h2 hn hm
      generalize wasteT xs us = R at *
      generalize chkT xs = ck at *
      generalize chkU us = cu at *
      go_enter Try.func20, Try.ntmps20
      go_wp2_with (first
        | (go_at_call 17; refine (HCK.out _ hr0).mono ?_; rintro e w1 ⟨rfl, hq⟩; have hb1 := hb0.trans (hq.mono hb0.size); have hu1 := RU.laterQ hu hb1)
        | (go_at_call 25; refine (HCU.out _ hu1).mono ?_; rintro e w2 ⟨rfl, hq2⟩))
      go_ret2
      exact ⟨by rw [HE.out]; rfl, hb1.trans (hq2.mono hb1.size)⟩
  · have HE : Hid (wasteT xs us = (0, chkT xs)) := Lib.hid (by unfold wasteT; rw [if_neg h1])
    have HCK := Lib.hid (fun W (h : RI W W.heap.size A xs) => check_any A n cap xs W hn hn2 h)
    have hb0 := (Below.refl w.heap.size w).alloc (Nat.le_refl _) (.cells #[Value.slice A n cap] 24)
    have hr0 := RI.laterQ hr hb0
    have h1' : (chkT xs != 0) = true := by simpa using h1
    clear h1 hn hm
    generalize wasteT xs us = R at *
    generalize chkT xs = ck at *
    go_enter Try.func20, Try.ntmps20
    go_wp2_with (go_at_call 17; refine (HCK.out _ hr0).mono ?_; rintro e w1 ⟨rfl, hq⟩; have hb1 := hb0.trans (hq.mono hb0.size))
    go_ret2
    exact ⟨by rw [HE.out]; rfl, hb1⟩
set_option maxHeartbeats 800000 in
theorem refWasteT_any (A U : Option Addr) (n cap m ucap : Nat) (xs : List Int) (us : List (Int × Int)) (w : World) (hn : xs.length = n) (hm : us.length = m) (hn2 : n ≤ maxLen) (hm2 : m ≤ maxLen) (hr : RI w w.heap.size A xs) (hu : RU w w.heap.size U us) :
    Calls Try.prog 23 #[.agg #[.slice A n cap], .slice U m ucap] w (PairR (wasteT xs us) w) := by
  have HCK := Lib.hid (fun W (h : RI W W.heap.size A xs) => refCheck_any A n cap xs W hn hn2 h)
  have HCU := Lib.hid (fun W (h : RU W W.heap.size U us) => refCheckUse_any U m ucap us W hm hm2 h)
  have hb0 := (Below.refl w.heap.size w).alloc (Nat.le_refl _) (.cells #[Value.slice A n cap] 24)
  have k0 := Blk.new w 24 #[Value.slice A n cap]
  have hr0 := RI.laterQ hr hb0
  by_cases h1 : chkT xs = 0
  · have h1' : (chkT xs != 0) = false := by simp [h1]
    have h1'' : (chkT xs == 0) = true := by simp [h1]
    by_cases h2 : chkU us = 0
    · have h2' : (chkU us != 0) = false := by simp [h2]
      have ok := chkT_ok h1
      have HWS := Lib.hid (fun W (h : RI W W.heap.size A xs) (hu : RU W W.heap.size U us) => refWst_any A U n cap m ucap xs us W hn hm hn2 h hu (fun k hk => ⟨(ok.at_ k hk).1, (ok.at_ k hk).2.1⟩) (chkU_ok h2))
      cases hw : wstL xs 0 us with
      | none =>
        have HE : Hid (wasteT xs us = (0, 4)) := Lib.hid (by unfold wasteT; rw [if_pos h1, if_pos h2, hw])
        have HR : wstR xs us = (0, false) := by simp only [wstR, hw]
        rw [HR] at HWS
        clear h1 h2 hn hm hw HR ok
        generalize wasteT xs us = R at *
        generalize chkT xs = ck at *
        generalize chkU us = cu at *
        go_enter Try.func23, Try.ntmps23
        go_wp2_with (first
          | (go_at_call 24; refine (HCK.out _ hr0).mono ?_; rintro e w1 ⟨rfl, hq⟩; have k1 := k0.call hq; have hb1 := hb0.trans (hq.mono hb0.size); have hr1 := RI.laterQ hr0 hq; have hu1 := RU.laterQ hu hb1)
          | (go_at_call 26; refine (HCU.out _ hu1).mono ?_; rintro e w2 ⟨rfl, hq2⟩; have k2 := k1.call hq2; have hb2 := hb1.trans (hq2.mono hb1.size); have hr2 := RI.laterQ hr1 hq2; have hu2 := RU.laterQ hu1 hq2; have c2 := k2.cell)
          | (go_at_call 42; refine (HWS.out _ hr2 hu2).mono ?_; rintro e w3 ⟨rfl, hq3⟩))
        go_ret2
        exact ⟨by rw [HE.out]; rfl, hb2.trans (hq3.mono hb2.size)⟩
      | some v =>
        have HE : Hid (wasteT xs us = (v, 0)) := Lib.hid (by unfold wasteT; rw [if_pos h1, if_pos h2, hw])
        have HR : wstR xs us = (v, true) := by simp only [wstR, hw]
        rw [HR] at HWS
        clear h1 h2 hn hm hw HR ok
        generalize wasteT xs us = R at *
        generalize chkT xs = ck at *
        generalize chkU us = cu at *
        go_enter Try.func23, Try.ntmps23
        go_wp2_with (first
          | (go_at_call 24; refine (HCK.out _ hr0).mono ?_; rintro e w1 ⟨rfl, hq⟩; have k1 := k0.call hq; have hb1 := hb0.trans (hq.mono hb0.size); have hr1 := RI.laterQ hr0 hq; have hu1 := RU.laterQ hu hb1)
          | (go_at_call 26; refine (HCU.out _ hu1).mono ?_; rintro e w2 ⟨rfl, hq2⟩; have k2 := k1.call hq2; have hb2 := hb1.trans (hq2.mono hb1.size); have hr2 := RI.laterQ hr1 hq2; have hu2 := RU.laterQ hu1 hq2; have c2 := k2.cell)
          | (go_at_call 42; refine (HWS.out _ hr2 hu2).mono ?_; rintro e w3 ⟨rfl, hq3⟩))
        go_ret2
        exact ⟨by rw [HE.out]; rfl, hb2.trans (hq3.mono hb2.size)⟩
    · have h2' : (chkU us != 0) = true := by simpa using h2
      have HE : Hid (wasteT xs us = (0, chkU us)) := Lib.hid (by unfold wasteT; rw [if_pos h1, if_neg h2])
      have HWS : True := trivial
      clear h1 h2 hn hm
      generalize wasteT xs us = R at *
      generalize chkT xs = ck at *
      generalize chkU us = cu at *
      go_enter Try.func23, Try.ntmps23
      go_wp2_with (first
        | (go_at_call 24; refine (HCK.out _ hr0).mono ?_; rintro e w1 ⟨rfl, hq⟩; have k1 := k0.call hq; have hb1 := hb0.trans (hq.mono hb0.size); have hr1 := RI.laterQ hr0 hq; have hu1 := RU.laterQ hu hb1)
        | (go_at_call 26; refine (HCU.out _ hu1).mono ?_; rintro e w2 ⟨rfl, hq2⟩; have k2 := k1.call hq2; have hb2 := hb1.trans (hq2.mono hb1.size); have hr2 := RI.laterQ hr1 hq2; have hu2 := RU.laterQ hu1 hq2; have c2 := k2.cell)
        | (go_at_call 42; refine (HWS.out _ hr2 hu2).mono ?_; rintro e w3 ⟨rfl, hq3⟩))
      go_ret2
      exact ⟨by rw [HE.out]; rfl, hb2⟩
  · have h1' : (chkT xs != 0) = true := by simpa using h1
    have h1'' : (chkT xs == 0) = false := by simpa using h1
    have HE : Hid (wasteT xs us = (0, chkT xs)) := Lib.hid (by unfold wasteT; rw [if_neg h1])
    have HWS : True := trivial
    clear h1 hn hm
    generalize wasteT xs us = R at *
    generalize chkT xs = ck at *
    go_enter Try.func23, Try.ntmps23
    go_wp2_with (first
      | (go_at_call 24; refine (HCK.out _ hr0).mono ?_; rintro e w1 ⟨rfl, hq⟩; have k1 := k0.call hq; have hb1 := hb0.trans (hq.mono hb0.size); have hr1 := RI.laterQ hr0 hq; have hu1 := RU.laterQ hu hb1)
      | (go_at_call 26; refine (HCU.out _ hu1).mono ?_; rintro e w2 ⟨rfl, hq2⟩; have k2 := k1.call hq2; have hb2 := hb1.trans (hq2.mono hb1.size); have hr2 := RI.laterQ hr1 hq2; have hu2 := RU.laterQ hu1 hq2; have c2 := k2.cell)
      | (go_at_call 42; refine (HWS.out _ hr2 hu2).mono ?_; rintro e w3 ⟨rfl, hq3⟩))
    go_ret2
    exact ⟨by rw [HE.out]; rfl, hb1⟩
end Go.Proofs.Ytiohcegkkpeodaa
