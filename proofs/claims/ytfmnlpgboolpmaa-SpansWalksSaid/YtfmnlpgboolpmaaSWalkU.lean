/- Walk: the law SpansWalks. -/
import Derived.Test.YtfmnlpgboolpmaaSWalkT
import Derived.Test.YtfmnlpgboolpmaaSWalkG
import Derived.Test.YtfmnlpgboolpmaaLibT
namespace Go.Pol
open Go Go.RowKit
theorem RI.on {w w' : World} {A : Option Addr} {us : List Int} (h : RI w w.heap.size A us) (hb : Below w.heap.size w w') : RI w' w'.heap.size A us := (h.below hb).more hb.size
def WkS (b : Nat) (v : Value) (W : World) : Prop := W.cell? ⟨b, 0, none⟩ = some v ∧ True
/-- a new cell with a value of its own -/
theorem newCell (w : World) (t : TypeId) (v : Value) : Blk (w.alloc (.cells #[v] t)) w.heap.size t #[v] ∧ Below w.heap.size w (w.alloc (.cells #[v] t)) :=
  ⟨Blk.new w t #[v], (Below.refl w.heap.size w).alloc (Nat.le_refl _) _⟩
end Go.Pol
namespace Go.Proofs.Ytfmnlpgboolpmaa
open Go Go.Proofs Go.RowKit Go.Pol Go.Shelf
attribute [local go_sem] Oper.semAt_some Go.Pol.wide_fn Go.Pol.wide_depth Go.Pol.wide_fn' Go.Pol.wide_depth'

set_option maxRecDepth 100000 in
set_option maxHeartbeats 3200000 in
theorem walksLaw_any (A : Option Addr) (n cap : Nat) (us : List Sp) (size stop : Int) (w : World) (hn : us.length = n) (hm : n ≤ cap) (hc : cap ≤ maxLen) (hr : RU w w.heap.size A us) :
    Calls Try.prog 10 #[.slice A n cap, .int .i64 size, .int .i64 stop] w fun e w' => e = .returned (.bool true) ∧ Below w.heap.size w w' := by
  have m1 := Nat.le_trans hm hc
  have HL := Lib.hid (fun W => long_any A n cap W m1)
  obtain ⟨s, hs⟩ : ∃ s, w.heap.size = s := ⟨_, rfl⟩
  obtain ⟨W0, hW0⟩ : ∃ W0, (w.alloc (.cells #[.int .i64 stop] 3)).alloc (.cells #[.bool false] 4) = W0 := ⟨_, rfl⟩
  have hs0 : W0.heap.size = s + 2 := by rw [← hW0, ← hs]; simp
  have hb0 : Below s w W0 := by rw [← hW0, ← hs]; exact ((Below.refl w.heap.size w).alloc (Nat.le_refl _) _).alloc (by simp) _
  have kS : Blk W0 s 3 #[.int .i64 stop] := by rw [← hW0, ← hs]; exact (Blk.new _ _ _).alloc _
  have kE : Blk W0 (s + 1) 4 #[.bool false] := by
    rw [← hW0, ← hs]; have := Blk.new (w.alloc (.cells #[.int .i64 stop] 3)) 4 #[.bool false]
    rw [World.size_alloc] at this; exact this
  have r0 : RU W0 W0.heap.size A us := hr.on (by rw [hs]; exact hb0)
  have cS := kS.cell
  have hW1 := Lib.hid hW0
  clear hW0 hr
  by_cases hlen : 2100 < n
  · rw [decide_eq_true hlen] at HL
    refine calls_of_marks Try.func10 rfl ?_
    simp only [Try.ntmps10, List.size_toArray, List.length_cons, List.length_nil, Nat.reduceAdd, Nat.reduceSub, Array.replicate_succ, Array.replicate_zero, List.push_toArray, List.append_toArray, List.nil_append, List.cons_append]
    go_upto_region 1 with fail
    try simp only [Nat.add_assoc, Nat.reduceAdd]
    rw [hW1.out]
    clear hW1
    go_wp2_with fail
    refine (HL.out _).mono ?_
    rintro e w1 ⟨rfl, rfl⟩
    go_wp2_with fail
    refine (awake3_any _).mono ?_
    rintro e w2 ⟨rfl, hb2⟩
    have kE2 := kE.call hb2
    have cE2 := kE2.cell
    have fE2 := kE2.frozen
    have cE3 := (kE2.set_ 0 (.bool true)).cell
    go_wp2_with fail
    exact leave_none (v := .bool true) (by simp [results, Try.results10, go_sem, cE3]) ⟨rfl, by rw [hs]; exact (hb0.trans (hb2.mono (by omega))).setCell (p := ⟨s + 1, 0, none⟩) (by simp) _⟩
  rw [decide_eq_false hlen] at HL
  by_cases hst : stop < 0
  · have hst' : decide (stop < 0) = true := by simpa using hst
    refine calls_of_marks Try.func10 rfl ?_
    simp only [Try.ntmps10, List.size_toArray, List.length_cons, List.length_nil, Nat.reduceAdd, Nat.reduceSub, Array.replicate_succ, Array.replicate_zero, List.push_toArray, List.append_toArray, List.nil_append, List.cons_append]
    go_upto_region 1 with fail
    try simp only [Nat.add_assoc, Nat.reduceAdd]
    rw [hW1.out]
    clear hW1
    go_wp2_with fail
    refine (HL.out _).mono ?_
    rintro e w1 ⟨rfl, rfl⟩
    go_wp2_with fail
    refine (awake3_any _).mono ?_
    rintro e w2 ⟨rfl, hb2⟩
    have kE2 := kE.call hb2
    have cE2 := kE2.cell
    have fE2 := kE2.frozen
    have cE3 := (kE2.set_ 0 (.bool true)).cell
    go_wp2_with fail
    exact leave_none (v := .bool true) (by simp [results, Try.results10, go_sem, cE3]) ⟨rfl, by rw [hs]; exact (hb0.trans (hb2.mono (by omega))).setCell (p := ⟨s + 1, 0, none⟩) (by simp) _⟩
  have hst' : decide (stop < 0) = false := by simpa using hst
  have T1 := Lib.hid (fun W h => piecesTop_any A n cap us size W hn (by omega) h)
  have T2 := Lib.hid (fun W h => pagesTop_any A n cap us W hn (by omega) h)
  have C1 := Lib.hid (fun W h => refPagesT_any A n cap us W hn m1 h)
  have C2 := Lib.hid (fun W h => refPieces_any A n cap us size W hn m1 h)
  have hp1024 : (fsts (piecesF us 1)).length ≤ 1024 := by simp only [fsts, List.length_map]; exact pieces_most
  have hr1024 : (piecesF us size).length ≤ 1024 := pieces_most
  generalize fsts (piecesF us 1) = PL at *
  generalize piecesF us size = RL at *
  obtain ⟨pl, hpl⟩ : ∃ pl, PL.length = pl := ⟨_, rfl⟩
  obtain ⟨rl, hrl⟩ : ∃ rl, RL.length = rl := ⟨_, rfl⟩
  rw [hpl] at hp1024
  rw [hrl] at hr1024
  have hpl' := Lib.hid hpl
  have hrl' := Lib.hid hrl
  unfold IntsL at C1
  unfold SpansO at C2
  rw [hpl] at C1
  rw [hrl] at C2
  clear hpl hrl hn hlen
  refine calls_of_marks Try.func10 rfl ?_
  simp only [Try.ntmps10, List.size_toArray, List.length_cons, List.length_nil, Nat.reduceAdd, Nat.reduceSub, Array.replicate_succ, Array.replicate_zero, List.push_toArray, List.append_toArray, List.nil_append, List.cons_append]
  go_upto_region 1 with fail
  try simp only [Nat.add_assoc, Nat.reduceAdd]
  rw [hW1.out]
  clear hW1
  go_wp2_with fail
  refine (HL.out _).mono ?_
  rintro e w1 ⟨rfl, rfl⟩
  go_wp2_with fail
  refine (T2.out _ r0).mono ?_
  rintro e w2 ⟨lb, Kq, rfl, hsq, hKq, hb2⟩
  have B2 := hb0.trans (hb2.mono (by omega))
  have r2 := r0.on hb2
  have kS2 := kS.call hb2
  have kE2 := kE.call hb2
  have F2 : Far (fun k => ¬ Kq k) w2 w2 := Far.refl _ _
  go_wp2_with fail
  refine (T1.out _ r2).mono ?_
  rintro e w3 ⟨lb2, Kr, rfl, hsr, hKr, hb3⟩
  have hs2 := hb2.size
  have hs3 := hb3.size
  have B3 := B2.trans (hb3.mono (by omega))
  have r3 := r2.on hb3
  have kS3 := kS2.call hb3
  have kE3 := kE2.call hb3
  have F3 := F2.trans (.of_below hb3)
  have H4 := Lib.hid (lawPages_any _ lb Kq PL 1024 _ (by rw [hpl'.out]; exact hp1024) (by omega) (hsq.later F3) pages_enters (fun k h => by have := (hKq k h).2; omega))
  rw [hpl'.out] at H4
  clear T1 T2 hb2 hb3 r0 r2 kS kE kS2 kE2 F2 B2
  go_wp2_with fail
  refine H4.out.mono ?_
  rintro e w4 ⟨A5, c5, rfl, i4, hb4⟩
  have hs4 := hb4.size
  have B4 := B3.trans (hb4.mono (by omega))
  have r4 := r3.on hb4
  have kS4 := kS3.call hb4
  have kE4 := kE3.call hb4
  have F4 := F3.trans (.of_below hb4)
  have G4 : Far (fun k => ¬ Kr k) w3 w4 := .of_below hb4
  clear H4 hb4 r3 kS3 kE3 F3 B3
  go_upto_region 5 with fail
  obtain ⟨kA5, hb5⟩ := newCell w4 59 (.slice A5 pl c5)
  obtain ⟨bA, hbA⟩ : ∃ bA, w4.heap.size = bA := ⟨_, rfl⟩
  generalize w4.alloc (.cells #[.slice A5 pl c5] 59) = w5 at *
  have hs5 := hb5.size
  have B5 := B4.trans (hb5.mono (by omega))
  have r5 := r4.on hb5
  have i5 := i4.on hb5
  have kS5 := kS4.call hb5
  have kE5 := kE4.call hb5
  have F5 := F4.trans (.of_below hb5)
  have G5 := G4.trans (.of_below hb5)
  rw [hbA] at kA5
  have H6 := Lib.hid (lawPieces_any _ lb2 Kr RL 1024 _ (by rw [hrl'.out]; exact hr1024) (by omega) (hsr.later G5) pieces_enters (fun k h => by have := hKr k h; omega))
  rw [hrl'.out] at H6
  clear hb5 r4 kS4 kE4 F4 B4 G4
  try rw [hbA]
  go_wp2_with fail
  refine H6.out.mono ?_
  rintro e w6 ⟨A6, c6, rfl, u6, m6, x6, hb6⟩
  have hs6 := hb6.size
  have B6 := B5.trans (hb6.mono (by omega))
  have r6 := r5.on hb6
  have i6 := i5.on hb6
  have kS6 := kS5.call hb6
  have kE6 := kE5.call hb6
  have kA6 := kA5.call hb6
  have F6 := F5.trans (.of_below hb6)
  have G6 := G5.trans (.of_below hb6)
  have H7 := Lib.hid (lawPages_any _ lb Kq PL 1024 _ (by rw [hpl'.out]; exact hp1024) (by omega) (hsq.later F6) pages_enters (fun k h => by have := (hKq k h).2; omega))
  rw [hpl'.out] at H7
  clear H6 hb6 r5 i4 i5 kS5 kE5 kA5 F5 B5 G5
  go_wp2_with fail
  refine H7.out.mono ?_
  rintro e w7 ⟨A7, c7, rfl, i7, hb7⟩
  have hs7 := hb7.size
  have B7 := B6.trans (hb7.mono (by omega))
  have r7 := r6.on hb7
  have j7 := i6.on hb7
  have v7 := u6.on hb7
  have kS7 := kS6.call hb7
  have kE7 := kE6.call hb7
  have kA7 := kA6.call hb7
  have F7 := F6.trans (.of_below hb7)
  have G7 := G6.trans (.of_below hb7)
  have H8 := Lib.hid (lawPieces_any _ lb2 Kr RL 1024 _ (by rw [hrl'.out]; exact hr1024) (by omega) (hsr.later G7) pieces_enters (fun k h => by have := hKr k h; omega))
  rw [hrl'.out] at H8
  clear H7 hb7 r6 i6 u6 kS6 kE6 kA6 F6 B6 G6
  go_wp2_with fail
  refine H8.out.mono ?_
  rintro e w8 ⟨A8, c8, rfl, u8, m8, x8, hb8⟩
  have hs8 := hb8.size
  have B8 := B7.trans (hb8.mono (by omega))
  have r8 := r7.on hb8
  have i5 := j7.on hb8
  have u6 := v7.on hb8
  have i7' := i7.on hb8
  have kS8 := kS7.call hb8
  have kE8 := kE7.call hb8
  have kA8 := kA7.call hb8
  have F8 := F7.trans (.of_below hb8)
  have v8 := u8
  clear H8 hb8 r7 j7 v7 u8 kS7 kE7 kA7 F7 B7 G7 hsr hKr
  replace i7 := i7'
  clear i7'
  go_upto_region 8 with fail
  refine wp_noPanic ?_
  refine wp_region_T (WkS bA (.slice A5 pl c5)) [] (by kernel_rfl) ?_
  -- the region draws: it is read as of a world that has drawn
  have hbd : Below w8.heap.size w8 w8.drew := (Below.refl _ _).drew
  replace B8 := B8.trans (hbd.mono (by omega))
  replace r8 := r8.on hbd
  replace i5 := i5.on hbd
  replace u6 := u6.on hbd
  replace i7 := i7.on hbd
  replace v8 := v8.on hbd
  replace kS8 := kS8.call hbd
  replace kE8 := kE8.call hbd
  replace kA8 := kA8.call hbd
  replace F8 := F8.trans (.of_below hbd)
  have hs8d : w8.drew.heap.size = w8.heap.size := rfl
  generalize w8.drew = w8d at *
  clear hbd
  have C9 := Lib.hid (C1.out w8d r8)
  have hS : WkS bA (.slice A5 pl c5) w8d := ⟨kA8.cell 0, trivial⟩
  refine' wpAnyT_take (i := 0) (v := _) ?hiT0 (by kernel_rfl) ?hQT0 (Or.inl ⟨?hwT0, ?hyT0⟩) hS ?reT0
  case hiT0 => (simp only [List.getElem?_toArray, List.getElem?_cons_zero]; rfl)
  case hQT0 => exact fun _ _ _ h => h
  case hwT0 => rfl
  case hyT0 => (intro wS hSw; obtain ⟨_, _⟩ := hSw; go_simp; (try with_reducible rfl))
  try simp only [Act.put, List.setIfInBounds_toArray, List.set_cons_zero, List.set_cons_succ]
  refine' wpAnyT_take (i := 1) (v := _) ?hiT1 (by kernel_rfl) ?hQT1 (Or.inl ⟨?hwT1, ?hyT1⟩) hS ?reT1
  case hiT1 => (simp only [List.getElem?_toArray, List.getElem?_cons_succ, List.getElem?_cons_zero]; rfl)
  case hQT1 => exact fun _ _ _ h => h
  case hwT1 => rfl
  case hyT1 => (intro wS hSw; obtain ⟨_, _⟩ := hSw; go_simp; (try with_reducible rfl))
  try simp only [Act.put, List.setIfInBounds_toArray, List.set_cons_zero, List.set_cons_succ]
  refine' wpAnyT_take (i := 2) (v := _) ?hiT2 (by kernel_rfl) ?hQT2 (Or.inl ⟨?hwT2, ?hyT2⟩) hS ?reT2
  case hiT2 => (simp only [List.getElem?_toArray, List.getElem?_cons_succ, List.getElem?_cons_zero]; rfl)
  case hQT2 => exact fun _ _ _ h => h
  case hwT2 => rfl
  case hyT2 => (intro wS hSw; obtain ⟨_, _⟩ := hSw; go_simp; (try with_reducible rfl))
  try simp only [Act.put, List.setIfInBounds_toArray, List.set_cons_zero, List.set_cons_succ]
  refine' wpAnyT_take (i := 3) (v := _) ?hiT3 (by kernel_rfl) ?hQT3 (Or.inl ⟨?hwT3, ?hyT3⟩) hS ?reT3
  case hiT3 => (simp only [List.getElem?_toArray, List.getElem?_cons_succ, List.getElem?_cons_zero]; rfl)
  case hQT3 => exact fun _ _ _ h => h
  case hwT3 => rfl
  case hyT3 => (intro wS hSw; obtain ⟨_, _⟩ := hSw; go_simp; (try with_reducible rfl))
  try simp only [Act.put, List.setIfInBounds_toArray, List.set_cons_zero, List.set_cons_succ]
  refine' wpAnyT_take (i := 4) (v := _) ?hiT4 (by kernel_rfl) ?hQT4 (Or.inl ⟨?hwT4, ?hyT4⟩) hS ?reT4
  case hiT4 => (simp only [List.getElem?_toArray, List.getElem?_cons_succ, List.getElem?_cons_zero]; rfl)
  case hQT4 => exact fun _ _ _ h => h
  case hwT4 => rfl
  case hyT4 => (intro wS hSw; obtain ⟨_, _⟩ := hSw; go_simp; (try with_reducible rfl))
  try simp only [Act.put, List.setIfInBounds_toArray, List.set_cons_zero, List.set_cons_succ]
  refine' wpAnyT_take (i := 5) (v := _) ?hiT5 (by kernel_rfl) ?hQT5 (Or.inl ⟨?hwT5, ?hyT5⟩) hS ?reT5
  case hiT5 => (simp only [List.getElem?_toArray, List.getElem?_cons_succ, List.getElem?_cons_zero]; rfl)
  case hQT5 => exact fun _ _ _ h => h
  case hwT5 => rfl
  case hyT5 => (intro wS hSw; obtain ⟨_, _⟩ := hSw; go_simp; (try with_reducible rfl))
  try simp only [Act.put, List.setIfInBounds_toArray, List.set_cons_zero, List.set_cons_succ]
  refine' wpAnyT_take (i := 6) (v := _) ?hiT6 (by kernel_rfl) ?hQT6 (Or.inl ⟨?hwT6, ?hyT6⟩) hS ?reT6
  case hiT6 => (simp only [List.getElem?_toArray, List.getElem?_cons_succ, List.getElem?_cons_zero]; rfl)
  case hQT6 => exact fun _ _ _ h => h
  case hwT6 => rfl
  case hyT6 => (intro wS hSw; obtain ⟨_, _⟩ := hSw; go_simp; (try with_reducible rfl))
  try simp only [Act.put, List.setIfInBounds_toArray, List.set_cons_zero, List.set_cons_succ]
  refine' wpAnyT_take (i := 7) (v := _) ?hiT7 (by kernel_rfl) ?hQT7 (Or.inl ⟨?hwT7, ?hyT7⟩) hS ?reT7
  case hiT7 => (simp only [List.getElem?_toArray, List.getElem?_cons_succ, List.getElem?_cons_zero]; rfl)
  case hQT7 => exact fun _ _ _ h => h
  case hwT7 => rfl
  case hyT7 => (intro wS hSw; obtain ⟨_, _⟩ := hSw; go_simp; (try with_reducible rfl))
  try simp only [Act.put, List.setIfInBounds_toArray, List.set_cons_zero, List.set_cons_succ]
  refine' wpAnyT_take (i := 8) (v := _) ?hiT8 (by kernel_rfl) ?hQT8 (Or.inl ⟨?hwT8, ?hyT8⟩) hS ?reT8
  case hiT8 => (simp only [List.getElem?_toArray, List.getElem?_cons_succ, List.getElem?_cons_zero]; rfl)
  case hQT8 => exact fun _ _ _ h => h
  case hwT8 => rfl
  case hyT8 => (intro wS hSw; obtain ⟨_, _⟩ := hSw; go_simp; (try with_reducible rfl))
  try simp only [Act.put, List.setIfInBounds_toArray, List.set_cons_zero, List.set_cons_succ]
  refine' wpAnyT_take (i := 9) (v := _) ?hiT9 (by kernel_rfl) ?hQT9 (Or.inl ⟨?hwT9, ?hyT9⟩) hS ?reT9
  case hiT9 => (simp only [List.getElem?_toArray, List.getElem?_cons_succ, List.getElem?_cons_zero]; rfl)
  case hQT9 => exact fun _ _ _ h => h
  case hwT9 => rfl
  case hyT9 => (intro wS hSw; obtain ⟨_, _⟩ := hSw; go_simp; (try with_reducible rfl))
  try simp only [Act.put, List.setIfInBounds_toArray, List.set_cons_zero, List.set_cons_succ]
  refine' wpAnyT_take (i := 10) (v := _) ?hiT10 (by kernel_rfl) ?hQT10 (Or.inl ⟨?hwT10, ?hyT10⟩) hS ?reT10
  case hiT10 => (simp only [List.getElem?_toArray, List.getElem?_cons_succ, List.getElem?_cons_zero]; rfl)
  case hQT10 => exact fun _ _ _ h => h
  case hwT10 => rfl
  case hyT10 => (intro wS hSw; obtain ⟨_, _⟩ := hSw; go_simp; (try with_reducible rfl))
  try simp only [Act.put, List.setIfInBounds_toArray, List.set_cons_zero, List.set_cons_succ]
  refine' wpAnyT_take (i := 11) (v := _) ?hiT11 (by kernel_rfl) ?hQT11 (Or.inl ⟨?hwT11, ?hyT11⟩) hS ?reT11
  case hiT11 => (simp only [List.getElem?_toArray, List.getElem?_cons_succ, List.getElem?_cons_zero]; rfl)
  case hQT11 => exact fun _ _ _ h => h
  case hwT11 => rfl
  case hyT11 => (intro wS hSw; obtain ⟨_, _⟩ := hSw; go_simp; (try with_reducible rfl))
  try simp only [Act.put, List.setIfInBounds_toArray, List.set_cons_zero, List.set_cons_succ]
  refine' wpAnyT_take (i := 12) (v := _) ?hiT12 (by kernel_rfl) ?hQT12 (Or.inl ⟨?hwT12, ?hyT12⟩) hS ?reT12
  case hiT12 => (simp only [List.getElem?_toArray, List.getElem?_cons_succ, List.getElem?_cons_zero]; rfl)
  case hQT12 => exact fun _ _ _ h => h
  case hwT12 => rfl
  case hyT12 => (intro wS hSw; obtain ⟨_, _⟩ := hSw; go_simp; (try with_reducible rfl))
  try simp only [Act.put, List.setIfInBounds_toArray, List.set_cons_zero, List.set_cons_succ]
  refine' wpAnyT_take (i := 13) (v := _) ?hiT13 (by kernel_rfl) ?hQT13 (Or.inl ⟨?hwT13, ?hyT13⟩) hS ?reT13
  case hiT13 => (simp only [List.getElem?_toArray, List.getElem?_cons_succ, List.getElem?_cons_zero]; rfl)
  case hQT13 => exact fun _ _ _ h => h
  case hwT13 => rfl
  case hyT13 => (intro wS hSw; obtain ⟨_, _⟩ := hSw; go_simp; (try with_reducible rfl))
  try simp only [Act.put, List.setIfInBounds_toArray, List.set_cons_zero, List.set_cons_succ]
  refine' wpAnyT_take (i := 14) (v := _) ?hiT14 (by kernel_rfl) ?hQT14 (Or.inl ⟨?hwT14, ?hyT14⟩) hS ?reT14
  case hiT14 => (simp only [List.getElem?_toArray, List.getElem?_cons_succ, List.getElem?_cons_zero]; rfl)
  case hQT14 => exact fun _ _ _ h => h
  case hwT14 => rfl
  case hyT14 => (intro wS hSw; obtain ⟨_, _⟩ := hSw; go_simp; (try with_reducible rfl))
  try simp only [Act.put, List.setIfInBounds_toArray, List.set_cons_zero, List.set_cons_succ]
  refine' wpAnyT_take (i := 15) (v := _) ?hiT15 (by kernel_rfl) ?hQT15 (Or.inl ⟨?hwT15, ?hyT15⟩) hS ?reT15
  case hiT15 => (simp only [List.getElem?_toArray, List.getElem?_cons_succ, List.getElem?_cons_zero]; rfl)
  case hQT15 => exact fun _ _ _ h => h
  case hwT15 => rfl
  case hyT15 => (intro wS hSw; obtain ⟨_, _⟩ := hSw; go_simp; (try with_reducible rfl))
  try simp only [Act.put, List.setIfInBounds_toArray, List.set_cons_zero, List.set_cons_succ]
  refine' wpAnyT_take (i := 16) (v := _) ?hiT16 (by kernel_rfl) ?hQT16 (Or.inl ⟨?hwT16, ?hyT16⟩) hS ?reT16
  case hiT16 => (simp only [List.getElem?_toArray, List.getElem?_cons_succ, List.getElem?_cons_zero]; rfl)
  case hQT16 => exact fun _ _ _ h => h
  case hwT16 => rfl
  case hyT16 => (intro wS hSw; obtain ⟨_, _⟩ := hSw; go_simp; (try with_reducible rfl))
  try simp only [Act.put, List.setIfInBounds_toArray, List.set_cons_zero, List.set_cons_succ]
  refine wpAnyT_ready (rs := [17]) (by kernel_rfl) (by simp) ?_
  refine' AllReadyT.cons ?hi17 (fun K hK => ?st17) AllReadyT.nil
  case hi17 => (simp only [List.getElem?_toArray, List.getElem?_cons_succ, List.getElem?_cons_zero]; rfl)
  go_simp
  refine C9.out.mono ?_
  rintro e w9 ⟨A9, c9, rfl, i9, hb9⟩
  have B9 := B8.trans (hb9.mono (by have := B8.size; omega))
  have r9 := r8.on hb9
  have i5b := i5.on hb9
  have u6b := u6.on hb9
  have i7b := i7.on hb9
  have v8b := v8.on hb9
  have kA9 := kA8.call hb9
  have kS9 := kS8.call hb9
  have kE9 := kE8.call hb9
  have F9 := F8.trans (.of_below hb9)
  have C10 := Lib.hid (ints_any A5 A9 pl c5 c9 PL w9 hpl'.out (by omega) i5b i9)
  clear C9 hb9 r8 i5 u6 i7 v8 kA8 kS8 kE8 F8 B8
  refine hK.out _ _ (fun _ => ⟨kA9.cell 0, trivial⟩) (fun hS => ?_)
  clear hK K
  replace hS := hS rfl
  try simp only [Act.put, List.setIfInBounds_toArray, List.set_cons_zero, List.set_cons_succ]
  refine wpAnyT_ready (rs := [18]) (by kernel_rfl) (by simp) ?_
  refine' AllReadyT.cons ?hi18 (fun K hK => ?st18) AllReadyT.nil
  case hi18 => (simp only [List.getElem?_toArray, List.getElem?_cons_succ, List.getElem?_cons_zero]; rfl)
  go_simp
  refine C10.out.mono ?_
  rintro e w10 ⟨rfl, hb10⟩
  have B10 := B9.trans (hb10.mono (by have := B9.size; omega))
  have r10 := r9.on hb10
  have i5c := i5b.on hb10
  have u6c := u6b.on hb10
  have i7c := i7b.on hb10
  have v8c := v8b.on hb10
  have kA10 := kA9.call hb10
  have kS10 := kS9.call hb10
  have kE10 := kE9.call hb10
  have F10 := F9.trans (.of_below hb10)
  have C11 := Lib.hid (ints_any A5 A7 pl c5 c7 PL w10 hpl'.out (by omega) i5c i7c)
  clear C10 hb10 r9 i5b u6b i7b i9 v8b kA9 kS9 kE9 F9 B9
  refine hK.out _ _ (fun _ => ⟨kA10.cell 0, trivial⟩) (fun hS => ?_)
  clear hK K
  replace hS := hS rfl
  try simp only [Act.put, List.setIfInBounds_toArray, List.set_cons_zero, List.set_cons_succ]
  refine' wpAnyT_take (i := 19) (v := _) ?hiT19a (by kernel_rfl) ?hQT19a (Or.inl ⟨?hwT19a, ?hyT19a⟩) hS ?reT19a
  case hiT19a => (simp only [List.getElem?_toArray, List.getElem?_cons_succ, List.getElem?_cons_zero]; rfl)
  case hQT19a => exact fun _ _ _ h => h
  case hwT19a => rfl
  case hyT19a => (intro wS hSw; obtain ⟨_, _⟩ := hSw; go_simp; (try with_reducible rfl))
  try simp only [Act.put, List.setIfInBounds_toArray, List.set_cons_zero, List.set_cons_succ]
  refine' wpAnyT_take (i := 20) (v := _) ?hiT20a (by kernel_rfl) ?hQT20a (Or.inl ⟨?hwT20a, ?hyT20a⟩) hS ?reT20a
  case hiT20a => (simp only [List.getElem?_toArray, List.getElem?_cons_succ, List.getElem?_cons_zero]; rfl)
  case hQT20a => exact fun _ _ _ h => h
  case hwT20a => rfl
  case hyT20a => (intro wS hSw; obtain ⟨_, _⟩ := hSw; go_simp; (try with_reducible rfl))
  try simp only [Act.put, List.setIfInBounds_toArray, List.set_cons_zero, List.set_cons_succ]
  refine' wpAnyT_take (i := 21) (v := _) ?hiT21a (by kernel_rfl) ?hQT21a (Or.inl ⟨?hwT21a, ?hyT21a⟩) hS ?reT21a
  case hiT21a => (simp only [List.getElem?_toArray, List.getElem?_cons_succ, List.getElem?_cons_zero]; rfl)
  case hQT21a => exact fun _ _ _ h => h
  case hwT21a => rfl
  case hyT21a => (intro wS hSw; obtain ⟨_, _⟩ := hSw; go_simp; (try with_reducible rfl))
  try simp only [Act.put, List.setIfInBounds_toArray, List.set_cons_zero, List.set_cons_succ]
  refine' wpAnyT_take (i := 22) (v := _) ?hiT22a (by kernel_rfl) ?hQT22a (Or.inl ⟨?hwT22a, ?hyT22a⟩) hS ?reT22a
  case hiT22a => (simp only [List.getElem?_toArray, List.getElem?_cons_succ, List.getElem?_cons_zero]; rfl)
  case hQT22a => exact fun _ _ _ h => h
  case hwT22a => rfl
  case hyT22a => (intro wS hSw; obtain ⟨_, _⟩ := hSw; go_simp; (try with_reducible rfl))
  try simp only [Act.put, List.setIfInBounds_toArray, List.set_cons_zero, List.set_cons_succ]
  refine' wpAnyT_take (i := 23) (v := _) ?hiT23a (by kernel_rfl) ?hQT23a (Or.inl ⟨?hwT23a, ?hyT23a⟩) hS ?reT23a
  case hiT23a => (simp only [List.getElem?_toArray, List.getElem?_cons_succ, List.getElem?_cons_zero]; rfl)
  case hQT23a => exact fun _ _ _ h => h
  case hwT23a => rfl
  case hyT23a => (intro wS hSw; obtain ⟨_, _⟩ := hSw; go_simp; (try with_reducible rfl))
  try simp only [Act.put, List.setIfInBounds_toArray, List.set_cons_zero, List.set_cons_succ]
  refine wpAnyT_ready (rs := [24]) (by kernel_rfl) (by simp) ?_
  refine' AllReadyT.cons ?hi24 (fun K hK => ?st24) AllReadyT.nil
  case hi24 => (simp only [List.getElem?_toArray, List.getElem?_cons_succ, List.getElem?_cons_zero]; rfl)
  go_simp
  refine C11.out.mono ?_
  rintro e w11 ⟨rfl, hb11⟩
  have B11 := B10.trans (hb11.mono (by have := B10.size; omega))
  have r11 := r10.on hb11
  have i5d := i5c.on hb11
  have u6d := u6c.on hb11
  have v8d := v8c.on hb11
  have kA11 := kA10.call hb11
  have kS11 := kS10.call hb11
  have kE11 := kE10.call hb11
  have F11 := F10.trans (.of_below hb11)
  have C12 := Lib.hid (C2.out _ r11)
  clear C11 hb11 r10 i5c u6c i7c v8c kA10 kS10 kE10 F10 B10
  refine hK.out _ _ (fun _ => ⟨kA11.cell 0, trivial⟩) (fun hS => ?_)
  clear hK K
  replace hS := hS rfl
  try simp only [Act.put, List.setIfInBounds_toArray, List.set_cons_zero, List.set_cons_succ]
  refine' wpAnyT_take (i := 25) (v := _) ?hiT25a (by kernel_rfl) ?hQT25a (Or.inl ⟨?hwT25a, ?hyT25a⟩) hS ?reT25a
  case hiT25a => (simp only [List.getElem?_toArray, List.getElem?_cons_succ, List.getElem?_cons_zero]; rfl)
  case hQT25a => exact fun _ _ _ h => h
  case hwT25a => rfl
  case hyT25a => (intro wS hSw; obtain ⟨_, _⟩ := hSw; go_simp; (try with_reducible rfl))
  try simp only [Act.put, List.setIfInBounds_toArray, List.set_cons_zero, List.set_cons_succ]
  refine' wpAnyT_take (i := 26) (v := _) ?hiT26a (by kernel_rfl) ?hQT26a (Or.inl ⟨?hwT26a, ?hyT26a⟩) hS ?reT26a
  case hiT26a => (simp only [List.getElem?_toArray, List.getElem?_cons_succ, List.getElem?_cons_zero]; rfl)
  case hQT26a => exact fun _ _ _ h => h
  case hwT26a => rfl
  case hyT26a => (intro wS hSw; obtain ⟨_, _⟩ := hSw; go_simp; (try with_reducible rfl))
  try simp only [Act.put, List.setIfInBounds_toArray, List.set_cons_zero, List.set_cons_succ]
  refine' wpAnyT_take (i := 27) (v := _) ?hiT27a (by kernel_rfl) ?hQT27a (Or.inl ⟨?hwT27a, ?hyT27a⟩) hS ?reT27a
  case hiT27a => (simp only [List.getElem?_toArray, List.getElem?_cons_succ, List.getElem?_cons_zero]; rfl)
  case hQT27a => exact fun _ _ _ h => h
  case hwT27a => rfl
  case hyT27a => (intro wS hSw; obtain ⟨_, _⟩ := hSw; go_simp; (try with_reducible rfl))
  try simp only [Act.put, List.setIfInBounds_toArray, List.set_cons_zero, List.set_cons_succ]
  refine' wpAnyT_take (i := 28) (v := _) ?hiT28a (by kernel_rfl) ?hQT28a (Or.inl ⟨?hwT28a, ?hyT28a⟩) hS ?reT28a
  case hiT28a => (simp only [List.getElem?_toArray, List.getElem?_cons_succ, List.getElem?_cons_zero]; rfl)
  case hQT28a => exact fun _ _ _ h => h
  case hwT28a => rfl
  case hyT28a => (intro wS hSw; obtain ⟨_, _⟩ := hSw; go_simp; (try with_reducible rfl))
  try simp only [Act.put, List.setIfInBounds_toArray, List.set_cons_zero, List.set_cons_succ]
  refine' wpAnyT_take (i := 29) (v := _) ?hiT29a (by kernel_rfl) ?hQT29a (Or.inl ⟨?hwT29a, ?hyT29a⟩) hS ?reT29a
  case hiT29a => (simp only [List.getElem?_toArray, List.getElem?_cons_succ, List.getElem?_cons_zero]; rfl)
  case hQT29a => exact fun _ _ _ h => h
  case hwT29a => rfl
  case hyT29a => (intro wS hSw; obtain ⟨_, _⟩ := hSw; go_simp; (try with_reducible rfl))
  try simp only [Act.put, List.setIfInBounds_toArray, List.set_cons_zero, List.set_cons_succ]
  refine' wpAnyT_take (i := 30) (v := _) ?hiT30a (by kernel_rfl) ?hQT30a (Or.inl ⟨?hwT30a, ?hyT30a⟩) hS ?reT30a
  case hiT30a => (simp only [List.getElem?_toArray, List.getElem?_cons_succ, List.getElem?_cons_zero]; rfl)
  case hQT30a => exact fun _ _ _ h => h
  case hwT30a => rfl
  case hyT30a => (intro wS hSw; obtain ⟨_, _⟩ := hSw; go_simp; (try with_reducible rfl))
  try simp only [Act.put, List.setIfInBounds_toArray, List.set_cons_zero, List.set_cons_succ]
  refine wpAnyT_ready (rs := [31]) (by kernel_rfl) (by simp) ?_
  refine' AllReadyT.cons ?hi31 (fun K hK => ?st31) AllReadyT.nil
  case hi31 => (simp only [List.getElem?_toArray, List.getElem?_cons_succ, List.getElem?_cons_zero]; rfl)
  go_simp
  refine C12.out.mono ?_
  rintro e w12 ⟨A12, c12, rfl, u12, m12, x12, _, hb12⟩
  have B12 := B11.trans (hb12.mono (by have := B11.size; omega))
  have i5e := i5d.on hb12
  have u6e := u6d.on hb12
  have v8e := v8d.on hb12
  have kA12 := kA11.call hb12
  have kS12 := kS11.call hb12
  have kE12 := kE11.call hb12
  have F12 := F11.trans (.of_below hb12)
  have C13 := Lib.hid (sameT_any A6 A12 rl c6 c12 RL RL w12 hrl'.out (by have := hrl'.out; unfold maxLen; omega) rfl u6e u12)
  clear C12 hb12 r11 i5d u6d v8d kA11 kS11 kE11 F11 B11
  refine hK.out _ _ (fun _ => ⟨kA12.cell 0, trivial⟩) (fun hS => ?_)
  clear hK K
  replace hS := hS rfl
  try simp only [Act.put, List.setIfInBounds_toArray, List.set_cons_zero, List.set_cons_succ]
  refine wpAnyT_ready (rs := [32]) (by kernel_rfl) (by simp) ?_
  refine' AllReadyT.cons ?hi32 (fun K hK => ?st32) AllReadyT.nil
  case hi32 => (simp only [List.getElem?_toArray, List.getElem?_cons_succ, List.getElem?_cons_zero]; rfl)
  go_simp
  refine C13.out.mono ?_
  rintro e w13 ⟨rfl, hb13⟩
  have B13 := B12.trans (hb13.mono (by have := B12.size; omega))
  have i5f := i5e.on hb13
  have u6f := u6e.on hb13
  have v8f := v8e.on hb13
  have kA13 := kA12.call hb13
  have kS13 := kS12.call hb13
  have kE13 := kE12.call hb13
  have F13 := F12.trans (.of_below hb13)
  have C14 := Lib.hid (sameT_any A6 A8 rl c6 c8 RL RL w13 hrl'.out (by have := hrl'.out; unfold maxLen; omega) rfl u6f v8f)
  clear C13 hb13 i5e u6e v8e u12 kA12 kS12 kE12 F12 B12
  refine hK.out _ _ (fun _ => ⟨kA13.cell 0, trivial⟩) (fun hS => ?_)
  clear hK K
  replace hS := hS rfl
  try simp only [Act.put, List.setIfInBounds_toArray, List.set_cons_zero, List.set_cons_succ]
  refine' wpAnyT_take (i := 33) (v := _) ?hiT33a (by kernel_rfl) ?hQT33a (Or.inl ⟨?hwT33a, ?hyT33a⟩) hS ?reT33a
  case hiT33a => (simp only [List.getElem?_toArray, List.getElem?_cons_succ, List.getElem?_cons_zero]; rfl)
  case hQT33a => exact fun _ _ _ h => h
  case hwT33a => rfl
  case hyT33a => (intro wS hSw; obtain ⟨_, _⟩ := hSw; go_simp; (try with_reducible rfl))
  try simp only [Act.put, List.setIfInBounds_toArray, List.set_cons_zero, List.set_cons_succ]
  refine' wpAnyT_take (i := 34) (v := _) ?hiT34a (by kernel_rfl) ?hQT34a (Or.inl ⟨?hwT34a, ?hyT34a⟩) hS ?reT34a
  case hiT34a => (simp only [List.getElem?_toArray, List.getElem?_cons_succ, List.getElem?_cons_zero]; rfl)
  case hQT34a => exact fun _ _ _ h => h
  case hwT34a => rfl
  case hyT34a => (intro wS hSw; obtain ⟨_, _⟩ := hSw; go_simp; (try with_reducible rfl))
  try simp only [Act.put, List.setIfInBounds_toArray, List.set_cons_zero, List.set_cons_succ]
  refine' wpAnyT_take (i := 35) (v := _) ?hiT35a (by kernel_rfl) ?hQT35a (Or.inl ⟨?hwT35a, ?hyT35a⟩) hS ?reT35a
  case hiT35a => (simp only [List.getElem?_toArray, List.getElem?_cons_succ, List.getElem?_cons_zero]; rfl)
  case hQT35a => exact fun _ _ _ h => h
  case hwT35a => rfl
  case hyT35a => (intro wS hSw; obtain ⟨_, _⟩ := hSw; go_simp; (try with_reducible rfl))
  try simp only [Act.put, List.setIfInBounds_toArray, List.set_cons_zero, List.set_cons_succ]
  refine' wpAnyT_take (i := 36) (v := _) ?hiT36a (by kernel_rfl) ?hQT36a (Or.inl ⟨?hwT36a, ?hyT36a⟩) hS ?reT36a
  case hiT36a => (simp only [List.getElem?_toArray, List.getElem?_cons_succ, List.getElem?_cons_zero]; rfl)
  case hQT36a => exact fun _ _ _ h => h
  case hwT36a => rfl
  case hyT36a => (intro wS hSw; obtain ⟨_, _⟩ := hSw; go_simp; (try with_reducible rfl))
  try simp only [Act.put, List.setIfInBounds_toArray, List.set_cons_zero, List.set_cons_succ]
  refine' wpAnyT_take (i := 37) (v := _) ?hiT37a (by kernel_rfl) ?hQT37a (Or.inl ⟨?hwT37a, ?hyT37a⟩) hS ?reT37a
  case hiT37a => (simp only [List.getElem?_toArray, List.getElem?_cons_succ, List.getElem?_cons_zero]; rfl)
  case hQT37a => exact fun _ _ _ h => h
  case hwT37a => rfl
  case hyT37a => (intro wS hSw; obtain ⟨_, _⟩ := hSw; go_simp; (try with_reducible rfl))
  try simp only [Act.put, List.setIfInBounds_toArray, List.set_cons_zero, List.set_cons_succ]
  refine wpAnyT_ready (rs := [38]) (by kernel_rfl) (by simp) ?_
  refine' AllReadyT.cons ?hi38 (fun K hK => ?st38) AllReadyT.nil
  case hi38 => (simp only [List.getElem?_toArray, List.getElem?_cons_succ, List.getElem?_cons_zero]; rfl)
  go_simp
  refine C14.out.mono ?_
  rintro e w14 ⟨rfl, hb14⟩
  have B14 := B13.trans (hb14.mono (by have := B13.size; omega))
  have i5g := i5f.on hb14
  have kA14 := kA13.call hb14
  have kS14 := kS13.call hb14
  have kE14 := kE13.call hb14
  have F14 := F13.trans (.of_below hb14)
  clear C14 hb14 i5f u6f v8f kA13 kS13 kE13 F13 B13
  refine hK.out _ _ (fun _ => ⟨kA14.cell 0, trivial⟩) (fun hS => ?_)
  clear hK K
  replace hS := hS rfl
  try simp only [Act.put, List.setIfInBounds_toArray, List.set_cons_zero, List.set_cons_succ]
  refine' wpAnyT_take (i := 39) (v := _) ?hiT39a (by kernel_rfl) ?hQT39a (Or.inl ⟨?hwT39a, ?hyT39a⟩) hS ?reT39a
  case hiT39a => (simp only [List.getElem?_toArray, List.getElem?_cons_succ, List.getElem?_cons_zero]; rfl)
  case hQT39a => exact fun _ _ _ h => h
  case hwT39a => rfl
  case hyT39a => (intro wS hSw; obtain ⟨_, _⟩ := hSw; go_simp; (try with_reducible rfl))
  try simp only [Act.put, List.setIfInBounds_toArray, List.set_cons_zero, List.set_cons_succ]
  refine' wpAnyT_take (i := 40) (v := _) ?hiT40a (by kernel_rfl) ?hQT40a (Or.inl ⟨?hwT40a, ?hyT40a⟩) hS ?reT40a
  case hiT40a => (simp only [List.getElem?_toArray, List.getElem?_cons_succ, List.getElem?_cons_zero]; rfl)
  case hQT40a => exact fun _ _ _ h => h
  case hwT40a => rfl
  case hyT40a => (intro wS hSw; obtain ⟨_, _⟩ := hSw; go_simp; (try with_reducible rfl))
  try simp only [Act.put, List.setIfInBounds_toArray, List.set_cons_zero, List.set_cons_succ]
  refine wpAnyT_done (by kernel_rfl) ?_ _
  refine noPanic_normal ?_
  go_upto_region 11 with fail
  obtain ⟨kN, hbn⟩ := newCell w14 3 (.int .i64 0)
  obtain ⟨bN, hbN⟩ : ∃ bN, w14.heap.size = bN := ⟨_, rfl⟩
  have hsN : (w14.alloc (.cells #[.int .i64 0] 3)).heap.size = bN + 1 := by rw [World.size_alloc, hbN]
  generalize w14.alloc (.cells #[.int .i64 0] 3) = w15 at *
  have B15 := B14.trans (hbn.mono (by have := B14.size; omega))
  have i15 := i5g.on hbn
  have lA := kA14.lt
  have lS := kS14.lt
  have lE := kE14.lt
  have lF := F14.size
  have kA15 := kA14.call hbn
  have kS15 := kS14.call hbn
  have kE15 := kE14.call hbn
  have F15 := F14.trans (.of_below hbn)
  have lt5 : ∀ b o, A5 = some ⟨b, o, none⟩ → PL ≠ [] → b < bN := fun b o e hne => by
    obtain ⟨b', o', e', hb', _⟩ := i5g.at_ (k := 0) (List.length_pos_iff.2 hne)
    rw [e] at e'
    cases e'
    omega
  rw [hbN] at kN
  have hseq := hsq.later F15
  have hKN : ∀ k, Kq k → k < bN := fun k h => by have := (hKq k h).2; omega
  clear hsq F14 F15 hbn i5g kA14 kS14 kE14 B14
  try rw [hbN]
  go_wp2_with fail
  refine rangeYI 18 93 (gf := 94) (lb := lb) rfl pages_enters hseq rfl (fun _ h => h.elim) (fun k h => by have := hKN k h; omega)
    (fun X pre W => (∀ k, X k → bN + 1 ≤ k) ∧ Blk W bN 3 #[.int .i64 (pre.length : Int)] ∧ (pre.length : Int) ≤ stop ∧ Far (fun k => k = bN) w15 W)
    (fun c X pre W => (∀ k, X k → bN + 1 ≤ k) ∧ c = .exit 0 ∧ Blk W bN 3 #[.int .i64 stop] ∧ stop < pl ∧ Far (fun k => k = bN) w15 W)
    (fun X pre A B h hf => ⟨h.1, hf.blk h.2.1 (by rintro (h' | h' | h' | h'); exact h'; have := h.1 _ h'; omega; omega; omega), h.2.2.1, h.2.2.2.trans' hf (fun i hi h' => by
      rcases h' with h' | h' | h' | h'
      · exact h'.elim
      · have := h.1 _ h'; omega
      · omega
      · omega)⟩)
    (fun c X pre A B h hf => ⟨h.1, h.2.1, hf.blk h.2.2.1 (by rintro (h' | h' | h' | h'); exact h'; have := h.1 _ h'; omega; omega; omega), h.2.2.2.1, h.2.2.2.2.trans' hf (fun i hi h' => by
      rcases h' with h' | h' | h' | h'
      · exact h'.elim
      · have := h.1 _ h'; omega
      · omega
      · omega)⟩)
    (fun X X' pre A h hX => ⟨fun k hk => (hX k hk).elim (h.1 k) (fun h' => by have := h.2.2.2.size; omega), h.2⟩)
    ⟨fun _ h => h.elim, kN, by show (0 : Int) ≤ stop; omega, Far.refl _ _⟩ ?assign ?body ?done ?stop
  case assign =>
    intro m l x W C hC
    simp only [List.setIfInBounds_toArray, List.set_cons_succ, List.set_cons_zero] at hC ⊢
    gi_wp2
    exact hC
  case body =>
    rintro m l X pre xa Wa W hsz hXlt ⟨hX, kN, hle, hF⟩ hpre hBa
    simp only [List.setIfInBounds_toArray, List.set_cons_succ, List.set_cons_zero]
    obtain ⟨rest, hrest⟩ := hpre
    have hlt : pre.length < pl := by rw [← hpl'.out, ← hrest]; simp
    have hget : PL.getD pre.length 0 = xa := by rw [← hrest]; simp [List.getD_eq_getElem?_getD]
    have hne : PL ≠ [] := by rw [← hrest]; simp
    have iW := hF.ri i15 (fun b o e h => by have := lt5 b o e hne; omega)
    obtain ⟨b, o, rfl, hbl, hc⟩ := iW.at_ (k := pre.length) (by rw [hpl'.out]; exact hlt)
    rw [hget] at hc
    have hsn : (pre ++ [xa]).length = pre.length + 1 := by simp
    have cN := kN.cell
    have fN := kN.frozen
    have cS := (hF.blk kS15 (by omega)).cell
    have cA := (hF.blk kA15 (by omega)).cell
    have hEl := Lib.hid hrest
    clear hget hrest hne iW lt5
    obtain ⟨q, hq⟩ : ∃ q, pre.length = q := ⟨_, rfl⟩
    rw [hq] at hlt hle hc hsn cN kN
    have hge : decide ((pl : Int) ≤ (q : Int)) = false := by simp; omega
    have hxx : (xa != xa) = false := by simp
    by_cases hqs : (q : Int) = stop
    · have hqs' : ((q : Int) == stop) = true := by simpa using hqs
      have hQ := Lib.hid hqs
      clear hqs
      gi_wp2_with fail
      exact ⟨Far.refl _ _, hX, rfl, by rw [← hQ.out]; exact kN, by have := hQ.out; omega, hF⟩
    · have hqs' : ((q : Int) == stop) = false := by simpa using hqs
      have hQ := Lib.hid hqs
      clear hqs
      gi_wp2_with fail
      have hf4 : Far (fun k => k = bN) W (W.setCell ⟨bN, 0, none⟩ (.int .i64 ((q : Int) + 1))) := Far.setCell (T := fun k => k = bN) (p := ⟨bN, 0, none⟩) (Far.refl _ _) (fun _ => rfl) _
      refine ⟨hf4.mono fun k _ h => ?_, hX, ?_, ?_, hF.trans hf4⟩
      · rintro (h' | h' | h' | h')
        · have := hKN k h'; omega
        · have := hX k h'; omega
        · omega
        · omega
      · rw [hsn]
        simpa using kN.set_ 0 (.int .i64 ((q : Int) + 1))
      · rw [hsn]; have := hQ.out; omega
  case done =>
    rintro X W hsz ⟨hX, kN, hle, hF⟩ hd
    rw [hpl'.out] at kN hle
    rcases Int.lt_or_eq_of_le hle with hq | hq
    · have hm := Lib.hid (show ((pl : Int) == min stop (pl : Int)) = true by simp; omega)
      have cN := kN.cell
      have fN := kN.frozen
      have kS5 := hF.blk kS15 (by omega)
      have kE5 := hF.blk kE15 (by omega)
      have kA5 := hF.blk kA15 (by omega)
      have cS5 := kS5.cell
      have cE5 := kE5.cell
      have cA5 := kA5.cell
      have BW := B15.trans (hF.below (by have := B15.size; omega) (fun k hk => by omega))
      rw [hsN] at hd hsz
      clear hF hX hsz hKN hseq hle hq
      have hd' := Lib.hid hd
      have hlS := Lib.hid (show s + 1 < bN by omega)
      have hws := hs
      clear hd lt5 lA lS lE lF i15 hs2 hs3 hs4 hs5 hs6 hs7 hs8 hs8d hS hst hs0 hbA hbN hp1024 hr1024 B15 kN kA5 kA15 kS15 kE15
      have hm' := hm.out
      go_wp2_with (go_at_call 39; refine (awake3_any _).mono ?_; rintro e w16 ⟨rfl, hb16⟩; have cE6 := (kE5.call hb16).cell; have fE6 := (kE5.call hb16).frozen)
      have kR := (kE5.call hb16).set_ 0 (.bool true)
      have hf1 : Far (fun k => k = s + 1) w16 (w16.setCell ⟨s + 1, 0, none⟩ (.bool true)) := Far.setCell (T := fun k => k = s + 1) (p := ⟨s + 1, 0, none⟩) (Far.refl _ _) (fun _ => rfl) _
      have hd2 := hf1.same ((Far.of_below (T := fun _ => False) hb16).same hd'.out (fun h => h)) (by have := hlS.out; omega)
      have hB2 := (BW.trans (hb16.mono (by have := BW.size; omega))).trans (hf1.below (by have := BW.size; have := hb16.size; omega) (fun k hk => by omega))
      simp only [List.set_cons_zero, List.setIfInBounds_toArray] at kR
      generalize w16.setCell ⟨s + 1, 0, none⟩ (.bool true) = w17 at *
      have hfp : Far (fun k => k = bN + 1) w17 (w17.putObj (bN + 1) (.deferred none)) := Far.putObj (T := fun k => k = bN + 1) (Far.refl _ _) (fun _ => rfl) _
      have c7 := (hfp.blk kR (by have := hlS.out; omega)).cell
      exact leave_mark (v := .bool true) hd2 (by simp [results, Try.results10, go_sem, c7]) ⟨rfl, by rw [hws]; exact hB2.trans (hfp.below (by have := hB2.size; omega) (fun k hk => by have := hlS.out; omega))⟩
    · have hm := Lib.hid (show ((pl : Int) == min stop (pl : Int)) = true by simp; omega)
      have cN := kN.cell
      have fN := kN.frozen
      have kS5 := hF.blk kS15 (by omega)
      have kE5 := hF.blk kE15 (by omega)
      have kA5 := hF.blk kA15 (by omega)
      have cS5 := kS5.cell
      have cE5 := kE5.cell
      have cA5 := kA5.cell
      have BW := B15.trans (hF.below (by have := B15.size; omega) (fun k hk => by omega))
      rw [hsN] at hd hsz
      clear hF hX hsz hKN hseq hle hq
      have hd' := Lib.hid hd
      have hlS := Lib.hid (show s + 1 < bN by omega)
      have hws := hs
      clear hd lt5 lA lS lE lF i15 hs2 hs3 hs4 hs5 hs6 hs7 hs8 hs8d hS hst hs0 hbA hbN hp1024 hr1024 B15 kN kA5 kA15 kS15 kE15
      have hm' := hm.out
      go_wp2_with (go_at_call 39; refine (awake3_any _).mono ?_; rintro e w16 ⟨rfl, hb16⟩; have cE6 := (kE5.call hb16).cell; have fE6 := (kE5.call hb16).frozen)
      have kR := (kE5.call hb16).set_ 0 (.bool true)
      have hf1 : Far (fun k => k = s + 1) w16 (w16.setCell ⟨s + 1, 0, none⟩ (.bool true)) := Far.setCell (T := fun k => k = s + 1) (p := ⟨s + 1, 0, none⟩) (Far.refl _ _) (fun _ => rfl) _
      have hd2 := hf1.same ((Far.of_below (T := fun _ => False) hb16).same hd'.out (fun h => h)) (by have := hlS.out; omega)
      have hB2 := (BW.trans (hb16.mono (by have := BW.size; omega))).trans (hf1.below (by have := BW.size; have := hb16.size; omega) (fun k hk => by omega))
      simp only [List.set_cons_zero, List.setIfInBounds_toArray] at kR
      generalize w16.setCell ⟨s + 1, 0, none⟩ (.bool true) = w17 at *
      have hfp : Far (fun k => k = bN + 1) w17 (w17.putObj (bN + 1) (.deferred none)) := Far.putObj (T := fun k => k = bN + 1) (Far.refl _ _) (fun _ => rfl) _
      have c7 := (hfp.blk kR (by have := hlS.out; omega)).cell
      exact leave_mark (v := .bool true) hd2 (by simp [results, Try.results10, go_sem, c7]) ⟨rfl, by rw [hws]; exact hB2.trans (hfp.below (by have := hB2.size; omega) (fun k hk => by have := hlS.out; omega))⟩
  case stop =>
    rintro c X pre W hsz _ ⟨hX, rfl, kN, hle, hF⟩ hd
    have hq : ¬ ((pl : Int) < stop) := by omega
    have hm := Lib.hid (show (stop == min stop (pl : Int)) = true by simp; omega)
    have cN := kN.cell
    have fN := kN.frozen
    have kS5 := hF.blk kS15 (by omega)
    have kE5 := hF.blk kE15 (by omega)
    have kA5 := hF.blk kA15 (by omega)
    have cS5 := kS5.cell
    have cE5 := kE5.cell
    have cA5 := kA5.cell
    have BW := B15.trans (hF.below (by have := B15.size; omega) (fun k hk => by omega))
    rw [hsN] at hd hsz
    clear hF hX hsz hKN hseq hle hq
    have hd' := Lib.hid hd
    have hlS := Lib.hid (show s + 1 < bN by omega)
    have hws := hs
    clear hd lt5 lA lS lE lF i15 hs2 hs3 hs4 hs5 hs6 hs7 hs8 hs8d hS hst hs0 hbA hbN hp1024 hr1024 B15 kN kA5 kA15 kS15 kE15
    have hm' := hm.out
    go_wp2_with (go_at_call 39; refine (awake3_any _).mono ?_; rintro e w16 ⟨rfl, hb16⟩; have cE6 := (kE5.call hb16).cell; have fE6 := (kE5.call hb16).frozen)
    have kR := (kE5.call hb16).set_ 0 (.bool true)
    have hf1 : Far (fun k => k = s + 1) w16 (w16.setCell ⟨s + 1, 0, none⟩ (.bool true)) := Far.setCell (T := fun k => k = s + 1) (p := ⟨s + 1, 0, none⟩) (Far.refl _ _) (fun _ => rfl) _
    have hd2 := hf1.same ((Far.of_below (T := fun _ => False) hb16).same hd'.out (fun h => h)) (by have := hlS.out; omega)
    have hB2 := (BW.trans (hb16.mono (by have := BW.size; omega))).trans (hf1.below (by have := BW.size; have := hb16.size; omega) (fun k hk => by omega))
    simp only [List.set_cons_zero, List.setIfInBounds_toArray] at kR
    generalize w16.setCell ⟨s + 1, 0, none⟩ (.bool true) = w17 at *
    have hfp : Far (fun k => k = bN + 1) w17 (w17.putObj (bN + 1) (.deferred none)) := Far.putObj (T := fun k => k = bN + 1) (Far.refl _ _) (fun _ => rfl) _
    have c7 := (hfp.blk kR (by have := hlS.out; omega)).cell
    exact leave_mark (v := .bool true) hd2 (by simp [results, Try.results10, go_sem, c7]) ⟨rfl, by rw [hws]; exact hB2.trans (hfp.below (by have := hB2.size; omega) (fun k hk => by have := hlS.out; omega))⟩
end Go.Proofs.Ytfmnlpgboolpmaa
