/- Walk: the reference's taken. -/
import Derived.Test.YtifdgabfnnkghaaVWalkZ
namespace Go.Pol
open Go Go.RowKit
theorem MarksAre.set {cs : Array Value} {f g : Nat → Bool} (h : MarksAre cs f) (k : Nat) (hk : k < 1024) (b : Bool) (hb : g k = b) (hg : ∀ j, j ≠ k → g j = f j) : MarksAre (cs.setIfInBounds k (.bool b)) g := by
  refine ⟨by simp [h.size], fun j hj => ?_⟩
  rw [Array.getElem?_setIfInBounds]
  by_cases e : k = j
  · subst e
    rw [if_pos rfl, if_pos (by rw [h.size]; exact hk), hb]
  · rw [if_neg e, h.at_ j hj, hg j (fun h => e h.symm)]
theorem MarksAre.congr {cs : Array Value} {f g : Nat → Bool} (h : MarksAre cs f) (hg : ∀ k, k < 1024 → f k = g k) : MarksAre cs g :=
  ⟨h.size, fun k hk => by rw [← hg k hk]; exact h.at_ k hk⟩
theorem MarksAre.one {cs : Array Value} {f : Nat → Bool} (h : MarksAre cs f) : cs.all (·.oneCell') = true := by
  rw [Array.all_eq_true]
  intro i hi
  have := h.at_ i (by rw [← h.size]; exact hi)
  rw [Array.getElem?_eq_getElem hi] at this
  rw [Option.some.inj this]; rfl
theorem results_cell {P : Program} {fn : Func} {a : Tmp} {t : TypeId} {tmps : Array Value} {w : World} {v : Value} {p : Addr} (h : fn.results = #[.cell a t]) (ha : tmps.getD a undef = .pointer (some p)) (hl : (loadVar t p).run P w = .ok v w) :
    (results fn tmps).run P w = .ok v w := by
  have ha' : tmps[a]?.getD undef = .pointer (some p) := by rw [← ha, Array.getD_eq_getD_getElem?]
  simp [results, h, ha', asAddr, hl]
/-- the marks after the candidate and the first blocks -/
def takenM (m0 : Nat → Bool) (bs : List B3) : Nat → Nat → Bool
  | 0 => fun _ => false
  | k + 1 => markL m0 (bs.take k)
end Go.Pol
namespace Go.Proofs.Ytifdgabfnnkghaa
open Go Go.Proofs Go.RowKit Go.Pol Go.Shelf Go.Deep

theorem zeros_are : MarksAre Try.zeroCells84 (fun _ => false) := by
  have e : Try.zeroCells84 = Array.replicate 1024 (.bool false) := by kernel_rfl
  rw [e]
  exact ⟨by simp, fun k hk => by simp [hk]⟩
theorem z84_ex : ∃ zc : Array Value, Try.zeroCells84 = zc ∧ MarksAre zc (fun _ => false) := ⟨_, rfl, zeros_are⟩
set_option maxRecDepth 100000 in
set_option maxHeartbeats 3200000 in
theorem taken_any (pg : Nat) (A : Option Addr) (n cap : Nat) (bs : List B3) (o k : Nat) (w : World) (hpg : pg ≤ 1024) (hn : bs.length = n) (hr : RT w w.heap.size A bs) (ok : okB (pg : Int) bs) (hc : insB (pg : Int) (placeB o k).1 (placeB o k).2.1 = true) :
    Calls Try.prog 59 #[.slice A n cap, bV (placeB o k)] w fun e w' => ∃ cs, e = .returned (.agg cs) ∧ MarksAre cs (markC bs o k) ∧ Below w.heap.size w w' := by
  have hn64 : n ≤ 64 := by rw [← hn]; exact ok.len
  have hci := insB_iff.1 hc
  simp only [pw_nat] at hci
  have hokp := Lib.hid (fun b hb => insB_iff.1 (ok.ins b hb))
  obtain ⟨x, hx⟩ : ∃ x, k * 2 ^ o = x := ⟨_, rfl⟩
  obtain ⟨m0, hm0⟩ : ∃ m0, markB (fun _ => false) x o = m0 := ⟨_, rfl⟩
  have hfin : Hid (takenM m0 bs (n + 1) = markC bs o k) := Lib.hid (by
    show markL m0 (bs.take n) = markC bs o k
    unfold markC; rw [List.take_of_length_le (by omega), hx, hm0])
  have hstep0 : Hid (takenM m0 bs 1 = markB (takenM m0 bs 0) x o) := Lib.hid (by simp only [takenM, List.take_zero]; rw [← hm0]; rfl)
  have hstep1 : Hid (∀ j, j < n → takenM m0 bs (j + 2) = markB (takenM m0 bs (j + 1)) (bs.getD j b0).1.toNat (bs.getD j b0).2.1.toNat) := Lib.hid (fun j hj => by
    simp only [takenM]
    rw [take_snocB bs j (by omega), markL_snoc])
  have hbv : bV (placeB o k) = .agg #[.int .i64 (x : Int), .int .i64 (o : Int), .bool false] := by rw [← hx]
  rw [hbv]
  rw [hx] at hci
  generalize markC bs o k = mC at *
  obtain ⟨s, hs⟩ : ∃ s, w.heap.size = s := ⟨_, rfl⟩
  obtain ⟨Z, hZe, hZ⟩ := z84_ex
  have hZe' := Lib.hid hZe
  obtain ⟨W0, hW0⟩ : ∃ W0, ((w.alloc (.cells #[.int .i64 (x : Int), .int .i64 (o : Int), .bool false] 44)).alloc (.cells Z 84)).alloc (.cells Z 84) = W0 := ⟨_, rfl⟩
  have hb0 : Below s w W0 := by rw [← hW0, ← hs]; exact (((Below.refl w.heap.size w).alloc (Nat.le_refl _) _).alloc (by simp) _).alloc (by simp; omega) _
  have kC : Blk W0 s 44 #[.int .i64 (x : Int), .int .i64 (o : Int), .bool false] := by rw [← hW0, ← hs]; exact ((Blk.new _ _ _).alloc _).alloc _
  have kR : Blk W0 (s + 1) 84 Z := by
    have := (Blk.new (w.alloc (.cells #[.int .i64 (x : Int), .int .i64 (o : Int), .bool false] 44)) 84 Z).alloc (.cells Z 84)
    rw [World.size_alloc, hs, hW0] at this; exact this
  have kM : Blk W0 (s + 2) 84 Z := by
    have := Blk.new ((w.alloc (.cells #[.int .i64 (x : Int), .int .i64 (o : Int), .bool false] 44)).alloc (.cells Z 84)) 84 Z
    rw [World.size_alloc, World.size_alloc, hs, hW0] at this; exact this
  have hrS : RT w s A bs := by rw [← hs]; exact hr
  have hs3 : s + 3 ≤ W0.heap.size := by rw [← hW0]; simp; omega
  have hW1 := Lib.hid hW0
  have hs' := Lib.hid hs
  have hn' := Lib.hid hn
  clear hW0 hn hr ok hc hbv hx hm0 hZe
  go_enter Try.func59, Try.ntmps59
  go_upto_region 2 with fail
  rw [hZe'.out]
  try simp only [Nat.add_assoc, Nat.reduceAdd]
  try rw [hs]
  rw [hW1.out]
  clear hW1 hs
  go_wp2_with fail
  go_loopw [6] (fun i wr => ∃ (j : Nat) (y : Int) (cs : Array Value), j ≤ n + 1 ∧ i = .int .i64 y ∧ y = (j : Int) - 1 ∧ Blk wr s 44 #[.int .i64 (x : Int), .int .i64 (o : Int), .bool false] ∧ Blk wr (s + 1) 84 Z ∧ Blk wr (s + 2) 84 cs ∧ Hid (MarksAre cs (takenM m0 bs j)) ∧ Below s w wr ∧ s + 3 ≤ wr.heap.size) (fun i _ => (n + 1 - intOf i).toNat)
  case atStart => exact ⟨0, -1, Z, by omega, rfl, by omega, kC, kR, kM, Lib.hid hZ, hb0, hs3⟩
  case round =>
    clear kC kR kM hb0 hs3
    obtain ⟨j, y, cs, hj, rfl, hy, kC, kR, kM, hM, hB, hs3⟩ := hrel
    by_cases hlt : j ≤ n
    · have hlt' : decide (y < (n : Int)) = true := by rw [decide_eq_true_eq]; omega
      have hba := (Below.refl wr.heap.size wr).alloc (Nat.le_refl _) (.cells #[.int .i64 (x : Int), .int .i64 (o : Int), .bool false] 44)
      have kT := Blk.new wr 44 #[.int .i64 (x : Int), .int .i64 (o : Int), .bool false]
      have cC := kC.cell
      obtain ⟨bT, hbT⟩ : ∃ bT, wr.heap.size = bT := ⟨_, rfl⟩
      rw [hbT] at kT
      cases j with
      | zero =>
        have hy0 : decide (0 ≤ y) = false := by rw [decide_eq_false_iff_not]; omega
        obtain rfl : y = -1 := by omega
        clear hy
        go_upto_region 8 with fail
        have hnx : Hid (takenM m0 bs (0 + 1) = markB (takenM m0 bs 0) x o) := hstep0
        have hoa : o ≤ 10 := by omega
        have hfit : Hid (x + 2 ^ o ≤ 1024) := Lib.hid (by omega)
        have kX := Blk.new wr 44 #[.int .i64 (x : Int), .int .i64 (o : Int), .bool false]
        rw [hbT] at kX
        have kR2 := kR.alloc (.cells #[.int .i64 (x : Int), .int .i64 (o : Int), .bool false] 44)
        have kM2 := kM.alloc (.cells #[.int .i64 (x : Int), .int .i64 (o : Int), .bool false] 44)
        have kC2 := kC.alloc (.cells #[.int .i64 (x : Int), .int .i64 (o : Int), .bool false] 44)
        have hB2 := hB.alloc (by omega) (.cells #[.int .i64 (x : Int), .int .i64 (o : Int), .bool false] 44)
        have hs2 : bT + 1 ≤ (wr.alloc (.cells #[.int .i64 (x : Int), .int .i64 (o : Int), .bool false] 44)).heap.size := by rw [World.size_alloc]; omega
        have hbs : s + 3 ≤ bT := by omega
        have cX := kX.cell
        have HS := Lib.hid (fun W => refSize_any (o : Int) W ⟨by omega, by omega⟩)
        rw [pw_nat] at HS
        have hmk : Hid (∀ q, takenM m0 bs (0 + 1) q = (takenM m0 bs 0 q || (decide (x ≤ q) && decide (q < x + 2 ^ o)))) := Lib.hid (fun q => by rw [hnx.out]; rfl)
        obtain ⟨sz, hsz⟩ : ∃ sz, 2 ^ o = sz := ⟨_, rfl⟩
        rw [hsz] at HS hfit hmk
        have hfit' := hfit.out
        clear kC kR kM hB hbT kT hba cC hnx hsz
        generalize wr.alloc (.cells #[.int .i64 (x : Int), .int .i64 (o : Int), .bool false] 44) = w2 at *
        go_wp2_with fail
        go_loopw [8] (fun i wr3 => ∃ (p : Nat) (ds : Array Value), x ≤ p ∧ p ≤ x + sz ∧ i = .int .i64 p ∧ Blk wr3 s 44 #[.int .i64 (x : Int), .int .i64 (o : Int), .bool false] ∧ Blk wr3 (s + 1) 84 Z ∧ Blk wr3 (s + 2) 84 ds ∧ Blk wr3 bT 44 #[.int .i64 (x : Int), .int .i64 (o : Int), .bool false] ∧ Hid (MarksAre ds (fun q => takenM m0 bs 0 q || (decide (x ≤ q) && decide (q < p)))) ∧ Below s w wr3 ∧ bT + 1 ≤ wr3.heap.size) (fun i _ => x + sz - (intOf i).toNat)
        case atStart => exact ⟨x, cs, by omega, by omega, rfl, kC2, kR2, kM2, kX, Lib.hid (hM.out.congr (fun q _ => by
          have : (decide (x ≤ q) && decide (q < x)) = false := by
            by_cases h : x ≤ q
            · rw [decide_eq_false (show ¬ q < x by omega)]; simp
            · rw [decide_eq_false h]; simp
          rw [this, Bool.or_false])), hB2, hs2⟩
        case round =>
          clear kC2 kR2 kM2 kX hM hB2 hs2 cX
          obtain ⟨p, ds, hp1, hp2, rfl, kC3, kR3, kM3, kX3, hM3, hB3, hs3⟩ := hrel
          have q1 := fun z : Ext wr => (z.blk kX3).cell
          have G := Lib.hid (fun z : Ext wr => Ext.call (x := z) ((HS.out z.w).mono (fun e w' h => ⟨h.1, by rw [h.2]; exact Below.refl _ _⟩)))
          by_cases hp : p < x + sz
          · have hp' : decide ((p : Int) < (x : Int) + (sz : Int)) = true := by rw [decide_eq_true_eq]; omega
            have hp3 : decide (p < x + sz) = true := by simpa using hp
            have hmm := Lib.hid (hM3.out.set (g := fun q => takenM m0 bs 0 q || (decide (x ≤ q) && decide (q < p + 1))) p (by omega) true (by
              simp only [decide_eq_true hp1, decide_eq_true (show p < p + 1 by omega), Bool.and_true, Bool.or_true]) (fun q hq => by
              have : decide (q < p + 1) = decide (q < p) := by
                by_cases h : q < p
                · rw [decide_eq_true h, decide_eq_true (by omega)]
                · rw [decide_eq_false h, decide_eq_false (by omega)]
              simp only [this]))
            have hold := hM3.out.at_ p (by omega)
            generalize (takenM m0 bs 0 p || (decide (x ≤ p) && decide (p < p))) = B0 at hold
            go_upto_region 9 with fail
            refine region_ext (by kernel_rfl) (by kernel_rfl) ?_
            repeat (go_big_quiet_step ((go_at_call 22; exact G.out _)))
            refine wpQuiet_nil ?_
            rintro w5 ⟨⟨_, hw5⟩, rfl⟩
            have kC5 := kC3.call hw5
            have kR5 := kR3.call hw5
            have kM5 := kM3.call hw5
            have kX5 := kX3.call hw5
            have hB5 := hB3.trans (hw5.mono (by omega))
            have hs5 := hw5.size
            have fM5 := kM5.frozen
            have cM5 : w5.cell? ⟨s + 2, p, none⟩ = some (.bool B0) := (kM5.cell _).trans hold
            have hf4 : Far (fun k => k = s + 2) w5 (w5.setCell ⟨s + 2, p, none⟩ (.bool true)) := Far.setCell (T := fun k => k = s + 2) (p := ⟨s + 2, p, none⟩) (Far.refl _ _) (fun _ => rfl) _
            clear q1 G hM3 hold
            go_wp2_with fail
            go_roundw
            case rel => exact ⟨p + 1, _, by omega, by omega, by go_num, hf4.blk kC5 (by omega), hf4.blk kR5 (by omega), kM5.set_ _ _, hf4.blk kX5 (by omega), hmm, hB5.setCell (p := ⟨s + 2, p, none⟩) (by simp) _, by have := hf4.size; omega⟩
            case measure => simp [intOf]; omega
          · obtain rfl : p = x + sz := by omega
            have hp' : decide (((x + sz : Nat) : Int) < (x : Int) + (sz : Int)) = false := by simp
            have hp3 : decide ((x : Int) + (sz : Int) < (x : Int) + (sz : Int)) = false := by simp
            have hM4 : Hid (MarksAre ds (takenM m0 bs (0 + 1))) := Lib.hid (hM3.out.congr (fun q _ => (hmk.out q).symm))
            go_upto_region 9 with fail
            refine region_ext (by kernel_rfl) (by kernel_rfl) ?_
            repeat (go_big_quiet_step ((go_at_call 22; exact G.out _)))
            refine wpQuiet_nil ?_
            rintro w5 ⟨⟨_, hw5⟩, rfl⟩
            have kC5 := kC3.call hw5
            have kR5 := kR3.call hw5
            have kM5 := kM3.call hw5
            have hB5 := hB3.trans (hw5.mono (by omega))
            have hs5 := hw5.size
            clear q1 G hM3
            go_wp2_with fail
            go_roundw
            case rel => exact ⟨0 + 1, _, ds, by omega, rfl, by omega, kC5, kR5, kM5, hM4, hB5, by omega⟩
            case measure => simp [intOf]; omega
      | succ j =>
        have hy0 : decide (0 ≤ y) = true := by rw [decide_eq_true_eq]; omega
        obtain rfl : y = (j : Int) := by omega
        clear hy
        obtain ⟨b, ob, rfl, hbl, d1, d2, d3⟩ := (hrS.below (hB.trans (hba.mono (by omega)))).at_ (k := j) (by have := hn'.out; omega)
        have hob := hokp.out _ (memD (cs := bs) (k := j) (by have := hn'.out; omega))
        have hst := Lib.hid (hstep1.out j (by omega))
        generalize bs.getD j b0 = z at *
        obtain ⟨za, zo, zc⟩ := z
        simp only at d1 d2 d3 hob hst
        have cT := kT.cell
        have fT := kT.frozen
        go_upto_region 8 with fail
        obtain ⟨xa, rfl⟩ := Int.eq_ofNat_of_zero_le hob.2.1
        obtain ⟨oa, rfl⟩ := Int.eq_ofNat_of_zero_le hob.1.1
        simp only [pw_nat, Int.toNat_natCast] at hob hst
        have hnx : Hid (takenM m0 bs (j + 1 + 1) = markB (takenM m0 bs (j + 1)) xa oa) := hst
        have hoa : oa ≤ 10 := by omega
        have hfit : Hid (xa + 2 ^ oa ≤ 1024) := Lib.hid (by omega)
        clear cT fT d1 d2 d3 hob
        have kX := Blk.new wr 44 #[.int .i64 (xa : Int), .int .i64 (oa : Int), .bool zc]
        rw [hbT] at kX
        have kR2 := kR.alloc (.cells #[.int .i64 (xa : Int), .int .i64 (oa : Int), .bool zc] 44)
        have kM2 := kM.alloc (.cells #[.int .i64 (xa : Int), .int .i64 (oa : Int), .bool zc] 44)
        have kC2 := kC.alloc (.cells #[.int .i64 (xa : Int), .int .i64 (oa : Int), .bool zc] 44)
        have hB2 := hB.alloc (by omega) (.cells #[.int .i64 (xa : Int), .int .i64 (oa : Int), .bool zc] 44)
        have hs2 : bT + 1 ≤ (wr.alloc (.cells #[.int .i64 (xa : Int), .int .i64 (oa : Int), .bool zc] 44)).heap.size := by rw [World.size_alloc]; omega
        have hbs : s + 3 ≤ bT := by omega
        have cX := kX.cell
        have HS := Lib.hid (fun W => refSize_any (oa : Int) W ⟨by omega, by omega⟩)
        rw [pw_nat] at HS
        have hmk : Hid (∀ q, takenM m0 bs ((j + 1) + 1) q = (takenM m0 bs (j + 1) q || (decide (xa ≤ q) && decide (q < xa + 2 ^ oa)))) := Lib.hid (fun q => by rw [hnx.out]; rfl)
        obtain ⟨sz, hsz⟩ : ∃ sz, 2 ^ oa = sz := ⟨_, rfl⟩
        rw [hsz] at HS hfit hmk
        have hfit' := hfit.out
        clear kC kR kM hB hbT kT hba cC hnx hsz
        generalize wr.alloc (.cells #[.int .i64 (xa : Int), .int .i64 (oa : Int), .bool zc] 44) = w2 at *
        go_wp2_with fail
        go_loopw [8] (fun i wr3 => ∃ (p : Nat) (ds : Array Value), xa ≤ p ∧ p ≤ xa + sz ∧ i = .int .i64 p ∧ Blk wr3 s 44 #[.int .i64 (x : Int), .int .i64 (o : Int), .bool false] ∧ Blk wr3 (s + 1) 84 Z ∧ Blk wr3 (s + 2) 84 ds ∧ Blk wr3 bT 44 #[.int .i64 (xa : Int), .int .i64 (oa : Int), .bool zc] ∧ Hid (MarksAre ds (fun q => takenM m0 bs (j + 1) q || (decide (xa ≤ q) && decide (q < p)))) ∧ Below s w wr3 ∧ bT + 1 ≤ wr3.heap.size) (fun i _ => xa + sz - (intOf i).toNat)
        case atStart => exact ⟨xa, cs, by omega, by omega, rfl, kC2, kR2, kM2, kX, Lib.hid (hM.out.congr (fun q _ => by
          have : (decide (xa ≤ q) && decide (q < xa)) = false := by
            by_cases h : xa ≤ q
            · rw [decide_eq_false (show ¬ q < xa by omega)]; simp
            · rw [decide_eq_false h]; simp
          rw [this, Bool.or_false])), hB2, hs2⟩
        case round =>
          clear kC2 kR2 kM2 kX hM hB2 hs2 cX
          obtain ⟨p, ds, hp1, hp2, rfl, kC3, kR3, kM3, kX3, hM3, hB3, hs3⟩ := hrel
          have q1 := fun z : Ext wr => (z.blk kX3).cell
          have G := Lib.hid (fun z : Ext wr => Ext.call (x := z) ((HS.out z.w).mono (fun e w' h => ⟨h.1, by rw [h.2]; exact Below.refl _ _⟩)))
          by_cases hp : p < xa + sz
          · have hp' : decide ((p : Int) < (xa : Int) + (sz : Int)) = true := by rw [decide_eq_true_eq]; omega
            have hp3 : decide (p < xa + sz) = true := by simpa using hp
            have hmm := Lib.hid (hM3.out.set (g := fun q => takenM m0 bs (j + 1) q || (decide (xa ≤ q) && decide (q < p + 1))) p (by omega) true (by
              simp only [decide_eq_true hp1, decide_eq_true (show p < p + 1 by omega), Bool.and_true, Bool.or_true]) (fun q hq => by
              have : decide (q < p + 1) = decide (q < p) := by
                by_cases h : q < p
                · rw [decide_eq_true h, decide_eq_true (by omega)]
                · rw [decide_eq_false h, decide_eq_false (by omega)]
              simp only [this]))
            have hold := hM3.out.at_ p (by omega)
            generalize (takenM m0 bs (j + 1) p || (decide (xa ≤ p) && decide (p < p))) = B0 at hold
            go_upto_region 9 with fail
            refine region_ext (by kernel_rfl) (by kernel_rfl) ?_
            repeat (go_big_quiet_step ((go_at_call 22; exact G.out _)))
            refine wpQuiet_nil ?_
            rintro w5 ⟨⟨_, hw5⟩, rfl⟩
            have kC5 := kC3.call hw5
            have kR5 := kR3.call hw5
            have kM5 := kM3.call hw5
            have kX5 := kX3.call hw5
            have hB5 := hB3.trans (hw5.mono (by omega))
            have hs5 := hw5.size
            have fM5 := kM5.frozen
            have cM5 : w5.cell? ⟨s + 2, p, none⟩ = some (.bool B0) := (kM5.cell _).trans hold
            have hf4 : Far (fun k => k = s + 2) w5 (w5.setCell ⟨s + 2, p, none⟩ (.bool true)) := Far.setCell (T := fun k => k = s + 2) (p := ⟨s + 2, p, none⟩) (Far.refl _ _) (fun _ => rfl) _
            clear q1 G hM3 hold
            go_wp2_with fail
            go_roundw
            case rel => exact ⟨p + 1, _, by omega, by omega, by go_num, hf4.blk kC5 (by omega), hf4.blk kR5 (by omega), kM5.set_ _ _, hf4.blk kX5 (by omega), hmm, hB5.setCell (p := ⟨s + 2, p, none⟩) (by simp) _, by have := hf4.size; omega⟩
            case measure => simp [intOf]; omega
          · obtain rfl : p = xa + sz := by omega
            have hp' : decide (((xa + sz : Nat) : Int) < (xa : Int) + (sz : Int)) = false := by simp
            have hp3 : decide ((xa : Int) + (sz : Int) < (xa : Int) + (sz : Int)) = false := by simp
            have hM4 : Hid (MarksAre ds (takenM m0 bs ((j + 1) + 1))) := Lib.hid (hM3.out.congr (fun q _ => (hmk.out q).symm))
            go_upto_region 9 with fail
            refine region_ext (by kernel_rfl) (by kernel_rfl) ?_
            repeat (go_big_quiet_step ((go_at_call 22; exact G.out _)))
            refine wpQuiet_nil ?_
            rintro w5 ⟨⟨_, hw5⟩, rfl⟩
            have kC5 := kC3.call hw5
            have kR5 := kR3.call hw5
            have kM5 := kM3.call hw5
            have hB5 := hB3.trans (hw5.mono (by omega))
            have hs5 := hw5.size
            clear q1 G hM3
            go_wp2_with fail
            go_roundw
            case rel => exact ⟨(j + 1) + 1, _, ds, by omega, rfl, by omega, kC5, kR5, kM5, hM4, hB5, by omega⟩
            case measure => simp [intOf]; omega
    · obtain rfl : j = n + 1 := by omega
      have hlt' : decide (y < (n : Int)) = false := by rw [decide_eq_false_iff_not]; omega
      obtain rfl : y = (n : Int) := by omega
      clear hy
      have hMf : Hid (MarksAre cs mC) := Lib.hid (by rw [← hfin.out]; exact hM.out)
      have hinfo : (Try.prog.info? 84).map (·.size) = some cs.size := by rw [hM.out.size]; exact info1024
      have hlen : (Try.prog.info? 84).map (·.size) = some cs.toList.length := by rw [Array.length_toList]; exact hinfo
      have hzs : Z.size = cs.size := by rw [hZ.size, hM.out.size]
      have hone := MarksAre.one hM.out
      have hnew : wr.heap[s + 1]? = some (.cells Z 84 (0, 0)) := kR
      have hF := Lib.hid (⟨hinfo, hlen, hzs, hone, hnew⟩ : _ ∧ _ ∧ _ ∧ _ ∧ _)
      clear hinfo hlen hzs hone hnew hM
      go_wp2_with (first
        | (refine wpList_load_mid rfl 84 (.tmp 5) rfl (s + 2) 0 rfl cs.toList _ (rangeAt_blk kM) Try.underlying84 rfl hF.out.2.1 ?_; rw [Array.toArray_toList])
        | (refine wpList_store_row rfl 84 (.tmp 4) (.tmp 36) rfl (s + 1) cs rfl rfl 84 Z hF.out.2.2.2.2 hF.out.1 hF.out.2.2.1 hF.out.2.2.2.1 ?_))
      have k9 : Blk (wr.setRow (s + 1) cs) (s + 1) 84 cs := setRow_heap _ _ Z cs 84 (0, 0) hF.out.2.2.2.2
      have hB9 : Below s w (wr.setRow (s + 1) cs) := ⟨hB.os, hB.tape, hB.output, by simp [World.setRow]; exact hB.size, fun q hq => by rw [setRow_other _ _ _ _ (by omega)]; exact hB.block q hq⟩
      generalize wr.setRow (s + 1) cs = w9 at *
      have hld := run_loadVar_mid (P := Try.prog) w9 (s + 1) 0 84 cs.toList _ (rangeAt_blk k9) Try.underlying84 rfl hF.out.2.1
      rw [Array.toArray_toList] at hld
      exact bodyPost_ret (v := .agg cs) (results_cell rfl rfl hld) rfl ⟨cs, rfl, hMf.out, by rw [hs'.out]; exact hB9⟩
end Go.Proofs.Ytifdgabfnnkghaa
