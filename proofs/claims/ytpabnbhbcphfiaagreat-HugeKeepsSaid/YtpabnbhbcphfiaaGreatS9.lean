/- Merged texts. Walks of layer 13: slices.swapRangeCmpFunc of groups. Walks of layer 13: slices.rotateCmpFunc of groups. Walks of layer 13: slices.symMergeCmpFunc of groups, where the first run is one element. Walks of layer 13: slices.symMergeCmpFunc of groups, where the second run is one element. Plain law of a stable merge in place: what the two halves of a step begin with. Plain law of the stable sort: blocks are sorted, then merged two by two. Walks of layer 13: slices.insertionSortCmpFunc of groups, of a piece of a list. -/
import Derived.Test.YtpabnbhbcphfiaaGreatS8
namespace Go.Pol
open Go Go.RowKit
section
variable {P : Program} {ops : Array Oper} {Q : Exit → Act → World → Prop} {md : Region.Mode} {S : World → Prop} {tl : List Nat}
/-- operations that need nothing may be taken ahead: the condition on the world is asked from here on -/
theorem wpAnyT_weak : ∀ (fuel : Nat) (listed : Array Bool) (a : Act) (w : World), wpAnyT P md ops Q S tl fuel listed a w → wpAnyT P md ops Q (fun _ => True) [] fuel listed a w
  | 0, _, _, _, h => h
  | fuel + 1, _, _, _, h => ⟨h.1, fun i hi => wpOp_mono (fun a' w' h' => ⟨fun _ => trivial, wpAnyT_weak fuel _ a' w' h'.2⟩) (h.2 i hi)⟩
end
/-- the cells of two elements of a row -/
def SwS (g p q : Nat) (x y : Gp) (W : World) : Prop := (W.cell? ⟨g, p * 4, none⟩ = some (.int .i64 x.1) ∧ W.cell? ⟨g, p * 4 + 1, none⟩ = some (.int .i64 x.2.1) ∧ W.cell? ⟨g, p * 4 + 2, none⟩ = some (.int .i64 x.2.2.1) ∧ W.cell? ⟨g, p * 4 + 3, none⟩ = some (.bool x.2.2.2)) ∧
  W.cell? ⟨g, q * 4, none⟩ = some (.int .i64 y.1) ∧ W.cell? ⟨g, q * 4 + 1, none⟩ = some (.int .i64 y.2.1) ∧ W.cell? ⟨g, q * 4 + 2, none⟩ = some (.int .i64 y.2.2.1) ∧ W.cell? ⟨g, q * 4 + 3, none⟩ = some (.bool y.2.2.2)
/-- the cells of a block begin with a list of groups -/
structure RowG (cs : Array Value) (l : List Gp) : Prop where
  big : l.length * 4 ≤ cs.size
  at_ : ∀ k, k < l.length → cs[k * 4]? = some (.int .i64 (l.getD k gp0).1) ∧ cs[k * 4 + 1]? = some (.int .i64 (l.getD k gp0).2.1) ∧ cs[k * 4 + 2]? = some (.int .i64 (l.getD k gp0).2.2.1) ∧ cs[k * 4 + 3]? = some (.bool (l.getD k gp0).2.2.2)
def put4 (cs : Array Value) (p : Nat) (y : Gp) : Array Value := (((cs.setIfInBounds (p * 4) (.int .i64 y.1)).setIfInBounds (p * 4 + 1) (.int .i64 y.2.1)).setIfInBounds (p * 4 + 2) (.int .i64 y.2.2.1)).setIfInBounds (p * 4 + 3) (.bool y.2.2.2)
theorem put4_size (cs : Array Value) (p : Nat) (y : Gp) : (put4 cs p y).size = cs.size := by simp [put4]
theorem RowG.put {cs : Array Value} {l : List Gp} (h : RowG cs l) {p : Nat} (hp : p < l.length) (y : Gp) : RowG (put4 cs p y) (l.set p y) := by
  have hb := h.big
  refine ⟨by rw [put4_size, List.length_set]; exact hb, fun k hk => ?_⟩
  rw [List.length_set] at hk
  unfold put4
  simp only [Array.getElem?_setIfInBounds, Array.size_setIfInBounds]
  by_cases e : p = k
  · subst e
    have hg : (l.set p y).getD p gp0 = y := by simp [List.getD_eq_getElem?_getD, hp]
    rw [hg]
    refine ⟨?_, ?_, ?_, ?_⟩
    · rw [if_neg (by omega), if_neg (by omega), if_neg (by omega), if_pos rfl, if_pos (by omega)]
    · rw [if_neg (by omega), if_neg (by omega), if_pos rfl, if_pos (by omega)]
    · rw [if_neg (by omega), if_pos rfl, if_pos (by omega)]
    · rw [if_pos rfl, if_pos (by omega)]
  · have hg : (l.set p y).getD k gp0 = l.getD k gp0 := by simp [List.getD_eq_getElem?_getD, e]
    rw [hg]
    obtain ⟨h0, h1, h2, h3⟩ := h.at_ k hk
    refine ⟨?_, ?_, ?_, ?_⟩
    · rw [if_neg (by omega), if_neg (by omega), if_neg (by omega), if_neg (by omega)]; exact h0
    · rw [if_neg (by omega), if_neg (by omega), if_neg (by omega), if_neg (by omega)]; exact h1
    · rw [if_neg (by omega), if_neg (by omega), if_neg (by omega), if_neg (by omega)]; exact h2
    · rw [if_neg (by omega), if_neg (by omega), if_neg (by omega), if_neg (by omega)]; exact h3
/-- a world with an element of a row put anew -/
def putW (W : World) (g p : Nat) (y : Gp) : World := (((W.setCell ⟨g, p * 4, none⟩ (.int .i64 y.1)).setCell ⟨g, p * 4 + 1, none⟩ (.int .i64 y.2.1)).setCell ⟨g, p * 4 + 2, none⟩ (.int .i64 y.2.2.1)).setCell ⟨g, p * 4 + 3, none⟩ (.bool y.2.2.2)
theorem putW_blk {W : World} {g : Nat} {t : TypeId} {cs : Array Value} (h : Blk W g t cs) (p : Nat) (y : Gp) : Blk (putW W g p y) g t (put4 cs p y) :=
  (((h.set_ (p * 4) _).set_ (p * 4 + 1) _).set_ (p * 4 + 2) _).set_ (p * 4 + 3) _
theorem putW_far (W : World) (g p : Nat) (y : Gp) : Far (fun k => k = g) W (putW W g p y) :=
  Far.setCell (T := fun k => k = g) (p := ⟨g, p * 4 + 3, none⟩) (Far.setCell (T := fun k => k = g) (p := ⟨g, p * 4 + 2, none⟩) (Far.setCell (T := fun k => k = g) (p := ⟨g, p * 4 + 1, none⟩) (Far.setCell (T := fun k => k = g) (p := ⟨g, p * 4, none⟩) (Far.refl _ _) (fun _ => rfl) _) (fun _ => rfl) _) (fun _ => rfl) _) (fun _ => rfl) _
theorem RowG.sw {W : World} {g : Nat} {t : TypeId} {cs : Array Value} {l : List Gp} (h : RowG cs l) (hb : Blk W g t cs) {p q : Nat} (hp : p < l.length) (hq : q < l.length) : SwS g p q (l.getD p gp0) (l.getD q gp0) W := by
  obtain ⟨a0, a1, a2, a3⟩ := h.at_ p hp
  obtain ⟨b0, b1, b2, b3⟩ := h.at_ q hq
  unfold SwS
  simp only [hb.cell]
  exact ⟨⟨a0, a1, a2, a3⟩, b0, b1, b2, b3⟩
/-- a block whose cells begin with a list of groups -/
def RowB (w : World) (g : Nat) (t : TypeId) (sz : Nat) (l : List Gp) : Prop := ∃ cs, Blk w g t cs ∧ cs.size = sz ∧ RowG cs l
theorem RowB.drew {w : World} {g : Nat} {t : TypeId} {sz : Nat} {l : List Gp} (h : RowB w g t sz l) : RowB w.drew g t sz l := by
  obtain ⟨cs, h1, h2, h3⟩ := h
  exact ⟨cs, h1.drew, h2, h3⟩
theorem RowB.call {w w' : World} {g : Nat} {t : TypeId} {sz : Nat} {l : List Gp} (h : RowB w g t sz l) (hb : Below w.heap.size w w') : RowB w' g t sz l := by
  obtain ⟨cs, h1, h2, h3⟩ := h
  exact ⟨cs, h1.call hb, h2, h3⟩
end Go.Pol
namespace Go.Proofs.YtpabnbhbcphfiaaGreat
open Go Go.Proofs Go.RowKit Go.Pol Go.Shelf
attribute [local go_sem] Oper.semAt_some Go.Pol.wide_fn Go.Pol.wide_depth Go.Pol.wide_fn' Go.Pol.wide_depth'

set_option maxRecDepth 100000 in
set_option maxHeartbeats 1600000 in
theorem swapRange_any (g n cap a b m : Nat) (t : TypeId) (sz : Nat) (l : List Gp) (w : World) (hr : RowB w g t sz l) (hn : l.length = n) (ha : a + m ≤ b) (hb : b + m ≤ n) (hn64 : n ≤ 1000) :
    Calls Tryz.prog 268 #[.slice (some ⟨g, 0, none⟩) n cap, .int .i64 a, .int .i64 b, .int .i64 m, .func (.func 110) #[] #[]] w fun e w' => e = .returned (.tuple #[]) ∧
      RowB w' g t sz (swpL a b m l) ∧ Far (fun k => k = g) w w' := by
  obtain ⟨cs, hk, hcs, hl⟩ := hr
  have hn' := Lib.hid hn
  go_enter Tryz.func268, Tryz.ntmps268
  go_wp2_with fail
  go_loopw [10] (fun i wr => ∃ (k : Nat) (ds : Array Value), k ≤ m ∧ i = .int .i64 k ∧ Blk wr g t ds ∧ Hid (ds.size = sz) ∧ Hid (RowG ds (swpL a b k l)) ∧ Far (fun k => k = g) w wr) (fun i _ => m - (intOf i).toNat)
  case atStart => exact ⟨0, cs, by omega, rfl, hk, Lib.hid hcs, Lib.hid hl, Far.refl _ _⟩
  case round =>
    clear hk hl hn hcs
    obtain ⟨k, ds, hkm, rfl, hkd, hsz, hRd, hF⟩ := hrel
    by_cases hlt : k < m
    · have hlt' : decide ((k : Int) < (m : Int)) = true := by simpa using hlt
      obtain ⟨p, hp⟩ : ∃ p, a + k = p := ⟨_, rfl⟩
      obtain ⟨q, hq⟩ : ∃ q, b + k = q := ⟨_, rfl⟩
      have hpa : IntKind.i64.wrap ((a : Int) + (k : Int)) = (p : Int) := by rw [IntKind.wrap_i64]; omega
      have hqa : IntKind.i64.wrap ((b : Int) + (k : Int)) = (q : Int) := by rw [IntKind.wrap_i64]; omega
      have hpn : (p : Int) < (n : Int) := by omega
      have hqn : (q : Int) < (n : Int) := by omega
      have hpn2 : p < n := by omega
      have hqn2 : q < n := by omega
      have hlen := swpL_len a b k l
      rw [hn'.out] at hlen
      have hnext := Lib.hid (show swpL a b (k + 1) l = ((swpL a b k l).set p ((swpL a b k l).getD q gp0)).set q ((swpL a b k l).getD p gp0) by rw [swpL, hp, hq, sw])
      have hS0 := hRd.out.sw hkd (p := p) (q := q) (by omega) (by omega)
      generalize swpL a b k l = lk at *
      have hput := hRd.out.put (p := p) (by omega) (lk.getD q gp0)
      have hput2 := Lib.hid (hput.put (p := q) (by rw [List.length_set]; omega) (lk.getD p gp0))
      rw [← hnext.out] at hput2
      have hput' := Lib.hid hput
      clear hput hnext hRd
      generalize hX : lk.getD p gp0 = x at *
      generalize hY : lk.getD q gp0 = y at *
      go_upto_region 3 with fail
      refine wp_noPanic ?_
      refine wp_region_T (fun _ => True) [] (by kernel_rfl) ?_
      have hS : SwS g p q x y wr.drew := hS0
      have kd := hkd.drew
      have hFd := hF.drew
      generalize wr.drew = w1 at *
      obtain ⟨xn, xc, xl, xh⟩ := x
      obtain ⟨yn, yc, yl, yh⟩ := y
      clear hS0 hkd hF hX hY
      refine' wpAnyT_take (i := 0) (v := _) ?hiT0 (by kernel_rfl) ?hQT0 (Or.inl ⟨?hwT0, ?hyT0⟩) trivial ?reT0
      case hiT0 => (simp only [List.getElem?_toArray, List.getElem?_cons_zero]; rfl)
      case hQT0 => exact fun _ _ _ h => h
      case hwT0 => rfl
      case hyT0 => (intro wS hSw; go_simp; (try with_reducible rfl))
      try simp only [Act.put, List.setIfInBounds_toArray, List.set_cons_zero, List.set_cons_succ]
      refine' wpAnyT_take (i := 1) (v := _) ?hiT1 (by kernel_rfl) ?hQT1 (Or.inl ⟨?hwT1, ?hyT1⟩) trivial ?reT1
      case hiT1 => (simp only [List.getElem?_toArray, List.getElem?_cons_succ, List.getElem?_cons_zero]; rfl)
      case hQT1 => exact fun _ _ _ h => h
      case hwT1 => rfl
      case hyT1 => (intro wS hSw; go_simp; (try with_reducible rfl))
      try simp only [Act.put, List.setIfInBounds_toArray, List.set_cons_zero, List.set_cons_succ]
      refine' wpAnyT_take (i := 2) (v := _) ?hiT2 (by kernel_rfl) ?hQT2 (Or.inl ⟨?hwT2, ?hyT2⟩) trivial ?reT2
      case hiT2 => (simp only [List.getElem?_toArray, List.getElem?_cons_succ, List.getElem?_cons_zero]; rfl)
      case hQT2 => exact fun _ _ _ h => h
      case hwT2 => rfl
      case hyT2 => (intro wS hSw; go_simp; (try with_reducible rfl))
      try simp only [Act.put, List.setIfInBounds_toArray, List.set_cons_zero, List.set_cons_succ]
      refine' wpAnyT_take (i := 3) (v := _) ?hiT3 (by kernel_rfl) ?hQT3 (Or.inl ⟨?hwT3, ?hyT3⟩) trivial ?reT3
      case hiT3 => (simp only [List.getElem?_toArray, List.getElem?_cons_succ, List.getElem?_cons_zero]; rfl)
      case hQT3 => exact fun _ _ _ h => h
      case hwT3 => rfl
      case hyT3 => (intro wS hSw; go_simp; (try with_reducible rfl))
      try simp only [Act.put, List.setIfInBounds_toArray, List.set_cons_zero, List.set_cons_succ]
      refine' wpAnyT_take (i := 4) (v := _) ?hiT4 (by kernel_rfl) ?hQT4 (Or.inl ⟨?hwT4, ?hyT4⟩) trivial ?reT4
      case hiT4 => (simp only [List.getElem?_toArray, List.getElem?_cons_succ, List.getElem?_cons_zero]; rfl)
      case hQT4 => exact fun _ _ _ h => h
      case hwT4 => rfl
      case hyT4 => (intro wS hSw; go_simp; (try with_reducible rfl))
      try simp only [Act.put, List.setIfInBounds_toArray, List.set_cons_zero, List.set_cons_succ]
      refine' wpAnyT_take (i := 5) (v := _) ?hiT5 (by kernel_rfl) ?hQT5 (Or.inl ⟨?hwT5, ?hyT5⟩) trivial ?reT5
      case hiT5 => (simp only [List.getElem?_toArray, List.getElem?_cons_succ, List.getElem?_cons_zero]; rfl)
      case hQT5 => exact fun _ _ _ h => h
      case hwT5 => rfl
      case hyT5 => (intro wS hSw; go_simp; (try with_reducible rfl))
      try simp only [Act.put, List.setIfInBounds_toArray, List.set_cons_zero, List.set_cons_succ]
      refine' wpAnyT_take (i := 6) (v := _) ?hiT6 (by kernel_rfl) ?hQT6 (Or.inl ⟨?hwT6, ?hyT6⟩) trivial ?reT6
      case hiT6 => (simp only [List.getElem?_toArray, List.getElem?_cons_succ, List.getElem?_cons_zero]; rfl)
      case hQT6 => exact fun _ _ _ h => h
      case hwT6 => rfl
      case hyT6 => (intro wS hSw; go_simp; (try with_reducible rfl))
      try simp only [Act.put, List.setIfInBounds_toArray, List.set_cons_zero, List.set_cons_succ]
      refine' wpAnyT_take (i := 7) (v := _) ?hiT7 (by kernel_rfl) ?hQT7 (Or.inl ⟨?hwT7, ?hyT7⟩) trivial ?reT7
      case hiT7 => (simp only [List.getElem?_toArray, List.getElem?_cons_succ, List.getElem?_cons_zero]; rfl)
      case hQT7 => exact fun _ _ _ h => h
      case hwT7 => rfl
      case hyT7 => (intro wS hSw; go_simp; (try with_reducible rfl))
      try simp only [Act.put, List.setIfInBounds_toArray, List.set_cons_zero, List.set_cons_succ]
      refine wpAnyT_weak (S := SwS g p q (xn, xc, xl, xh) (yn, yc, yl, yh)) (tl := [21, 22, 23]) _ _ _ _ ?_
      refine' wpAnyT_take (i := 8) (v := _) ?hiT8 (by kernel_rfl) ?hQT8 (Or.inl ⟨?hwT8, ?hyT8⟩) hS ?reT8
      case hiT8 => (simp only [List.getElem?_toArray, List.getElem?_cons_succ, List.getElem?_cons_zero]; rfl)
      case hQT8 => exact fun _ _ _ h => h
      case hwT8 => rfl
      case hyT8 => (intro wS hSw; obtain ⟨⟨_, _, _, _⟩, _, _, _, _⟩ := hSw; go_simp; (try with_reducible rfl))
      try simp only [Act.put, List.setIfInBounds_toArray, List.set_cons_zero, List.set_cons_succ]
      refine' wpAnyT_take (i := 9) (v := _) ?hiT9 (by kernel_rfl) ?hQT9 (Or.inl ⟨?hwT9, ?hyT9⟩) hS ?reT9
      case hiT9 => (simp only [List.getElem?_toArray, List.getElem?_cons_succ, List.getElem?_cons_zero]; rfl)
      case hQT9 => exact fun _ _ _ h => h
      case hwT9 => rfl
      case hyT9 => (intro wS hSw; obtain ⟨⟨_, _, _, _⟩, _, _, _, _⟩ := hSw; go_simp; (try with_reducible rfl))
      try simp only [Act.put, List.setIfInBounds_toArray, List.set_cons_zero, List.set_cons_succ]
      refine' wpAnyT_take (i := 10) (v := _) ?hiT10 (by kernel_rfl) ?hQT10 (Or.inl ⟨?hwT10, ?hyT10⟩) hS ?reT10
      case hiT10 => (simp only [List.getElem?_toArray, List.getElem?_cons_succ, List.getElem?_cons_zero]; rfl)
      case hQT10 => exact fun _ _ _ h => h
      case hwT10 => rfl
      case hyT10 => (intro wS hSw; obtain ⟨⟨_, _, _, _⟩, _, _, _, _⟩ := hSw; go_simp; (try with_reducible rfl))
      try simp only [Act.put, List.setIfInBounds_toArray, List.set_cons_zero, List.set_cons_succ]
      refine' wpAnyT_take (i := 11) (v := _) ?hiT11 (by kernel_rfl) ?hQT11 (Or.inl ⟨?hwT11, ?hyT11⟩) hS ?reT11
      case hiT11 => (simp only [List.getElem?_toArray, List.getElem?_cons_succ, List.getElem?_cons_zero]; rfl)
      case hQT11 => exact fun _ _ _ h => h
      case hwT11 => rfl
      case hyT11 => (intro wS hSw; obtain ⟨⟨_, _, _, _⟩, _, _, _, _⟩ := hSw; go_simp; (try with_reducible rfl))
      try simp only [Act.put, List.setIfInBounds_toArray, List.set_cons_zero, List.set_cons_succ]
      refine' wpAnyT_take (i := 12) (v := _) ?hiT12 (by kernel_rfl) ?hQT12 (Or.inl ⟨?hwT12, ?hyT12⟩) hS ?reT12
      case hiT12 => (simp only [List.getElem?_toArray, List.getElem?_cons_succ, List.getElem?_cons_zero]; rfl)
      case hQT12 => exact fun _ _ _ h => h
      case hwT12 => rfl
      case hyT12 => (intro wS hSw; obtain ⟨⟨_, _, _, _⟩, _, _, _, _⟩ := hSw; go_simp; (try with_reducible rfl))
      try simp only [Act.put, List.setIfInBounds_toArray, List.set_cons_zero, List.set_cons_succ]
      refine' wpAnyT_take (i := 13) (v := _) ?hiT13 (by kernel_rfl) ?hQT13 (Or.inl ⟨?hwT13, ?hyT13⟩) hS ?reT13
      case hiT13 => (simp only [List.getElem?_toArray, List.getElem?_cons_succ, List.getElem?_cons_zero]; rfl)
      case hQT13 => exact fun _ _ _ h => h
      case hwT13 => rfl
      case hyT13 => (intro wS hSw; obtain ⟨⟨_, _, _, _⟩, _, _, _, _⟩ := hSw; go_simp; (try with_reducible rfl))
      try simp only [Act.put, List.setIfInBounds_toArray, List.set_cons_zero, List.set_cons_succ]
      refine' wpAnyT_take (i := 14) (v := _) ?hiT14 (by kernel_rfl) ?hQT14 (Or.inl ⟨?hwT14, ?hyT14⟩) hS ?reT14
      case hiT14 => (simp only [List.getElem?_toArray, List.getElem?_cons_succ, List.getElem?_cons_zero]; rfl)
      case hQT14 => exact fun _ _ _ h => h
      case hwT14 => rfl
      case hyT14 => (intro wS hSw; obtain ⟨⟨_, _, _, _⟩, _, _, _, _⟩ := hSw; go_simp; (try with_reducible rfl))
      try simp only [Act.put, List.setIfInBounds_toArray, List.set_cons_zero, List.set_cons_succ]
      refine' wpAnyT_take (i := 15) (v := _) ?hiT15 (by kernel_rfl) ?hQT15 (Or.inl ⟨?hwT15, ?hyT15⟩) hS ?reT15
      case hiT15 => (simp only [List.getElem?_toArray, List.getElem?_cons_succ, List.getElem?_cons_zero]; rfl)
      case hQT15 => exact fun _ _ _ h => h
      case hwT15 => rfl
      case hyT15 => (intro wS hSw; obtain ⟨⟨_, _, _, _⟩, _, _, _, _⟩ := hSw; go_simp; (try with_reducible rfl))
      try simp only [Act.put, List.setIfInBounds_toArray, List.set_cons_zero, List.set_cons_succ]
      refine' wpAnyT_take (i := 16) (v := _) ?hiT16 (by kernel_rfl) ?hQT16 (Or.inl ⟨?hwT16, ?hyT16⟩) hS ?reT16
      case hiT16 => (simp only [List.getElem?_toArray, List.getElem?_cons_succ, List.getElem?_cons_zero]; rfl)
      case hQT16 => exact fun _ _ _ h => h
      case hwT16 => rfl
      case hyT16 => (intro wS hSw; obtain ⟨⟨_, _, _, _⟩, _, _, _, _⟩ := hSw; go_simp; (try with_reducible rfl))
      try simp only [Act.put, List.setIfInBounds_toArray, List.set_cons_zero, List.set_cons_succ]
      refine' wpAnyT_take (i := 17) (v := _) ?hiT17 (by kernel_rfl) ?hQT17 (Or.inl ⟨?hwT17, ?hyT17⟩) hS ?reT17
      case hiT17 => (simp only [List.getElem?_toArray, List.getElem?_cons_succ, List.getElem?_cons_zero]; rfl)
      case hQT17 => exact fun _ _ _ h => h
      case hwT17 => rfl
      case hyT17 => (intro wS hSw; obtain ⟨⟨_, _, _, _⟩, _, _, _, _⟩ := hSw; go_simp; (try with_reducible rfl))
      try simp only [Act.put, List.setIfInBounds_toArray, List.set_cons_zero, List.set_cons_succ]
      refine' wpAnyT_take (i := 18) (v := _) ?hiT18 (by kernel_rfl) ?hQT18 (Or.inl ⟨?hwT18, ?hyT18⟩) hS ?reT18
      case hiT18 => (simp only [List.getElem?_toArray, List.getElem?_cons_succ, List.getElem?_cons_zero]; rfl)
      case hQT18 => exact fun _ _ _ h => h
      case hwT18 => rfl
      case hyT18 => (intro wS hSw; obtain ⟨⟨_, _, _, _⟩, _, _, _, _⟩ := hSw; go_simp; (try with_reducible rfl))
      try simp only [Act.put, List.setIfInBounds_toArray, List.set_cons_zero, List.set_cons_succ]
      refine' wpAnyT_take (i := 19) (v := _) ?hiT19 (by kernel_rfl) ?hQT19 (Or.inl ⟨?hwT19, ?hyT19⟩) hS ?reT19
      case hiT19 => (simp only [List.getElem?_toArray, List.getElem?_cons_succ, List.getElem?_cons_zero]; rfl)
      case hQT19 => exact fun _ _ _ h => h
      case hwT19 => rfl
      case hyT19 => (intro wS hSw; obtain ⟨⟨_, _, _, _⟩, _, _, _, _⟩ := hSw; go_simp; (try with_reducible rfl))
      try simp only [Act.put, List.setIfInBounds_toArray, List.set_cons_zero, List.set_cons_succ]
      refine' wpAnyT_take (i := 20) (v := _) ?hiT20 (by kernel_rfl) ?hQT20 (Or.inl ⟨?hwT20, ?hyT20⟩) hS ?reT20
      case hiT20 => (simp only [List.getElem?_toArray, List.getElem?_cons_succ, List.getElem?_cons_zero]; rfl)
      case hQT20 => exact fun _ _ _ h => h
      case hwT20 => rfl
      case hyT20 => (intro wS hSw; obtain ⟨⟨_, _, _, _⟩, _, _, _, _⟩ := hSw; go_simp; (try with_reducible rfl))
      try simp only [Act.put, List.setIfInBounds_toArray, List.set_cons_zero, List.set_cons_succ]
      have fzd := kd.frozen
      refine wpAnyT_ready (rs := [21]) (by kernel_rfl) (by simp) ?_
      refine' AllReadyT.cons ?hi21 (fun K hK => ?st21) AllReadyT.nil
      case hi21 => (simp only [List.getElem?_toArray, List.getElem?_cons_succ, List.getElem?_cons_zero]; rfl)
      obtain ⟨⟨a0, a1, a2, a3⟩, b0, b1, b2, b3⟩ := hS
      go_simp
      have k2 := putW_blk kd p (yn, yc, yl, yh)
      have F2 := putW_far w1 g p (yn, yc, yl, yh)
      refine hK.out _ _ (fun h => by cases h) (fun _ => ?_)
      clear hK K a0 a1 a2 a3 b0 b1 b2 b3 fzd
      change wpAnyT _ _ _ _ _ _ _ _ _ (putW w1 g p (yn, yc, yl, yh))
      generalize putW w1 g p (yn, yc, yl, yh) = w2 at *
      try simp only [Act.put, List.setIfInBounds_toArray, List.set_cons_zero, List.set_cons_succ]
      have hc : Blk w2 g t (put4 ds p (yn, yc, yl, yh)) := k2
      refine wpAnyT_ready (rs := [22]) (by kernel_rfl) (by simp) ?_
      refine' AllReadyT.cons ?hi22 (fun K hK => ?st22) AllReadyT.nil
      case hi22 => (simp only [List.getElem?_toArray, List.getElem?_cons_succ, List.getElem?_cons_zero]; rfl)
      go_simp
      refine hK.out _ _ (fun h => by cases h) (fun _ => ?_)
      clear hK K
      try simp only [Act.put, List.setIfInBounds_toArray, List.set_cons_zero, List.set_cons_succ]
      have fz2 := hc.frozen
      refine wpAnyT_ready (rs := [23]) (by kernel_rfl) (by simp) ?_
      refine' AllReadyT.cons ?hi23 (fun K hK => ?st23) AllReadyT.nil
      case hi23 => (simp only [List.getElem?_toArray, List.getElem?_cons_succ, List.getElem?_cons_zero]; rfl)
      obtain ⟨c0, c1, c2, c3⟩ := hput'.out.at_ q (by rw [List.length_set]; omega)
      rw [← hc.cell] at c0 c1 c2 c3
      go_simp
      have k3 := putW_blk hc q (xn, xc, xl, xh)
      have F3 := putW_far w2 g q (xn, xc, xl, xh)
      refine hK.out _ _ (fun h => by cases h) (fun _ => ?_)
      clear hK K c0 c1 c2 c3 fz2
      change wpAnyT _ _ _ _ _ _ _ _ _ (putW w2 g q (xn, xc, xl, xh))
      generalize putW w2 g q (xn, xc, xl, xh) = w3 at *
      refine wpAnyT_done (by kernel_rfl) ?_ _
      have hk1 : IntKind.i64.wrap ((k : Int) + 1) = ((k + 1 : Nat) : Int) := by rw [IntKind.wrap_i64]; omega
      have F13 := hFd.trans (F2.trans F3)
      have hs3 := Lib.hid (show (put4 (put4 ds p (yn, yc, yl, yh)) q (xn, xc, xl, xh)).size = sz by rw [put4_size, put4_size]; exact hsz.out)
      clear hsz F2 F3 hFd k2 hc kd hput'
      refine noPanic_normal ?_
      go_wp2_with fail
      refine ⟨⟨k + 1, _, by omega, by push_cast; rfl, k3, hs3, hput2, F13⟩, ?_⟩
      simp only [intOf]
      omega
    · obtain rfl : k = m := by omega
      have hlt' : decide ((k : Int) < (k : Int)) = false := by simp
      go_wp2_with fail
      go_end0
      exact ⟨rfl, ⟨ds, hkd, hsz.out, hRd.out⟩, hF⟩
end Go.Proofs.YtpabnbhbcphfiaaGreat
namespace Go.Proofs.YtpabnbhbcphfiaaGreat
open Go Go.Proofs Go.RowKit Go.Pol Go.Shelf
attribute [local go_sem] Oper.semAt_some Go.Pol.wide_fn Go.Pol.wide_depth Go.Pol.wide_fn' Go.Pol.wide_depth'

set_option maxRecDepth 100000 in
theorem rotate_any (g n cap a m b : Nat) (t : TypeId) (sz : Nat) (l : List Gp) (w : World) (hr : RowB w g t sz l) (hn : l.length = n) (ham : a < m) (hmb : m < b) (hb : b ≤ n) (hn64 : n ≤ 1000) :
    Calls Tryz.prog 249 #[.slice (some ⟨g, 0, none⟩) n cap, .int .i64 a, .int .i64 m, .int .i64 b, .func (.func 110) #[] #[]] w fun e w' => e = .returned (.tuple #[]) ∧
      RowB w' g t sz (rotL a m b l) ∧ Far (fun k => k = g) w w' := by
  have hst := rot_start (l := l) (s := a) (m := m) (e := b) (by omega) (by omega) (by omega)
  obtain ⟨i0, hi0⟩ : ∃ i, m - a = i := ⟨_, rfl⟩
  obtain ⟨j0, hj0⟩ : ∃ j, b - m = j := ⟨_, rfl⟩
  rw [hi0, hj0] at hst
  generalize rotL a m b l = tgt at *
  have hst' := Lib.hid hst
  have hr' := Lib.hid hr
  clear hst hr
  have hw1 : IntKind.i64.wrap ((m : Int) - (a : Int)) = (i0 : Int) := by rw [IntKind.wrap_i64]; omega
  have hw2 : IntKind.i64.wrap ((b : Int) - (m : Int)) = (j0 : Int) := by rw [IntKind.wrap_i64]; omega
  go_enter Tryz.func249, Tryz.ntmps249
  go_wp2_with fail
  go_loopw [10, 11] (fun u v wr => ∃ (i j p : Nat) (lk : List Gp), 0 < i ∧ 0 < j ∧ p + i = m ∧ u = .int .i64 i ∧ v = .int .i64 j ∧ Hid (lk.length = n) ∧ Hid (RotS i j p lk tgt) ∧ Hid (RowB wr g t sz lk) ∧ Far (fun k => k = g) w wr) (fun u v _ => (intOf u).toNat + (intOf v).toNat)
  case atStart => exact ⟨i0, j0, a, l, by omega, by omega, by omega, rfl, rfl, Lib.hid hn, hst', hr', Far.refl _ _⟩
  case round =>
    clear hst' hr' hw1 hw2 hn
    obtain ⟨i, j, p, lk, hi, hj, hpi, rfl, rfl, hln, hR, hrow, hF⟩ := hrel
    have hlen := hR.out.len
    rw [hln.out] at hlen
    have hwp : IntKind.i64.wrap ((m : Int) - (i : Int)) = (p : Int) := by rw [IntKind.wrap_i64]; omega
    by_cases hij : i = j
    · subst hij
      have h1 : ((i : Int) != (i : Int)) = false := by simp
      have HS := Lib.hid (swapRange_any g n cap p m i t sz lk wr hrow.out hln.out (by omega) (by omega) hn64)
      have he := Lib.hid (hR.out.eql)
      clear hR hrow
      go_wp2_with (go_at_call 268; refine HS.out.mono ?_; rintro e w2 ⟨rfl, hr2, hF2⟩)
      go_end0
      rw [hpi] at he
      rw [he.out] at hr2
      exact ⟨rfl, hr2, hF.trans hF2⟩
    · have h1 : ((i : Int) != (j : Int)) = true := by simp; omega
      by_cases hlt : j < i
      · have h2 : decide ((j : Int) < (i : Int)) = true := by simpa using hlt
        have HS := Lib.hid (swapRange_any g n cap p m j t sz lk wr hrow.out hln.out (by omega) (by omega) hn64)
        have hg := hR.out.gtr hlt
        rw [hpi] at hg
        have hl2 : Hid ((swpL p m j lk).length = n) := Lib.hid (by rw [swpL_len]; exact hln.out)
        generalize swpL p m j lk = lk2 at *
        have hg' := Lib.hid hg
        clear hR hrow hg hln
        obtain ⟨i', hi'⟩ : ∃ i', i - j = i' := ⟨_, rfl⟩
        rw [hi'] at hg'
        have hw3 : IntKind.i64.wrap ((i : Int) - (j : Int)) = (i' : Int) := by rw [IntKind.wrap_i64]; omega
        go_wp2_with (go_at_call 268; refine HS.out.mono ?_; rintro e w2 ⟨rfl, hr2, hF2⟩)
        go_roundw
        case rel => exact ⟨i', j, p + j, lk2, by omega, hj, by omega, rfl, rfl, hl2, hg', Lib.hid hr2, hF.trans hF2⟩
        case measure => simp [intOf]; omega
      · have h2 : decide ((j : Int) < (i : Int)) = false := by simpa using hlt
        obtain ⟨j', hj'⟩ : ∃ j', j - i = j' := ⟨_, rfl⟩
        have hw4 : IntKind.i64.wrap ((m : Int) + (j : Int)) = ((m + j : Nat) : Int) := by rw [IntKind.wrap_i64]; omega
        have hw5 : IntKind.i64.wrap (((m + j : Nat) : Int) - (i : Int)) = ((p + j : Nat) : Int) := by rw [IntKind.wrap_i64]; omega
        have hw6 : IntKind.i64.wrap ((j : Int) - (i : Int)) = (j' : Int) := by rw [IntKind.wrap_i64]; omega
        have HS := Lib.hid (swapRange_any g n cap p (p + j) i t sz lk wr hrow.out hln.out (by omega) (by omega) hn64)
        have hg := hR.out.lss (by omega)
        have hl2 : Hid ((swpL p (p + j) i lk).length = n) := Lib.hid (by rw [swpL_len]; exact hln.out)
        generalize swpL p (p + j) i lk = lk2 at *
        rw [hj'] at hg
        have hg' := Lib.hid hg
        clear hR hrow hg hln
        generalize p + j = pj at *
        generalize m + j = mj at *
        go_wp2_with (go_at_call 268; refine HS.out.mono ?_; rintro e w2 ⟨rfl, hr2, hF2⟩)
        go_roundw
        case rel => exact ⟨i, j', p, lk2, hi, by omega, hpi, rfl, rfl, hl2, hg', Lib.hid hr2, hF.trans hF2⟩
        case measure => simp [intOf]; omega
end Go.Proofs.YtpabnbhbcphfiaaGreat
namespace Go.Proofs.YtpabnbhbcphfiaaGreat
open Go Go.Proofs Go.RowKit Go.Pol Go.Shelf
attribute [local go_sem] Oper.semAt_some Go.Pol.wide_fn Go.Pol.wide_depth Go.Pol.wide_fn' Go.Pol.wide_depth'

theorem choose1_below (x y : Gp) (w : World) : Calls Tryz.prog 110 #[.agg #[.int .i64 x.1, .int .i64 x.2.1, .int .i64 x.2.2.1, .bool x.2.2.2], .agg #[.int .i64 y.1, .int .i64 y.2.1, .int .i64 y.2.2.1, .bool y.2.2.2]] w fun e w' => e = .returned (.int .i64 (cmpI x.2.2.1 y.2.2.1)) ∧ Below w.heap.size w w' :=
  (choose1_any x y w).mono (by rintro e w' ⟨he, rfl⟩; exact ⟨he, ((Below.refl w.heap.size w).alloc (Nat.le_refl _) _).alloc (by simp) _⟩)
theorem cmpI_lt (x y : Int) : decide (cmpI x y < 0) = decide (x < y) := by
  unfold cmpI
  by_cases h1 : x < y
  · simp [h1]
  · by_cases h2 : y < x <;> simp [h1, h2]
set_option maxRecDepth 100000 in
set_option maxHeartbeats 1600000 in
theorem symOneX_any (g n cap a m b : Nat) (t : TypeId) (sz : Nat) (l : List Gp) (w : World) (hr : RowB w g t sz l) (hn : l.length = n) (ham : a + 1 = m) (hmb : m < b) (hb : b ≤ n) (hn64 : n ≤ 1000)
    (hY : (cut l m b).Pairwise LeX) (hT : ∀ x ∈ cut l a m, ∀ y ∈ cut l m b, TieX x y) :
    Calls Tryz.prog 238 #[.slice (some ⟨g, 0, none⟩) n cap, .int .i64 a, .int .i64 m, .int .i64 b, .func (.func 110) #[] #[]] w fun e w' => e = .returned (.tuple #[]) ∧
      ∃ l', MergeTo a b l l' ∧ RowB w' g t sz l' ∧ Far (fun k => k = g) w w' := by
  subst ham
  have hT' : ∀ y ∈ cut l (a + 1) b, TieX (l.getD a gp0) y := fun y hy => hT _ (by
    unfold cut
    rw [List.drop_eq_getElem_cons (show a < (l.take (a + 1)).length by simp; omega), List.getD_eq_getElem?_getD, List.getElem?_eq_getElem (show a < l.length by omega)]
    simp) y hy
  obtain ⟨cs, hk, hcs, hl⟩ := hr
  have hsp := up_split (l := l) (a := a) (b := b) (by omega) (by omega)
  have hx := hl.at_ a (by omega)
  have hone := Lib.hid (fun i h1 h2 f1 f2 => one_x (l := l) (a := a) (i := i) (b := b) h1 h2 (by omega) hY hT' f1 f2)
  have hlv := Lib.hid (show lvd l a = (l.getD a gp0).2.2.1 from rfl)
  have hPl : (l.take a).length = a := by simp; omega
  have hUl : (cut l (a + 1) b).length = b - (a + 1) := cut_len (by omega)
  generalize l.getD a gp0 = x at *
  have hl' := Lib.hid hl
  have hU := Lib.hid (And.intro hPl hUl)
  generalize cut l (a + 1) b = U at *
  generalize hPP : l.take a = P at *
  generalize hSS : l.drop b = S at *
  have hsp' := Lib.hid hsp
  have hn' := Lib.hid hn
  have hcs' := Lib.hid hcs
  clear hY hT hT' hl hsp hn hPl hUl hPP hSS hcs
  obtain ⟨m, hm⟩ : ∃ m, a + 1 = m := ⟨_, rfl⟩
  rw [hm] at hone hU hmb ⊢
  have hw1 : IntKind.i64.wrap ((m : Int) - (a : Int)) = 1 := by rw [IntKind.wrap_i64]; omega
  obtain ⟨xn, xc, xl, xh⟩ := x
  obtain ⟨x0, x1, x2, x3⟩ := hx
  rw [← hk.cell] at x0 x1 x2 x3
  go_enter Tryz.func238, Tryz.ntmps238
  go_wp2_with fail
  go_loopw [10, 11] (fun u v wr => ∃ (i j : Nat), m ≤ i ∧ i ≤ j ∧ j ≤ b ∧ u = .int .i64 i ∧ v = .int .i64 j ∧ Hid ((m < i → lvd l (i - 1) < lvd l a) ∧ (j < b → ¬ lvd l j < lvd l a)) ∧ Below w.heap.size w wr) (fun u v _ => (intOf v).toNat - (intOf u).toNat)
  case atStart => exact ⟨m, b, by omega, by omega, by omega, rfl, rfl, Lib.hid ⟨fun h => absurd h (Nat.lt_irrefl _), fun h => absurd h (Nat.lt_irrefl _)⟩, Below.refl _ _⟩
  case round =>
    obtain ⟨i, j, hi, hij, hjb, rfl, rfl, hf, hB⟩ := hrel
    by_cases hlt : i < j
    · have h1 : decide ((i : Int) < (j : Int)) = true := by simpa using hlt
      obtain ⟨h, hh⟩ : ∃ h : Nat, ((i : Int) + (j : Int)) / 2 = (h : Int) := ⟨(i + j) / 2, by omega⟩
      have hih : i ≤ h := by omega
      have hhj : h < j := by omega
      have hhn : (h : Int) < (n : Int) := by omega
      have hkr := hk.call hB
      obtain ⟨y0, y1, y2, y3⟩ := hl'.out.at_ h (by have := hn'.out; omega)
      rw [← hkr.cell] at y0 y1 y2 y3
      have hlh := Lib.hid (show lvd l h = (l.getD h gp0).2.2.1 from rfl)
      generalize l.getD h gp0 = y at *
      obtain ⟨yn, yc, yl, yh⟩ := y
      have z0 := fun z : Ext wr => z.cell ((hB.cell (by have := hk.lt; exact this)).trans x0)
      have z1 := fun z : Ext wr => z.cell ((hB.cell (by have := hk.lt; exact this)).trans x1)
      have z2 := fun z : Ext wr => z.cell ((hB.cell (by have := hk.lt; exact this)).trans x2)
      have z3 := fun z : Ext wr => z.cell ((hB.cell (by have := hk.lt; exact this)).trans x3)
      have v0 := fun z : Ext wr => z.cell y0
      have v1 := fun z : Ext wr => z.cell y1
      have v2 := fun z : Ext wr => z.cell y2
      have v3 := fun z : Ext wr => z.cell y3
      have HC := Lib.hid (fun z : Ext wr => Ext.call (x := z) (choose1_below (yn, yc, yl, yh) (xn, xc, xl, xh) z.w))
      simp only at HC
      have hcl := cmpI_lt yl xl
      generalize cmpI yl xl = c at *
      by_cases hc : yl < xl
      · have hc2 : decide (c < 0) = true := by rw [hcl]; simpa using hc
        clear hcl
        have hf2 := Lib.hid (And.intro (fun _ : m < h + 1 => show lvd l (h + 1 - 1) < lvd l a by rw [show h + 1 - 1 = h by omega, hlh.out, hlv.out]; exact hc) hf.out.2)
        go_upto_region 5 with fail
        refine region_ext (by kernel_rfl) (by kernel_rfl) ?_
        repeat (go_big_quiet_step ((go_at_call 110; exact HC.out _)))
        refine wpQuiet_nil ?_
        rintro w8 ⟨⟨_, hw8⟩, rfl⟩
        clear hf hc
        go_wp2_with fail
        go_roundw
        case rel => exact ⟨h + 1, j, by omega, by omega, hjb, by go_num, rfl, hf2, hB.trans (hw8.mono hB.size)⟩
        case measure => simp [intOf]; omega
      · have hc2 : decide (c < 0) = false := by rw [hcl]; simpa using hc
        clear hcl
        have hf2 := Lib.hid (And.intro hf.out.1 (fun _ : h < b => show ¬ lvd l h < lvd l a by rw [hlh.out, hlv.out]; exact hc))
        go_upto_region 5 with fail
        refine region_ext (by kernel_rfl) (by kernel_rfl) ?_
        repeat (go_big_quiet_step ((go_at_call 110; exact HC.out _)))
        refine wpQuiet_nil ?_
        rintro w8 ⟨⟨_, hw8⟩, rfl⟩
        clear hf hc
        go_wp2_with fail
        go_roundw
        case rel => exact ⟨i, h, hi, hih, by omega, rfl, rfl, hf2, hB.trans (hw8.mono hB.size)⟩
        case measure => simp [intOf]; omega
    · have h1 : decide ((i : Int) < (j : Int)) = false := by simpa using hlt
      obtain rfl : i = j := by omega
      have hMT := Lib.hid (hone.out i (by omega) hjb hf.out.1 (fun h => Int.not_lt.1 (hf.out.2 h)))
      obtain ⟨c, hc⟩ : ∃ c, i - 1 = c := ⟨_, rfl⟩
      have hwc : IntKind.i64.wrap ((i : Int) - 1) = (c : Int) := by rw [IntKind.wrap_i64]; omega
      have hsp0 : l = upL P (xn, xc, xl, xh) U S 0 := hsp'.out
      have hlens : ∀ k, (upL P (xn, xc, xl, xh) U S k).length = n := fun k => by
        rw [upL_len, ← hn'.out, hsp0, upL_len]
      have hstep := Lib.hid (fun k (hk : k < U.length) => upL_succ P (xn, xc, xl, xh) U S hk)
      rw [hU.out.1, hU.out.2] at hstep
      have hrow0 : RowG cs (upL P (xn, xc, xl, xh) U S 0) := by rw [← hsp0]; exact hl'.out
      generalize upL P (xn, xc, xl, xh) U S = L at *
      have hrow0' := Lib.hid hrow0
      have hlens' := Lib.hid hlens
      have hkr := hk.call hB
      clear hf hone hlv x0 x1 x2 x3 hrow0 hlens hsp0 hsp' hl' hk
      go_wp2_with fail
      go_loopw [13] (fun u wr2 => ∃ (k p : Nat) (ds : Array Value), a + k = p ∧ p ≤ c ∧ u = .int .i64 p ∧ Blk wr2 g t ds ∧ Hid (ds.size = sz) ∧ Hid (RowG ds (L k)) ∧ Far (fun k => k = g) w wr2) (fun u _ => c - (intOf u).toNat)
      case atStart => exact ⟨0, a, cs, by omega, by omega, rfl, hkr, hcs', hrow0', .of_below hB⟩
      case round =>
        clear hrow0' hkr
        obtain ⟨k, p, ds, hkp, hpc, rfl, hkd, hsz, hRd, hF⟩ := hrel
        by_cases hlt : p < c
        · have hlt' : decide ((p : Int) < (c : Int)) = true := by simpa using hlt
          obtain ⟨q, hq⟩ : ∃ q, p + 1 = q := ⟨_, rfl⟩
          have hqa : IntKind.i64.wrap ((p : Int) + 1) = (q : Int) := by rw [IntKind.wrap_i64]; omega
          have hpn : (p : Int) < (n : Int) := by omega
          have hqn : (q : Int) < (n : Int) := by omega
          have hlen := hlens'.out k
          have hnext := Lib.hid (show L (k + 1) = ((L k).set p ((L k).getD q gp0)).set q ((L k).getD p gp0) by have h := hstep.out k (by omega); rw [hkp, hq] at h; rw [← h, sw])
          have hS0 := hRd.out.sw hkd (p := p) (q := q) (by omega) (by omega)
          generalize L k = lk at *
          have hput := hRd.out.put (p := p) (by omega) (lk.getD q gp0)
          have hput2 := Lib.hid (hput.put (p := q) (by rw [List.length_set]; omega) (lk.getD p gp0))
          rw [← hnext.out] at hput2
          have hput' := Lib.hid hput
          clear hput hnext hRd
          generalize hX : lk.getD p gp0 = x at *
          generalize hY : lk.getD q gp0 = y at *
          go_upto_region 11 with fail
          refine wp_noPanic ?_
          refine wp_region_T (fun _ => True) [] (by kernel_rfl) ?_
          have hS : SwS g p q x y wr.drew := hS0
          have kd := hkd.drew
          have hFd := hF.drew
          generalize wr.drew = w1 at *
          obtain ⟨xn, xc, xl, xh⟩ := x
          obtain ⟨yn, yc, yl, yh⟩ := y
          clear hS0 hkd hF hX hY
          refine' wpAnyT_take (i := 0) (v := _) ?hiT0 (by kernel_rfl) ?hQT0 (Or.inl ⟨?hwT0, ?hyT0⟩) trivial ?reT0
          case hiT0 => (simp only [List.getElem?_toArray, List.getElem?_cons_zero]; rfl)
          case hQT0 => exact fun _ _ _ h => h
          case hwT0 => rfl
          case hyT0 => (intro wS hSw; go_simp; (try with_reducible rfl))
          try simp only [Act.put, List.setIfInBounds_toArray, List.set_cons_zero, List.set_cons_succ]
          refine' wpAnyT_take (i := 1) (v := _) ?hiT1 (by kernel_rfl) ?hQT1 (Or.inl ⟨?hwT1, ?hyT1⟩) trivial ?reT1
          case hiT1 => (simp only [List.getElem?_toArray, List.getElem?_cons_succ, List.getElem?_cons_zero]; rfl)
          case hQT1 => exact fun _ _ _ h => h
          case hwT1 => rfl
          case hyT1 => (intro wS hSw; go_simp; (try with_reducible rfl))
          try simp only [Act.put, List.setIfInBounds_toArray, List.set_cons_zero, List.set_cons_succ]
          refine' wpAnyT_take (i := 2) (v := _) ?hiT2 (by kernel_rfl) ?hQT2 (Or.inl ⟨?hwT2, ?hyT2⟩) trivial ?reT2
          case hiT2 => (simp only [List.getElem?_toArray, List.getElem?_cons_succ, List.getElem?_cons_zero]; rfl)
          case hQT2 => exact fun _ _ _ h => h
          case hwT2 => rfl
          case hyT2 => (intro wS hSw; go_simp; (try with_reducible rfl))
          try simp only [Act.put, List.setIfInBounds_toArray, List.set_cons_zero, List.set_cons_succ]
          refine' wpAnyT_take (i := 3) (v := _) ?hiT3 (by kernel_rfl) ?hQT3 (Or.inl ⟨?hwT3, ?hyT3⟩) trivial ?reT3
          case hiT3 => (simp only [List.getElem?_toArray, List.getElem?_cons_succ, List.getElem?_cons_zero]; rfl)
          case hQT3 => exact fun _ _ _ h => h
          case hwT3 => rfl
          case hyT3 => (intro wS hSw; go_simp; (try with_reducible rfl))
          try simp only [Act.put, List.setIfInBounds_toArray, List.set_cons_zero, List.set_cons_succ]
          refine' wpAnyT_take (i := 4) (v := _) ?hiT4 (by kernel_rfl) ?hQT4 (Or.inl ⟨?hwT4, ?hyT4⟩) trivial ?reT4
          case hiT4 => (simp only [List.getElem?_toArray, List.getElem?_cons_succ, List.getElem?_cons_zero]; rfl)
          case hQT4 => exact fun _ _ _ h => h
          case hwT4 => rfl
          case hyT4 => (intro wS hSw; go_simp; (try with_reducible rfl))
          try simp only [Act.put, List.setIfInBounds_toArray, List.set_cons_zero, List.set_cons_succ]
          refine' wpAnyT_take (i := 5) (v := _) ?hiT5 (by kernel_rfl) ?hQT5 (Or.inl ⟨?hwT5, ?hyT5⟩) trivial ?reT5
          case hiT5 => (simp only [List.getElem?_toArray, List.getElem?_cons_succ, List.getElem?_cons_zero]; rfl)
          case hQT5 => exact fun _ _ _ h => h
          case hwT5 => rfl
          case hyT5 => (intro wS hSw; go_simp; (try with_reducible rfl))
          try simp only [Act.put, List.setIfInBounds_toArray, List.set_cons_zero, List.set_cons_succ]
          refine' wpAnyT_take (i := 6) (v := _) ?hiT6 (by kernel_rfl) ?hQT6 (Or.inl ⟨?hwT6, ?hyT6⟩) trivial ?reT6
          case hiT6 => (simp only [List.getElem?_toArray, List.getElem?_cons_succ, List.getElem?_cons_zero]; rfl)
          case hQT6 => exact fun _ _ _ h => h
          case hwT6 => rfl
          case hyT6 => (intro wS hSw; go_simp; (try with_reducible rfl))
          try simp only [Act.put, List.setIfInBounds_toArray, List.set_cons_zero, List.set_cons_succ]
          refine' wpAnyT_take (i := 7) (v := _) ?hiT7 (by kernel_rfl) ?hQT7 (Or.inl ⟨?hwT7, ?hyT7⟩) trivial ?reT7
          case hiT7 => (simp only [List.getElem?_toArray, List.getElem?_cons_succ, List.getElem?_cons_zero]; rfl)
          case hQT7 => exact fun _ _ _ h => h
          case hwT7 => rfl
          case hyT7 => (intro wS hSw; go_simp; (try with_reducible rfl))
          try simp only [Act.put, List.setIfInBounds_toArray, List.set_cons_zero, List.set_cons_succ]
          refine wpAnyT_weak (S := SwS g p q (xn, xc, xl, xh) (yn, yc, yl, yh)) (tl := [15, 16, 17]) _ _ _ _ ?_
          refine' wpAnyT_take (i := 8) (v := _) ?hiT8 (by kernel_rfl) ?hQT8 (Or.inl ⟨?hwT8, ?hyT8⟩) hS ?reT8
          case hiT8 => (simp only [List.getElem?_toArray, List.getElem?_cons_succ, List.getElem?_cons_zero]; rfl)
          case hQT8 => exact fun _ _ _ h => h
          case hwT8 => rfl
          case hyT8 => (intro wS hSw; obtain ⟨⟨_, _, _, _⟩, _, _, _, _⟩ := hSw; go_simp; (try with_reducible rfl))
          try simp only [Act.put, List.setIfInBounds_toArray, List.set_cons_zero, List.set_cons_succ]
          refine' wpAnyT_take (i := 9) (v := _) ?hiT9 (by kernel_rfl) ?hQT9 (Or.inl ⟨?hwT9, ?hyT9⟩) hS ?reT9
          case hiT9 => (simp only [List.getElem?_toArray, List.getElem?_cons_succ, List.getElem?_cons_zero]; rfl)
          case hQT9 => exact fun _ _ _ h => h
          case hwT9 => rfl
          case hyT9 => (intro wS hSw; obtain ⟨⟨_, _, _, _⟩, _, _, _, _⟩ := hSw; go_simp; (try with_reducible rfl))
          try simp only [Act.put, List.setIfInBounds_toArray, List.set_cons_zero, List.set_cons_succ]
          refine' wpAnyT_take (i := 10) (v := _) ?hiT10 (by kernel_rfl) ?hQT10 (Or.inl ⟨?hwT10, ?hyT10⟩) hS ?reT10
          case hiT10 => (simp only [List.getElem?_toArray, List.getElem?_cons_succ, List.getElem?_cons_zero]; rfl)
          case hQT10 => exact fun _ _ _ h => h
          case hwT10 => rfl
          case hyT10 => (intro wS hSw; obtain ⟨⟨_, _, _, _⟩, _, _, _, _⟩ := hSw; go_simp; (try with_reducible rfl))
          try simp only [Act.put, List.setIfInBounds_toArray, List.set_cons_zero, List.set_cons_succ]
          refine' wpAnyT_take (i := 11) (v := _) ?hiT11 (by kernel_rfl) ?hQT11 (Or.inl ⟨?hwT11, ?hyT11⟩) hS ?reT11
          case hiT11 => (simp only [List.getElem?_toArray, List.getElem?_cons_succ, List.getElem?_cons_zero]; rfl)
          case hQT11 => exact fun _ _ _ h => h
          case hwT11 => rfl
          case hyT11 => (intro wS hSw; obtain ⟨⟨_, _, _, _⟩, _, _, _, _⟩ := hSw; go_simp; (try with_reducible rfl))
          try simp only [Act.put, List.setIfInBounds_toArray, List.set_cons_zero, List.set_cons_succ]
          refine' wpAnyT_take (i := 12) (v := _) ?hiT12 (by kernel_rfl) ?hQT12 (Or.inl ⟨?hwT12, ?hyT12⟩) hS ?reT12
          case hiT12 => (simp only [List.getElem?_toArray, List.getElem?_cons_succ, List.getElem?_cons_zero]; rfl)
          case hQT12 => exact fun _ _ _ h => h
          case hwT12 => rfl
          case hyT12 => (intro wS hSw; obtain ⟨⟨_, _, _, _⟩, _, _, _, _⟩ := hSw; go_simp; (try with_reducible rfl))
          try simp only [Act.put, List.setIfInBounds_toArray, List.set_cons_zero, List.set_cons_succ]
          refine' wpAnyT_take (i := 13) (v := _) ?hiT13 (by kernel_rfl) ?hQT13 (Or.inl ⟨?hwT13, ?hyT13⟩) hS ?reT13
          case hiT13 => (simp only [List.getElem?_toArray, List.getElem?_cons_succ, List.getElem?_cons_zero]; rfl)
          case hQT13 => exact fun _ _ _ h => h
          case hwT13 => rfl
          case hyT13 => (intro wS hSw; obtain ⟨⟨_, _, _, _⟩, _, _, _, _⟩ := hSw; go_simp; (try with_reducible rfl))
          try simp only [Act.put, List.setIfInBounds_toArray, List.set_cons_zero, List.set_cons_succ]
          refine' wpAnyT_take (i := 14) (v := _) ?hiT14 (by kernel_rfl) ?hQT14 (Or.inl ⟨?hwT14, ?hyT14⟩) hS ?reT14
          case hiT14 => (simp only [List.getElem?_toArray, List.getElem?_cons_succ, List.getElem?_cons_zero]; rfl)
          case hQT14 => exact fun _ _ _ h => h
          case hwT14 => rfl
          case hyT14 => (intro wS hSw; obtain ⟨⟨_, _, _, _⟩, _, _, _, _⟩ := hSw; go_simp; (try with_reducible rfl))
          try simp only [Act.put, List.setIfInBounds_toArray, List.set_cons_zero, List.set_cons_succ]
          have fzd := kd.frozen
          refine wpAnyT_ready (rs := [15]) (by kernel_rfl) (by simp) ?_
          refine' AllReadyT.cons ?hi15 (fun K hK => ?st15) AllReadyT.nil
          case hi15 => (simp only [List.getElem?_toArray, List.getElem?_cons_succ, List.getElem?_cons_zero]; rfl)
          obtain ⟨⟨a0, a1, a2, a3⟩, b0, b1, b2, b3⟩ := hS
          go_simp
          have k2 := putW_blk kd p (yn, yc, yl, yh)
          have F2 := putW_far w1 g p (yn, yc, yl, yh)
          refine hK.out _ _ (fun h => by cases h) (fun _ => ?_)
          clear hK K a0 a1 a2 a3 b0 b1 b2 b3 fzd
          change wpAnyT _ _ _ _ _ _ _ _ _ (putW w1 g p (yn, yc, yl, yh))
          generalize putW w1 g p (yn, yc, yl, yh) = w2 at *
          try simp only [Act.put, List.setIfInBounds_toArray, List.set_cons_zero, List.set_cons_succ]
          have hc : Blk w2 g t (put4 ds p (yn, yc, yl, yh)) := k2
          refine wpAnyT_ready (rs := [16]) (by kernel_rfl) (by simp) ?_
          refine' AllReadyT.cons ?hi16 (fun K hK => ?st16) AllReadyT.nil
          case hi16 => (simp only [List.getElem?_toArray, List.getElem?_cons_succ, List.getElem?_cons_zero]; rfl)
          go_simp
          refine hK.out _ _ (fun h => by cases h) (fun _ => ?_)
          clear hK K
          try simp only [Act.put, List.setIfInBounds_toArray, List.set_cons_zero, List.set_cons_succ]
          have fz2 := hc.frozen
          refine wpAnyT_ready (rs := [17]) (by kernel_rfl) (by simp) ?_
          refine' AllReadyT.cons ?hi17 (fun K hK => ?st17) AllReadyT.nil
          case hi17 => (simp only [List.getElem?_toArray, List.getElem?_cons_succ, List.getElem?_cons_zero]; rfl)
          obtain ⟨c0, c1, c2, c3⟩ := hput'.out.at_ q (by rw [List.length_set]; omega)
          rw [← hc.cell] at c0 c1 c2 c3
          go_simp
          have k3 := putW_blk hc q (xn, xc, xl, xh)
          have F3 := putW_far w2 g q (xn, xc, xl, xh)
          refine hK.out _ _ (fun h => by cases h) (fun _ => ?_)
          clear hK K c0 c1 c2 c3 fz2
          change wpAnyT _ _ _ _ _ _ _ _ _ (putW w2 g q (xn, xc, xl, xh))
          generalize putW w2 g q (xn, xc, xl, xh) = w3 at *
          refine wpAnyT_done (by kernel_rfl) ?_ _
          have F13 := hFd.trans (F2.trans F3)
          have hs3 := Lib.hid (show (put4 (put4 ds p (yn, yc, yl, yh)) q (xn, xc, xl, xh)).size = sz by rw [put4_size, put4_size]; exact hsz.out)
          clear hsz F2 F3 hFd k2 hc kd hput'
          refine noPanic_normal ?_
          go_wp2_with fail
          refine ⟨⟨k + 1, q, _, by omega, by omega, rfl, k3, hs3, hput2, F13⟩, ?_⟩
          simp only [intOf]
          omega
        · have hlt' : decide ((p : Int) < (c : Int)) = false := by simpa using hlt
          have hki : i - m = k := by omega
          rw [hki] at hMT
          go_wp2_with fail
          exact bodyPost_ret (results_none (by rfl) _ _ _) rfl ⟨rfl, L k, hMT.out, ⟨ds, hkd, hsz.out, hRd.out⟩, hF⟩
end Go.Proofs.YtpabnbhbcphfiaaGreat
namespace Go.Proofs.YtpabnbhbcphfiaaGreat
open Go Go.Proofs Go.RowKit Go.Pol Go.Shelf
attribute [local go_sem] Oper.semAt_some Go.Pol.wide_fn Go.Pol.wide_depth Go.Pol.wide_fn' Go.Pol.wide_depth'

set_option maxRecDepth 100000 in
set_option maxHeartbeats 1600000 in
theorem symOneY_any (g n cap a m b : Nat) (t : TypeId) (sz : Nat) (l : List Gp) (w : World) (hr : RowB w g t sz l) (hn : l.length = n) (ham : a + 1 < m) (hmb : m + 1 = b) (hb : b ≤ n) (hn64 : n ≤ 1000)
    (hY : (cut l a m).Pairwise LeX) (hT : ∀ x ∈ cut l a m, ∀ y ∈ cut l m b, TieX x y) :
    Calls Tryz.prog 238 #[.slice (some ⟨g, 0, none⟩) n cap, .int .i64 a, .int .i64 m, .int .i64 b, .func (.func 110) #[] #[]] w fun e w' => e = .returned (.tuple #[]) ∧
      ∃ l', MergeTo a b l l' ∧ RowB w' g t sz l' ∧ Far (fun k => k = g) w w' := by
  subst hmb
  have hT' : ∀ x ∈ cut l a m, TieX x (l.getD m gp0) := fun x hx => hT x hx _ (by
    unfold cut
    rw [List.drop_eq_getElem_cons (show m < (l.take (m + 1)).length by simp; omega), List.getD_eq_getElem?_getD, List.getElem?_eq_getElem (show m < l.length by omega)]
    simp)
  obtain ⟨cs, hk, hcs, hl⟩ := hr
  have hsp := up_split' (l := l) (a := a) (m := m) (by omega) (by omega)
  have hx := hl.at_ m (by omega)
  have hone := Lib.hid (fun i h1 h2 f1 f2 => one_y (l := l) (a := a) (i := i) (m := m) h1 h2 (by omega) hY hT' f1 f2)
  have hlv := Lib.hid (show lvd l m = (l.getD m gp0).2.2.1 from rfl)
  have hPl : (l.take a).length = a := by simp; omega
  have hUl : (cut l a m).length = m - a := cut_len (by omega)
  generalize l.getD m gp0 = x at *
  have hl' := Lib.hid hl
  have hU := Lib.hid (And.intro hPl hUl)
  generalize cut l a m = U at *
  generalize hPP : l.take a = P at *
  generalize hSS : l.drop (m + 1) = S at *
  have hsp' := Lib.hid hsp
  have hn' := Lib.hid hn
  have hcs' := Lib.hid hcs
  clear hY hT hT' hl hsp hn hPl hUl hPP hSS hcs
  obtain ⟨b, hm⟩ : ∃ b, m + 1 = b := ⟨_, rfl⟩
  rw [hm] at hone hb ⊢
  obtain ⟨d, hd⟩ : ∃ d, m - a = d := ⟨_, rfl⟩
  have hw1 : IntKind.i64.wrap ((m : Int) - (a : Int)) = (d : Int) := by rw [IntKind.wrap_i64]; omega
  have hd1 : ((d : Int) == 1) = false := by simp; omega
  have hw2 : IntKind.i64.wrap ((b : Int) - (m : Int)) = 1 := by rw [IntKind.wrap_i64]; omega
  obtain ⟨xn, xc, xl, xh⟩ := x
  obtain ⟨x0, x1, x2, x3⟩ := hx
  rw [← hk.cell] at x0 x1 x2 x3
  go_enter Tryz.func238, Tryz.ntmps238
  go_wp2_with fail
  go_loopw [14, 15] (fun u v wr => ∃ (i j : Nat), a ≤ i ∧ i ≤ j ∧ j ≤ m ∧ u = .int .i64 i ∧ v = .int .i64 j ∧ Hid ((a < i → ¬ lvd l m < lvd l (i - 1)) ∧ (j < m → lvd l m < lvd l j)) ∧ Below w.heap.size w wr) (fun u v _ => (intOf v).toNat - (intOf u).toNat)
  case atStart => exact ⟨a, m, by omega, by omega, by omega, rfl, rfl, Lib.hid ⟨fun h => absurd h (Nat.lt_irrefl _), fun h => absurd h (Nat.lt_irrefl _)⟩, Below.refl _ _⟩
  case round =>
    obtain ⟨i, j, hi, hij, hjb, rfl, rfl, hf, hB⟩ := hrel
    by_cases hlt : i < j
    · have h1 : decide ((i : Int) < (j : Int)) = true := by simpa using hlt
      obtain ⟨h, hh⟩ : ∃ h : Nat, ((i : Int) + (j : Int)) / 2 = (h : Int) := ⟨(i + j) / 2, by omega⟩
      have hih : i ≤ h := by omega
      have hhj : h < j := by omega
      have hhn : (h : Int) < (n : Int) := by omega
      have hmn : (m : Int) < (n : Int) := by omega
      have hkr := hk.call hB
      obtain ⟨y0, y1, y2, y3⟩ := hl'.out.at_ h (by have := hn'.out; omega)
      rw [← hkr.cell] at y0 y1 y2 y3
      have hlh := Lib.hid (show lvd l h = (l.getD h gp0).2.2.1 from rfl)
      generalize l.getD h gp0 = y at *
      obtain ⟨yn, yc, yl, yh⟩ := y
      have z0 := fun z : Ext wr => z.cell ((hB.cell (by have := hk.lt; exact this)).trans x0)
      have z1 := fun z : Ext wr => z.cell ((hB.cell (by have := hk.lt; exact this)).trans x1)
      have z2 := fun z : Ext wr => z.cell ((hB.cell (by have := hk.lt; exact this)).trans x2)
      have z3 := fun z : Ext wr => z.cell ((hB.cell (by have := hk.lt; exact this)).trans x3)
      have v0 := fun z : Ext wr => z.cell y0
      have v1 := fun z : Ext wr => z.cell y1
      have v2 := fun z : Ext wr => z.cell y2
      have v3 := fun z : Ext wr => z.cell y3
      have HC := Lib.hid (fun z : Ext wr => Ext.call (x := z) (choose1_below (xn, xc, xl, xh) (yn, yc, yl, yh) z.w))
      simp only at HC
      have hcl := cmpI_lt xl yl
      generalize cmpI xl yl = c at *
      by_cases hc : xl < yl
      · have hc2 : decide (c < 0) = true := by rw [hcl]; simpa using hc
        clear hcl
        have hf2 := Lib.hid (And.intro hf.out.1 (fun _ : h < m => show lvd l m < lvd l h by rw [hlh.out, hlv.out]; exact hc))
        go_upto_region 17 with fail
        refine region_ext (by kernel_rfl) (by kernel_rfl) ?_
        repeat (go_big_quiet_step ((go_at_call 110; exact HC.out _)))
        refine wpQuiet_nil ?_
        rintro w8 ⟨⟨_, hw8⟩, rfl⟩
        clear hf hc
        go_wp2_with fail
        go_roundw
        case rel => exact ⟨i, h, hi, hih, by omega, rfl, rfl, hf2, hB.trans (hw8.mono hB.size)⟩
        case measure => simp [intOf]; omega
      · have hc2 : decide (c < 0) = false := by rw [hcl]; simpa using hc
        clear hcl
        have hf2 := Lib.hid (And.intro (fun _ : a < h + 1 => show ¬ lvd l m < lvd l (h + 1 - 1) by rw [show h + 1 - 1 = h by omega, hlh.out, hlv.out]; exact hc) hf.out.2)
        go_upto_region 17 with fail
        refine region_ext (by kernel_rfl) (by kernel_rfl) ?_
        repeat (go_big_quiet_step ((go_at_call 110; exact HC.out _)))
        refine wpQuiet_nil ?_
        rintro w8 ⟨⟨_, hw8⟩, rfl⟩
        clear hf hc
        go_wp2_with fail
        go_roundw
        case rel => exact ⟨h + 1, j, by omega, by omega, hjb, by go_num, rfl, hf2, hB.trans (hw8.mono hB.size)⟩
        case measure => simp [intOf]; omega
    · have h1 : decide ((i : Int) < (j : Int)) = false := by simpa using hlt
      obtain rfl : i = j := by omega
      have hMT := Lib.hid (hone.out i (by omega) hjb (fun h => Int.not_lt.1 (hf.out.1 h)) hf.out.2)
      have hsp0 : l = upL P (xn, xc, xl, xh) U S (m - a) := hsp'.out
      have hlens : ∀ k, (upL P (xn, xc, xl, xh) U S k).length = n := fun k => by
        rw [upL_len, ← hn'.out, hsp0, upL_len]
      have hstep := Lib.hid (fun k (hk : k < U.length) => upL_pred P (xn, xc, xl, xh) U S hk)
      rw [hU.out.1, hU.out.2] at hstep
      have hrow0 : RowG cs (upL P (xn, xc, xl, xh) U S (m - a)) := by rw [← hsp0]; exact hl'.out
      generalize upL P (xn, xc, xl, xh) U S = L at *
      have hrow0' := Lib.hid hrow0
      have hlens' := Lib.hid hlens
      have hkr := hk.call hB
      clear hf hone hlv x0 x1 x2 x3 hrow0 hlens hsp0 hsp' hl' hk
      go_wp2_with fail
      go_loopw [17] (fun u wr2 => ∃ (k p : Nat) (ds : Array Value), a + k = p ∧ i ≤ p ∧ p ≤ m ∧ u = .int .i64 p ∧ Blk wr2 g t ds ∧ Hid (ds.size = sz) ∧ Hid (RowG ds (L k)) ∧ Far (fun k => k = g) w wr2) (fun u _ => (intOf u).toNat)
      case atStart => exact ⟨m - a, m, cs, by omega, by omega, by omega, rfl, hkr, hcs', hrow0', .of_below hB⟩
      case round =>
        clear hrow0' hkr
        obtain ⟨k, p, ds, hkp, hip, hpm, rfl, hkd, hsz, hRd, hF⟩ := hrel
        by_cases hlt : i < p
        · have hlt' : decide ((i : Int) < (p : Int)) = true := by simpa using hlt
          obtain ⟨q, hq⟩ : ∃ q, p - 1 = q := ⟨_, rfl⟩
          obtain ⟨k0, hk0⟩ : ∃ k0, k - 1 = k0 := ⟨_, rfl⟩
          have hqa : IntKind.i64.wrap ((p : Int) - 1) = (q : Int) := by rw [IntKind.wrap_i64]; omega
          have hpn : (p : Int) < (n : Int) := by omega
          have hqn : (q : Int) < (n : Int) := by omega
          have hlen := hlens'.out k
          have hnext := Lib.hid (show L k0 = ((L k).set p ((L k).getD q gp0)).set q ((L k).getD p gp0) by
            have h := hstep.out k0 (by omega)
            rw [show k0 + 1 = k by omega, show a + k0 + 1 = p by omega, show a + k0 = q by omega] at h
            rw [← h, sw])
          have hS0 := hRd.out.sw hkd (p := p) (q := q) (by omega) (by omega)
          generalize L k = lk at *
          have hput := hRd.out.put (p := p) (by omega) (lk.getD q gp0)
          have hput2 := Lib.hid (hput.put (p := q) (by rw [List.length_set]; omega) (lk.getD p gp0))
          rw [← hnext.out] at hput2
          have hput' := Lib.hid hput
          clear hput hnext hRd
          generalize hX : lk.getD p gp0 = x at *
          generalize hY : lk.getD q gp0 = y at *
          go_upto_region 23 with fail
          refine wp_noPanic ?_
          refine wp_region_T (fun _ => True) [] (by kernel_rfl) ?_
          have hS : SwS g p q x y wr.drew := hS0
          have kd := hkd.drew
          have hFd := hF.drew
          generalize wr.drew = w1 at *
          obtain ⟨xn, xc, xl, xh⟩ := x
          obtain ⟨yn, yc, yl, yh⟩ := y
          clear hS0 hkd hF hX hY
          refine' wpAnyT_take (i := 0) (v := _) ?hiT0 (by kernel_rfl) ?hQT0 (Or.inl ⟨?hwT0, ?hyT0⟩) trivial ?reT0
          case hiT0 => (simp only [List.getElem?_toArray, List.getElem?_cons_zero]; rfl)
          case hQT0 => exact fun _ _ _ h => h
          case hwT0 => rfl
          case hyT0 => (intro wS hSw; go_simp; (try with_reducible rfl))
          try simp only [Act.put, List.setIfInBounds_toArray, List.set_cons_zero, List.set_cons_succ]
          refine' wpAnyT_take (i := 1) (v := _) ?hiT1 (by kernel_rfl) ?hQT1 (Or.inl ⟨?hwT1, ?hyT1⟩) trivial ?reT1
          case hiT1 => (simp only [List.getElem?_toArray, List.getElem?_cons_succ, List.getElem?_cons_zero]; rfl)
          case hQT1 => exact fun _ _ _ h => h
          case hwT1 => rfl
          case hyT1 => (intro wS hSw; go_simp; (try with_reducible rfl))
          try simp only [Act.put, List.setIfInBounds_toArray, List.set_cons_zero, List.set_cons_succ]
          refine' wpAnyT_take (i := 2) (v := _) ?hiT2 (by kernel_rfl) ?hQT2 (Or.inl ⟨?hwT2, ?hyT2⟩) trivial ?reT2
          case hiT2 => (simp only [List.getElem?_toArray, List.getElem?_cons_succ, List.getElem?_cons_zero]; rfl)
          case hQT2 => exact fun _ _ _ h => h
          case hwT2 => rfl
          case hyT2 => (intro wS hSw; go_simp; (try with_reducible rfl))
          try simp only [Act.put, List.setIfInBounds_toArray, List.set_cons_zero, List.set_cons_succ]
          refine' wpAnyT_take (i := 3) (v := _) ?hiT3 (by kernel_rfl) ?hQT3 (Or.inl ⟨?hwT3, ?hyT3⟩) trivial ?reT3
          case hiT3 => (simp only [List.getElem?_toArray, List.getElem?_cons_succ, List.getElem?_cons_zero]; rfl)
          case hQT3 => exact fun _ _ _ h => h
          case hwT3 => rfl
          case hyT3 => (intro wS hSw; go_simp; (try with_reducible rfl))
          try simp only [Act.put, List.setIfInBounds_toArray, List.set_cons_zero, List.set_cons_succ]
          refine' wpAnyT_take (i := 4) (v := _) ?hiT4 (by kernel_rfl) ?hQT4 (Or.inl ⟨?hwT4, ?hyT4⟩) trivial ?reT4
          case hiT4 => (simp only [List.getElem?_toArray, List.getElem?_cons_succ, List.getElem?_cons_zero]; rfl)
          case hQT4 => exact fun _ _ _ h => h
          case hwT4 => rfl
          case hyT4 => (intro wS hSw; go_simp; (try with_reducible rfl))
          try simp only [Act.put, List.setIfInBounds_toArray, List.set_cons_zero, List.set_cons_succ]
          refine' wpAnyT_take (i := 5) (v := _) ?hiT5 (by kernel_rfl) ?hQT5 (Or.inl ⟨?hwT5, ?hyT5⟩) trivial ?reT5
          case hiT5 => (simp only [List.getElem?_toArray, List.getElem?_cons_succ, List.getElem?_cons_zero]; rfl)
          case hQT5 => exact fun _ _ _ h => h
          case hwT5 => rfl
          case hyT5 => (intro wS hSw; go_simp; (try with_reducible rfl))
          try simp only [Act.put, List.setIfInBounds_toArray, List.set_cons_zero, List.set_cons_succ]
          refine' wpAnyT_take (i := 6) (v := _) ?hiT6 (by kernel_rfl) ?hQT6 (Or.inl ⟨?hwT6, ?hyT6⟩) trivial ?reT6
          case hiT6 => (simp only [List.getElem?_toArray, List.getElem?_cons_succ, List.getElem?_cons_zero]; rfl)
          case hQT6 => exact fun _ _ _ h => h
          case hwT6 => rfl
          case hyT6 => (intro wS hSw; go_simp; (try with_reducible rfl))
          try simp only [Act.put, List.setIfInBounds_toArray, List.set_cons_zero, List.set_cons_succ]
          refine' wpAnyT_take (i := 7) (v := _) ?hiT7 (by kernel_rfl) ?hQT7 (Or.inl ⟨?hwT7, ?hyT7⟩) trivial ?reT7
          case hiT7 => (simp only [List.getElem?_toArray, List.getElem?_cons_succ, List.getElem?_cons_zero]; rfl)
          case hQT7 => exact fun _ _ _ h => h
          case hwT7 => rfl
          case hyT7 => (intro wS hSw; go_simp; (try with_reducible rfl))
          try simp only [Act.put, List.setIfInBounds_toArray, List.set_cons_zero, List.set_cons_succ]
          refine wpAnyT_weak (S := SwS g p q (xn, xc, xl, xh) (yn, yc, yl, yh)) (tl := [15, 16, 17]) _ _ _ _ ?_
          refine' wpAnyT_take (i := 8) (v := _) ?hiT8 (by kernel_rfl) ?hQT8 (Or.inl ⟨?hwT8, ?hyT8⟩) hS ?reT8
          case hiT8 => (simp only [List.getElem?_toArray, List.getElem?_cons_succ, List.getElem?_cons_zero]; rfl)
          case hQT8 => exact fun _ _ _ h => h
          case hwT8 => rfl
          case hyT8 => (intro wS hSw; obtain ⟨⟨_, _, _, _⟩, _, _, _, _⟩ := hSw; go_simp; (try with_reducible rfl))
          try simp only [Act.put, List.setIfInBounds_toArray, List.set_cons_zero, List.set_cons_succ]
          refine' wpAnyT_take (i := 9) (v := _) ?hiT9 (by kernel_rfl) ?hQT9 (Or.inl ⟨?hwT9, ?hyT9⟩) hS ?reT9
          case hiT9 => (simp only [List.getElem?_toArray, List.getElem?_cons_succ, List.getElem?_cons_zero]; rfl)
          case hQT9 => exact fun _ _ _ h => h
          case hwT9 => rfl
          case hyT9 => (intro wS hSw; obtain ⟨⟨_, _, _, _⟩, _, _, _, _⟩ := hSw; go_simp; (try with_reducible rfl))
          try simp only [Act.put, List.setIfInBounds_toArray, List.set_cons_zero, List.set_cons_succ]
          refine' wpAnyT_take (i := 10) (v := _) ?hiT10 (by kernel_rfl) ?hQT10 (Or.inl ⟨?hwT10, ?hyT10⟩) hS ?reT10
          case hiT10 => (simp only [List.getElem?_toArray, List.getElem?_cons_succ, List.getElem?_cons_zero]; rfl)
          case hQT10 => exact fun _ _ _ h => h
          case hwT10 => rfl
          case hyT10 => (intro wS hSw; obtain ⟨⟨_, _, _, _⟩, _, _, _, _⟩ := hSw; go_simp; (try with_reducible rfl))
          try simp only [Act.put, List.setIfInBounds_toArray, List.set_cons_zero, List.set_cons_succ]
          refine' wpAnyT_take (i := 11) (v := _) ?hiT11 (by kernel_rfl) ?hQT11 (Or.inl ⟨?hwT11, ?hyT11⟩) hS ?reT11
          case hiT11 => (simp only [List.getElem?_toArray, List.getElem?_cons_succ, List.getElem?_cons_zero]; rfl)
          case hQT11 => exact fun _ _ _ h => h
          case hwT11 => rfl
          case hyT11 => (intro wS hSw; obtain ⟨⟨_, _, _, _⟩, _, _, _, _⟩ := hSw; go_simp; (try with_reducible rfl))
          try simp only [Act.put, List.setIfInBounds_toArray, List.set_cons_zero, List.set_cons_succ]
          refine' wpAnyT_take (i := 12) (v := _) ?hiT12 (by kernel_rfl) ?hQT12 (Or.inl ⟨?hwT12, ?hyT12⟩) hS ?reT12
          case hiT12 => (simp only [List.getElem?_toArray, List.getElem?_cons_succ, List.getElem?_cons_zero]; rfl)
          case hQT12 => exact fun _ _ _ h => h
          case hwT12 => rfl
          case hyT12 => (intro wS hSw; obtain ⟨⟨_, _, _, _⟩, _, _, _, _⟩ := hSw; go_simp; (try with_reducible rfl))
          try simp only [Act.put, List.setIfInBounds_toArray, List.set_cons_zero, List.set_cons_succ]
          refine' wpAnyT_take (i := 13) (v := _) ?hiT13 (by kernel_rfl) ?hQT13 (Or.inl ⟨?hwT13, ?hyT13⟩) hS ?reT13
          case hiT13 => (simp only [List.getElem?_toArray, List.getElem?_cons_succ, List.getElem?_cons_zero]; rfl)
          case hQT13 => exact fun _ _ _ h => h
          case hwT13 => rfl
          case hyT13 => (intro wS hSw; obtain ⟨⟨_, _, _, _⟩, _, _, _, _⟩ := hSw; go_simp; (try with_reducible rfl))
          try simp only [Act.put, List.setIfInBounds_toArray, List.set_cons_zero, List.set_cons_succ]
          refine' wpAnyT_take (i := 14) (v := _) ?hiT14 (by kernel_rfl) ?hQT14 (Or.inl ⟨?hwT14, ?hyT14⟩) hS ?reT14
          case hiT14 => (simp only [List.getElem?_toArray, List.getElem?_cons_succ, List.getElem?_cons_zero]; rfl)
          case hQT14 => exact fun _ _ _ h => h
          case hwT14 => rfl
          case hyT14 => (intro wS hSw; obtain ⟨⟨_, _, _, _⟩, _, _, _, _⟩ := hSw; go_simp; (try with_reducible rfl))
          try simp only [Act.put, List.setIfInBounds_toArray, List.set_cons_zero, List.set_cons_succ]
          have fzd := kd.frozen
          refine wpAnyT_ready (rs := [15]) (by kernel_rfl) (by simp) ?_
          refine' AllReadyT.cons ?hi15 (fun K hK => ?st15) AllReadyT.nil
          case hi15 => (simp only [List.getElem?_toArray, List.getElem?_cons_succ, List.getElem?_cons_zero]; rfl)
          obtain ⟨⟨a0, a1, a2, a3⟩, b0, b1, b2, b3⟩ := hS
          go_simp
          have k2 := putW_blk kd p (yn, yc, yl, yh)
          have F2 := putW_far w1 g p (yn, yc, yl, yh)
          refine hK.out _ _ (fun h => by cases h) (fun _ => ?_)
          clear hK K a0 a1 a2 a3 b0 b1 b2 b3 fzd
          change wpAnyT _ _ _ _ _ _ _ _ _ (putW w1 g p (yn, yc, yl, yh))
          generalize putW w1 g p (yn, yc, yl, yh) = w2 at *
          try simp only [Act.put, List.setIfInBounds_toArray, List.set_cons_zero, List.set_cons_succ]
          have hc : Blk w2 g t (put4 ds p (yn, yc, yl, yh)) := k2
          refine wpAnyT_ready (rs := [16]) (by kernel_rfl) (by simp) ?_
          refine' AllReadyT.cons ?hi16 (fun K hK => ?st16) AllReadyT.nil
          case hi16 => (simp only [List.getElem?_toArray, List.getElem?_cons_succ, List.getElem?_cons_zero]; rfl)
          go_simp
          refine hK.out _ _ (fun h => by cases h) (fun _ => ?_)
          clear hK K
          try simp only [Act.put, List.setIfInBounds_toArray, List.set_cons_zero, List.set_cons_succ]
          have fz2 := hc.frozen
          refine wpAnyT_ready (rs := [17]) (by kernel_rfl) (by simp) ?_
          refine' AllReadyT.cons ?hi17 (fun K hK => ?st17) AllReadyT.nil
          case hi17 => (simp only [List.getElem?_toArray, List.getElem?_cons_succ, List.getElem?_cons_zero]; rfl)
          obtain ⟨c0, c1, c2, c3⟩ := hput'.out.at_ q (by rw [List.length_set]; omega)
          rw [← hc.cell] at c0 c1 c2 c3
          go_simp
          have k3 := putW_blk hc q (xn, xc, xl, xh)
          have F3 := putW_far w2 g q (xn, xc, xl, xh)
          refine hK.out _ _ (fun h => by cases h) (fun _ => ?_)
          clear hK K c0 c1 c2 c3 fz2
          change wpAnyT _ _ _ _ _ _ _ _ _ (putW w2 g q (xn, xc, xl, xh))
          generalize putW w2 g q (xn, xc, xl, xh) = w3 at *
          refine wpAnyT_done (by kernel_rfl) ?_ _
          have F13 := hFd.trans (F2.trans F3)
          have hs3 := Lib.hid (show (put4 (put4 ds p (yn, yc, yl, yh)) q (xn, xc, xl, xh)).size = sz by rw [put4_size, put4_size]; exact hsz.out)
          clear hsz F2 F3 hFd k2 hc kd hput'
          refine noPanic_normal ?_
          go_wp2_with fail
          refine ⟨⟨k0, q, _, by omega, by omega, by omega, rfl, k3, hs3, hput2, F13⟩, ?_⟩
          simp only [intOf]
          omega
        · have hlt' : decide ((i : Int) < (p : Int)) = false := by simpa using hlt
          have hki : i - a = k := by omega
          rw [hki] at hMT
          go_wp2_with fail
          exact bodyPost_ret (results_none (by rfl) _ _ _) rfl ⟨rfl, L k, hMT.out, ⟨ds, hkd, hsz.out, hRd.out⟩, hF⟩
end Go.Proofs.YtpabnbhbcphfiaaGreat
namespace Go.Pol
open Go
theorem cut_nil {l : List Gp} {a b : Nat} (h : b ≤ a) : cut l a b = [] := List.drop_eq_nil_of_le (by simp; omega)
theorem cut_app {l : List Gp} {a c b : Nat} (h1 : a ≤ c) (h2 : c ≤ b) : cut l a b = cut l a c ++ cut l c b := by
  unfold cut
  have e : l.take b = l.take c ++ (l.take b).drop c := by
    have := List.take_append_drop c (l.take b)
    rw [List.take_take, Nat.min_eq_left h2] at this
    exact this.symm
  by_cases h : c ≤ l.length
  · conv => lhs; rw [e]
    rw [List.drop_append_of_le_length (by simp; omega)]
  · rw [List.take_of_length_le (show l.length ≤ b by omega), List.take_of_length_le (show l.length ≤ c by omega), List.drop_eq_nil_of_le (show l.length ≤ c by omega), List.append_nil]
/-- the pieces of a list whose two middle runs have changed places -/
theorem rot_cuts {l : List Gp} {a s m e b mid : Nat} (h1 : a ≤ s) (h2 : s ≤ m) (h3 : m ≤ e) (h4 : e ≤ b) (h5 : b ≤ l.length) (hmid : mid = s + (e - m)) :
    cut (rotL s m e l) a s = cut l a s ∧ cut (rotL s m e l) s mid = cut l m e ∧ cut (rotL s m e l) mid e = cut l s m ∧ cut (rotL s m e l) e b = cut l e b := by
  obtain ⟨P, X1, X2, Y1, Y2, S, g0, g1, g2, g3, g4, rfl⟩ := five h1 h2 h3 h4 h5
  have e1 : cut (P ++ (X1 ++ (X2 ++ (Y1 ++ (Y2 ++ S))))) m e = Y1 := by
    rw [← List.append_assoc X1, ← List.append_assoc P]; exact cut_mid (by simp; omega) (by omega)
  have e2 : cut (P ++ (X1 ++ (X2 ++ (Y1 ++ (Y2 ++ S))))) s m = X2 := by
    rw [← List.append_assoc P]; exact cut_mid (by simp; omega) (by omega)
  have e5 : cut (P ++ (X1 ++ (X2 ++ (Y1 ++ (Y2 ++ S))))) a s = X1 := cut_mid g0 (by omega)
  have e6 : cut (P ++ (X1 ++ (X2 ++ (Y1 ++ (Y2 ++ S))))) e b = Y2 := by
    rw [← List.append_assoc X2, ← List.append_assoc X1, ← List.append_assoc P]; exact cut_mid (by simp; omega) (by omega)
  have cR : rotL s m e (P ++ (X1 ++ (X2 ++ (Y1 ++ (Y2 ++ S))))) = P ++ (X1 ++ (Y1 ++ (X2 ++ (Y2 ++ S)))) := by
    unfold rotL
    have e3 : (P ++ (X1 ++ (X2 ++ (Y1 ++ (Y2 ++ S))))).take s = P ++ X1 := by
      rw [← List.append_assoc P]; exact List.take_left' (by simp; omega)
    have e4 : (P ++ (X1 ++ (X2 ++ (Y1 ++ (Y2 ++ S))))).drop e = Y2 ++ S := by
      rw [show P ++ (X1 ++ (X2 ++ (Y1 ++ (Y2 ++ S)))) = (P ++ (X1 ++ (X2 ++ Y1))) ++ (Y2 ++ S) by simp]; exact List.drop_left' (by simp; omega)
    rw [e1, e2, e3, e4]; simp
  rw [e1, e2, e5, e6, cR]
  refine ⟨cut_mid g0 (by omega), ?_, ?_, ?_⟩
  · rw [← List.append_assoc P]; exact cut_mid (by simp; omega) (by omega)
  · rw [← List.append_assoc X1, ← List.append_assoc P]; exact cut_mid (by simp; omega) (by omega)
  · rw [← List.append_assoc Y1, ← List.append_assoc X1, ← List.append_assoc P]; exact cut_mid (by simp; omega) (by omega)
theorem MergeTo.cut_after {a b c d : Nat} {l l' : List Gp} (h : MergeTo a b l l') (hab : a ≤ b) (hb : b ≤ l.length) (hc : b ≤ c) : cut l' c d = cut l c d := by
  obtain ⟨Z, h1, _, rfl⟩ := h
  have hz := h1.length_eq
  rw [cut_len hb] at hz
  unfold cut
  have e1 : (l.take a ++ (Z ++ l.drop b)).drop c = l.drop c := by
    rw [← List.append_assoc, List.drop_append, List.drop_eq_nil_of_le (by simp; omega), List.nil_append, List.drop_drop]
    congr 1; simp; omega
  rw [List.drop_take, List.drop_take, e1]
theorem sym_fst {l : List Gp} {a s m e b mid : Nat} (h1 : a ≤ s) (h2 : s ≤ m) (h3 : m ≤ e) (h4 : e ≤ b) (h5 : b ≤ l.length) (hmid : mid = s + (e - m))
    (hX : (cut l a m).Pairwise LeX) (hY : (cut l m b).Pairwise LeX) (hT : ∀ x ∈ cut l a m, ∀ y ∈ cut l m b, TieX x y) :
    (cut (rotL s m e l) a s).Pairwise LeX ∧ (cut (rotL s m e l) s mid).Pairwise LeX ∧ (∀ x ∈ cut (rotL s m e l) a s, ∀ y ∈ cut (rotL s m e l) s mid, TieX x y) := by
  obtain ⟨c1, c2, _, _⟩ := rot_cuts h1 h2 h3 h4 h5 hmid
  rw [c1, c2]
  rw [cut_app h1 h2] at hX hT
  rw [cut_app h3 h4] at hY hT
  exact ⟨(List.pairwise_append.1 hX).1, (List.pairwise_append.1 hY).1, fun x hx y hy => hT x (List.mem_append_left _ hx) y (List.mem_append_left _ hy)⟩
theorem sym_snd {l l2 : List Gp} {a s m e b mid : Nat} (h1 : a ≤ s) (h2 : s ≤ m) (h3 : m ≤ e) (h4 : e ≤ b) (h5 : b ≤ l.length) (hmid : mid = s + (e - m))
    (hX : (cut l a m).Pairwise LeX) (hY : (cut l m b).Pairwise LeX) (hT : ∀ x ∈ cut l a m, ∀ y ∈ cut l m b, TieX x y) (hM : MergeTo a mid (rotL s m e l) l2) :
    l2.length = l.length ∧ (cut l2 mid e).Pairwise LeX ∧ (cut l2 e b).Pairwise LeX ∧ (∀ x ∈ cut l2 mid e, ∀ y ∈ cut l2 e b, TieX x y) := by
  obtain ⟨_, _, c3, c4⟩ := rot_cuts h1 h2 h3 h4 h5 hmid
  have hrl := rotL_len (l := l) h2 h3 (by omega)
  have hl := hM.len (by omega) (by rw [hrl]; omega)
  rw [hrl] at hl
  have k1 := hM.cut_after (c := mid) (d := e) (by omega) (by rw [hrl]; omega) (Nat.le_refl _)
  have k2 := hM.cut_after (c := e) (d := b) (by omega) (by rw [hrl]; omega) (by omega)
  rw [k1, k2, c3, c4]
  rw [cut_app h1 h2] at hX hT
  rw [cut_app h3 h4] at hY hT
  exact ⟨hl, (List.pairwise_append.1 hX).2.1, (List.pairwise_append.1 hY).2.1, fun x hx y hy => hT x (List.mem_append_right _ hx) y (List.mem_append_right _ hy)⟩
/-- a half with an empty run is merged -/
theorem merge_triv {l : List Gp} {a s b : Nat} (h1 : a ≤ s) (h2 : s ≤ b) (hn : ¬ (a < s ∧ s < b)) (hX : (cut l a s).Pairwise LeX) (hY : (cut l s b).Pairwise LeX) : MergeTo a b l l := by
  refine .sorted (by omega) ?_
  by_cases h : a < s
  · obtain rfl : s = b := by omega
    exact hX
  · obtain rfl : s = a := by omega
    exact hY
end Go.Pol
namespace Go.Pol
open Go
/-- ascending numbers -/
def AscX (l : List Gp) : Prop := l.Pairwise fun a b => a.1 < b.1
/-- a block has the elements that it had, sorted -/
structure Srt (l0 l : List Gp) (a b : Nat) : Prop where
  perm : (cut l a b).Perm (cut l0 a b)
  srt : (cut l a b).Pairwise LeX
theorem MergeTo.cut_before {a b c d : Nat} {l l' : List Gp} (h : MergeTo a b l l') (hab : a ≤ b) (hb : b ≤ l.length) (hd : d ≤ a) : cut l' c d = cut l c d := by
  obtain ⟨Z, h1, _, rfl⟩ := h
  unfold cut
  rw [List.take_append_of_le_length (by simp; omega), List.take_take, Nat.min_eq_left hd]
theorem MergeTo.cut_in {a b : Nat} {l l' : List Gp} (h : MergeTo a b l l') (hab : a ≤ b) (hb : b ≤ l.length) : (cut l' a b).Perm (cut l a b) ∧ (cut l' a b).Pairwise LeX := by
  obtain ⟨Z, h1, h2, rfl⟩ := h
  have hz := h1.length_eq
  rw [cut_len hb] at hz
  rw [cut_mid (by simp; omega) (by omega)]
  exact ⟨h1, h2⟩
theorem Srt.none (l0 l : List Gp) {a b : Nat} (h : b ≤ a) : Srt l0 l a b := by
  refine ⟨?_, ?_⟩
  · rw [cut_nil h, cut_nil h]
  · rw [cut_nil h]; exact List.Pairwise.nil
theorem Srt.after {l0 l l' : List Gp} {a b c d : Nat} (h : Srt l0 l c d) (hM : MergeTo a b l l') (hab : a ≤ b) (hb : b ≤ l.length) (hc : b ≤ c) : Srt l0 l' c d := by
  have e := hM.cut_after (d := d) hab hb hc
  exact ⟨e ▸ h.perm, e ▸ h.srt⟩
theorem Srt.before {l0 l l' : List Gp} {a b c d : Nat} (h : Srt l0 l c d) (hM : MergeTo a b l l') (hab : a ≤ b) (hb : b ≤ l.length) (hd : d ≤ a) : Srt l0 l' c d := by
  have e := hM.cut_before (c := c) hab hb hd
  exact ⟨e ▸ h.perm, e ▸ h.srt⟩
theorem Srt.both {l0 l l' : List Gp} {a m b : Nat} (h1 : Srt l0 l a m) (h2 : Srt l0 l m b) (ham : a ≤ m) (hmb : m ≤ b) (hb : b ≤ l.length) (hM : MergeTo a b l l') : Srt l0 l' a b := by
  obtain ⟨p, q⟩ := hM.cut_in (by omega) hb
  refine ⟨p.trans ?_, q⟩
  rw [cut_app ham hmb, cut_app (l := l0) ham hmb]
  exact h1.perm.append h2.perm
/-- the elements of a former block have lesser numbers -/
theorem asc_cut {l : List Gp} (h : AscX l) {a m b : Nat} (ham : a ≤ m) (hmb : m ≤ b) : ∀ x ∈ cut l a m, ∀ y ∈ cut l m b, x.1 < y.1 := by
  have hs : (cut l a b).Sublist l := by unfold cut; exact (List.drop_sublist _ _).trans (List.take_sublist _ _)
  have hp := h.sublist hs
  rw [cut_app ham hmb] at hp
  exact (List.pairwise_append.1 hp).2.2
theorem Srt.tie {l0 l : List Gp} {a m b : Nat} (h1 : Srt l0 l a m) (h2 : Srt l0 l m b) (ha : AscX l0) (ham : a ≤ m) (hmb : m ≤ b) : ∀ x ∈ cut l a m, ∀ y ∈ cut l m b, TieX x y :=
  fun x hx y hy _ => Int.le_of_lt (asc_cut ha ham hmb x (h1.perm.mem_iff.1 hx) y (h2.perm.mem_iff.1 hy))
/-- the blocks of a size before a place are sorted -/
def Done (l0 l : List Gp) (bs a : Nat) : Prop := ∀ c, bs ∣ c → c + bs ≤ a → Srt l0 l c (c + bs)
/-- the blocks of a size from a place on are sorted -/
def Blks (l0 l : List Gp) (bs n a : Nat) : Prop := ∀ c, bs ∣ c → a ≤ c → c ≤ n → Srt l0 l c (min (c + bs) n)
theorem dvd_eq {bs a c : Nat} (h1 : bs ∣ a) (h2 : bs ∣ c) (h3 : a ≤ c) (h4 : c < a + bs) : c = a := by
  obtain ⟨x, rfl⟩ := h1
  obtain ⟨y, rfl⟩ := h2
  have : bs * y < bs * (x + 1) := by rw [Nat.mul_succ]; exact h4
  have h5 := Nat.lt_of_mul_lt_mul_left this
  have h6 : bs * x ≤ bs * y := h3
  by_cases hb : bs = 0
  · subst hb; omega
  · have := Nat.le_of_mul_le_mul_left h6 (by omega)
    have : x = y := by omega
    rw [this]
theorem Done.step {l0 l l' : List Gp} {bs a : Nat} (h : Done l0 l bs a) (hd : bs ∣ a) (hb : a + bs ≤ l.length) (hM : MergeTo a (a + bs) l l') (hS : Srt l0 l' a (a + bs)) : Done l0 l' bs (a + bs) := by
  intro c hc hca
  by_cases h1 : c + bs ≤ a
  · exact (h c hc h1).before hM (by omega) hb h1
  · have := dvd_eq hc hd (by omega) (by omega)
    subst this; exact hS
theorem Blks.step {l0 l l' : List Gp} {bs n a b : Nat} (h : Blks l0 l bs n a) (hab : a ≤ b) (hb : b ≤ l.length) (hM : MergeTo a b l l') : Blks l0 l' bs n b :=
  fun c hc hbc hcn => (h c hc (by omega) hcn).after hM hab hb hbc
theorem Blks.of_done {l0 l : List Gp} {bs n a : Nat} (h : Done l0 l bs a) (hd : bs ∣ a) (han : a ≤ n) (hna : n < a + bs) (hS : Srt l0 l a n) : Blks l0 l bs n 0 := by
  intro c hc _ hcn
  by_cases h1 : c + bs ≤ a
  · rw [Nat.min_eq_left (by omega)]; exact h c hc h1
  · have : c = a := by
      by_cases h2 : c ≤ a
      · exact (dvd_eq hc hd h2 (by omega)).symm
      · exact dvd_eq hd hc (by omega) (by omega)
    subst this
    rw [Nat.min_eq_right (by omega)]; exact hS
theorem Blks.end_ {l0 l : List Gp} {bs n : Nat} (h : Blks l0 l bs n 0) (hn : n ≤ bs) : Srt l0 l 0 n := by
  have := h 0 (Nat.dvd_zero _) (Nat.le_refl _) (Nat.zero_le _)
  rwa [Nat.zero_add, Nat.min_eq_right hn] at this
/-- the first phase: blocks that are sorted, and the rest as it was -/
structure Ph1 (l0 l : List Gp) (bs a : Nat) : Prop where
  len : l.length = l0.length
  done : Done l0 l bs a
  rest : ∀ c d, a ≤ c → cut l c d = cut l0 c d
theorem Ph1.start (l0 : List Gp) {bs : Nat} (hb : 0 < bs) : Ph1 l0 l0 bs 0 := ⟨rfl, fun c _ h => by omega, fun _ _ _ => rfl⟩
theorem Ph1.asc {l0 l : List Gp} {bs a b : Nat} (h : Ph1 l0 l bs a) (ha : AscX l0) : AscX (cut l a b) := by
  rw [h.rest a b (Nat.le_refl _)]
  exact List.Pairwise.sublist (by unfold cut; exact (List.drop_sublist _ _).trans (List.take_sublist _ _)) ha
theorem Ph1.srt {l0 l l' : List Gp} {bs a b : Nat} (h : Ph1 l0 l bs a) (hab : a ≤ b) (hb : b ≤ l.length) (hM : MergeTo a b l l') : Srt l0 l' a b := by
  obtain ⟨p, q⟩ := hM.cut_in hab hb
  rw [h.rest a b (Nat.le_refl _)] at p
  exact ⟨p, q⟩
theorem Ph1.step {l0 l l' : List Gp} {bs a : Nat} (h : Ph1 l0 l bs a) (hd : bs ∣ a) (hb : a + bs ≤ l.length) (hM : MergeTo a (a + bs) l l') : Ph1 l0 l' bs (a + bs) :=
  ⟨(hM.len (by omega) hb).trans h.len, h.done.step hd hb hM (h.srt (by omega) hb hM), fun c d hc => (hM.cut_after (by omega) hb hc).trans (h.rest c d (by omega))⟩
theorem Ph1.blks {l0 l l' : List Gp} {bs a n : Nat} (h : Ph1 l0 l bs a) (hd : bs ∣ a) (hn : l.length = n) (han : a ≤ n) (hna : n < a + bs) (hM : MergeTo a n l l') : Blks l0 l' bs n 0 ∧ l'.length = l0.length :=
  ⟨Blks.of_done (fun c hc hca => (h.done c hc hca).before hM han (by omega) hca) hd han hna (h.srt han (by omega) hM), (hM.len han (by omega)).trans h.len⟩
/-- a phase of merges -/
structure Ph2 (l0 l : List Gp) (bs n a : Nat) : Prop where
  len : l.length = n
  done : Done l0 l (2 * bs) a
  rest : Blks l0 l bs n a
theorem Ph2.start {l0 l : List Gp} {bs n : Nat} (h : Blks l0 l bs n 0) (hn : l.length = n) (hb : 0 < bs) : Ph2 l0 l bs n 0 := ⟨hn, fun c _ h => by omega, h⟩
theorem Ph2.fst {l0 l : List Gp} {bs n a : Nat} (h : Ph2 l0 l bs n a) (hd : 2 * bs ∣ a) (han : a + bs ≤ n) : Srt l0 l a (a + bs) := by
  have := h.rest a (Nat.dvd_trans ⟨2, Nat.mul_comm _ _⟩ hd) (Nat.le_refl _) (by omega)
  rwa [Nat.min_eq_left (by omega)] at this
theorem Ph2.snd {l0 l : List Gp} {bs n a : Nat} (h : Ph2 l0 l bs n a) (hd : 2 * bs ∣ a) (han : a + bs ≤ n) : Srt l0 l (a + bs) (min (a + 2 * bs) n) := by
  have := h.rest (a + bs) ((Nat.dvd_add (Nat.dvd_trans ⟨2, Nat.mul_comm _ _⟩ hd) (Nat.dvd_refl _))) (by omega) (by omega)
  rwa [show a + bs + bs = a + 2 * bs by omega] at this
theorem Ph2.step {l0 l l' : List Gp} {bs n a : Nat} (h : Ph2 l0 l bs n a) (hd : 2 * bs ∣ a) (hb : a + 2 * bs ≤ n) (hM : MergeTo a (a + 2 * bs) l l') : Ph2 l0 l' bs n (a + 2 * bs) := by
  have hl := h.len
  have s1 := h.fst hd (by omega)
  have s2 := h.snd hd (by omega)
  rw [Nat.min_eq_left (by omega)] at s2
  exact ⟨(hM.len (by omega) (by omega)).trans hl, h.done.step hd (by omega) hM (s1.both s2 (by omega) (by omega) (by omega) hM), h.rest.step (by omega) (by omega) hM⟩
theorem Ph2.last {l0 l l' : List Gp} {bs n a : Nat} (h : Ph2 l0 l bs n a) (hd : 2 * bs ∣ a) (han : a + bs < n) (hna : n < a + 2 * bs) (hM : MergeTo a n l l') : Blks l0 l' (2 * bs) n 0 ∧ l'.length = n := by
  have hl := h.len
  have s1 := h.fst hd (by omega)
  have s2 := h.snd hd (by omega)
  rw [Nat.min_eq_right (by omega)] at s2
  exact ⟨Blks.of_done (fun c hc hca => (h.done c hc hca).before hM (by omega) (by omega) hca) hd (by omega) hna (s1.both s2 (by omega) (by omega) (by omega) hM), (hM.len (by omega) (by omega)).trans hl⟩
theorem Ph2.none {l0 l : List Gp} {bs n a : Nat} (h : Ph2 l0 l bs n a) (hd : 2 * bs ∣ a) (han : n ≤ a + bs) (hna : n < a + 2 * bs) (ha : a ≤ n) : Blks l0 l (2 * bs) n 0 := by
  have s := h.rest a (Nat.dvd_trans ⟨2, Nat.mul_comm _ _⟩ hd) (Nat.le_refl _) ha
  rw [Nat.min_eq_right han] at s
  exact Blks.of_done h.done hd ha hna s
/-- one element put into a sorted block -/
theorem MergeTo.more {a i : Nat} {l l1 l2 : List Gp} (h1 : MergeTo a i l l1) (h2 : MergeTo a (i + 1) l1 l2) (hai : a ≤ i) (hi : i + 1 ≤ l.length) : MergeTo a (i + 1) l l2 := by
  have hl := h1.len hai (by omega)
  obtain ⟨p1, _⟩ := h1.cut_in hai (by omega)
  obtain ⟨Z, q1, q2, rfl⟩ := h2
  refine ⟨Z, q1.trans ?_, q2, ?_⟩
  · rw [cut_app hai (Nat.le_succ i), cut_app (l := l) hai (Nat.le_succ i), h1.cut_after hai (by omega) (Nat.le_refl _)]
    exact p1.append (List.Perm.refl _)
  · obtain ⟨Y, r1, _, rfl⟩ := h1
    have hy := r1.length_eq
    rw [cut_len (by omega)] at hy
    rw [List.take_left' (by simp; omega), show l.take a ++ (Y ++ l.drop i) = (l.take a ++ Y) ++ l.drop i by simp, List.drop_append, List.drop_eq_nil_of_le (by simp; omega), List.nil_append, List.drop_drop]
    congr 2; congr 1; simp; omega
theorem asc_tie {l l1 : List Gp} {a i b : Nat} (h1 : MergeTo a i l l1) (hA : AscX (cut l a b)) (hai : a ≤ i) (hib : i < b) (hb : b ≤ l.length) : ∀ x ∈ cut l1 a i, TieX x (l1.getD i gp0) := by
  intro x hx _
  have hx' := (h1.cut_in hai (by omega)).1.mem_iff.1 hx
  have e : l1.getD i gp0 = (cut l i b).getD 0 gp0 := by
    rw [← h1.cut_after hai (by omega) (Nat.le_refl _), ← getD_cut (Nat.le_refl i) hib, Nat.sub_self]
  have hA' := hA
  rw [cut_app hai (Nat.le_of_lt hib)] at hA'
  refine Int.le_of_lt ((List.pairwise_append.1 hA').2.2 x hx' _ ?_)
  rw [e, List.getD_eq_getElem?_getD, List.getElem?_eq_getElem (by rw [cut_len hb]; omega)]; simp
/-- the sorted list is the only one -/
theorem srt_eq {l0 l l' : List Gp} (h : AscX l0) (p : l.Perm l0) (s : l.Pairwise LeX) (p' : l'.Perm l0) (s' : l'.Pairwise LeX) : l = l' := by
  refine (p.trans p'.symm).eq_of_pairwise (fun a b ha hb h1 h2 => ?_) s s'
  have ha0 := p.mem_iff.1 ha
  have hb0 := p'.mem_iff.1 hb
  have hn : a.1 = b.1 := by unfold LeX at h1 h2; omega
  apply Classical.byContradiction
  intro hne
  obtain ⟨i, hi, rfl⟩ := List.mem_iff_getElem.1 ha0
  obtain ⟨j, hj, rfl⟩ := List.mem_iff_getElem.1 hb0
  have hp := List.pairwise_iff_getElem.1 h
  rcases Nat.lt_trichotomy i j with h | h | h
  · have := hp i j hi hj h; omega
  · subst h; exact hne rfl
  · have := hp j i hj hi h; omega
end Go.Pol
namespace Go.Pol
open Go
theorem up_here (P : List Gp) (x : Gp) (U S : List Gp) {k : Nat} (hk : k ≤ U.length) : (upL P x U S k).getD (P.length + k) gp0 = x := by
  unfold upL
  rw [← List.append_assoc, getD_app, if_neg (by simp; omega)]
  rw [show P.length + k - (P ++ U.take k).length = 0 by simp; omega]
  rfl
theorem up_below (P : List Gp) (x : Gp) (U S : List Gp) {k j m : Nat} (hk : k ≤ U.length) (hj : j < P.length + k) (hm : m = U.length) : (upL P x U S k).getD j gp0 = (upL P x U S m).getD j gp0 := by
  have e : ∀ i, i ≤ U.length → k ≤ i → (upL P x U S i).getD j gp0 = (P ++ U).getD j gp0 := fun i hi hki => by
    unfold upL
    rw [← List.append_assoc, getD_app, if_pos (by rw [List.length_append, List.length_take]; omega), getD_app, getD_app]
    by_cases h : j < P.length
    · rw [if_pos h, if_pos h]
    · rw [if_neg h, if_neg h]
      simp only [List.getD_eq_getElem?_getD, List.getElem?_take]
      rw [if_pos (by omega)]
  rw [e k hk (Nat.le_refl _), e m (by omega) (by omega)]
theorem MergeTo.one {a : Nat} {l : List Gp} (h : a + 1 ≤ l.length) : MergeTo a (a + 1) l l := by
  refine .sorted (by omega) ?_
  have : (cut l a (a + 1)).length = 1 := by rw [cut_len h]; omega
  obtain ⟨x, hx⟩ := List.length_eq_one_iff.1 this
  rw [hx]; exact List.pairwise_singleton _ _
end Go.Pol
namespace Go.Proofs.YtpabnbhbcphfiaaGreat
open Go Go.Proofs Go.RowKit Go.Pol Go.Shelf
attribute [local go_sem] Oper.semAt_some Go.Pol.wide_fn Go.Pol.wide_depth Go.Pol.wide_fn' Go.Pol.wide_depth'

set_option maxRecDepth 100000 in
set_option maxHeartbeats 4000000 in
theorem insertion_any (g n cap a b : Nat) (t : TypeId) (sz : Nat) (l : List Gp) (w : World) (hr : RowB w g t sz l) (hn : l.length = n) (hab : a ≤ b) (hb : b ≤ n) (hn64 : n ≤ 1000) (hA : AscX (cut l a b)) :
    Calls Tryz.prog 237 #[.slice (some ⟨g, 0, none⟩) n cap, .int .i64 a, .int .i64 b, .func (.func 110) #[] #[]] w fun e w' => e = .returned (.tuple #[]) ∧
      ∃ l', MergeTo a b l l' ∧ RowB w' g t sz l' ∧ Far (fun k => k = g) w w' := by
  have hwa : IntKind.i64.wrap ((a : Int) + 1) = ((a + 1 : Nat) : Int) := by rw [IntKind.wrap_i64]; omega
  by_cases hab2 : a = b
  · subst hab2
    have hM := Lib.hid (MergeTo.sorted (l := l) (Nat.le_refl a) (by rw [cut_nil (Nat.le_refl _)]; exact List.Pairwise.nil))
    have hr' := Lib.hid hr
    clear hr hA
    have h1 : decide (((a + 1 : Nat) : Int) < (a : Int)) = false := by simp; omega
    obtain ⟨a1, ha1⟩ : ∃ a1, a + 1 = a1 := ⟨_, rfl⟩
    rw [ha1] at hwa h1
    go_enter Tryz.func237, Tryz.ntmps237
    go_wp2_with fail
    go_loopw [8] (fun u wr => u = .int .i64 a1 ∧ wr = w) (fun _ _ => 0)
    case atStart => exact ⟨rfl, rfl⟩
    case round =>
      obtain ⟨rfl, hw⟩ := hrel
      have hw' := hw.symm
      clear hw
      subst hw'
      go_wp2_with fail
      go_end0
      exact ⟨rfl, l, hM.out, hr'.out, Far.refl _ _⟩
  · obtain ⟨cs, hk, hcs, hl⟩ := hr
    have hM0 := Lib.hid (MergeTo.one (l := l) (a := a) (by omega))
    have hA' := Lib.hid hA
    have hn' := Lib.hid hn
    have hl' := Lib.hid hl
    have hcs' := Lib.hid hcs
    clear hA hn hl hcs
    obtain ⟨a1, ha1⟩ : ∃ a1, a + 1 = a1 := ⟨_, rfl⟩
    rw [ha1] at hwa hM0
    go_enter Tryz.func237, Tryz.ntmps237
    go_wp2_with fail
    go_loopw [8] (fun u wr => ∃ (i : Nat) (li : List Gp) (ds : Array Value), a + 1 ≤ i ∧ i ≤ b ∧ u = .int .i64 i ∧ Hid (MergeTo a i l li) ∧ Hid (li.length = n) ∧ Blk wr g t ds ∧ Hid (ds.size = sz) ∧ Hid (RowG ds li) ∧ Far (fun k => k = g) w wr) (fun u _ => b - (intOf u).toNat)
    case atStart => exact ⟨a1, l, cs, by omega, by omega, rfl, hM0, hn', hk, hcs', hl', Far.refl _ _⟩
    case round =>
      clear hk hl' hcs' hM0
      obtain ⟨i, li, ds0, hai, hib, rfl, hMi, hli, hk, hcs', hl', hF0⟩ := hrel
      by_cases hlt : i < b
      · have h1 : decide ((i : Int) < (b : Int)) = true := by simpa using hlt
        have hsp := up_split' (l := li) (a := a) (m := i) (by omega) (by have := hli.out; omega)
        have hX : (cut li a i).Pairwise LeX := (hMi.out.cut_in (by omega) (by have := hn'.out; omega)).2
        have hT := asc_tie hMi.out hA'.out (by omega) hlt (by have := hn'.out; omega)
        have hone := Lib.hid (fun p h1 h2 f1 f2 => one_y (l := li) (a := a) (i := p) (m := i) h1 h2 (by have := hli.out; omega) hX hT f1 f2)
        have hlv := Lib.hid (show lvd li i = (li.getD i gp0).2.2.1 from rfl)
        have hPl : (li.take a).length = a := by have := hli.out; simp; omega
        have hUl : (cut li a i).length = i - a := cut_len (by have := hli.out; omega)
        generalize li.getD i gp0 = x at *
        have hU := Lib.hid (And.intro hPl hUl)
        generalize cut li a i = U at *
        generalize hPP : li.take a = P at *
        generalize hSS : li.drop (i + 1) = S at *
        have hrow0 : RowG ds0 (upL P x U S (i - a)) := by rw [← hsp]; exact hl'.out
        have hstep := Lib.hid (fun k (hk : k < U.length) => upL_pred P x U S hk)
        have hlens : ∀ k, (upL P x U S k).length = n := fun k => by
          rw [upL_len, ← hli.out, hsp, upL_len]
        have hhere := Lib.hid (fun k (hk : k ≤ U.length) => up_here P x U S hk)
        have hbel := Lib.hid (fun k j (hk : k ≤ U.length) (hj : j < P.length + k) => (up_below P x U S hk hj hUl.symm).trans (congrArg (fun z => z.getD j gp0) hsp.symm))
        rw [hU.out.1, hU.out.2] at hhere hbel hstep
        generalize upL P x U S = L at *
        have hrow0' := Lib.hid hrow0
        have hlens' := Lib.hid hlens
        clear hX hT hPl hUl hPP hSS hsp hlens hrow0 hl'
        obtain ⟨xn, xc, xl, xh⟩ := x
        go_wp2_with fail
        go_loopw [9] (fun u wr2 => ∃ (k p : Nat) (ds : Array Value), a + k = p ∧ p ≤ i ∧ u = .int .i64 p ∧ Blk wr2 g t ds ∧ Hid (ds.size = sz) ∧ Hid (RowG ds (L k)) ∧ Hid (p < i → lvd li i < lvd li p) ∧ Far (fun k => k = g) w wr2) (fun u _ => (intOf u).toNat)
        case atStart => exact ⟨i - a, i, ds0, by omega, by omega, rfl, hk, hcs', hrow0', Lib.hid (fun h => absurd h (Nat.lt_irrefl _)), hF0⟩
        case round =>
          clear hrow0' hk hcs' hF0
          obtain ⟨k, p, ds, hkp, hpi, rfl, hkd, hsz, hRd, hf2, hF⟩ := hrel
          by_cases hap : a < p
          · have h2 : decide ((a : Int) < (p : Int)) = true := by simpa using hap
            obtain ⟨q, hq⟩ : ∃ q, p - 1 = q := ⟨_, rfl⟩
            obtain ⟨k0, hk0⟩ : ∃ k0, k - 1 = k0 := ⟨_, rfl⟩
            have hqa : IntKind.i64.wrap ((p : Int) - 1) = (q : Int) := by rw [IntKind.wrap_i64]; omega
            have hpn : (p : Int) < (n : Int) := by omega
            have hqn : (q : Int) < (n : Int) := by omega
            have hlen := hlens'.out k
            obtain ⟨x0, x1, x2, x3⟩ := hRd.out.at_ p (by omega)
            obtain ⟨y0, y1, y2, y3⟩ := hRd.out.at_ q (by omega)
            have hxe := hhere.out k (by omega)
            have hye := hbel.out k q (by omega) (by omega)
            rw [hkp] at hxe
            rw [hxe] at x0 x1 x2 x3
            rw [hye] at y0 y1 y2 y3
            rw [← hkd.cell] at x0 x1 x2 x3 y0 y1 y2 y3
            have hlq := Lib.hid (show lvd li q = (li.getD q gp0).2.2.1 from rfl)
            clear hxe hye
            generalize li.getD q gp0 = y at *
            obtain ⟨yn, yc, yl, yh⟩ := y
            have z0 := fun z : Ext wr => z.cell x0
            have z1 := fun z : Ext wr => z.cell x1
            have z2 := fun z : Ext wr => z.cell x2
            have z3 := fun z : Ext wr => z.cell x3
            have v0 := fun z : Ext wr => z.cell y0
            have v1 := fun z : Ext wr => z.cell y1
            have v2 := fun z : Ext wr => z.cell y2
            have v3 := fun z : Ext wr => z.cell y3
            have HC := Lib.hid (fun z : Ext wr => Ext.call (x := z) (choose1_below (xn, xc, xl, xh) (yn, yc, yl, yh) z.w))
            simp only at HC
            have hcl := cmpI_lt xl yl
            generalize cmpI xl yl = c at *
            by_cases hc : xl < yl
            · have hc2 : decide (c < 0) = true := by rw [hcl]; simpa using hc
              clear hcl
              have hf3 := Lib.hid (fun _ : q < i => show lvd li i < lvd li q by rw [hlv.out, hlq.out]; exact hc)
              go_upto_region 4 with fail
              refine region_ext (by kernel_rfl) (by kernel_rfl) ?_
              repeat (go_big_quiet_step ((go_at_call 110; exact HC.out _)))
              refine wpQuiet_nil ?_
              rintro wr ⟨⟨_, hw8⟩, rfl⟩
              replace hkd := hkd.call hw8
              replace hF := hF.trans (.of_below hw8)
              have hnext := Lib.hid (show L k0 = ((L k).set p ((L k).getD q gp0)).set q ((L k).getD p gp0) by
                have h := hstep.out k0 (by omega)
                rw [show k0 + 1 = k by omega, show a + k0 + 1 = p by omega, show a + k0 = q by omega] at h
                rw [← h, sw])
              clear hc hf2 hlq x0 x1 x2 x3 y0 y1 y2 y3 z0 z1 z2 z3 v0 v1 v2 v3 HC hw8
              have hS0 := hRd.out.sw hkd (p := p) (q := q) (by omega) (by omega)
              generalize L k = lk at *
              have hput := hRd.out.put (p := p) (by omega) (lk.getD q gp0)
              have hput2 := Lib.hid (hput.put (p := q) (by rw [List.length_set]; omega) (lk.getD p gp0))
              rw [← hnext.out] at hput2
              have hput' := Lib.hid hput
              clear hput hnext hRd
              generalize hX : lk.getD p gp0 = x at *
              generalize hY : lk.getD q gp0 = y at *
              go_upto_region 6 with fail
              refine wp_noPanic ?_
              refine wp_region_T (fun _ => True) [] (by kernel_rfl) ?_
              have hS : SwS g p q x y wr.drew := hS0
              have kd := hkd.drew
              have hFd := hF.drew
              generalize wr.drew = w1 at *
              obtain ⟨xn, xc, xl, xh⟩ := x
              obtain ⟨yn, yc, yl, yh⟩ := y
              clear hS0 hkd hF hX hY
              refine' wpAnyT_take (i := 0) (v := _) ?hiT0 (by kernel_rfl) ?hQT0 (Or.inl ⟨?hwT0, ?hyT0⟩) trivial ?reT0
              case hiT0 => (simp only [List.getElem?_toArray, List.getElem?_cons_zero]; rfl)
              case hQT0 => exact fun _ _ _ h => h
              case hwT0 => rfl
              case hyT0 => (intro wS hSw; go_simp; (try with_reducible rfl))
              try simp only [Act.put, List.setIfInBounds_toArray, List.set_cons_zero, List.set_cons_succ]
              refine' wpAnyT_take (i := 1) (v := _) ?hiT1 (by kernel_rfl) ?hQT1 (Or.inl ⟨?hwT1, ?hyT1⟩) trivial ?reT1
              case hiT1 => (simp only [List.getElem?_toArray, List.getElem?_cons_succ, List.getElem?_cons_zero]; rfl)
              case hQT1 => exact fun _ _ _ h => h
              case hwT1 => rfl
              case hyT1 => (intro wS hSw; go_simp; (try with_reducible rfl))
              try simp only [Act.put, List.setIfInBounds_toArray, List.set_cons_zero, List.set_cons_succ]
              refine' wpAnyT_take (i := 2) (v := _) ?hiT2 (by kernel_rfl) ?hQT2 (Or.inl ⟨?hwT2, ?hyT2⟩) trivial ?reT2
              case hiT2 => (simp only [List.getElem?_toArray, List.getElem?_cons_succ, List.getElem?_cons_zero]; rfl)
              case hQT2 => exact fun _ _ _ h => h
              case hwT2 => rfl
              case hyT2 => (intro wS hSw; go_simp; (try with_reducible rfl))
              try simp only [Act.put, List.setIfInBounds_toArray, List.set_cons_zero, List.set_cons_succ]
              refine' wpAnyT_take (i := 3) (v := _) ?hiT3 (by kernel_rfl) ?hQT3 (Or.inl ⟨?hwT3, ?hyT3⟩) trivial ?reT3
              case hiT3 => (simp only [List.getElem?_toArray, List.getElem?_cons_succ, List.getElem?_cons_zero]; rfl)
              case hQT3 => exact fun _ _ _ h => h
              case hwT3 => rfl
              case hyT3 => (intro wS hSw; go_simp; (try with_reducible rfl))
              try simp only [Act.put, List.setIfInBounds_toArray, List.set_cons_zero, List.set_cons_succ]
              refine' wpAnyT_take (i := 4) (v := _) ?hiT4 (by kernel_rfl) ?hQT4 (Or.inl ⟨?hwT4, ?hyT4⟩) trivial ?reT4
              case hiT4 => (simp only [List.getElem?_toArray, List.getElem?_cons_succ, List.getElem?_cons_zero]; rfl)
              case hQT4 => exact fun _ _ _ h => h
              case hwT4 => rfl
              case hyT4 => (intro wS hSw; go_simp; (try with_reducible rfl))
              try simp only [Act.put, List.setIfInBounds_toArray, List.set_cons_zero, List.set_cons_succ]
              refine' wpAnyT_take (i := 5) (v := _) ?hiT5 (by kernel_rfl) ?hQT5 (Or.inl ⟨?hwT5, ?hyT5⟩) trivial ?reT5
              case hiT5 => (simp only [List.getElem?_toArray, List.getElem?_cons_succ, List.getElem?_cons_zero]; rfl)
              case hQT5 => exact fun _ _ _ h => h
              case hwT5 => rfl
              case hyT5 => (intro wS hSw; go_simp; (try with_reducible rfl))
              try simp only [Act.put, List.setIfInBounds_toArray, List.set_cons_zero, List.set_cons_succ]
              refine' wpAnyT_take (i := 6) (v := _) ?hiT6 (by kernel_rfl) ?hQT6 (Or.inl ⟨?hwT6, ?hyT6⟩) trivial ?reT6
              case hiT6 => (simp only [List.getElem?_toArray, List.getElem?_cons_succ, List.getElem?_cons_zero]; rfl)
              case hQT6 => exact fun _ _ _ h => h
              case hwT6 => rfl
              case hyT6 => (intro wS hSw; go_simp; (try with_reducible rfl))
              try simp only [Act.put, List.setIfInBounds_toArray, List.set_cons_zero, List.set_cons_succ]
              refine' wpAnyT_take (i := 7) (v := _) ?hiT7 (by kernel_rfl) ?hQT7 (Or.inl ⟨?hwT7, ?hyT7⟩) trivial ?reT7
              case hiT7 => (simp only [List.getElem?_toArray, List.getElem?_cons_succ, List.getElem?_cons_zero]; rfl)
              case hQT7 => exact fun _ _ _ h => h
              case hwT7 => rfl
              case hyT7 => (intro wS hSw; go_simp; (try with_reducible rfl))
              try simp only [Act.put, List.setIfInBounds_toArray, List.set_cons_zero, List.set_cons_succ]
              refine wpAnyT_weak (S := SwS g p q (xn, xc, xl, xh) (yn, yc, yl, yh)) (tl := [15, 16, 17]) _ _ _ _ ?_
              refine' wpAnyT_take (i := 8) (v := _) ?hiT8 (by kernel_rfl) ?hQT8 (Or.inl ⟨?hwT8, ?hyT8⟩) hS ?reT8
              case hiT8 => (simp only [List.getElem?_toArray, List.getElem?_cons_succ, List.getElem?_cons_zero]; rfl)
              case hQT8 => exact fun _ _ _ h => h
              case hwT8 => rfl
              case hyT8 => (intro wS hSw; obtain ⟨⟨_, _, _, _⟩, _, _, _, _⟩ := hSw; go_simp; (try with_reducible rfl))
              try simp only [Act.put, List.setIfInBounds_toArray, List.set_cons_zero, List.set_cons_succ]
              refine' wpAnyT_take (i := 9) (v := _) ?hiT9 (by kernel_rfl) ?hQT9 (Or.inl ⟨?hwT9, ?hyT9⟩) hS ?reT9
              case hiT9 => (simp only [List.getElem?_toArray, List.getElem?_cons_succ, List.getElem?_cons_zero]; rfl)
              case hQT9 => exact fun _ _ _ h => h
              case hwT9 => rfl
              case hyT9 => (intro wS hSw; obtain ⟨⟨_, _, _, _⟩, _, _, _, _⟩ := hSw; go_simp; (try with_reducible rfl))
              try simp only [Act.put, List.setIfInBounds_toArray, List.set_cons_zero, List.set_cons_succ]
              refine' wpAnyT_take (i := 10) (v := _) ?hiT10 (by kernel_rfl) ?hQT10 (Or.inl ⟨?hwT10, ?hyT10⟩) hS ?reT10
              case hiT10 => (simp only [List.getElem?_toArray, List.getElem?_cons_succ, List.getElem?_cons_zero]; rfl)
              case hQT10 => exact fun _ _ _ h => h
              case hwT10 => rfl
              case hyT10 => (intro wS hSw; obtain ⟨⟨_, _, _, _⟩, _, _, _, _⟩ := hSw; go_simp; (try with_reducible rfl))
              try simp only [Act.put, List.setIfInBounds_toArray, List.set_cons_zero, List.set_cons_succ]
              refine' wpAnyT_take (i := 11) (v := _) ?hiT11 (by kernel_rfl) ?hQT11 (Or.inl ⟨?hwT11, ?hyT11⟩) hS ?reT11
              case hiT11 => (simp only [List.getElem?_toArray, List.getElem?_cons_succ, List.getElem?_cons_zero]; rfl)
              case hQT11 => exact fun _ _ _ h => h
              case hwT11 => rfl
              case hyT11 => (intro wS hSw; obtain ⟨⟨_, _, _, _⟩, _, _, _, _⟩ := hSw; go_simp; (try with_reducible rfl))
              try simp only [Act.put, List.setIfInBounds_toArray, List.set_cons_zero, List.set_cons_succ]
              refine' wpAnyT_take (i := 12) (v := _) ?hiT12 (by kernel_rfl) ?hQT12 (Or.inl ⟨?hwT12, ?hyT12⟩) hS ?reT12
              case hiT12 => (simp only [List.getElem?_toArray, List.getElem?_cons_succ, List.getElem?_cons_zero]; rfl)
              case hQT12 => exact fun _ _ _ h => h
              case hwT12 => rfl
              case hyT12 => (intro wS hSw; obtain ⟨⟨_, _, _, _⟩, _, _, _, _⟩ := hSw; go_simp; (try with_reducible rfl))
              try simp only [Act.put, List.setIfInBounds_toArray, List.set_cons_zero, List.set_cons_succ]
              refine' wpAnyT_take (i := 13) (v := _) ?hiT13 (by kernel_rfl) ?hQT13 (Or.inl ⟨?hwT13, ?hyT13⟩) hS ?reT13
              case hiT13 => (simp only [List.getElem?_toArray, List.getElem?_cons_succ, List.getElem?_cons_zero]; rfl)
              case hQT13 => exact fun _ _ _ h => h
              case hwT13 => rfl
              case hyT13 => (intro wS hSw; obtain ⟨⟨_, _, _, _⟩, _, _, _, _⟩ := hSw; go_simp; (try with_reducible rfl))
              try simp only [Act.put, List.setIfInBounds_toArray, List.set_cons_zero, List.set_cons_succ]
              refine' wpAnyT_take (i := 14) (v := _) ?hiT14 (by kernel_rfl) ?hQT14 (Or.inl ⟨?hwT14, ?hyT14⟩) hS ?reT14
              case hiT14 => (simp only [List.getElem?_toArray, List.getElem?_cons_succ, List.getElem?_cons_zero]; rfl)
              case hQT14 => exact fun _ _ _ h => h
              case hwT14 => rfl
              case hyT14 => (intro wS hSw; obtain ⟨⟨_, _, _, _⟩, _, _, _, _⟩ := hSw; go_simp; (try with_reducible rfl))
              try simp only [Act.put, List.setIfInBounds_toArray, List.set_cons_zero, List.set_cons_succ]
              have fzd := kd.frozen
              refine wpAnyT_ready (rs := [15]) (by kernel_rfl) (by simp) ?_
              refine' AllReadyT.cons ?hi15 (fun K hK => ?st15) AllReadyT.nil
              case hi15 => (simp only [List.getElem?_toArray, List.getElem?_cons_succ, List.getElem?_cons_zero]; rfl)
              obtain ⟨⟨a0, a1, a2, a3⟩, b0, b1, b2, b3⟩ := hS
              go_simp
              have k2 := putW_blk kd p (yn, yc, yl, yh)
              have F2 := putW_far w1 g p (yn, yc, yl, yh)
              refine hK.out _ _ (fun h => by cases h) (fun _ => ?_)
              clear hK K a0 a1 a2 a3 b0 b1 b2 b3 fzd
              change wpAnyT _ _ _ _ _ _ _ _ _ (putW w1 g p (yn, yc, yl, yh))
              generalize putW w1 g p (yn, yc, yl, yh) = w2 at *
              try simp only [Act.put, List.setIfInBounds_toArray, List.set_cons_zero, List.set_cons_succ]
              have hc : Blk w2 g t (put4 ds p (yn, yc, yl, yh)) := k2
              refine wpAnyT_ready (rs := [16]) (by kernel_rfl) (by simp) ?_
              refine' AllReadyT.cons ?hi16 (fun K hK => ?st16) AllReadyT.nil
              case hi16 => (simp only [List.getElem?_toArray, List.getElem?_cons_succ, List.getElem?_cons_zero]; rfl)
              go_simp
              refine hK.out _ _ (fun h => by cases h) (fun _ => ?_)
              clear hK K
              try simp only [Act.put, List.setIfInBounds_toArray, List.set_cons_zero, List.set_cons_succ]
              have fz2 := hc.frozen
              refine wpAnyT_ready (rs := [17]) (by kernel_rfl) (by simp) ?_
              refine' AllReadyT.cons ?hi17 (fun K hK => ?st17) AllReadyT.nil
              case hi17 => (simp only [List.getElem?_toArray, List.getElem?_cons_succ, List.getElem?_cons_zero]; rfl)
              obtain ⟨c0, c1, c2, c3⟩ := hput'.out.at_ q (by rw [List.length_set]; omega)
              rw [← hc.cell] at c0 c1 c2 c3
              go_simp
              have k3 := putW_blk hc q (xn, xc, xl, xh)
              have F3 := putW_far w2 g q (xn, xc, xl, xh)
              refine hK.out _ _ (fun h => by cases h) (fun _ => ?_)
              clear hK K c0 c1 c2 c3 fz2
              change wpAnyT _ _ _ _ _ _ _ _ _ (putW w2 g q (xn, xc, xl, xh))
              generalize putW w2 g q (xn, xc, xl, xh) = w3 at *
              refine wpAnyT_done (by kernel_rfl) ?_ _
              have F13 := hFd.trans (F2.trans F3)
              have hs3 := Lib.hid (show (put4 (put4 ds p (yn, yc, yl, yh)) q (xn, xc, xl, xh)).size = sz by rw [put4_size, put4_size]; exact hsz.out)
              clear hsz F2 F3 hFd k2 hc kd hput'
              refine noPanic_normal ?_
              go_wp2_with fail
              refine ⟨⟨k0, q, _, by omega, by omega, rfl, k3, hs3, hput2, hf3, F13⟩, ?_⟩
              simp only [intOf]
              omega
            · have hc2 : decide (c < 0) = false := by rw [hcl]; simpa using hc
              clear hcl
              have hM2 : Hid (MergeTo a (i + 1) l (L k)) := Lib.hid (hMi.out.more (by
                have h := hone.out p (by omega) hpi (fun _ => by rw [show p - 1 = q from hq, hlv.out, hlq.out]; exact Int.not_lt.1 hc) hf2.out
                rwa [show p - a = k by omega] at h) (by omega) (by have := hn'.out; omega))
              go_upto_region 4 with fail
              refine region_ext (by kernel_rfl) (by kernel_rfl) ?_
              repeat (go_big_quiet_step ((go_at_call 110; exact HC.out _)))
              refine wpQuiet_nil ?_
              rintro w8 ⟨⟨_, hw8⟩, rfl⟩
              clear hc hf2
              go_wp2_with fail
              go_roundw
              case rel => exact ⟨i + 1, L k, ds, by omega, by omega, by go_num, hM2, Lib.hid hlen, hkd.call hw8, hsz, hRd, hF.trans (.of_below hw8)⟩
              case measure => simp [intOf]; omega
          · have h2 : decide ((a : Int) < (p : Int)) = false := by simpa using hap
            have hlen := hlens'.out k
            have hM2 : Hid (MergeTo a (i + 1) l (L k)) := Lib.hid (hMi.out.more (by
              have h := hone.out p (by omega) hpi (fun h => absurd h hap) hf2.out
              rwa [show p - a = k by omega] at h) (by omega) (by have := hn'.out; omega))
            go_upto_region 4 with fail
            refine region_ext (by kernel_rfl) (by kernel_rfl) ?_
            repeat (go_big_quiet_step (fail))
            refine wpQuiet_nil ?_
            rintro w8 ⟨⟨_, hw8⟩, rfl⟩
            clear hf2
            go_wp2_with fail
            go_roundw
            case rel => exact ⟨i + 1, L k, ds, by omega, by omega, by go_num, hM2, Lib.hid hlen, hkd.call hw8, hsz, hRd, hF.trans (.of_below hw8)⟩
            case measure => simp [intOf]; omega
      · have h1 : decide ((i : Int) < (b : Int)) = false := by simpa using hlt
        obtain rfl : i = b := by omega
        go_wp2_with fail
        go_end0
        exact ⟨rfl, li, hMi.out, ⟨ds0, hk, hcs'.out, hl'.out⟩, hF0⟩
end Go.Proofs.YtpabnbhbcphfiaaGreat
