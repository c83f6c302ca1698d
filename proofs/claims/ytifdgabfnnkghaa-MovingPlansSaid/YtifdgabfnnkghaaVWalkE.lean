/- slices.SortFunc over blocks, by their pages; slices.SortedFunc over their values. -/
import Derived.Shelf.SlSortCmp.WholeK
import Derived.Shelf.SlSortCmp.NoneTotal
import Derived.Ground.SlsfProg
import Derived.Sort.OwnSortedInts
import Derived.Test.YtifdgabfnnkghaaVLay
import Derived.Test.YtifdgabfnnkghaaVWalkD
namespace Go.Proofs.Ytifdgabfnnkghaa
open Go Go.Proofs Go.RowKit Go.Pol Go.Shelf Go.Sort

def encB (x : B3) : List Value := [.int .i64 x.1, .int .i64 x.2.1, .bool x.2.2]
theorem flat_cellsT (us : List B3) : (flatK encB 3 us.toArray).toList = tCells us := by
  apply List.ext_getElem?
  intro t
  have hl := tCells_len us
  by_cases ht : t < us.length * 3
  · have h1 : (flatK encB 3 us.toArray).toList[t]? = some ((encB us.toArray[t / 3]!)[t % 3]!) := by
      rw [← get_flatK encB 3 us.toArray t (by simpa using ht)]
      rw [Array.getElem?_toList, getElem!_pos _ t (by simpa using ht), Array.getElem?_eq_getElem (by simpa using ht)]
    rw [h1]
    have hk : t / 3 < us.length := by omega
    have hat := tCells_at us (t / 3) hk
    have hg : us.toArray[t / 3]! = us.getD (t / 3) b0 := by
      rw [List.getD_eq_getElem?_getD, List.getElem?_eq_getElem hk, getElem!_pos _ _ (by simpa using hk)]; simp
    rw [hg]
    rcases (show t % 3 = 0 ∨ t % 3 = 1 ∨ t % 3 = 2 by omega) with h | h | h
    · rw [h, show t = t / 3 * 3 by omega, hat.1]; simp [encB]
    · rw [h]
      have e : t = t / 3 * 3 + 1 := by omega
      generalize t / 3 = k at *
      subst e
      rw [hat.2.1]; simp [encB]
    · rw [h]
      have e : t = t / 3 * 3 + 2 := by omega
      generalize t / 3 = k at *
      subst e
      rw [hat.2.2]; simp [encB]
  · rw [List.getElem?_eq_none (by simp; omega), List.getElem?_eq_none (by omega)]
theorem heap_putF {w : World} {g m : Nat} {os : Array Obj} {cur : Array Value} {e : TypeId} {fr : Nat × Nat} (F : Array Value) (hb : w.heap[g]? = some (.cells cur e fr)) :
    (grow (putRow id (Sort.ahead w m) g 0 F) os).heap[g]? = some (.cells (putCells id 0 F cur) e fr) := by
  have hg : g < w.heap.size := (Array.getElem?_eq_some_iff.1 hb).1
  rw [heap_grow_old _ _ (by simpa using hg)]
  simp [putRow, mapBlock, Sort.ahead, Array.getElem?_modify, hb, onCells]
theorem grownBy_putF {w : World} {g m : Nat} {os : Array Obj} (F : Array Value) : w.grownBy (grow (putRow id (Sort.ahead w m) g 0 F) os) (some g) := by
  refine ⟨rfl, rfl, rfl, by simp, fun k hk hne => ?_⟩
  rw [heap_grow_old _ _ (by simpa using hk)]
  have : g ≠ k := fun e => hne (by rw [e])
  simp [putRow, mapBlock, Sort.ahead, Array.getElem?_modify, this]
theorem take_putF (cur F : Array Value) (h : F.size ≤ cur.size) : (putCells id 0 F cur).toList.take F.size = F.toList := by
  apply List.ext_getElem?
  intro j
  by_cases hj : j < F.size
  · rw [List.getElem?_take_of_lt hj, Array.getElem?_toList]
    simp [putCells, hj, show j < cur.size by omega]
  · rw [List.getElem?_take_eq_none (by omega), List.getElem?_eq_none (by simp; omega)]
theorem owns_putT {w : World} {base g n cap m : Nat} {e : TypeId} {os : Array Obj} {xs : List Value} (F : Array Value) (hF : F.size = n * 3) (h : w.ownsRow base e 3 (.slice (some ⟨g, 0, none⟩) n cap) n xs) :
    (grow (putRow id (Sort.ahead w m) g 0 F) os).ownsRow base e 3 (.slice (some ⟨g, 0, none⟩) n cap) n F.toList := by
  rcases h.2 with ⟨h0, _⟩ | ⟨g', cap', cur, hv, hbase, hb, h1, h2, h3, _⟩
  · cases h0
  cases hv
  exact ⟨by simpa using hF, .inr ⟨g, cap, _, rfl, hbase, heap_putF _ hb, h1, h2, by simp [putCells, h3], by rw [← hF]; exact take_putF cur F (by rw [hF, h3]; exact Nat.mul_le_mul_right 3 h1)⟩⟩
theorem holds_ownT {w : World} {base g n cap : Nat} {e : TypeId} {us : List B3} (hn : us.length = n) (h : w.ownsRow base e 3 (.slice (some ⟨g, 0, none⟩) n cap) n (tCells us)) : HoldsK encB 3 w g 0 us.toArray := by
  intro j hj
  have hj' : j < us.length * 3 := by simpa using hj
  rw [Nat.zero_add]
  refine ⟨?_, h.frozenAt j⟩
  rw [h.cellAt j (by omega), ← flat_cellsT, Array.getElem?_toList, getElem!_pos _ j hj, Array.getElem?_eq_getElem hj]
  rfl




theorem isNaN_any (x : Int) (w : World) : Calls Try.prog 54 #[.int .i64 x] w fun e w' => e = .returned (.bool false) ∧ w' = w := by
  go_enter Try.func54, Try.ntmps54
  go_wp2
  go_ret
  exact ⟨by simp, rfl⟩
def cmpI (x y : Int) : Int := if x < y then -1 else if y < x then 1 else 0
theorem compare_any (x y : Int) (w : World) : Calls Try.prog 38 #[.int .i64 x, .int .i64 y] w fun e w' => e = .returned (.int .i64 (cmpI x y)) ∧ w' = w := by
  obtain ⟨R, hR0⟩ : ∃ R, cmpI x y = R := ⟨_, rfl⟩
  rw [hR0]
  have hR := Lib.hid hR0
  clear hR0
  by_cases h1 : x < y
  · have h1' : decide (x < y) = true := by simpa using h1
    have hE : Hid (R = -1) := Lib.hid (by rw [← hR.out, cmpI, if_pos h1])
    clear h1
    go_enter Try.func38, Try.ntmps38
    go_wp2_with (go_at_call 54; refine (isNaN_any _ _).mono ?_; rintro e w' ⟨rfl, rfl⟩)
    go_ret
    exact ⟨ret_int hE.out.symm, rfl⟩
  · have h1' : decide (x < y) = false := by simpa using h1
    by_cases h2 : y < x
    · have h2' : decide (y < x) = true := by simpa using h2
      have hE : Hid (R = 1) := Lib.hid (by rw [← hR.out, cmpI, if_neg h1, if_pos h2])
      clear h1 h2
      go_enter Try.func38, Try.ntmps38
      go_wp2_with (go_at_call 54; refine (isNaN_any _ _).mono ?_; rintro e w' ⟨rfl, rfl⟩)
      go_ret
      exact ⟨ret_int hE.out.symm, rfl⟩
    · have h2' : decide (y < x) = false := by simpa using h2
      have hE : Hid (R = 0) := Lib.hid (by rw [← hR.out, cmpI, if_neg h1, if_neg h2])
      clear h1 h2
      go_enter Try.func38, Try.ntmps38
      go_wp2_with (go_at_call 54; refine (isNaN_any _ _).mono ?_; rintro e w' ⟨rfl, rfl⟩)
      go_ret
      exact ⟨ret_int hE.out.symm, rfl⟩


theorem check2_any (x y : B3) (w : World) : Calls Try.prog 37 #[bV x, bV y] w fun e w' => e = .returned (.int .i64 (cmpI x.1 y.1)) ∧
    w' = (w.alloc (.cells #[.int .i64 x.1, .int .i64 x.2.1, .bool x.2.2] 44)).alloc (.cells #[.int .i64 y.1, .int .i64 y.2.1, .bool y.2.2] 44) := by
  obtain ⟨xa, xo, xc⟩ := x
  obtain ⟨ya, yo, yc⟩ := y
  simp only
  have HC := Lib.hid (fun W => compare_any xa ya W)
  generalize cmpI xa ya = R at *
  go_enter Try.func37, Try.ntmps37
  go_wp2_with (go_at_call 38; refine (HC.out _).mono ?_; rintro e w' ⟨rfl, rfl⟩)
  go_ret
  exact ⟨rfl, rfl⟩
theorem cmpLaysT (blk off size : Nat) (w : World) : CmpLays Try.prog 37 #[] encB 3 (fun x y => cmpI x.1 y.1) blk off size w :=
  fun m os dk _ x y => (check2_any x y _).mono (by rintro e w' ⟨he, rfl⟩; exact ⟨he, 0, _, by rw [alloc_eq_grow, alloc_eq_grow, grow_grow]; rfl⟩)
theorem ltMv (x y : B3) : ltOf (fun x y : B3 => cmpI x.1 y.1) x y = decide (x.1 < y.1) := by
  unfold ltOf cmpI
  by_cases h1 : x.1 < y.1
  · simp [h1]
  · by_cases h2 : y.1 < x.1 <;> simp [h1, h2]
theorem swoMv : SWO (ltOf fun x y : B3 => cmpI x.1 y.1) where
  irrefl x := by rw [ltMv]; simp
  trans x y z h1 h2 := by rw [ltMv] at *; simp at *; omega
  ntrans x y z h1 h2 := by rw [ltMv] at *; simp at *; omega
theorem check2_enters : ∀ args w, (callFunc 37 args).run Try.prog w = .ok (.enter 37 args) w := enters_of Try.func37 (by kernel_rfl) rfl

set_option maxHeartbeats 1000000 in
theorem sortSomeT_any (base : Nat) (v : Value) (us : List B3) (w : World) (hlen : us.length ≤ 100000) (hbase : base ≤ w.heap.size) (hne : us ≠ []) (hrow : w.ownsRow base 44 3 v us.length (tCells us)) :
    Calls Try.prog 52 #[v, .func (.func 37) #[] #[]] w fun e w' => e = .returned (.tuple #[]) ∧ ∃ us' : List B3, us'.Perm us ∧ us'.Pairwise (fun a b => a.1 ≤ b.1) ∧ w'.ownsRow base 44 3 v us.length (tCells us') ∧ Go.RowKit.Below base w w' := by
  have hpos : 0 < us.length := List.length_pos_iff.2 hne
  obtain ⟨g, cap, rfl, hg1, hg2⟩ := hrow.form hpos
  have hcon := AnyQ.slices_SortFunc sortMv 3 Try.isAgg44 Try.sizeOf44 encB (fun _ => rfl) (fun x v hv => by simp [encB] at hv; rcases hv with rfl | rfl | rfl <;> rfl) (fun x y => cmpI x.1 y.1) swoMv 37 #[] g 0 cap us.toArray w check2_enters (cmpLaysT g 0 us.toArray.size w) (holds_ownT rfl hrow) hg2 (by simp; omega)
  change Calls Try.prog 52 _ _ _ at hcon
  rw [List.size_toArray] at hcon
  refine hcon.mono ?_
  rintro e w' ⟨rfl, d', n, os, hp, hs, rfl⟩
  obtain ⟨us'⟩ := d'
  obtain ⟨hp1, _, hp2⟩ := hp
  simp only [List.size_toArray] at hp1 hp2
  refine ⟨rfl, us', by
    have h1 : (Array.extract us'.toArray 0 us.length).toList = us' := by simp [← hp1]
    have h2 : (Array.extract us.toArray 0 us.length).toList = us := by simp
    rw [h1, h2] at hp2; exact hp2, ?_, ?_, ?_⟩
  · rw [List.pairwise_iff_getElem]
    intro i j hi hj hij
    have := hs i j (Nat.zero_le _) hij (by omega)
    rw [ltMv, getElem!_pos _ j (by simpa using hj), getElem!_pos _ i (by simpa using hi)] at this
    simpa using this
  · have := owns_putT (m := n) (os := os) (flatK encB 3 us'.toArray) (by simp [hp1]) hrow
    rw [flat_cellsT] at this
    exact this
  · exact (Go.RowKit.Below.refl base w).grown (grownBy_putF _) hbase (fun j hj => by cases hj; exact hg1)
theorem sortT_any (base : Nat) (v : Value) (us : List B3) (w : World) (hlen : us.length ≤ 100000) (hbase : base ≤ w.heap.size) (hrow : w.ownsRow base 44 3 v us.length (tCells us)) :
    Calls Try.prog 52 #[v, .func (.func 37) #[] #[]] w fun e w' => e = .returned (.tuple #[]) ∧ ∃ us' : List B3, us'.Perm us ∧ us'.Pairwise (fun a b => a.1 ≤ b.1) ∧ w'.ownsRow base 44 3 v us.length (tCells us') ∧ Go.RowKit.Below base w w' := by
  by_cases hne : us = []
  · subst hne
    obtain ⟨A, cap, rfl⟩ := own_nilT hrow rfl
    have h := AnyF.slices_SortFunc_none sortMv A cap (.func (.func 37) #[] #[]) w
    change Calls Try.prog 52 _ _ _ at h
    refine h.mono ?_
    rintro e w' ⟨rfl, rfl⟩
    exact ⟨rfl, [], List.Perm.refl _, List.Pairwise.nil, hrow, Go.RowKit.Below.refl _ _⟩
  · exact sortSomeT_any base v us w hlen hbase hne hrow
theorem sortedT_any (g : Nat) (lb : Array Value) (K : Nat → Prop) (xs : List B3) (w : World) (hxs : xs.length ≤ 100000)
    (hseq : SeqX Try.prog g lb tA (fun _ => False) K xs w) (eg : ∀ args w, (callFunc g args).run Try.prog w = .ok (.enter g args) w) (hK : ∀ k, K k → k < w.heap.size) :
    Calls Try.prog 35 #[.func (.func g) #[] lb, .func (.func 37) #[] #[]] w fun e w' => ∃ (us : List B3) (A : Option Addr) (cap : Nat), us.Perm xs ∧ us.Pairwise (fun a b => a.1 ≤ b.1) ∧ e = .returned (.slice A us.length cap) ∧ RT w' w'.heap.size A us ∧ Go.RowKit.Below w.heap.size w w' := by
  have HA := Lib.hid (collectT_any g lb K xs w (by omega) hseq eg hK)
  go_enter Try.func35, Try.ntmps35
  go_wp2_with fail
  refine HA.out.mono ?_
  rintro e w1 ⟨v, rfl, hown, hb1⟩
  have HS := Lib.hid (sortT_any w.heap.size v xs w1 (by omega) hb1.size hown)
  obtain ⟨A0, cap0, rfl⟩ := own_nilT hown rfl
  go_wp2_with fail
  refine HS.out.mono ?_
  rintro e w2 ⟨rfl, us, hp, hs, hown2, hb2⟩
  obtain ⟨A, cap, e, hrt, _⟩ := own_RT hown2 hp.length_eq
  cases e
  go_wp2_with fail
  go_ret
  exact ⟨us, A0, cap0, hp, hs, by rw [hp.length_eq]; rfl, hrt, hb1.trans hb2⟩
end Go.Proofs.Ytifdgabfnnkghaa
