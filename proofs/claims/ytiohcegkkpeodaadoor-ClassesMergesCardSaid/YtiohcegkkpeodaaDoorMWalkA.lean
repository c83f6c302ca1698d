/- slices.SortFunc over usages, by their sizes; slices.Grow and slices.Concat. -/
import Derived.Shelf.SlSortCmp.WholeK
import Derived.Shelf.SlSortCmp.NoneTotal
import Derived.Ground.SlsfProg
import Derived.Sort.OwnSortedInts
import Derived.Lib.AppendZerosOnto
import Derived.Laws.AppendOwnNone
import Derived.Test.YtiohcegkkpeodaaDoorMLay
import Derived.Test.YtiohcegkkpeodaaDoorGLibS
import Derived.Test.YtiohcegkkpeodaaDoorSpecM
namespace Go.Proofs.YtiohcegkkpeodaaDoor
open Go Go.Proofs Go.RowKit Go.Pol Go.Shelf Go.Sort

def encSp (x : Sp) : List Value := [.int .i64 x.1, .int .i64 x.2]
theorem flat_cells (us : List Sp) : (flatK encSp 2 us.toArray).toList = spCells us := by
  apply List.ext_getElem?
  intro t
  have hl := spCells_len us
  by_cases ht : t < us.length * 2
  · have h1 : (flatK encSp 2 us.toArray).toList[t]? = some ((encSp us.toArray[t / 2]!)[t % 2]!) := by
      rw [← get_flatK encSp 2 us.toArray t (by simpa using ht)]
      rw [Array.getElem?_toList, getElem!_pos _ t (by simpa using ht), Array.getElem?_eq_getElem (by simpa using ht)]
    rw [h1]
    have hk : t / 2 < us.length := by omega
    have hat := spCells_at us (t / 2) hk
    have hg : us.toArray[t / 2]! = us.getD (t / 2) (0,0) := by
      rw [List.getD_eq_getElem?_getD, List.getElem?_eq_getElem hk, getElem!_pos _ _ (by simpa using hk)]; simp
    rw [hg]
    rcases Nat.mod_two_eq_zero_or_one t with h | h
    · rw [h, show t = t / 2 * 2 by omega, hat.1]; simp [encSp]
    · rw [h]
      have e : t = t / 2 * 2 + 1 := by omega
      generalize t / 2 = k at *
      subst e
      rw [hat.2]; simp [encSp]
  · rw [List.getElem?_eq_none (by simp; omega), List.getElem?_eq_none (by omega)]
theorem heap_putF {w : World} {g m : Nat} {os : Array Obj} {cur : Array Value} {e : TypeId} {fr : Nat × Nat} (F : Array Value) (hb : w.heap[g]? = some (.cells cur e fr)) :
    (grow (putRow id (Sort.ahead w m) g 0 F) os).heap[g]? = some (.cells (putCells id 0 F cur) e fr) := by
  have hg : g < w.heap.size := (Array.getElem?_eq_some_iff.1 hb).1
  rw [heap_grow_old _ _ (by simpa using hg)]
  simp [putRow, mapBlock, Sort.ahead, Array.getElem?_modify, hb, onCells]
theorem grownBy_putF {w : World} {g m : Nat} {os : Array Obj} (F : Array Value) : w.grownBy (grow (putRow id (Sort.ahead w m) g 0 F) os) (some g) := by
  refine ⟨rfl, rfl, rfl, by simp, fun k hk hne => ?_⟩
  rw [heap_grow_old _ _ (by simpa using hk)]
  have : g ≠ k := fun e => hne (by rw [e])
  simp [putRow, mapBlock, Sort.ahead, Array.getElem?_modify, this]
theorem take_putF (cur F : Array Value) (h : F.size ≤ cur.size) : (putCells id 0 F cur).toList.take F.size = F.toList := by
  apply List.ext_getElem?
  intro j
  by_cases hj : j < F.size
  · rw [List.getElem?_take_of_lt hj, Array.getElem?_toList]
    simp [putCells, hj, show j < cur.size by omega]
  · rw [List.getElem?_take_eq_none (by omega), List.getElem?_eq_none (by simp; omega)]
theorem owns_putF {w : World} {base g n cap m : Nat} {e : TypeId} {os : Array Obj} {xs : List Value} (F : Array Value) (hF : F.size = n * 2) (h : w.ownsRow base e 2 (.slice (some ⟨g, 0, none⟩) n cap) n xs) :
    (grow (putRow id (Sort.ahead w m) g 0 F) os).ownsRow base e 2 (.slice (some ⟨g, 0, none⟩) n cap) n F.toList := by
  rcases h.2 with ⟨h0, _⟩ | ⟨g', cap', cur, hv, hbase, hb, h1, h2, h3, _⟩
  · cases h0
  cases hv
  exact ⟨by simpa using hF, .inr ⟨g, cap, _, rfl, hbase, heap_putF _ hb, h1, h2, by simp [putCells, h3], by rw [← hF]; exact take_putF cur F (by rw [hF, h3]; exact Nat.mul_le_mul_right 2 h1)⟩⟩
theorem holds_own {w : World} {base g n cap : Nat} {e : TypeId} {us : List Sp} (hn : us.length = n) (h : w.ownsRow base e 2 (.slice (some ⟨g, 0, none⟩) n cap) n (spCells us)) : HoldsK encSp 2 w g 0 us.toArray := by
  intro j hj
  have hj' : j < us.length * 2 := by simpa using hj
  rw [Nat.zero_add]
  refine ⟨?_, h.frozenAt j⟩
  rw [h.cellAt j (by omega), ← flat_cells, Array.getElem?_toList, getElem!_pos _ j hj, Array.getElem?_eq_getElem hj]
  rfl



/-- a size: what the order of the sort is asked of -/
abbrev Sz := {x : Int × Int // 1 ≤ x.1 ∧ x.1 ≤ 4096}
instance : Inhabited Sz := ⟨⟨(1, 0), by simp, by simp⟩⟩
def encSz (x : Sz) : List Value := encSp x.1
theorem flat_sz (us : List Sz) : flatK encSz 2 us.toArray = flatK encSp 2 (us.map (·.1)).toArray := by
  unfold flatK
  simp only [List.size_toArray, List.length_map]
  apply Array.ext
  · simp
  · intro i h1 h2
    simp only [Array.size_map, Array.size_range] at h1
    have hk : i / 2 < us.length := by omega
    simp only [Array.getElem_map, Array.getElem_range]
    rw [getElem!_pos us.toArray _ (by simpa using hk), getElem!_pos (us.map (·.1)).toArray _ (by simpa using hk)]
    simp [encSz]
theorem infoSz : (Tryd.prog.info? 48).map (fun i => (i.zero, i.size, i.bytes)) = some (some (.agg #[.int .i64 0, .int .i64 0]), 2, 16) := by kernel_rfl
theorem infoSz_parts : ∃ i0, Tryd.prog.info? 48 = some i0 ∧ i0.zero = some (.agg #[.int .i64 0, .int .i64 0]) ∧ i0.size = 2 ∧ i0.bytes = 16 := by
  obtain ⟨i0, h⟩ := info_parts infoSz
  exact ⟨i0, h⟩

theorem merge1_any (x y : Sz) (w : World) : Calls Tryd.prog 29 #[.agg #[.int .i64 x.1.1, .int .i64 x.1.2], .agg #[.int .i64 y.1.1, .int .i64 y.1.2]] w fun e w' => e = .returned (.int .i64 (x.1.1 - y.1.1)) ∧
    w' = (w.alloc (.cells #[.int .i64 x.1.1, .int .i64 x.1.2] 48)).alloc (.cells #[.int .i64 y.1.1, .int .i64 y.1.2] 48) := by
  obtain ⟨⟨x1, x2⟩, hx1, hx2⟩ := x
  obtain ⟨⟨y1, y2⟩, hy1, hy2⟩ := y
  simp only at hx1 hx2 hy1 hy2 ⊢
  go_enter Tryd.func29, Tryd.ntmps29
  go_wp2_with fail
  go_ret
  exact ⟨rfl, rfl⟩
def cmpSz (x y : Sz) : Int := x.1.1 - y.1.1
theorem cmpLays (blk off size : Nat) (w : World) : CmpLays Tryd.prog 29 #[] encSz 2 cmpSz blk off size w :=
  fun m os dk _ x y => (merge1_any x y _).mono (by rintro e w' ⟨he, rfl⟩; exact ⟨he, 0, _, by rw [alloc_eq_grow, alloc_eq_grow, grow_grow]; rfl⟩)
theorem ltSz (x y : Sz) : ltOf cmpSz x y = decide (x.1.1 < y.1.1) := by
  unfold ltOf cmpSz
  rw [Bool.eq_iff_iff]
  simp only [decide_eq_true_eq]
  omega
theorem swoSz : SWO (ltOf cmpSz) where
  irrefl x := by rw [ltSz]; simp
  trans x y z h1 h2 := by rw [ltSz] at *; simp at *; omega
  ntrans x y z h1 h2 := by rw [ltSz] at *; simp at *; omega
theorem merge1_enters : ∀ args w, (callFunc 29 args).run Tryd.prog w = .ok (.enter 29 args) w := enters_of Tryd.func29 (by kernel_rfl) rfl
theorem sz_lift : ∀ us : List (Int × Int), (∀ y ∈ us, 1 ≤ y.1 ∧ y.1 ≤ 4096) → ∃ zs : List Sz, zs.map (·.1) = us
  | [], _ => ⟨[], rfl⟩
  | u :: r, h => by
    obtain ⟨zs, hz⟩ := sz_lift r (fun y hy => h y (by simp [hy]))
    exact ⟨⟨u, h u (by simp)⟩ :: zs, by simp [hz]⟩

set_option maxHeartbeats 1000000 in
/-- the sort of a slice of usages of the call's own that holds some -/
theorem sortSome_any (base : Nat) (v : Value) (us : List (Int × Int)) (w : World) (hin : ∀ y ∈ us, 1 ≤ y.1 ∧ y.1 ≤ 4096) (hlen : us.length ≤ 100000) (hbase : base ≤ w.heap.size) (hne : us ≠ []) (hrow : w.ownsRow base 48 2 v us.length (spCells us)) :
    Calls Tryd.prog 28 #[v, .func (.func 29) #[] #[]] w fun e w' => e = .returned (.tuple #[]) ∧ ∃ us' : List (Int × Int), us'.Perm us ∧ us'.Pairwise (fun a b => a.1 ≤ b.1) ∧ w'.ownsRow base 48 2 v us.length (spCells us') ∧ Go.RowKit.Below base w w' := by
  obtain ⟨zs, rfl⟩ := sz_lift us hin
  have hpos : 0 < (zs.map (·.1)).length := List.length_pos_iff.2 hne
  obtain ⟨g, cap, rfl, hg1, hg2⟩ := hrow.form hpos
  have hH : HoldsK encSz 2 w g 0 zs.toArray := by
    unfold HoldsK
    rw [flat_sz]
    exact holds_own rfl hrow
  have hcon := AnyQ.slices_SortFunc sortSz 2 Tryd.isAgg48 Tryd.sizeOf48 encSz (fun _ => rfl) (fun x v hv => by simp [encSz, encSp] at hv; rcases hv with rfl | rfl <;> rfl) cmpSz swoSz 29 #[] g 0 cap zs.toArray w merge1_enters (cmpLays g 0 zs.toArray.size w) hH hg2 (by have := hlen; simp at this ⊢; omega)
  change Calls Tryd.prog 28 _ _ _ at hcon
  rw [List.size_toArray] at hcon
  rw [List.length_map]
  refine hcon.mono ?_
  rintro e w' ⟨rfl, d', n, os, hp, hs, rfl⟩
  obtain ⟨zs'⟩ := d'
  obtain ⟨hp1, _, hp2⟩ := hp
  simp only [List.size_toArray] at hp1 hp2
  refine ⟨rfl, zs'.map (·.1), by
    have h1 : (Array.extract zs'.toArray 0 zs.length).toList = zs' := by simp [← hp1]
    have h2 : (Array.extract zs.toArray 0 zs.length).toList = zs := by simp
    rw [h1, h2] at hp2; exact hp2.map _, ?_, ?_, ?_⟩
  · rw [List.pairwise_iff_getElem]
    intro i j hi hj hij
    simp only [List.length_map] at hi hj
    have := hs i j (Nat.zero_le _) hij (by omega)
    rw [ltSz, getElem!_pos _ j (by simpa using hj), getElem!_pos _ i (by simpa using hi)] at this
    simpa using this
  · have := owns_putF (m := n) (os := os) (flatK encSz 2 zs'.toArray) (by simp [hp1]) hrow
    rw [flat_sz, flat_cells, List.length_map] at this
    unfold sortWorldK putRowK
    rw [flat_sz]
    exact this
  · exact (Go.RowKit.Below.refl base w).grown (grownBy_putF _) hbase (fun j hj => by cases hj; exact hg1)
theorem sort_any (base : Nat) (v : Value) (us : List (Int × Int)) (w : World) (hin : ∀ y ∈ us, 1 ≤ y.1 ∧ y.1 ≤ 4096) (hlen : us.length ≤ 100000) (hbase : base ≤ w.heap.size) (hrow : w.ownsRow base 48 2 v us.length (spCells us)) :
    Calls Tryd.prog 28 #[v, .func (.func 29) #[] #[]] w fun e w' => e = .returned (.tuple #[]) ∧ ∃ us' : List (Int × Int), us'.Perm us ∧ us'.Pairwise (fun a b => a.1 ≤ b.1) ∧ w'.ownsRow base 48 2 v us.length (spCells us') ∧ Go.RowKit.Below base w w' := by
  by_cases hne : us = []
  · subst hne
    obtain ⟨A, cap, rfl⟩ := own_nil_iff hrow rfl
    have h := AnyF.slices_SortFunc_none sortSz A cap (.func (.func 29) #[] #[]) w
    change Calls Tryd.prog 28 _ _ _ at h
    refine h.mono ?_
    rintro e w' ⟨rfl, rfl⟩
    exact ⟨rfl, [], List.Perm.refl _, List.Pairwise.nil, hrow, Go.RowKit.Below.refl _ _⟩
  · exact sortSome_any base v us w hin hlen hbase hne hrow
end Go.Proofs.YtiohcegkkpeodaaDoor
