/- Walks: the main body of Best. -/
import Derived.Test.YtiohcegkkpeodaaDoorWalkB
import Derived.Test.YtiohcegkkpeodaaDoorWalkE
import Derived.Test.YtiohcegkkpeodaaDoorSpecC
namespace Go.Proofs.YtiohcegkkpeodaaDoor
open Go Go.Proofs Go.RowKit Go.Pol

/-- integers by a function, as cells -/
def fints (f : Nat → Int) (m : Nat) : Array Value := ((List.range m).map fun t => Value.int .i64 (f t)).toArray
theorem fints_get (f : Nat → Int) (m t : Nat) (h : t < m) : (fints f m)[t]? = some (.int .i64 (f t)) := by
  simp [fints, h]
theorem fints_congr {f g : Nat → Int} {m : Nat} (h : ∀ t, t < m → f t = g t) : fints f m = fints g m := by
  unfold fints
  congr 1
  exact List.map_congr_left fun t ht => by rw [h t (List.mem_range.1 ht)]
theorem fints_replicate (m : Nat) (x : Int) : Array.replicate m (Value.int .i64 x) = fints (fun _ => x) m := by
  apply Array.ext_getElem?
  intro i
  by_cases hi : i < m
  · rw [fints_get _ _ _ hi]; simp [hi]
  · have h1 : (fints (fun _ => x) m)[i]? = none := by simp [fints]; omega
    rw [h1]; simp; omega
theorem fints_ints (m : Nat) (x : Int) : ints (List.replicate m x) = fints (fun _ => x) m := by
  rw [← fints_replicate]; simp [ints]
theorem fints_set (f : Nat → Int) (m t : Nat) (v : Int) : (fints f m).setIfInBounds t (.int .i64 v) = fints (fun s => if s = t then v else f s) m := by
  apply Array.ext_getElem?
  intro i
  rw [Array.getElem?_setIfInBounds]
  by_cases hi : i < m
  · rw [fints_get _ _ _ hi]
    by_cases hti : t = i
    · subst hti
      have hs : (fints f m).size = m := by simp [fints]
      rw [if_pos rfl, if_pos (by omega), fints_get _ _ _ hi, if_pos rfl]
    · rw [if_neg hti, fints_get _ _ _ hi, if_neg (Ne.symm hti)]
  · have h1 : (fints f m)[i]? = none := by simp [fints]; omega
    have h2 : (fints (fun s => if s = t then v else f s) m)[i]? = none := by simp [fints]; omega
    rw [h1, h2]
    have hs : (fints f m).size = m := by simp [fints]
    split
    · rw [if_neg (by rename_i e; subst e; omega)]
    · rfl

/-- the blocks of Best are different ones -/
structure BN (w0 : World) (bo bb go gb : Nat) : Prop where
  o : w0.heap.size + 2 ≤ bo
  b : w0.heap.size + 2 ≤ bb
  og : w0.heap.size + 2 ≤ go
  bg : w0.heap.size + 2 ≤ gb
  ob : bo ≠ bb
  gg : go ≠ gb
  oo : bo ≠ go
  o_ : bo ≠ gb
  bo_ : bb ≠ go
  bb_ : bb ≠ gb
/-- what Best has in memory beside its table of least wastes -/
structure BM (us : List (Int × Int)) (A : Option Addr) (n cap : Nat) (w0 : World) (bo bb go gb : Nat) (fo fb : Nat → Int) (wr : World) : Prop where
  below : Below w0.heap.size w0 wr
  u : Blk wr w0.heap.size 31 #[.slice A n cap]
  r : Blk wr (w0.heap.size + 1) 27 #[.slice none 0 0]
  o : Blk wr bo 46 #[.slice (some ⟨go, 0, none⟩) (n + 1) (n + 1)]
  b : Blk wr bb 46 #[.slice (some ⟨gb, 0, none⟩) (n + 1) (n + 1)]
  og : Blk wr go 2 (fints fo (n + 1))
  bg : Blk wr gb 2 (fints fb (n + 1))
  us_ : RU wr w0.heap.size A us
section
variable {us : List (Int × Int)} {A : Option Addr} {n cap : Nat} {w0 : World} {bo bb go gb : Nat} {fo fb : Nat → Int} {wr wr' : World}
theorem BM.call (h : BM us A n cap w0 bo bb go gb fo fb wr) (hb : Below wr.heap.size wr wr') : BM us A n cap w0 bo bb go gb fo fb wr' :=
  have hb' := hb.mono h.below.size
  ⟨h.below.trans hb', h.u.call hb, h.r.call hb, h.o.call hb, h.b.call hb, h.og.call hb, h.bg.call hb, h.us_.below hb'⟩
theorem BM.alloc (h : BM us A n cap w0 bo bb go gb fo fb wr) (o : Obj) : BM us A n cap w0 bo bb go gb fo fb (wr.alloc o) :=
  h.call ((Below.refl _ _).alloc (Nat.le_refl _) o)
theorem BM.drewN (h : BM us A n cap w0 bo bb go gb fo fb wr) (k : Nat) : BM us A n cap w0 bo bb go gb fo fb (wr.drewN k) := h.call (below_drewN (Below.refl _ _) k)
theorem BM.far (h : BM us A n cap w0 bo bb go gb fo fb wr) {p : Addr} (h0 : w0.heap.size + 2 ≤ p.block) (h1 : bo ≠ p.block) (h2 : bb ≠ p.block) (h3 : go ≠ p.block) (h4 : gb ≠ p.block) (v : Value) : BM us A n cap w0 bo bb go gb fo fb (wr.setCell p v) :=
  ⟨h.below.setCell (by omega) v, h.u.far (by omega) v, h.r.far (by omega) v, h.o.far h1 v, h.b.far h2 v, h.og.far h3 v, h.bg.far h4 v, h.us_.keep fun q hq => World.cell?_setCell_other _ _ _ v (fun e => by subst e; omega)⟩
theorem BM.seto (h : BM us A n cap w0 bo bb go gb fo fb wr) (hn : BN w0 bo bb go gb) (t : Nat) (v : Int) : BM us A n cap w0 bo bb go gb (fun s => if s = t then v else fo s) fb (wr.setCell ⟨go, t, none⟩ (.int .i64 v)) :=
  have h0 := hn.og
  ⟨h.below.setCell (p := ⟨go, t, none⟩) (by simp only; omega) _, h.u.far (p := ⟨go, t, none⟩) (by simp only; omega) _, h.r.far (p := ⟨go, t, none⟩) (by simp only; omega) _, h.o.far (p := ⟨go, t, none⟩) hn.oo _, h.b.far (p := ⟨go, t, none⟩) hn.bo_ _,
    by rw [← fints_set]; exact h.og.set_ t _, h.bg.far (p := ⟨go, t, none⟩) (Ne.symm hn.gg) _, h.us_.keep fun q hq => World.cell?_setCell_other _ _ _ _ (fun e => by subst e; simp only at hq; omega)⟩
theorem BM.setb (h : BM us A n cap w0 bo bb go gb fo fb wr) (hn : BN w0 bo bb go gb) (t : Nat) (v : Int) : BM us A n cap w0 bo bb go gb fo (fun s => if s = t then v else fb s) (wr.setCell ⟨gb, t, none⟩ (.int .i64 v)) :=
  have h0 := hn.bg
  ⟨h.below.setCell (p := ⟨gb, t, none⟩) (by simp only; omega) _, h.u.far (p := ⟨gb, t, none⟩) (by simp only; omega) _, h.r.far (p := ⟨gb, t, none⟩) (by simp only; omega) _, h.o.far (p := ⟨gb, t, none⟩) hn.o_ _, h.b.far (p := ⟨gb, t, none⟩) hn.bb_ _,
    h.og.far (p := ⟨gb, t, none⟩) hn.gg _, by rw [← fints_set]; exact h.bg.set_ t _, h.us_.keep fun q hq => World.cell?_setCell_other _ _ _ _ (fun e => by subst e; simp only at hq; omega)⟩
theorem BM.congr {fo' fb' : Nat → Int} (h : BM us A n cap w0 bo bb go gb fo fb wr) (e1 : ∀ t, t < n + 1 → fo t = fo' t) (e2 : ∀ t, t < n + 1 → fb t = fb' t) : BM us A n cap w0 bo bb go gb fo' fb' wr :=
  ⟨h.below, h.u, h.r, h.o, h.b, by rw [← fints_congr e1]; exact h.og, by rw [← fints_congr e2]; exact h.bg, h.us_⟩
theorem BM.under {B : Nat} (h : BM us A n cap w0 bo bb go gb fo fb wr) (hb : Below B wr wr') (h0 : w0.heap.size + 2 ≤ B) (h1 : bo < B) (h2 : bb < B) (h3 : go < B) (h4 : gb < B) : BM us A n cap w0 bo bb go gb fo fb wr' :=
  ⟨h.below.trans (hb.mono (by omega)), h.u.below hb (by omega), h.r.below hb (by omega), h.o.below hb h1, h.b.below hb h2, h.og.below hb h3, h.bg.below hb h4, h.us_.below (hb.mono (by omega))⟩
theorem own_call {w w' : World} {base : Nat} {e : TypeId} {size n : Nat} {v : Value} {xs : List Value} (h : w.ownsRow base e size v n xs) (hb : Below w.heap.size w w') : w'.ownsRow base e size v n xs :=
  h.kept (row := none) ⟨hb.os, hb.tape, hb.output, hb.size, fun i hi _ => hb.block i hi⟩ (by cases v.ownBlock <;> simp)
theorem BM.cu (h : BM us A n cap w0 bo bb go gb fo fb wr) : wr.cell? ⟨w0.heap.size, 0, none⟩ = some (.slice A n cap) := h.u.cell 0
theorem BM.co (h : BM us A n cap w0 bo bb go gb fo fb wr) : wr.cell? ⟨bo, 0, none⟩ = some (.slice (some ⟨go, 0, none⟩) (n + 1) (n + 1)) := h.o.cell 0
theorem BM.cb (h : BM us A n cap w0 bo bb go gb fo fb wr) : wr.cell? ⟨bb, 0, none⟩ = some (.slice (some ⟨gb, 0, none⟩) (n + 1) (n + 1)) := h.b.cell 0
theorem BM.oc (h : BM us A n cap w0 bo bb go gb fo fb wr) (t : Nat) (ht : t < n + 1) : wr.cell? ⟨go, t, none⟩ = some (.int .i64 (fo t)) := (h.og.cell t).trans (fints_get _ _ _ ht)
theorem BM.bc (h : BM us A n cap w0 bo bb go gb fo fb wr) (t : Nat) (ht : t < n + 1) : wr.cell? ⟨gb, t, none⟩ = some (.int .i64 (fb t)) := (h.bg.cell t).trans (fints_get _ _ _ ht)
end

/-- the table of least wastes: its m first rows are made -/
def lcells (G : Nat → Nat) (m K n : Nat) : Array Value := ((List.range (K + 1)).map fun j => if j < m then Value.slice (some ⟨G j, 0, none⟩) (n + 1) (n + 1) else .slice none 0 0).toArray
theorem lcells_get (G : Nat → Nat) (m K n j : Nat) (hj : j ≤ K) : (lcells G m K n)[j]? = some (if j < m then Value.slice (some ⟨G j, 0, none⟩) (n + 1) (n + 1) else .slice none 0 0) := by
  have : j < K + 1 := by omega
  simp [lcells, this]
theorem lcells_zero (G : Nat → Nat) (K n : Nat) : Array.replicate (K + 1) (Value.slice none 0 0) = lcells G 0 K n := by
  apply Array.ext_getElem?
  intro i
  by_cases hi : i ≤ K
  · rw [lcells_get _ _ _ _ _ hi, if_neg (by omega)]
    have : i < K + 1 := by omega
    simp [this]
  · have h1 : (lcells G 0 K n)[i]? = none := by simp [lcells]; omega
    rw [h1]; simp; omega
theorem lcells_set (G : Nat → Nat) (m K n g : Nat) (hm : m ≤ K) : (lcells G m K n).setIfInBounds m (.slice (some ⟨g, 0, none⟩) (n + 1) (n + 1)) = lcells (fun j => if j = m then g else G j) (m + 1) K n := by
  apply Array.ext_getElem?
  intro i
  rw [Array.getElem?_setIfInBounds]
  have hs : (lcells G m K n).size = K + 1 := by simp [lcells]
  by_cases hi : i ≤ K
  · rw [lcells_get _ _ _ _ _ hi, lcells_get _ _ _ _ _ hi]
    by_cases hmi : m = i
    · subst hmi
      rw [if_pos rfl, if_pos (by omega), if_pos (by omega), if_pos rfl]
    · rw [if_neg hmi]
      by_cases hlt : i < m
      · rw [if_pos hlt, if_pos (by omega), if_neg (by omega)]
      · rw [if_neg hlt, if_neg (by omega)]
  · have h1 : (lcells G m K n)[i]? = none := by simp [lcells]; omega
    have h2 : (lcells (fun j => if j = m then g else G j) (m + 1) K n)[i]? = none := by simp [lcells]; omega
    rw [h1, h2]
    split
    · rename_i e; subst e; omega
    · rfl
/-- rows 0 .. m - 1 are done, row m reads as 'f' -/
structure RC (us : List (Int × Int)) (n K : Nat) (w0 : World) (gL go gb : Nat) (G : Nat → Nat) (m : Nat) (f : Nat → Int) (wr : World) : Prop where
  L : Blk wr gL 46 (lcells G (m + 1) K n)
  row : ∀ j, j < m → Blk wr (G j) 2 (fints (rowF us j) (n + 1))
  cur : Blk wr (G m) 2 (fints f (n + 1))
  ne : ∀ i j, i ≤ m → j ≤ m → i ≠ j → G i ≠ G j
  no : ∀ j, j ≤ m → G j ≠ go ∧ G j ≠ gb ∧ w0.heap.size + 2 ≤ G j
section
variable {us : List (Int × Int)} {n K : Nat} {w0 : World} {gL go gb : Nat} {G : Nat → Nat} {m : Nat} {f : Nat → Int} {wr wr' : World}
theorem RC.call (h : RC us n K w0 gL go gb G m f wr) (hb : Below wr.heap.size wr wr') : RC us n K w0 gL go gb G m f wr' :=
  ⟨h.L.call hb, fun j hj => (h.row j hj).call hb, h.cur.call hb, h.ne, h.no⟩
theorem RC.alloc (h : RC us n K w0 gL go gb G m f wr) (o : Obj) : RC us n K w0 gL go gb G m f (wr.alloc o) := h.call ((Below.refl _ _).alloc (Nat.le_refl _) o)
theorem RC.congr {f' : Nat → Int} (h : RC us n K w0 gL go gb G m f wr) (e : ∀ t, t < n + 1 → f t = f' t) : RC us n K w0 gL go gb G m f' wr :=
  ⟨h.L, h.row, by rw [← fints_congr e]; exact h.cur, h.ne, h.no⟩
theorem RC.set_ (h : RC us n K w0 gL go gb G m f wr) (t : Nat) (v : Int) : RC us n K w0 gL go gb G m (fun s => if s = t then v else f s) (wr.setCell ⟨G m, t, none⟩ (.int .i64 v)) :=
  ⟨h.L.far (p := ⟨G m, t, none⟩) (h.L.ne_ h.cur (by decide)) _, fun j hj => (h.row j hj).far (p := ⟨G m, t, none⟩) (h.ne j m (by omega) (Nat.le_refl _) (by omega)) _, by rw [← fints_set]; exact h.cur.set_ t _, h.ne, h.no⟩
theorem RC.next (h : RC us n K w0 gL go gb G m f wr) (hf : ∀ t, t < n + 1 → f t = rowF us m t) (hm : m + 1 ≤ K) (g0 : Nat) (w1 w2 : World) (hb : Below wr.heap.size wr w2) (hg : wr.heap.size ≤ g0) (x : Int)
    (hk : Blk w2 g0 2 (fints (fun _ => x) (n + 1))) (hgo : go < wr.heap.size) (hgb : gb < wr.heap.size) (hw0 : w0.heap.size + 2 ≤ wr.heap.size) (hw1 : w1 = w2.setCell ⟨gL, m + 1, none⟩ (.slice (some ⟨g0, 0, none⟩) (n + 1) (n + 1))) :
    RC us n K w0 gL go gb (fun j => if j = m + 1 then g0 else G j) (m + 1) (fun _ => x) w1 := by
  subst hw1
  have hL := h.L.call hb
  have hrow : ∀ j, j ≤ m → Blk w2 (G j) 2 (fints (rowF us j) (n + 1)) := fun j hj => by
    by_cases e : j = m
    · subst e; rw [← fints_congr hf]; exact h.cur.call hb
    · exact (h.row j (by omega)).call hb
  have hlt : ∀ j, j ≤ m → G j < wr.heap.size := fun j hj => by
    by_cases e : j = m
    · subst e; exact h.cur.lt
    · exact (h.row j (by omega)).lt
  refine ⟨?_, fun j hj => ?_, ?_, fun i j hi hj hij => ?_, fun j hj => ?_⟩
  · rw [← lcells_set _ _ _ _ _ hm]; exact hL.set_ _ _
  · rw [if_neg (by omega)]
    exact (hrow j (by omega)).far (p := ⟨gL, m + 1, none⟩) (Ne.symm (hL.ne_ (hrow j (by omega)) (by decide))) _
  · rw [if_pos rfl]
    exact hk.far (p := ⟨gL, m + 1, none⟩) (Ne.symm (hL.ne_ hk (by decide))) _
  · show (if i = m + 1 then g0 else G i) ≠ (if j = m + 1 then g0 else G j)
    by_cases e1 : i = m + 1
    · rw [if_pos e1, if_neg (by omega)]; have := hlt j (by omega); omega
    · by_cases e2 : j = m + 1
      · rw [if_neg e1, if_pos e2]; have := hlt i (by omega); omega
      · rw [if_neg e1, if_neg e2]; exact h.ne i j (by omega) (by omega) hij
  · show (if j = m + 1 then g0 else G j) ≠ go ∧ (if j = m + 1 then g0 else G j) ≠ gb ∧ w0.heap.size + 2 ≤ (if j = m + 1 then g0 else G j)
    by_cases e : j = m + 1
    · rw [if_pos e]; omega
    · rw [if_neg e]; exact h.no j (by omega)
theorem RC.cL (h : RC us n K w0 gL go gb G m f wr) (j : Nat) (hj : j ≤ m) (hm : m ≤ K) : wr.cell? ⟨gL, j, none⟩ = some (.slice (some ⟨G j, 0, none⟩) (n + 1) (n + 1)) :=
  ((h.L.cell j).trans (lcells_get _ _ _ _ _ (by omega))).trans (by rw [if_pos (by omega)])
theorem RC.cr (h : RC us n K w0 gL go gb G m f wr) (j t : Nat) (hj : j < m) (ht : t < n + 1) : wr.cell? ⟨G j, t, none⟩ = some (.int .i64 (rowF us j t)) := ((h.row j hj).cell t).trans (fints_get _ _ _ ht)
theorem RC.ca (h : RC us n K w0 gL go gb G K (rowF us K) wr) (j t : Nat) (hj : j ≤ K) (ht : t < n + 1) : wr.cell? ⟨G j, t, none⟩ = some (.int .i64 (rowF us j t)) := by
  by_cases e : j = K
  · subst e; exact (h.cur.cell t).trans (fints_get _ _ _ ht)
  · exact ((h.row j (by omega)).cell t).trans (fints_get _ _ _ ht)
theorem RC.far (h : RC us n K w0 gL go gb G m f wr) {p : Addr} (h1 : gL ≠ p.block) (h2 : ∀ j, j ≤ m → G j ≠ p.block) (v : Value) : RC us n K w0 gL go gb G m f (wr.setCell p v) :=
  ⟨h.L.far h1 v, fun j hj => (h.row j hj).far (h2 j (by omega)) v, h.cur.far (h2 m (Nat.le_refl _)) v, h.ne, h.no⟩
theorem RC.below {B : Nat} (h : RC us n K w0 gL go gb G m f wr) (hb : Below B wr wr') (h1 : gL < B) (h2 : ∀ j, j ≤ m → G j < B) : RC us n K w0 gL go gb G m f wr' :=
  ⟨h.L.below hb h1, fun j hj => (h.row j hj).below hb (h2 j (by omega)), h.cur.below hb (h2 m (Nat.le_refl _)), h.ne, h.no⟩
theorem RC.lt (h : RC us n K w0 gL go gb G m f wr) (j : Nat) (hj : j ≤ m) : G j < wr.heap.size := by
  by_cases e : j = m
  · subst e; exact h.cur.lt
  · exact (h.row j (by omega)).lt
theorem RC.cc (h : RC us n K w0 gL go gb G m f wr) (t : Nat) (ht : t < n + 1) : wr.cell? ⟨G m, t, none⟩ = some (.int .i64 (f t)) := (h.cur.cell t).trans (fints_get _ _ _ ht)
end

theorem info_s69 : (Tryd.prog.info? 46).map (fun i => (i.zero, i.size, i.bytes)) = some (some (.slice none 0 0), 1, 24) := by kernel_rfl

/-- the call of cost, in whatever later world -/
theorem cost_bm {us : List (Int × Int)} {A : Option Addr} {n cap : Nat} {w0 : World} {bo bb go gb : Nat} {wr : World} (hok : okU us) (hn : us.length = n) (h : BM us A n cap w0 bo bb go gb (objF us) (bytF us) wr) (i j : Nat) (hij : i ≤ j) (hj : j < n) (hn2 : n ≤ 1000) (x : Ext wr) :
    Calls Tryd.prog 21 #[.int .i64 i, .int .i64 j, .pointer (some ⟨bo, 0, none⟩), .pointer (some ⟨w0.heap.size, 0, none⟩), .pointer (some ⟨bb, 0, none⟩)] x.w fun e w'' => e = .returned (.int .i64 (costF us i j)) ∧ ∃ y : Ext wr, w'' = y.w := by
  have hx := h.call x.le
  obtain ⟨ua, uo, rfl, _, hc, _⟩ := RU.at_' hx.us_ (k := j) (by omega)
  have ho := hok.obj (i := i) (j := j + 1) (by omega) (by omega)
  have hb := hok.byt (i := i) (j := j + 1) (by omega) (by omega)
  have hs := hok.at_ j (by omega)
  exact Ext.draws (cost_any x.w i j n bo w0.heap.size bb go gb ua uo cap (n + 1) (n + 1) _ _ _ _ _ hij (by omega) hn2 hx.co hx.cu hx.cb (hx.oc (j + 1) (by omega)) (hx.oc i (by omega)) hc (hx.bc (j + 1) (by omega)) (hx.bc i (by omega)) ⟨ho.1, ho.2.1, by omega⟩ (by omega) ⟨hb.1, hb.2.1, by omega⟩)
theorem cost_bm' {us : List (Int × Int)} {A : Option Addr} {n cap : Nat} {w0 : World} {bo bb go gb : Nat} {wr : World} (hok : okU us) (hn : us.length = n) (h : BM us A n cap w0 bo bb go gb (objF us) (bytF us) wr) (i j : Nat) (hij : i ≤ j) (hj : j < n) (hn2 : n ≤ 1000) (c : Int) (hc : costF us i j = c) (x : Ext wr) :
    Calls Tryd.prog 21 #[.int .i64 i, .int .i64 j, .pointer (some ⟨bo, 0, none⟩), .pointer (some ⟨w0.heap.size, 0, none⟩), .pointer (some ⟨bb, 0, none⟩)] x.w fun e w'' => e = .returned (.int .i64 c) ∧ ∃ y : Ext wr, w'' = y.w := by
  subst hc; exact cost_bm hok hn h i j hij hj hn2 x
end Go.Proofs.YtiohcegkkpeodaaDoor
