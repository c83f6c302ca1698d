/- slices.Grow of nil and slices.Concat over usages. -/
import Derived.Lib.AppendZerosOnto
import Derived.Laws.AppendOwnNone
import Derived.Test.YtiohcegkkpeodaaDoorMWalkA
namespace Go.Pol
open Go Go.RowKit
theorem RU.on {w w' : World} {A : Option Addr} {us : List (Int × Int)} (h : RU w w.heap.size A us) (hb : Below w.heap.size w w') : RU w' w'.heap.size A us := (h.below hb).more hb.size
end Go.Pol
namespace Go.Proofs.YtiohcegkkpeodaaDoor
open Go Go.Proofs Go.RowKit Go.Pol Go.Shelf

set_option maxRecDepth 100000 in
set_option maxHeartbeats 1600000 in
theorem grow_any (n : Nat) (hn : n ≤ 100000) (w : World) :
    Calls Tryd.prog 38 #[.slice none 0 0, .int .i64 n] w fun e w' => ∃ v, e = .returned v ∧ w'.ownsRow w.heap.size 48 2 v 0 (spCells []) ∧ Below w.heap.size w w' := by
  obtain ⟨i0, hi, hz0, hz1, hz2⟩ := infoSz_parts
  have h1 : ¬ ((n : Int) < 0) := by omega
  have h1' : decide ((n : Int) < 0) = false := by simp
  by_cases h0 : n = 0
  · subst h0
    go_enter Tryd.func38, Tryd.ntmps38
    go_wp2_with fail
    go_ret
    exact ⟨_, rfl, World.ownsRow_nil _ _ _ _, Below.refl _ _⟩
  · have h4' : decide ((0 : Int) < (n : Int)) = true := by simp; omega
    have hold : (Builtin.firstCells i0.size 0 (.slice none 0 0)).run Tryd.prog w.drew = .ok ([] : List Value).toArray w.drew := run_firstCells_none w.drew i0.size 0 0 0
    have hrz : ∀ ty, (Builtin.append_ #[31, 3] ty #[.slice none 0 0, .int .i64 n]).run Tryd.prog w = _ := fun ty => by
      have h := Lib.run_append_grow_zeros w 31 3 ty 48 i0 (.agg #[.int .i64 0, .int .i64 0]) .i64 .i64 Tryd.underlying31 Tryd.underlying3 hi hz0 none 0 0 [] hold n (by omega) (by rw [hz1]; omega) (by omega) (by omega)
        (by rw [hz2]; omega)
        (growslice_fits (by omega) (by rw [hz2]; omega))
      exact h
    go_enter Tryd.func38, Tryd.ntmps38
    go_wp2_with (at_builtin; refine Lib.wpList_append_run _ rfl _ _ _ _ rfl _ _ rfl rfl _ _ (hrz _) ?_)
    go_ret
    refine ⟨_, rfl, ?_, ?_⟩
    · exact World.ownsRow_made w.drew _ _ (Nat.le_refl _) (grownCap_le_maxLen _ _ _ _ (by unfold maxLen; omega)) (by
        have hg := grownCap_ge w (0 + n) 0 48
        rw [Nat.zero_add] at hg
        simp only [Array.size_append, size_zeroCells, List.size_toArray, List.length_nil, Nat.zero_add, Nat.sub_zero, Value.cells, List.length_cons]
        generalize grownCap w n 0 48 = c at *
        omega)
    · exact ((Below.refl w.heap.size w).drew).alloc (Nat.le_refl _) _

theorem ru_src {w : World} {A : Option Addr} {us : List Sp} (h : RU w w.heap.size A us) : (A = none ∧ us = []) ∨ ∃ ad, A = some ad ∧ ∀ (j : Nat) (u : Value), (spCells us)[j]? = some u → w.cell? (ad.add j) = some u := by
  by_cases h0 : us = []
  · subst h0
    cases A with
    | none => exact .inl ⟨rfl, rfl⟩
    | some ad => exact .inr ⟨ad, rfl, fun j u hu => by simp [spCells] at hu⟩
  · obtain ⟨b, o, rfl, _⟩ := RU.at_' h (k := 0) (List.length_pos_iff.2 h0)
    refine .inr ⟨⟨b, o, none⟩, rfl, fun j u hu => ?_⟩
    have hl := spCells_len us
    have hj : j < us.length * 2 := by
      rw [← hl]; exact (List.getElem?_eq_some_iff.1 hu).1
    obtain ⟨k, hk⟩ : ∃ k, j = k * 2 ∨ j = k * 2 + 1 := ⟨j / 2, by omega⟩
    obtain ⟨b', o', e, _, h1, h2⟩ := RU.at_' h (k := k) (by omega)
    cases e
    have hat := spCells_at us k (by omega)
    rw [Addr.add_lit]
    rcases hk with rfl | rfl
    · rw [hat.1] at hu
      rw [← hu]; exact h1
    · rw [hat.2] at hu
      rw [← hu]; exact h2
theorem spCells_one (us : List Sp) : ∀ u ∈ spCells us, u.oneCell' = true := by
  intro u hu
  simp only [spCells, List.mem_flatMap, List.mem_cons, List.not_mem_nil, or_false] at hu
  obtain ⟨x, _, rfl | rfl⟩ := hu <;> rfl
theorem spCells_append (us vs : List Sp) : spCells (us ++ vs) = spCells us ++ spCells vs := by simp [spCells]

set_option maxRecDepth 100000 in
set_option maxHeartbeats 1600000 in
theorem concat2_any (A1 A2 : Option Addr) (n1 c1 n2 c2 : Nat) (us vs : List Sp) (B : Nat) (w : World) (hn1 : us.length = n1) (hm1 : n1 ≤ 50000) (hr1 : RU w w.heap.size A1 us) (hn2 : vs.length = n2) (hm2 : n2 ≤ 50000) (hr2 : RU w w.heap.size A2 vs)
    (hz1 : A1 = none → c1 = 0) (hz2 : A2 = none → c2 = 0) (kB : Blk w B 31 #[.slice A1 n1 c1, .slice A2 n2 c2]) :
    Calls Tryd.prog 27 #[.slice (some ⟨B, 0, none⟩) 2 2] w fun e w' => ∃ v, e = .returned v ∧ w'.ownsRow w.heap.size 48 2 v (us ++ vs).length (spCells (us ++ vs)) ∧ Below w.heap.size w w' := by
  have z0 := kB.cell
  have h1 := Lib.hid hn1
  have h2 := Lib.hid hn2
  clear hn1 hn2
  go_enter Tryd.func27, Tryd.ntmps27
  go_wp2_with fail
  go_loopw [3, 11] (fun s i wr => wr = w ∧ ((i = .int .i64 0 ∧ s = .int .i64 0) ∨ (i = .int .i64 1 ∧ s = .int .i64 n1) ∨ (i = .int .i64 2 ∧ s = .int .i64 ((n1 : Int) + n2)))) (fun _ i _ => 2 - (intOf i).toNat)
  case atStart => exact ⟨rfl, .inl ⟨rfl, rfl⟩⟩
  case round =>
    obtain ⟨hw, hrel⟩ := hrel
    have hw' := hw.symm
    clear hw
    subst hw'
    rcases hrel with ⟨rfl, rfl⟩ | ⟨rfl, rfl⟩ | ⟨rfl, rfl⟩
    · go_wp2_with fail
      exact ⟨⟨trivial, by simp⟩, by simp [intOf]⟩
    · go_wp2_with fail
      exact ⟨⟨trivial, by simp⟩, by simp [intOf]⟩
    · have HG := Lib.hid (grow_any (n1 + n2) (by omega) w)
      rw [Int.natCast_add] at HG
      go_wp2_with fail
      refine HG.out.mono ?_
      rintro e w1 ⟨v, rfl, hrow, hb1⟩
      have hbs := hb1.size
      obtain ⟨i0, hi, hy0, hy1, hy2⟩ := infoSz_parts
      go_wp2_with fail
      go_loopw [6, 27] (fun v i wq => Below w.heap.size w wq ∧ ((i = .int .i64 0 ∧ wq.ownsRow w.heap.size 48 2 v 0 (spCells [])) ∨ (i = .int .i64 1 ∧ wq.ownsRow w.heap.size 48 2 v n1 (spCells us)) ∨ (i = .int .i64 2 ∧ wq.ownsRow w.heap.size 48 2 v (n1 + n2) (spCells us ++ spCells vs)))) (fun _ i _ => 2 - (intOf i).toNat)
      case atStart => exact ⟨hb1, .inl ⟨rfl, hrow⟩⟩
      case round =>
        obtain ⟨hB, hrel⟩ := hrel
        have kq := kB.call hB
        have zq := kq.cell
        have hBs := hB.size
        rcases hrel with ⟨rfl, hr⟩ | ⟨rfl, hr⟩ | ⟨rfl, hr⟩
        · have r1q := hr1.on hB
          rcases ru_src r1q with ⟨ha, hu⟩ | ⟨ad, ha, hnews⟩
          · have hc := hz1 ha
            subst ha; subst hu; subst hc
            have hn0 : n1 = 0 := by rw [← h1.out]; rfl
            subst hn0
            go_wp2_with (refine wpList_append_own_none rfl (.tmp 31) (.tmp 32) 31 rfl w.heap.size 48 i0 2 Tryd.underlying31 hi _ 0 (spCells []) rfl hr rfl ?_)
            exact ⟨⟨_, _, _, .inr (.inl ⟨rfl, hr⟩), rfl, rfl, rfl⟩, by simp [intOf]⟩
          · subst ha
            go_wp2_with (refine wpList_append_own _ rfl (.tmp 31) (.tmp 32) 31 rfl w.heap.size 48 i0 (.agg #[.int .i64 0, .int .i64 0]) 2 16 Tryd.underlying31 hi hy0 hy1 hy2 rfl (by decide) _ 0 (spCells []) rfl hr ad n1 c1 (spCells us) rfl (by rw [spCells_len, h1.out]) hnews (spCells_one us) (by unfold maxLen; omega) (by omega) hBs ?_; intro v' w3 hown' hgrow _)
            exact ⟨⟨hB.grown hgrow hBs (fun j hj => (hr.lt j hj).1), .inr (.inl ⟨rfl, by simpa [spCells] using hown'⟩)⟩, by simp [intOf]⟩
        · have r2q := hr2.on hB
          rcases ru_src r2q with ⟨ha, hu⟩ | ⟨ad, ha, hnews⟩
          · have hc := hz2 ha
            subst ha; subst hu; subst hc
            have hn0 : n2 = 0 := by rw [← h2.out]; rfl
            subst hn0
            go_wp2_with (refine wpList_append_own_none rfl (.tmp 31) (.tmp 32) 31 rfl w.heap.size 48 i0 2 Tryd.underlying31 hi _ n1 (spCells us) rfl hr rfl ?_)
            exact ⟨⟨_, _, _, .inr (.inr ⟨rfl, by simpa [spCells] using hr⟩), rfl, rfl, rfl⟩, by simp [intOf]⟩
          · subst ha
            go_wp2_with (refine wpList_append_own _ rfl (.tmp 31) (.tmp 32) 31 rfl w.heap.size 48 i0 (.agg #[.int .i64 0, .int .i64 0]) 2 16 Tryd.underlying31 hi hy0 hy1 hy2 rfl (by decide) _ n1 (spCells us) rfl hr ad n2 c2 (spCells vs) rfl (by rw [spCells_len, h2.out]) hnews (spCells_one vs) (by unfold maxLen; omega) (by omega) hBs ?_; intro v' w3 hown' hgrow _)
            exact ⟨⟨hB.grown hgrow hBs (fun j hj => (hr.lt j hj).1), .inr (.inr ⟨rfl, hown'⟩)⟩, by simp [intOf]⟩
        · go_wp2_with fail
          go_ret
          exact ⟨_, rfl, by rw [spCells_append, List.length_append, h1.out, h2.out]; exact hr, hB⟩
end Go.Proofs.YtiohcegkkpeodaaDoor
