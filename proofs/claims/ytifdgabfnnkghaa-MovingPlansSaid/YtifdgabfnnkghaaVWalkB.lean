/- Walk: the reference's Check of blocks. -/
import Derived.Test.YtifdgabfnnkghaaVWalkA
namespace Go.Pol
theorem any_false_iff {α : Type} {p : α → Bool} {l : List α} : l.any p = false ↔ ∀ x ∈ l, p x = false := by
  induction l with
  | nil => simp
  | cons a r ih => simp [ih]
theorem getD_memB {bs : List B3} {k : Nat} (h : k < bs.length) : bs.getD k b0 ∈ bs := by
  rw [List.getD_eq_getElem?_getD, List.getElem?_eq_getElem h]; simp
theorem all_getD {bs : List B3} {p : B3 → Prop} : (∀ x ∈ bs, p x) ↔ ∀ k, k < bs.length → p (bs.getD k b0) :=
  ⟨fun h k hk => h _ (getD_memB hk), fun h x hx => by
    obtain ⟨i, hi, rfl⟩ := List.getElem_of_mem hx
    have := h i hi
    simpa [List.getD_eq_getElem?_getD, hi] using this⟩
end Go.Pol
namespace Go.Proofs.Ytifdgabfnnkghaa
open Go Go.Proofs Go.RowKit Go.Pol
theorem ins_okPl {pages : Int} {x : B3} (hp : pages ≤ 1024) (h : insB pages x.1 x.2.1 = true) : okPl x := by
  have h' := insB_iff.1 h
  have := pw_pos x.2.1
  exact ⟨⟨by omega, by omega⟩, h'.1.1, h'.1.2⟩

set_option maxRecDepth 100000 in
set_option maxHeartbeats 1600000 in
theorem refCheck_any (pages : Int) (A : Option Addr) (n cap : Nat) (bs : List B3) (w : World) (hn : bs.length = n) (hm : n ≤ maxLen) (hr : RT w w.heap.size A bs) :
    Calls Try.prog 15 #[.int .i64 pages, .slice A n cap] w fun e w' => e = .returned (.int .i64 (chkB pages bs)) ∧ Below w.heap.size w w' := by
  unfold maxLen at hm
  have HS := Lib.hid (fun W => refSpace_any pages W)
  have hE := Lib.hid (show chkB pages bs = if spaceB pages = false then 2 else if 64 < bs.length then 3 else if bs.any (fun b => !insB pages b.1 b.2.1) = true then 7 else if clash bs = true then 8 else 0 from rfl)
  have hsp : Hid (spaceB pages = true → 1 ≤ pages ∧ pages ≤ 1024) := Lib.hid (fun h => spaceB_bound h)
  generalize chkB pages bs = R at *
  have hn' := Lib.hid hn
  cases hs : spaceB pages with
  | false =>
    rw [hs] at HS
    have hR : Hid (R = 2) := Lib.hid (by rw [hE.out, if_pos hs])
    clear hE hs hsp hn
    go_enter Try.func15, Try.ntmps15
    go_wp2_with (go_at_call 40; refine (HS.out _).mono ?_; rintro e w ⟨rfl, rfl⟩)
    go_ret
    exact ⟨ret_int hR.out.symm, Below.refl _ _⟩
  | true =>
    rw [hs] at HS
    have hpb := hsp.out hs
    have hE2 : Hid (R = if 64 < n then 3 else if bs.any (fun b => !insB pages b.1 b.2.1) = true then 7 else if clash bs = true then 8 else 0) := Lib.hid (by rw [hE.out, if_neg (by simp [hs]), hn])
    clear hE hs hsp hn
    by_cases h64 : 64 < n
    · have h64' : decide ((64 : Int) < (n : Int)) = true := by simp; omega
      have hR : Hid (R = 3) := Lib.hid (by rw [hE2.out, if_pos h64])
      clear hE2 h64
      go_enter Try.func15, Try.ntmps15
      go_wp2_with (go_at_call 40; refine (HS.out _).mono ?_; rintro e w ⟨rfl, rfl⟩)
      go_ret
      exact ⟨ret_int hR.out.symm, Below.refl _ _⟩
    · have h64' : decide ((64 : Int) < (n : Int)) = false := by simp; omega
      have hE : Hid (R = if bs.any (fun b => !insB pages b.1 b.2.1) = true then 7 else if clash bs = true then 8 else 0) := Lib.hid (by rw [hE2.out, if_neg h64])
      clear hE2
      go_enter Try.func15, Try.ntmps15
      go_wp2_with (go_at_call 40; refine (HS.out _).mono ?_; rintro e w ⟨rfl, rfl⟩)
      clear HS h64'
      go_loopw [5] (fun i wr => ∃ k : Nat, k ≤ n ∧ i = .int .i64 k ∧ Below w.heap.size w wr ∧ Hid (∀ i, i < k → insB pages (bs.getD i b0).1 (bs.getD i b0).2.1 = true)) (fun i _ => n - (intOf i).toNat)
      case atStart => exact ⟨0, by omega, rfl, Below.refl _ _, Lib.hid (by omega)⟩
      case round =>
        obtain ⟨k, hk, rfl, hB, hL⟩ := hrel
        by_cases hlt : k < n
        · have hlt' : decide ((k : Int) < (n : Int)) = true := by simpa using hlt
          obtain ⟨b, o, rfl, _, c1, c2, _⟩ := ((hr.below hB).more hB.size).at_ (k := k) (by have := hn'.out; omega)
          have HI := Lib.hid (fun W => refIns_any pages (bs.getD k b0).1 (bs.getD k b0).2.1 W (by omega))
          obtain ⟨I, hI⟩ : ∃ I, insB pages (bs.getD k b0).1 (bs.getD k b0).2.1 = I := ⟨_, rfl⟩
          rw [hI] at HI
          have hI' := Lib.hid hI
          clear hI
          have q1 := fun z : Ext wr => z.cell c1
          have q2 := fun z : Ext wr => z.cell c2
          obtain ⟨x1, hx1⟩ : ∃ x1, (bs.getD k b0).1 = x1 := ⟨_, rfl⟩
          obtain ⟨x2, hx2⟩ : ∃ x2, (bs.getD k b0).2.1 = x2 := ⟨_, rfl⟩
          rw [hx1] at q1 HI c1
          rw [hx2] at q2 HI c2
          clear hx1 hx2
          have G := Lib.hid (fun z : Ext wr => Ext.call (x := z) ((HI.out z.w).mono (fun e w' h => ⟨h.1, by rw [h.2]; exact Below.refl _ _⟩)))
          cases I with
          | false =>
            have hR : Hid (R = 7) := Lib.hid (by
              rw [hE.out, if_pos (List.any_eq_true.2 ⟨_, getD_memB (k := k) (by have := hn'.out; omega), by rw [hI'.out]; rfl⟩)])
            clear hE hL
            go_upto_region 8 with fail
            refine region_ext (by kernel_rfl) (by kernel_rfl) ?_
            repeat (go_big_quiet_step ((go_at_call 41; exact G.out _)))
            refine wpQuiet_nil ?_
            rintro w1 ⟨⟨_, hw1⟩, rfl⟩
            go_wp2_with fail
            go_ret
            exact ⟨ret_int hR.out.symm, hB.trans (hw1.mono hB.size)⟩
          | true =>
            have hL2 : Hid (∀ i, i < k + 1 → insB pages (bs.getD i b0).1 (bs.getD i b0).2.1 = true) := Lib.hid (fun i hi => by
              by_cases h : i = k
              · subst h; exact hI'.out
              · exact hL.out i (by omega))
            clear hL
            go_upto_region 8 with fail
            refine region_ext (by kernel_rfl) (by kernel_rfl) ?_
            repeat (go_big_quiet_step ((go_at_call 41; exact G.out _)))
            refine wpQuiet_nil ?_
            rintro w1 ⟨⟨_, hw1⟩, rfl⟩
            go_wp2_with fail
            go_roundw
            case rel => exact ⟨k + 1, by omega, by go_num, hB.trans (hw1.mono hB.size), hL2⟩
            case measure => simp [intOf]; omega
        · obtain rfl : k = n := by omega
          have hlt' : decide ((k : Int) < (k : Int)) = false := by simp
          have hins : Hid (∀ i, i < k → okPl (bs.getD i b0)) := Lib.hid (fun i hi => ins_okPl hpb.2 (hL.out i hi))
          have hE3 : Hid (R = if clash bs = true then 8 else 0) := Lib.hid (by
            rw [hE.out, if_neg]
            rw [Bool.not_eq_true, any_false_iff, all_getD (p := fun b => (!insB pages b.1 b.2.1) = false)]
            intro i hi
            rw [hL.out i (by have := hn'.out; omega)]; rfl)
          clear hE hL
          go_wp2_with fail
          go_loopw [6] (fun i wr2 => ∃ j : Nat, j ≤ k ∧ i = .int .i64 j ∧ Below w.heap.size w wr2 ∧ Hid (∀ i m, i < j → m < i → overB (bs.getD i b0) (bs.getD m b0) = false)) (fun i _ => k - (intOf i).toNat)
          case atStart => exact ⟨0, by omega, rfl, hB, Lib.hid (by omega)⟩
          case round =>
            obtain ⟨j, hj, rfl, hB2, hL2⟩ := hrel
            by_cases hlt2 : j < k
            · have hlt2' : decide ((j : Int) < (k : Int)) = true := by simpa using hlt2
              go_wp2_with fail
              go_loopw [7] (fun i wr3 => ∃ m : Nat, m ≤ j ∧ i = .int .i64 m ∧ Below w.heap.size w wr3 ∧ Hid (∀ m', m' < m → overB (bs.getD j b0) (bs.getD m' b0) = false)) (fun i _ => j - (intOf i).toNat)
              case atStart => exact ⟨0, by omega, rfl, hB2, Lib.hid (by omega)⟩
              case round =>
                obtain ⟨m, hm2, rfl, hB3, hL3⟩ := hrel
                by_cases hlt3 : m < j
                · have hlt3' : decide ((m : Int) < (j : Int)) = true := by simpa using hlt3
                  have hrr := (hr.below hB3).more hB3.size
                  obtain ⟨b, o, rfl, _, c1, c2, c3⟩ := hrr.at_ (k := j) (by have := hn'.out; omega)
                  obtain ⟨b', o', e', _, d1, d2, d3⟩ := hrr.at_ (k := m) (by have := hn'.out; omega)
                  cases e'
                  have ok1 := hins.out j (by omega)
                  have ok2 := hins.out m (by omega)
                  have HO := Lib.hid (fun W => over_any (bs.getD j b0) (bs.getD m b0) W ok1 ok2)
                  obtain ⟨I, hI⟩ : ∃ I, overB (bs.getD j b0) (bs.getD m b0) = I := ⟨_, rfl⟩
                  rw [hI] at HO
                  have hI' := Lib.hid hI
                  clear hI ok1 ok2
                  obtain ⟨x, hx⟩ : ∃ x, bs.getD j b0 = x := ⟨_, rfl⟩
                  obtain ⟨y, hy⟩ : ∃ y, bs.getD m b0 = y := ⟨_, rfl⟩
                  rw [hx] at c1 c2 c3 HO
                  rw [hy] at d1 d2 d3 HO
                  clear hx hy
                  obtain ⟨xa, xo, xc⟩ := x
                  obtain ⟨ya, yo, yc⟩ := y
                  simp only at c1 c2 c3 d1 d2 d3 HO
                  have q1 := fun z : Ext wr => z.cell c1
                  have q2 := fun z : Ext wr => z.cell c2
                  have q3 := fun z : Ext wr => z.cell c3
                  have q4 := fun z : Ext wr => z.cell d1
                  have q5 := fun z : Ext wr => z.cell d2
                  have q6 := fun z : Ext wr => z.cell d3
                  have G := Lib.hid (fun z : Ext wr => Ext.call (x := z) (HO.out z.w))
                  cases I with
                  | true =>
                    have hR : Hid (R = 8) := Lib.hid (by rw [hE3.out, if_pos (clash_iff.2 ⟨j, m, by have := hn'.out; omega, hlt3, hI'.out⟩)])
                    clear hE3 hL3 hL2
                    go_upto_region 16 with fail
                    refine region_ext (by kernel_rfl) (by kernel_rfl) ?_
                    repeat (go_big_quiet_step ((go_at_call 42; exact G.out _)))
                    refine wpQuiet_nil ?_
                    rintro w1 ⟨⟨_, hw1⟩, rfl⟩
                    go_wp2_with fail
                    go_ret
                    exact ⟨ret_int hR.out.symm, hB3.trans (hw1.mono hB3.size)⟩
                  | false =>
                    have hL4 : Hid (∀ m', m' < m + 1 → overB (bs.getD j b0) (bs.getD m' b0) = false) := Lib.hid (fun m' hm' => by
                      by_cases h : m' = m
                      · subst h; exact hI'.out
                      · exact hL3.out m' (by omega))
                    clear hL3
                    go_upto_region 16 with fail
                    refine region_ext (by kernel_rfl) (by kernel_rfl) ?_
                    repeat (go_big_quiet_step ((go_at_call 42; exact G.out _)))
                    refine wpQuiet_nil ?_
                    rintro w1 ⟨⟨_, hw1⟩, rfl⟩
                    go_wp2_with fail
                    go_roundw
                    case rel => exact ⟨m + 1, by omega, by go_num, hB3.trans (hw1.mono hB3.size), hL4⟩
                    case measure => simp [intOf]; omega
                · obtain rfl : m = j := by omega
                  have hlt3' : decide ((m : Int) < (m : Int)) = false := by simp
                  have hL4 : Hid (∀ i m', i < m + 1 → m' < i → overB (bs.getD i b0) (bs.getD m' b0) = false) := Lib.hid (fun i m' hi hm' => by
                    by_cases h : i = m
                    · subst h; exact hL3.out m' hm'
                    · exact hL2.out i m' (by omega) hm')
                  clear hL2 hL3
                  go_wp2_with fail
                  go_roundw
                  case rel => exact ⟨m + 1, by omega, by go_num, hB3, hL4⟩
                  case measure => simp [intOf]; omega
            · obtain rfl : j = k := by omega
              have hlt2' : decide ((j : Int) < (j : Int)) = false := by simp
              have hR : Hid (R = 0) := Lib.hid (by
                rw [hE3.out, if_neg]
                intro hc
                obtain ⟨i, m, h1, h2, h3⟩ := clash_iff.1 hc
                rw [hL2.out i m (by have := hn'.out; omega) h2] at h3
                cases h3)
              clear hE3 hL2
              go_wp2_with fail
              go_ret
              exact ⟨ret_int hR.out.symm, hB2⟩
end Go.Proofs.Ytifdgabfnnkghaa
