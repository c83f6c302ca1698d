/- Walk: the law's table with one more class. -/
import Derived.Test.YtiohcegkkpeodaaWalkO
import Derived.Test.YtiohcegkkpeodaaSpecV
namespace Go.Proofs.Ytiohcegkkpeodaa
open Go Go.Proofs Go.RowKit Go.Pol

theorem drop_news {w : World} {B b o i m : Nat} {xs : List Int} (h : RI w B (some ⟨b, o, none⟩) xs) : ∀ j u, (((xs.drop i).take m).map (Value.int .i64))[j]? = some u → w.cell? ((⟨b, o + i, none⟩ : Addr).add j) = some u := by
  intro j u hu
  rw [Addr.add_lit]
  simp only [List.getElem?_map, Option.map_eq_some_iff] at hu
  obtain ⟨x, hx, rfl⟩ := hu
  have hj := (List.getElem?_eq_some_iff.1 hx).1
  simp only [List.length_take, List.length_drop] at hj
  rw [List.getElem?_take_of_lt (by omega), List.getElem?_drop] at hx
  obtain ⟨b', o', e, _, hc⟩ := h.at_ (k := i + j) (by omega)
  cases e
  rw [Nat.add_assoc, hc, List.getD_eq_getElem?_getD, hx]; rfl
theorem slice_of {w : World} {base m n : Nat} {e : TypeId} {v : Value} {xs : List Value} (h : w.ownsRow base e 1 v m xs) (hm : m = n + 1) : ∃ g c, v = .slice (some ⟨g, 0, none⟩) (n + 1) c := by
  rcases h.2 with ⟨_, h0⟩ | ⟨g, c, cur, rfl, _⟩
  · omega
  · exact ⟨g, c, by rw [hm]⟩
theorem news_int {w : World} {g : Nat} {t : TypeId} {a : Int} (h : Blk w g t #[.int .i64 a]) : ∀ (j : Nat) (u : Value), [Value.int .i64 a][j]? = some u → w.cell? ((⟨g, 0, none⟩ : Addr).add j) = some u := by
  intro j u hu
  rw [addr_add0, Nat.zero_add, h.cell]
  simpa using hu
theorem news_int1 {a : Int} : ∀ u ∈ [Value.int .i64 a], u.oneCell' = true := by
  intro u hu
  simp only [List.mem_cons, List.not_mem_nil, or_false] at hu
  subst hu; rfl
def WithR (n : Nat) (xs : List Int) (s : Int) (w : World) (e : Ending) (w' : World) : Prop := ∃ (A' : Option Addr) (cap' : Nat), e = .returned (.agg #[.slice A' (n + 1) cap']) ∧ RI w' w'.heap.size A' (withF xs s) ∧ Below w.heap.size w w'
set_option maxRecDepth 100000 in
set_option maxHeartbeats 8000000 in
theorem with_1 (A : Option Addr) (n cap : Nat) (xs : List Int) (s : Int) (w : World) (hn : xs.length = n) (hm : n ≤ cap) (hc : cap ≤ maxLen) (h64 : n ≤ 1000) (hr : RI w w.heap.size A xs) (ok : okT xs) (hyp : cls xs s < n) :
    Calls Try.prog 28 #[.agg #[.slice A n cap], .int .i64 s] w (WithR n xs s w) := by
  have hp0 := ok.pos
  obtain ⟨b0, o0, rfl, hb0, _⟩ := hr.at_ (k := 0) (by omega)
  have hall := cls_all ok s
  have hcl := cls_le xs s
  have hn' := Lib.hid hn
  obtain ⟨c, hcc⟩ : ∃ c, cls xs s = c := ⟨_, rfl⟩
  rw [hcc] at hall hcl
  have hC := Lib.hid hcc
  rw [hcc] at hyp
  rw [hn] at hcl
  have hA := Lib.hid hall
  clear hcc hall ok
  obtain ⟨hb, hhb⟩ : ∃ hb, w.heap.size = hb := ⟨_, rfl⟩
  have hB0 := ((Below.refl w.heap.size w).alloc (Nat.le_refl _) (.cells #[.slice (some ⟨b0, o0, none⟩) n cap] 24)).alloc (by simp) (.cells #[.slice none 0 0] 24)
  have kT := (Blk.new w 24 #[.slice (some ⟨b0, o0, none⟩) n cap]).alloc (.cells #[.slice none 0 0] 24)
  have kR := Blk.new (w.alloc (.cells #[.slice (some ⟨b0, o0, none⟩) n cap] 24)) 24 #[.slice none 0 0]
  rw [World.size_alloc] at kR
  have hr0 := RI.laterQ hr hB0
  go_enter Try.func28, Try.ntmps28
  go_upto_region 2 with fail
  rw [hhb] at kT kR hB0 hb0
  have hw1 : hb ≤ ((w.alloc (.cells #[.slice (some ⟨b0, o0, none⟩) n cap] 24)).alloc (.cells #[.slice none 0 0] 24)).heap.size := by rw [← hhb]; exact hB0.size
  generalize (w.alloc (.cells #[.slice (some ⟨b0, o0, none⟩) n cap] 24)).alloc (.cells #[.slice none 0 0] 24) = w1 at *
  have c0 := kT.cell
  have hhb' := Lib.hid hhb
  have hlt1 := kT.lt
  have hlt2 := kR.lt
  obtain ⟨i0, hi, hz0, hz1, hz2⟩ := info_parts info_intO
  clear hhb hr
  go_loopw [5] (fun i wr => ∃ k : Nat, k ≤ c ∧ i = .int .i64 k ∧ wr = w1) (fun i _ => c - (intOf i).toNat)
  case atStart => exact ⟨0, by omega, rfl, rfl⟩
  case round =>
    obtain ⟨k, hk, rfl, hw⟩ := hrel
    have hw' := hw.symm
    clear hw
    subst hw'
    by_cases hlt : k < c
    · have hlt' : decide ((k : Int) < (n : Int)) = true := by simp; omega
      have hx := hA.out k (by have := hn'.out; omega)
      have hd : decide (k < c) = true := by simpa using hlt
      rw [hd] at hx
      obtain ⟨b, o, e, _, hc1⟩ := hr0.at_ (k := k) (by have := hn'.out; omega)
      cases e
      generalize xs.getD k 0 = x at *
      go_wp2_with fail
      go_roundw
      case rel => exact ⟨k + 1, by omega, by go_num, by first | rfl | trivial⟩
      case measure => simp [intOf]; omega
    · obtain rfl : k = c := by omega
      have hend : True := trivial
      have hkn := hyp
      clear hyp
      have hkn' : decide ((k : Int) < (n : Int)) = true := by simp; omega
      have hx := hA.out k (by have := hn'.out; omega)
      have hd : decide (k < k) = false := by simp
      rw [hd] at hx
      obtain ⟨b, o, e, _, hc1⟩ := hr0.at_ (k := k) (by have := hn'.out; omega)
      cases e
      generalize xs.getD k 0 = x at *
      go_upto_region 4 with fail
      clear hx hd hkn' hc1
      have hck : cap - k ≠ 0 := by omega
      have hb1' := (Below.refl w1.heap.size w1).alloc (Nat.le_refl _) (.cells #[] 3)
      have hn1 := drop_news (i := 0) (w := w1.alloc (.cells #[] 3)) (RI.laterQ hr0 hb1') (m := k)
      rw [Nat.add_zero] at hn1
      have hC1 := hC.out
      go_upto_region 5 with (refine wpList_append_own _ rfl (.tmp 23) (.tmp 27) 22 rfl w1.heap.size 3 i0 (.int .i64 0) 1 8 Try.underlying22 hi hz0 hz1 hz2 rfl (by decide) _ 0 [] rfl (World.ownsRow_made w1 _ _ (Nat.le_refl _) (by unfold maxLen; omega) rfl) ⟨b0, o0, none⟩ k cap ((xs.drop 0).take k |>.map (Value.int .i64)) rfl (by simp; have := hn'.out; omega) hn1 (one_ints _) (by unfold maxLen; omega) (by omega) (by simp) ?_; intro v' w3 hown3 hgrow3 _)
      have B3 := ((Below.refl w1.heap.size w1).alloc (Nat.le_refl _) (.cells #[] 3)).grown hgrow3 (by simp) (fun j hj => by cases hj; exact Nat.le_refl _)
      have k3 := kT.call B3
      have kR3 := kR.call B3
      have r3 := RI.laterQ hr0 B3
      have hl3 := k3.lt
      have hs3 := B3.size
      have c3 := k3.cell
      have hl1' : ((List.map (Value.int .i64) (List.take k (List.drop 0 xs)))).length = k := by simp; have := hn'.out; omega
      simp only [List.nil_append, Nat.zero_add] at hown3
      have hr0' := hr0
      clear c0 hn1 hb1' hgrow3 hr0 kT kR
      generalize hu1 : (List.map (Value.int .i64) (List.take k (List.drop 0 xs))) = us1 at *
      have hu1' := Lib.hid hu1
      clear hu1
      have kN := Blk.new w3 3 #[.int .i64 s]
      go_upto_region 6 with (refine wpList_append_own _ rfl (.tmp 29) (.tmp 31) 22 rfl w1.heap.size 3 i0 (.int .i64 0) 1 8 Try.underlying22 hi hz0 hz1 hz2 rfl (by decide) _ k us1 rfl (hown3.alloc _) ⟨w3.heap.size, 0, none⟩ 1 1 [.int .i64 s] rfl rfl (news_int kN) news_int1 (by unfold maxLen; omega) (by omega) (by simp; omega) ?_; intro v4 w4 hown4 hgrow4 _)
      have B4 := (B3.alloc hs3 (.cells #[.int .i64 s] 3)).grown hgrow4 (by simp; omega) (fun j hj => ((hown3.alloc (.cells #[.int .i64 s] 3)).lt j hj).1)
      have B34 : Below w3.heap.size w3 w3 := Below.refl _ _
      have k4 := (k3.alloc (.cells #[.int .i64 s] 3)).grown hgrow4 (fun e => by have := (hown3.lt _ e.symm).1; omega)
      have kR4 := (kR3.alloc (.cells #[.int .i64 s] 3)).grown hgrow4 (fun e => by have := (hown3.lt _ e.symm).1; omega)
      have c4 := k4.cell
      have hl4 := k4.lt
      clear c3 kN hgrow4 r3 hown3 k3 kR3
      have r4 := RI.laterQ hr0' B4
      have h5l : (((xs.drop k).take (n - k)).map (Value.int .i64)).length = (n - k) * 1 := by first | (simp; done) | (simp; have := hn'.out; omega)
      have h5n := (drop_news (i := k) r4 (m := n - k))
      go_wp2_with (refine wpList_append_own _ rfl (.tmp 33) (.tmp 37) 22 rfl w1.heap.size 3 i0 (.int .i64 0) 1 8 Try.underlying22 hi hz0 hz1 hz2 rfl (by decide) _ (k + 1) (us1 ++ [.int .i64 s]) ?a1 hown4 ⟨b0, o0 + k, none⟩ (n - k) (cap - k) (((xs.drop k).take (n - k)).map (Value.int .i64)) ?a2 h5l h5n (one_ints _) ?a3 ?a4 ?a5 ?a6; (case a1 => rfl); (case a2 => rfl); (case a3 => (unfold maxLen; omega)); (case a4 => omega); (case a5 => (have := B4.size; omega)); intro v5 w5 hown5 hgrow5 _; have B5 := B4.grown hgrow5 (by have := B4.size; omega) (fun j hj => (hown4.lt j hj).1); have kR5 := kR4.grown hgrow5 (fun e => by have := (hown4.lt _ e.symm).1; omega); have cR5 := kR5.cell; have fR5 := kR5.frozen; obtain ⟨g5, cap5, rfl⟩ := slice_of hown5 (show k + 1 + (n - k) = n + 1 by omega))
      have hW : Hid (us1 ++ [.int .i64 s] ++ ((xs.drop k).take (n - k)).map (Value.int .i64) = (withF xs s).map (Value.int .i64)) := Lib.hid (by
        rw [← hu1'.out]; unfold withF; rw [hC.out, List.take_of_length_le (i := (n - k)) (by rw [List.length_drop]; have := hn'.out; omega)]; simp)
      have hWl : Hid ((withF xs s).length = n + 1) := Lib.hid (by unfold withF; rw [hC.out]; simp; have := hn'.out; omega)
      rw [hW.out] at hown5
      have hgb := hown5.lt g5 rfl
      have own6 := ownsRow_setCell_below hown5 (a := ⟨hb + 1, 0, none⟩) (by simp only; omega) (.slice (some ⟨g5, 0, none⟩) (n + 1) cap5)
      have hB6 := (hB0.trans (B5.mono hw1)).setCell (p := ⟨hb + 1, 0, none⟩) (by simp) (.slice (some ⟨g5, 0, none⟩) (n + 1) cap5)
      have c6 := (kR5.set_ 0 (.slice (some ⟨g5, 0, none⟩) (n + 1) cap5)).cell
      generalize w5.setCell ⟨hb + 1, 0, none⟩ (.slice (some ⟨g5, 0, none⟩) (n + 1) cap5) = w6 at *
      obtain ⟨A6, cap6, e6, hr6, _⟩ := own_RI' (by rw [hWl.out]; omega) own6
      obtain ⟨rfl, _, rfl⟩ := Value.slice.inj e6
      refine bodyPost_ret (v := .agg #[.slice (some ⟨g5, 0, none⟩) (n + 1) cap5]) (by simp [results, Try.results28, go_sem, c6]) rfl ⟨_, _, rfl, hr6, by rw [hhb'.out]; exact hB6⟩
set_option maxRecDepth 100000 in
set_option maxHeartbeats 8000000 in
theorem with_2 (A : Option Addr) (n cap : Nat) (xs : List Int) (s : Int) (w : World) (hn : xs.length = n) (hm : n ≤ cap) (hc : cap ≤ maxLen) (h64 : n ≤ 1000) (hr : RI w w.heap.size A xs) (ok : okT xs) (hyp : n ≤ cls xs s ∧ cap ≤ cls xs s) :
    Calls Try.prog 28 #[.agg #[.slice A n cap], .int .i64 s] w (WithR n xs s w) := by
  have hp0 := ok.pos
  obtain ⟨b0, o0, rfl, hb0, _⟩ := hr.at_ (k := 0) (by omega)
  have hall := cls_all ok s
  have hcl := cls_le xs s
  have hn' := Lib.hid hn
  obtain ⟨c, hcc⟩ : ∃ c, cls xs s = c := ⟨_, rfl⟩
  rw [hcc] at hall hcl
  have hC := Lib.hid hcc
  rw [hcc] at hyp
  rw [hn] at hcl
  have hA := Lib.hid hall
  clear hcc hall ok
  obtain ⟨hb, hhb⟩ : ∃ hb, w.heap.size = hb := ⟨_, rfl⟩
  have hB0 := ((Below.refl w.heap.size w).alloc (Nat.le_refl _) (.cells #[.slice (some ⟨b0, o0, none⟩) n cap] 24)).alloc (by simp) (.cells #[.slice none 0 0] 24)
  have kT := (Blk.new w 24 #[.slice (some ⟨b0, o0, none⟩) n cap]).alloc (.cells #[.slice none 0 0] 24)
  have kR := Blk.new (w.alloc (.cells #[.slice (some ⟨b0, o0, none⟩) n cap] 24)) 24 #[.slice none 0 0]
  rw [World.size_alloc] at kR
  have hr0 := RI.laterQ hr hB0
  go_enter Try.func28, Try.ntmps28
  go_upto_region 2 with fail
  rw [hhb] at kT kR hB0 hb0
  have hw1 : hb ≤ ((w.alloc (.cells #[.slice (some ⟨b0, o0, none⟩) n cap] 24)).alloc (.cells #[.slice none 0 0] 24)).heap.size := by rw [← hhb]; exact hB0.size
  generalize (w.alloc (.cells #[.slice (some ⟨b0, o0, none⟩) n cap] 24)).alloc (.cells #[.slice none 0 0] 24) = w1 at *
  have c0 := kT.cell
  have hhb' := Lib.hid hhb
  have hlt1 := kT.lt
  have hlt2 := kR.lt
  obtain ⟨i0, hi, hz0, hz1, hz2⟩ := info_parts info_intO
  clear hhb hr
  go_loopw [5] (fun i wr => ∃ k : Nat, k ≤ c ∧ i = .int .i64 k ∧ wr = w1) (fun i _ => c - (intOf i).toNat)
  case atStart => exact ⟨0, by omega, rfl, rfl⟩
  case round =>
    obtain ⟨k, hk, rfl, hw⟩ := hrel
    have hw' := hw.symm
    clear hw
    subst hw'
    by_cases hlt : k < c
    · have hlt' : decide ((k : Int) < (n : Int)) = true := by simp; omega
      have hx := hA.out k (by have := hn'.out; omega)
      have hd : decide (k < c) = true := by simpa using hlt
      rw [hd] at hx
      obtain ⟨b, o, e, _, hc1⟩ := hr0.at_ (k := k) (by have := hn'.out; omega)
      cases e
      generalize xs.getD k 0 = x at *
      go_wp2_with fail
      go_roundw
      case rel => exact ⟨k + 1, by omega, by go_num, by first | rfl | trivial⟩
      case measure => simp [intOf]; omega
    · obtain rfl : k = c := by omega
      have hend : True := trivial
      obtain ⟨hkn, hcap⟩ := hyp
      have hkn' : decide ((k : Int) < (n : Int)) = false := by simp; omega
      have h0 : n - k = 0 := by omega
      go_upto_region 4 with fail
      clear hkn'
      have hck : cap - k = 0 := by omega
      clear hcap hkn
      have hb1' := (Below.refl w1.heap.size w1).alloc (Nat.le_refl _) (.cells #[] 3)
      have hn1 := drop_news (i := 0) (w := w1.alloc (.cells #[] 3)) (RI.laterQ hr0 hb1') (m := k)
      rw [Nat.add_zero] at hn1
      have hC1 := hC.out
      go_upto_region 5 with (refine wpList_append_own _ rfl (.tmp 23) (.tmp 27) 22 rfl w1.heap.size 3 i0 (.int .i64 0) 1 8 Try.underlying22 hi hz0 hz1 hz2 rfl (by decide) _ 0 [] rfl (World.ownsRow_made w1 _ _ (Nat.le_refl _) (by unfold maxLen; omega) rfl) ⟨b0, o0, none⟩ k cap ((xs.drop 0).take k |>.map (Value.int .i64)) rfl (by simp; have := hn'.out; omega) hn1 (one_ints _) (by unfold maxLen; omega) (by omega) (by simp) ?_; intro v' w3 hown3 hgrow3 _)
      have B3 := ((Below.refl w1.heap.size w1).alloc (Nat.le_refl _) (.cells #[] 3)).grown hgrow3 (by simp) (fun j hj => by cases hj; exact Nat.le_refl _)
      have k3 := kT.call B3
      have kR3 := kR.call B3
      have r3 := RI.laterQ hr0 B3
      have hl3 := k3.lt
      have hs3 := B3.size
      have c3 := k3.cell
      have hl1' : ((List.map (Value.int .i64) (List.take k (List.drop 0 xs)))).length = k := by simp; have := hn'.out; omega
      simp only [List.nil_append, Nat.zero_add] at hown3
      have hr0' := hr0
      clear c0 hn1 hb1' hgrow3 hr0 kT kR
      generalize hu1 : (List.map (Value.int .i64) (List.take k (List.drop 0 xs))) = us1 at *
      have hu1' := Lib.hid hu1
      clear hu1
      have kN := Blk.new w3 3 #[.int .i64 s]
      go_upto_region 6 with (refine wpList_append_own _ rfl (.tmp 29) (.tmp 31) 22 rfl w1.heap.size 3 i0 (.int .i64 0) 1 8 Try.underlying22 hi hz0 hz1 hz2 rfl (by decide) _ k us1 rfl (hown3.alloc _) ⟨w3.heap.size, 0, none⟩ 1 1 [.int .i64 s] rfl rfl (news_int kN) news_int1 (by unfold maxLen; omega) (by omega) (by simp; omega) ?_; intro v4 w4 hown4 hgrow4 _)
      have B4 := (B3.alloc hs3 (.cells #[.int .i64 s] 3)).grown hgrow4 (by simp; omega) (fun j hj => ((hown3.alloc (.cells #[.int .i64 s] 3)).lt j hj).1)
      have B34 : Below w3.heap.size w3 w3 := Below.refl _ _
      have k4 := (k3.alloc (.cells #[.int .i64 s] 3)).grown hgrow4 (fun e => by have := (hown3.lt _ e.symm).1; omega)
      have kR4 := (kR3.alloc (.cells #[.int .i64 s] 3)).grown hgrow4 (fun e => by have := (hown3.lt _ e.symm).1; omega)
      have c4 := k4.cell
      have hl4 := k4.lt
      clear c3 kN hgrow4 r3 hown3 k3 kR3
      have r4 := RI.laterQ hr0' B4
      have h5l : (((xs.drop k).take 0).map (Value.int .i64)).length = 0 * 1 := by first | (simp; done) | (simp; have := hn'.out; omega)
      have h5n := (show ∀ (j : Nat) (u : Value), (((xs.drop k).take 0).map (Value.int .i64))[j]? = some u → w4.cell? ((⟨b0, o0, none⟩ : Addr).add j) = some u from fun j u hu => by simp at hu)
      go_wp2_with (refine wpList_append_own _ rfl (.tmp 33) (.tmp 37) 22 rfl w1.heap.size 3 i0 (.int .i64 0) 1 8 Try.underlying22 hi hz0 hz1 hz2 rfl (by decide) _ (k + 1) (us1 ++ [.int .i64 s]) ?a1 hown4 ⟨b0, o0, none⟩ 0 0 (((xs.drop k).take 0).map (Value.int .i64)) ?a2 h5l h5n (one_ints _) ?a3 ?a4 ?a5 ?a6; (case a1 => rfl); (case a2 => rfl); (case a3 => (unfold maxLen; omega)); (case a4 => omega); (case a5 => (have := B4.size; omega)); intro v5 w5 hown5 hgrow5 _; have B5 := B4.grown hgrow5 (by have := B4.size; omega) (fun j hj => (hown4.lt j hj).1); have kR5 := kR4.grown hgrow5 (fun e => by have := (hown4.lt _ e.symm).1; omega); have cR5 := kR5.cell; have fR5 := kR5.frozen; obtain ⟨g5, cap5, rfl⟩ := slice_of hown5 (show k + 1 + 0 = n + 1 by omega))
      have hW : Hid (us1 ++ [.int .i64 s] ++ ((xs.drop k).take 0).map (Value.int .i64) = (withF xs s).map (Value.int .i64)) := Lib.hid (by
        rw [← hu1'.out]; unfold withF; rw [hC.out, List.take_of_length_le (i := 0) (by rw [List.length_drop]; have := hn'.out; omega)]; simp)
      have hWl : Hid ((withF xs s).length = n + 1) := Lib.hid (by unfold withF; rw [hC.out]; simp; have := hn'.out; omega)
      rw [hW.out] at hown5
      have hgb := hown5.lt g5 rfl
      have own6 := ownsRow_setCell_below hown5 (a := ⟨hb + 1, 0, none⟩) (by simp only; omega) (.slice (some ⟨g5, 0, none⟩) (n + 1) cap5)
      have hB6 := (hB0.trans (B5.mono hw1)).setCell (p := ⟨hb + 1, 0, none⟩) (by simp) (.slice (some ⟨g5, 0, none⟩) (n + 1) cap5)
      have c6 := (kR5.set_ 0 (.slice (some ⟨g5, 0, none⟩) (n + 1) cap5)).cell
      generalize w5.setCell ⟨hb + 1, 0, none⟩ (.slice (some ⟨g5, 0, none⟩) (n + 1) cap5) = w6 at *
      obtain ⟨A6, cap6, e6, hr6, _⟩ := own_RI' (by rw [hWl.out]; omega) own6
      obtain ⟨rfl, _, rfl⟩ := Value.slice.inj e6
      refine bodyPost_ret (v := .agg #[.slice (some ⟨g5, 0, none⟩) (n + 1) cap5]) (by simp [results, Try.results28, go_sem, c6]) rfl ⟨_, _, rfl, hr6, by rw [hhb'.out]; exact hB6⟩
set_option maxRecDepth 100000 in
set_option maxHeartbeats 8000000 in
theorem with_3 (A : Option Addr) (n cap : Nat) (xs : List Int) (s : Int) (w : World) (hn : xs.length = n) (hm : n ≤ cap) (hc : cap ≤ maxLen) (h64 : n ≤ 1000) (hr : RI w w.heap.size A xs) (ok : okT xs) (hyp : n ≤ cls xs s ∧ cls xs s < cap) :
    Calls Try.prog 28 #[.agg #[.slice A n cap], .int .i64 s] w (WithR n xs s w) := by
  have hp0 := ok.pos
  obtain ⟨b0, o0, rfl, hb0, _⟩ := hr.at_ (k := 0) (by omega)
  have hall := cls_all ok s
  have hcl := cls_le xs s
  have hn' := Lib.hid hn
  obtain ⟨c, hcc⟩ : ∃ c, cls xs s = c := ⟨_, rfl⟩
  rw [hcc] at hall hcl
  have hC := Lib.hid hcc
  rw [hcc] at hyp
  rw [hn] at hcl
  have hA := Lib.hid hall
  clear hcc hall ok
  obtain ⟨hb, hhb⟩ : ∃ hb, w.heap.size = hb := ⟨_, rfl⟩
  have hB0 := ((Below.refl w.heap.size w).alloc (Nat.le_refl _) (.cells #[.slice (some ⟨b0, o0, none⟩) n cap] 24)).alloc (by simp) (.cells #[.slice none 0 0] 24)
  have kT := (Blk.new w 24 #[.slice (some ⟨b0, o0, none⟩) n cap]).alloc (.cells #[.slice none 0 0] 24)
  have kR := Blk.new (w.alloc (.cells #[.slice (some ⟨b0, o0, none⟩) n cap] 24)) 24 #[.slice none 0 0]
  rw [World.size_alloc] at kR
  have hr0 := RI.laterQ hr hB0
  go_enter Try.func28, Try.ntmps28
  go_upto_region 2 with fail
  rw [hhb] at kT kR hB0 hb0
  have hw1 : hb ≤ ((w.alloc (.cells #[.slice (some ⟨b0, o0, none⟩) n cap] 24)).alloc (.cells #[.slice none 0 0] 24)).heap.size := by rw [← hhb]; exact hB0.size
  generalize (w.alloc (.cells #[.slice (some ⟨b0, o0, none⟩) n cap] 24)).alloc (.cells #[.slice none 0 0] 24) = w1 at *
  have c0 := kT.cell
  have hhb' := Lib.hid hhb
  have hlt1 := kT.lt
  have hlt2 := kR.lt
  obtain ⟨i0, hi, hz0, hz1, hz2⟩ := info_parts info_intO
  clear hhb hr
  go_loopw [5] (fun i wr => ∃ k : Nat, k ≤ c ∧ i = .int .i64 k ∧ wr = w1) (fun i _ => c - (intOf i).toNat)
  case atStart => exact ⟨0, by omega, rfl, rfl⟩
  case round =>
    obtain ⟨k, hk, rfl, hw⟩ := hrel
    have hw' := hw.symm
    clear hw
    subst hw'
    by_cases hlt : k < c
    · have hlt' : decide ((k : Int) < (n : Int)) = true := by simp; omega
      have hx := hA.out k (by have := hn'.out; omega)
      have hd : decide (k < c) = true := by simpa using hlt
      rw [hd] at hx
      obtain ⟨b, o, e, _, hc1⟩ := hr0.at_ (k := k) (by have := hn'.out; omega)
      cases e
      generalize xs.getD k 0 = x at *
      go_wp2_with fail
      go_roundw
      case rel => exact ⟨k + 1, by omega, by go_num, by first | rfl | trivial⟩
      case measure => simp [intOf]; omega
    · obtain rfl : k = c := by omega
      have hend : True := trivial
      obtain ⟨hkn, hcap⟩ := hyp
      have hkn' : decide ((k : Int) < (n : Int)) = false := by simp; omega
      have h0 : n - k = 0 := by omega
      go_upto_region 4 with fail
      clear hkn'
      have hck : cap - k ≠ 0 := by omega
      clear hcap hkn
      have hb1' := (Below.refl w1.heap.size w1).alloc (Nat.le_refl _) (.cells #[] 3)
      have hn1 := drop_news (i := 0) (w := w1.alloc (.cells #[] 3)) (RI.laterQ hr0 hb1') (m := k)
      rw [Nat.add_zero] at hn1
      have hC1 := hC.out
      go_upto_region 5 with (refine wpList_append_own _ rfl (.tmp 23) (.tmp 27) 22 rfl w1.heap.size 3 i0 (.int .i64 0) 1 8 Try.underlying22 hi hz0 hz1 hz2 rfl (by decide) _ 0 [] rfl (World.ownsRow_made w1 _ _ (Nat.le_refl _) (by unfold maxLen; omega) rfl) ⟨b0, o0, none⟩ k cap ((xs.drop 0).take k |>.map (Value.int .i64)) rfl (by simp; have := hn'.out; omega) hn1 (one_ints _) (by unfold maxLen; omega) (by omega) (by simp) ?_; intro v' w3 hown3 hgrow3 _)
      have B3 := ((Below.refl w1.heap.size w1).alloc (Nat.le_refl _) (.cells #[] 3)).grown hgrow3 (by simp) (fun j hj => by cases hj; exact Nat.le_refl _)
      have k3 := kT.call B3
      have kR3 := kR.call B3
      have r3 := RI.laterQ hr0 B3
      have hl3 := k3.lt
      have hs3 := B3.size
      have c3 := k3.cell
      have hl1' : ((List.map (Value.int .i64) (List.take k (List.drop 0 xs)))).length = k := by simp; have := hn'.out; omega
      simp only [List.nil_append, Nat.zero_add] at hown3
      have hr0' := hr0
      clear c0 hn1 hb1' hgrow3 hr0 kT kR
      generalize hu1 : (List.map (Value.int .i64) (List.take k (List.drop 0 xs))) = us1 at *
      have hu1' := Lib.hid hu1
      clear hu1
      have kN := Blk.new w3 3 #[.int .i64 s]
      go_upto_region 6 with (refine wpList_append_own _ rfl (.tmp 29) (.tmp 31) 22 rfl w1.heap.size 3 i0 (.int .i64 0) 1 8 Try.underlying22 hi hz0 hz1 hz2 rfl (by decide) _ k us1 rfl (hown3.alloc _) ⟨w3.heap.size, 0, none⟩ 1 1 [.int .i64 s] rfl rfl (news_int kN) news_int1 (by unfold maxLen; omega) (by omega) (by simp; omega) ?_; intro v4 w4 hown4 hgrow4 _)
      have B4 := (B3.alloc hs3 (.cells #[.int .i64 s] 3)).grown hgrow4 (by simp; omega) (fun j hj => ((hown3.alloc (.cells #[.int .i64 s] 3)).lt j hj).1)
      have B34 : Below w3.heap.size w3 w3 := Below.refl _ _
      have k4 := (k3.alloc (.cells #[.int .i64 s] 3)).grown hgrow4 (fun e => by have := (hown3.lt _ e.symm).1; omega)
      have kR4 := (kR3.alloc (.cells #[.int .i64 s] 3)).grown hgrow4 (fun e => by have := (hown3.lt _ e.symm).1; omega)
      have c4 := k4.cell
      have hl4 := k4.lt
      clear c3 kN hgrow4 r3 hown3 k3 kR3
      have r4 := RI.laterQ hr0' B4
      have h5l : (((xs.drop k).take 0).map (Value.int .i64)).length = 0 * 1 := by first | (simp; done) | (simp; have := hn'.out; omega)
      have h5n := (drop_news (i := k) r4 (m := 0))
      go_wp2_with (refine wpList_append_own _ rfl (.tmp 33) (.tmp 37) 22 rfl w1.heap.size 3 i0 (.int .i64 0) 1 8 Try.underlying22 hi hz0 hz1 hz2 rfl (by decide) _ (k + 1) (us1 ++ [.int .i64 s]) ?a1 hown4 ⟨b0, o0 + k, none⟩ 0 (cap - k) (((xs.drop k).take 0).map (Value.int .i64)) ?a2 h5l h5n (one_ints _) ?a3 ?a4 ?a5 ?a6; (case a1 => rfl); (case a2 => rfl); (case a3 => (unfold maxLen; omega)); (case a4 => omega); (case a5 => (have := B4.size; omega)); intro v5 w5 hown5 hgrow5 _; have B5 := B4.grown hgrow5 (by have := B4.size; omega) (fun j hj => (hown4.lt j hj).1); have kR5 := kR4.grown hgrow5 (fun e => by have := (hown4.lt _ e.symm).1; omega); have cR5 := kR5.cell; have fR5 := kR5.frozen; obtain ⟨g5, cap5, rfl⟩ := slice_of hown5 (show k + 1 + 0 = n + 1 by omega))
      have hW : Hid (us1 ++ [.int .i64 s] ++ ((xs.drop k).take 0).map (Value.int .i64) = (withF xs s).map (Value.int .i64)) := Lib.hid (by
        rw [← hu1'.out]; unfold withF; rw [hC.out, List.take_of_length_le (i := 0) (by rw [List.length_drop]; have := hn'.out; omega)]; simp)
      have hWl : Hid ((withF xs s).length = n + 1) := Lib.hid (by unfold withF; rw [hC.out]; simp; have := hn'.out; omega)
      rw [hW.out] at hown5
      have hgb := hown5.lt g5 rfl
      have own6 := ownsRow_setCell_below hown5 (a := ⟨hb + 1, 0, none⟩) (by simp only; omega) (.slice (some ⟨g5, 0, none⟩) (n + 1) cap5)
      have hB6 := (hB0.trans (B5.mono hw1)).setCell (p := ⟨hb + 1, 0, none⟩) (by simp) (.slice (some ⟨g5, 0, none⟩) (n + 1) cap5)
      have c6 := (kR5.set_ 0 (.slice (some ⟨g5, 0, none⟩) (n + 1) cap5)).cell
      generalize w5.setCell ⟨hb + 1, 0, none⟩ (.slice (some ⟨g5, 0, none⟩) (n + 1) cap5) = w6 at *
      obtain ⟨A6, cap6, e6, hr6, _⟩ := own_RI' (by rw [hWl.out]; omega) own6
      obtain ⟨rfl, _, rfl⟩ := Value.slice.inj e6
      refine bodyPost_ret (v := .agg #[.slice (some ⟨g5, 0, none⟩) (n + 1) cap5]) (by simp [results, Try.results28, go_sem, c6]) rfl ⟨_, _, rfl, hr6, by rw [hhb'.out]; exact hB6⟩
theorem with_any (A : Option Addr) (n cap : Nat) (xs : List Int) (s : Int) (w : World) (hn : xs.length = n) (hm : n ≤ cap) (hc : cap ≤ maxLen) (h64 : n ≤ 1000) (hr : RI w w.heap.size A xs) (ok : okT xs) :
    Calls Try.prog 28 #[.agg #[.slice A n cap], .int .i64 s] w (WithR n xs s w) := by
  by_cases h1 : cls xs s < n
  · exact with_1 A n cap xs s w hn hm hc h64 hr ok h1
  · by_cases h2 : cap ≤ cls xs s
    · exact with_2 A n cap xs s w hn hm hc h64 hr ok ⟨by omega, h2⟩
    · exact with_3 A n cap xs s w hn hm hc h64 hr ok ⟨by omega, by omega⟩
end Go.Proofs.Ytiohcegkkpeodaa
