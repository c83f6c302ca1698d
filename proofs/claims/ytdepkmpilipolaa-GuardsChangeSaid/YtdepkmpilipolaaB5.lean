/- Merged texts. Walks of the library: slices.Insert of a span at the front of a list that is not empty. Walks of the library: slices.Insert of a span at the front of a list that has room; any list. Walks of layer 11 over a system: what Place defers, where the guard stays. What the functions of layer 24 compute, as plain functions; no program in sight. Walks of layer 11's reference over a system: Place. Walks of layer 11 over a system: Place. What a change of pages makes of a system, by cases. Plain law of layer 11 over a system: what Place and Lift make of the kinds of the pages. Walks of law 11: the kinds of all pages of a system; comparison of two such arrays. -/
import Derived.Lib.Overlaps
import Derived.Shelf.RegionOpenPlain
import Derived.Laws.Externs
import Derived.Laws.StructEq
import Derived.DeepKeys
import Derived.Test.YtdepkmpilipolaaB4
namespace Go.Proofs.Ytdepkmpilipolaa
open Go Go.Proofs Go.RowKit Go.Pol Go.Shelf
attribute [local go_sem] Oper.semAt_some Go.Pol.wide_fn Go.Pol.wide_depth Go.Pol.wide_fn' Go.Pol.wide_depth'

theorem infoSpS2 : (Try.prog.info? 56).map (·.size) = some 2 := by kernel_rfl
theorem blk_setRow {w : World} {g : Nat} {t : TypeId} {cs cur : Array Value} (h : Blk w g t cur) : Blk (w.setRow g cs) g t cs := setRow_heap _ _ _ _ _ _ h
theorem blk_setRow_far {w : World} {g k : Nat} {t : TypeId} {cs cur : Array Value} (h : Blk w k t cur) (hne : k ≠ g) : Blk (w.setRow g cs) k t cur := by
  show (w.setRow g cs).heap[k]? = _
  rw [setRow_other _ _ _ _ hne]; exact h
set_option maxRecDepth 100000 in
set_option maxHeartbeats 400000 in
theorem insGrow_walk (g gx n c G q : Nat) (w W1 W2 W3 : World) (hn0 : 0 < n) (hn : n ≤ 512) (hnc : n ≤ c) (hc : c < n + 1) (hGn : n + 1 ≤ G) (_hGm : G ≤ maxLen)
    (hap : ∀ ty, (Builtin.append_ #[22, 3] ty #[.slice (some ⟨g, 0, none⟩) 0 c, .int .i64 ((n : Int) + 1)]).run Try.prog w = .ok (.slice (some ⟨q, 0, none⟩) (n + 1) G) W1)
    (hcA : ∀ ty, (Builtin.copy_ #[22, 22] ty #[.slice (some ⟨q, 0, none⟩) (n + 1) G, .slice (some ⟨gx, 0, none⟩) 1 1]).run Try.prog W1 = .ok (goInt 1) W2)
    (hcB : ∀ ty, (Builtin.copy_ #[22, 22] ty #[.slice (some ⟨q, 2, none⟩) n (G - 1), .slice (some ⟨g, 0, none⟩) n c]).run Try.prog W2.drew = .ok (goInt n) W3) :
    Calls Try.prog 28 #[.slice (some ⟨g, 0, none⟩) n c, .int .i64 0, .slice (some ⟨gx, 0, none⟩) 1 1] w fun e w' => e = .returned (.slice (some ⟨q, 0, none⟩) (n + 1) G) ∧ w' = W3 := by
  have hcd : decide ((c : Int) < (n : Int) + 1) = true := by rw [decide_eq_true_eq]; omega
  have hn0' : ((0 : Int) == (n : Int)) = false := by rw [beq_eq_false_iff_ne]; omega
  have hwr : IntKind.i64.wrap ((n : Int) + 1) = (n : Int) + 1 := by rw [IntKind.wrap_i64]; omega
  have hcB' := Lib.hid hcB
  have hcA' := Lib.hid hcA
  have hap' := Lib.hid hap
  clear hcA hcB hap
  go_enter Try.func28, Try.ntmps28
  go_upto_region 9 with fail
  go_upto_region 10 with (at_builtin; refine Lib.wpList_append_run _ rfl _ _ _ _ rfl _ _ rfl rfl _ _ (hap'.out _) ?_)
  go_upto_region 11 with (simp only [hcA'.out, Result.andThen_ok])
  have hw1 : IntKind.i64.wrap 1 = 1 := by rw [IntKind.wrap_i64]; rfl
  have hb1 : (1 : Int) ≤ (n : Int) + 1 := by omega
  have hG1 : ¬ (G = 1) := by omega
  have hc0 : ¬ (c = 0) := by omega
  have mixed : Try.prog.follows Departure.mixedOrders = true := by kernel_rfl
  go_region_law_o (refine step_copy_runW rfl _ _ 22 22 rfl (.slice (some ⟨q, 2, none⟩) n (G - 1)) (.slice (some ⟨g, 0, none⟩) n c) (by simp [Act.eval, Act.put]) (by simp [Act.eval, Act.put]) (hcB'.out _) ?_)
  go_wp2_with fail
  go_ret
  exact ⟨rfl, rfl⟩
set_option maxRecDepth 100000 in
set_option maxHeartbeats 1600000 in
/-- there is no room: a new row -/
theorem insGrow_any (base g gx n c : Nat) (xa xb : Int) (L : List Sp) (w : World) (hL : L.length = n) (hn0 : 0 < n) (hn : n ≤ 512) (hc : c < n + 1) (hrow : w.ownsRow base 56 2 (.slice (some ⟨g, 0, none⟩) n c) n (spCells L)) (k : Blk w gx 56 #[.int .i64 xa, .int .i64 xb]) (hb : base ≤ w.heap.size) :
    Calls Try.prog 28 #[.slice (some ⟨g, 0, none⟩) n c, .int .i64 0, .slice (some ⟨gx, 0, none⟩) 1 1] w fun e w' => ∃ v, e = .returned v ∧ w'.ownsRow base 56 2 v (n + 1) (.int .i64 xa :: .int .i64 xb :: spCells L) ∧ Far (fun k => k = g) w w' := by
  obtain ⟨G, hG⟩ : ∃ G, grownCap w (n + 1) c 56 = G := ⟨_, rfl⟩
  have hGn := grownCap_ge w (n + 1) c 56
  have hGm := grownCap_le_maxLen w (n + 1) c 56 (by unfold maxLen; omega)
  rw [hG] at hGn hGm
  obtain ⟨q, hq⟩ : ∃ q, w.heap.size = q := ⟨_, rfl⟩
  obtain ⟨hgq, hnc⟩ : g < q ∧ n ≤ c := by
    rcases hrow.2 with ⟨h, _⟩ | ⟨g', cap, cur, h, _, hk, h3, _⟩
    · cases h
    · cases h; rw [← hq]; exact ⟨Blk.lt hk, h3⟩
  have hxq : gx < q := by rw [← hq]; exact k.lt
  have hlc : (spCells L).length = n * 2 := by rw [spCells_len, hL]
  obtain ⟨ROW, hROW⟩ : ∃ ROW : Array Value, #[] ++ Builtin.zeroCells #[.int .i64 0, .int .i64 0] (n + 1) ++ Builtin.zeroCells #[.int .i64 0, .int .i64 0] (G - (n + 1)) = ROW := ⟨_, rfl⟩
  have hRs : ROW.size = G * 2 := by rw [← hROW]; simp [Builtin.zeroCells]; omega
  obtain ⟨W1, hW1⟩ : ∃ W1, w.drew.alloc (.cells ROW 56) = W1 := ⟨_, rfl⟩
  have hap : ∀ ty, (Builtin.append_ #[22, 3] ty #[.slice (some ⟨g, 0, none⟩) 0 c, .int .i64 ((n : Int) + 1)]).run Try.prog w = .ok (.slice (some ⟨q, 0, none⟩) (n + 1) G) W1 := fun ty => by
    have h := appZ ⟨g, 0, none⟩ n c hc hn ty w
    rw [hG, hROW, hW1, hq] at h
    rw [show ((n : Int) + 1) = ((n + 1 : Nat) : Int) by omega]
    exact h
  have k1 : Blk W1 q 56 ROW := by rw [← hW1, ← hq]; exact Blk.new w.drew _ _
  have hF1 : Far (fun _ => False) w W1 := by rw [← hW1]; exact (Far.refl _ w).drew.alloc _
  have kx1 := hF1.blk k (fun h => h)
  obtain ⟨W2, hW2⟩ : ∃ W2, W1.setRow q (ROW.toList.take 0 ++ [Value.int .i64 xa, Value.int .i64 xb] ++ ROW.toList.drop (0 + [Value.int .i64 xa, .int .i64 xb].length)).toArray = W2 := ⟨_, rfl⟩
  have hcA : ∀ ty, (Builtin.copy_ #[22, 22] ty #[.slice (some ⟨q, 0, none⟩) (n + 1) G, .slice (some ⟨gx, 0, none⟩) 1 1]).run Try.prog W1 = .ok (goInt 1) W2 := fun ty => by
    rw [← hW2]
    exact run_copy_rowN W1 _ _ ty 56 2 q 0 (n + 1) G ⟨gx, 0, none⟩ 1 1 1 ROW _ [.int .i64 xa, .int .i64 xb] Try.underlying22 infoSpS2 k1 (by simp only [Nat.min_def]; split <;> omega) rfl (news_two kx1) (by simp; omega) news_one2
  have hR0 : ROW.toList.length = G * 2 := by simpa using hRs
  have k2 : Blk W2 q 56 (insrtB ROW.toList (.int .i64 xa) (.int .i64 xb)).toArray := by rw [← hW2]; exact blk_setRow k1
  have hF2 : Far (fun k => q ≤ k) w W2 := by
    rw [← hW2]
    exact (hF1.mono (fun _ _ h => h.elim)).trans' (T' := fun k => k = q) ⟨rfl, rfl, rfl, by simp [World.setRow], fun _ _ hT => setRow_other _ _ _ _ hT⟩ (fun i hi e => by omega)
  have hsrc : ∀ (j : Nat) (v : Value), (spCells L)[j]? = some v → W2.drew.cell? (Addr.add ⟨g, 0, none⟩ j) = some v := fun j v hj => by
    have h0 := hrow.cells (g := g) rfl j v hj
    rw [addr_add0] at h0 ⊢
    exact (hF2.drew).cell h0 (by show ¬ q ≤ g; omega)
  have hBl : (insrtB ROW.toList (.int .i64 xa) (.int .i64 xb)).length = G * 2 := by unfold insrtB; simp; omega
  obtain ⟨W3, hW3⟩ : ∃ W3, W2.drew.setRow q ((insrtB ROW.toList (.int .i64 xa) (.int .i64 xb)).toArray.toList.take 2 ++ spCells L ++ (insrtB ROW.toList (.int .i64 xa) (.int .i64 xb)).toArray.toList.drop (2 + (spCells L).length)).toArray = W3 := ⟨_, rfl⟩
  have hcB : ∀ ty, (Builtin.copy_ #[22, 22] ty #[.slice (some ⟨q, 2, none⟩) n (G - 1), .slice (some ⟨g, 0, none⟩) n c]).run Try.prog W2.drew = .ok (goInt n) W3 := fun ty => by
    rw [← hW3]
    exact run_copy_rowN W2.drew _ _ ty 56 2 q 2 n (G - 1) ⟨g, 0, none⟩ n c n _ _ (spCells L) Try.underlying22 infoSpS2 k2.drew (by simp only [Nat.min_def]; split <;> omega) hlc hsrc (by rw [hlc, List.size_toArray, hBl]; omega) (spCells_oneW L)
  have hown : W3.ownsRow base 56 2 (.slice (some ⟨q, 0, none⟩) (n + 1) G) (n + 1) (.int .i64 xa :: .int .i64 xb :: spCells L) := by
    rw [← hW3, List.toList_toArray, insrtC_grow]
    refine setRow_own k2.drew (by omega) hGn hGm (by rw [List.size_toArray, insrtC_len _ _ _ _ (by rw [hlc, hR0]; omega), hR0]) (by simp only [List.length_cons, hlc]; omega) ?_
    rw [List.toList_toArray]
    unfold insrtC
    rw [List.take_append_of_le_length (by simp only [List.length_cons, hlc]; omega), List.take_of_length_le (by simp only [List.length_cons, hlc]; omega)]
  have hF3 : Far (fun k => k = g) w W3 := by
    rw [← hW3]
    exact ((hF2.drew).mono (fun i hi h => by omega)).trans' (T' := fun k => k = q) ⟨rfl, rfl, rfl, by simp [World.setRow], fun _ _ hT => setRow_other _ _ _ _ hT⟩ (fun i hi e => by omega)
  refine (insGrow_walk g gx n c G q w W1 W2 W3 hn0 hn hnc hc hGn hGm hap hcA hcB).mono ?_
  rintro e w' ⟨rfl, rfl⟩
  exact ⟨_, rfl, hown, hF3⟩
end Go.Proofs.Ytdepkmpilipolaa
namespace Go.Proofs.Ytdepkmpilipolaa
open Go Go.Proofs Go.RowKit Go.Pol Go.Shelf
attribute [local go_sem] Oper.semAt_some Go.Pol.wide_fn Go.Pol.wide_depth Go.Pol.wide_fn' Go.Pol.wide_depth'

theorem overlaps_no (w : World) (a b : Addr) (la ca lb cb : Nat) (hne : a.block ≠ b.block) (tA tB : TypeId) (kA kB : Nat) (hsa : w.shape? a.block = some (tA, kA)) (hsb : w.shape? b.block = some (tB, kB)) (hkB : kB ≠ 0) (hfa : w.frozen? a = false) (hfe : w.frozen? { block := a.block, off := kA } = false) :
    (callFunc 43 #[.slice (some a) la ca, .slice (some b) lb cb]).run Try.prog w = .ok (.value (.bool false)) w := by
  have hz : ∀ w, (Go.sizeOf 56).run Try.prog w = .ok 2 w := fun w => by
    obtain ⟨j0, hj, hy0, hy1, hy2⟩ := infoSp_parts
    simp [sizeOf, typeInfo, hj, hy1]
  rw [run_callFunc_extern Try.func43 (by kernel_rfl) (by kernel_rfl) (by kernel_rfl) (e := Extern.SlicesOverlaps.overlaps #[22, 22] #[4]) (by kernel_rfl),
    Lib.run_overlaps_apart w 22 4 56 Try.underlying22 2 hz a b la ca lb cb hne tA tB kA kB hsa hsb hkB hfa hfe]
  rfl
set_option maxRecDepth 100000 in
set_option maxHeartbeats 800000 in
theorem insRoom_walk (g gx n c : Nat) (w W2 W3 : World) (hn0 : 0 < n) (hn : n ≤ 512) (hc : n + 1 ≤ c) (hcm : c ≤ maxLen)
    (hov : (callFunc 43 #[.slice (some ⟨gx, 0, none⟩) 1 1, .slice (some ⟨g, 2, none⟩) n (c - 1)]).run Try.prog w = .ok (.value (.bool false)) w)
    (hcA : ∀ ty, (Builtin.copy_ #[22, 22] ty #[.slice (some ⟨g, 2, none⟩) n (c - 1), .slice (some ⟨g, 0, none⟩) (n + 1) c]).run Try.prog w.drew = .ok (goInt n) W2)
    (hcB : ∀ ty, (Builtin.copy_ #[22, 22] ty #[.slice (some ⟨g, 0, none⟩) (n + 1) c, .slice (some ⟨gx, 0, none⟩) 1 1]).run Try.prog W2 = .ok (goInt 1) W3) :
    Calls Try.prog 28 #[.slice (some ⟨g, 0, none⟩) n c, .int .i64 0, .slice (some ⟨gx, 0, none⟩) 1 1] w fun e w' => e = .returned (.slice (some ⟨g, 0, none⟩) (n + 1) c) ∧ w' = W3 := by
  have hcd : decide ((c : Int) < (n : Int) + 1) = false := by rw [decide_eq_false_iff_not]; omega
  have hn0' : ((0 : Int) == (n : Int)) = false := by rw [beq_eq_false_iff_ne]; omega
  have hwr : IntKind.i64.wrap ((n : Int) + 1) = (n : Int) + 1 := by rw [IntKind.wrap_i64]; omega
  have hw1 : IntKind.i64.wrap 1 = 1 := by rw [IntKind.wrap_i64]; rfl
  have hb1 : (1 : Int) ≤ (n : Int) + 1 := by omega
  have hb0 : (0 : Int) ≤ (n : Int) + 1 := by omega
  have hG1 : ¬ (c = 1) := by omega
  have hc0 : ¬ (c = 0) := by omega
  have hnc1 : (n : Int) + 1 ≤ (c : Int) := by omega
  have hcB' := Lib.hid hcB
  have hcA' := Lib.hid hcA
  have hov' := Lib.hid hov
  have hc63 : c ≤ 9223372036854775807 := by unfold maxLen at hcm; omega
  have mixed : Try.prog.follows Departure.mixedOrders = true := by kernel_rfl
  clear hcA hcB hov hcm
  go_enter Try.func28, Try.ntmps28
  go_upto_region 14 with fail
  go_upto_region 15 with (simp only [hov'.out])
  go_region_law_o (refine step_copy_runW rfl _ _ 22 22 rfl (.slice (some ⟨g, 2, none⟩) n (c - 1)) (.slice (some ⟨g, 0, none⟩) (n + 1) c) (by simp [Act.eval, Act.put]) (by simp [Act.eval, Act.put]) (hcA'.out _) ?_)
  go_wp2_with (simp only [hcB'.out, Result.andThen_ok])
  go_ret
  exact ⟨rfl, rfl⟩
set_option maxRecDepth 100000 in
set_option maxHeartbeats 1600000 in
/-- there is room: in place -/
theorem insRoom_any (base g gx n c : Nat) (xa xb : Int) (L : List Sp) (w : World) (hL : L.length = n) (hn0 : 0 < n) (hn : n ≤ 512) (hc : n + 1 ≤ c) (hrow : w.ownsRow base 56 2 (.slice (some ⟨g, 0, none⟩) n c) n (spCells L)) (k : Blk w gx 56 #[.int .i64 xa, .int .i64 xb]) (hne : gx ≠ g) :
    Calls Try.prog 28 #[.slice (some ⟨g, 0, none⟩) n c, .int .i64 0, .slice (some ⟨gx, 0, none⟩) 1 1] w fun e w' => ∃ v, e = .returned v ∧ w'.ownsRow base 56 2 v (n + 1) (.int .i64 xa :: .int .i64 xb :: spCells L) ∧ Far (fun k => k = g) w w' := by
  obtain ⟨cur, hbg, hk, hcm, hcs, htk⟩ : ∃ cur : Array Value, base ≤ g ∧ Blk w g 56 cur ∧ c ≤ maxLen ∧ cur.size = c * 2 ∧ cur.toList.take (n * 2) = spCells L := by
    rcases hrow.2 with ⟨h, _⟩ | ⟨g', cap, cur, h, h1, h2, h3, h4, h5, h6⟩
    · cases h
    · cases h; exact ⟨cur, h1, h2, h4, h5, h6⟩
  have hlc : (spCells L).length = n * 2 := by rw [spCells_len, hL]
  have hR0 : cur.toList.length = c * 2 := by simpa using hcs
  have hov : (callFunc 43 #[.slice (some ⟨gx, 0, none⟩) 1 1, .slice (some ⟨g, 2, none⟩) n (c - 1)]).run Try.prog w = .ok (.value (.bool false)) w :=
    overlaps_no w _ _ _ _ _ _ hne 56 56 2 (c * 2) (by
      have : w.heap[gx]? = _ := k
      simp [World.shape?, this]) (by
      have : w.heap[g]? = _ := hk
      simp [World.shape?, this, hcs]) (by omega) (k.frozen 0) (k.frozen 2)
  obtain ⟨W2, hW2⟩ : ∃ W2, w.drew.setRow g (cur.toList.take 2 ++ spCells L ++ cur.toList.drop (2 + (spCells L).length)).toArray = W2 := ⟨_, rfl⟩
  have hsrc : ∀ (j : Nat) (v : Value), (spCells L)[j]? = some v → w.drew.cell? (Addr.add ⟨g, 0, none⟩ j) = some v := fun j v hj => hrow.cells (g := g) rfl j v hj
  have hcA : ∀ ty, (Builtin.copy_ #[22, 22] ty #[.slice (some ⟨g, 2, none⟩) n (c - 1), .slice (some ⟨g, 0, none⟩) (n + 1) c]).run Try.prog w.drew = .ok (goInt n) W2 := fun ty => by
    rw [← hW2]
    exact run_copy_rowN w.drew _ _ ty 56 2 g 2 n (c - 1) ⟨g, 0, none⟩ (n + 1) c n cur _ (spCells L) Try.underlying22 infoSpS2 hk.drew (by simp only [Nat.min_def]; split <;> omega) hlc hsrc (by omega) (spCells_oneW L)
  have k2 : Blk W2 g 56 (cur.toList.take 2 ++ spCells L ++ cur.toList.drop (2 + (spCells L).length)).toArray := by rw [← hW2]; exact blk_setRow hk.drew
  have kx2 : Blk W2 gx 56 #[.int .i64 xa, .int .i64 xb] := by rw [← hW2]; exact blk_setRow_far k.drew hne
  have hF2 : Far (fun k => k = g) w W2 := by
    rw [← hW2]
    exact (Far.refl _ w).drew.trans' (T' := fun k => k = g) ⟨rfl, rfl, rfl, by simp [World.setRow], fun _ _ hT => setRow_other _ _ _ _ hT⟩ (fun i hi e => by omega)
  obtain ⟨ROW, hROW⟩ : ∃ ROW, cur.toList.take 2 ++ spCells L ++ cur.toList.drop (2 + (spCells L).length) = ROW := ⟨_, rfl⟩
  have hRl : ROW.length = c * 2 := by rw [← hROW]; simp only [List.length_append, List.length_take, List.length_drop, hlc, hR0]; omega
  rw [hROW] at k2
  obtain ⟨W3, hW3⟩ : ∃ W3, W2.setRow g (ROW.toArray.toList.take 0 ++ [Value.int .i64 xa, Value.int .i64 xb] ++ ROW.toArray.toList.drop (0 + [Value.int .i64 xa, .int .i64 xb].length)).toArray = W3 := ⟨_, rfl⟩
  have hcB : ∀ ty, (Builtin.copy_ #[22, 22] ty #[.slice (some ⟨g, 0, none⟩) (n + 1) c, .slice (some ⟨gx, 0, none⟩) 1 1]).run Try.prog W2 = .ok (goInt 1) W3 := fun ty => by
    rw [← hW3]
    exact run_copy_rowN W2 _ _ ty 56 2 g 0 (n + 1) c ⟨gx, 0, none⟩ 1 1 1 _ _ [.int .i64 xa, .int .i64 xb] Try.underlying22 infoSpS2 k2 (by simp only [Nat.min_def]; split <;> omega) rfl (news_two kx2) (by simp; omega) news_one2
  have hown : W3.ownsRow base 56 2 (.slice (some ⟨g, 0, none⟩) (n + 1) c) (n + 1) (.int .i64 xa :: .int .i64 xb :: spCells L) := by
    have he : ROW.toArray.toList.take 0 ++ [Value.int .i64 xa, Value.int .i64 xb] ++ ROW.toArray.toList.drop (0 + [Value.int .i64 xa, .int .i64 xb].length) = insrtC cur.toList (spCells L) (.int .i64 xa) (.int .i64 xb) := by
      rw [List.toList_toArray, ← hROW]
      exact insrtC_room _ _ _ _ (by rw [hR0]; omega)
    rw [← hW3, he]
    refine setRow_own k2 hbg hc hcm (by rw [List.size_toArray, insrtC_len _ _ _ _ (by rw [hlc, hR0]; omega), hR0]) (by simp only [List.length_cons, hlc]; omega) ?_
    rw [List.toList_toArray]
    unfold insrtC
    rw [List.take_append_of_le_length (by simp only [List.length_cons, hlc]; omega), List.take_of_length_le (by simp only [List.length_cons, hlc]; omega)]
  have hF3 : Far (fun k => k = g) w W3 := by
    rw [← hW3]
    exact hF2.trans' (T' := fun k => k = g) ⟨rfl, rfl, rfl, by simp [World.setRow], fun _ _ hT => setRow_other _ _ _ _ hT⟩ (fun i hi e => by omega)
  refine (insRoom_walk g gx n c w W2 W3 hn0 hn hc hcm hov hcA hcB).mono ?_
  rintro e w' ⟨rfl, rfl⟩
  exact ⟨_, rfl, hown, hF3⟩
end Go.Proofs.Ytdepkmpilipolaa
namespace Go.Proofs.Ytdepkmpilipolaa
open Go Go.Proofs Go.RowKit Go.Pol Go.Shelf
attribute [local go_sem] Oper.semAt_some Go.Pol.wide_fn Go.Pol.wide_depth Go.Pol.wide_fn' Go.Pol.wide_depth'

theorem ins_any (base gx : Nat) (xa xb : Int) (L : List Sp) (v3 : Value) (w : World) (hL : L.length ≤ 512) (hn : L = [] → v3 = .slice none 0 0) (hrow : w.ownsRow base 56 2 v3 L.length (spCells L)) (k : Blk w gx 56 #[.int .i64 xa, .int .i64 xb]) (hne : v3.ownBlock ≠ some gx) (hb : base ≤ w.heap.size) :
    Calls Try.prog 28 #[v3, .int .i64 0, .slice (some ⟨gx, 0, none⟩) 1 1] w fun e w' => ∃ v, e = .returned v ∧ w'.ownsRow base 56 2 v (L.length + 1) (spCells ((xa, xb) :: L)) ∧ Far (fun k => v3.ownBlock = some k) w w' := by
  by_cases h0 : L = []
  · subst h0
    rw [hn rfl]
    refine (insNil_any base gx xa xb w k hb).mono ?_
    rintro e w' ⟨v, rfl, h1, h2⟩
    exact ⟨v, rfl, h1, (Far.of_below h2)⟩
  · have hl0 : 0 < L.length := List.length_pos_iff.2 h0
    rcases hrow.2 with ⟨_, h⟩ | ⟨g, c, cur, rfl, h1, h2, h3, h4, h5, h6⟩
    · omega
    · have hf : (Value.slice (some ⟨g, 0, none⟩) L.length c).ownBlock = some g := rfl
      by_cases hc : c < L.length + 1
      · refine (insGrow_any base g gx L.length c xa xb L w rfl hl0 hL hc hrow k hb).mono ?_
        rintro e w' ⟨v, rfl, q1, q2⟩
        exact ⟨v, rfl, q1, q2.mono (fun k _ e => by rw [hf, e])⟩
      · refine (insRoom_any base g gx L.length c xa xb L w rfl hl0 hL (by omega) hrow k (fun e => hne (by rw [hf, e]))).mono ?_
        rintro e w' ⟨v, rfl, q1, q2⟩
        exact ⟨v, rfl, q1, q2.mono (fun k _ e => by rw [hf, e])⟩
set_option maxRecDepth 100000 in
set_option maxHeartbeats 1600000 in
/-- a guard stays -/
theorem place1Bad_any (b p0 p1 p2 p3 base : Nat) (er xa xb : Int) (V : Vm) (v3 : Value) (L : List Sp) (w : World) (hV : SysIs w b V) (he : er ≠ 0) (k0 : Blk w p0 35 #[.int .i64 er]) (k1 : Blk w p1 34 #[.pointer (some ⟨b, 0, none⟩)]) (k2 : Blk w p2 56 #[.int .i64 xa, .int .i64 xb])
    (k3 : Blk w p3 22 #[v3]) (hL : L.length ≤ 512) (hn : L = [] → v3 = .slice none 0 0) (hrow : w.ownsRow base 56 2 v3 L.length (spCells L)) (hb : base ≤ w.heap.size) (hp3 : p3 < base) (hbb : b < base) (h23 : p2 ≠ b) (hpb : p3 ≠ b)
    (h0 : (bec V xa xb 4 3 1).1 ≠ 0) :
    CallsD Try.prog 27 #[.pointer (some ⟨p0, 0, none⟩), .pointer (some ⟨p1, 0, none⟩), .pointer (some ⟨p2, 0, none⟩), .pointer (some ⟨p3, 0, none⟩)] .returning w fun e u' w' => u' = .returning ∧ ((∃ v, e = .returned v) ∧
      ∃ v', Blk w' p3 22 #[v'] ∧ w'.ownsRow base 56 2 v' (L.length + 1) (spCells ((xa, xb) :: L)) ∧ SysIs w' b (bec V xa xb 4 3 1).2 ∧ Far (fun k => k = b ∨ k = p3 ∨ base ≤ k) w w') := by
  have c0 := k0.cell
  have c1 := k1.cell
  have c2 := k2.cell
  have he' : (er != 0) = true := by simpa using he
  have HD := Lib.hid (unguard_any b xa xb V w hV)
  generalize bec V xa xb 4 3 1 = J at *
  obtain ⟨je, jV⟩ := J
  have h0' : (je != 0) = true := by simpa using h0
  simp only at HD
  clear he hV h0
  go_enter_d Try.func27, Try.ntmps27
  go_wp2_with fail
  refine HD.out.mono ?_
  rintro e w1 ⟨rfl, hS, hF⟩
  have k31 := hF.blk k3 hpb
  have k21 := hF.blk k2 h23
  have row1 := ownsRow_far hrow hF (fun g hg h => by have := (hrow.lt g hg).1; omega)
  have hs1 := hF.size
  have d2 := k21.cell
  have d3 := k31.cell
  have f3 := k31.frozen
  have kq := Blk.new w1 56 #[.int .i64 xa, .int .i64 xb]
  have hbq : Below w1.heap.size w1 (w1.alloc (.cells #[.int .i64 xa, .int .i64 xb] 56)) := (Below.refl _ _).alloc (Nat.le_refl _) _
  have rowq := ownsRow_call row1 hbq
  have hneq : v3.ownBlock ≠ some w1.heap.size := fun e => by have := (row1.lt _ e).2; omega
  have HI := Lib.hid (ins_any base w1.heap.size xa xb L v3 _ hL hn rowq kq hneq (by have := hbq.size; omega))
  have hS' := Lib.hid (hS.call hbq)
  have hF' := Lib.hid (hF.trans (Far.of_below hbq))
  have k3q := Lib.hid (k31.call hbq)
  have hlt := Lib.hid (fun g (e : v3.ownBlock = some g) => rowq.lt g e)
  have hrq := Lib.hid rowq
  clear HD hS hrow c0 c1 c2 k0 k1 k2 k3 row1 hF k31 k21 rowq hbq kq hneq
  go_wp2_with fail
  refine HI.out.mono ?_
  rintro e w3 ⟨v', rfl, row3, hF3⟩
  obtain ⟨A5, cap5, rfl, _⟩ := own_RU row3 rfl
  have k33 := hF3.blk k3q.out (fun e => by have := (hlt.out _ e).1; omega)
  have hS3 := Lib.hid (hS'.out.far hF3 (fun e => by have := (hlt.out _ e).1; omega) (fun _ _ _ _ _ _ g _ _ _ hc hg => hc.elim fun cr hcr => own_other hrq.out hg hcr (by decide)))
  have f3 := k33.frozen
  have c3 := k33.cell
  have row3' := Lib.hid row3
  have hFF : Far (fun k => k = b ∨ k = p3 ∨ base ≤ k) w w3 := (hF'.out.mono (fun k _ e => .inl e)).trans (hF3.mono (fun k _ e => .inr (.inr (hlt.out k e).1)))
  have hFF' := Lib.hid hFF
  have k3' := Lib.hid k33
  clear HI d2 d3 f3 k33 row3 hFF hF3 hS' hF' k3q hlt hrq
  have f3 := k3'.out.frozen
  go_wp2_with fail
  have k4 := k3'.out.set_ 0 (.slice A5 (L.length + 1) cap5)
  have F4 : Far (fun k => k = p3) w3 (w3.setCell ⟨p3, 0, none⟩ (.slice A5 (L.length + 1) cap5)) := Far.setCell (T := fun k => k = p3) (p := ⟨p3, 0, none⟩) (Far.refl _ _) (fun _ => rfl) _
  have row4 := ownsRow_far row3'.out F4 (fun g hg h => by have := (row3'.out.lt g hg).1; omega)
  exact ⟨rfl, _, by simp [results, Try.results27, go_sem]; rfl, ⟨_, rfl⟩, _, k4, row4, hS3.out.far F4 (fun e => hpb e.symm) (fun _ _ _ _ _ _ g _ _ _ hc e => hc.elim fun cr hcr => Blk.ne_ hcr k3'.out (by decide) e), hFF'.out.trans (F4.mono (fun k _ e => .inr (.inl e)))⟩
end Go.Proofs.Ytdepkmpilipolaa
namespace Go.Pol
/-- a block: page, order, pinned -/
abbrev B3 := Int × Int × Bool
abbrev b0 : B3 := (0, 0, false)
end Go.Pol
namespace Go.Pol
open Go Go.RowKit
/-- one guard is taken away again -/
def undoStep (S : List Sp × Vm) (x : Sp) : List Sp × Vm := (if (bec S.2 x.1 x.2 4 3 1).1 = 0 then S.1 else x :: S.1, (bec S.2 x.1 x.2 4 3 1).2)
/-- guards are placed one after the other (those that are placed: the latest first) -/
def plcL (G : List Sp) : List Sp → List Sp → Vm → List Sp × Int × Vm
  | _, [], V => (G, 0, V)
  | d, x :: r, V => if (bec V x.1 x.2 4 1 3).1 = 0 then plcL G (x :: d) r (bec V x.1 x.2 4 1 3).2 else ((d.foldl undoStep ([], (bec V x.1 x.2 4 1 3).2)).1, (bec V x.1 x.2 4 1 3).1, (d.foldl undoStep ([], (bec V x.1 x.2 4 1 3).2)).2)
/-- what Place does -/
def placeG (V : Vm) (ck : Int) (G : List Sp) : List Sp × Int × Vm := if ck = 0 then plcL G [] G V else ([], ck, V)
end Go.Pol
namespace Go.Pol
open Go Go.RowKit
/-- the boxes of the spans that were made guards, latest first -/
def PlB (w : World) (lo hi : Nat) : List Nat → List Sp → Prop
  | [], [] => True
  | p :: ps, x :: xs => (lo ≤ p ∧ p < hi ∧ Blk w p 56 #[.int .i64 x.1, .int .i64 x.2]) ∧ PlB w lo hi ps xs
  | _, _ => False
theorem PlB.far {w w' : World} {T : Nat → Prop} {lo hi : Nat} (hF : Far T w w') (hT : ∀ k, lo ≤ k → k < hi → ¬ T k) : ∀ (ps : List Nat) (xs : List Sp), PlB w lo hi ps xs → PlB w' lo hi ps xs
  | [], [], _ => trivial
  | [], _ :: _, h => h
  | _ :: _, [], h => h
  | _ :: ps, _ :: xs, h => ⟨⟨h.1.1, h.1.2.1, hF.blk h.1.2.2 (hT _ h.1.1 h.1.2.1)⟩, PlB.far hF hT ps xs h.2⟩
theorem PlB.more {w : World} {lo hi hi' : Nat} (hh : hi ≤ hi') : ∀ (ps : List Nat) (xs : List Sp), PlB w lo hi ps xs → PlB w lo hi' ps xs
  | [], [], _ => trivial
  | [], _ :: _, h => h
  | _ :: _, [], h => h
  | _ :: ps, _ :: xs, h => ⟨⟨h.1.1, Nat.lt_of_lt_of_le h.1.2.1 hh, h.1.2.2⟩, PlB.more hh ps xs h.2⟩
end Go.Pol
namespace Go.Proofs.Ytdepkmpilipolaa
open Go Go.Proofs Go.RowKit Go.Pol Go.Shelf
attribute [local go_sem] Oper.semAt_some Go.Pol.wide_fn Go.Pol.wide_depth Go.Pol.wide_fn' Go.Pol.wide_depth'

/-- a call that Place defers -/
def plD (s p : Nat) : Deferred := { target := .fn (.func 27) #[.pointer (some ⟨s + 3, 0, none⟩), .pointer (some ⟨s, 0, none⟩), .pointer (some ⟨p, 0, none⟩), .pointer (some ⟨s + 2, 0, none⟩)], args := #[] }
theorem place1_enters : ∀ args w, (callFunc 27 args).run Try.prog w = .ok (.enter 27 args) w := enters_of Try.func27 (by kernel_rfl) rfl
theorem plD_enters (s p : Nat) (w : World) : (invoke (plD s p).target (plD s p).args).run Try.prog w = .ok (.enter 27 #[.pointer (some ⟨s + 3, 0, none⟩), .pointer (some ⟨s, 0, none⟩), .pointer (some ⟨p, 0, none⟩), .pointer (some ⟨s + 2, 0, none⟩)]) w := place1_enters _ w
/-- the cells of what is handed back -/
def StS (g4 g5 : Nat) (x : Int) (W : World) : Prop := W.cell? ⟨g4, 0, none⟩ = some (.slice none 0 0) ∧ W.cell? ⟨g5, 0, none⟩ = some (.int .i64 x)
/-- what lies in memory while the deferred calls are made -/
def PlI (b s base : Nat) (je : Int) (R : List Sp × Vm) (w0 : World) (ds : List Deferred) (w : World) : Prop :=
  ∃ (Ds : List Nat) (D L : List Sp) (U : Vm) (v3 : Value), ds = Ds.map (plD s) ∧ PlB w (s + 4) base Ds D ∧ Blk w (s + 3) 35 #[.int .i64 je] ∧ Blk w s 34 #[.pointer (some ⟨b, 0, none⟩)] ∧ Blk w (s + 2) 22 #[v3] ∧
    w.ownsRow base 56 2 v3 L.length (spCells L) ∧ (L = [] → v3 = .slice none 0 0) ∧ L.length + D.length ≤ 512 ∧ SysIs w b U ∧ D.foldl undoStep (L, U) = R ∧ Far (fun k => k = b) w0 w ∧ base ≤ w.heap.size
theorem plI_step (b s base : Nat) (je : Int) (R : List Sp × Vm) (w0 : World) (hs : w0.heap.size = s) (hb : b < s) (hbase : s + 4 ≤ base) (hje : je ≠ 0) (d : Deferred) (ds : List Deferred) (w : World) (h : PlI b s base je R w0 (d :: ds) w) :
    ∃ fv cap f args, d.target = .fn fv cap ∧ (invoke d.target d.args).run Try.prog w = .ok (.enter f args) w ∧ CallsD Try.prog f args .returning w (fun e u' w' => u' = .returning ∧ ((∃ v, e = .returned v) ∧ PlI b s base je R w0 ds w')) := by
  obtain ⟨Ds, D, L, U, v3, h1, h2, k0, k1, k3, hrow, hn, hl, hV, hR, hF, hbs⟩ := h
  match Ds, D, h1, h2 with
  | p :: ps, x :: xs, h1, h2 =>
    rw [List.map_cons] at h1
    obtain ⟨rfl, rfl⟩ := List.cons.inj h1
    obtain ⟨⟨q1, q2, k2⟩, h2⟩ := h2
    obtain ⟨xa, xb⟩ := x
    rw [List.length_cons] at hl
    rw [List.foldl_cons, show undoStep (L, U) (xa, xb) = (if (bec U xa xb 4 3 1).1 = 0 then L else (xa, xb) :: L, (bec U xa xb 4 3 1).2) from rfl] at hR
    refine ⟨_, _, _, _, rfl, plD_enters s p w, ?_⟩
    by_cases hz : (bec U xa xb 4 3 1).1 = 0
    · rw [if_pos hz] at hR
      refine (place1Un_any b (s + 3) s p (s + 2) je xa xb U w hV hje k0 k1 k2 hz).mono ?_
      rintro e u' w' ⟨rfl, hv, hS, hF'⟩
      refine ⟨rfl, hv, ps, xs, L, _, v3, rfl, PlB.far hF' (fun k hk _ h => by omega) _ _ h2, hF'.blk k0 (by omega), hF'.blk k1 (by omega), hF'.blk k3 (by omega), ownsRow_far hrow hF' (fun g hg h => by have := (hrow.lt g hg).1; omega), hn, by omega, hS, hR, hF.trans hF', by have := hF'.size; omega⟩
    · rw [if_neg hz] at hR
      refine (place1Bad_any b (s + 3) s p (s + 2) base je xa xb U v3 L w hV hje k0 k1 k2 k3 (by omega) hn hrow hbs (by omega) (by omega) (by omega) (by omega) hz).mono ?_
      rintro e u' w' ⟨rfl, hv, v', k3', row', hS, hF'⟩
      refine ⟨rfl, hv, ps, xs, (xa, xb) :: L, _, v', rfl, PlB.far hF' (fun k hk hk2 h => by omega) _ _ h2, hF'.blk k0 (by omega), hF'.blk k1 (by omega), k3', row', fun h => (by cases h), by rw [List.length_cons]; omega, hS, hR, hF.trans' hF' (fun i hi h => by omega), by have := hF'.size; omega⟩
set_option maxRecDepth 100000 in
set_option maxHeartbeats 3200000 in
theorem gplace_any (b : Nat) (pg n f bk ev : Int) (V : Vm) (w : World) (hV : SysIs w b V) (hK : KindOk V) (hGl : (guardsF pg n f bk ev).length ≤ 512) :
    Calls Try.prog 8 #[.pointer (some ⟨b, 0, none⟩), planV pg n f bk ev] w (SpanSys b (placeG V (chkG pg n f bk ev) (guardsF pg n f bk ev)) w) := by
  have HA := Lib.hid (fun W h => askG_any b pg n f bk ev V W h hK)
  obtain ⟨w0, hw0, hsz, hB0, k1, k2, k3, k4⟩ := place_boxes (.pointer (some ⟨b, 0, none⟩)) (planC pg n f bk ev) w
  obtain ⟨s, hs⟩ : ∃ s, w.heap.size = s := ⟨_, rfl⟩
  have hbs : b < s := by rw [← hs]; exact hV.lt
  have V0 := hV.call hB0
  rw [hs] at k1 k2 k3 k4 hsz
  obtain ⟨R, hR⟩ : ∃ R, placeG V (chkG pg n f bk ev) (guardsF pg n f bk ev) = R := ⟨_, rfl⟩
  rw [hR]
  have hR' := Lib.hid hR
  unfold placeG at hR'
  generalize chkG pg n f bk ev = ck at *
  generalize guardsF pg n f bk ev = G at *
  unfold SpansOwn at HA
  obtain ⟨gn, hgn⟩ : ∃ gn, G.length = gn := ⟨_, rfl⟩
  rw [hgn] at HA hGl
  have hgn' := Lib.hid hgn
  clear hR hgn hV hK
  by_cases h0 : ck = 0
  case neg =>
    have h0' : (ck != 0) = true := by simpa using h0
    have hR2 : Hid (R = ([], ck, V)) := Lib.hid (by rw [← hR'.out, if_neg h0])
    clear hR' h0
    go_enter_defers Try.func8, Try.ntmps8
    go_upto_region 1 with fail
    unfold planC at hw0
    try simp only [hs]
    rw [← hw0]
    have c1 := k1.cell
    have c2 := k2.cell
    clear hw0
    go_wp2_with fail
    refine (HA.out _ V0).mono ?_
    rintro e w1 ⟨A1, cc1, rfl, g1, g2, g3, g4, hb1, g6⟩
    have k51 := k4.call hb1
    have k41 := k3.call hb1
    have B1 := hB0.trans (hb1.mono hB0.size)
    have V1 := V0.call hb1
    have f5 := k51.frozen
    have c5 := k51.cell
    have hb2 : Below w.heap.size w (w1.setCell ⟨s + 1 + 1 + 1, 0, none⟩ (.int .i64 ck)) := B1.setCell (p := ⟨s + 1 + 1 + 1, 0, none⟩) (by show w.heap.size ≤ s + 1 + 1 + 1; omega) _
    have F2 : Far (fun k => k = s + 3) w1 (w1.setCell ⟨s + 3, 0, none⟩ (.int .i64 ck)) := Far.setCell (T := fun k => k = s + 3) (p := ⟨s + 3, 0, none⟩) (Far.refl _ _) (fun _ => rfl) _
    have V2 := V1.far F2 (by omega) (fun _ _ _ _ _ _ g _ _ _ hc e => hc.elim fun cr hcr => Blk.ne_ hcr k51 (by decide) e)
    have k52 := k51.set_ 0 (.int .i64 ck)
    have k42 := F2.blk k41 (by show ¬ s + 2 = s + 3; omega)
    clear HA c1 c2 k1 k2 k3 k4 hB0 hb1 k41 k51 F2 B1
    go_upto_region 2 with fail
    generalize w1.setCell _ _ = w2 at *
    clear c5 f5
    have c5 := k52.cell
    go_upto_region 3 with fail
    clear c5
    have Vd : SysIs w2.drew b V := V2.call ((Below.refl _ w2).drew)
    refine wp_noPanic ?_
    refine wp_region_T (ErS (s + 1 + 1 + 1) ck) [2] (by kernel_rfl) ?_
    have kd4 := k42.drew
    have kd5 := k52.drew
    have hBd := (hb2).drew
    generalize (w2).drew = wd at *
    have hS : ErS (s + 1 + 1 + 1) ck wd := ⟨kd5.cell 0, trivial⟩
    have fz4 := kd4.frozen
    refine' wpAnyT_take (i := 0) (v := _) ?hiT0 (by kernel_rfl) ?hQT0 (Or.inl ⟨?hwT0, ?hyT0⟩) hS ?reT0
    case hiT0 => (simp only [List.getElem?_toArray, List.getElem?_cons_zero]; rfl)
    case hQT0 => exact fun _ _ _ h => h
    case hwT0 => rfl
    case hyT0 => (intro wS hSw; obtain ⟨_, _⟩ := hSw; go_simp; (try with_reducible rfl))
    try simp only [Act.put, List.setIfInBounds_toArray, List.set_cons_zero, List.set_cons_succ]
    refine wpAnyT_ready (rs := [1]) (by kernel_rfl) (by simp) ?_
    refine' AllReadyT.cons ?hi1 (fun K hK => ?st1) AllReadyT.nil
    case hi1 => (simp only [List.getElem?_toArray, List.getElem?_cons_succ, List.getElem?_cons_zero]; rfl)
    have z4 := kd4.cell
    go_simp
    refine hK.out _ _ (fun _ => ⟨((Far.setCell (T := fun k => k = s + 2) (p := ⟨s + 1 + 1, 0, none⟩) (Far.refl _ wd) (fun _ => rfl) (.slice none 0 0)).cell (kd5.cell 0) (by show ¬ s + 3 = s + 2; omega)), trivial⟩) (fun _ => ?_)
    clear hK K fz4 z4 hS
    have Fx : Far (fun k => k = s + 2) wd (wd.setCell ⟨s + 2, 0, none⟩ (.slice none 0 0)) := Far.setCell (T := fun k => k = s + 2) (p := ⟨s + 2, 0, none⟩) (Far.refl _ _) (fun _ => rfl) _
    have ke4 := kd4.set_ 0 (.slice none 0 0)
    have ke5 := Fx.blk kd5 (by show ¬ s + 3 = s + 2; omega)
    have hBe : Below w.heap.size w (wd.setCell ⟨s + 1 + 1, 0, none⟩ (.slice none 0 0)) := hBd.setCell (p := ⟨s + 1 + 1, 0, none⟩) (by show w.heap.size ≤ s + 1 + 1; omega) _
    generalize wd.setCell _ _ = we at *
    try simp only [Act.put, List.setIfInBounds_toArray, List.set_cons_zero, List.set_cons_succ]
    have fz5 := ke5.frozen
    have z5 := ke5.cell
    refine wpAnyT_ready (rs := [2]) (by kernel_rfl) (by simp) ?_
    refine' AllReadyT.cons ?hi2 (fun K hK => ?st2) AllReadyT.nil
    case hi2 => (simp only [List.getElem?_toArray, List.getElem?_cons_succ, List.getElem?_cons_zero]; rfl)
    go_simp
    refine hK.out _ _ (fun h => by cases h) (fun _ => ?_)
    clear hK K fz5 z5
    have Fy : Far (fun k => k = s + 3) we (we.setCell ⟨s + 3, 0, none⟩ (.int .i64 ck)) := Far.setCell (T := fun k => k = s + 3) (p := ⟨s + 3, 0, none⟩) (Far.refl _ _) (fun _ => rfl) _
    have kf5 := ke5.set_ 0 (.int .i64 ck)
    have kf4 := Fy.blk ke4 (by show ¬ s + 2 = s + 3; omega)
    have hend : Below w.heap.size w (we.setCell ⟨s + 1 + 1 + 1, 0, none⟩ (.int .i64 ck)) := hBe.setCell (p := ⟨s + 1 + 1 + 1, 0, none⟩) (by show w.heap.size ≤ s + 1 + 1 + 1; omega) _
    generalize we.setCell _ _ = wf at *
    try simp only [Act.put, List.setIfInBounds_toArray, List.set_cons_zero, List.set_cons_succ]
    refine wpAnyT_done (by kernel_rfl) ?_ _
    refine noPanic_normal ?_
    have c4 := kf4.cell
    have c5 := kf5.cell
    go_wp2_with fail
    have Ve := Vd.far Fx (by omega) (fun _ _ _ _ _ _ g _ _ _ hc e => hc.elim fun cr hcr => Blk.ne_ hcr kd4 (by decide) e)
    have Vf := Ve.far Fy (by omega) (fun _ _ _ _ _ _ g _ _ _ hc e => hc.elim fun cr hcr => Blk.ne_ hcr ke5 (by decide) e)
    rw [hR2.out]
    refine ⟨_, ?_, none, 0, rfl, RU.nil, fun _ _ h => (by cases h), by unfold maxLen; simp, Vf, .of_below hend⟩
    simp [results, Try.results8, go_sem, c4, c5]
  case pos =>
    subst h0
    have hR2 : Hid (plcL G [] G V = R) := Lib.hid (by rw [← hR'.out, if_pos rfl])
    clear hR'
    go_enter_defers Try.func8, Try.ntmps8
    go_upto_region 1 with fail
    unfold planC at hw0
    try simp only [hs]
    rw [← hw0]
    have c1 := k1.cell
    have c2 := k2.cell
    clear hw0
    go_wp2_with fail
    refine (HA.out _ V0).mono ?_
    rintro e w1 ⟨A1, cc1, rfl, g1, g2, g3, g4, hb1, g6⟩
    have k51 := k4.call hb1
    have k41 := k3.call hb1
    have k11 := k1.call hb1
    have B1 := hB0.trans (hb1.mono hB0.size)
    have V1 := V0.call hb1
    have f5 := k51.frozen
    have c5 := k51.cell
    clear HA c1 c2 k1 k2 k3 k4
    go_upto_region 4 with fail
    have F2 : Far (fun k => k = s + 3) w1 (w1.setCell ⟨s + 3, 0, none⟩ (.int .i64 0)) := Far.setCell (T := fun k => k = s + 3) (p := ⟨s + 3, 0, none⟩) (Far.refl _ _) (fun _ => rfl) _
    have k52 := k51.set_ 0 (.int .i64 0)
    have k42 := F2.blk k41 (by show ¬ s + 2 = s + 3; omega)
    have k12 := F2.blk k11 (by show ¬ s = s + 3; omega)
    have V2 := V1.far F2 (by omega) (fun _ _ _ _ _ _ g _ _ _ hc e => hc.elim fun cr hcr => Blk.ne_ hcr k51 (by decide) e)
    have hF2 : Far (fun _ => False) w (w1.setCell ⟨s + 1 + 1 + 1, 0, none⟩ (.int .i64 0)) := (Far.of_below B1).trans' F2 (fun i hi e => by omega)
    have hs2 := F2.size
    have hA1 : ∀ g o, A1 = some ⟨g, o, none⟩ → s + 4 ≤ g := fun g o e => by have := g4 g o e; omega
    have g12 := Lib.hid ((F2.ru g1 (fun g o e h => by have := hA1 g o e; omega)).more F2.size)
    have hw4 : s + 4 ≤ w1.heap.size := by have := hb1.size; omega
    clear c5 f5 k51 k41 k11 F2 B1 V1 hb1 g1 V0 hB0
    generalize w1.setCell _ _ = w2 at *
    have hgm : gn ≤ maxLen := by unfold maxLen; omega
    unfold maxLen at hgm
    have hA1' := Lib.hid hA1
    have hF2' := Lib.hid hF2
    have hs' := Lib.hid hs
    have hsz2 : s + 4 ≤ w2.heap.size := by omega
    clear hA1 hF2 hs hsz g2 g3 g4 g6
    go_wp2_with fail
    refine wp_loop (fun a wr => ∃ (k : Nat) (Ds : List Nat) (T : Vm) (u8 u21 u22 u23 u24 u25 u26 u27 u28 u29 u30 u31 u32 u33 u34 u35 : Value), a = { tmps := #[.pointer (some ⟨b, 0, none⟩), planV pg n f bk ev, .pointer (some ⟨s, 0, none⟩), .pointer (some ⟨s + 1, 0, none⟩), .pointer (some ⟨s + 1 + 1, 0, none⟩), .pointer (some ⟨s + 1 + 1 + 1, 0, none⟩), .slice A1 gn cc1, undef, u8, .tuple #[.slice A1 gn cc1, .int .i64 0], .pointer (some ⟨b, 0, none⟩), .agg #[.int .i64 pg, .int .i64 n, .int .i64 f, .int .i64 bk, .int .i64 ev], .tuple #[.slice A1 gn cc1, .int .i64 0], .slice A1 gn cc1, .int .i64 0, .int .i64 0, .bool false, undef, .slice A1 gn cc1, .int .i64 gn, .int .i64 k, u21, u22, u23, u24, u25, u26, u27, u28, u29, u30, u31, u32, u33, u34, u35, undef], defers := Ds.map (plD s) } ∧ k ≤ gn ∧ Hid (plcL G (G.take k).reverse (G.drop k) T = R) ∧ PlB wr (s + 4) wr.heap.size Ds (G.take k).reverse ∧ Hid (SysIs wr b T) ∧ Blk wr s 34 #[.pointer (some ⟨b, 0, none⟩)] ∧ Blk wr (s + 2) 22 #[.slice none 0 0] ∧ Blk wr (s + 3) 35 #[.int .i64 0] ∧ Far (fun k => k = b ∨ k = s + 3) w2 wr) (fun a _ => gn - (intOf (a.tmps.getD 20 undef)).toNat) ?_ ?_
    · exact ⟨0, [], V, _, _, _, _, _, _, _, _, _, _, _, _, _, _, _, _, rfl, by omega, Lib.hid (by simpa using hR2.out), trivial, Lib.hid V2, k12, k42, k52, Far.refl _ _⟩
    · rintro a wr ⟨k, Ds, T, u8, u21, u22, u23, u24, u25, u26, u27, u28, u29, u30, u31, u32, u33, u34, u35, rfl, hk, hfl, hBx, hT, q1, q2, q3, hF⟩
      have hsz4 := hF.size
      by_cases hlt : k < gn
      · have hlt' : decide ((k : Int) < (gn : Int)) = true := by simpa using hlt
        obtain ⟨rb, ro, hAe, hrb, c5, c6⟩ := g12.out.at_' (k := k) (by have := hgn'.out; omega)
        have hrs := hA1'.out _ _ hAe
        subst hAe
        have d5 := hF.cell c5 (by show ¬ (rb = b ∨ rb = s + 3); omega)
        have d6 := hF.cell c6 (by show ¬ (rb = b ∨ rb = s + 3); omega)
        have hsn := hfl.out
        rw [Go.Pol.drop_cons (0, 0) G k (by have := hgn'.out; omega), plcL] at hsn
        have htk : Hid ((G.take (k + 1)).reverse = G.getD k (0, 0) :: (G.take k).reverse) := Lib.hid (by rw [z_take (0, 0) G (by have := hgn'.out; omega), List.reverse_append]; rfl)
        generalize G.getD k (0, 0) = x at *
        obtain ⟨xa, xb⟩ := x
        simp only at d5 d6 hsn
        have hsn' := Lib.hid hsn
        have e1 := q1.cell
        clear hsn c5 c6 hfl
        go_upto_region 7 with fail
        have kx := Blk.new wr 56 #[.int .i64 xa, .int .i64 xb]
        have hbx : Below wr.heap.size wr (wr.alloc (.cells #[.int .i64 xa, .int .i64 xb] 56)) := (Below.refl _ _).alloc (Nat.le_refl _) _
        obtain ⟨p, hp⟩ : ∃ p, wr.heap.size = p := ⟨_, rfl⟩
        have hzx : (wr.alloc (.cells #[.int .i64 xa, .int .i64 xb] 56)).heap.size = p + 1 := by simp [hp]
        have hBx2 := Lib.hid (PlB.far (Far.of_below hbx) (T := fun _ => False) (fun _ _ _ h => h) _ _ hBx)
        have Tx := Lib.hid (hT.out.call hbx)
        have r1 := q1.call hbx
        have r2 := q2.call hbx
        have r3 := q3.call hbx
        have hFx : Far (fun k => k = b ∨ k = s + 3) w2 _ := hF.trans (.of_below hbx)
        rw [hp] at kx
        generalize wr.alloc _ = w5 at *
        try simp only [hp]
        have HD := Lib.hid (guard_any b xa xb T w5 Tx.out)
        have cx := kx.cell
        have e2 := r1.cell
        clear hbx hT hF d5 d6 e1 q1 q2 q3 hBx
        go_wp2_with fail
        refine HD.out.mono ?_
        rintro e w6 ⟨rfl, V6, F6⟩
        have r1' := F6.blk r1 (by omega)
        have r2' := F6.blk r2 (by omega)
        have r3' := F6.blk r3 (by omega)
        have kx' := F6.blk kx (by omega)
        rw [hp] at hBx2
        have hBx3 := Lib.hid (PlB.far F6 (fun k h1 h2 e => by omega) _ _ hBx2.out)
        have hF6 : Far (fun k => k = b ∨ k = s + 3) w2 w6 := hFx.trans (F6.mono (fun _ _ e => .inl e))
        have hz6 : p + 1 ≤ w6.heap.size := by have := F6.size; omega
        generalize bec T xa xb 4 1 3 = J at *
        obtain ⟨je, jV⟩ := J
        simp only at hsn' V6
        have f3 := r3'.frozen
        have c63 := r3'.cell
        have k37 := r3'.set_ 0 (.int .i64 je)
        have F7 : Far (fun k => k = s + 3) w6 (w6.setCell ⟨s + 3, 0, none⟩ (.int .i64 je)) := Far.setCell (T := fun k => k = s + 3) (p := ⟨s + 3, 0, none⟩) (Far.refl _ _) (fun _ => rfl) _
        have V7 := V6.far F7 (by omega) (fun _ _ _ _ _ _ g _ _ _ hc e => hc.elim fun cr hcr => Blk.ne_ hcr r3' (by decide) e)
        have k17 := F7.blk r1' (by omega)
        have k27 := F7.blk r2' (by omega)
        have kx7 := F7.blk kx' (by omega)
        have hB7 := Lib.hid (PlB.far F7 (fun k h1 h2 e => by omega) _ _ hBx3.out)
        have hF7 : Far (fun k => k = b ∨ k = s + 3) w2 (w6.setCell ⟨s + 1 + 1 + 1, 0, none⟩ (.int .i64 je)) := hF6.trans (F7.mono (fun _ _ e => .inr e))
        have hz7 : p + 1 ≤ (w6.setCell ⟨s + 1 + 1 + 1, 0, none⟩ (.int .i64 je)).heap.size := Nat.le_trans hz6 F7.size
        have hsn2 := hsn'.out
        clear HD Tx r1 r2 r3 hFx F6 V6 kx cx e2 r1' r2' kx' hBx2 hBx3 hF6 hz6 F7 hsn'
        go_upto_region 8 with fail
        generalize w6.setCell _ _ = w7 at *
        clear r3' f3 c63
        have c3 := k37.cell
        by_cases hj2 : je = 0
        · subst hj2
          rw [if_pos rfl] at hsn2
          have hsn3 := Lib.hid hsn2
          clear hsn2
          go_upto_region 11 with fail
          go_wp2_with fail
          rw [show ((k : Int) + 1) = ((k + 1 : Nat) : Int) by omega]
          refine ⟨⟨k + 1, p :: Ds, jV, _, _, _, _, _, _, _, _, _, _, _, _, _, _, _, _, rfl, by omega, by rw [htk.out]; exact hsn3, ?_, Lib.hid V7, k17, k27, k37, hF7⟩, ?_⟩
          · rw [htk.out]
            exact ⟨⟨by omega, by omega, kx7⟩, PlB.more (by omega) _ _ hB7.out⟩
          · simp [intOf]; omega
        · have hj' : (je != 0) = true := by simpa using hj2
          rw [if_neg hj2] at hsn2
          have hsn3 := Lib.hid hsn2
          clear hsn2
          go_upto_region 9 with fail
          refine wp_noPanic ?_
          refine wp_region_T (StS (s + 1 + 1) (s + 1 + 1 + 1) je) [3] (by kernel_rfl) ?_
          have kd4 := k27.drew
          have kd5 := k37.drew
          have kd1 := k17.drew
          have Vd : SysIs w7.drew b jV := V7.call ((Below.refl _ w7).drew)
          have hBd := Lib.hid (PlB.far (T := fun _ => False) ((Far.refl _ w7).drew) (fun _ _ _ h => h) _ _ hB7.out)
          have hFd : Far (fun k => k = b ∨ k = s + 3) w2 w7.drew := hF7.drew
          have hzd : p + 1 ≤ w7.drew.heap.size := hz7
          clear k27 k37 k17 V7 hB7 hF7 c3 kx7 hz7
          generalize w7.drew = wd at *
          have hS : StS (s + 1 + 1) (s + 1 + 1 + 1) je wd := ⟨kd4.cell 0, kd5.cell 0⟩
          refine' wpAnyT_take (i := 0) (v := _) ?hiT0u (by kernel_rfl) ?hQT0u (Or.inl ⟨?hwT0u, ?hyT0u⟩) hS ?reT0u
          case hiT0u => (simp only [List.getElem?_toArray, List.getElem?_cons_zero]; rfl)
          case hQT0u => exact fun _ _ _ h => h
          case hwT0u => rfl
          case hyT0u => (intro wS hSw; obtain ⟨_, _⟩ := hSw; go_simp; (try with_reducible rfl))
          try simp only [Act.put, List.setIfInBounds_toArray, List.set_cons_zero, List.set_cons_succ]
          refine' wpAnyT_take (i := 1) (v := _) ?hiT1u (by kernel_rfl) ?hQT1u (Or.inl ⟨?hwT1u, ?hyT1u⟩) hS ?reT1u
          case hiT1u => (simp only [List.getElem?_toArray, List.getElem?_cons_succ, List.getElem?_cons_zero]; rfl)
          case hQT1u => exact fun _ _ _ h => h
          case hwT1u => rfl
          case hyT1u => (intro wS hSw; obtain ⟨_, _⟩ := hSw; go_simp; (try with_reducible rfl))
          try simp only [Act.put, List.setIfInBounds_toArray, List.set_cons_zero, List.set_cons_succ]
          refine wpAnyT_ready (rs := [2]) (by kernel_rfl) (by simp) ?_
          refine' AllReadyT.cons ?hiu2 (fun K hK => ?stu2) AllReadyT.nil
          case hiu2 => (simp only [List.getElem?_toArray, List.getElem?_cons_succ, List.getElem?_cons_zero]; rfl)
          have z4 := kd4.cell
          have fz4 := kd4.frozen
          go_simp
          have Fx : Far (fun k => k = s + 2) wd (wd.setCell ⟨s + 2, 0, none⟩ (.slice none 0 0)) := Far.setCell (T := fun k => k = s + 2) (p := ⟨s + 2, 0, none⟩) (Far.refl _ wd) (fun _ => rfl) _
          have ke4 := kd4.set_ 0 (.slice none 0 0)
          have ke5 := Fx.blk kd5 (by omega)
          refine hK.out _ _ (fun _ => ⟨ke4.cell 0, ke5.cell 0⟩) (fun _ => ?_)
          have ke1 := Fx.blk kd1 (by omega)
          have Ve := Vd.far Fx (by omega) (fun _ _ _ _ _ _ g _ _ _ hc e => hc.elim fun cr hcr => Blk.ne_ hcr kd4 (by decide) e)
          have hBe := Lib.hid (PlB.far Fx (fun k h1 h2 e => by omega) _ _ hBd.out)
          have hFe : Far (fun k => k = b ∨ k = s + 3 ∨ k = s + 2) w2 (wd.setCell ⟨s + 2, 0, none⟩ (.slice none 0 0)) := (hFd.mono (fun k _ e => by omega)).trans (Fx.mono (fun k _ e => by omega))
          have hze : p ≤ (wd.setCell ⟨s + 2, 0, none⟩ (.slice none 0 0)).heap.size := Nat.le_trans (by omega) Fx.size
          clear hK K fz4 z4 hS Fx hzd hFd hBd Vd kd1 kd4 kd5
          generalize wd.setCell _ _ = we at *
          have fz5 := ke5.frozen
          have z5 := ke5.cell
          refine wpAnyT_ready (rs := [3]) (by kernel_rfl) (by simp) ?_
          refine' AllReadyT.cons ?hiu3 (fun K hK => ?stu3) AllReadyT.nil
          case hiu3 => (simp only [List.getElem?_toArray, List.getElem?_cons_succ, List.getElem?_cons_zero]; rfl)
          go_simp
          refine hK.out _ _ (fun h => by cases h) (fun _ => ?_)
          have Fy : Far (fun k => k = s + 3) we (we.setCell ⟨s + 3, 0, none⟩ (.int .i64 je)) := Far.setCell (T := fun k => k = s + 3) (p := ⟨s + 3, 0, none⟩) (Far.refl _ we) (fun _ => rfl) _
          have kf5 := ke5.set_ 0 (.int .i64 je)
          have kf4 := Fy.blk ke4 (by omega)
          have kf1 := Fy.blk ke1 (by omega)
          have hzf : p ≤ (we.setCell ⟨s + 3, 0, none⟩ (.int .i64 je)).heap.size := Nat.le_trans hze Fy.size
          have Vf := Ve.far Fy (by omega) (fun _ _ _ _ _ _ g _ _ _ hc e => hc.elim fun cr hcr => Blk.ne_ hcr ke5 (by decide) e)
          have hBf := Lib.hid (PlB.more hzf _ _ (PlB.far Fy (fun k h1 h2 e => by omega) _ _ hBe.out))
          have hFf : Far (fun k => k = b ∨ k = s + 3 ∨ k = s + 2) w2 (we.setCell ⟨s + 1 + 1 + 1, 0, none⟩ (.int .i64 je)) := hFe.trans (Fy.mono (fun k _ e => by omega))
          clear hK K fz5 z5 ke1 ke4 ke5 Ve hBe hFe
          generalize we.setCell _ _ = wf at *
          refine wpAnyT_done (by kernel_rfl) ?_ _
          refine noPanic_normal ?_
          go_wp2_with fail
          obtain ⟨Df, hDf⟩ : ∃ Df, (G.take k).reverse.foldl undoStep ([], jV) = Df := ⟨_, rfl⟩
          have hR3 : R = (Df.1, je, Df.2) := by rw [← hsn3.out, hDf]
          refine leaves_inv (PlI b s wf.heap.size je Df w) ?_ (fun d ds w' h => plI_step b s wf.heap.size je Df w hs'.out hbs (by omega) hj2 d ds w' h) _ wf ?_
          · rintro w' ⟨Ds', D', L', U', v3, g1, g2, g5, _, g4, grow, _, gl, gV, gR, gF, gz⟩
            have hD0 : D' = [] := by
              have : Ds' = [] := List.map_eq_nil_iff.1 g1.symm
              subst this
              match D', g2 with
              | [], _ => rfl
            subst hD0
            rw [hR3, ← gR]
            obtain ⟨A5, cap5, rfl, hru5, _, _, hfr5, _⟩ := own_RU grow rfl
            have x4 := g4.cell
            have x5 := g5.cell
            refine ⟨_, ?_, A5, cap5, rfl, hru5, fun g o e => by have := hfr5 g o e; have := hs'.out; omega, ?_, gV, gF⟩
            · simp [results, Try.results8, go_sem, x4, x5]
            · unfold maxLen
              show L'.length ≤ _
              omega
          · exact ⟨Ds, (G.take k).reverse, [], jV, _, rfl, hBf.out, kf5, kf1, kf4, World.ownsRow_nil _ _ _ _, fun _ => rfl, by simp only [List.length_nil, List.length_reverse, List.length_take]; omega, Vf, hDf, (hF2'.out.mono (fun _ _ h => h.elim)).trans' hFf (fun i hi e => by have := hs'.out; omega), Nat.le_refl _⟩
      · obtain rfl : k = gn := by omega
        have hlt' : decide ((k : Int) < (k : Int)) = false := by simp
        have hR3 : Hid (R = (G, 0, T)) := Lib.hid (by rw [← hfl.out, List.drop_of_length_le (by have := hgn'.out; omega)]; rfl)
        have f4 := q2.frozen
        have c4 := q2.cell
        have Fx : Far (fun k => k = s + 2) wr (wr.setCell ⟨s + 2, 0, none⟩ (.slice A1 k cc1)) := Far.setCell (T := fun k => k = s + 2) (p := ⟨s + 2, 0, none⟩) (Far.refl _ _) (fun _ => rfl) _
        have f5 := (Fx.blk q3 (by omega)).frozen
        have c5 := (Fx.blk q3 (by omega)).cell
        have ke4 := q2.set_ 0 (.slice A1 k cc1)
        have ke5 := Fx.blk q3 (by omega)
        have Ve := hT.out.far Fx (by omega) (fun _ _ _ _ _ _ g _ _ _ hc e => hc.elim fun cr hcr => Blk.ne_ hcr q2 (by decide) e)
        go_wp2_with fail
        have Fy : Far (fun k => k = s + 3) (wr.setCell ⟨s + 2, 0, none⟩ (.slice A1 k cc1)) ((wr.setCell ⟨s + 2, 0, none⟩ (.slice A1 k cc1)).setCell ⟨s + 3, 0, none⟩ (.int .i64 0)) := Far.setCell (T := fun k => k = s + 3) (p := ⟨s + 3, 0, none⟩) (Far.refl _ _) (fun _ => rfl) _
        have kf5 := ke5.set_ 0 (.int .i64 0)
        have kf4 := Fy.blk ke4 (by omega)
        have Vf := Ve.far Fy (by omega) (fun _ _ _ _ _ _ g _ _ _ hc e => hc.elim fun cr hcr => Blk.ne_ hcr ke5 (by decide) e)
        have hFf := ((hF.mono (T' := fun k => k = b ∨ k = s + 3 ∨ k = s + 2) (fun k _ e => by omega)).trans (Fx.mono (fun k _ e => by omega))).trans (Fy.mono (fun k _ e => by omega))
        have g15 := ((hF.ru g12.out (fun g o e h => by have := hA1'.out g o e; omega)).more hF.size)
        have g16 := (Fx.ru g15 (fun g o e h => by have := hA1'.out g o e; omega)).more Fx.size
        have g17 := (Fy.ru g16 (fun g o e h => by have := hA1'.out g o e; omega)).more Fy.size
        have x4 := kf4.cell
        have x5 := kf5.cell
        clear f4 c4 f5 c5 Fx Fy ke4 ke5 Ve q2 q3 g15 g16
        generalize (wr.setCell _ _).setCell _ _ = wf at *
        refine leaves_inv (fun ds w' => w' = wf ∧ ∃ Ds' : List Nat, ds = Ds'.map (plD s)) ?_ ?_ _ wf ⟨rfl, Ds, rfl⟩
        · rintro w' ⟨rfl, _⟩
          rw [hR3.out]
          refine ⟨_, ?_, A1, cc1, by rw [hgn'.out], g17, fun g o e => by have := hA1'.out g o e; have := hs'.out; omega, ?_, Vf, (hF2'.out.mono (fun _ _ h => h.elim)).trans' hFf (fun i hi e => by have := hs'.out; omega)⟩
          · simp [results, Try.results8, go_sem, x4, x5]
          · have := hgn'.out
            unfold maxLen
            show G.length ≤ _
            omega
        · rintro d ds w' ⟨rfl, Ds', hds⟩
          match Ds', hds with
          | p :: ps, hds =>
            rw [List.map_cons] at hds
            obtain ⟨rfl, rfl⟩ := List.cons.inj hds
            refine ⟨_, _, _, _, rfl, plD_enters s p w', (place1Ok_any (s + 3) s p (s + 2) w' kf5).mono ?_⟩
            rintro e u' w3 ⟨rfl, hv, rfl⟩
            exact ⟨rfl, hv, rfl, ps, rfl⟩
end Go.Proofs.Ytdepkmpilipolaa
namespace Go.Pol
open Go Go.Proofs Go.RowKit
/-- what a change makes of the pages: nothing, or all that it names -/
theorem makeF_cases (V : Vm) (a n : Int) (call : Nat) (pr : Pg → Bool) (fd : Pg → Pg) :
    ((makeF V a n call pr fd).1 ≠ 0 ∧ (makeF V a n call pr fd).2.pg = V.pg) ∨
    ((makeF V a n call pr fd).1 = 0 ∧ 0 ≤ a ∧ 1 ≤ n ∧ a + n ≤ 1024 ∧ (∀ p : Nat, a ≤ p → (p : Int) < a + n → pr (V.pg p) = true) ∧
      ∀ p : Nat, (makeF V a n call pr fd).2.pg p = if a ≤ p ∧ (p : Int) < a + n then fd (V.pg p) else V.pg p) := by
  unfold makeF
  by_cases h1 : n < 1 ∨ a < 0 ∨ 1024 ≤ a ∨ 1024 - a < n
  · rw [if_pos h1]; exact .inl ⟨(by decide : (7 : Int) ≠ 0), rfl⟩
  · rw [if_neg h1]
    by_cases h2 : allP V a.toNat n.toNat pr = false
    · rw [if_pos h2]; exact .inl ⟨(by decide : (9 : Int) ≠ 0), rfl⟩
    · rw [if_neg h2]
      rw [Bool.not_eq_false] at h2
      by_cases h3 : refB V.rf call = true
      · rw [if_pos h3]; exact .inl ⟨(by decide : (60 : Int) ≠ 0), rfl⟩
      · rw [if_neg h3]
        refine .inr ⟨rfl, by omega, by omega, by omega, fun p p1 p2 => allP_iff.1 h2 p (by omega) (by omega), fun p => ?_⟩
        show (if _ then _ else _) = _
        by_cases h4 : a ≤ p ∧ (p : Int) < a + n
        · rw [if_pos h4, if_pos (by omega)]; rfl
        · rw [if_neg h4, if_neg (by omega)]; rfl
end Go.Pol
namespace Go.Pol
open Go Go.RowKit
/-- the kind of a page -/
def kd (V : Vm) (p : Nat) : Int := (V.pg p).kind
/-- spans with pages, each behind the one before -/
def Apt (s : List Sp) : Prop := (∀ x ∈ s, 1 ≤ x.2) ∧ s.Pairwise (fun a b => a.1 + a.2 < b.1)
theorem formOk_apt : ∀ (s : List Sp) (e : Int), (∀ x ∈ s, 1 ≤ x.2) → (formOk e s = true ↔ (∀ x ∈ s, e < x.1) ∧ s.Pairwise (fun a b => a.1 + a.2 < b.1))
  | [], e, _ => by simp [formOk]
  | x :: s, e, h => by
    rw [formOk_cons, formOk_apt s (x.1 + x.2) (fun y hy => h y (by simp [hy])), List.pairwise_cons]
    constructor
    · rintro ⟨h1, h2, h3⟩
      refine ⟨fun y hy => ?_, h2, h3⟩
      rcases List.mem_cons.1 hy with rfl | hy
      · exact h1
      · have := h2 y hy; have := h x (by simp); omega
    · rintro ⟨h1, h2, h3⟩
      exact ⟨h1 x (by simp), h2, h3⟩
theorem Can.apt {s : List Sp} (h : Can s) : Apt s :=
  have hw : ∀ x ∈ s, 1 ≤ x.2 := fun x hx => (vld_iff.1 (h.1 x hx)).2.2.1
  ⟨hw, ((formOk_apt s (-1) hw).1 h.2).2⟩
theorem Can.sub {s t : List Sp} (h : Can s) (hs : t.Sublist s) : Can t := by
  have hv : ∀ x ∈ t, vld x = true := fun x hx => h.1 x (hs.subset hx)
  refine ⟨hv, (formOk_apt t (-1) (fun x hx => (vld_iff.1 (hv x hx)).2.2.1)).2 ⟨fun x hx => by have := (vld_iff.1 (hv x hx)).1; omega, h.apt.2.sublist hs⟩⟩
theorem mem_perm {s t : List Sp} (h : ∀ x, x ∈ s ↔ x ∈ t) (p : Int) : mem p s = mem p t := by
  rw [Bool.eq_iff_iff]
  unfold mem
  simp only [List.any_eq_true]
  exact ⟨fun ⟨x, hx, h1⟩ => ⟨x, (h x).1 hx, h1⟩, fun ⟨x, hx, h1⟩ => ⟨x, (h x).2 hx, h1⟩⟩
/-- a change of one kind to another, by cases -/
theorem bec_kd (V : Vm) (a n : Int) (call : Nat) (fr tk : Int) :
    ((bec V a n call fr tk).1 ≠ 0 ∧ ∀ p, kd (bec V a n call fr tk).2 p = kd V p) ∨
    ((bec V a n call fr tk).1 = 0 ∧ (∀ p : Nat, a ≤ p ∧ (p : Int) < a + n → kd V p = fr) ∧ ∀ p : Nat, kd (bec V a n call fr tk).2 p = if a ≤ p ∧ (p : Int) < a + n then tk else kd V p) := by
  rcases makeF_cases V a n call (fun g => g.kind == fr && !g.huge) (fun _ => newPg tk) with ⟨h1, h2⟩ | ⟨h1, _, _, _, h5, h6⟩
  · exact .inl ⟨h1, fun p => by unfold kd bec; rw [h2]⟩
  · refine .inr ⟨h1, fun p hp => ?_, fun p => ?_⟩
    · have := h5 p hp.1 hp.2
      simp only [Bool.and_eq_true, beq_iff_eq] at this
      exact this.1
    · unfold kd bec
      rw [h6 p]
      split <;> rfl
/-- what was placed is taken away again, from behind -/
theorem undo_law (K : Nat → Int) : ∀ (d : List Sp) (L : List Sp) (U : Vm), Apt (d.reverse ++ L) → (∀ p : Nat, kd U p = if mem (p : Int) (d.reverse ++ L) = true then 3 else K p) → (∀ p : Nat, mem (p : Int) (d.reverse ++ L) = true → K p = 1) →
    ((d.foldl undoStep (L, U)).1.Sublist (d.reverse ++ L)) ∧ (∀ p : Nat, kd (d.foldl undoStep (L, U)).2 p = if mem (p : Int) (d.foldl undoStep (L, U)).1 = true then 3 else K p) ∧ ∀ p : Nat, mem (p : Int) (d.foldl undoStep (L, U)).1 = true → K p = 1
  | [], L, U, _, h2, h3 => ⟨List.Sublist.refl _, h2, h3⟩
  | x :: d, L, U, h1, h2, h3 => by
    rw [List.reverse_cons, List.append_assoc, List.singleton_append] at h1 h2 h3 ⊢
    rw [List.foldl_cons, show undoStep (L, U) x = (if (bec U x.1 x.2 4 3 1).1 = 0 then L else x :: L, (bec U x.1 x.2 4 3 1).2) from rfl]
    rcases bec_kd U x.1 x.2 4 3 1 with ⟨g1, g2⟩ | ⟨g1, g2, g3⟩
    · rw [if_neg g1]
      exact undo_law K d (x :: L) _ h1 (fun p => by rw [g2 p]; exact h2 p) h3
    · rw [if_pos g1]
      have hsub : (d.reverse ++ L).Sublist (d.reverse ++ x :: L) := List.Sublist.append (List.Sublist.refl _) (List.sublist_cons_self _ _)
      have hpm : ∀ p : Int, mem p (d.reverse ++ x :: L) = mem p (x :: (d.reverse ++ L)) := fun p => mem_perm (fun y => by simp only [List.mem_append, List.mem_cons, List.mem_reverse]; exact or_left_comm) p
      have hno : ∀ p : Int, x.1 ≤ p ∧ p < x.1 + x.2 → mem p (d.reverse ++ L) = false := fun p hp => by
        rw [Bool.eq_false_iff]
        intro hm
        unfold mem at hm
        obtain ⟨y, hy, hm⟩ := List.any_eq_true.1 hm
        have hm' : y.1 ≤ p ∧ p < y.1 + y.2 := by simpa using hm
        have hpw := List.pairwise_append.1 h1.2
        rcases List.mem_append.1 hy with hy | hy
        · have := hpw.2.2 y hy x (by simp); omega
        · have := (List.pairwise_cons.1 hpw.2.1).1 y hy; omega
      have ih := undo_law K d L (bec U x.1 x.2 4 3 1).2 ⟨fun y hy => h1.1 y (hsub.subset hy), h1.2.sublist hsub⟩ (fun p => by
        rw [g3 p]
        by_cases hp : x.1 ≤ (p : Int) ∧ (p : Int) < x.1 + x.2
        · rw [if_pos hp, if_neg (by rw [hno _ hp]; simp)]
          exact (h3 p (by rw [hpm, mem_cons']; exact .inl hp)).symm
        · rw [if_neg hp, h2 p, hpm, mem_cons]
          have : (decide (x.1 ≤ (p : Int)) && decide ((p : Int) < x.1 + x.2)) = false := by rw [Bool.eq_false_iff]; intro h; exact hp (by simpa using h)
          rw [this, Bool.false_or]) (fun p hp => h3 p (by rw [hpm, mem_cons']; exact .inr hp))
      exact ⟨ih.1.trans hsub, ih.2⟩
theorem plcL_law (K : Nat → Int) (G : List Sp) (hG : Apt G) : ∀ (r d : List Sp) (V : Vm), d.reverse ++ r = G → (∀ p : Nat, kd V p = if mem (p : Int) d = true then 3 else K p) → (∀ p : Nat, mem (p : Int) d = true → K p = 1) →
    ((plcL G d r V).1.Sublist G) ∧ (∀ p : Nat, kd (plcL G d r V).2.2 p = if mem (p : Int) (plcL G d r V).1 = true then 3 else K p) ∧ (∀ p : Nat, mem (p : Int) (plcL G d r V).1 = true → K p = 1) ∧ ((plcL G d r V).2.1 = 0 → (plcL G d r V).1 = G)
  | [], d, V, hd, h2, h3 => by
    have he : ∀ p : Int, mem p G = mem p d := fun p => mem_perm (fun y => by rw [← hd]; simp) p
    rw [plcL]
    exact ⟨List.Sublist.refl _, fun p => by rw [he]; exact h2 p, fun p hp => h3 p (by rw [← he]; exact hp), fun _ => rfl⟩
  | x :: r, d, V, hd, h2, h3 => by
    rw [plcL]
    rcases bec_kd V x.1 x.2 4 1 3 with ⟨g1, g2⟩ | ⟨g1, g2, g3⟩
    · rw [if_neg g1]
      have hrev : ∀ p : Int, mem p (d.reverse ++ []) = mem p d := fun p => mem_perm (fun y => by simp) p
      have hsub : (d.reverse ++ ([] : List Sp)).Sublist G := by
        rw [← hd]; exact List.Sublist.append (List.Sublist.refl _) (List.nil_sublist _)
      have h := undo_law K d [] (bec V x.1 x.2 4 1 3).2 ⟨fun y hy => hG.1 y (hsub.subset hy), hG.2.sublist hsub⟩ (fun p => by rw [g2 p, hrev]; exact h2 p) (fun p hp => h3 p (by rw [← hrev]; exact hp))
      exact ⟨h.1.trans hsub, h.2.1, h.2.2, fun h => absurd h g1⟩
    · rw [if_pos g1]
      refine plcL_law K G hG r (x :: d) _ (by rw [List.reverse_cons, List.append_assoc]; exact hd) (fun p => ?_) (fun p hp => ?_)
      · rw [g3 p, mem_cons]
        by_cases hp : x.1 ≤ (p : Int) ∧ (p : Int) < x.1 + x.2
        · rw [if_pos hp, if_pos (by simp [hp.1, hp.2])]
        · have : (decide (x.1 ≤ (p : Int)) && decide ((p : Int) < x.1 + x.2)) = false := by rw [Bool.eq_false_iff]; intro h; exact hp (by simpa using h)
          rw [if_neg hp, h2 p, this, Bool.false_or]
      · by_cases hm : mem (p : Int) d = true
        · exact h3 p hm
        · rcases mem_cons'.1 hp with h | h
          · have h4 := g2 p h
            rw [h2 p, if_neg hm] at h4
            exact h4
          · exact absurd h hm
/-- what Place does to the kinds -/
theorem place_law (V : Vm) (ck : Int) (G : List Sp) (hG : ck = 0 → Can G) :
    Can (placeG V ck G).1 ∧ (∀ p : Nat, kd (placeG V ck G).2.2 p = if mem (p : Int) (placeG V ck G).1 = true then 3 else kd V p) ∧ (∀ p : Nat, mem (p : Int) (placeG V ck G).1 = true → kd V p = 1) ∧ ((placeG V ck G).2.1 = 0 → ck = 0 ∧ (placeG V ck G).1 = G) := by
  unfold placeG
  by_cases h : ck = 0
  · rw [if_pos h]
    obtain ⟨h1, h2, h3, h4⟩ := plcL_law (kd V) G (hG h).apt G [] V rfl (fun p => by simp [mem_nil]) (fun p hp => by simp [mem_nil] at hp)
    exact ⟨(hG h).sub h1, h2, h3, fun he => ⟨h, h4 he⟩⟩
  · rw [if_neg h]
    exact ⟨⟨fun x hx => (by cases hx), rfl⟩, fun p => by simp [mem_nil], fun p hp => by simp [mem_nil] at hp, fun he => absurd he h⟩
theorem lft_ne : ∀ (G : List Sp) (S : List Sp × Int × Vm), S.2.1 ≠ 0 → (G.foldl lftStep S).2.1 ≠ 0
  | [], _, h => h
  | x :: r, S, h => lft_ne r _ (by
    show (if (bec S.2.2 x.1 x.2 4 3 1).1 = 0 then S.2.1 else if S.2.1 = 0 then (bec S.2.2 x.1 x.2 4 3 1).1 else S.2.1) ≠ 0
    by_cases hb : (bec S.2.2 x.1 x.2 4 3 1).1 = 0
    · rw [if_pos hb]; exact h
    · rw [if_neg hb, if_neg h]; exact h)
theorem lft_law : ∀ (G : List Sp) (V : Vm), (G.foldl lftStep ([], 0, V)).2.1 = 0 → (G.foldl lftStep ([], 0, V)).1 = [] ∧ ∀ p : Nat, kd (G.foldl lftStep ([], 0, V)).2.2 p = if mem (p : Int) G = true then 1 else kd V p
  | [], V, _ => ⟨rfl, fun p => by simp [mem_nil]⟩
  | x :: r, V, h => by
    rw [List.foldl_cons, show lftStep ([], 0, V) x = (if (bec V x.1 x.2 4 3 1).1 = 0 then [] else [] ++ [x], if (bec V x.1 x.2 4 3 1).1 = 0 then 0 else if (0 : Int) = 0 then (bec V x.1 x.2 4 3 1).1 else 0, (bec V x.1 x.2 4 3 1).2) from rfl] at h ⊢
    rcases bec_kd V x.1 x.2 4 3 1 with ⟨g1, g2⟩ | ⟨g1, g2, g3⟩
    · rw [if_neg g1, if_neg g1, if_pos rfl] at h
      exact absurd h (lft_ne r _ g1)
    · rw [if_pos g1, if_pos g1] at h ⊢
      obtain ⟨h1, h2⟩ := lft_law r _ h
      refine ⟨h1, fun p => ?_⟩
      rw [h2 p, g3 p, mem_cons]
      by_cases hp : x.1 ≤ (p : Int) ∧ (p : Int) < x.1 + x.2
      · have h5 : (decide (x.1 ≤ (p : Int)) && decide ((p : Int) < x.1 + x.2)) = true := by simpa using hp
        rw [if_pos hp, h5, Bool.true_or, if_pos rfl]
        split <;> rfl
      · have : (decide (x.1 ≤ (p : Int)) && decide ((p : Int) < x.1 + x.2)) = false := by rw [Bool.eq_false_iff]; intro h; exact hp (by simpa using h)
        rw [if_neg hp, this, Bool.false_or]
/-- what Lift does to the kinds, if all goes -/
theorem lift_law (V : Vm) (ck : Int) (G : List Sp) (h : (liftG V ck G).2.1 = 0) : (liftG V ck G).1 = [] ∧ ∀ p : Nat, kd (liftG V ck G).2.2 p = if mem (p : Int) G = true then 1 else kd V p := by
  unfold liftG at h ⊢
  by_cases hc : ck = 0
  · rw [if_pos hc] at h ⊢
    exact lft_law G V h
  · rw [if_neg hc] at h
    exact absurd h hc
end Go.Pol
namespace Go.Pol
open Go Go.RowKit
/-- an array of numbers reads as a function -/
structure NumsAre (cs : Array Value) (f : Nat → Int) : Prop where
  size : cs.size = 1024
  at_ : ∀ k, k < 1024 → cs[k]? = some (.int .i64 (f k))
theorem NumsAre.congr {cs : Array Value} {f g : Nat → Int} (h : NumsAre cs f) (hg : ∀ k, k < 1024 → f k = g k) : NumsAre cs g := ⟨h.size, fun k hk => by rw [← hg k hk]; exact h.at_ k hk⟩
theorem NumsAre.one {cs : Array Value} {f : Nat → Int} (h : NumsAre cs f) : cs.all (·.oneCell') = true := by
  rw [Array.all_eq_true]
  intro i hi
  have := h.at_ i (by rw [← h.size]; exact hi)
  rw [Array.getElem?_eq_getElem hi] at this
  cases this' : cs[i] <;> simp_all [Value.oneCell']
theorem NumsAre.set {cs : Array Value} {f g : Nat → Int} (h : NumsAre cs f) (k : Nat) (hk : k < 1024) (x : Int) (hx : g k = x) (hg : ∀ q, q < 1024 → q ≠ k → g q = f q) : NumsAre (cs.setIfInBounds k (.int .i64 x)) g :=
  ⟨by simp [h.size], fun q hq => by
    rw [Array.getElem?_setIfInBounds]
    by_cases e : k = q
    · subst e; rw [if_pos rfl, if_pos (by rw [h.size]; exact hk), hx]
    · rw [if_neg e, hg q hq (fun h => e h.symm)]; exact h.at_ q hq⟩
theorem NumsAre.eq {cs ds : Array Value} {f : Nat → Int} (h : NumsAre cs f) (k : NumsAre ds f) : cs = ds := by
  apply Array.ext_getElem?
  intro i
  by_cases hi : i < 1024
  · rw [h.at_ i hi, k.at_ i hi]
  · rw [Array.getElem?_eq_none (by have := h.size; omega), Array.getElem?_eq_none (by have := k.size; omega)]
theorem results_cell_tmpK {P : Program} {fn : Func} {a b : Tmp} {t : TypeId} {tmps : Array Value} {w : World} {v u : Value} {p : Addr} (h : fn.results = #[.cell a t, .tmp b]) (ha : tmps.getD a undef = .pointer (some p)) (hb : tmps.getD b undef = u) (hl : (loadVar t p).run P w = .ok v w) :
    (results fn tmps).run P w = .ok (.tuple #[v, u]) w := by
  have ha' : tmps[a]?.getD undef = .pointer (some p) := by rw [← ha, Array.getD_eq_getD_getElem?]
  have hb' : tmps[b]?.getD undef = u := by rw [← hb, Array.getD_eq_getD_getElem?]
  simp [results, h, ha', hb', asAddr, hl]
theorem below_setRowK {w : World} {t : TypeId} {old cs : Array Value} : Below w.heap.size w ((w.alloc (.cells old t)).setRow w.heap.size cs) ∧ Blk ((w.alloc (.cells old t)).setRow w.heap.size cs) w.heap.size t cs := by
  have hnew : (w.alloc (.cells old t)).heap[w.heap.size]? = some (.cells old t (0, 0)) := heap_alloc_new w _
  refine ⟨⟨rfl, rfl, rfl, by simp [World.setRow], fun k hk => ?_⟩, setRow_heap _ _ old cs t (0, 0) hnew⟩
  rw [setRow_other _ _ _ _ (by omega)]
  exact ((Below.refl w.heap.size w).alloc (Nat.le_refl _) (.cells old t)).block k hk
theorem wpList_load_midY {P : Program} {ops : Array Oper} {rest : List Oper} {op : Oper} {a : Act} {w : World} {Q : Exit → Act → World → Prop} (ty : TypeId) (x : Operand) (ho : op.op = .load ty x) (hw : Region.wanted op (yielded ops a.tmps) = true)
    (b o : Nat) (hx : a.eval x = .pointer (some ⟨b, o, none⟩)) (cs : List Value) (d : TypeDesc) (hc : w.rangeAt b o cs)
    (hu : P.underlying ty = some d) (hd : d.isRow = true) (hi : (P.info? ty).map (·.size) = some cs.length)
    (h : wpList P ops Q rest (a.put op.dst (.agg cs.toArray)) w) : wpList P ops Q (op :: rest) a w :=
  wpList_step fun K hK => by
    simp only [hw, if_true]
    exact wp_load_mid ty x ho b o hx cs d hc hu hd hi (hK _ _ h)
end Go.Pol
namespace Go.Proofs.Ytdepkmpilipolaa
open Go Go.Proofs Go.RowKit Go.Pol Go.Shelf
attribute [local go_sem] Oper.semAt_some Go.Pol.wide_fn Go.Pol.wide_depth Go.Pol.wide_fn' Go.Pol.wide_depth'

theorem zeros_num : NumsAre Try.zeroCells38 (fun _ => 0) := by
  have h : Try.zeroCells38 = Array.replicate 1024 (.int .i64 0) := by kernel_rfl
  rw [h]
  exact ⟨by simp, fun k hk => by rw [Array.getElem?_replicate, if_pos hk]⟩
theorem info38 : (Try.prog.info? 38).map (·.size) = some 1024 := by kernel_rfl
/-- a copy of numbers into a new block whose cells were zc -/
structure CopyN (wr : World) (zc cs : Array Value) : Prop where
  new : (wr.alloc (.cells zc 38)).heap[wr.heap.size]? = some (.cells zc 38 (0, 0))
  size : zc.size = cs.size
  info : (Try.prog.info? 38).map (·.size) = some cs.size
  len : (Try.prog.info? 38).map (·.size) = some cs.toList.length
  one : cs.all (·.oneCell') = true
  below : Below wr.heap.size wr ((wr.alloc (.cells zc 38)).setRow wr.heap.size cs)
  blk : Blk ((wr.alloc (.cells zc 38)).setRow wr.heap.size cs) wr.heap.size 38 cs
theorem copyN (wr : World) (zc cs : Array Value) (f : Nat → Int) (hz : zc.size = 1024) (h : NumsAre cs f) : CopyN wr zc cs where
  new := heap_alloc_new wr _
  size := by rw [hz, h.size]
  info := by rw [h.size]; exact info38
  len := by rw [Array.length_toList, h.size]; exact info38
  one := h.one
  below := below_setRowK.1
  blk := below_setRowK.2
theorem eqItems_n (cs : Array Value) (f : Nat → Int) (h : NumsAre cs f) (w : World) : ∀ is : List Nat, (∀ i ∈ is, i < 1024) → (Op.eqItems 9999 3 1 cs cs is).run Try.prog w = .ok true w
  | [], _ => by simp [Op.eqItems]
  | i :: is, hi => by
    have ih := eqItems_n cs f h w is (fun j hj => hi j (by simp [hj]))
    have h1 := h.at_ i (hi i (by simp))
    have a3 := Try.isAgg3
    have he := run_equalIn_int (P := Try.prog) w 9998 3 .i64 _ (f i) (f i) Try.underlying3
    have p1 : (part 3 cs (i * 1)).run Try.prog w = .ok (.int .i64 (f i)) w := by simp [part, a3, h1]
    rw [show (f i == f i) = true by simp] at he
    simp only [Op.eqItems, Sem.run_bind, p1, he, Result.andThen_ok, Bool.not_true, Bool.false_eq_true, if_false]
    exact ih
theorem eqNums (cs : Array Value) (f : Nat → Int) (h : NumsAre cs f) (w : World) : (Op.equalIn 10000 38 (.agg cs) (.agg cs)).run Try.prog w = .ok true w := by
  obtain ⟨i0, hi⟩ := info_of_underlying (P := Try.prog) Try.underlying3
  rw [run_equalIn_array w 9999 _ _ Try.underlying38 hi]
  have hc : Try.prog.cellsOf 3 = 1 := by kernel_rfl
  rw [hc]
  exact eqItems_n cs f h w _ (fun i hi => List.mem_range.1 hi)
theorem z38_ex : ∃ zc : Array Value, Try.zeroCells38 = zc ∧ NumsAre zc (fun _ => 0) := ⟨_, rfl, zeros_num⟩
set_option maxRecDepth 100000 in
set_option maxHeartbeats 1600000 in
theorem lawKinds_any (b : Nat) (V : Vm) (w : World) (hV : SysIs w b V) :
    Calls Try.prog 7 #[.pointer (some ⟨b, 0, none⟩)] w fun e w' => ∃ cs, e = .returned (.tuple #[.agg cs, .bool true]) ∧ NumsAre cs (kd V) ∧ Below w.heap.size w w' := by
  obtain ⟨s, hs⟩ : ∃ s, w.heap.size = s := ⟨_, rfl⟩
  obtain ⟨W0, hW0⟩ : ∃ W0, (w.alloc (.cells Try.zeroCells38 38)).alloc (.cells Try.zeroCells38 38) = W0 := ⟨_, rfl⟩
  have hb0 : Below w.heap.size w W0 := by rw [← hW0]; exact ((Below.refl w.heap.size w).alloc (Nat.le_refl _) _).alloc (by simp) _
  have kR : Blk W0 s 38 Try.zeroCells38 := by rw [← hW0, ← hs]; exact (Blk.new _ _ _).alloc _
  have kM : Blk W0 (s + 1) 38 Try.zeroCells38 := by
    have := Blk.new (w.alloc (.cells Try.zeroCells38 38)) 38 Try.zeroCells38
    rw [World.size_alloc, hs, hW0] at this; exact this
  have V0 := Lib.hid (hV.call hb0)
  rw [hs] at hb0
  have hbs : b < s := by rw [← hs]; exact hV.lt
  obtain ⟨Z, hZe, hZ⟩ := z38_ex
  rw [hZe] at hW0 kR kM
  have hW1 := Lib.hid hW0
  have hs' := Lib.hid hs
  clear hW0 hV
  go_enter Try.func7, Try.ntmps7
  go_upto_region 2 with fail
  try rw [hZe]
  try simp only [Nat.add_assoc, Nat.reduceAdd]
  try rw [hs]
  rw [hW1.out]
  clear hZe hW1 hs
  go_wp2_with fail
  go_loopw [5] (fun i wr => ∃ (k : Nat) (cs : Array Value), k ≤ 1024 ∧ i = .int .i64 k ∧ Blk wr s 38 Z ∧ Blk wr (s + 1) 38 cs ∧ NumsAre cs (fun p => if p < k then kd V p else 0) ∧ Hid (SysIs wr b V) ∧ Below s w wr) (fun i _ => 1024 - (intOf i).toNat)
  case atStart => exact ⟨0, Z, by omega, rfl, kR, kM, hZ.congr (fun k _ => by simp), V0, hb0⟩
  case round =>
    obtain ⟨k, cs, hk, rfl, kR, kM, hM, hV, hB⟩ := hrel
    by_cases hlt : k < 1024
    · have hlt' : decide ((k : Int) < 1024) = true := by rw [decide_eq_true_eq]; omega
      have HK := Lib.hid (vkind_any b (k : Int) V wr hV.out)
      rw [if_pos (by omega), if_pos (by omega), if_pos (by omega), Int.toNat_natCast] at HK
      have hkd : Hid ((V.pg k).kind = kd V k) := Lib.hid rfl
      generalize (V.pg k).kind = x at *
      generalize (V.pg k).huge = y at *
      go_wp2_with fail
      refine HK.out.mono ?_
      rintro e w2 ⟨rfl, hw2⟩
      have hV2 := Lib.hid (hV.out.call hw2)
      have kR2 := kR.call hw2
      have kM2 := kM.call hw2
      have hB2 := hB.trans (hw2.mono (by have := hB.size; have := hs'.out; omega))
      have hs2 := hB2.size
      have fM := kM2.frozen
      have cM := kM2.cell k
      rw [hM.at_ k hlt] at cM
      rw [if_neg (by omega)] at cM
      have F3 : Far (fun k => k = s + 1) w2 (w2.setCell ⟨s + 1, k, none⟩ (.int .i64 x)) := Far.setCell (T := fun k => k = s + 1) (p := ⟨s + 1, k, none⟩) (Far.refl _ _) (fun _ => rfl) _
      have hV3 := hV2.out.far F3 (by omega) (fun _ _ _ _ _ _ g _ _ _ hc e => hc.elim fun cr hcr => Blk.ne_ hcr kM2 (by decide) e)
      have hM3 := hM.set (g := fun p => if p < k + 1 then kd V p else 0) k hlt x (by rw [if_pos (by omega)]; exact hkd.out.symm) (fun q _ hq => by
        by_cases h : q < k
        · rw [if_pos h, if_pos (by omega)]
        · rw [if_neg h, if_neg (by omega)])
      have kM3 := kM2.set_ k (.int .i64 x)
      have kR3 := F3.blk kR2 (by omega)
      have hB3 : Below s w (w2.setCell ⟨s + 1, k, none⟩ (.int .i64 x)) := hB2.trans (F3.below (by have := hs'.out; omega) (fun k hk e => by omega))
      have hfin := Lib.hid (And.intro kR3 (And.intro kM3 (And.intro hM3 (And.intro hV3 hB3))))
      clear HK hV hV2 kR kM kR2 hB hB2 F3 hV3 hM3 kM3 kR3 hB3 kM2 hM hw2
      go_wp2_with fail
      go_roundw
      case rel => exact ⟨k + 1, _, by omega, by go_num, hfin.out.1, hfin.out.2.1, hfin.out.2.2.1, Lib.hid hfin.out.2.2.2.1, hfin.out.2.2.2.2⟩
      case measure => simp [intOf]; omega
    · have hlt' : decide ((k : Int) < 1024) = false := by rw [decide_eq_false_iff_not]; omega
      have hM9 : NumsAre cs (kd V) := hM.congr (fun p hp => by rw [if_pos (by omega)])
      have hsz := hM.size
      have hth := blk_there kR
      have hzs := hZ.size
      have hone := hM9.one
      go_wp2_with (first
        | (refine wpList_load_mid rfl 38 (.tmp 4) rfl (s + 1) 0 rfl cs.toList _ (rangeAt_blk kM) Try.underlying38 rfl (by rw [Array.length_toList, hsz]; exact info38) ?_; rw [Array.toArray_toList])
        | (refine wpList_store_mid rfl 38 (.tmp 2) (.tmp 26) rfl s 0 cs rfl rfl (by rw [hsz, ← hzs]; exact hth) (by rw [hsz]; exact info38) hone ?_))
      have hrg := World.rangeAt_setCells_same wr s 0 cs.toList (by rw [Array.length_toList, hsz, ← hzs]; exact hth)
      have hB9 := below_setCells s (Nat.le_refl _) cs.toList 0 wr hB
      generalize wr.setCells s 0 cs.toList = w9 at *
      have hld := run_loadVar_mid (P := Try.prog) w9 s 0 38 cs.toList _ hrg Try.underlying38 rfl (by rw [Array.length_toList, hsz]; exact info38)
      rw [Array.toArray_toList] at hld
      exact bodyPost_ret (v := .tuple #[.agg cs, .bool true]) (results_cell_tmpK rfl rfl rfl hld) rfl ⟨cs, rfl, hM9, by rw [hs'.out]; exact hB9⟩
end Go.Proofs.Ytdepkmpilipolaa
