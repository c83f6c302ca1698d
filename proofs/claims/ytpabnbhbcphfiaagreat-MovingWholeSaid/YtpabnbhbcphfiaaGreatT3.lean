/- Merged texts. Walk: the moves that empty a candidate (the program). Walks: cmp.Or; the comparison of moves, and of lists of moves. Walk: the best plan (the program). Walks: bits.Len; Plan, Largest (the program). Walks: the law's Example, awake. Opening the arguments of the laws of this seat (a table, a usage, numbers), and closing their rows: all that a law's contract has to say is that it returns true and turns nothing that lay there. Opening the arguments of the laws of layer 24: lists of blocks and of moves, numbers. Words for slices of structs: their cells as one flat list. Plain words for refusals: rules, plans, which calls are refused. -/
import Derived.Laws.Tables
import Derived.WalkMore
import Derived.Deep.LoopGhost
import Derived.Lib.BitFns
import Derived.Lib.Strings
import Derived.Lib.Small
import Derived.Lib.Walk
import Derived.Test.YtpabnbhbcphfiaaGreatRows
import Derived.Carry
import Derived.ChangeSlices
import Derived.RowKit2
import Derived.RowKit3
import Derived.JoinedAt
import Derived.Test.YtpabnbhbcphfiaaGreatT2
namespace Go.Pol
theorem markL_snoc (m : Nat → Bool) (bs : List B3) (b : B3) : markL m (bs ++ [b]) = markB (markL m bs) b.1.toNat b.2.1.toNat := by simp [markL]
end Go.Pol
namespace Go.Proofs.YtpabnbhbcphfiaaGreat
open Go Go.Proofs Go.RowKit Go.Pol Go.Shelf Go.Deep

theorem RoomAre.one {cs : Array Value} {f : Nat → Nat → Bool} {mn : Nat → Int} (h : RoomAre cs f mn) : cs.all (·.oneCell') = true := by
  rw [Array.all_eq_true]
  intro i hi
  rw [h.size] at hi
  by_cases hlt : i < 11264
  · have := h.at_ (i / 1024) (i % 1024) (by omega) (by omega)
    rw [show i / 1024 * 1024 + i % 1024 = i by omega, Array.getElem?_eq_getElem (by rw [h.size]; omega)] at this
    rw [Option.some.inj this]; rfl
  · have := h.many (i - 11264) (by omega)
    rw [show 11264 + (i - 11264) = i by omega, Array.getElem?_eq_getElem (by rw [h.size]; omega)] at this
    rw [Option.some.inj this]; rfl
theorem below_setRow {w : World} {t : TypeId} {old cs : Array Value} : Below w.heap.size w ((w.alloc (.cells old t)).setRow w.heap.size cs) ∧ Blk ((w.alloc (.cells old t)).setRow w.heap.size cs) w.heap.size t cs := by
  have hnew : (w.alloc (.cells old t)).heap[w.heap.size]? = some (.cells old t (0, 0)) := heap_alloc_new w _
  refine ⟨⟨rfl, rfl, rfl, by simp [World.setRow], fun k hk => ?_⟩, setRow_heap _ _ old cs t (0, 0) hnew⟩
  rw [setRow_other _ _ _ _ (by omega)]
  exact ((Below.refl w.heap.size w).alloc (Nat.le_refl _) (.cells old t)).block k hk
theorem takeF_frB (pg : Nat) (m : Nat → Bool) (page od : Nat) : takeF (frB pg m) page od = frB pg (markB m page od) := by
  funext o i
  rw [frB_mark]; rfl
theorem info_int : (Tryz.prog.info? 3).map (fun i => (i.zero, i.size, i.bytes)) = some (some (.int .i64 0), 1, 8) := by kernel_rfl
theorem own_RIx {w : World} {base : Nat} {e : TypeId} {v : Value} {n : Nat} {xs : List Int} (h : w.ownsRow base e 1 v n (xs.map (Value.int .i64))) (hn : xs.length = n) : ∃ (A : Option Addr) (cap : Nat), v = .slice A n cap ∧ RI w w.heap.size A xs ∧ n ≤ cap := by
  have hv := h
  rcases h.2 with ⟨rfl, h0⟩ | ⟨g, cap, cur, rfl, hg, hk, hnc, hcm, _⟩
  · subst h0
    obtain rfl : xs = [] := List.eq_nil_of_length_eq_zero hn
    exact ⟨none, 0, rfl, RI.nil, Nat.le_refl _⟩
  · refine ⟨_, cap, rfl, fun k hk' => ?_, hnc⟩
    have h0 := hv.cellAt k (by simp at hk'; omega)
    exact ⟨g, 0, rfl, Blk.lt hk, by rw [Nat.zero_add, h0, List.getElem?_eq_getElem hk']⟩
/-- a room in a block of the call's own -/
def Room (w : World) (B : Nat) (f : Nat → Nat → Bool) : Prop := ∃ cs, Blk w B 309 cs ∧ RoomAre cs f (cntI f)
theorem Room.call {w w' : World} {B : Nat} {f : Nat → Nat → Bool} (h : Room w B f) (hb : Below w.heap.size w w') : Room w' B f := by
  obtain ⟨cs, h1, h2⟩ := h
  exact ⟨cs, h1.call hb, h2⟩
theorem Room.lt {w : World} {B : Nat} {f : Nat → Nat → Bool} (h : Room w B f) : B < w.heap.size := by
  obtain ⟨cs, h1, _⟩ := h; exact h1.lt
theorem takeR_any (B : Nat) (pg : Nat) (m : Nat → Bool) (x : Int) (o : Int) (w : World) (hx : 0 ≤ x) (ho : 0 ≤ o ∧ o ≤ 10) (hxo : x + pw o ≤ 1024) (hR : Room w B (frB pg m)) :
    Calls Tryz.prog 229 #[.pointer (some ⟨B, 0, none⟩), .int .i64 x, .int .i64 o] w fun e w' => e = .returned (.tuple #[]) ∧ Room w' B (frB pg (markB m x.toNat o.toNat)) ∧ Far (fun k => k = B) w w' := by
  obtain ⟨cs, h1, h2⟩ := hR
  have hp : pw o = ((2 ^ o.toNat : Nat) : Int) := by simp [pw]
  have h := take_any B (frB pg m) x.toNat o.toNat cs w (by omega) (by omega) h1 h2
  rw [takeF_frB, Int.toNat_of_nonneg hx, Int.toNat_of_nonneg ho.1] at h
  exact h
theorem takeN_any (B : Nat) (pg : Nat) (m : Nat → Bool) (x o : Nat) (w : World) (ho : o ≤ 10) (hxo : x + 2 ^ o ≤ 1024) (hR : Room w B (frB pg m)) :
    Calls Tryz.prog 229 #[.pointer (some ⟨B, 0, none⟩), .int .i64 x, .int .i64 o] w fun e w' => e = .returned (.tuple #[]) ∧ Room w' B (frB pg (markB m x o)) ∧ Far (fun k => k = B) w w' := by
  obtain ⟨cs, h1, h2⟩ := hR
  have h := take_any B (frB pg m) x o cs w ho hxo h1 h2
  rw [takeF_frB] at h
  exact h
theorem info_move : (Tryz.prog.info? 152).map (fun i => (i.zero, i.size, i.bytes)) = some (some (.agg #[.int .i64 0, .int .i64 0]), 2, 16) := by kernel_rfl
theorem RI.tail_ {w : World} {B : Nat} {A : Option Addr} {xs : List Int} (i : Nat) (h : RI w B A xs) : RI w B (A.map fun x => ({ block := x.block, off := x.off + i, spot := none } : Addr)) (xs.drop i) := by
  intro k hk
  have hk' : i + k < xs.length := by simp at hk; omega
  obtain ⟨b, o, rfl, hb, hc⟩ := h.at_ (k := i + k) hk'
  refine ⟨b, o + i, rfl, hb, ?_⟩
  rw [Nat.add_assoc, hc]
  simp [List.getD_eq_getElem?_getD, hk']
/-- a room's copy into a new block whose cells were zc -/
structure CopyR (wr : World) (zc cs : Array Value) (f : Nat → Nat → Bool) : Prop where
  new : (wr.alloc (.cells zc 309)).heap[wr.heap.size]? = some (.cells zc 309 (0, 0))
  size : zc.size = cs.size
  info : (Tryz.prog.info? 309).map (·.size) = some cs.size
  len : (Tryz.prog.info? 309).map (·.size) = some cs.toList.length
  one : cs.all (·.oneCell') = true
  below : Below wr.heap.size wr ((wr.alloc (.cells zc 309)).setRow wr.heap.size cs)
  room : Room ((wr.alloc (.cells zc 309)).setRow wr.heap.size cs) wr.heap.size f
theorem info11275 : (Tryz.prog.info? 309).map (·.size) = some 11275 := by kernel_rfl
theorem zc_ex : ∃ zc : Array Value, Tryz.zeroCells309 = zc ∧ zc.size = 11275 := ⟨_, rfl, zeroRoom.size⟩
theorem copyR (wr : World) (zc cs : Array Value) (f : Nat → Nat → Bool) (hz : zc.size = 11275) (h : RoomAre cs f (cntI f)) : CopyR wr zc cs f where
  new := heap_alloc_new wr _
  size := by rw [hz, h.size]
  info := by rw [h.size]; exact info11275
  len := by rw [Array.length_toList, h.size]; exact info11275
  one := RoomAre.one h
  below := below_setRow.1
  room := ⟨cs, below_setRow.2, h⟩
set_option maxRecDepth 100000 in
set_option maxHeartbeats 3200000 in
theorem empty_any (pg P : Nat) (A M : Option Addr) (n cap mn mcap : Nat) (bs : List B3) (c : B3) (moved : List Nat) (w : World) (hP : P ≤ 10) (hpg : pg = 2 ^ P) (hn : bs.length = n) (hr : RT w w.heap.size A bs) (ok : okB (pg : Int) bs) (hc : insB (pg : Int) c.1 c.2.1 = true)
    (hmn : moved.length = mn) (hmm : ∀ i ∈ moved, i < n) (hM : RI w w.heap.size M (moved.map fun i : Nat => (i : Int))) (R : List (Int × Int) × Bool) (hE : emptyB pg bs c moved = R) (hmn64 : mn ≤ 64) :
    Calls Tryz.prog 196 #[.int .i64 pg, .slice A n cap, bV c, .slice M mn mcap] w fun e w' => ∃ (O : Option Addr) (ocap : Nat), e = .returned (.tuple #[.slice O R.1.length ocap, .bool R.2]) ∧ RU w' w'.heap.size O R.1 ∧ Below w.heap.size w w' := by
  obtain ⟨cx, co, cc⟩ := c
  have hci := insB_iff.1 hc
  simp only at hci
  have hpg1024 : pg ≤ 1024 := by rw [hpg]; exact Nat.pow_le_pow_right (by decide) hP
  have hn64 : n ≤ 64 := by rw [← hn]; exact ok.len
  have hins := Lib.hid ok.ins
  have HOp := Lib.hid (fun W => open_anyV pg W P hP hpg)
  have hb0 := (Below.refl w.heap.size w).alloc (Nat.le_refl _) (.cells #[.int .i64 cx, .int .i64 co, .bool cc] 65)
  have k0 := Blk.new w 65 #[.int .i64 cx, .int .i64 co, .bool cc]
  have c0 := k0.cell
  have hn' := Lib.hid hn
  have hmn' := Lib.hid hmn
  have hmm' := Lib.hid hmm
  have hE' := Lib.hid hE
  obtain ⟨s, hs⟩ : ∃ s, w.heap.size = s := ⟨_, rfl⟩
  have hs0 : (w.alloc (.cells #[.int .i64 cx, .int .i64 co, .bool cc] 65)).heap.size = s + 1 := by rw [World.size_alloc, hs]
  have hrS : RT w s A bs := by rw [← hs]; exact hr
  have hMS : RI w s M (moved.map fun i : Nat => (i : Int)) := by rw [← hs]; exact hM
  rw [hs] at k0 hb0 c0
  clear hn hmn hmm hE ok hc hP hpg hr hM
  go_enter Tryz.func196, Tryz.ntmps196
  go_wp2_with fail
  go_step3
  generalize w.alloc (Obj.cells #[Value.int .i64 cx, .int .i64 co, .bool cc] 65) = w0 at *
  go_wp2_with fail
  refine (HOp.out _).mono ?_
  rintro e w1 ⟨rfl, ⟨cs1, kR1, hR1⟩, hb1⟩
  rw [hs0] at kR1 hb1 ⊢
  have B1 := hb0.trans (hb1.mono (by omega))
  have room1 : Room w1 (s + 1) (frB pg fun _ => false) := ⟨cs1, kR1, hR1⟩
  have k1 : Blk w1 s 65 _ := k0.call (by rw [hs0]; exact hb1)
  have c1 := k1.cell
  have HT := Lib.hid (takeR_any (s + 1) pg (fun _ => false) cx co w1 hci.2.1 hci.1 (by omega) room1)
  clear hR1 kR1 c0 k0 HOp hb1 hb0 room1
  go_wp2_with fail
  refine HT.out.mono ?_
  rintro e w2 ⟨rfl, room2, hF2⟩
  have B2 := B1.trans (hF2.below (by have := B1.size; omega) (fun k hk => by omega))
  have hw2 := room2.lt
  clear HT hF2 k1 c1 B1
  obtain ⟨m0, hm0⟩ : ∃ m0, markB (fun _ => false) cx.toNat co.toNat = m0 := ⟨_, rfl⟩
  rw [hm0] at room2
  have hm0' := Lib.hid hm0
  clear hm0
  go_wp2_with fail
  go_loopw [32] (fun i wr => ∃ k : Nat, k ≤ n ∧ i = .int .i64 k ∧ Hid (Room wr (s + 1) (frB pg (markL m0 (bs.take k)))) ∧ Below s w wr) (fun i _ => n - (intOf i).toNat)
  case atStart => exact ⟨0, by omega, rfl, Lib.hid (by simpa [markL] using room2), B2⟩
  case round =>
    clear room2 hw2 B2
    obtain ⟨k, hk, rfl, hRm, hB⟩ := hrel
    have hBs : s ≤ wr.heap.size := by have := hB.size; omega
    by_cases hlt : k < n
    · have hlt' : decide ((k : Int) < (n : Int)) = true := by simpa using hlt
      obtain ⟨b, o, rfl, hbl, d1, d2, d3⟩ := (hrS.below hB).at_ (k := k) (by have := hn'.out; omega)
      have hib := insB_iff.1 (hins.out _ (getD_memB (bs := bs) (k := k) (by have := hn'.out; omega)))
      have hts := Lib.hid (take_snocB bs k (by have := hn'.out; omega))
      generalize bs.getD k b0 = x at *
      obtain ⟨xa, xo, xc⟩ := x
      simp only at d1 d2 d3 hib
      have hl := hRm.out.lt
      have hba := (Below.refl wr.heap.size wr).alloc (Nat.le_refl _) (.cells #[.int .i64 xa, .int .i64 xo, .bool xc] 65)
      have HT := Lib.hid (takeR_any (s + 1) pg (markL m0 (bs.take k)) xa xo _ hib.2.1 hib.1 (by omega) (hRm.out.call hba))
      go_wp2_with fail
      refine HT.out.mono ?_
      rintro e w3 ⟨rfl, room3, hF3⟩
      have B3 := (hB.trans (hba.mono hBs)).trans (hF3.below (by have := hba.size; omega) (fun k hk => by omega))
      have hR3 : Hid (Room w3 (s + 1) (frB pg (markL m0 (bs.take (k + 1))))) := Lib.hid (by rw [hts.out, markL_snoc]; exact room3)
      go_wp2_with fail
      go_roundw
      case rel => exact ⟨k + 1, by omega, by go_num, hR3, B3⟩
      case measure => simp [intOf]; omega
    · obtain rfl : k = n := by omega
      have hlt' : decide ((k : Int) < (k : Int)) = false := by simp
      have hRm2 : Hid (Room wr (s + 1) (frB pg (markL m0 bs))) := Lib.hid (by have := hRm.out; rwa [List.take_of_length_le (by have := hn'.out; omega)] at this)
      clear hRm
      obtain ⟨wA, rfl⟩ : ∃ wA, wA = wr := ⟨_, rfl⟩
      obtain ⟨i0, hi0, hz0, hz1, hz2⟩ := info_parts info_int
      go_wp2_with fail
      go_loopw [13, 45] (fun v i wr2 => ∃ q : Nat, q ≤ mn ∧ i = .int .i64 q ∧ wr2.ownsRow wA.heap.size 3 1 v q ((moved.take q).map fun i => Value.int .i64 ((ordB bs i : Nat) : Int)) ∧ Below wA.heap.size wA wr2) (fun _ i _ => mn - (intOf i).toNat)
      case atStart => exact ⟨0, by omega, rfl, by simpa using World.ownsRow_nil _ _ _ _, Below.refl _ _⟩
      case round =>
        obtain ⟨q, hq, rfl, hrow, hB2⟩ := hrel
        have hB2s := hB2.size
        by_cases hlt2 : q < mn
        · have hlt2' : decide ((q : Int) < (mn : Int)) = true := by simpa using hlt2
          have hBt := hB.trans (hB2.mono hBs)
          obtain ⟨b, o, rfl, hbl, d1⟩ := (hMS.below hBt).at_ (k := q) (by rw [List.length_map]; have := hmn'.out; omega)
          obtain ⟨ix, hix⟩ : ∃ ix, moved.getD q 0 = ix := ⟨_, rfl⟩
          have hge : (moved.map fun i : Nat => (i : Int)).getD q 0 = (ix : Int) := by
            rw [← hix]
            simp only [List.getD_eq_getElem?_getD, List.getElem?_map]
            rw [List.getElem?_eq_getElem (by have := hmn'.out; omega)]; simp
          rw [hge] at d1
          have hmem : ix ∈ moved := by rw [← hix, List.getD_eq_getElem?_getD, List.getElem?_eq_getElem (by have := hmn'.out; omega)]; simp
          have hixn := hmm'.out ix hmem
          have hts : Hid (moved.take (q + 1) = moved.take q ++ [ix]) := Lib.hid (by
            rw [List.take_add_one, List.getElem?_eq_getElem (by have := hmn'.out; omega), ← hix, List.getD_eq_getElem?_getD, List.getElem?_eq_getElem (by have := hmn'.out; omega)]; rfl)
          obtain ⟨b', o', rfl, _, _, e2, _⟩ := (hrS.below hBt).at_ (k := ix) (by have := hn'.out; omega)
          have hib := insB_iff.1 (hins.out _ (getD_memB (bs := bs) (k := ix) (by have := hn'.out; omega)))
          obtain ⟨xo, hxo⟩ : ∃ xo, (bs.getD ix b0).2.1 = xo := ⟨_, rfl⟩
          rw [hxo] at e2 hib
          have hord : Hid (((ordB bs ix : Nat) : Int) = xo) := Lib.hid (by unfold ordB; rw [hxo]; omega)
          clear hge hix hmem hxo
          have kNw := Blk.new wr 3 #[.int .i64 xo]
          go_wp2_with (refine wpList_append_own _ rfl (.tmp 49) (.tmp 55) 47 rfl _ 3 i0 (.int .i64 0) 1 8 Tryz.underlying47 hi0 hz0 hz1 hz2 rfl (by decide) _ q _ rfl (hrow.alloc _) ⟨wr.heap.size, 0, none⟩ 1 1 [.int .i64 xo] rfl rfl (fun j u hu => by rw [addr_add0, Nat.zero_add, kNw.cell]; simpa using hu) (fun u hu => by simp only [List.mem_singleton] at hu; subst hu; rfl) (by unfold maxLen; omega) (by omega) (by simp; omega) ?_; intro v' w6 hown' hgrow _)
          go_roundw
          case rel => exact ⟨q + 1, by omega, by go_num, by rw [hts.out, List.map_append, List.map_singleton, hord.out]; exact hown', (hB2.alloc hB2s _).grown hgrow (by simp; omega) (fun j hj => (hrow.lt j hj).1)⟩
          case measure => simp [intOf]; omega
        · obtain rfl : q = mn := by omega
          have hlt2' : decide ((q : Int) < (q : Int)) = false := by simp
          rw [List.take_of_length_le (by have := hmn'.out; omega)] at hrow
          have hoe : (moved.map fun i => Value.int .i64 ((ordB bs i : Nat) : Int)) = ((moved.map (ordB bs)).map fun o : Nat => (o : Int)).map (Value.int .i64) := by simp
          rw [hoe] at hrow
          obtain ⟨A3, c3, rfl, hri3, hqc3⟩ := own_RIx hrow (by simp [hmn'.out])
          have room3 := hRm2.out.call hB2
          have hBt := hB.trans (hB2.mono hBs)
          have hHo : Hid (Calls Tryz.prog 230 #[.pointer (some ⟨s + 1, 0, none⟩), .slice A3 q c3] wr fun e w' => e = .returned (.bool (holdsB (frB pg (markL m0 bs)) (moved.map (ordB bs)))) ∧ Below wr.heap.size wr w') := Lib.hid (by
            obtain ⟨cs3, kB3, hR3⟩ := room3
            refine holds_any (s + 1) _ cs3 A3 q c3 (moved.map (ordB bs)) wr (by simp [hmn'.out]) (by omega) (fun o ho => ?_) hri3 kB3 hR3
            obtain ⟨ix, hix, rfl⟩ := List.mem_map.1 ho
            have hib := insB_iff.1 (hins.out _ (getD_memB (bs := bs) (k := ix) (by have := hmm'.out ix hix; have := hn'.out; omega)))
            unfold ordB; omega)
          have hEE : Hid (R = if holdsB (frB pg (markL m0 bs)) (moved.map (ordB bs)) = true then (greedy pg bs (markL m0 bs) moved, true) else ([], false)) := Lib.hid (by rw [← hE'.out]; unfold emptyB; rw [hm0'.out])
          clear hoe
          cases hh : holdsB (frB pg (markL m0 bs)) (moved.map (ordB bs)) with
          | false =>
            rw [hh] at hHo
            have hRR : Hid (R = ([], false)) := Lib.hid (by rw [hEE.out, hh]; rfl)
            clear hEE hh
            go_wp2_with fail
            refine hHo.out.mono ?_
            rintro e w4 ⟨rfl, hb4⟩
            have B4 := hBt.trans (hb4.mono (by have := hBt.size; omega))
            go_wp2_with fail
            rw [Exit.noGoto_ret]
            go_ret2
            rw [hRR.out]
            exact ⟨none, 0, rfl, RU.nil, by rw [hs]; exact B4⟩
          | true =>
            rw [hh] at hHo
            have hRR : Hid (R = (greedy pg bs (markL m0 bs) moved, true)) := Lib.hid (by rw [hEE.out, if_pos hh])
            clear hEE hh
            go_wp2_with fail
            refine hHo.out.mono ?_
            rintro e w4 ⟨rfl, hb4⟩
            have B4 := hBt.trans (hb4.mono (by have := hBt.size; omega))
            have room4 := room3.call hb4
            have hri4 : RI w4 w4.heap.size A3 _ := (hri3.below hb4).more hb4.size
            clear hri3 room3 hrow hHo
            go_wp2_with fail
            go_step3
            go_wp2_with fail
            obtain ⟨e4, he4⟩ : ∃ e4, w4.heap.size = e4 := ⟨_, rfl⟩
            rw [he4] at hri4
            have hrS4 : RT w4 s A bs := hrS.below B4
            have hMS4 : RI w4 s M _ := hMS.below B4
            have hse : s ≤ e4 := by rw [← he4]; have := B4.size; omega
            have he4' := Lib.hid he4
            clear he4
            go_loopg [10, 16, 64] q (fun g s10 s16 s64 wx => ∃ (k Rm : Nat) (m : Nat → Bool) (done : List (Int × Int)), k + g = q ∧ s64 = .int .i64 k ∧ s10 = .pointer (some ⟨Rm, 0, none⟩) ∧ Hid (Room wx Rm (frB pg m)) ∧ wx.ownsRow e4 152 2 s16 done.length (spCells done) ∧ Hid (done ++ greedy pg bs m (moved.drop k) = greedy pg bs (markL m0 bs) moved) ∧ done.length ≤ k ∧ Below e4 w4 wx)
            case atStart => exact ⟨0, s + 1, markL m0 bs, [], by omega, rfl, rfl, Lib.hid room4, World.ownsRow_nil _ _ _ _, Lib.hid (by simp), Nat.le_refl _, Below.refl _ _⟩
            case round =>
              obtain ⟨k, Rm, m, done, hkg, rfl, rfl, hRm4, hrow, hG, hdk, hB4⟩ := hrel
              have hB4s : e4 ≤ wr.heap.size := by have := hB4.size; have := he4'.out; omega
              cases gk with
              | zero =>
                have hlt' : decide ((k : Int) < (q : Int)) = false := by simp; omega
                have hltn : ¬ (k < q) := by omega
                have hfin : Hid (R = (done, true)) := Lib.hid (by rw [hRR.out, ← hG.out, List.drop_of_length_le (by have := hmn'.out; omega)]; simp [greedy])
                obtain ⟨O, oc, rfl, hru, _⟩ := own_RU hrow rfl
                clear hRm4 hrow hG hRR
                go_wp2_with fail
                rw [Exit.noGoto_ret]
                go_ret2
                rw [hfin.out]
                exact ⟨O, oc, rfl, hru, by rw [hs]; exact B4.trans (hB4.mono hse)⟩
              | succ g =>
                have hlt : k < q := by omega
                have hlt' : decide ((k : Int) < (q : Int)) = true := by simp; omega
                have hB4w : Below s w wr := B4.trans (hB4.mono hse)
                obtain ⟨dl, hdl⟩ : ∃ dl, done.length = dl := ⟨_, rfl⟩
                rw [hdl] at hrow hdk
                have hdl' := Lib.hid hdl
                clear hdl
                obtain ⟨b, o, rfl, hbl, d1⟩ := (hMS4.below (hB4.mono hse)).at_ (k := k) (by rw [List.length_map]; have := hmn'.out; omega)
                obtain ⟨ix, hix⟩ : ∃ ix, moved.getD k 0 = ix := ⟨_, rfl⟩
                have hge : (moved.map fun i : Nat => (i : Int)).getD k 0 = (ix : Int) := by
                  rw [← hix]
                  simp only [List.getD_eq_getElem?_getD, List.getElem?_map]
                  rw [List.getElem?_eq_getElem (by have := hmn'.out; omega)]; simp
                rw [hge] at d1
                have hmem : ix ∈ moved := by rw [← hix, List.getD_eq_getElem?_getD, List.getElem?_eq_getElem (by have := hmn'.out; omega)]; simp
                have hixn := hmm'.out ix hmem
                have hdr : moved.drop k = ix :: moved.drop (k + 1) := by rw [Go.Pol.drop_cons 0 moved k (by have := hmn'.out; omega), hix]
                obtain ⟨b', o', rfl, _, _, f2, _⟩ := (hrS4.below (hB4.mono hse)).at_ (k := ix) (by have := hn'.out; omega)
                have hib := insB_iff.1 (hins.out _ (getD_memB (bs := bs) (k := ix) (by have := hn'.out; omega)))
                obtain ⟨od, hod⟩ : ∃ od, ordB bs ix = od := ⟨_, rfl⟩
                have hxo : (bs.getD ix b0).2.1 = (od : Int) := by rw [← hod]; unfold ordB; omega
                rw [hxo] at f2 hib
                have hod10 : od ≤ 10 := by omega
                obtain ⟨Q, hQ⟩ : ∃ Q, pg / 2 ^ od = Q := ⟨_, rfl⟩
                have hsh : ((pg : Int) / 2 ^ od) = (Q : Int) := by rw [← hQ]; simp
                have hQ1024 : Q ≤ 1024 := by rw [← hQ]; exact Nat.le_trans (Nat.div_le_self _ _) hpg1024
                obtain ⟨rest, hrest⟩ : ∃ rest, moved.drop (k + 1) = rest := ⟨_, rfl⟩
                obtain ⟨pred, hpred⟩ : ∃ pred : Nat → Bool, (fun a => frB pg m od a && holdsB (frB pg (markB m (a * 2 ^ od) od)) (rest.map (ordB bs))) = pred := ⟨_, rfl⟩
                have hpick : Hid (pickB pg bs m ix rest = firstB pred Q 0) := Lib.hid (by unfold pickB; rw [hod, hpred, hQ])
                have hgr : Hid (greedy pg bs m (moved.drop k) = match firstB pred Q 0 with | some a => ((ix : Int), ((a * 2 ^ od : Nat) : Int)) :: greedy pg bs (markB m (a * 2 ^ od) od) rest | none => greedy pg bs m rest) := Lib.hid (by
                  rw [hdr, hrest, greedy, hpick.out, hod]
                  cases firstB pred Q 0 <;> rfl)
                obtain ⟨wX, rfl⟩ : ∃ wX, wX = wr := ⟨_, rfl⟩
                have hpred' := Lib.hid hpred
                have hQ' := Lib.hid hQ
                have hrest' := Lib.hid hrest
                have hod' := Lib.hid hod
                clear hge hix hmem hdr hxo hod hQ hrest hpred
                go_wp2_with fail
                go_loopg [10, 16, 77] Q (fun g2 s10 s16 s77 wy => ∃ j : Nat, j + g2 = Q ∧ s77 = .int .i64 j ∧ s10 = .pointer (some ⟨Rm, 0, none⟩) ∧ u16 = s16 ∧ Hid (firstB pred Q 0 = firstB pred g2 j) ∧ Below wX.heap.size wX wy)
                case atStart => exact ⟨0, by omega, rfl, rfl, rfl, Lib.hid rfl, Below.refl _ _⟩
                case round =>
                  obtain ⟨j, hjQ, rfl, rfl, rfl, hfi, hBi⟩ := hrel
                  have hBis := hBi.size
                  cases gk with
                  | zero =>
                    have hlj : decide ((j : Int) < (Q : Int)) = false := by simp; omega
                    have hljn : ¬ (j < Q) := by omega
                    have hG2 : Hid (done ++ greedy pg bs m (moved.drop (k + 1)) = greedy pg bs (markL m0 bs) moved) := Lib.hid (by
                      rw [← hG.out, hgr.out, hfi.out, hrest'.out]; rfl)
                    have hrow2 := ownsRow_call hrow hBi
                    clear hgr hfi hG hrow
                    go_wp2_with fail
                    go_roundg g
                    case measure => omega
                    case rel => exact ⟨k + 1, Rm, m, done, by omega, by go_num, rfl, Lib.hid (hRm4.out.call hBi), by rw [hdl'.out]; exact hrow2, hG2, by rw [hdl'.out]; omega, hB4.trans (hBi.mono (by have := he4'.out; omega))⟩
                  | succ g2 =>
                    have hlj0 : j < Q := by omega
                    have hlj : decide ((j : Int) < (Q : Int)) = true := by simp; omega
                    obtain ⟨cs, kB, hcs⟩ := hRm4.out.call hBi
                    have hcell : _ := (kB.cell (od * 1024 + j)).trans (hcs.at_ od j (by omega) (by omega))
                    have hcs' := Lib.hid hcs
                    clear hcs
                    cases hf : frB pg m od j with
                    | false =>
                      rw [hf] at hcell
                      have hfi2 : Hid (firstB pred Q 0 = firstB pred g2 (j + 1)) := Lib.hid (by
                        rw [hfi.out, firstB, if_neg (by rw [← hpred'.out]; simp [hf])])
                      clear hf hfi
                      go_wp2_with fail
                      go_roundg g2
                      case measure => omega
                      case rel => exact ⟨j + 1, by omega, by go_num, rfl, rfl, hfi2, hBi⟩
                    | true =>
                      have hfT := Lib.hid hf
                      have hjb : (j + 1) * 2 ^ od ≤ pg := by
                        have := hf; unfold frB at this; rw [Bool.and_eq_true] at this; simpa using this.1
                      obtain ⟨sh, hshv⟩ : ∃ sh, j * 2 ^ od = sh := ⟨_, rfl⟩
                      have hp2 : pw (od : Int) = ((2 ^ od : Nat) : Int) := pw_nat od
                      have hjb2 : sh + 2 ^ od ≤ pg := by rw [← hshv, ← Nat.succ_mul]; exact hjb
                      obtain ⟨tw, htw⟩ : ∃ tw, 2 ^ od = tw := ⟨_, rfl⟩
                      have hjb3 : sh + tw ≤ pg := by rw [← htw]; exact hjb2
                      have hsh1024 : sh ≤ 1024 := by omega
                      have hshl : wrap64 ((j : Int) * 2 ^ od) = (sh : Int) := by
                        have e : ((j : Int) * 2 ^ od) = (sh : Int) := by rw [← hshv]; simp
                        rw [e]; clear hjb hjb2 hp2; unfold wrap64; omega
                      rw [hf] at hcell
                      obtain ⟨zc, hzc, hzz⟩ := zc_ex
                      have hzc' := Lib.hid hzc
                      clear hzc
                      have hC := Lib.hid (copyR wr zc cs (frB pg m) hzz hcs'.out)
                      have hbC := hC.out.below
                      have HT := Lib.hid (takeN_any wr.heap.size pg m sh od _ hod10 (Nat.le_trans hjb2 hpg1024) hC.out.room)
                      have kB' := Lib.hid kB
                      clear hf hp2 kB hzz
                      obtain ⟨wz, hwz⟩ : ∃ wz, (wr.alloc (.cells zc 309)).setRow wr.heap.size cs = wz := ⟨_, rfl⟩
                      rw [hwz] at HT hbC
                      have hwz' := Lib.hid hwz
                      clear hwz
                      go_upto_region 26 with (first
                        | (refine wpList_load_mid rfl 309 (.tmp 90) rfl Rm 0 rfl cs.toList _ (rangeAt_blk kB'.out) Tryz.underlying309 rfl hC.out.len ?_; rw [Array.toArray_toList])
                        | (rw [hzc'.out]; refine wpList_store_row rfl 309 (.tmp 21) (.tmp 91) rfl wr.heap.size cs rfl rfl 309 _ hC.out.new hC.out.info hC.out.size hC.out.one ?_))
                      rw [hwz'.out]
                      clear hC hcs' hcell kB' hzc' hwz'
                      go_wp2_with fail
                      refine HT.out.mono ?_
                      rintro e w5 ⟨rfl, hR5, hF5⟩
                      have hB5 : Below wr.heap.size wr w5 := hbC.trans (hF5.below (by have := hbC.size; omega) (fun k hk => by omega))
                      have hRIw := ((((hri4.below hB4).more hB4s).below hBi).more hBi.size)
                      have hRIt : RI w5 w5.heap.size (A3.map fun x => ({ block := x.block, off := x.off + (k + 1), spot := none } : Addr)) ((rest.map (ordB bs)).map fun o : Nat => (o : Int)) := by
                        have h := RI.tail_ (k + 1) ((hRIw.below hB5).more hB5.size)
                        rwa [← List.map_drop, ← List.map_drop, hrest'.out] at h
                      have hnil : Hid (q = k + 1 → rest = []) := Lib.hid (fun h => by rw [← hrest'.out]; exact List.drop_of_length_le (by rw [hmn'.out]; omega))
                      have hR5' := Lib.hid hR5
                      obtain ⟨cs5, kB5, hcs5⟩ := hR5
                      have hHH := Lib.hid (fun (A' : Option Addr) (c' : Nat) (h : RI w5 w5.heap.size A' ((rest.map (ordB bs)).map fun o : Nat => (o : Int))) => holds_any wr.heap.size (frB pg (markB m sh od)) cs5 A' (q - (k + 1)) c' (rest.map (ordB bs)) w5 (by rw [List.length_map, ← hrest'.out, List.length_drop, hmn'.out]) (by omega) (fun o ho => by
                        obtain ⟨iy, hiy, rfl⟩ := List.mem_map.1 ho
                        have hiy' := hmm'.out iy (by rw [← hrest'.out] at hiy; exact List.mem_of_mem_drop hiy)
                        have hib := insB_iff.1 (hins.out _ (getD_memB (bs := bs) (k := iy) (by have := hn'.out; omega)))
                        unfold ordB; omega) h kB5 hcs5)
                      have hshv' := Lib.hid hshv
                      obtain ⟨i1, hi1, hy0, hy1, hy2⟩ := info_parts info_move
                      have hmv : Hid (ordB bs ix = od) := hod'
                      clear HT kB5 hcs5 hF5 hbC hRIw hri4 hjb hjb2 hshv
                      go_wp2_with fail
                      case inl =>
                        rename_i h
                        refine (hHH.out _ _ (by rw [hnil.out (by omega)]; exact RI.nil)).mono ?_
                        rw [← h]
                        clear h
                        rintro e w6 ⟨rfl, hb6⟩
                        have hB6 := hB5.trans (hb6.mono hB5.size)
                        have hrow6 := ownsRow_call (ownsRow_call hrow hBi) hB6
                        have hR6 : Hid (Room w6 wr.heap.size (frB pg (markB m sh od))) := Lib.hid (hR5'.out.call hb6)
                        have hBt6 := hB4.trans ((hBi.trans (hB6.mono hBi.size)).mono hB4s)
                        have hs6 : e4 ≤ w6.heap.size := by have := hBt6.size; have := he4'.out; omega
                        clear hb6 hB5 hR5' hHH hRIt
                        cases hh : holdsB (frB pg (markB m sh od)) (rest.map (ordB bs)) with
                        | false =>
                          have hfi2 : Hid (firstB pred Q 0 = firstB pred g2 (j + 1)) := Lib.hid (by
                            rw [hfi.out, firstB, if_neg (by rw [← hpred'.out]; simp [hfT.out, hshv'.out, hh])])
                          clear hfi hh hrow6
                          go_wp2_with fail
                          go_roundg g2
                          case measure => omega
                          case rel => exact ⟨j + 1, by omega, by go_num, rfl, rfl, hfi2, hBi.trans (hB6.mono hBi.size)⟩
                        | true =>
                          have hfi2 : Hid (firstB pred Q 0 = some j) := Lib.hid (by
                            rw [hfi.out, firstB, if_pos (by rw [← hpred'.out]; simp [hfT.out, hshv'.out, hh])])
                          have hG2 : Hid (done ++ [((ix : Int), (sh : Int))] ++ greedy pg bs (markB m sh od) (moved.drop (k + 1)) = greedy pg bs (markL m0 bs) moved) := Lib.hid (by
                            rw [← hG.out, hgr.out, hfi2.out, hrest'.out]; simp only [hshv'.out, List.append_assoc, List.singleton_append])
                          have kN := Blk.new w6 152 #[.int .i64 (ix : Int), .int .i64 (sh : Int)]
                          clear hfi hh hgr hG hfi2
                          go_wp2_with (refine wpList_append_own _ rfl (.tmp 102) (.tmp 108) 57 rfl e4 152 i1 (.agg #[.int .i64 0, .int .i64 0]) 2 16 Tryz.underlying57 hi1 hy0 hy1 hy2 rfl (by decide) _ dl (spCells done) rfl (hrow6.alloc _) ⟨w6.heap.size, 0, none⟩ 1 1 [.int .i64 (ix : Int), .int .i64 (sh : Int)] rfl rfl (news_two kN) news_one2 (by unfold maxLen; omega) (by omega) (by simp; omega) ?_; intro v' w7 hown' hgrow _; rw [← spCells_snoc done ((ix : Int), (sh : Int))] at hown')
                          have hR7 : Hid (Room w7 wr.heap.size (frB pg (markB m sh od))) := Lib.hid (by
                            obtain ⟨c7, h71, h72⟩ := hR6.out
                            exact ⟨c7, (h71.alloc (.cells #[.int .i64 (ix : Int), .int .i64 (sh : Int)] 152)).grown hgrow (fun e => Blk.not_row (h71.alloc (.cells #[.int .i64 (ix : Int), .int .i64 (sh : Int)] 152)) (hrow6.alloc (.cells #[.int .i64 (ix : Int), .int .i64 (sh : Int)] 152)) (by decide) e.symm), h72⟩)
                          go_roundg g
                          case measure => omega
                          case rel => exact ⟨k + 1, wr.heap.size, markB m sh od, done ++ [((ix : Int), (sh : Int))], by omega, by go_num, rfl, hR7, by rw [List.length_append, hdl'.out]; exact hown', hG2, by rw [List.length_append, hdl'.out]; simp; omega, (hBt6.alloc hs6 _).grown hgrow (by simp; omega) (fun j hj => (hrow6.lt j hj).1)⟩
                      case inr =>
                        refine (hHH.out _ _ hRIt).mono ?_
                        rintro e w6 ⟨rfl, hb6⟩
                        have hB6 := hB5.trans (hb6.mono hB5.size)
                        have hrow6 := ownsRow_call (ownsRow_call hrow hBi) hB6
                        have hR6 : Hid (Room w6 wr.heap.size (frB pg (markB m sh od))) := Lib.hid (hR5'.out.call hb6)
                        have hBt6 := hB4.trans ((hBi.trans (hB6.mono hBi.size)).mono hB4s)
                        have hs6 : e4 ≤ w6.heap.size := by have := hBt6.size; have := he4'.out; omega
                        clear hb6 hB5 hR5' hHH hRIt
                        cases hh : holdsB (frB pg (markB m sh od)) (rest.map (ordB bs)) with
                        | false =>
                          have hfi2 : Hid (firstB pred Q 0 = firstB pred g2 (j + 1)) := Lib.hid (by
                            rw [hfi.out, firstB, if_neg (by rw [← hpred'.out]; simp [hfT.out, hshv'.out, hh])])
                          clear hfi hh hrow6
                          go_wp2_with fail
                          go_roundg g2
                          case measure => omega
                          case rel => exact ⟨j + 1, by omega, by go_num, rfl, rfl, hfi2, hBi.trans (hB6.mono hBi.size)⟩
                        | true =>
                          have hfi2 : Hid (firstB pred Q 0 = some j) := Lib.hid (by
                            rw [hfi.out, firstB, if_pos (by rw [← hpred'.out]; simp [hfT.out, hshv'.out, hh])])
                          have hG2 : Hid (done ++ [((ix : Int), (sh : Int))] ++ greedy pg bs (markB m sh od) (moved.drop (k + 1)) = greedy pg bs (markL m0 bs) moved) := Lib.hid (by
                            rw [← hG.out, hgr.out, hfi2.out, hrest'.out]; simp only [hshv'.out, List.append_assoc, List.singleton_append])
                          have kN := Blk.new w6 152 #[.int .i64 (ix : Int), .int .i64 (sh : Int)]
                          clear hfi hh hgr hG hfi2
                          go_wp2_with (refine wpList_append_own _ rfl (.tmp 102) (.tmp 108) 57 rfl e4 152 i1 (.agg #[.int .i64 0, .int .i64 0]) 2 16 Tryz.underlying57 hi1 hy0 hy1 hy2 rfl (by decide) _ dl (spCells done) rfl (hrow6.alloc _) ⟨w6.heap.size, 0, none⟩ 1 1 [.int .i64 (ix : Int), .int .i64 (sh : Int)] rfl rfl (news_two kN) news_one2 (by unfold maxLen; omega) (by omega) (by simp; omega) ?_; intro v' w7 hown' hgrow _; rw [← spCells_snoc done ((ix : Int), (sh : Int))] at hown')
                          have hR7 : Hid (Room w7 wr.heap.size (frB pg (markB m sh od))) := Lib.hid (by
                            obtain ⟨c7, h71, h72⟩ := hR6.out
                            exact ⟨c7, (h71.alloc (.cells #[.int .i64 (ix : Int), .int .i64 (sh : Int)] 152)).grown hgrow (fun e => Blk.not_row (h71.alloc (.cells #[.int .i64 (ix : Int), .int .i64 (sh : Int)] 152)) (hrow6.alloc (.cells #[.int .i64 (ix : Int), .int .i64 (sh : Int)] 152)) (by decide) e.symm), h72⟩)
                          go_roundg g
                          case measure => omega
                          case rel => exact ⟨k + 1, wr.heap.size, markB m sh od, done ++ [((ix : Int), (sh : Int))], by omega, by go_num, rfl, hR7, by rw [List.length_append, hdl'.out]; exact hown', hG2, by rw [List.length_append, hdl'.out]; simp; omega, (hBt6.alloc hs6 _).grown hgrow (by simp; omega) (fun j hj => (hrow6.lt j hj).1)⟩
end Go.Proofs.YtpabnbhbcphfiaaGreat
namespace Go.Proofs.YtpabnbhbcphfiaaGreat
open Go Go.Proofs Go.RowKit Go.Pol Go.Shelf Go.Deep

theorem cmpI_cmpN : cmpIV = cmpN := rfl
theorem RI_blk {w : World} {g : Nat} {t : TypeId} (xs : List Int) (h : Blk w g t (xs.map (Value.int .i64)).toArray) : RI w w.heap.size (some ⟨g, 0, none⟩) xs := by
  intro k hk
  refine ⟨g, 0, rfl, h.lt, ?_⟩
  rw [Nat.zero_add, h.cell, List.getElem?_toArray, List.getElem?_eq_getElem hk]
theorem or_any (A : Option Addr) (n cap : Nat) (xs : List Int) (w : World) (hn : xs.length = n) (hm : n ≤ 1000) (hr : RI w w.heap.size A xs) (hx : ∀ x ∈ xs, -1 ≤ x ∧ x ≤ 1) :
    Calls Tryz.prog 197 #[.slice A n cap] w fun e w' => e = .returned (.int .i64 (orN xs)) ∧ Below w.heap.size w w' := by
  obtain ⟨R, hR⟩ : ∃ R, orN xs = R := ⟨_, rfl⟩
  rw [hR]
  have hR' := Lib.hid hR
  have hn' := Lib.hid hn
  have hx' := Lib.hid hx
  clear hR hn hx
  go_enter Tryz.func197, Tryz.ntmps197
  go_wp2_with fail
  go_loopw [8] (fun i wr => ∃ k : Nat, k ≤ n ∧ i = .int .i64 k ∧ Below w.heap.size w wr ∧ Hid (orN (xs.drop k) = R)) (fun i _ => n - (intOf i).toNat)
  case atStart => exact ⟨0, by omega, rfl, Below.refl _ _, by simpa using hR'⟩
  case round =>
    obtain ⟨k, hk, rfl, hB, hH⟩ := hrel
    by_cases hlt : k < n
    · have hlt' : decide ((k : Int) < (n : Int)) = true := by simpa using hlt
      obtain ⟨b, o, rfl, hbl, c1⟩ := (hr.below hB).at_ (k := k) (by have := hn'.out; omega)
      have hd := Go.Pol.drop_cons 0 xs k (by have := hn'.out; omega)
      have hmem : xs.getD k 0 ∈ xs := by rw [List.getD_eq_getElem?_getD, List.getElem?_eq_getElem (by have := hn'.out; omega)]; simp
      have hb := hx'.out _ hmem
      generalize xs.getD k 0 = x at *
      have hd' := Lib.hid hd
      clear hd hmem
      by_cases h0 : x = 0
      · have h0' : (x != 0) = false := by simp [h0]
        have hH2 : Hid (orN (xs.drop (k + 1)) = R) := Lib.hid (by rw [← hH.out, hd'.out, orN, if_pos h0])
        clear hH h0
        go_wp2_with fail
        go_roundw
        case rel => exact ⟨k + 1, by omega, by go_num, hB, hH2⟩
        case measure => simp [intOf]; omega
      · have h0' : (x != 0) = true := by simpa using h0
        have hRR : Hid (R = x) := Lib.hid (by rw [← hH.out, hd'.out, orN, if_neg h0])
        clear hH h0
        go_wp2_with fail
        go_ret
        exact ⟨ret_int hRR.out.symm, hB⟩
    · obtain rfl : k = n := by omega
      have hlt' : decide ((k : Int) < (k : Int)) = false := by simp
      have hRR : Hid (R = 0) := Lib.hid (by rw [← hH.out, List.drop_of_length_le (by have := hn'.out; omega), orN])
      clear hH
      go_wp2_with fail
      go_ret
      exact ⟨ret_int hRR.out.symm, hB⟩
set_option maxRecDepth 100000 in
theorem byBlock_any (x y : Int × Int) (w : World) : Calls Tryz.prog 199 #[.agg #[.int .i64 x.1, .int .i64 x.2], .agg #[.int .i64 y.1, .int .i64 y.2]] w fun e w' => e = .returned (.int .i64 (moveN x y)) ∧ Below w.heap.size w w' := by
  obtain ⟨x1, x2⟩ := x
  obtain ⟨y1, y2⟩ := y
  simp only
  have HC := Lib.hid (fun a b W => compare_anyV a b W)
  obtain ⟨c1, hc1⟩ : ∃ c, cmpIV x1 y1 = c := ⟨_, rfl⟩
  obtain ⟨c2, hc2⟩ : ∃ c, cmpIV x2 y2 = c := ⟨_, rfl⟩
  have hE : Hid (moveN (x1, x2) (y1, y2) = orN [c1, c2]) := Lib.hid (by rw [← hc1, ← hc2, cmpI_cmpN]; rfl)
  have hcb1 : -1 ≤ c1 ∧ c1 ≤ 1 := by rw [← hc1, cmpI_cmpN]; exact cmpN_bound _ _
  have hcb2 : -1 ≤ c2 ∧ c2 ≤ 1 := by rw [← hc2, cmpI_cmpN]; exact cmpN_bound _ _
  have H1 := Lib.hid (fun W => compare_anyV x1 y1 W)
  have H2 := Lib.hid (fun W => compare_anyV x2 y2 W)
  rw [hc1] at H1
  rw [hc2] at H2
  clear hc1 hc2
  generalize moveN (x1, x2) (y1, y2) = R at *
  have hb0 := ((Below.refl w.heap.size w).alloc (Nat.le_refl _) (.cells #[.int .i64 x1, .int .i64 x2] 152)).alloc (by simp) (.cells #[.int .i64 y1, .int .i64 y2] 152)
  have kX := (Blk.new w 152 #[.int .i64 x1, .int .i64 x2]).alloc (.cells #[.int .i64 y1, .int .i64 y2] 152)
  have kY := Blk.new (w.alloc (.cells #[.int .i64 x1, .int .i64 x2] 152)) 152 #[.int .i64 y1, .int .i64 y2]
  rw [World.size_alloc] at kY
  go_enter Tryz.func199, Tryz.ntmps199
  go_upto_region 1 with fail
  generalize (w.alloc (Obj.cells #[Value.int .i64 x1, .int .i64 x2] 152)).alloc (Obj.cells #[Value.int .i64 y1, .int .i64 y2] 152) = w1 at *
  have q1 := fun z : Ext w1 => (z.blk kX).cell
  have q2 := fun z : Ext w1 => (z.blk kY).cell
  have G1 := Lib.hid (fun z : Ext w1 => Ext.call (x := z) ((H1.out z.w).mono (fun e w' h => ⟨h.1, by rw [h.2]; exact Below.refl _ _⟩)))
  have G2 := Lib.hid (fun z : Ext w1 => Ext.call (x := z) ((H2.out z.w).mono (fun e w' h => ⟨h.1, by rw [h.2]; exact Below.refl _ _⟩)))
  refine region_ext_tail 10 (by kernel_rfl) (by kernel_rfl) ?_
  simp only [List.take_succ_cons, List.take_zero, List.drop_succ_cons, List.drop_zero]
  iterate 5 go_big_quiet_step ((go_at_call 111; exact G1.out _))
  repeat (go_big_quiet_step ((go_at_call 111; exact G2.out _)))
  refine wpQuiet_nil ?_
  intro z
  have hBz := hb0.trans (z.le.mono hb0.size)
  have hba := hBz.alloc hBz.size (.cells #[.int .i64 c1, .int .i64 c2] 3)
  have kN := Blk.new z.w 3 #[.int .i64 c1, .int .i64 c2]
  have HO := Lib.hid (or_any (some ⟨z.w.heap.size, 0, none⟩) 2 2 [c1, c2] _ rfl (by omega) (RI_blk [c1, c2] kN) (fun x hx => by
    simp only [List.mem_cons, List.not_mem_nil, or_false] at hx
    rcases hx with rfl | rfl
    · exact hcb1
    · exact hcb2))
  rw [← hE.out] at HO
  go_wp2_with fail
  refine HO.out.mono ?_
  rintro e w5 ⟨rfl, hb5⟩
  go_wp2_with fail
  go_ret
  exact ⟨rfl, hba.trans (hb5.mono hba.size)⟩
theorem byBlock_enters : ∀ args w, (callFunc 199 args).run Tryz.prog w = .ok (.enter 199 args) w := enters_of Tryz.func199 (by kernel_rfl) rfl
set_option maxRecDepth 100000 in
theorem compareL_any (A B : Option Addr) (n m cap cap2 : Nat) (xs ys : List (Int × Int)) (w : World) (hn : xs.length = n) (hm : ys.length = m) (hn1 : n ≤ 1000) (hm1 : m ≤ 1000) (hr : RU w w.heap.size A xs) (hs : RU w w.heap.size B ys) :
    Calls Tryz.prog 198 #[.slice A n cap, .slice B m cap2, .func (.func 199) #[] #[]] w fun e w' => e = .returned (.int .i64 (listN xs ys)) ∧ Below w.heap.size w w' := by
  obtain ⟨R, hR⟩ : ∃ R, listN xs ys = R := ⟨_, rfl⟩
  rw [hR]
  have hR' := Lib.hid hR
  have hn' := Lib.hid hn
  have hm' := Lib.hid hm
  have hent := byBlock_enters
  clear hR hn hm
  go_enter Tryz.func198, Tryz.ntmps198
  go_wp2_with fail
  go_loopw [13] (fun i wr => ∃ k : Nat, k ≤ n ∧ k ≤ m ∧ i = .int .i64 k ∧ Below w.heap.size w wr ∧ Hid (listN (xs.drop k) (ys.drop k) = R)) (fun i _ => n - (intOf i).toNat)
  case atStart => exact ⟨0, by omega, by omega, rfl, Below.refl _ _, by simpa using hR'⟩
  case round =>
    obtain ⟨k, hk, hkm, rfl, hB, hH⟩ := hrel
    by_cases hlt : k < n
    · have hlt' : decide ((k : Int) < (n : Int)) = true := by simpa using hlt
      obtain ⟨b, o, rfl, _, c1, c2⟩ := RU.at_' ((hr.below hB).more hB.size) (k := k) (by have := hn'.out; omega)
      have hd := Lib.hid (Go.Pol.drop_cons (0,0) xs k (by have := hn'.out; omega))
      generalize xs.getD k (0,0) = x at *
      obtain ⟨x1, x2⟩ := x
      simp only at c1 c2
      have hBa := hB.alloc hB.size (.cells #[.int .i64 x1, .int .i64 x2] 152)
      by_cases hlm : k < m
      · have hlm' : decide ((m : Int) ≤ (k : Int)) = false := by simp; omega
        obtain ⟨b', o', rfl, _, d1, d2⟩ := RU.at_' ((hs.below hBa).more hBa.size) (k := k) (by have := hm'.out; omega)
        have he := Lib.hid (Go.Pol.drop_cons (0,0) ys k (by have := hm'.out; omega))
        generalize ys.getD k (0,0) = y at *
        obtain ⟨y1, y2⟩ := y
        simp only at d1 d2
        have hBb := hBa.alloc hBa.size (.cells #[.int .i64 y1, .int .i64 y2] 152)
        have HB := Lib.hid (fun W => byBlock_any (x1, x2) (y1, y2) W)
        simp only at HB
        have hst : Hid (R = if moveN (x1, x2) (y1, y2) = 0 then listN (xs.drop (k + 1)) (ys.drop (k + 1)) else moveN (x1, x2) (y1, y2)) := Lib.hid (by rw [← hH.out, hd.out, he.out, listN])
        have hmb := moveN_bound (x1, x2) (y1, y2)
        by_cases h0 : moveN (x1, x2) (y1, y2) = 0
        · have hH2 : Hid (listN (xs.drop (k + 1)) (ys.drop (k + 1)) = R) := Lib.hid (by rw [hst.out, if_pos h0])
          rw [h0] at HB
          clear hst h0 hH hmb
          go_wp2_with fail
          refine (HB.out _).mono ?_
          rintro e w5 ⟨rfl, hb5⟩
          go_wp2_with fail
          go_roundw
          case rel => exact ⟨k + 1, by omega, by omega, by go_num, hBb.trans (hb5.mono hBb.size), hH2⟩
          case measure => simp [intOf]; omega
        · have hRR : Hid (R = moveN (x1, x2) (y1, y2)) := Lib.hid (by rw [hst.out, if_neg h0])
          generalize moveN (x1, x2) (y1, y2) = c at *
          have h0' : (c != 0) = true := by simpa using h0
          clear hst h0 hH
          go_wp2_with fail
          refine (HB.out _).mono ?_
          rintro e w5 ⟨rfl, hb5⟩
          go_wp2_with fail
          go_ret
          exact ⟨ret_int hRR.out.symm, hBb.trans (hb5.mono hBb.size)⟩
      · have hlm' : decide ((m : Int) ≤ (k : Int)) = true := by simp; omega
        have hRR : Hid (R = 1) := Lib.hid (by rw [← hH.out, hd.out, List.drop_of_length_le (l := ys) (by have := hm'.out; omega), listN])
        clear hH
        go_wp2_with fail
        go_ret
        exact ⟨ret_int hRR.out.symm, hBa⟩
    · obtain rfl : k = n := by omega
      have hlt' : decide ((k : Int) < (k : Int)) = false := by simp
      by_cases hlm : k < m
      · have hlm' : decide ((k : Int) < (m : Int)) = true := by simpa using hlm
        have hlm2 : decide (k < m) = true := by simpa using hlm
        have hRR : Hid (R = -1) := Lib.hid (by
          rw [← hH.out, List.drop_of_length_le (by have := hn'.out; omega), Go.Pol.drop_cons (0,0) ys k (by have := hm'.out; omega), listN])
        clear hH hlm
        go_wp2_with fail
        go_ret
        exact ⟨ret_int hRR.out.symm, hB⟩
      · have hlm' : decide ((k : Int) < (m : Int)) = false := by simpa using hlm
        have hlm2 : decide (k < m) = false := by simpa using hlm
        have hRR : Hid (R = 0) := Lib.hid (by
          rw [← hH.out, List.drop_of_length_le (by have := hn'.out; omega), List.drop_of_length_le (by have := hm'.out; omega), listN])
        clear hH hlm
        go_wp2_with fail
        go_ret
        exact ⟨ret_int hRR.out.symm, hB⟩
end Go.Proofs.YtpabnbhbcphfiaaGreat
namespace Go.Pol
/-- .. of the first blocks -/
def mvP (bs : List B3) (c : B3) (i : Nat) : List Nat := (List.range i).filter fun i => overB (bs.getD i b0) c
theorem mvP_succ (bs : List B3) (c : B3) (i : Nat) : mvP bs c (i + 1) = mvP bs c i ++ if overB (bs.getD i b0) c = true then [i] else [] := by
  unfold mvP
  rw [List.range_succ, List.filter_append]
  cases h : overB (bs.getD i b0) c <;> simp only [List.filter_cons, List.filter_nil, h, if_true, Bool.false_eq_true, if_false]
theorem mvP_lt {bs : List B3} {c : B3} {i j : Nat} (h : j ∈ mvP bs c i) : j < i := by
  unfold mvP at h
  exact List.mem_range.1 (List.mem_filter.1 h).1
theorem costM_snoc (bs : List B3) (l : List Nat) (i : Nat) : costM bs (l ++ [i]) = costM bs l + pw (bs.getD i b0).2.1 := by simp [costM]
theorem staysM_snoc (bs : List B3) (o : Int) (l : List Nat) (i : Nat) : staysM bs o (l ++ [i]) = (staysM bs o l || ((bs.getD i b0).2.2 || decide (o < (bs.getD i b0).2.1))) := by simp [staysM]
theorem greedy_len (pg : Nat) (bs : List B3) : ∀ (l : List Nat) (m : Nat → Bool), (greedy pg bs m l).length ≤ l.length
  | [], _ => by simp [greedy]
  | i :: r, m => by
    rw [greedy]
    split
    · have := greedy_len pg bs r (markB m (‹Nat› * 2 ^ ordB bs i) (ordB bs i)); simp only [List.length_cons]; omega
    · have := greedy_len pg bs r m; simp only [List.length_cons]; omega
theorem emptyB_len (pg : Nat) (bs : List B3) (c : B3) (l : List Nat) : (emptyB pg bs c l).1.length ≤ l.length := by
  unfold emptyB
  split
  · exact greedy_len _ _ _ _
  · simp
def planU (pg : Nat) (bs : List B3) (o k : Nat) : PlanSt := (List.range k).foldl (stepP pg bs o) ([], 0, false)
theorem planU_succ (pg : Nat) (bs : List B3) (o k : Nat) : planU pg bs o (k + 1) = stepP pg bs o (planU pg bs o k) k := by
  unfold planU
  rw [List.range_succ, List.foldl_append]; rfl
end Go.Pol
namespace Go.Proofs.YtpabnbhbcphfiaaGreat
open Go Go.Proofs Go.RowKit Go.Pol Go.Shelf Go.Deep

set_option maxRecDepth 100000 in
set_option maxHeartbeats 3200000 in
theorem plan_anyV (pg P : Nat) (A : Option Addr) (n cap : Nat) (bs : List B3) (o : Nat) (w : World) (hP : P ≤ 10) (hpg : pg = 2 ^ P) (ho : o ≤ P) (hn : bs.length = n) (hr : RT w w.heap.size A bs) (ok : okB (pg : Int) bs) (R : PlanSt) (hE : planB pg bs o = R) :
    Calls Tryz.prog 136 #[.int .i64 pg, .slice A n cap, .int .i64 o] w fun e w' => ∃ (O : Option Addr) (ocap : Nat), e = .returned (.tuple #[.slice O R.1.length ocap, .int .i64 R.2.1, .bool R.2.2]) ∧ RU w' w'.heap.size O R.1 ∧ Below w.heap.size w w' := by
  have hpg1024 : pg ≤ 1024 := by rw [hpg]; exact Nat.pow_le_pow_right (by decide) hP
  have hn64 : n ≤ 64 := by rw [← hn]; exact ok.len
  have hokp := Lib.hid (fun b hb => ins_okPl (pages := (pg : Int)) (by omega) (ok.ins b hb))
  obtain ⟨Q, hQ⟩ : ∃ Q, pg / 2 ^ o = Q := ⟨_, rfl⟩
  have hdv : 2 ^ o ∣ pg := by rw [hpg]; exact Nat.pow_dvd_pow 2 ho
  have hpq : pg = Q * 2 ^ o := by rw [← hQ]; exact (Nat.div_mul_cancel hdv).symm
  have HS := Lib.hid (fun W => size_any (o : Int) W (by omega))
  have HEc := Lib.hid (fun (x : Nat) (hx : x ≤ 1024) W => end_anyV ((x : Int), (o : Int), false) W ⟨⟨by simp only; omega, by simp only; omega⟩, by simp only; omega, by simp only; omega⟩)
  simp only at HEc
  rw [pw_nat] at HS HEc
  have hins : Hid (∀ (k : Nat), k * 2 ^ o + 2 ^ o ≤ pg → insB (pg : Int) ((k * 2 ^ o : Nat) : Int) (o : Int) = true) := Lib.hid (fun k hk => insB_iff.2 ⟨⟨by omega, by omega⟩, by omega, by rw [pw_nat, ← Int.natCast_emod, Nat.mul_mod_left]; rfl, by rw [pw_nat]; omega⟩)
  have HEm := Lib.hid (fun (k : Nat) (hk : k * 2 ^ o + 2 ^ o ≤ pg) (M : Option Addr) (mn mcap : Nat) (l : List Nat) (W : World) (hW : RT W W.heap.size A bs) (h1 : l.length = mn) (h2 : ∀ i ∈ l, i < n) (h3 : RI W W.heap.size M (l.map fun i : Nat => (i : Int))) (h4 : mn ≤ 64) => empty_any pg P A M n cap mn mcap bs (placeB o k) l W hP hpg hn hW ok (hins.out k hk) h1 h2 h3 _ rfl h4)
  have hstep := Lib.hid (fun k => planU_succ pg bs o k)
  have hfin : Hid (R = planU pg bs o Q) := Lib.hid (by rw [← hE, ← hQ]; rfl)
  obtain ⟨sz, hsz⟩ : ∃ sz, 2 ^ o = sz := ⟨_, rfl⟩
  have hsz1 : 1 ≤ sz := by rw [← hsz]; exact Nat.two_pow_pos o
  have hov : Hid (∀ (b : B3) (k : Nat), overB b (placeB o k) = (decide (b.1 < ((k * sz : Nat) : Int) + (sz : Int)) && decide (((k * sz : Nat) : Int) < b.1 + pw b.2.1))) := Lib.hid (fun b k => by unfold overB; simp only [pw_nat, hsz])
  rw [hsz] at HS HEc HEm hpq
  have hszL := hsz1
  have ho10 : o ≤ 10 := by omega
  have hsz1024 : sz ≤ 1024 := by rw [← hsz]; exact Nat.le_trans (Nat.pow_le_pow_right (by decide) ho10) (by decide)
  have hn' := Lib.hid hn
  have hpq' := Lib.hid hpq
  have hsz' := Lib.hid hsz
  obtain ⟨s, hs⟩ : ∃ s, w.heap.size = s := ⟨_, rfl⟩
  have hrS : RT w s A bs := by rw [← hs]; exact hr
  have hs' := Lib.hid hs
  clear hn hE ok hP hpg ho hQ hdv hpq hins hsz hr
  rw [hs]
  have hb0 : Below s w w := Below.refl _ _
  have hss : s ≤ w.heap.size := by omega
  clear hs
  go_enter Tryz.func136, Tryz.ntmps136
  go_wp2_with fail
  go_loopw [6, 7, 8, 9] (fun a b c d wr => ∃ (k x : Nat) (best : List (Int × Int)) (least : Int) (is : Bool) (O : Option Addr) (bl oc : Nat), k ≤ Q ∧ d = .int .i64 x ∧ Hid (x = k * sz) ∧ a = .slice O bl oc ∧ b = .int .i64 least ∧ c = .bool is ∧ RU wr wr.heap.size O best ∧ Hid (best.length = bl) ∧ bl ≤ 64 ∧ (0 ≤ least ∧ least ≤ 100000) ∧ Hid (planU pg bs o k = (best, least, is)) ∧ Below s w wr) (fun _ _ _ d _ => pg - (intOf d).toNat)
  case atStart => exact ⟨0, 0, [], 0, false, none, 0, 0, by omega, rfl, Lib.hid (by simp), rfl, rfl, rfl, RU.nil, Lib.hid rfl, by omega, by omega, Lib.hid rfl, hb0⟩
  case round =>
    obtain ⟨k, x, best, least, is, O, bl, oc, hk, rfl, hx, rfl, rfl, rfl, hO, hbl, hbl64, hleast, hU, hB⟩ := hrel
    have hBs : s ≤ wr.heap.size := by have := hB.size; omega
    by_cases hlt : k < Q
    · have hxs : x + sz ≤ pg := by
        have := Nat.mul_le_mul_right sz (show k + 1 ≤ Q by omega)
        rw [Nat.succ_mul, ← hx.out, ← hpq'.out] at this
        exact this
      have hlt' : decide ((x : Int) < (pg : Int)) = true := by simp; omega
      have hlt2 : decide (x < pg) = true := by simp; omega
      obtain ⟨c, hc⟩ : ∃ c, placeB o k = c := ⟨_, rfl⟩
      have hovc : Hid (∀ b : B3, overB b c = (decide (b.1 < (x : Int) + (sz : Int)) && decide ((x : Int) < b.1 + pw b.2.1))) := Lib.hid (fun b => by rw [← hc, hov.out, ← hx.out])
      have hba := (Below.refl wr.heap.size wr).alloc (Nat.le_refl _) (.cells #[.int .i64 x, .int .i64 o, .bool false] 65)
      have kC := Blk.new wr 65 #[.int .i64 x, .int .i64 o, .bool false]
      obtain ⟨bC, hbC⟩ : ∃ bC, wr.heap.size = bC := ⟨_, rfl⟩
      rw [hbC] at kC
      go_upto_region 5 with fail
      have hBA := hB.trans (hba.mono hBs)
      have hOA := hO.below hba
      have hsA : (wr.alloc (Obj.cells #[Value.int .i64 x, .int .i64 o, .bool false] 65)).heap.size = bC + 1 := by rw [World.size_alloc, hbC]
      rw [hbC] at hOA
      have hsb : s ≤ bC := by omega
      clear hba hB hO hbC hBs
      generalize wr.alloc (Obj.cells #[Value.int .i64 x, .int .i64 o, .bool false] 65) = wA at *
      obtain ⟨i0, hi0, hz0, hz1, hz2⟩ := info_parts info_int
      go_wp2_with fail
      go_loopw [11, 12, 13, 30] (fun d1 d2 v i wr2 => ∃ (j : Nat) (l : List Nat) (z : Int) (sy : Bool), j ≤ n ∧ i = .int .i64 j ∧ d1 = .int .i64 z ∧ d2 = .bool sy ∧ Hid (l = mvP bs c j ∧ z = costM bs l ∧ sy = staysM bs (o : Int) l) ∧ (0 ≤ z ∧ z ≤ 1024 * j) ∧ l.length ≤ j ∧ wr2.ownsRow (bC + 1) 3 1 v l.length (l.map fun i => Value.int .i64 (i : Nat)) ∧ Below (bC + 1) wA wr2) (fun _ _ _ i _ => n - (intOf i).toNat)
      case atStart => exact ⟨0, [], 0, false, by omega, rfl, rfl, rfl, Lib.hid ⟨rfl, rfl, rfl⟩, by omega, by simp, World.ownsRow_nil _ _ _ _, Below.refl _ _⟩
      case round =>
        obtain ⟨j, l, z, sy, hj, rfl, rfl, rfl, hL, hzb, hlj, hrow, hB2⟩ := hrel
        have hB2s := hB2.size
        rw [hsA] at hB2s
        by_cases hjn : j < n
        · have hjn' : decide ((j : Int) < (n : Int)) = true := by simpa using hjn
          have hBt := hBA.trans (hB2.mono (by omega))
          obtain ⟨b, oo, rfl, _, d1, d2, d3⟩ := (hrS.below hBt).at_ (k := j) (by have := hn'.out; omega)
          have hok := hokp.out _ (getD_memB (bs := bs) (k := j) (by have := hn'.out; omega))
          have hms := Lib.hid (mvP_succ bs c j)
          have hcs := Lib.hid (costM_snoc bs l j)
          have hst := Lib.hid (staysM_snoc bs (o : Int) l j)
          have hovj := Lib.hid (hovc.out (bs.getD j b0))
          have HE2 := Lib.hid (fun W => end_anyV (bs.getD j b0) W hok)
          generalize bs.getD j b0 = y at *
          obtain ⟨ya, yo, yc⟩ := y
          simp only at d1 d2 d3 hcs hst hovj HE2
          obtain ⟨hya, hyo⟩ := hok
          simp only at hya hyo
          have HS2 := Lib.hid (fun W => size_any yo W hyo)
          have hp1 := pw_pos yo
          have hp2 := pw_le hyo.2
          obtain ⟨q, hq⟩ : ∃ q, pw yo = q := ⟨_, rfl⟩
          rw [hq] at HS2 HE2 hp1 hp2
          have hq' := Lib.hid hq
          clear hq
          have kCr : Blk wr bC 65 _ := kC.call (by rw [hsA]; exact hB2)
          have kX := Blk.new wr 65 #[.int .i64 ya, .int .i64 yo, .bool yc]
          have kCx := kCr.alloc (.cells #[.int .i64 ya, .int .i64 yo, .bool yc] 65)
          have hrx := hrow.alloc (.cells #[.int .i64 ya, .int .i64 yo, .bool yc] 65)
          have hBx := hB2.alloc (by omega) (.cells #[.int .i64 ya, .int .i64 yo, .bool yc] 65)
          obtain ⟨bX, hbX⟩ : ∃ bX, wr.heap.size = bX := ⟨_, rfl⟩
          rw [hbX] at kX hB2s
          go_upto_region 10 with fail
          have hsX : (wr.alloc (Obj.cells #[Value.int .i64 ya, .int .i64 yo, .bool yc] 65)).heap.size = bX + 1 := by rw [World.size_alloc, hbX]
          clear hrow hB2 kCr hbX d1 d2 d3 hBt
          generalize wr.alloc (Obj.cells #[Value.int .i64 ya, .int .i64 yo, .bool yc] 65) = wX at *
          have q1 := fun z : Ext wX => (z.blk kX).cell
          have q2 := fun z : Ext wX => (z.blk kCx).cell
          have G1 := Lib.hid (fun z : Ext wX => Ext.call (x := z) (HEc.out x (by omega) z.w))
          have G2 := Lib.hid (fun z : Ext wX => Ext.call (x := z) (HE2.out z.w))
          by_cases o1 : ya < (x : Int) + (sz : Int)
          · have o1' : decide (ya < (x : Int) + (sz : Int)) = true := by simpa using o1
            by_cases o2 : (x : Int) < ya + q
            · have o2' : decide ((x : Int) < ya + q) = true := by simpa using o2
              have hl2 : Hid (mvP bs c (j + 1) = l ++ [j]) := Lib.hid (by rw [hms.out, hovj.out, hq'.out, o1', o2', ← hL.out.1]; rfl)
              clear o1 o2
              refine region_ext (by kernel_rfl) (by kernel_rfl) ?_
              iterate 4 (go_big_quiet_step ((go_at_call 195; exact G1.out _)))
              repeat (go_big_quiet_step ((go_at_call 195; exact G2.out _)))
              refine wpQuiet_nil ?_
              rintro w5 ⟨⟨_, hw5⟩, rfl⟩
              have kX5 := kX.call hw5
              have cX5 := kX5.cell
              have hr5 := ownsRow_call hrx hw5
              have hB5 : Below (bC + 1) wA w5 := hBx.trans (hw5.mono (by omega))
              have hs5 : bX + 1 ≤ w5.heap.size := by have := hw5.size; omega
              have kN := Blk.new w5 3 #[.int .i64 (j : Int)]
              have hL2 : Hid (l ++ [j] = mvP bs c (j + 1) ∧ z + q = costM bs (l ++ [j]) ∧ (sy || (yc || decide ((o : Int) < yo))) = staysM bs (o : Int) (l ++ [j])) := Lib.hid ⟨hl2.out.symm, by rw [hcs.out, ← hL.out.2.1, hq'.out], by rw [hst.out, ← hL.out.2.2]⟩
              clear G1 G2 q1 q2 hw5 hrx hBx kX kCx hL hl2 hcs hst
              go_upto_region 13 with (first
                | (refine wpList_append_own _ rfl (.tmp 46) (.tmp 48) 47 rfl (bC + 1) 3 i0 (.int .i64 0) 1 8 Tryz.underlying47 hi0 hz0 hz1 hz2 rfl (by decide) _ l.length (l.map fun i => Value.int .i64 (i : Nat)) rfl (hr5.alloc _) ⟨w5.heap.size, 0, none⟩ 1 1 [.int .i64 (j : Int)] rfl rfl (fun j u hu => by rw [addr_add0, Nat.zero_add, kN.cell]; simpa using hu) (fun u hu => by simp only [List.mem_singleton] at hu; subst hu; rfl) (by unfold maxLen; omega) (by omega) (by simp; omega) ?_; intro v' w6 hown' hgrow _; have kX6 := (kX5.alloc (.cells #[.int .i64 (j : Int)] 3)).grown hgrow (fun e => Blk.not_row (kX5.alloc (.cells #[.int .i64 (j : Int)] 3)) (hr5.alloc (.cells #[.int .i64 (j : Int)] 3)) (by decide) e.symm); have cX6 := kX6.cell)
                | (go_at_call 86; refine (HS2.out _).mono ?_; rintro e wS ⟨rfl, hwS⟩; replace hwS := hwS.symm; subst hwS))
              have hB6 : Below (bC + 1) wA w6 := (hB5.alloc (by omega) _).grown hgrow (by simp; omega) (fun j hj => (hr5.lt j hj).1)
              clear hB5 hr5 kN kX5 cX5 hgrow
              cases sy with
              | true =>
                go_wp2_with fail
                go_roundw
                case rel => exact ⟨j + 1, l ++ [j], z + q, true, by omega, by go_num, rfl, rfl, Lib.hid ⟨hL2.out.1, hL2.out.2.1, by rw [← hL2.out.2.2]; simp [*]⟩, by omega, by rw [List.length_append, List.length_singleton]; omega, by rw [List.length_append, List.length_singleton, List.map_append, List.map_singleton]; exact hown', hB6⟩
                case measure => simp [intOf]; omega
              | false =>
                cases yc with
                | true =>
                  go_wp2_with fail
                  go_roundw
                  case rel => exact ⟨j + 1, l ++ [j], z + q, true, by omega, by go_num, rfl, rfl, Lib.hid ⟨hL2.out.1, hL2.out.2.1, by rw [← hL2.out.2.2]; simp [*]⟩, by omega, by rw [List.length_append, List.length_singleton]; omega, by rw [List.length_append, List.length_singleton, List.map_append, List.map_singleton]; exact hown', hB6⟩
                  case measure => simp [intOf]; omega
                | false =>
                  by_cases ho2 : (o : Int) < yo
                  · have ho2' : decide ((o : Int) < yo) = true := by simpa using ho2
                    clear ho2
                    go_wp2_with fail
                    go_roundw
                    case rel => exact ⟨j + 1, l ++ [j], z + q, true, by omega, by go_num, rfl, rfl, Lib.hid ⟨hL2.out.1, hL2.out.2.1, by rw [← hL2.out.2.2]; simp [*]⟩, by omega, by rw [List.length_append, List.length_singleton]; omega, by rw [List.length_append, List.length_singleton, List.map_append, List.map_singleton]; exact hown', hB6⟩
                    case measure => simp [intOf]; omega
                  · have ho2' : decide ((o : Int) < yo) = false := by simpa using ho2
                    clear ho2
                    go_wp2_with fail
                    go_roundw
                    case rel => exact ⟨j + 1, l ++ [j], z + q, false, by omega, by go_num, rfl, rfl, Lib.hid ⟨hL2.out.1, hL2.out.2.1, by rw [← hL2.out.2.2]; simp [*]⟩, by omega, by rw [List.length_append, List.length_singleton]; omega, by rw [List.length_append, List.length_singleton, List.map_append, List.map_singleton]; exact hown', hB6⟩
                    case measure => simp [intOf]; omega
            · have o2' : decide ((x : Int) < ya + q) = false := by simpa using o2
              have hl2 : Hid (mvP bs c (j + 1) = l) := Lib.hid (by rw [hms.out, hovj.out, hq'.out, o1', o2', ← hL.out.1]; simp)
              clear o1 o2
              refine region_ext (by kernel_rfl) (by kernel_rfl) ?_
              iterate 4 (go_big_quiet_step ((go_at_call 195; exact G1.out _)))
              repeat (go_big_quiet_step ((go_at_call 195; exact G2.out _)))
              refine wpQuiet_nil ?_
              rintro w5 ⟨⟨_, hw5⟩, rfl⟩
              have hr5 := ownsRow_call hrx hw5
              have hB5 : Below (bC + 1) wA w5 := hBx.trans (hw5.mono (by omega))
              clear G1 G2 q1 q2 hw5 hrx hBx kX kCx
              go_wp2_with fail
              go_roundw
              case rel => exact ⟨j + 1, l, z, sy, by omega, by go_num, rfl, rfl, Lib.hid ⟨hl2.out.symm, hL.out.2⟩, by omega, by omega, hr5, hB5⟩
              case measure => simp [intOf]; omega
          · have o1' : decide (ya < (x : Int) + (sz : Int)) = false := by simpa using o1
            have hl2 : Hid (mvP bs c (j + 1) = l) := Lib.hid (by rw [hms.out, hovj.out, o1', ← hL.out.1]; simp)
            clear o1
            refine region_ext (by kernel_rfl) (by kernel_rfl) ?_
            repeat (go_big_quiet_step ((go_at_call 195; exact G1.out _)))
            refine wpQuiet_nil ?_
            rintro w5 ⟨⟨_, hw5⟩, rfl⟩
            have hr5 := ownsRow_call hrx hw5
            have hB5 : Below (bC + 1) wA w5 := hBx.trans (hw5.mono (by omega))
            clear G1 G2 q1 q2 hw5 hrx hBx kX kCx
            go_wp2_with fail
            go_roundw
            case rel => exact ⟨j + 1, l, z, sy, by omega, by go_num, rfl, rfl, Lib.hid ⟨hl2.out.symm, hL.out.2⟩, by omega, by omega, hr5, hB5⟩
            case measure => simp [intOf]; omega
        · obtain rfl : j = n := by omega
          have hjn' : decide ((j : Int) < (j : Int)) = false := by simp
          have hl : Hid (movedB bs c = l ∧ z = costM bs l ∧ sy = staysM bs (o : Int) l) := Lib.hid ⟨by unfold movedB; rw [hn'.out]; exact hL.out.1.symm, hL.out.2⟩
          have hlt3 : Hid (∀ i ∈ l, i < j) := Lib.hid (fun i hi => by rw [hL.out.1] at hi; exact mvP_lt hi)
          have hBr := hBA.trans (hB2.mono (by omega))
          have hOr := (hOA.below (hB2.mono (by omega))).more (show bC ≤ wr.heap.size by omega)
          have hoe : (l.map fun i => Value.int .i64 (i : Nat)) = ((l.map fun i : Nat => (i : Int)).map (Value.int .i64)) := by simp
          rw [hoe] at hrow
          have kCr : Blk wr bC 65 _ := kC.call (by rw [hsA]; exact hB2)
          have cCr := kCr.cell
          obtain ⟨A3, c3, rfl, hri3, _⟩ := own_RIx hrow (by simp)
          obtain ⟨ml, hml⟩ : ∃ ml, l.length = ml := ⟨_, rfl⟩
          rw [hml] at hlj ⊢
          have hs1 := hBr.size
          obtain ⟨E, hEE⟩ : ∃ E, emptyB pg bs c l = E := ⟨_, rfl⟩
          have hEl := emptyB_len pg bs c l
          rw [hEE, hml] at hEl
          have hbv : bV (placeB o k) = .agg #[.int .i64 x, .int .i64 o, .bool false] := by rw [hx.out, ← hsz'.out]
          have HX := HEm.out k (by rw [← hx.out]; omega) A3 ml c3 l wr ((hrS.below hBr).more (by omega)) hml hlt3.out hri3 (by omega)
          rw [hbv, hc, hEE] at HX
          obtain ⟨ms, can⟩ := E
          simp only at HX hEl
          have HX' := Lib.hid HX
          have hS2 : Hid (planU pg bs o (k + 1) = if skipP bs o l (best, least, is) = true then (best, least, is) else if (can && (!is || lessP z ms (best, least, is))) = true then (ms, z, true) else (best, least, is)) := Lib.hid (by
            rw [hstep.out, hU.out, stepP, hc, hl.out.1, hEE, ← hl.out.2.1])
          have hSk : Hid (skipP bs o l (best, least, is) = (sy || (is && (decide (least < z) || (decide (z = least) && decide (bl < ml)))))) := Lib.hid (by
            unfold skipP; rw [← hl.out.2.1, ← hl.out.2.2, hbl.out, hml])
          have hml' := Lib.hid hml
          clear hL hlt3 hoe hrow kC hOA hBA hB2 HX hbv hml hEE hri3 kCr hU
          clear hl hs1
          cases sy with
          | true =>
            have hN : Hid (planU pg bs o (k + 1) = (best, least, is)) := Lib.hid (by rw [hS2.out, if_pos (by rw [hSk.out]; simp)])
            clear hS2 hSk HX'
            go_wp2_with (go_at_call 86; refine (HS.out _).mono ?_; rintro e wS ⟨rfl, hwS⟩; replace hwS := hwS.symm; subst hwS)
            go_roundw
            case rel => exact ⟨k + 1, x + sz, best, least, _, O, bl, oc, by omega, by go_num, Lib.hid (by rw [hx.out, Nat.succ_mul]), rfl, rfl, rfl, hOr, hbl, hbl64, hleast, hN, hBr⟩
            case measure => simp [intOf]; omega
          | false =>
            cases is with
            | false =>
              have hN : Hid (planU pg bs o (k + 1) = if can = true then (ms, z, true) else (best, least, false)) := Lib.hid (by rw [hS2.out, if_neg (by rw [hSk.out]; simp)]; simp)
              clear hS2 hSk
              cases can with
              | false =>
                go_upto_region 17 with (go_at_call 196; refine HX'.out.mono ?_; rintro e w7 ⟨O2, oc2, rfl, hO2, hb7⟩)
                have hB7 := hBr.trans (hb7.mono (by omega))
                have hO7 := (hOr.below hb7).more hb7.size
                clear HX' hBr hOr hb7
                have hN2 : Hid (planU pg bs o (k + 1) = (best, least, false)) := Lib.hid (by rw [hN.out]; rfl)
                go_wp2_with (go_at_call 86; refine (HS.out _).mono ?_; rintro e wS ⟨rfl, hwS⟩; replace hwS := hwS.symm; subst hwS)
                go_roundw
                case rel => exact ⟨k + 1, x + sz, best, least, _, O, bl, oc, by omega, by go_num, Lib.hid (by rw [hx.out, Nat.succ_mul]), rfl, rfl, rfl, hO7, hbl, hbl64, hleast, hN2, hB7⟩
                case measure => simp [intOf]; omega
              | true =>
                go_upto_region 17 with (go_at_call 196; refine HX'.out.mono ?_; rintro e w7 ⟨O2, oc2, rfl, hO2, hb7⟩)
                have hB7 := hBr.trans (hb7.mono (by omega))
                have hO7 := (hOr.below hb7).more hb7.size
                clear HX' hBr hOr hb7
                have hN2 : Hid (planU pg bs o (k + 1) = (ms, z, true)) := Lib.hid (by rw [hN.out]; rfl)
                go_wp2_with (go_at_call 86; refine (HS.out _).mono ?_; rintro e wS ⟨rfl, hwS⟩; replace hwS := hwS.symm; subst hwS)
                go_roundw
                case rel => exact ⟨k + 1, x + sz, ms, z, true, O2, ms.length, oc2, by omega, by go_num, Lib.hid (by rw [hx.out, Nat.succ_mul]), rfl, rfl, rfl, hO2, Lib.hid rfl, by omega, by omega, hN2, hB7⟩
                case measure => simp [intOf]; omega
            | true =>
              by_cases g1 : least < z
              · have g1' : decide (least < z) = true := by simpa using g1
                have hN : Hid (planU pg bs o (k + 1) = (best, least, true)) := Lib.hid (by rw [hS2.out, if_pos (by rw [hSk.out, g1']; simp)])
                clear hS2 hSk HX' g1
                go_wp2_with (go_at_call 86; refine (HS.out _).mono ?_; rintro e wS ⟨rfl, hwS⟩; replace hwS := hwS.symm; subst hwS)
                go_roundw
                case rel => exact ⟨k + 1, x + sz, best, least, _, O, bl, oc, by omega, by go_num, Lib.hid (by rw [hx.out, Nat.succ_mul]), rfl, rfl, rfl, hOr, hbl, hbl64, hleast, hN, hBr⟩
                case measure => simp [intOf]; omega
              · have g1' : decide (least < z) = false := by simpa using g1
                by_cases g2 : z = least
                · have g2' : (z == least) = true := by simpa using g2
                  have g2d : decide (z = least) = true := by simpa using g2
                  by_cases g3 : bl < ml
                  · have g3' : decide ((bl : Int) < (ml : Int)) = true := by simpa using g3
                    have g3d : decide (bl < ml) = true := by simpa using g3
                    have hN : Hid (planU pg bs o (k + 1) = (best, least, true)) := Lib.hid (by rw [hS2.out, if_pos (by rw [hSk.out, g1', g2d, g3d]; simp)])
                    clear hS2 hSk HX' g1 g2 g3 g2d
                    go_wp2_with (go_at_call 86; refine (HS.out _).mono ?_; rintro e wS ⟨rfl, hwS⟩; replace hwS := hwS.symm; subst hwS)
                    go_roundw
                    case rel => exact ⟨k + 1, x + sz, best, least, _, O, bl, oc, by omega, by go_num, Lib.hid (by rw [hx.out, Nat.succ_mul]), rfl, rfl, rfl, hOr, hbl, hbl64, hleast, hN, hBr⟩
                    case measure => simp [intOf]; omega
                  · have g3' : decide ((bl : Int) < (ml : Int)) = false := by simpa using g3
                    have g3d : decide (bl < ml) = false := by simpa using g3
                    have hN : Hid (planU pg bs o (k + 1) = if (can && lessP z ms (best, least, true)) = true then (ms, z, true) else (best, least, true)) := Lib.hid (by rw [hS2.out, if_neg (by rw [hSk.out, g1', g2d, g3d]; simp)]; simp)
                    clear hS2 hSk g1 g2 g3 g2d
                    cases can with
                    | false =>
                      go_upto_region 17 with (go_at_call 196; refine HX'.out.mono ?_; rintro e w7 ⟨O2, oc2, rfl, hO2, hb7⟩)
                      have hB7 := hBr.trans (hb7.mono (by omega))
                      have hO7 := (hOr.below hb7).more hb7.size
                      clear HX' hBr hOr hb7
                      have hN2 : Hid (planU pg bs o (k + 1) = (best, least, true)) := Lib.hid (by rw [hN.out]; rfl)
                      go_wp2_with (go_at_call 86; refine (HS.out _).mono ?_; rintro e wS ⟨rfl, hwS⟩; replace hwS := hwS.symm; subst hwS)
                      go_roundw
                      case rel => exact ⟨k + 1, x + sz, best, least, _, O, bl, oc, by omega, by go_num, Lib.hid (by rw [hx.out, Nat.succ_mul]), rfl, rfl, rfl, hO7, hbl, hbl64, hleast, hN2, hB7⟩
                      case measure => simp [intOf]; omega
                    | true =>
                      go_upto_region 17 with (go_at_call 196; refine HX'.out.mono ?_; rintro e w7 ⟨O2, oc2, rfl, hO2, hb7⟩)
                      have hB7 := hBr.trans (hb7.mono (by omega))
                      have hO7 := (hOr.below hb7).more hb7.size
                      clear HX' hBr hOr hb7
                      have HL := Lib.hid (compareL_any O2 O ms.length bl oc2 oc ms best w7 rfl hbl.out (by omega) (by omega) hO2 hO7)
                      obtain ⟨c1, hc1⟩ : ∃ c, cmpIV z least = c := ⟨_, rfl⟩
                      obtain ⟨c2, hc2⟩ : ∃ c, cmpIV (ms.length : Int) (bl : Int) = c := ⟨_, rfl⟩
                      obtain ⟨c4, hc4⟩ : ∃ c, listN ms best = c := ⟨_, rfl⟩
                      obtain ⟨rr, hrr⟩ : ∃ r, orN [c1, c2, c4] = r := ⟨_, rfl⟩
                      have hN3 : Hid (planU pg bs o (k + 1) = if decide (rr < 0) = true then (ms, z, true) else (best, least, true)) := Lib.hid (by
                        rw [hN.out, Bool.true_and]; unfold lessP; simp only [hbl.out, ← cmpI_cmpN, hc1, hc2, hc4, hrr])
                      have hcb : Hid (∀ y ∈ [c1, c2, c4], -1 ≤ y ∧ y ≤ 1) := Lib.hid (fun y hy => by
                        simp only [List.mem_cons, List.not_mem_nil, or_false] at hy
                        rcases hy with rfl | rfl | rfl
                        · rw [← hc1, cmpI_cmpN]; exact cmpN_bound _ _
                        · rw [← hc2, cmpI_cmpN]; exact cmpN_bound _ _
                        · rw [← hc4]; exact listN_bound _ _)
                      rw [hc4] at HL
                      have hrr' := Lib.hid hrr
                      obtain ⟨m2, hm2⟩ : ∃ m2, ms.length = m2 := ⟨_, rfl⟩
                      rw [hm2] at hc2 HL hEl ⊢
                      have hm2' := Lib.hid hm2
                      have hc1' := Lib.hid hc1
                      have hc2' := Lib.hid hc2
                      clear hN hc1 hc2 hc4 hrr hm2
                      by_cases hneg : rr < 0
                      · have hneg' : decide (rr < 0) = true := by simpa using hneg
                        have hN2 : Hid (planU pg bs o (k + 1) = (ms, z, true)) := Lib.hid (by rw [hN3.out, if_pos hneg'])
                        clear hN3 hneg
                        go_wp2_with (first
                          | (go_at_call 86; refine (HS.out _).mono ?_; rintro e wS ⟨rfl, hwS⟩; replace hwS := hwS.symm; subst hwS)
                          | (go_at_call 111; refine (compare_anyV _ _ _).mono ?_; rintro e wS ⟨rfl, hwS⟩; replace hwS := hwS.symm; subst hwS; first | rw [hc1'.out] | rw [hc2'.out])
                          | (go_at_call 198; refine HL.out.mono ?_; rintro e w8 ⟨rfl, hb8⟩)
                          | (go_at_call 197; refine (or_any (some ⟨w8.heap.size, 0, none⟩) 3 3 [c1, c2, c4] _ rfl (by omega) (RI_blk [c1, c2, c4] (Blk.new w8 3 _)) hcb.out).mono ?_; rw [hrr'.out]; rintro e w9 ⟨rfl, hb9⟩))
                        have hba8 := hb8.alloc hb8.size (.cells #[.int .i64 c1, .int .i64 c2, .int .i64 c4] 3)
                        have hb79 := hba8.trans (hb9.mono hba8.size)
                        have hB9 := hB7.trans (hb79.mono (by have := hB7.size; omega))
                        have hO9 := (hO2.below hb79).more hb79.size
                        have hP9 := (hO7.below hb79).more hb79.size
                        go_roundw
                        case rel => exact ⟨k + 1, x + sz, ms, z, true, O2, m2, oc2, by omega, by go_num, Lib.hid (by rw [hx.out, Nat.succ_mul]), rfl, rfl, rfl, hO9, hm2', by omega, by omega, hN2, hB9⟩
                        case measure => simp [intOf]; omega
                      · have hneg' : decide (rr < 0) = false := by simpa using hneg
                        have hN2 : Hid (planU pg bs o (k + 1) = (best, least, true)) := Lib.hid (by rw [hN3.out, hneg']; rfl)
                        clear hN3 hneg
                        go_wp2_with (first
                          | (go_at_call 86; refine (HS.out _).mono ?_; rintro e wS ⟨rfl, hwS⟩; replace hwS := hwS.symm; subst hwS)
                          | (go_at_call 111; refine (compare_anyV _ _ _).mono ?_; rintro e wS ⟨rfl, hwS⟩; replace hwS := hwS.symm; subst hwS; first | rw [hc1'.out] | rw [hc2'.out])
                          | (go_at_call 198; refine HL.out.mono ?_; rintro e w8 ⟨rfl, hb8⟩)
                          | (go_at_call 197; refine (or_any (some ⟨w8.heap.size, 0, none⟩) 3 3 [c1, c2, c4] _ rfl (by omega) (RI_blk [c1, c2, c4] (Blk.new w8 3 _)) hcb.out).mono ?_; rw [hrr'.out]; rintro e w9 ⟨rfl, hb9⟩))
                        have hba8 := hb8.alloc hb8.size (.cells #[.int .i64 c1, .int .i64 c2, .int .i64 c4] 3)
                        have hb79 := hba8.trans (hb9.mono hba8.size)
                        have hB9 := hB7.trans (hb79.mono (by have := hB7.size; omega))
                        have hO9 := (hO2.below hb79).more hb79.size
                        have hP9 := (hO7.below hb79).more hb79.size
                        go_roundw
                        case rel => exact ⟨k + 1, x + sz, best, least, true, O, bl, oc, by omega, by go_num, Lib.hid (by rw [hx.out, Nat.succ_mul]), rfl, rfl, rfl, hP9, hbl, hbl64, hleast, hN2, hB9⟩
                        case measure => simp [intOf]; omega
                · have g2' : (z == least) = false := by simpa using g2
                  have g2d : decide (z = least) = false := by simpa using g2
                  have hN : Hid (planU pg bs o (k + 1) = if (can && lessP z ms (best, least, true)) = true then (ms, z, true) else (best, least, true)) := Lib.hid (by rw [hS2.out, if_neg (by rw [hSk.out, g1', g2d]; simp)]; simp)
                  clear hS2 hSk g1 g2 g2d
                  cases can with
                  | false =>
                    go_upto_region 17 with (go_at_call 196; refine HX'.out.mono ?_; rintro e w7 ⟨O2, oc2, rfl, hO2, hb7⟩)
                    have hB7 := hBr.trans (hb7.mono (by omega))
                    have hO7 := (hOr.below hb7).more hb7.size
                    clear HX' hBr hOr hb7
                    have hN2 : Hid (planU pg bs o (k + 1) = (best, least, true)) := Lib.hid (by rw [hN.out]; rfl)
                    go_wp2_with (go_at_call 86; refine (HS.out _).mono ?_; rintro e wS ⟨rfl, hwS⟩; replace hwS := hwS.symm; subst hwS)
                    go_roundw
                    case rel => exact ⟨k + 1, x + sz, best, least, _, O, bl, oc, by omega, by go_num, Lib.hid (by rw [hx.out, Nat.succ_mul]), rfl, rfl, rfl, hO7, hbl, hbl64, hleast, hN2, hB7⟩
                    case measure => simp [intOf]; omega
                  | true =>
                    go_upto_region 17 with (go_at_call 196; refine HX'.out.mono ?_; rintro e w7 ⟨O2, oc2, rfl, hO2, hb7⟩)
                    have hB7 := hBr.trans (hb7.mono (by omega))
                    have hO7 := (hOr.below hb7).more hb7.size
                    clear HX' hBr hOr hb7
                    have HL := Lib.hid (compareL_any O2 O ms.length bl oc2 oc ms best w7 rfl hbl.out (by omega) (by omega) hO2 hO7)
                    obtain ⟨c1, hc1⟩ : ∃ c, cmpIV z least = c := ⟨_, rfl⟩
                    obtain ⟨c2, hc2⟩ : ∃ c, cmpIV (ms.length : Int) (bl : Int) = c := ⟨_, rfl⟩
                    obtain ⟨c4, hc4⟩ : ∃ c, listN ms best = c := ⟨_, rfl⟩
                    obtain ⟨rr, hrr⟩ : ∃ r, orN [c1, c2, c4] = r := ⟨_, rfl⟩
                    have hN3 : Hid (planU pg bs o (k + 1) = if decide (rr < 0) = true then (ms, z, true) else (best, least, true)) := Lib.hid (by
                      rw [hN.out, Bool.true_and]; unfold lessP; simp only [hbl.out, ← cmpI_cmpN, hc1, hc2, hc4, hrr])
                    have hcb : Hid (∀ y ∈ [c1, c2, c4], -1 ≤ y ∧ y ≤ 1) := Lib.hid (fun y hy => by
                      simp only [List.mem_cons, List.not_mem_nil, or_false] at hy
                      rcases hy with rfl | rfl | rfl
                      · rw [← hc1, cmpI_cmpN]; exact cmpN_bound _ _
                      · rw [← hc2, cmpI_cmpN]; exact cmpN_bound _ _
                      · rw [← hc4]; exact listN_bound _ _)
                    rw [hc4] at HL
                    have hrr' := Lib.hid hrr
                    obtain ⟨m2, hm2⟩ : ∃ m2, ms.length = m2 := ⟨_, rfl⟩
                    rw [hm2] at hc2 HL hEl ⊢
                    have hm2' := Lib.hid hm2
                    have hc1' := Lib.hid hc1
                    have hc2' := Lib.hid hc2
                    clear hN hc1 hc2 hc4 hrr hm2
                    by_cases hneg : rr < 0
                    · have hneg' : decide (rr < 0) = true := by simpa using hneg
                      have hN2 : Hid (planU pg bs o (k + 1) = (ms, z, true)) := Lib.hid (by rw [hN3.out, if_pos hneg'])
                      clear hN3 hneg
                      go_wp2_with (first
                        | (go_at_call 86; refine (HS.out _).mono ?_; rintro e wS ⟨rfl, hwS⟩; replace hwS := hwS.symm; subst hwS)
                        | (go_at_call 111; refine (compare_anyV _ _ _).mono ?_; rintro e wS ⟨rfl, hwS⟩; replace hwS := hwS.symm; subst hwS; first | rw [hc1'.out] | rw [hc2'.out])
                        | (go_at_call 198; refine HL.out.mono ?_; rintro e w8 ⟨rfl, hb8⟩)
                        | (go_at_call 197; refine (or_any (some ⟨w8.heap.size, 0, none⟩) 3 3 [c1, c2, c4] _ rfl (by omega) (RI_blk [c1, c2, c4] (Blk.new w8 3 _)) hcb.out).mono ?_; rw [hrr'.out]; rintro e w9 ⟨rfl, hb9⟩))
                      have hba8 := hb8.alloc hb8.size (.cells #[.int .i64 c1, .int .i64 c2, .int .i64 c4] 3)
                      have hb79 := hba8.trans (hb9.mono hba8.size)
                      have hB9 := hB7.trans (hb79.mono (by have := hB7.size; omega))
                      have hO9 := (hO2.below hb79).more hb79.size
                      have hP9 := (hO7.below hb79).more hb79.size
                      go_roundw
                      case rel => exact ⟨k + 1, x + sz, ms, z, true, O2, m2, oc2, by omega, by go_num, Lib.hid (by rw [hx.out, Nat.succ_mul]), rfl, rfl, rfl, hO9, hm2', by omega, by omega, hN2, hB9⟩
                      case measure => simp [intOf]; omega
                    · have hneg' : decide (rr < 0) = false := by simpa using hneg
                      have hN2 : Hid (planU pg bs o (k + 1) = (best, least, true)) := Lib.hid (by rw [hN3.out, hneg']; rfl)
                      clear hN3 hneg
                      go_wp2_with (first
                        | (go_at_call 86; refine (HS.out _).mono ?_; rintro e wS ⟨rfl, hwS⟩; replace hwS := hwS.symm; subst hwS)
                        | (go_at_call 111; refine (compare_anyV _ _ _).mono ?_; rintro e wS ⟨rfl, hwS⟩; replace hwS := hwS.symm; subst hwS; first | rw [hc1'.out] | rw [hc2'.out])
                        | (go_at_call 198; refine HL.out.mono ?_; rintro e w8 ⟨rfl, hb8⟩)
                        | (go_at_call 197; refine (or_any (some ⟨w8.heap.size, 0, none⟩) 3 3 [c1, c2, c4] _ rfl (by omega) (RI_blk [c1, c2, c4] (Blk.new w8 3 _)) hcb.out).mono ?_; rw [hrr'.out]; rintro e w9 ⟨rfl, hb9⟩))
                      have hba8 := hb8.alloc hb8.size (.cells #[.int .i64 c1, .int .i64 c2, .int .i64 c4] 3)
                      have hb79 := hba8.trans (hb9.mono hba8.size)
                      have hB9 := hB7.trans (hb79.mono (by have := hB7.size; omega))
                      have hO9 := (hO2.below hb79).more hb79.size
                      have hP9 := (hO7.below hb79).more hb79.size
                      go_roundw
                      case rel => exact ⟨k + 1, x + sz, best, least, true, O, bl, oc, by omega, by go_num, Lib.hid (by rw [hx.out, Nat.succ_mul]), rfl, rfl, rfl, hP9, hbl, hbl64, hleast, hN2, hB9⟩
                      case measure => simp [intOf]; omega
    · obtain rfl : k = Q := by omega
      have hxp : x = pg := by rw [hx.out, ← hpq'.out]
      have hlt' : decide ((x : Int) < (pg : Int)) = false := by simp; omega
      have hlt2 : decide (x < pg) = false := by simp; omega
      have hRR : Hid (R = (best, least, is)) := Lib.hid (by rw [hfin.out, hU.out])
      clear hU hxp
      go_wp2_with fail
      (try simp only [Exit.inBlock, Exit.then]); refine bodyPost_ret (results_tmp3 rfl _ _ _) rfl ?_
      rw [hRR.out]
      exact ⟨O, oc, by simp only [hbl.out]; rfl, hO, hB⟩
end Go.Proofs.YtpabnbhbcphfiaaGreat
namespace Go.Pol
theorem tab_sizeV : Lib.len8tab.size = 256 := by decide +kernel
theorem tab_finV : ∀ i : Fin 256, ((Lib.len8tab[i.val]?).map UInt8.toNat).getD 0 = Lib.bitLen i.val := by decide +kernel
theorem tab_getV (i : Nat) (h : i < Lib.len8tab.size) : (Lib.len8tab[i]'h).toNat = Lib.bitLen i := by
  have h2 : i < 256 := by rw [← tab_sizeV]; exact h
  have := tab_finV ⟨i, h2⟩
  simpa [getElem?_pos Lib.len8tab i h] using this
theorem bitLen_pow : ∀ P : Nat, P ≤ 10 → Lib.bitLen (2 ^ P) = P + 1 := by decide +kernel
theorem spaceB_pow {pages : Int} (h : spaceB pages = true) : ∃ P : Nat, P ≤ 10 ∧ pages = ((2 ^ P : Nat) : Int) := by
  obtain ⟨o, h1, h2⟩ := spaceB_iff.1 h
  exact ⟨o, h1, by rw [h2, pw_nat]⟩
theorem pow_le_int {o P : Nat} : (((2 ^ o : Nat) : Int) ≤ ((2 ^ P : Nat) : Int)) ↔ o ≤ P := by
  rw [Int.ofNat_le]; exact Nat.pow_le_pow_iff_right (by decide)
end Go.Pol
namespace Go.Proofs.YtpabnbhbcphfiaaGreat
open Go Go.Proofs Go.RowKit Go.Pol Go.Shelf Go.Deep

set_option maxHeartbeats 4000000 in
set_option maxRecDepth 100000 in
theorem len64_anyV (x : Int) (w : World) (h0 : 0 ≤ x) (h1 : x ≤ 4000) :
    Calls Tryz.prog 182 #[.int .u64 x] w fun e w' => e = .returned (.int .i64 (Lib.bitLen x.toNat : Nat)) ∧ w = w' := by
  have q1 : decide (4294967296 ≤ x) = false := by simp; omega
  have q2 : decide (65536 ≤ x) = false := by simp; omega
  obtain ⟨L, hL⟩ : ∃ L : Int, ((Lib.bitLen x.toNat : Nat) : Int) = L := ⟨_, rfl⟩
  rw [hL]
  have hL' := Lib.hid hL
  clear hL
  by_cases hx : 256 ≤ x
  · have q3 : decide (256 ≤ x) = true := by simpa using hx
    have hsz : (x / 256).toNat < Lib.len8tab.size := by rw [tab_sizeV]; omega
    have hb := Lib.bitLen_le8' (x / 256) (by omega) (by omega)
    have hs := Lib.hid (Lib.bitLen_shift8 x.toNat (by omega) (by omega))
    have ht := Lib.hid (show (x / 256).toNat = x.toNat / 256 by omega)
    have hg := Lib.hid (tab_getV (x / 256).toNat hsz)
    go_enter Tryz.func182, Tryz.ntmps182
    go_wp2
    go_ret
    simp only [Array.getD, List.size_toArray, List.length_cons, List.length_nil]
    refine ⟨?_, by first | trivial | rfl⟩
    simp
    rw [hg.out, ← hL'.out, hs.out, ← ht.out]
    simp only [wrap64]
    omega
  · have q3 : decide (256 ≤ x) = false := by simpa using hx
    have hsz : x.toNat < Lib.len8tab.size := by rw [tab_sizeV]; omega
    have hb := Lib.bitLen_le8' x (by omega) (by omega)
    have hg := Lib.hid (tab_getV x.toNat hsz)
    go_enter Tryz.func182, Tryz.ntmps182
    go_wp2
    go_ret
    refine ⟨?_, by first | trivial | rfl⟩
    simp
    rw [hg.out, ← hL'.out]
    simp only [wrap64]
    omega

theorem len_anyV (x : Int) (w : World) (h0 : 0 ≤ x) (h1 : x ≤ 4000) :
    Calls Tryz.prog 124 #[.int .u64 x] w fun e w' => e = .returned (.int .i64 (Lib.bitLen x.toNat : Nat)) ∧ w = w' := by
  have HL := Lib.hid (fun W => len64_anyV x W h0 h1)
  generalize (Lib.bitLen x.toNat : Nat) = L at *
  go_enter Tryz.func124, Tryz.ntmps124
  go_wp2_with (go_at_call 182; refine (HL.out _).mono ?_; rintro e w' ⟨rfl, rfl⟩)
  go_ret
  exact ⟨rfl, rfl⟩


def PlanR (r : List (Int × Int) × Int) (w : World) (e : Ending) (w' : World) : Prop := ∃ (O : Option Addr) (oc : Nat), e = .returned (.tuple #[.slice O r.1.length oc, .int .i64 r.2]) ∧ RU w' w'.heap.size O r.1 ∧ Below w.heap.size w w'
theorem planR_err {w w' : World} {c : Int} (hb : Below w.heap.size w w') : PlanR ([], c) w (.returned (.tuple #[.slice none 0 0, .int .i64 c])) w' := ⟨none, 0, rfl, RU.nil, hb⟩
set_option maxRecDepth 100000 in
set_option maxHeartbeats 1600000 in
theorem Plan_any (pages : Int) (A : Option Addr) (n cap : Nat) (bs : List B3) (o : Int) (w : World) (hn : bs.length = n) (hm : n ≤ maxLen) (hr : RT w w.heap.size A bs) :
    Calls Tryz.prog 75 #[.int .i64 pages, .slice A n cap, .int .i64 o] w (PlanR (PlanF pages bs o) w) := by
  have HC := Lib.hid (check_any pages A n cap bs w hn hm hr)
  by_cases h1 : chkB pages bs = 0
  · have ok := chkB_ok h1
    obtain ⟨P, hP, hpg⟩ := spaceB_pow ok.space
    rw [h1] at HC
    have hE : Hid (PlanF pages bs o = if isOrd o = true ∧ pw o ≤ pages then if (planB pages.toNat bs o.toNat).2.2 = true then ((planB pages.toNat bs o.toNat).1, 0) else ([], 4) else ([], 2)) := Lib.hid (by unfold PlanF; rw [if_pos h1])
    have hn' := Lib.hid hn
    by_cases q1 : o < 0
    · have q1' : decide (o < 0) = true := by simpa using q1
      have hE2 : Hid (PlanF pages bs o = ([], 2)) := Lib.hid (by rw [hE.out, if_neg (fun h => by have := isOrd_iff.1 h.1; omega)])
      clear hE ok h1 hn hpg
      generalize PlanF pages bs o = R at *
      go_enter Tryz.func75, Tryz.ntmps75
      go_wp2_with fail
      refine HC.out.mono ?_
      rintro e w1 ⟨rfl, hb1⟩
      go_wp2_with fail
      go_ret2
      rw [hE2.out]
      exact planR_err hb1
    · have q1' : decide (o < 0) = false := by simpa using q1
      by_cases q2 : 10 < o
      · have q2' : decide (10 < o) = true := by simpa using q2
        have hE2 : Hid (PlanF pages bs o = ([], 2)) := Lib.hid (by rw [hE.out, if_neg (fun h => by have := isOrd_iff.1 h.1; omega)])
        clear hE ok h1 hn hpg
        generalize PlanF pages bs o = R at *
        go_enter Tryz.func75, Tryz.ntmps75
        go_wp2_with fail
        refine HC.out.mono ?_
        rintro e w1 ⟨rfl, hb1⟩
        go_wp2_with fail
        go_ret2
        rw [hE2.out]
        exact planR_err hb1
      · have q2' : decide (10 < o) = false := by simpa using q2
        have HS := Lib.hid (fun W => size_any o W ⟨by omega, by omega⟩)
        obtain ⟨od, rfl⟩ := Int.eq_ofNat_of_zero_le (show 0 ≤ o by omega)
        rw [pw_nat] at HS
        have hle : (((2 ^ od : Nat) : Int) ≤ pages) ↔ od ≤ P := by rw [hpg]; exact pow_le_int
        by_cases q3 : od ≤ P
        · have q3' : decide (pages < ((2 ^ od : Nat) : Int)) = false := decide_eq_false (by have := hle.2 q3; omega)
          have hio : isOrd (od : Int) = true := isOrd_iff.2 ⟨by omega, by omega⟩
          have hE2 : Hid (PlanF pages bs od = if (planB pages.toNat bs od).2.2 = true then ((planB pages.toNat bs od).1, 0) else ([], 4)) := Lib.hid (by
            rw [hE.out, if_pos ⟨hio, by rw [pw_nat]; exact hle.2 q3⟩]; rfl)
          obtain ⟨pg, hpgn⟩ : ∃ pg : Nat, pages = (pg : Int) := ⟨2 ^ P, hpg⟩
          subst hpgn
          rw [Int.toNat_natCast] at hE2
          obtain ⟨R2, hR2⟩ : ∃ R2, planB pg bs od = R2 := ⟨_, rfl⟩
          have HP := Lib.hid (fun W (hW : RT W W.heap.size A bs) => plan_anyV pg P A n cap bs od W hP (by exact_mod_cast hpg) q3 hn hW ok R2 hR2)
          rw [hR2] at hE2
          obtain ⟨ms, least, is⟩ := R2
          simp only at hE2 HP
          generalize ((2 ^ od : Nat) : Int) = sz at *
          generalize PlanF (pg : Int) bs od = R at *
          clear hE ok h1 hn hle hio hpg q3 q1 q2 hR2
          cases is with
          | true =>
            have hRR : Hid (R = (ms, 0)) := Lib.hid (by rw [hE2.out, if_pos rfl])
            clear hE2
            go_enter Tryz.func75, Tryz.ntmps75
            go_wp2_with (first
              | (go_at_call 135; refine HC.out.mono ?_; rintro e w1 ⟨rfl, hb1⟩)
              | (go_at_call 86; refine (HS.out _).mono ?_; rintro e wS ⟨rfl, hwS⟩; replace hwS := hwS.symm; subst hwS)
              | (go_at_call 136; refine (HP.out _ (hr.on hb1)).mono ?_; rintro e w2 ⟨O, oc, rfl, hO, hb2⟩))
            go_ret2
            rw [hRR.out]
            exact ⟨O, oc, rfl, hO, hb1.trans (hb2.mono hb1.size)⟩
          | false =>
            have hRR : Hid (R = ([], 4)) := Lib.hid (by rw [hE2.out, if_neg (by simp)])
            clear hE2
            go_enter Tryz.func75, Tryz.ntmps75
            go_wp2_with (first
              | (go_at_call 135; refine HC.out.mono ?_; rintro e w1 ⟨rfl, hb1⟩)
              | (go_at_call 86; refine (HS.out _).mono ?_; rintro e wS ⟨rfl, hwS⟩; replace hwS := hwS.symm; subst hwS)
              | (go_at_call 136; refine (HP.out _ (hr.on hb1)).mono ?_; rintro e w2 ⟨O, oc, rfl, hO, hb2⟩))
            go_ret2
            rw [hRR.out]
            exact planR_err (hb1.trans (hb2.mono hb1.size))
        · have q3' : decide (pages < ((2 ^ od : Nat) : Int)) = true := by
            by_cases h : ((2 ^ od : Nat) : Int) ≤ pages
            · exact absurd (hle.1 h) q3
            · simp only [decide_eq_true_eq]; omega
          have hE2 : Hid (PlanF pages bs od = ([], 2)) := Lib.hid (by
            rw [hE.out, if_neg (fun h => by have h2 := h.2; rw [pw_nat] at h2; exact q3 (hle.1 h2))])
          generalize ((2 ^ od : Nat) : Int) = sz at *
          generalize PlanF pages bs od = R at *
          clear hE ok h1 hn hle hpg q3 q1 q2
          go_enter Tryz.func75, Tryz.ntmps75
          go_wp2_with (first
            | (go_at_call 135; refine HC.out.mono ?_; rintro e w1 ⟨rfl, hb1⟩)
            | (go_at_call 86; refine (HS.out _).mono ?_; rintro e wS ⟨rfl, hwS⟩; replace hwS := hwS.symm; subst hwS))
          go_ret2
          rw [hE2.out]
          exact planR_err hb1
  · have hE : Hid (PlanF pages bs o = ([], chkB pages bs)) := Lib.hid (by unfold PlanF; rw [if_neg h1])
    have h1' : (chkB pages bs != 0) = true := by simpa using h1
    clear h1 hn
    generalize PlanF pages bs o = R at *
    generalize chkB pages bs = ck at *
    go_enter Tryz.func75, Tryz.ntmps75
    go_wp2_with fail
    refine HC.out.mono ?_
    rintro e w1 ⟨rfl, hb1⟩
    go_wp2_with fail
    go_ret2
    rw [hE.out]
    exact planR_err hb1
def LargeR (r : Int × Int × Int) (w : World) (e : Ending) (w' : World) : Prop := e = .returned (.tuple #[.int .i64 r.1, .int .i64 r.2.1, .int .i64 r.2.2]) ∧ Below w.heap.size w w'
set_option maxRecDepth 100000 in
set_option maxHeartbeats 1600000 in
theorem Largest_any (pages : Int) (A : Option Addr) (n cap : Nat) (bs : List B3) (w : World) (hn : bs.length = n) (hm : n ≤ maxLen) (hr : RT w w.heap.size A bs) :
    Calls Tryz.prog 79 #[.int .i64 pages, .slice A n cap] w (LargeR (LargeF pages bs) w) := by
  have HC := Lib.hid (check_any pages A n cap bs w hn hm hr)
  by_cases h1 : chkB pages bs = 0
  · have ok := chkB_ok h1
    obtain ⟨P, hP, hpg⟩ := spaceB_pow ok.space
    rw [h1] at HC
    obtain ⟨pg, hpgn⟩ : ∃ pg : Nat, pages = (pg : Int) := ⟨2 ^ P, hpg⟩
    subst hpgn
    have hpg2 : pg = 2 ^ P := by exact_mod_cast hpg
    have hpg1024 : pg ≤ 1024 := by rw [hpg2]; exact Nat.pow_le_pow_right (by decide) hP
    have hE : Hid (LargeF pg bs = largeL pg bs (P + 1)) := Lib.hid (by unfold LargeF; rw [if_pos h1, Int.toNat_natCast, hpg2, Nat.log2_two_pow])
    have HL := Lib.hid (fun W => len_anyV (pg : Int) W (by omega) (by omega))
    rw [Int.toNat_natCast, show Lib.bitLen pg = P + 1 by rw [hpg2]; exact bitLen_pow P hP] at HL
    have HP := Lib.hid (fun (o : Nat) (ho : o ≤ P) W (hW : RT W W.heap.size A bs) => plan_anyV pg P A n cap bs o W hP hpg2 ho hn hW ok _ rfl)
    have hstep := Lib.hid (fun o => show largeL pg bs (o + 1) = if (planB pg bs o).2.2 = true then ((o : Int), (planB pg bs o).2.1, 0) else largeL pg bs o from rfl)
    have hzero : Hid (largeL pg bs 0 = (0, 0, 4)) := Lib.hid rfl
    generalize LargeF (pg : Int) bs = R at *
    clear h1 ok hpg hpg2 hn
    go_enter Tryz.func79, Tryz.ntmps79
    go_wp2_with (first
      | (go_at_call 135; refine HC.out.mono ?_; rintro e w1 ⟨rfl, hb1⟩)
      | (go_at_call 124; refine (HL.out _).mono ?_; rintro e wS ⟨rfl, hwS⟩; subst hwS))
    go_loopw [8] (fun i wr => ∃ (j : Nat) (y : Int), j ≤ P + 1 ∧ i = .int .i64 y ∧ y = (j : Int) - 1 ∧ Hid (R = largeL pg bs j) ∧ Below w.heap.size w wr) (fun i _ => (intOf i + 1).toNat)
    case atStart => exact ⟨P + 1, (P : Int), by omega, rfl, by omega, hE, hb1⟩
    case round =>
      obtain ⟨j, y, hj, rfl, hy, hR, hB⟩ := hrel
      cases j with
      | zero =>
        have hy' : decide (0 ≤ y) = false := by simp; omega
        have hRR : Hid (R = (0, 0, 4)) := Lib.hid (by rw [hR.out, hzero.out])
        clear hR hy
        go_wp2_with fail
        (try simp only [Exit.inBlock, Exit.then]); refine bodyPost_ret (results_tmp3 rfl _ _ _) rfl ?_
        rw [hRR.out]
        exact ⟨rfl, hB⟩
      | succ j =>
        obtain rfl : y = (j : Int) := by omega
        have hy' : decide ((0 : Int) ≤ (j : Int)) = true := by simp
        have hPj := Lib.hid (HP.out j (by omega) wr ((hr.below hB).more hB.size))
        have hst := Lib.hid (show R = if (planB pg bs j).2.2 = true then ((j : Int), (planB pg bs j).2.1, 0) else largeL pg bs j from by rw [hR.out, hstep.out])
        generalize planB pg bs j = R2 at *
        obtain ⟨ms, least, is⟩ := R2
        simp only at hPj hst
        clear hR hy
        cases is with
        | true =>
          have hRR : Hid (R = ((j : Int), least, 0)) := Lib.hid (by rw [hst.out, if_pos rfl])
          clear hst
          go_wp2_with (go_at_call 136; refine hPj.out.mono ?_; rintro e w2 ⟨O, oc, rfl, hO, hb2⟩)
          (try simp only [Exit.inBlock, Exit.then]); refine bodyPost_ret (results_tmp3 rfl _ _ _) rfl ?_
          rw [hRR.out]
          exact ⟨rfl, hB.trans (hb2.mono hB.size)⟩
        | false =>
          have hRR : Hid (R = largeL pg bs j) := Lib.hid (by rw [hst.out, if_neg (by simp)])
          clear hst
          go_wp2_with (go_at_call 136; refine hPj.out.mono ?_; rintro e w2 ⟨O, oc, rfl, hO, hb2⟩)
          go_roundw
          case rel => exact ⟨j, (j : Int) - 1, by omega, rfl, rfl, hRR, hB.trans (hb2.mono hB.size)⟩
          case measure => simp [intOf]
  · have hE : Hid (LargeF pages bs = (0, 0, chkB pages bs)) := Lib.hid (by unfold LargeF; rw [if_neg h1])
    have h1' : (chkB pages bs != 0) = true := by simpa using h1
    clear h1 hn
    generalize LargeF pages bs = R at *
    generalize chkB pages bs = ck at *
    go_enter Tryz.func79, Tryz.ntmps79
    go_wp2_with fail
    refine HC.out.mono ?_
    rintro e w1 ⟨rfl, hb1⟩
    go_wp2_with fail
    (try simp only [Exit.inBlock, Exit.then]); refine bodyPost_ret (results_tmp3 rfl _ _ _) rfl ?_
    rw [hE.out]
    exact ⟨rfl, hb1⟩
end Go.Proofs.YtpabnbhbcphfiaaGreat
namespace Go.Proofs.YtpabnbhbcphfiaaGreat
open Go Go.Proofs Go.RowKit Go.Pol Go.Shelf Go.Deep

theorem RT_blk {w : World} {g : Nat} {t : TypeId} {cs : Array Value} (bs : List B3) (h : Blk w g t cs) (hc : cs.toList = tCells bs) : RT w w.heap.size (some ⟨g, 0, none⟩) bs := by
  intro k hk
  have h2 := tCells_at bs k hk
  rw [← hc] at h2
  simp only [Array.getElem?_toList] at h2
  refine ⟨g, 0, rfl, h.lt, ?_, ?_, ?_⟩
  · rw [Nat.zero_add, h.cell]; exact h2.1
  · rw [Nat.zero_add, h.cell]; exact h2.2.1
  · rw [Nat.zero_add, h.cell]; exact h2.2.2
theorem RU_blk {w : World} {g : Nat} {t : TypeId} {cs : Array Value} (us : List (Int × Int)) (h : Blk w g t cs) (hc : cs.toList = spCells us) : RU w w.heap.size (some ⟨g, 0, none⟩) us := by
  intro k hk
  have h2 := spCells_at us k hk
  rw [← hc] at h2
  simp only [Array.getElem?_toList] at h2
  refine ⟨g, 0, rfl, h.lt, ?_, ?_⟩
  · rw [Nat.zero_add, h.cell]; exact h2.1
  · rw [Nat.zero_add, h.cell]; exact h2.2
theorem sameMoves_any (A B : Option Addr) (n cap cap' : Nat) (xs : List (Int × Int)) (w : World) (hn : xs.length = n) (hm : n ≤ maxLen) (hr : RU w w.heap.size A xs) (hs : RU w w.heap.size B xs) :
    Calls Tryz.prog 80 #[.slice A n cap, .slice B n cap'] w fun e w' => e = .returned (.bool true) ∧ Below w.heap.size w w' :=
  (lawMoves_any A B n n cap cap' xs xs w hn hm hn hm hr hs).mono (by rintro e w' ⟨rfl, hb⟩; exact ⟨by simp, hb⟩)
theorem sameBlocks_any (A B : Option Addr) (n cap cap' : Nat) (xs : List B3) (w : World) (hn : xs.length = n) (hm : n ≤ maxLen) (hr : RT w w.heap.size A xs) (hs : RT w w.heap.size B xs) :
    Calls Tryz.prog 28 #[.slice A n cap, .slice B n cap'] w fun e w' => e = .returned (.bool true) ∧ Below w.heap.size w w' :=
  (lawBlocks_any A B n n cap cap' xs xs w hn hm hn hm hr hs).mono (by rintro e w' ⟨rfl, hb⟩; exact ⟨by simp, hb⟩)
abbrev exC (p : Bool) : Array Value := #[.int .i64 0, .int .i64 1, .bool p, .int .i64 4, .int .i64 0, .bool false, .int .i64 8, .int .i64 2, .bool false, .int .i64 13, .int .i64 0, .bool false]
theorem example_anyV (w : World) : Calls Tryz.prog 76 #[] w fun e w' => e = .returned (.slice (some ⟨w.heap.size, 0, none⟩) 4 4) ∧ Blk w' w.heap.size 65 (exC false) ∧ Below w.heap.size w w' := by
  have k0 := Blk.new w 65 (exC false)
  have hb0 := (Below.refl w.heap.size w).alloc (Nat.le_refl _) (.cells (exC false) 65)
  go_enter Tryz.func76, Tryz.ntmps76
  go_wp2_with fail
  go_ret
  exact ⟨rfl, k0, hb0⟩
set_option maxRecDepth 100000 in
set_option maxHeartbeats 3200000 in
theorem awake24_any (w : World) : Calls Tryz.prog 21 #[] w fun e w' => e = .returned (.bool true) ∧ Below w.heap.size w w' := by
  have hm4 := Lib.hid (show (4 : Nat) ≤ maxLen by unfold maxLen; omega)
  have hm2 := Lib.hid (show (2 : Nat) ≤ maxLen by unfold maxLen; omega)
  obtain ⟨s, hs⟩ : ∃ s, w.heap.size = s := ⟨_, rfl⟩
  have hs' := Lib.hid hs
  have B0 : Hid (Below s w w ∧ s ≤ w.heap.size) := Lib.hid ⟨Below.refl _ _, by omega⟩
  clear hs
  go_enter Tryz.func21, Tryz.ntmps21
  go_upto_region 2 with (first
    | (go_at_call 76; refine (example_anyV _).mono ?_; rintro e w1 ⟨rfl, k1, hb1⟩; have r1 := RT_blk exB k1 rfl)
    | (go_at_call 75; refine (Plan_any _ _ _ _ exB _ _ rfl hm4.out r1).mono ?_; rw [ex_two]; rintro e w2 ⟨O2, oc2, rfl, hO2, hb2⟩))
  have b1 := hb1.trans (hb2.mono hb1.size)
  clear r1 k1 hb1 hb2
  go_upto_region 3 with (first
    | (go_at_call 76; refine (example_anyV _).mono ?_; rintro e w3 ⟨rfl, k3, hb3⟩; have r3 := RT_blk exB k3 rfl)
    | (go_at_call 75; refine (Plan_any _ _ _ _ exB _ _ rfl hm4.out r3).mono ?_; rw [ex_three]; rintro e w4 ⟨O4, oc4, rfl, hO4, hb4⟩))
  have b34 := hb3.trans (hb4.mono hb3.size)
  have b2 := b1.trans (b34.mono b1.size)
  have hO2a := (hO2.below b34).more b34.size
  clear r3 k3 hb3 hb4 b1 hO2 b34
  go_upto_region 4 with (first
    | (go_at_call 76; refine (example_anyV _).mono ?_; rintro e w5 ⟨rfl, k5, hb5⟩; have r5 := RT_blk exB k5 rfl)
    | (go_at_call 77; refine (after_any _ _ _ _ _ _ _ exB [(0, 14), (1, 12)] _ rfl hm4.out (fun h => by cases h) r5 rfl hm2.out ((hO4.below hb5).more hb5.size)).mono ?_; rw [ex_after]; rintro e w6 ⟨O6, oc6, rfl, hO6, hb6⟩))
  have b56 := hb5.trans (hb6.mono hb5.size)
  have b3 := b2.trans (b56.mono b2.size)
  have hO2b := (hO2a.below b56).more b56.size
  have hO4b := (hO4.below b56).more b56.size
  clear r5 k5 hb5 hb6 b2 hO2a hO4 b56
  go_upto_region 5 with (first
    | (go_at_call 76; refine (example_anyV _).mono ?_; rintro e w7 ⟨rfl, k7, hb7⟩; have r7 := RT_blk exB k7 rfl)
    | (go_at_call 78; refine (cost_any _ _ _ _ _ _ exB [(0, 14), (1, 12)] _ rfl hm4.out r7 rfl hm2.out ((hO4b.below hb7).more hb7.size)).mono ?_; rw [ex_cost]; rintro e w8 ⟨rfl, hb8⟩))
  have b78 := hb7.trans (hb8.mono hb7.size)
  have b4 := b3.trans (b78.mono b3.size)
  have hO2c := (hO2b.below b78).more b78.size
  have hO4c := (hO4b.below b78).more b78.size
  have hO6c := (hO6.below b78).more b78.size
  clear r7 k7 hb7 hb8 b3 hO2b hO4b hO6 b78
  go_upto_region 6 with (go_at_call 76; refine (example_anyV _).mono ?_; rintro e w9 ⟨rfl, k9, hb9⟩)
  have c9 := k9.cell
  have f9 := k9.frozen
  have hbX := hb9.setCell (p := ⟨w8.heap.size, 2, none⟩) (Nat.le_refl _) (.bool true)
  have kX : Blk (w9.setCell ⟨w8.heap.size, 2, none⟩ (.bool true)) w8.heap.size 65 (exC true) := k9.set_ 2 (.bool true)
  go_upto_region 7 with fail
  clear k9 hb9 c9 f9
  generalize w9.setCell ⟨w8.heap.size, 2, none⟩ (.bool true) = wX at *
  have rX := RT_blk exP kX rfl
  have b5 := b4.trans (hbX.mono b4.size)
  have hO2d := (hO2c.below hbX).more hbX.size
  have hO4d := (hO4c.below hbX).more hbX.size
  have hO6d := (hO6c.below hbX).more hbX.size
  clear b4 hO2c hO4c hO6c hbX kX
  go_upto_region 8 with (go_at_call 75; refine (Plan_any _ _ _ _ exP _ _ rfl hm4.out rX).mono ?_; rw [ex_pinned]; rintro e w10 ⟨O10, oc10, rfl, hO10, hb10⟩)
  have r10 := (rX.below hb10).more hb10.size
  go_upto_region 9 with (go_at_call 79; refine (Largest_any _ _ _ _ exP _ rfl hm4.out r10).mono ?_; rw [ex_largest]; rintro e w11 ⟨rfl, hb11⟩)
  have b11 := hb10.trans (hb11.mono hb10.size)
  have b6 := b5.trans (b11.mono b5.size)
  have hO2e := (hO2d.below b11).more b11.size
  have hO4e := (hO4d.below b11).more b11.size
  have hO6e := (hO6d.below b11).more b11.size
  clear b5 b11 hb10 hb11 r10 rX hO2d hO4d hO6d hO10
  go_upto_region 11 with fail
  have hm1 := Lib.hid (show (1 : Nat) ≤ maxLen by unfold maxLen; omega)
  have hA := (Below.refl w11.heap.size w11).alloc (Nat.le_refl _) (.cells #[.int .i64 1, .int .i64 2] 152)
  have hO2f := (hO2e.below hA).more hA.size
  have kA := RU_blk [(1, 2)] (Blk.new w11 152 #[.int .i64 1, .int .i64 2]) rfl
  go_wp2_with (first
    | (go_at_call 80; have hq := hO4f; refine (sameMoves_any _ _ _ _ _ [(0, 14), (1, 12)] _ rfl hm2.out hO4f kB).mono ?_; rintro e w13 ⟨rfl, hb13⟩; have b13 := hA12.trans (hb13.mono hA12.size); have hA13 := b13.alloc b13.size (.cells #[.int .i64 14, .int .i64 1, .bool false, .int .i64 12, .int .i64 0, .bool false, .int .i64 8, .int .i64 2, .bool false, .int .i64 13, .int .i64 0, .bool false] 65); have hO6f := (hO6e.below hA13).more hA13.size; have kC := RT_blk [(14, 1, false), (12, 0, false), (8, 2, false), (13, 0, false)] (Blk.new w13 65 #[.int .i64 14, .int .i64 1, .bool false, .int .i64 12, .int .i64 0, .bool false, .int .i64 8, .int .i64 2, .bool false, .int .i64 13, .int .i64 0, .bool false]) rfl)
    | (go_at_call 80; refine (sameMoves_any _ _ _ _ _ [(1, 2)] _ rfl hm1.out hO2f kA).mono ?_; rintro e w12 ⟨rfl, hb12⟩; have b12 := hA.trans (hb12.mono hA.size); have hA12 := b12.alloc b12.size (.cells #[.int .i64 0, .int .i64 14, .int .i64 1, .int .i64 12] 152); have hO4f := (hO4e.below hA12).more hA12.size; have kB := RU_blk [(0, 14), (1, 12)] (Blk.new w12 152 #[.int .i64 0, .int .i64 14, .int .i64 1, .int .i64 12]) rfl)
    | (go_at_call 28; refine (sameBlocks_any _ _ _ _ _ [(14, 1, false), (12, 0, false), (8, 2, false), (13, 0, false)] _ rfl hm4.out hO6f kC).mono ?_; rintro e w14 ⟨rfl, hb14⟩; have b14 := hA13.trans (hb14.mono hA13.size)))
  go_ret
  exact ⟨rfl, b6.trans (b14.mono b6.size)⟩
end Go.Proofs.YtpabnbhbcphfiaaGreat
namespace Go.Pol
open Go Go.RowKit Go.ChangeShapes Go.WideShapes Go.Deep
section
variable {H : Type} {enc : TypeId × Value → H} {P : Program}
/-- The row's last step where the call turned nothing that lay there. -/
theorem post_of_below {f : Func} {s : ChangeSpec} {apart fresh handsOn again : Bool} {W W' : World} {args : Array Value} {v : Value} {ds gs : List (DataW H)} {before pa pv : List MemPlace}
    (hW : DataW.Whole enc P f.params.toList s.vars apart W args.toList ds gs before)
    (hres : ∀ (b : Nat) (sp : Nat → Bool) (hd : Bool), DataW.TrodAll enc P W' b sp hd f.resultTypes.toList (v.resultList f.resultTypes.size) (s.fn H (ds ++ gs)).results [])
    (hargs : ∀ sp : Nat → Bool, (∀ p ∈ before, sp p.block = true) → DataW.TrodAll enc P W' 0 sp true f.params.toList args.toList (s.fn H (ds ++ gs)).args pa)
    (hvars : ∀ sp : Nat → Bool, (∀ p ∈ before, sp p.block = true) → DataW.TrodVars enc P W' sp s.vars (s.fn H (ds ++ gs)).vars pv)
    (hps : before = pa ++ pv) (hb : Below W.heap.size W W')
    (hok : ∀ (j : Nat) (t : TypeId) (r : Value), f.resultTypes[j]? = some t → (v.resultList f.resultTypes.size)[j]? = some r → Value.okWide P W' .any 0 t r) :
    s.post enc P f apart fresh handsOn again W args v W' := by
  have hlt : ∀ p ∈ before, p.block < W.heap.size := fun p hp => hW.lt p hp
  have hold : ∀ p ∈ before, (fun b => decide (b < W.heap.size)) p.block = true := fun p hp => by simpa using hlt p hp
  refine ⟨ds, gs, before, [], pa, pv, hW, hres _ _ _, hargs _ hold, hvars _ hold, World.keptBut_mono (fun p hp => ⟨hp, ?_⟩) (hb.frame (· ∈ before)), fun _ => ?_⟩
  · rw [hps, List.mem_append] at hp
    exact Or.inr hp
  · obtain ⟨_, _, _, _, _, hz, hn⟩ := hW
    refine ⟨hok, _, _, ([] ++ pa) ++ pv, ⟨[] ++ pa, pv, trodAll_append (hargs _ (fun _ _ => rfl)) (hres _ _ _), hvars _ (fun _ _ => rfl), rfl, ?_, ?_⟩, ?_⟩
    · intro b off hp
      have hin : MemPlace.cell b off ∈ before := by rw [hps]; simpa using hp
      rw [hb.frozen (hlt _ hin)]
      exact hz b off hin
    · intro ha
      have := hn ha
      rw [hps] at this
      simpa using this
    · intro p hp _
      rw [hps]
      simpa using hp
end
section
variable {H : Type} {enc : TypeId × Value → H} {P : Program} {w : World} {base : Nat} {spare : Nat → Bool} {held : Bool}
theorem open_slice_fields {t e : TypeId} {fs : Array Field} {fuel : Nat} {cs : List Value} {x : DataW H × List MemPlace} (ht : P.underlying t = some (.slice e)) (he : P.underlying e = some (.struct fs))
    (hone : oneCellFields P fs = true) (hC : P.cellsOf e = fs.size) (h : DataW.trod enc P w base spare held fuel t cs = some x) :
    (cs = [.slice none 0 0] ∧ x = (.nil, [])) ∨
    ∃ (a : Addr) (len cap m : Nat) (D : Nat → DataW H) (Pl : Nat → List MemPlace), cs = [.slice (some a) len cap] ∧ base ≤ a.block ∧ len ≤ cap ∧ cap ≤ maxLen ∧ m = (if spare a.block then cap else len) ∧
      x = (.slice ((List.range len).map D) ((List.range (m - len)).map fun j => D (len + j)), MemPlace.row a (m * fs.size) ++ (List.range m).flatMap Pl) ∧
      ∀ i, i < m → ∃ (ys : List (DataW H × List MemPlace)) (n : Nat), D i = .agg (ys.map (·.1)) ∧ Pl i = ys.flatMap (·.2) ∧ ys.length = fs.size ∧
        ∀ (j : Nat) (f : Field), fs[j]? = some f → ∃ (v : Value) (y : DataW H × List MemPlace), w.cell? (a.add (i * fs.size + j)) = some v ∧ ys[j]? = some y ∧ DataW.trod enc P w base spare held n f.type [v] = some y := by
  rcases open_slice ht h with h0 | ⟨a, len, cap, m, n, D, Pl, hcs, hb, hl, hm, hmm, hx, hi⟩
  · exact .inl h0
  · refine .inr ⟨a, len, cap, m, D, Pl, hcs, hb, hl, hm, hmm, by rw [hC] at hx; exact hx, fun i him => ?_⟩
    obtain ⟨cs', hc, ht'⟩ := hi i him
    rw [hC] at hc
    obtain ⟨ys, n', hn', hy, hlen, hyl, hf⟩ := DataW.trod_struct he ht'
    obtain ⟨_, hcl, hat⟩ := World.cells?_some hc
    simp only [Prod.mk.injEq] at hy
    refine ⟨ys, n', hy.1, hy.2, hyl, fun j f hj => ?_⟩
    obtain ⟨ho, hk⟩ := hone_of hone j f hj
    have hjl : j < fs.size := (Array.getElem?_eq_some_iff.1 hj).1
    have hcell := hat j hjl
    have hv : cs'[j]? = some (cs'[j]'(by omega)) := List.getElem?_eq_getElem (by omega)
    have h1 := hf j f hj
    rw [ho, hk] at h1
    have hone' : (cs'.drop j).take 1 = [cs'[j]'(by omega)] := by
      rw [List.drop_eq_getElem_cons (by omega)]
      rfl
    rw [hone'] at h1
    have hys : ys[j]? = some (ys[j]'(by omega)) := List.getElem?_eq_getElem (by omega)
    refine ⟨_, _, ?_, hys, h1.trans hys⟩
    rw [← Go.Deep.add_add, hcell, hv]
/-- A slice of pairs of integers that came in reads as a list. -/
theorem openU {t e : TypeId} {f0 f1 : Field} {fuel : Nat} {v : Value} {x : DataW H × List MemPlace} (ht : P.underlying t = some (.slice e)) (he : P.underlying e = some (.struct #[f0, f1])) (hone : oneCellFields P #[f0, f1] = true) (hC : P.cellsOf e = 2)
    (h0 : P.underlying f0.type = some (.int .i64)) (h1 : P.underlying f1.type = some (.int .i64))
    (h : DataW.trod enc P w base (fun _ => true) held fuel t [v] = some x) : ∃ (A : Option Addr) (n cap : Nat) (us : List (Int × Int)), v = .slice A n cap ∧ us.length = n ∧ n ≤ maxLen ∧ RU w w.heap.size A us := by
  rcases open_slice_fields ht he hone hC h with ⟨hcs, _⟩ | ⟨a, len, cap, m, D, Pl, hcs, _, hl, hm, hmm, _, hi⟩
  · simp only [List.cons.injEq, and_true] at hcs
    exact ⟨none, 0, 0, [], hcs, rfl, by unfold maxLen; omega, RU.nil⟩
  · simp only [List.cons.injEq, and_true] at hcs
    simp only [if_true] at hmm
    have each : ∀ i, i < len → ∃ p q : Int, w.cell? (a.add (i * 2)) = some (.int .i64 p) ∧ w.cell? (a.add (i * 2 + 1)) = some (.int .i64 q) := by
      intro i hil
      obtain ⟨ys, n, _, _, _, hf⟩ := hi i (by omega)
      obtain ⟨v0, y0, c0, _, t0⟩ := hf 0 f0 rfl
      obtain ⟨v1, y1, c1, _, t1⟩ := hf 1 f1 rfl
      obtain ⟨p, e0, _⟩ := DataW.trod_int h0 t0
      obtain ⟨q, e1, _⟩ := DataW.trod_int h1 t1
      simp only [List.cons.injEq, and_true] at e0 e1
      subst e0; subst e1
      exact ⟨p, q, c0, c1⟩
    obtain ⟨f, hf⟩ := Classical.axiomOfChoice (r := fun (i : Nat) (pq : Int × Int) => i < len → w.cell? (a.add (i * 2)) = some (.int .i64 pq.1) ∧ w.cell? (a.add (i * 2 + 1)) = some (.int .i64 pq.2)) (fun i => by
      by_cases hil : i < len
      · obtain ⟨p, q, c0, c1⟩ := each i hil
        exact ⟨(p, q), fun _ => ⟨c0, c1⟩⟩
      · exact ⟨(0, 0), fun h => absurd h hil⟩)
    refine ⟨some a, len, cap, (List.range len).map f, hcs, by simp, by omega, ?_⟩
    intro k hk
    have hk' : k < len := by simpa using hk
    obtain ⟨c0, c1⟩ := hf k hk'
    obtain ⟨b, off, spot⟩ := a
    have hspot : spot = none := by
      obtain ⟨c0', _⟩ := hf 0 (by omega)
      simpa [Addr.add] using World.cell?_spot c0'
    subst hspot
    rw [add_plain] at c0 c1
    have e : ((List.range len).map f).getD k (0, 0) = f k := by simp [List.getD_eq_getElem?_getD, hk']
    refine ⟨b, off, rfl, World.block_lt_of_cell? _ _ c0, ?_, ?_⟩
    · rw [e]; exact c0
    · rw [e, Nat.add_assoc]; exact c1
end
end Go.Pol
namespace Go.Pol
open Go Go.RowKit Go.ChangeShapes Go.WideShapes Go.Deep
section
variable {H : Type} {enc : TypeId × Value → H} {P : Program} {w : World} {base : Nat} {held : Bool}
/-- A slice of triples (two integers, a Boolean) that came in reads as a list. -/
theorem openT {t e : TypeId} {f0 f1 f2 : Field} {fuel : Nat} {v : Value} {x : DataW H × List MemPlace} (ht : P.underlying t = some (.slice e)) (he : P.underlying e = some (.struct #[f0, f1, f2])) (hone : oneCellFields P #[f0, f1, f2] = true) (hC : P.cellsOf e = 3)
    (h0 : P.underlying f0.type = some (.int .i64)) (h1 : P.underlying f1.type = some (.int .i64)) (h2 : P.underlying f2.type = some .bool)
    (h : DataW.trod enc P w base (fun _ => true) held fuel t [v] = some x) : ∃ (A : Option Addr) (n cap : Nat) (us : List B3), v = .slice A n cap ∧ us.length = n ∧ n ≤ maxLen ∧ RT w w.heap.size A us := by
  rcases open_slice_fields ht he hone hC h with ⟨hcs, _⟩ | ⟨a, len, cap, m, D, Pl, hcs, _, hl, hm, hmm, _, hi⟩
  · simp only [List.cons.injEq, and_true] at hcs
    exact ⟨none, 0, 0, [], hcs, rfl, by unfold maxLen; omega, RT.nil⟩
  · simp only [List.cons.injEq, and_true] at hcs
    simp only [if_true] at hmm
    have each : ∀ i, i < len → ∃ (p q : Int) (s : Bool), w.cell? (a.add (i * 3)) = some (.int .i64 p) ∧ w.cell? (a.add (i * 3 + 1)) = some (.int .i64 q) ∧ w.cell? (a.add (i * 3 + 2)) = some (.bool s) := by
      intro i hil
      obtain ⟨ys, n, _, _, _, hf⟩ := hi i (by omega)
      obtain ⟨v0, y0, c0, _, t0⟩ := hf 0 f0 rfl
      obtain ⟨v1, y1, c1, _, t1⟩ := hf 1 f1 rfl
      obtain ⟨v2, y2, c2, _, t2⟩ := hf 2 f2 rfl
      obtain ⟨p, e0, _⟩ := DataW.trod_int h0 t0
      obtain ⟨q, e1, _⟩ := DataW.trod_int h1 t1
      obtain ⟨s, e2, _⟩ := DataW.trod_bool h2 t2
      simp only [List.cons.injEq, and_true] at e0 e1 e2
      subst e0; subst e1; subst e2
      exact ⟨p, q, s, c0, c1, c2⟩
    obtain ⟨f, hf⟩ := Classical.axiomOfChoice (r := fun (i : Nat) (pq : B3) => i < len → w.cell? (a.add (i * 3)) = some (.int .i64 pq.1) ∧ w.cell? (a.add (i * 3 + 1)) = some (.int .i64 pq.2.1) ∧ w.cell? (a.add (i * 3 + 2)) = some (.bool pq.2.2)) (fun i => by
      by_cases hil : i < len
      · obtain ⟨p, q, s, c0, c1, c2⟩ := each i hil
        exact ⟨(p, q, s), fun _ => ⟨c0, c1, c2⟩⟩
      · exact ⟨(0, 0, false), fun h => absurd h hil⟩)
    refine ⟨some a, len, cap, (List.range len).map f, hcs, by simp, by omega, ?_⟩
    intro k hk
    have hk' : k < len := by simpa using hk
    obtain ⟨c0, c1, c2⟩ := hf k hk'
    obtain ⟨b, off, spot⟩ := a
    have hspot : spot = none := by
      obtain ⟨c0', _⟩ := hf 0 (by omega)
      simpa [Addr.add] using World.cell?_spot c0'
    subst hspot
    rw [add_plain] at c0 c1 c2
    have e : ((List.range len).map f).getD k b0 = f k := by simp [List.getD_eq_getElem?_getD, hk']
    refine ⟨b, off, rfl, World.block_lt_of_cell? _ _ c0, ?_, ?_, ?_⟩
    · rw [e]; exact c0
    · rw [e, Nat.add_assoc]; exact c1
    · rw [e, Nat.add_assoc]; exact c2
end
end Go.Pol
namespace Go.Proofs.YtpabnbhbcphfiaaGreat
open Go Go.Proofs Go.RowKit Go.Pol Go.ChangeShapes Go.WideShapes Go.Deep

theorem own_ : ownKnob Tryz.prog.godebug = none := by kernel_rfl
theorem laidOut_ : laidOutB Tryz.prog = true := by kernel_rfl
theorem mvStruct : ∃ f0 f1 : Field, Tryz.prog.underlying 152 = some (.struct #[f0, f1]) ∧ oneCellFields Tryz.prog #[f0, f1] = true ∧ f0.type = 3 ∧ f1.type = 3 := ⟨_, _, Tryz.underlying152, by kernel_rfl, rfl, rfl⟩
theorem blStruct : ∃ f0 f1 f2 : Field, Tryz.prog.underlying 65 = some (.struct #[f0, f1, f2]) ∧ oneCellFields Tryz.prog #[f0, f1, f2] = true ∧ f0.type = 3 ∧ f1.type = 3 ∧ f2.type = 4 := ⟨_, _, _, Tryz.underlying65, by kernel_rfl, rfl, rfl, rfl⟩
end Go.Proofs.YtpabnbhbcphfiaaGreat
namespace Go.Pol
open Go Go.RowKit
/-- the cells of a list of elements -/
def fl {α : Type} (enc : α → List Value) (us : List α) : List Value := us.flatMap enc
section
variable {α : Type} {enc : α → List Value} {sz : Nat}
theorem fl_cons (x : α) (r : List α) : fl enc (x :: r) = enc x ++ fl enc r := by simp [fl]
theorem fl_append (a b : List α) : fl enc (a ++ b) = fl enc a ++ fl enc b := by simp [fl]
theorem fl_len (h : ∀ x, (enc x).length = sz) : ∀ us : List α, (fl enc us).length = us.length * sz
  | [] => by simp [fl]
  | x :: r => by rw [fl_cons, List.length_append, h x, fl_len h r, List.length_cons, Nat.succ_mul, Nat.add_comm]
theorem fl_at (h : ∀ x, (enc x).length = sz) (d : α) : ∀ (us : List α) (k : Nat), k < us.length → ∀ j, j < sz → (fl enc us)[k * sz + j]? = (enc (us.getD k d))[j]?
  | [], k, hk, _, _ => by simp at hk
  | x :: r, 0, _, j, hj => by
    rw [fl_cons, Nat.zero_mul, Nat.zero_add, List.getElem?_append_left (by rw [h x]; exact hj)]
    rfl
  | x :: r, k + 1, hk, j, hj => by
    have ih := fl_at h d r k (by simpa using hk) j hj
    rw [fl_cons, List.getElem?_append_right (by rw [h x, Nat.succ_mul]; omega), h x, show (k + 1) * sz + j - sz = k * sz + j by rw [Nat.succ_mul]; omega, ih]
    rfl
end
section
variable {w w' : World} {B : Nat} {A : Option Addr} {xs : List Value}
theorem Rd.on_ (h : Rd w w.heap.size A xs) (hb : Below w.heap.size w w') : Rd w' w'.heap.size A xs := (h.below hb).more hb.size
/-- the cells of one element -/
theorem Rd.elem {α : Type} {enc : α → List Value} {sz : Nat} {us : List α} (hr : Rd w B A (fl enc us)) (h : ∀ x, (enc x).length = sz) (h0 : 0 < sz) (d : α) {k : Nat} (hk : k < us.length) :
    ∃ b o, A = some ⟨b, o, none⟩ ∧ b < B ∧ ∀ (j : Nat) (v : Value), (enc (us.getD k d))[j]? = some v → w.cell? ⟨b, o + k * sz + j, none⟩ = some v := by
  have hl := fl_len h us
  have hkz : k * sz + sz ≤ us.length * sz := by rw [← Nat.succ_mul]; exact Nat.mul_le_mul_right sz hk
  obtain ⟨b, o, e, hb, _⟩ := hr (k * sz) (by omega)
  refine ⟨b, o, e, hb, fun j v hj => ?_⟩
  have hjz : j < sz := by rw [← h (us.getD k d)]; exact (List.getElem?_eq_some_iff.1 hj).1
  obtain ⟨b', o', e', _, hc⟩ := hr (k * sz + j) (by omega)
  rw [e] at e'; cases e'
  rw [Nat.add_assoc, hc]
  have := fl_at h d us k hk j hjz
  rw [hj, List.getElem?_eq_getElem (by omega)] at this
  exact this
theorem Rd.src (h : Rd w w.heap.size A xs) (ad : Addr) (hA : A = some ad) : ∀ (j : Nat) (u : Value), xs[j]? = some u → w.cell? (ad.add j) = some u := fun j u hj => by
  obtain ⟨hlt, e⟩ := List.getElem?_eq_some_iff.1 hj
  obtain ⟨b, o, e', _, hc⟩ := h j hlt
  rw [hA] at e'; cases e'
  rw [addr_add0, hc, e]
/-- what a call of the own made reads as a list -/
theorem own_Rd {base n sz : Nat} {e : TypeId} {v : Value} (h : w.ownsRow base e sz v n xs) : ∃ (A : Option Addr) (cap : Nat), v = .slice A n cap ∧ Rd w w.heap.size A xs ∧ n ≤ cap ∧ cap ≤ maxLen ∧ (∀ b o, A = some ⟨b, o, none⟩ → base ≤ b) ∧ (A = none → cap = 0) := by
  have hv := h
  rcases h.2 with ⟨rfl, h0⟩ | ⟨g, cap, cur, rfl, hg, hk, hnc, hcm, _⟩
  · subst h0
    have : xs = [] := List.eq_nil_of_length_eq_zero (by rw [h.1]; simp)
    subst this
    exact ⟨none, 0, rfl, fun k hk => absurd hk (by simp), Nat.le_refl _, by unfold maxLen; omega, fun b o e => (by cases e), fun _ => rfl⟩
  · refine ⟨_, cap, rfl, fun k hk' => ?_, hnc, hcm, fun b o e => by cases e; exact hg, fun e => by cases e⟩
    have c0 := hv.cellAt k (by rw [← h.1]; exact hk')
    refine ⟨g, 0, rfl, Blk.lt hk, ?_⟩
    rw [Nat.zero_add, c0, List.getElem?_eq_getElem hk']
/-- the same, with the type of the block -/
theorem own_Rdt {base n sz : Nat} {e : TypeId} {v : Value} (h : w.ownsRow base e sz v n xs) : ∃ (A : Option Addr) (cap : Nat), v = .slice A n cap ∧ Rd w w.heap.size A xs ∧ n ≤ cap ∧ cap ≤ maxLen ∧ (∀ b o, A = some ⟨b, o, none⟩ → base ≤ b) ∧ (A = none → cap = 0) ∧ ∀ b o, A = some ⟨b, o, none⟩ → ∃ cs, Blk w b e cs := by
  obtain ⟨A, cap, h1, h2, h3, h4, h5, h6⟩ := own_Rd h
  refine ⟨A, cap, h1, h2, h3, h4, h5, h6, fun b o hA => ?_⟩
  rcases h.2 with ⟨hv, _⟩ | ⟨g, cap', cur, hv, _, hk, _⟩
  · rw [h1, hA] at hv; cases hv
  · rw [h1, hA] at hv; cases hv; exact ⟨cur, hk⟩
/-- a row of one type is no block of another -/
theorem own_other {base n sz g : Nat} {e t : TypeId} {v : Value} {cs : Array Value} (h : w.ownsRow base e sz v n xs) (hv : v.ownBlock = some g) (hc : Blk w g t cs) (hne : e ≠ t) : False := by
  rcases h.2 with ⟨rfl, _⟩ | ⟨g', cap', cur, rfl, _, hk, _⟩
  · cases hv
  · have e' : g' = g := by injection hv
    subst e'
    exact Blk.ne_ (g := g') hk hc hne rfl
end
theorem z_there {w : World} {g : Nat} {t : TypeId} {cs : Array Value} (h : Blk w g t cs) (o n : Nat) (hn : o + n ≤ cs.size) : w.there g o n := fun j hj => by
  exact ⟨by rw [h.cell]; simp; omega, h.frozen _⟩
/-- cells of a block from a place on -/
def putA (cs : Array Value) : Nat → List Value → Array Value
  | _, [] => cs
  | o, v :: vs => putA (cs.setIfInBounds o v) (o + 1) vs
theorem putA_size (cs : Array Value) : ∀ (o : Nat) (vs : List Value), (putA cs o vs).size = cs.size
  | _, [] => rfl
  | o, v :: vs => by rw [putA, putA_size (cs.setIfInBounds o v) (o + 1) vs]; simp
theorem putA_get : ∀ (vs : List Value) (cs : Array Value) (o : Nat), o + vs.length ≤ cs.size → ∀ i, (putA cs o vs)[i]? = if o ≤ i ∧ i < o + vs.length then vs[i - o]? else cs[i]?
  | [], cs, o, _, i => by rw [putA, if_neg (by simp only [List.length_nil]; omega)]
  | v :: vs, cs, o, h, i => by
    rw [List.length_cons] at h
    rw [putA, putA_get vs _ _ (by simp; omega) i]
    by_cases h1 : i = o
    · subst h1
      rw [if_neg (by omega), if_pos (by simp), Nat.sub_self, Array.getElem?_setIfInBounds_self_of_lt (by omega)]; rfl
    · by_cases h2 : o + 1 ≤ i ∧ i < o + 1 + vs.length
      · rw [if_pos h2, if_pos (by simp; omega), show i - o = (i - (o + 1)) + 1 by omega, List.getElem?_cons_succ]
      · rw [if_neg h2, if_neg (by simp; omega), Array.getElem?_setIfInBounds, if_neg (by omega)]
theorem Blk.puts {w : World} {g : Nat} {t : TypeId} {cs : Array Value} : ∀ (vs : List Value) (o : Nat) (w : World) (cs : Array Value), Blk w g t cs → Blk (w.setCells g o vs) g t (putA cs o vs)
  | [], _, _, _, h => h
  | v :: vs, o, _, _, h => Blk.puts (cs := cs) (w := w) vs (o + 1) _ _ (h.set_ o v)
theorem putA_all {cs : Array Value} {vs : List Value} (h : cs.size = vs.length) : putA cs 0 vs = vs.toArray := by
  apply Array.ext_getElem?
  intro i
  rw [putA_get vs cs 0 (by omega) i]
  by_cases hi : i < vs.length
  · rw [if_pos (by omega)]; simp
  · rw [if_neg (by omega), Array.getElem?_eq_none (by omega), Array.getElem?_eq_none (by simpa using hi)]
theorem Far.puts {T : Nat → Prop} {g : Nat} (hT : T g) : ∀ (vs : List Value) (o : Nat) (A B : World), Far T A B → Far T A (B.setCells g o vs)
  | [], _, _, _, h => h
  | v :: vs, o, _, _, h => Far.puts hT vs (o + 1) _ _ (h.setCell (p := ⟨g, o, none⟩) (fun _ => hT) v)
end Go.Pol
namespace Go.Pol
open Go
/-- a rule: kind, first, every, times -/
abbrev Ru := Int × Int × Int × Int
def ru0 : Ru := (0, 0, 0, 0)
def ruC (x : Ru) : List Value := [.int .i64 x.1, .int .i64 x.2.1, .int .i64 x.2.2.1, .int .i64 x.2.2.2]
theorem ruC_len (x : Ru) : (ruC x).length = 4 := rfl
abbrev ruV (x : Ru) : Value := .agg #[.int .i64 x.1, .int .i64 x.2.1, .int .i64 x.2.2.1, .int .i64 x.2.2.2]
theorem ruC_one (us : List Ru) : ∀ u ∈ fl ruC us, u.oneCell' = true := by
  intro u hu
  simp only [fl, List.mem_flatMap, ruC, List.mem_cons, List.not_mem_nil, or_false] at hu
  obtain ⟨x, _, rfl | rfl | rfl | rfl⟩ := hu <;> rfl
/-- what is wrong with a rule -/
def ruleE (x : Ru) : Int :=
  if x.1 < 0 ∨ 7 ≤ x.1 then 2 else if x.2.1 < 1 ∨ 10000 < x.2.1 ∨ x.2.2.1 < 0 ∨ 12 < x.2.2.1 ∨ x.2.2.2 < 0 ∨ 1000 < x.2.2.2 then 7 else if x.2.2.1 = 0 ∧ x.2.2.2 ≠ 1 then 6 else 0
/-- the first wrong rule -/
def badF : Nat → List Ru → Int × Int
  | _, [] => (0, 0)
  | i, x :: r => if ruleE x ≠ 0 then ((i : Int), ruleE x) else badF (i + 1) r
def chkR (l : List Ru) : Int × Int := if 50 < l.length then (0, 3) else badF 0 l
theorem badF_zero : ∀ (l : List Ru) (i : Nat), (badF i l).2 = 0 ↔ ∀ x ∈ l, ruleE x = 0
  | [], i => by simp [badF]
  | x :: r, i => by
    rw [badF]
    by_cases h : ruleE x = 0
    · rw [if_neg (by simp [h]), badF_zero r (i + 1)]; simp [h]
    · rw [if_pos h]; simp [h]
theorem chkR_zero {l : List Ru} : (chkR l).2 = 0 ↔ l.length ≤ 50 ∧ ∀ x ∈ l, ruleE x = 0 := by
  unfold chkR
  by_cases h : 50 < l.length
  · rw [if_pos h]; simp; omega
  · rw [if_neg h, badF_zero]; simp; omega
theorem ruleE_zero {x : Ru} : ruleE x = 0 ↔ (0 ≤ x.1 ∧ x.1 < 7) ∧ (1 ≤ x.2.1 ∧ x.2.1 ≤ 10000) ∧ (0 ≤ x.2.2.1 ∧ x.2.2.1 ≤ 12) ∧ (0 ≤ x.2.2.2 ∧ x.2.2.2 ≤ 1000) ∧ (x.2.2.1 = 0 → x.2.2.2 = 1) := by
  unfold ruleE
  by_cases h1 : x.1 < 0 ∨ 7 ≤ x.1
  · rw [if_pos h1]; simp; omega
  · rw [if_neg h1]
    by_cases h2 : x.2.1 < 1 ∨ 10000 < x.2.1 ∨ x.2.2.1 < 0 ∨ 12 < x.2.2.1 ∨ x.2.2.2 < 0 ∨ 1000 < x.2.2.2
    · rw [if_pos h2]; simp; omega
    · rw [if_neg h2]
      by_cases h3 : x.2.2.1 = 0 ∧ x.2.2.2 ≠ 1
      · rw [if_pos h3]; simp; omega
      · rw [if_neg h3]; simp; omega
/-- is a call refused by a rule? -/
def rfu (x : Ru) (n : Int) : Bool := decide (x.2.1 ≤ n) && (if x.2.2.1 = 0 then decide (n = x.2.1) else decide ((n - x.2.1) % x.2.2.1 = 0) && (decide (x.2.2.2 = 0) || decide ((n - x.2.1) / x.2.2.1 < x.2.2.2)))
/-- is a call of a kind refused by a plan? -/
def rfd (l : List Ru) (k n : Int) : Bool := l.any fun x => x.1 == k && rfu x n
/-- how many of the first calls are refused -/
def hitN (l : List Ru) (k : Int) : Nat → Int
  | 0 => 0
  | n + 1 => hitN l k n + if rfd l k ((n : Int) + 1) = true then 1 else 0
/-- the first call of a rule after one -/
def nxt (x : Ru) (n : Int) : Int :=
  if n < x.2.1 then x.2.1 else if x.2.2.1 = 0 then 0 else
  if 0 < x.2.2.2 ∧ x.2.2.2 ≤ (n - x.2.1) / x.2.2.1 + 1 then 0 else x.2.1 + ((n - x.2.1) / x.2.2.1 + 1) * x.2.2.1
theorem nxt_rfu {x : Ru} (h : ruleE x = 0) {n : Int} (hn : 1 ≤ n) : (nxt x (n - 1) == n) = rfu x n := by
  obtain ⟨_, h1, h2, h3, h4⟩ := ruleE_zero.1 h
  obtain ⟨k, f, e, t⟩ := x
  simp only at h1 h2 h3 h4
  unfold nxt rfu
  simp only
  rw [Bool.eq_iff_iff, beq_iff_eq]
  by_cases c1 : n - 1 < f
  · rw [if_pos c1]
    constructor
    · rintro rfl
      by_cases c2 : e = 0
      · simp [c2]
      · have : 0 < t ∨ t = 0 := by omega
        rw [if_neg c2]
        simp
        omega
    · intro h
      by_cases c2 : e = 0
      · rw [if_pos c2] at h; simp at h; omega
      · simp at h; omega
  · rw [if_neg c1]
    have hfn : f ≤ n := by omega
    by_cases c2 : e = 0
    · rw [if_pos c2, if_pos c2]; simp; omega
    · rw [if_neg c2, if_neg c2]
      have he : 0 < e := by omega
      obtain ⟨q, hq⟩ : ∃ q, (n - 1 - f) / e = q := ⟨_, rfl⟩
      obtain ⟨r, hr⟩ : ∃ r, (n - 1 - f) % e = r := ⟨_, rfl⟩
      have hd := Int.emod_add_mul_ediv (n - 1 - f) e
      have hr0 := Int.emod_nonneg (n - 1 - f) c2
      have hr1 := Int.emod_lt_of_pos (n - 1 - f) he
      rw [hq, hr] at hd
      rw [hr] at hr0 hr1
      rw [hq]
      by_cases c3 : r + 1 = e
      · have e1 : n - f = e * (q + 1) := by rw [Int.mul_add]; omega
        have e2 : (n - f) % e = 0 := by rw [e1]; exact Int.mul_emod_right e (q + 1)
        have e3 : (n - f) / e = q + 1 := by rw [e1]; exact Int.mul_ediv_cancel_left (q + 1) c2
        have e4 : (q + 1) * e = n - f := by rw [e1, Int.mul_comm]
        rw [e2, e3]
        by_cases c4 : 0 < t ∧ t ≤ q + 1
        · rw [if_pos c4]
          simp
          omega
        · rw [if_neg c4, e4]
          simp
          omega
      · have e1 : n - f = (r + 1) + e * q := by omega
        have e2 : (n - f) % e = r + 1 := by
          rw [e1, Int.add_mul_emod_self_left, Int.emod_eq_of_lt (by omega) (by omega)]
        have e4 : (q + 1) * e = e * q + e := by rw [Int.add_mul, Int.one_mul, Int.mul_comm]
        rw [e2]
        constructor
        · intro h
          by_cases c4 : 0 < t ∧ t ≤ q + 1
          · rw [if_pos c4] at h; omega
          · rw [if_neg c4, e4] at h; omega
        · intro h
          simp at h
          omega
theorem rfu_pos {x : Ru} (h : ruleE x = 0) {n : Int} (hr : rfu x n = true) : 1 ≤ n := by
  obtain ⟨_, h1, _⟩ := ruleE_zero.1 h
  unfold rfu at hr
  simp at hr
  omega
/-- the calls that a rule refuses, up to a limit, from the i-th on -/
def callsF (x : Ru) (lim : Int) : Nat → Nat → List Int
  | 0, _ => []
  | d + 1, i => if x.2.1 + (i : Int) * x.2.2.1 ≤ lim ∧ (x.2.2.2 = 0 ∨ (i : Int) < x.2.2.2) then (x.2.1 + (i : Int) * x.2.2.1) :: callsF x lim d (i + 1) else []
def callsL (x : Ru) (lim : Int) : List Int := callsF x lim (lim.toNat + 2) 0
theorem mul_mono' {i j : Nat} {e : Int} (he : 0 ≤ e) (h : i ≤ j) : (i : Int) * e ≤ (j : Int) * e := Int.mul_le_mul_of_nonneg_right (by omega) he
theorem mul_ge {i : Nat} {e : Int} (he : 1 ≤ e) : (i : Int) ≤ (i : Int) * e := by
  have := Int.mul_le_mul_of_nonneg_left he (show (0 : Int) ≤ i by omega)
  rw [Int.mul_one] at this; exact this
theorem mem_callsF {x : Ru} (h : ruleE x = 0) (lim : Int) : ∀ (d i : Nat), lim + 2 ≤ (d : Int) + i → ∀ m, m ∈ callsF x lim d i ↔ ∃ j : Nat, i ≤ j ∧ m = x.2.1 + (j : Int) * x.2.2.1 ∧ m ≤ lim ∧ (x.2.2.2 = 0 ∨ (j : Int) < x.2.2.2)
  | 0, i, hd, m => by
    obtain ⟨_, h1, h2, h3, h4⟩ := ruleE_zero.1 h
    constructor
    · intro hm; cases hm
    · rintro ⟨j, hij, rfl, hl, ht⟩
      by_cases he : x.2.2.1 = 0
      · have := h4 he
        rw [he, Int.mul_zero] at hl
        omega
      · have := mul_ge (i := j) (e := x.2.2.1) (by omega)
        omega
  | d + 1, i, hd, m => by
    obtain ⟨_, h1, h2, h3, h4⟩ := ruleE_zero.1 h
    rw [callsF]
    by_cases hc : x.2.1 + (i : Int) * x.2.2.1 ≤ lim ∧ (x.2.2.2 = 0 ∨ (i : Int) < x.2.2.2)
    · rw [if_pos hc, List.mem_cons, mem_callsF h lim d (i + 1) (by omega) m]
      constructor
      · rintro (rfl | ⟨j, h5, h6⟩)
        · exact ⟨i, Nat.le_refl _, rfl, hc.1, hc.2⟩
        · exact ⟨j, by omega, h6⟩
      · rintro ⟨j, h5, h6, h7⟩
        by_cases e : j = i
        · subst e; exact .inl h6
        · exact .inr ⟨j, by omega, h6, h7⟩
    · rw [if_neg hc]
      constructor
      · intro hm; cases hm
      · rintro ⟨j, hij, rfl, hl, ht⟩
        refine absurd ⟨?_, ?_⟩ hc
        · have := mul_mono' (e := x.2.2.1) h2.1 hij; omega
        · omega
theorem mem_callsL {x : Ru} (h : ruleE x = 0) {lim : Int} (hl : 0 ≤ lim) (m : Int) : m ∈ callsL x lim ↔ m ≤ lim ∧ rfu x m = true := by
  obtain ⟨_, h1, h2, h3, h4⟩ := ruleE_zero.1 h
  unfold callsL
  rw [mem_callsF h lim _ 0 (by omega) m]
  unfold rfu
  constructor
  · rintro ⟨j, _, rfl, hl, ht⟩
    refine ⟨hl, ?_⟩
    have h5 := mul_mono' (e := x.2.2.1) h2.1 (Nat.zero_le j)
    have e1 : x.2.1 + (j : Int) * x.2.2.1 - x.2.1 = (j : Int) * x.2.2.1 := by omega
    rw [e1]
    by_cases he : x.2.2.1 = 0
    · rw [if_pos he, he]; simp
    · rw [if_neg he, Int.mul_emod_left, Int.mul_ediv_cancel _ he]
      simp
      omega
  · rintro ⟨hm, hr⟩
    rw [Bool.and_eq_true, decide_eq_true_eq] at hr
    obtain ⟨hr1, hr2⟩ := hr
    by_cases he : x.2.2.1 = 0
    · rw [if_pos he, decide_eq_true_eq] at hr2
      have := h4 he
      refine ⟨0, Nat.le_refl _, ?_, hm, ?_⟩
      · rw [he]; omega
      · omega
    · rw [if_neg he, Bool.and_eq_true, decide_eq_true_eq, Bool.or_eq_true, decide_eq_true_eq, decide_eq_true_eq] at hr2
      have hq := Int.ediv_nonneg (a := m - x.2.1) (b := x.2.2.1) (by omega) (by omega)
      have hd := Int.emod_add_mul_ediv (m - x.2.1) x.2.2.1
      rw [hr2.1, Int.mul_comm] at hd
      refine ⟨((m - x.2.1) / x.2.2.1).toNat, Nat.zero_le _, ?_, hm, ?_⟩
      · rw [Int.toNat_of_nonneg hq]; omega
      · rw [Int.toNat_of_nonneg hq]; exact hr2.2
/-- one round of the loop over the calls -/
theorem callsF_go {x : Ru} (h : ruleE x = 0) {lim : Int} {d i : Nat} (hd : lim + 2 ≤ (d : Int) + i) (h1 : x.2.1 + (i : Int) * x.2.2.1 ≤ lim) (h2 : x.2.2.2 = 0 ∨ (i : Int) < x.2.2.2) :
    0 < d ∧ callsF x lim d i = (x.2.1 + (i : Int) * x.2.2.1) :: callsF x lim (d - 1) (i + 1) ∧ (x.2.1 + (i : Int) * x.2.2.1) + x.2.2.1 = x.2.1 + ((i + 1 : Nat) : Int) * x.2.2.1 ∧ (i : Int) ≤ lim := by
  obtain ⟨_, k1, k2, k3, k4⟩ := ruleE_zero.1 h
  have hil : (i : Int) ≤ lim := by
    by_cases he : x.2.2.1 = 0
    · have := k4 he
      rw [he, Int.mul_zero] at h1
      omega
    · have := mul_ge (i := i) (e := x.2.2.1) (by omega)
      omega
  have hd0 : 0 < d := by omega
  refine ⟨hd0, ?_, ?_, hil⟩
  · obtain ⟨d', rfl⟩ : ∃ d', d = d' + 1 := ⟨d - 1, by omega⟩
    rw [callsF, if_pos ⟨h1, h2⟩]; rfl
  · rw [show ((i + 1 : Nat) : Int) = (i : Int) + 1 by omega, Int.add_mul, Int.one_mul]; omega
theorem callsF_end {x : Ru} {lim : Int} {d i : Nat} (h : ¬ (x.2.1 + (i : Int) * x.2.2.1 ≤ lim ∧ (x.2.2.2 = 0 ∨ (i : Int) < x.2.2.2))) : callsF x lim d i = [] := by
  cases d with
  | zero => rfl
  | succ d => rw [callsF, if_neg h]
/-- is a call refused, and a mark of it? -/
theorem rfd_snoc (l : List Ru) (x : Ru) (k n : Int) : rfd (l ++ [x]) k n = (rfd l k n || (x.1 == k && rfu x n)) := by simp [rfd]
theorem hitN_bound (l : List Ru) (k : Int) : ∀ n, 0 ≤ hitN l k n ∧ hitN l k n ≤ n
  | 0 => by simp [hitN]
  | n + 1 => by
    have := hitN_bound l k n
    rw [hitN]
    split <;> omega
/-- a state of refusals -/
structure Rf where
  rules : List Ru
  calls : Nat → Int
  hits : Nat → Int
def upN (f : Nat → Int) (k : Nat) (v : Int) (q : Nat) : Int := if q = k then v else f q
end Go.Pol
