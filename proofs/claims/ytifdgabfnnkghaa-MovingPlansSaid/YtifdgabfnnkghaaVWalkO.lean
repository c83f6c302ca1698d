/- Walk: the moves that empty a candidate (the program). -/
import Derived.Laws.Tables
import Derived.WalkMore
import Derived.Deep.LoopGhost
import Derived.Test.YtifdgabfnnkghaaVSpecC
import Derived.Test.YtifdgabfnnkghaaVWalkN
namespace Go.Pol
theorem markL_snoc (m : Nat → Bool) (bs : List B3) (b : B3) : markL m (bs ++ [b]) = markB (markL m bs) b.1.toNat b.2.1.toNat := by simp [markL]
end Go.Pol
namespace Go.Proofs.Ytifdgabfnnkghaa
open Go Go.Proofs Go.RowKit Go.Pol Go.Shelf Go.Deep

theorem RoomAre.one {cs : Array Value} {f : Nat → Nat → Bool} {mn : Nat → Int} (h : RoomAre cs f mn) : cs.all (·.oneCell') = true := by
  rw [Array.all_eq_true]
  intro i hi
  rw [h.size] at hi
  by_cases hlt : i < 11264
  · have := h.at_ (i / 1024) (i % 1024) (by omega) (by omega)
    rw [show i / 1024 * 1024 + i % 1024 = i by omega, Array.getElem?_eq_getElem (by rw [h.size]; omega)] at this
    rw [Option.some.inj this]; rfl
  · have := h.many (i - 11264) (by omega)
    rw [show 11264 + (i - 11264) = i by omega, Array.getElem?_eq_getElem (by rw [h.size]; omega)] at this
    rw [Option.some.inj this]; rfl
theorem below_setRow {w : World} {t : TypeId} {old cs : Array Value} : Below w.heap.size w ((w.alloc (.cells old t)).setRow w.heap.size cs) ∧ Blk ((w.alloc (.cells old t)).setRow w.heap.size cs) w.heap.size t cs := by
  have hnew : (w.alloc (.cells old t)).heap[w.heap.size]? = some (.cells old t (0, 0)) := heap_alloc_new w _
  refine ⟨⟨rfl, rfl, rfl, by simp [World.setRow], fun k hk => ?_⟩, setRow_heap _ _ old cs t (0, 0) hnew⟩
  rw [setRow_other _ _ _ _ (by omega)]
  exact ((Below.refl w.heap.size w).alloc (Nat.le_refl _) (.cells old t)).block k hk
theorem takeF_frB (pg : Nat) (m : Nat → Bool) (page od : Nat) : takeF (frB pg m) page od = frB pg (markB m page od) := by
  funext o i
  rw [frB_mark]; rfl
theorem info_int : (Try.prog.info? 3).map (fun i => (i.zero, i.size, i.bytes)) = some (some (.int .i64 0), 1, 8) := by kernel_rfl
theorem own_RIx {w : World} {base : Nat} {e : TypeId} {v : Value} {n : Nat} {xs : List Int} (h : w.ownsRow base e 1 v n (xs.map (Value.int .i64))) (hn : xs.length = n) : ∃ (A : Option Addr) (cap : Nat), v = .slice A n cap ∧ RI w w.heap.size A xs ∧ n ≤ cap := by
  have hv := h
  rcases h.2 with ⟨rfl, h0⟩ | ⟨g, cap, cur, rfl, hg, hk, hnc, hcm, _⟩
  · subst h0
    obtain rfl : xs = [] := List.eq_nil_of_length_eq_zero hn
    exact ⟨none, 0, rfl, RI.nil, Nat.le_refl _⟩
  · refine ⟨_, cap, rfl, fun k hk' => ?_, hnc⟩
    have h0 := hv.cellAt k (by simp at hk'; omega)
    exact ⟨g, 0, rfl, Blk.lt hk, by rw [Nat.zero_add, h0, List.getElem?_eq_getElem hk']⟩
/-- a room in a block of the call's own -/
def Room (w : World) (B : Nat) (f : Nat → Nat → Bool) : Prop := ∃ cs, Blk w B 97 cs ∧ RoomAre cs f (cntI f)
theorem Room.call {w w' : World} {B : Nat} {f : Nat → Nat → Bool} (h : Room w B f) (hb : Below w.heap.size w w') : Room w' B f := by
  obtain ⟨cs, h1, h2⟩ := h
  exact ⟨cs, h1.call hb, h2⟩
theorem Room.lt {w : World} {B : Nat} {f : Nat → Nat → Bool} (h : Room w B f) : B < w.heap.size := by
  obtain ⟨cs, h1, _⟩ := h; exact h1.lt
theorem takeR_any (B : Nat) (pg : Nat) (m : Nat → Bool) (x : Int) (o : Int) (w : World) (hx : 0 ≤ x) (ho : 0 ≤ o ∧ o ≤ 10) (hxo : x + pw o ≤ 1024) (hR : Room w B (frB pg m)) :
    Calls Try.prog 67 #[.pointer (some ⟨B, 0, none⟩), .int .i64 x, .int .i64 o] w fun e w' => e = .returned (.tuple #[]) ∧ Room w' B (frB pg (markB m x.toNat o.toNat)) ∧ Far (fun k => k = B) w w' := by
  obtain ⟨cs, h1, h2⟩ := hR
  have hp : pw o = ((2 ^ o.toNat : Nat) : Int) := by simp [pw]
  have h := take_any B (frB pg m) x.toNat o.toNat cs w (by omega) (by omega) h1 h2
  rw [takeF_frB, Int.toNat_of_nonneg hx, Int.toNat_of_nonneg ho.1] at h
  exact h
theorem takeN_any (B : Nat) (pg : Nat) (m : Nat → Bool) (x o : Nat) (w : World) (ho : o ≤ 10) (hxo : x + 2 ^ o ≤ 1024) (hR : Room w B (frB pg m)) :
    Calls Try.prog 67 #[.pointer (some ⟨B, 0, none⟩), .int .i64 x, .int .i64 o] w fun e w' => e = .returned (.tuple #[]) ∧ Room w' B (frB pg (markB m x o)) ∧ Far (fun k => k = B) w w' := by
  obtain ⟨cs, h1, h2⟩ := hR
  have h := take_any B (frB pg m) x o cs w ho hxo h1 h2
  rw [takeF_frB] at h
  exact h
theorem info_move : (Try.prog.info? 42).map (fun i => (i.zero, i.size, i.bytes)) = some (some (.agg #[.int .i64 0, .int .i64 0]), 2, 16) := by kernel_rfl
theorem RI.tail_ {w : World} {B : Nat} {A : Option Addr} {xs : List Int} (i : Nat) (h : RI w B A xs) : RI w B (A.map fun x => ({ block := x.block, off := x.off + i, spot := none } : Addr)) (xs.drop i) := by
  intro k hk
  have hk' : i + k < xs.length := by simp at hk; omega
  obtain ⟨b, o, rfl, hb, hc⟩ := h.at_ (k := i + k) hk'
  refine ⟨b, o + i, rfl, hb, ?_⟩
  rw [Nat.add_assoc, hc]
  simp [List.getD_eq_getElem?_getD, hk']
/-- a room's copy into a new block whose cells were zc -/
structure CopyR (wr : World) (zc cs : Array Value) (f : Nat → Nat → Bool) : Prop where
  new : (wr.alloc (.cells zc 97)).heap[wr.heap.size]? = some (.cells zc 97 (0, 0))
  size : zc.size = cs.size
  info : (Try.prog.info? 97).map (·.size) = some cs.size
  len : (Try.prog.info? 97).map (·.size) = some cs.toList.length
  one : cs.all (·.oneCell') = true
  below : Below wr.heap.size wr ((wr.alloc (.cells zc 97)).setRow wr.heap.size cs)
  room : Room ((wr.alloc (.cells zc 97)).setRow wr.heap.size cs) wr.heap.size f
theorem info11275 : (Try.prog.info? 97).map (·.size) = some 11275 := by kernel_rfl
theorem zc_ex : ∃ zc : Array Value, Try.zeroCells97 = zc ∧ zc.size = 11275 := ⟨_, rfl, zeroRoom.size⟩
theorem copyR (wr : World) (zc cs : Array Value) (f : Nat → Nat → Bool) (hz : zc.size = 11275) (h : RoomAre cs f (cntI f)) : CopyR wr zc cs f where
  new := heap_alloc_new wr _
  size := by rw [hz, h.size]
  info := by rw [h.size]; exact info11275
  len := by rw [Array.length_toList, h.size]; exact info11275
  one := RoomAre.one h
  below := below_setRow.1
  room := ⟨cs, below_setRow.2, h⟩
set_option maxRecDepth 100000 in
set_option maxHeartbeats 3200000 in
theorem empty_any (pg P : Nat) (A M : Option Addr) (n cap mn mcap : Nat) (bs : List B3) (c : B3) (moved : List Nat) (w : World) (hP : P ≤ 10) (hpg : pg = 2 ^ P) (hn : bs.length = n) (hr : RT w w.heap.size A bs) (ok : okB (pg : Int) bs) (hc : insB (pg : Int) c.1 c.2.1 = true)
    (hmn : moved.length = mn) (hmm : ∀ i ∈ moved, i < n) (hM : RI w w.heap.size M (moved.map fun i : Nat => (i : Int))) (R : List (Int × Int) × Bool) (hE : emptyB pg bs c moved = R) (hmn64 : mn ≤ 64) :
    Calls Try.prog 55 #[.int .i64 pg, .slice A n cap, bV c, .slice M mn mcap] w fun e w' => ∃ (O : Option Addr) (ocap : Nat), e = .returned (.tuple #[.slice O R.1.length ocap, .bool R.2]) ∧ RU w' w'.heap.size O R.1 ∧ Below w.heap.size w w' := by
  obtain ⟨cx, co, cc⟩ := c
  have hci := insB_iff.1 hc
  simp only at hci
  have hpg1024 : pg ≤ 1024 := by rw [hpg]; exact Nat.pow_le_pow_right (by decide) hP
  have hn64 : n ≤ 64 := by rw [← hn]; exact ok.len
  have hins := Lib.hid ok.ins
  have HOp := Lib.hid (fun W => open_any pg W P hP hpg)
  have hb0 := (Below.refl w.heap.size w).alloc (Nat.le_refl _) (.cells #[.int .i64 cx, .int .i64 co, .bool cc] 44)
  have k0 := Blk.new w 44 #[.int .i64 cx, .int .i64 co, .bool cc]
  have c0 := k0.cell
  have hn' := Lib.hid hn
  have hmn' := Lib.hid hmn
  have hmm' := Lib.hid hmm
  have hE' := Lib.hid hE
  obtain ⟨s, hs⟩ : ∃ s, w.heap.size = s := ⟨_, rfl⟩
  have hs0 : (w.alloc (.cells #[.int .i64 cx, .int .i64 co, .bool cc] 44)).heap.size = s + 1 := by rw [World.size_alloc, hs]
  have hrS : RT w s A bs := by rw [← hs]; exact hr
  have hMS : RI w s M (moved.map fun i : Nat => (i : Int)) := by rw [← hs]; exact hM
  rw [hs] at k0 hb0 c0
  clear hn hmn hmm hE ok hc hP hpg hr hM
  go_enter Try.func55, Try.ntmps55
  go_wp2_with fail
  go_step3
  generalize w.alloc (Obj.cells #[Value.int .i64 cx, .int .i64 co, .bool cc] 44) = w0 at *
  go_wp2_with fail
  refine (HOp.out _).mono ?_
  rintro e w1 ⟨rfl, ⟨cs1, kR1, hR1⟩, hb1⟩
  rw [hs0] at kR1 hb1 ⊢
  have B1 := hb0.trans (hb1.mono (by omega))
  have room1 : Room w1 (s + 1) (frB pg fun _ => false) := ⟨cs1, kR1, hR1⟩
  have k1 : Blk w1 s 44 _ := k0.call (by rw [hs0]; exact hb1)
  have c1 := k1.cell
  have HT := Lib.hid (takeR_any (s + 1) pg (fun _ => false) cx co w1 hci.2.1 hci.1 (by omega) room1)
  clear hR1 kR1 c0 k0 HOp hb1 hb0 room1
  go_wp2_with fail
  refine HT.out.mono ?_
  rintro e w2 ⟨rfl, room2, hF2⟩
  have B2 := B1.trans (hF2.below (by have := B1.size; omega) (fun k hk => by omega))
  have hw2 := room2.lt
  clear HT hF2 k1 c1 B1
  obtain ⟨m0, hm0⟩ : ∃ m0, markB (fun _ => false) cx.toNat co.toNat = m0 := ⟨_, rfl⟩
  rw [hm0] at room2
  have hm0' := Lib.hid hm0
  clear hm0
  go_wp2_with fail
  go_loopw [32] (fun i wr => ∃ k : Nat, k ≤ n ∧ i = .int .i64 k ∧ Hid (Room wr (s + 1) (frB pg (markL m0 (bs.take k)))) ∧ Below s w wr) (fun i _ => n - (intOf i).toNat)
  case atStart => exact ⟨0, by omega, rfl, Lib.hid (by simpa [markL] using room2), B2⟩
  case round =>
    clear room2 hw2 B2
    obtain ⟨k, hk, rfl, hRm, hB⟩ := hrel
    have hBs : s ≤ wr.heap.size := by have := hB.size; omega
    by_cases hlt : k < n
    · have hlt' : decide ((k : Int) < (n : Int)) = true := by simpa using hlt
      obtain ⟨b, o, rfl, hbl, d1, d2, d3⟩ := (hrS.below hB).at_ (k := k) (by have := hn'.out; omega)
      have hib := insB_iff.1 (hins.out _ (getD_memB (bs := bs) (k := k) (by have := hn'.out; omega)))
      have hts := Lib.hid (take_snocB bs k (by have := hn'.out; omega))
      generalize bs.getD k b0 = x at *
      obtain ⟨xa, xo, xc⟩ := x
      simp only at d1 d2 d3 hib
      have hl := hRm.out.lt
      have hba := (Below.refl wr.heap.size wr).alloc (Nat.le_refl _) (.cells #[.int .i64 xa, .int .i64 xo, .bool xc] 44)
      have HT := Lib.hid (takeR_any (s + 1) pg (markL m0 (bs.take k)) xa xo _ hib.2.1 hib.1 (by omega) (hRm.out.call hba))
      go_wp2_with fail
      refine HT.out.mono ?_
      rintro e w3 ⟨rfl, room3, hF3⟩
      have B3 := (hB.trans (hba.mono hBs)).trans (hF3.below (by have := hba.size; omega) (fun k hk => by omega))
      have hR3 : Hid (Room w3 (s + 1) (frB pg (markL m0 (bs.take (k + 1))))) := Lib.hid (by rw [hts.out, markL_snoc]; exact room3)
      go_wp2_with fail
      go_roundw
      case rel => exact ⟨k + 1, by omega, by go_num, hR3, B3⟩
      case measure => simp [intOf]; omega
    · obtain rfl : k = n := by omega
      have hlt' : decide ((k : Int) < (k : Int)) = false := by simp
      have hRm2 : Hid (Room wr (s + 1) (frB pg (markL m0 bs))) := Lib.hid (by have := hRm.out; rwa [List.take_of_length_le (by have := hn'.out; omega)] at this)
      clear hRm
      obtain ⟨wA, rfl⟩ : ∃ wA, wA = wr := ⟨_, rfl⟩
      obtain ⟨i0, hi0, hz0, hz1, hz2⟩ := info_parts info_int
      go_wp2_with fail
      go_loopw [13, 45] (fun v i wr2 => ∃ q : Nat, q ≤ mn ∧ i = .int .i64 q ∧ wr2.ownsRow wA.heap.size 3 1 v q ((moved.take q).map fun i => Value.int .i64 ((ordB bs i : Nat) : Int)) ∧ Below wA.heap.size wA wr2) (fun _ i _ => mn - (intOf i).toNat)
      case atStart => exact ⟨0, by omega, rfl, by simpa using World.ownsRow_nil _ _ _ _, Below.refl _ _⟩
      case round =>
        obtain ⟨q, hq, rfl, hrow, hB2⟩ := hrel
        have hB2s := hB2.size
        by_cases hlt2 : q < mn
        · have hlt2' : decide ((q : Int) < (mn : Int)) = true := by simpa using hlt2
          have hBt := hB.trans (hB2.mono hBs)
          obtain ⟨b, o, rfl, hbl, d1⟩ := (hMS.below hBt).at_ (k := q) (by rw [List.length_map]; have := hmn'.out; omega)
          obtain ⟨ix, hix⟩ : ∃ ix, moved.getD q 0 = ix := ⟨_, rfl⟩
          have hge : (moved.map fun i : Nat => (i : Int)).getD q 0 = (ix : Int) := by
            rw [← hix]
            simp only [List.getD_eq_getElem?_getD, List.getElem?_map]
            rw [List.getElem?_eq_getElem (by have := hmn'.out; omega)]; simp
          rw [hge] at d1
          have hmem : ix ∈ moved := by rw [← hix, List.getD_eq_getElem?_getD, List.getElem?_eq_getElem (by have := hmn'.out; omega)]; simp
          have hixn := hmm'.out ix hmem
          have hts : Hid (moved.take (q + 1) = moved.take q ++ [ix]) := Lib.hid (by
            rw [List.take_add_one, List.getElem?_eq_getElem (by have := hmn'.out; omega), ← hix, List.getD_eq_getElem?_getD, List.getElem?_eq_getElem (by have := hmn'.out; omega)]; rfl)
          obtain ⟨b', o', rfl, _, _, e2, _⟩ := (hrS.below hBt).at_ (k := ix) (by have := hn'.out; omega)
          have hib := insB_iff.1 (hins.out _ (getD_memB (bs := bs) (k := ix) (by have := hn'.out; omega)))
          obtain ⟨xo, hxo⟩ : ∃ xo, (bs.getD ix b0).2.1 = xo := ⟨_, rfl⟩
          rw [hxo] at e2 hib
          have hord : Hid (((ordB bs ix : Nat) : Int) = xo) := Lib.hid (by unfold ordB; rw [hxo]; omega)
          clear hge hix hmem hxo
          have kNw := Blk.new wr 3 #[.int .i64 xo]
          go_wp2_with (refine wpList_append_own _ rfl (.tmp 49) (.tmp 55) 79 rfl _ 3 i0 (.int .i64 0) 1 8 Try.underlying79 hi0 hz0 hz1 hz2 rfl (by decide) _ q _ rfl (hrow.alloc _) ⟨wr.heap.size, 0, none⟩ 1 1 [.int .i64 xo] rfl rfl (fun j u hu => by rw [addr_add0, Nat.zero_add, kNw.cell]; simpa using hu) (fun u hu => by simp only [List.mem_singleton] at hu; subst hu; rfl) (by unfold maxLen; omega) (by omega) (by simp; omega) ?_; intro v' w6 hown' hgrow _)
          go_roundw
          case rel => exact ⟨q + 1, by omega, by go_num, by rw [hts.out, List.map_append, List.map_singleton, hord.out]; exact hown', (hB2.alloc hB2s _).grown hgrow (by simp; omega) (fun j hj => (hrow.lt j hj).1)⟩
          case measure => simp [intOf]; omega
        · obtain rfl : q = mn := by omega
          have hlt2' : decide ((q : Int) < (q : Int)) = false := by simp
          rw [List.take_of_length_le (by have := hmn'.out; omega)] at hrow
          have hoe : (moved.map fun i => Value.int .i64 ((ordB bs i : Nat) : Int)) = ((moved.map (ordB bs)).map fun o : Nat => (o : Int)).map (Value.int .i64) := by simp
          rw [hoe] at hrow
          obtain ⟨A3, c3, rfl, hri3, hqc3⟩ := own_RIx hrow (by simp [hmn'.out])
          have room3 := hRm2.out.call hB2
          have hBt := hB.trans (hB2.mono hBs)
          have hHo : Hid (Calls Try.prog 68 #[.pointer (some ⟨s + 1, 0, none⟩), .slice A3 q c3] wr fun e w' => e = .returned (.bool (holdsB (frB pg (markL m0 bs)) (moved.map (ordB bs)))) ∧ Below wr.heap.size wr w') := Lib.hid (by
            obtain ⟨cs3, kB3, hR3⟩ := room3
            refine holds_any (s + 1) _ cs3 A3 q c3 (moved.map (ordB bs)) wr (by simp [hmn'.out]) (by omega) (fun o ho => ?_) hri3 kB3 hR3
            obtain ⟨ix, hix, rfl⟩ := List.mem_map.1 ho
            have hib := insB_iff.1 (hins.out _ (getD_memB (bs := bs) (k := ix) (by have := hmm'.out ix hix; have := hn'.out; omega)))
            unfold ordB; omega)
          have hEE : Hid (R = if holdsB (frB pg (markL m0 bs)) (moved.map (ordB bs)) = true then (greedy pg bs (markL m0 bs) moved, true) else ([], false)) := Lib.hid (by rw [← hE'.out]; unfold emptyB; rw [hm0'.out])
          clear hoe
          cases hh : holdsB (frB pg (markL m0 bs)) (moved.map (ordB bs)) with
          | false =>
            rw [hh] at hHo
            have hRR : Hid (R = ([], false)) := Lib.hid (by rw [hEE.out, hh]; rfl)
            clear hEE hh
            go_wp2_with fail
            refine hHo.out.mono ?_
            rintro e w4 ⟨rfl, hb4⟩
            have B4 := hBt.trans (hb4.mono (by have := hBt.size; omega))
            go_wp2_with fail
            rw [Exit.noGoto_ret]
            go_ret2
            rw [hRR.out]
            exact ⟨none, 0, rfl, RU.nil, by rw [hs]; exact B4⟩
          | true =>
            rw [hh] at hHo
            have hRR : Hid (R = (greedy pg bs (markL m0 bs) moved, true)) := Lib.hid (by rw [hEE.out, if_pos hh])
            clear hEE hh
            go_wp2_with fail
            refine hHo.out.mono ?_
            rintro e w4 ⟨rfl, hb4⟩
            have B4 := hBt.trans (hb4.mono (by have := hBt.size; omega))
            have room4 := room3.call hb4
            have hri4 : RI w4 w4.heap.size A3 _ := (hri3.below hb4).more hb4.size
            clear hri3 room3 hrow hHo
            go_wp2_with fail
            go_step3
            go_wp2_with fail
            obtain ⟨e4, he4⟩ : ∃ e4, w4.heap.size = e4 := ⟨_, rfl⟩
            rw [he4] at hri4
            have hrS4 : RT w4 s A bs := hrS.below B4
            have hMS4 : RI w4 s M _ := hMS.below B4
            have hse : s ≤ e4 := by rw [← he4]; have := B4.size; omega
            have he4' := Lib.hid he4
            clear he4
            go_loopg [10, 16, 64] q (fun g s10 s16 s64 wx => ∃ (k Rm : Nat) (m : Nat → Bool) (done : List (Int × Int)), k + g = q ∧ s64 = .int .i64 k ∧ s10 = .pointer (some ⟨Rm, 0, none⟩) ∧ Hid (Room wx Rm (frB pg m)) ∧ wx.ownsRow e4 42 2 s16 done.length (spCells done) ∧ Hid (done ++ greedy pg bs m (moved.drop k) = greedy pg bs (markL m0 bs) moved) ∧ done.length ≤ k ∧ Below e4 w4 wx)
            case atStart => exact ⟨0, s + 1, markL m0 bs, [], by omega, rfl, rfl, Lib.hid room4, World.ownsRow_nil _ _ _ _, Lib.hid (by simp), Nat.le_refl _, Below.refl _ _⟩
            case round =>
              obtain ⟨k, Rm, m, done, hkg, rfl, rfl, hRm4, hrow, hG, hdk, hB4⟩ := hrel
              have hB4s : e4 ≤ wr.heap.size := by have := hB4.size; have := he4'.out; omega
              cases gk with
              | zero =>
                have hlt' : decide ((k : Int) < (q : Int)) = false := by simp; omega
                have hltn : ¬ (k < q) := by omega
                have hfin : Hid (R = (done, true)) := Lib.hid (by rw [hRR.out, ← hG.out, List.drop_of_length_le (by have := hmn'.out; omega)]; simp [greedy])
                obtain ⟨O, oc, rfl, hru, _⟩ := own_RU hrow rfl
                clear hRm4 hrow hG hRR
                go_wp2_with fail
                rw [Exit.noGoto_ret]
                go_ret2
                rw [hfin.out]
                exact ⟨O, oc, rfl, hru, by rw [hs]; exact B4.trans (hB4.mono hse)⟩
              | succ g =>
                have hlt : k < q := by omega
                have hlt' : decide ((k : Int) < (q : Int)) = true := by simp; omega
                have hB4w : Below s w wr := B4.trans (hB4.mono hse)
                obtain ⟨dl, hdl⟩ : ∃ dl, done.length = dl := ⟨_, rfl⟩
                rw [hdl] at hrow hdk
                have hdl' := Lib.hid hdl
                clear hdl
                obtain ⟨b, o, rfl, hbl, d1⟩ := (hMS4.below (hB4.mono hse)).at_ (k := k) (by rw [List.length_map]; have := hmn'.out; omega)
                obtain ⟨ix, hix⟩ : ∃ ix, moved.getD k 0 = ix := ⟨_, rfl⟩
                have hge : (moved.map fun i : Nat => (i : Int)).getD k 0 = (ix : Int) := by
                  rw [← hix]
                  simp only [List.getD_eq_getElem?_getD, List.getElem?_map]
                  rw [List.getElem?_eq_getElem (by have := hmn'.out; omega)]; simp
                rw [hge] at d1
                have hmem : ix ∈ moved := by rw [← hix, List.getD_eq_getElem?_getD, List.getElem?_eq_getElem (by have := hmn'.out; omega)]; simp
                have hixn := hmm'.out ix hmem
                have hdr : moved.drop k = ix :: moved.drop (k + 1) := by rw [Go.Pol.drop_cons 0 moved k (by have := hmn'.out; omega), hix]
                obtain ⟨b', o', rfl, _, _, f2, _⟩ := (hrS4.below (hB4.mono hse)).at_ (k := ix) (by have := hn'.out; omega)
                have hib := insB_iff.1 (hins.out _ (getD_memB (bs := bs) (k := ix) (by have := hn'.out; omega)))
                obtain ⟨od, hod⟩ : ∃ od, ordB bs ix = od := ⟨_, rfl⟩
                have hxo : (bs.getD ix b0).2.1 = (od : Int) := by rw [← hod]; unfold ordB; omega
                rw [hxo] at f2 hib
                have hod10 : od ≤ 10 := by omega
                obtain ⟨Q, hQ⟩ : ∃ Q, pg / 2 ^ od = Q := ⟨_, rfl⟩
                have hsh : ((pg : Int) / 2 ^ od) = (Q : Int) := by rw [← hQ]; simp
                have hQ1024 : Q ≤ 1024 := by rw [← hQ]; exact Nat.le_trans (Nat.div_le_self _ _) hpg1024
                obtain ⟨rest, hrest⟩ : ∃ rest, moved.drop (k + 1) = rest := ⟨_, rfl⟩
                obtain ⟨pred, hpred⟩ : ∃ pred : Nat → Bool, (fun a => frB pg m od a && holdsB (frB pg (markB m (a * 2 ^ od) od)) (rest.map (ordB bs))) = pred := ⟨_, rfl⟩
                have hpick : Hid (pickB pg bs m ix rest = firstB pred Q 0) := Lib.hid (by unfold pickB; rw [hod, hpred, hQ])
                have hgr : Hid (greedy pg bs m (moved.drop k) = match firstB pred Q 0 with | some a => ((ix : Int), ((a * 2 ^ od : Nat) : Int)) :: greedy pg bs (markB m (a * 2 ^ od) od) rest | none => greedy pg bs m rest) := Lib.hid (by
                  rw [hdr, hrest, greedy, hpick.out, hod]
                  cases firstB pred Q 0 <;> rfl)
                obtain ⟨wX, rfl⟩ : ∃ wX, wX = wr := ⟨_, rfl⟩
                have hpred' := Lib.hid hpred
                have hQ' := Lib.hid hQ
                have hrest' := Lib.hid hrest
                have hod' := Lib.hid hod
                clear hge hix hmem hdr hxo hod hQ hrest hpred
                go_wp2_with fail
                go_loopg [10, 16, 77] Q (fun g2 s10 s16 s77 wy => ∃ j : Nat, j + g2 = Q ∧ s77 = .int .i64 j ∧ s10 = .pointer (some ⟨Rm, 0, none⟩) ∧ u16 = s16 ∧ Hid (firstB pred Q 0 = firstB pred g2 j) ∧ Below wX.heap.size wX wy)
                case atStart => exact ⟨0, by omega, rfl, rfl, rfl, Lib.hid rfl, Below.refl _ _⟩
                case round =>
                  obtain ⟨j, hjQ, rfl, rfl, rfl, hfi, hBi⟩ := hrel
                  have hBis := hBi.size
                  cases gk with
                  | zero =>
                    have hlj : decide ((j : Int) < (Q : Int)) = false := by simp; omega
                    have hljn : ¬ (j < Q) := by omega
                    have hG2 : Hid (done ++ greedy pg bs m (moved.drop (k + 1)) = greedy pg bs (markL m0 bs) moved) := Lib.hid (by
                      rw [← hG.out, hgr.out, hfi.out, hrest'.out]; rfl)
                    have hrow2 := ownsRow_call hrow hBi
                    clear hgr hfi hG hrow
                    go_wp2_with fail
                    go_roundg g
                    case measure => omega
                    case rel => exact ⟨k + 1, Rm, m, done, by omega, by go_num, rfl, Lib.hid (hRm4.out.call hBi), by rw [hdl'.out]; exact hrow2, hG2, by rw [hdl'.out]; omega, hB4.trans (hBi.mono (by have := he4'.out; omega))⟩
                  | succ g2 =>
                    have hlj0 : j < Q := by omega
                    have hlj : decide ((j : Int) < (Q : Int)) = true := by simp; omega
                    obtain ⟨cs, kB, hcs⟩ := hRm4.out.call hBi
                    have hcell : _ := (kB.cell (od * 1024 + j)).trans (hcs.at_ od j (by omega) (by omega))
                    have hcs' := Lib.hid hcs
                    clear hcs
                    cases hf : frB pg m od j with
                    | false =>
                      rw [hf] at hcell
                      have hfi2 : Hid (firstB pred Q 0 = firstB pred g2 (j + 1)) := Lib.hid (by
                        rw [hfi.out, firstB, if_neg (by rw [← hpred'.out]; simp [hf])])
                      clear hf hfi
                      go_wp2_with fail
                      go_roundg g2
                      case measure => omega
                      case rel => exact ⟨j + 1, by omega, by go_num, rfl, rfl, hfi2, hBi⟩
                    | true =>
                      have hfT := Lib.hid hf
                      have hjb : (j + 1) * 2 ^ od ≤ pg := by
                        have := hf; unfold frB at this; rw [Bool.and_eq_true] at this; simpa using this.1
                      obtain ⟨sh, hshv⟩ : ∃ sh, j * 2 ^ od = sh := ⟨_, rfl⟩
                      have hp2 : pw (od : Int) = ((2 ^ od : Nat) : Int) := pw_nat od
                      have hjb2 : sh + 2 ^ od ≤ pg := by rw [← hshv, ← Nat.succ_mul]; exact hjb
                      obtain ⟨tw, htw⟩ : ∃ tw, 2 ^ od = tw := ⟨_, rfl⟩
                      have hjb3 : sh + tw ≤ pg := by rw [← htw]; exact hjb2
                      have hsh1024 : sh ≤ 1024 := by omega
                      have hshl : wrap64 ((j : Int) * 2 ^ od) = (sh : Int) := by
                        have e : ((j : Int) * 2 ^ od) = (sh : Int) := by rw [← hshv]; simp
                        rw [e]; clear hjb hjb2 hp2; unfold wrap64; omega
                      rw [hf] at hcell
                      obtain ⟨zc, hzc, hzz⟩ := zc_ex
                      have hzc' := Lib.hid hzc
                      clear hzc
                      have hC := Lib.hid (copyR wr zc cs (frB pg m) hzz hcs'.out)
                      have hbC := hC.out.below
                      have HT := Lib.hid (takeN_any wr.heap.size pg m sh od _ hod10 (Nat.le_trans hjb2 hpg1024) hC.out.room)
                      have kB' := Lib.hid kB
                      clear hf hp2 kB hzz
                      obtain ⟨wz, hwz⟩ : ∃ wz, (wr.alloc (.cells zc 97)).setRow wr.heap.size cs = wz := ⟨_, rfl⟩
                      rw [hwz] at HT hbC
                      have hwz' := Lib.hid hwz
                      clear hwz
                      go_upto_region 26 with (first
                        | (refine wpList_load_mid rfl 97 (.tmp 90) rfl Rm 0 rfl cs.toList _ (rangeAt_blk kB'.out) Try.underlying97 rfl hC.out.len ?_; rw [Array.toArray_toList])
                        | (rw [hzc'.out]; refine wpList_store_row rfl 97 (.tmp 21) (.tmp 91) rfl wr.heap.size cs rfl rfl 97 _ hC.out.new hC.out.info hC.out.size hC.out.one ?_))
                      rw [hwz'.out]
                      clear hC hcs' hcell kB' hzc' hwz'
                      go_wp2_with fail
                      refine HT.out.mono ?_
                      rintro e w5 ⟨rfl, hR5, hF5⟩
                      have hB5 : Below wr.heap.size wr w5 := hbC.trans (hF5.below (by have := hbC.size; omega) (fun k hk => by omega))
                      have hRIw := ((((hri4.below hB4).more hB4s).below hBi).more hBi.size)
                      have hRIt : RI w5 w5.heap.size (A3.map fun x => ({ block := x.block, off := x.off + (k + 1), spot := none } : Addr)) ((rest.map (ordB bs)).map fun o : Nat => (o : Int)) := by
                        have h := RI.tail_ (k + 1) ((hRIw.below hB5).more hB5.size)
                        rwa [← List.map_drop, ← List.map_drop, hrest'.out] at h
                      have hnil : Hid (q = k + 1 → rest = []) := Lib.hid (fun h => by rw [← hrest'.out]; exact List.drop_of_length_le (by rw [hmn'.out]; omega))
                      have hR5' := Lib.hid hR5
                      obtain ⟨cs5, kB5, hcs5⟩ := hR5
                      have hHH := Lib.hid (fun (A' : Option Addr) (c' : Nat) (h : RI w5 w5.heap.size A' ((rest.map (ordB bs)).map fun o : Nat => (o : Int))) => holds_any wr.heap.size (frB pg (markB m sh od)) cs5 A' (q - (k + 1)) c' (rest.map (ordB bs)) w5 (by rw [List.length_map, ← hrest'.out, List.length_drop, hmn'.out]) (by omega) (fun o ho => by
                        obtain ⟨iy, hiy, rfl⟩ := List.mem_map.1 ho
                        have hiy' := hmm'.out iy (by rw [← hrest'.out] at hiy; exact List.mem_of_mem_drop hiy)
                        have hib := insB_iff.1 (hins.out _ (getD_memB (bs := bs) (k := iy) (by have := hn'.out; omega)))
                        unfold ordB; omega) h kB5 hcs5)
                      have hshv' := Lib.hid hshv
                      obtain ⟨i1, hi1, hy0, hy1, hy2⟩ := info_parts info_move
                      have hmv : Hid (ordB bs ix = od) := hod'
                      clear HT kB5 hcs5 hF5 hbC hRIw hri4 hjb hjb2 hshv
                      go_wp2_with fail
                      case inl =>
                        rename_i h
                        refine (hHH.out _ _ (by rw [hnil.out (by omega)]; exact RI.nil)).mono ?_
                        rw [← h]
                        clear h
                        rintro e w6 ⟨rfl, hb6⟩
                        have hB6 := hB5.trans (hb6.mono hB5.size)
                        have hrow6 := ownsRow_call (ownsRow_call hrow hBi) hB6
                        have hR6 : Hid (Room w6 wr.heap.size (frB pg (markB m sh od))) := Lib.hid (hR5'.out.call hb6)
                        have hBt6 := hB4.trans ((hBi.trans (hB6.mono hBi.size)).mono hB4s)
                        have hs6 : e4 ≤ w6.heap.size := by have := hBt6.size; have := he4'.out; omega
                        clear hb6 hB5 hR5' hHH hRIt
                        cases hh : holdsB (frB pg (markB m sh od)) (rest.map (ordB bs)) with
                        | false =>
                          have hfi2 : Hid (firstB pred Q 0 = firstB pred g2 (j + 1)) := Lib.hid (by
                            rw [hfi.out, firstB, if_neg (by rw [← hpred'.out]; simp [hfT.out, hshv'.out, hh])])
                          clear hfi hh hrow6
                          go_wp2_with fail
                          go_roundg g2
                          case measure => omega
                          case rel => exact ⟨j + 1, by omega, by go_num, rfl, rfl, hfi2, hBi.trans (hB6.mono hBi.size)⟩
                        | true =>
                          have hfi2 : Hid (firstB pred Q 0 = some j) := Lib.hid (by
                            rw [hfi.out, firstB, if_pos (by rw [← hpred'.out]; simp [hfT.out, hshv'.out, hh])])
                          have hG2 : Hid (done ++ [((ix : Int), (sh : Int))] ++ greedy pg bs (markB m sh od) (moved.drop (k + 1)) = greedy pg bs (markL m0 bs) moved) := Lib.hid (by
                            rw [← hG.out, hgr.out, hfi2.out, hrest'.out]; simp only [hshv'.out, List.append_assoc, List.singleton_append])
                          have kN := Blk.new w6 42 #[.int .i64 (ix : Int), .int .i64 (sh : Int)]
                          clear hfi hh hgr hG hfi2
                          go_wp2_with (refine wpList_append_own _ rfl (.tmp 102) (.tmp 108) 23 rfl e4 42 i1 (.agg #[.int .i64 0, .int .i64 0]) 2 16 Try.underlying23 hi1 hy0 hy1 hy2 rfl (by decide) _ dl (spCells done) rfl (hrow6.alloc _) ⟨w6.heap.size, 0, none⟩ 1 1 [.int .i64 (ix : Int), .int .i64 (sh : Int)] rfl rfl (news_two kN) news_one2 (by unfold maxLen; omega) (by omega) (by simp; omega) ?_; intro v' w7 hown' hgrow _; rw [← spCells_snoc done ((ix : Int), (sh : Int))] at hown')
                          have hR7 : Hid (Room w7 wr.heap.size (frB pg (markB m sh od))) := Lib.hid (by
                            obtain ⟨c7, h71, h72⟩ := hR6.out
                            exact ⟨c7, (h71.alloc (.cells #[.int .i64 (ix : Int), .int .i64 (sh : Int)] 42)).grown hgrow (fun e => Blk.not_row (h71.alloc (.cells #[.int .i64 (ix : Int), .int .i64 (sh : Int)] 42)) (hrow6.alloc (.cells #[.int .i64 (ix : Int), .int .i64 (sh : Int)] 42)) (by decide) e.symm), h72⟩)
                          go_roundg g
                          case measure => omega
                          case rel => exact ⟨k + 1, wr.heap.size, markB m sh od, done ++ [((ix : Int), (sh : Int))], by omega, by go_num, rfl, hR7, by rw [List.length_append, hdl'.out]; exact hown', hG2, by rw [List.length_append, hdl'.out]; simp; omega, (hBt6.alloc hs6 _).grown hgrow (by simp; omega) (fun j hj => (hrow6.lt j hj).1)⟩
                      case inr =>
                        refine (hHH.out _ _ hRIt).mono ?_
                        rintro e w6 ⟨rfl, hb6⟩
                        have hB6 := hB5.trans (hb6.mono hB5.size)
                        have hrow6 := ownsRow_call (ownsRow_call hrow hBi) hB6
                        have hR6 : Hid (Room w6 wr.heap.size (frB pg (markB m sh od))) := Lib.hid (hR5'.out.call hb6)
                        have hBt6 := hB4.trans ((hBi.trans (hB6.mono hBi.size)).mono hB4s)
                        have hs6 : e4 ≤ w6.heap.size := by have := hBt6.size; have := he4'.out; omega
                        clear hb6 hB5 hR5' hHH hRIt
                        cases hh : holdsB (frB pg (markB m sh od)) (rest.map (ordB bs)) with
                        | false =>
                          have hfi2 : Hid (firstB pred Q 0 = firstB pred g2 (j + 1)) := Lib.hid (by
                            rw [hfi.out, firstB, if_neg (by rw [← hpred'.out]; simp [hfT.out, hshv'.out, hh])])
                          clear hfi hh hrow6
                          go_wp2_with fail
                          go_roundg g2
                          case measure => omega
                          case rel => exact ⟨j + 1, by omega, by go_num, rfl, rfl, hfi2, hBi.trans (hB6.mono hBi.size)⟩
                        | true =>
                          have hfi2 : Hid (firstB pred Q 0 = some j) := Lib.hid (by
                            rw [hfi.out, firstB, if_pos (by rw [← hpred'.out]; simp [hfT.out, hshv'.out, hh])])
                          have hG2 : Hid (done ++ [((ix : Int), (sh : Int))] ++ greedy pg bs (markB m sh od) (moved.drop (k + 1)) = greedy pg bs (markL m0 bs) moved) := Lib.hid (by
                            rw [← hG.out, hgr.out, hfi2.out, hrest'.out]; simp only [hshv'.out, List.append_assoc, List.singleton_append])
                          have kN := Blk.new w6 42 #[.int .i64 (ix : Int), .int .i64 (sh : Int)]
                          clear hfi hh hgr hG hfi2
                          go_wp2_with (refine wpList_append_own _ rfl (.tmp 102) (.tmp 108) 23 rfl e4 42 i1 (.agg #[.int .i64 0, .int .i64 0]) 2 16 Try.underlying23 hi1 hy0 hy1 hy2 rfl (by decide) _ dl (spCells done) rfl (hrow6.alloc _) ⟨w6.heap.size, 0, none⟩ 1 1 [.int .i64 (ix : Int), .int .i64 (sh : Int)] rfl rfl (news_two kN) news_one2 (by unfold maxLen; omega) (by omega) (by simp; omega) ?_; intro v' w7 hown' hgrow _; rw [← spCells_snoc done ((ix : Int), (sh : Int))] at hown')
                          have hR7 : Hid (Room w7 wr.heap.size (frB pg (markB m sh od))) := Lib.hid (by
                            obtain ⟨c7, h71, h72⟩ := hR6.out
                            exact ⟨c7, (h71.alloc (.cells #[.int .i64 (ix : Int), .int .i64 (sh : Int)] 42)).grown hgrow (fun e => Blk.not_row (h71.alloc (.cells #[.int .i64 (ix : Int), .int .i64 (sh : Int)] 42)) (hrow6.alloc (.cells #[.int .i64 (ix : Int), .int .i64 (sh : Int)] 42)) (by decide) e.symm), h72⟩)
                          go_roundg g
                          case measure => omega
                          case rel => exact ⟨k + 1, wr.heap.size, markB m sh od, done ++ [((ix : Int), (sh : Int))], by omega, by go_num, rfl, hR7, by rw [List.length_append, hdl'.out]; exact hown', hG2, by rw [List.length_append, hdl'.out]; simp; omega, (hBt6.alloc hs6 _).grown hgrow (by simp; omega) (fun j hj => (hrow6.lt j hj).1)⟩
end Go.Proofs.Ytifdgabfnnkghaa
