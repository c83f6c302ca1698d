/- Walk: the moves that empty a candidate (the reference). -/
import Derived.Laws.Tables
import Derived.WalkMore
import Derived.Deep.LoopGhost
import Derived.Test.YtifdgabfnnkghaaVWalkZA
namespace Go.Proofs.Ytifdgabfnnkghaa
open Go Go.Proofs Go.RowKit Go.Pol Go.Shelf Go.Deep

section
variable {P : Program}
theorem wpList_append_blk (w : World) {ops : Array Oper} {rest : List Oper} {o : Oper} {a : Act} {Q : Exit → Act → World → Prop} (hgd : o.guard = none) (s x : Operand) (t : TypeId)
    (ho : o.op = .call { callee := .builtin .append, args := #[s, x], argTypes := #[t, t] })
    (base : Nat) (e : TypeId) (i : TypeInfo) (z : Value) (size bytes : Nat) (ht : P.underlying t = some (.slice e)) (hi : P.info? e = some i) (hz : i.zero = some z)
    (hsize : i.size = size) (hby : i.bytes = bytes) (hzs : z.cells.size = size) (hsz : 0 < size)
    (v : Value) (n : Nat) (xs : List Value) (hs : a.eval s = v) (hown : w.ownsRow base e size v n xs)
    (ad : Addr) (m c : Nat) (news : List Value) (hx : a.eval x = .slice (some ad) m c) (hl : news.length = m * size) (hnews : ∀ j u, news[j]? = some u → w.cell? (ad.add j) = some u) (h1 : ∀ u ∈ news, u.oneCell' = true)
    (h63 : n + m ≤ maxLen) (hbytes : (n + m) * bytes ≤ 140737488355328) (hbase : base ≤ w.heap.size)
    (h : ∀ v' w', w'.ownsRow base e size v' (n + m) (xs ++ news) → w.grownBy w' v.ownBlock → (∀ g, v'.ownBlock = some g → v.ownBlock = some g ∨ w.heap.size ≤ g) → wpList P ops Q rest (a.put o.dst v') w') : wpList P ops Q (o :: rest) a w := by
  refine wpList_plain hgd fun K hK => ?_
  obtain ⟨v', w', hr, h2, h3, h4⟩ := append_block (P := P) w base t o.type e i z size bytes ht hi hz hsize hby hzs hsz v n xs hown ad m c news hl hnews h1 h63 hbytes hbase
  unfold Oper.wp execOp
  simp only [ho, resolve, invoke, builtin, Sem.run_bind, Sem.run_pure, Result.andThen_ok, List.map_toArray, List.map_cons, List.map_nil, hs, hx, hr]
  exact hK _ _ (h v' w' h2 h3 h4)
/-- a whole array is loaded in a quiet walk -/
theorem wpQuiet_load {ops : Array Oper} {C : World → Prop} {Q : Act → Prop} {a : Act} {o : Oper} {rest : List Oper} (x : Operand) (ty : TypeId) (p : Addr) (v : Value) (hg : o.guard = none) (h : o.op = .load ty x) (hx : a.eval x = .pointer (some p)) (hl : ∀ w, C w → (loadVar ty p).run P w = .ok v w)
    (hk : wpQuiet P ops C Q rest (a.put o.dst v)) : wpQuiet P ops C Q (o :: rest) a :=
  wpQuiet_step fun K hK => by
    rw [if_pos (by simp [Region.wanted, hg])]
    refine ⟨v, fun w hw => ?_, hK _ hk⟩
    unfold Oper.quietAt
    have e : (execOp a.eval o).run P w = .ok (.value v) w := by
      unfold execOp
      simp only [h]
      simp [hx, Instr.loadAt, Instr.sureAddr, Result.andThen, hl w hw]
    rw [e]
    exact ⟨rfl, rfl⟩
end
/-- a row that another one's growing leaves -/
theorem ownsRow_grown {w w' : World} {base : Nat} {e : TypeId} {size n : Nat} {v u : Value} {xs : List Value} (h : w.ownsRow base e size v n xs) (hg : w.grownBy w' u.ownBlock) (hne : ∀ g, u.ownBlock = some g → v.ownBlock ≠ some g) : w'.ownsRow base e size v n xs :=
  ownsRow_far (T := fun k => u.ownBlock = some k) h ((Far.refl _ _).grown hg (fun _ hr _ => hr)) (fun g hv hu => hne g hu hv)
theorem far_setRow (w : World) (B : Nat) (cs : Array Value) : Far (fun k => k = B) w (w.setRow B cs) := ⟨rfl, rfl, rfl, by simp [World.setRow], fun _ _ hT => setRow_other _ _ _ _ hT⟩
/-- marks in a block of the call's own -/
def Marks (w : World) (B : Nat) (m : Nat → Bool) : Prop := ∃ cs, Blk w B 84 cs ∧ MarksAre cs m
theorem Marks.call {w w' : World} {B : Nat} {m : Nat → Bool} (h : Marks w B m) (hb : Below w.heap.size w w') : Marks w' B m := by
  obtain ⟨cs, h1, h2⟩ := h
  exact ⟨cs, h1.call hb, h2⟩
theorem Marks.lt {w : World} {B : Nat} {m : Nat → Bool} (h : Marks w B m) : B < w.heap.size := by
  obtain ⟨cs, h1, _⟩ := h; exact h1.lt
/-- a copy of marks into a new block whose cells were zc -/
structure CopyM (wr : World) (zc cs : Array Value) (f : Nat → Bool) : Prop where
  new : (wr.alloc (.cells zc 84)).heap[wr.heap.size]? = some (.cells zc 84 (0, 0))
  size : zc.size = cs.size
  info : (Try.prog.info? 84).map (·.size) = some cs.size
  len : (Try.prog.info? 84).map (·.size) = some cs.toList.length
  one : cs.all (·.oneCell') = true
  below : Below wr.heap.size wr ((wr.alloc (.cells zc 84)).setRow wr.heap.size cs)
  blk : Blk ((wr.alloc (.cells zc 84)).setRow wr.heap.size cs) wr.heap.size 84 cs
theorem copyM (wr : World) (zc cs : Array Value) (f : Nat → Bool) (hz : zc.size = 1024) (h : MarksAre cs f) : CopyM wr zc cs f where
  new := heap_alloc_new wr _
  size := by rw [hz, h.size]
  info := by rw [h.size]; exact info1024
  len := by rw [Array.length_toList, h.size]; exact info1024
  one := MarksAre.one h
  below := below_setRow.1
  blk := below_setRow.2
def MovesR (r : List (Int × Int) × Bool) (w : World) (e : Ending) (w' : World) : Prop := ∃ (O : Option Addr) (ocap : Nat), e = .returned (.tuple #[.slice O r.1.length ocap, .bool r.2]) ∧ RU w' w'.heap.size O r.1 ∧ Below w.heap.size w w'
set_option maxRecDepth 100000 in
set_option maxHeartbeats 6400000 in
theorem refEmpty_any (pg P : Nat) (A : Option Addr) (n cap : Nat) (bs : List B3) (o k : Nat) (w : World) (hP : P ≤ 10) (hpg : pg = 2 ^ P) (hoP : o ≤ P) (hk : k * 2 ^ o + 2 ^ o ≤ pg) (hn : bs.length = n) (hr : RT w w.heap.size A bs) (ok : okB (pg : Int) bs) (R : List (Int × Int) × Bool) (hE : refEmptyB pg bs o k = R) :
    Calls Try.prog 44 #[.int .i64 pg, .slice A n cap, bV (placeB o k)] w (MovesR R w) := by
  have hpg1024 : pg ≤ 1024 := by rw [hpg]; exact Nat.pow_le_pow_right (by decide) hP
  have hn64 : n ≤ 64 := by rw [← hn]; exact ok.len
  have hcin : insB (pg : Int) (placeB o k).1 (placeB o k).2.1 = true := insB_iff.2 ⟨⟨by simp only; omega, by simp only; omega⟩, by simp only; omega, by simp only [pw_nat]; rw [← Int.natCast_emod, Nat.mul_mod_left]; rfl, by simp only [pw_nat]; omega⟩
  have hokp := Lib.hid (fun b hb => ins_okPl (pages := (pg : Int)) (by omega) (ok.ins b hb))
  have hokc := ins_okPl (pages := (pg : Int)) (by omega) hcin
  have hordP : Hid (∀ j, j < n → ordB bs j ≤ P) := Lib.hid (fun j hj => by
    have h1 := insB_iff.1 (ok.ins _ (memD (cs := bs) (k := j) (by omega)))
    have h2 := ord_int ok (i := j) (by omega)
    rw [h2.1, pw_nat] at h1
    exact pow_le_iff.1 (by rw [← hpg]; omega))
  have hordI := Lib.hid (fun j (hj : j < n) => ord_int ok (i := j) (by omega))
  have hTk := Lib.hid (fun W (h : RT W W.heap.size A bs) => taken_any pg A n cap bs o k W hpg1024 hn h ok hcin)
  have hFit := Lib.hid (fun cs m A2 n2 cap2 os W (hM : MarksAre cs m) (h1 : os.length = n2) (h2 : n2 ≤ 1000) (h3 : ∀ o ∈ os, o ≤ P) h4 => refFit_any cs m pg P A2 n2 cap2 os W hM hP hpg h1 h2 h3 h4)
  have hFr := Lib.hid (fun cs m x od a W (hM : MarksAre cs m) (h1 : od ≤ 10) h2 h3 => refFree_any cs m pg x od a W hM hpg1024 h1 h2 h3)
  obtain ⟨c, hc⟩ : ∃ c, placeB o k = c := ⟨_, rfl⟩
  have hE' : Hid (R = if staysM bs (o : Int) (movedB bs c) = true then ([], false) else emptyB pg bs c (movedB bs c)) := Lib.hid (by rw [← hE, ← hc]; rfl)
  have hEm : Hid (∀ l, emptyB pg bs c l = if holdsB (frB pg (markC bs o k)) (l.map (ordB bs)) = true then (greedy pg bs (markC bs o k) l, true) else ([], false)) := Lib.hid (fun l => by rw [← hc]; exact emptyB_place pg bs o k l)
  have HO := Lib.hid (fun j (hj : j < n) W => over_any (bs.getD j b0) c W (hokp.out _ (memD (by omega))) (by rw [← hc]; exact hokc))
  obtain ⟨x, hx⟩ : ∃ x, k * 2 ^ o = x := ⟨_, rfl⟩
  have hbv : bV c = .agg #[.int .i64 (x : Int), .int .i64 (o : Int), .bool false] := by rw [← hx, ← hc]
  rw [hc] at hTk ⊢
  rw [hbv] at hTk HO ⊢
  generalize markC bs o k = mC at *
  have hb0 := (Below.refl w.heap.size w).alloc (Nat.le_refl _) (.cells #[.int .i64 (x : Int), .int .i64 (o : Int), .bool false] 44)
  have kC := Blk.new w 44 #[.int .i64 (x : Int), .int .i64 (o : Int), .bool false]
  obtain ⟨s, hs⟩ : ∃ s, w.heap.size = s := ⟨_, rfl⟩
  have hs1 : (w.alloc (.cells #[.int .i64 (x : Int), .int .i64 (o : Int), .bool false] 44)).heap.size = s + 1 := by rw [World.size_alloc, hs]
  have hrS : RT w s A bs := by rw [← hs]; exact hr
  rw [hs] at kC hb0
  have hs' := Lib.hid hs
  have hn' := Lib.hid hn
  have hpg' := Lib.hid hpg
  obtain ⟨i0, hi0, hz0, hz1, hz2⟩ := info_parts info_int
  clear hcin hokc ok hn hr hE hbv hc hx hpg hk
  go_enter Try.func44, Try.ntmps44
  go_upto_region 1 with fail
  clear hs
  generalize w.alloc (Obj.cells #[.int .i64 (x : Int), .int .i64 (o : Int), .bool false] 44) = w1 at *
  go_wp2_with fail
  go_loopw [8, 9, 10] (fun v8 v9 i wr => ∃ (j : Nat) (l : List Nat), j ≤ n ∧ i = .int .i64 j ∧ Hid (l = mvP bs c j ∧ staysM bs (o : Int) l = false) ∧ l.length ≤ j ∧ wr.ownsRow (s + 1) 3 1 v8 l.length (l.map fun i => Value.int .i64 (i : Nat)) ∧ wr.ownsRow (s + 1) 3 1 v9 l.length (l.map fun i => Value.int .i64 ((ordB bs i : Nat) : Int)) ∧ (∀ g, v8.ownBlock = some g → v9.ownBlock ≠ some g) ∧ Blk wr s 44 #[.int .i64 (x : Int), .int .i64 (o : Int), .bool false] ∧ Below s w wr ∧ s + 1 ≤ wr.heap.size) (fun _ _ i _ => n - (intOf i).toNat)
  case atStart => exact ⟨0, [], by omega, rfl, Lib.hid ⟨rfl, rfl⟩, by simp, World.ownsRow_nil _ _ _ _, World.ownsRow_nil _ _ _ _, fun g h => by simp [Value.ownBlock] at h, kC, hb0, by omega⟩
  case round =>
    clear kC hb0 hs1
    obtain ⟨j, l, hj, rfl, hL, hlj, hrow8, hrow9, hne, kC, hB, hsz⟩ := hrel
    by_cases hjn : j < n
    · have hjn' : decide ((j : Int) < (n : Int)) = true := by simpa using hjn
      obtain ⟨b, oo, rfl, hbs, d1, d2, d3⟩ := (hrS.below hB).at_ (k := j) (by have := hn'.out; omega)
      have HOj := Lib.hid (HO.out j hjn)
      have hms := Lib.hid (mvP_succ bs c j)
      have hst := Lib.hid (staysM_snoc bs (o : Int) l j)
      have hoj := hordI.out j hjn
      have hmv : Hid (overB (bs.getD j b0) c = true → ((bs.getD j b0).2.2 || decide ((o : Int) < (bs.getD j b0).2.1)) = true → staysM bs (o : Int) (movedB bs c) = true) := Lib.hid (fun h1 h2 => List.any_eq_true.2 ⟨j, moved_iff.2 ⟨by have := hn'.out; omega, h1⟩, h2⟩)
      have hord : Hid (((ordB bs j : Nat) : Int) = (bs.getD j b0).2.1) := Lib.hid hoj.1.symm
      generalize bs.getD j b0 = y at *
      obtain ⟨ya, yo, yc⟩ := y
      simp only at d1 d2 d3 hst hmv hord hoj HOj
      have hoj10 := hoj.2
      clear hoj
      have cC := kC.cell
      have q1 := fun z : Ext wr => z.cell d1
      have q2 := fun z : Ext wr => z.cell d2
      have q3 := fun z : Ext wr => z.cell d3
      have q4 := fun z : Ext wr => (z.blk kC).cell
      cases hov : overB (ya, yo, yc) c with
      | false =>
        rw [hov] at HOj hms
        have G := Lib.hid (fun z : Ext wr => Ext.call (x := z) (HOj.out z.w))
        have hL2 : Hid (l = mvP bs c (j + 1) ∧ staysM bs (o : Int) l = false) := Lib.hid ⟨by rw [hms.out, ← hL.out.1]; simp, hL.out.2⟩
        clear hov hmv hst hms hL
        go_upto_region 5 with fail
        refine region_ext (by kernel_rfl) (by kernel_rfl) ?_
        repeat (go_big_quiet_step ((go_at_call 42; exact G.out _)))
        refine wpQuiet_nil ?_
        rintro w5 ⟨⟨_, hw5⟩, rfl⟩
        have hs5 := hw5.size
        go_wp2_with fail
        go_roundw
        case rel => exact ⟨j + 1, l, by omega, by go_num, hL2, by omega, ownsRow_call hrow8 hw5, ownsRow_call hrow9 hw5, hne, kC.call hw5, hB.trans (hw5.mono (by omega)), by omega⟩
        case measure => simp [intOf]; omega
      | true =>
        rw [hov] at HOj hms
        have G := Lib.hid (fun z : Ext wr => Ext.call (x := z) (HOj.out z.w))
        have hmv2 := Lib.hid (hmv.out hov)
        clear hov hmv
        go_upto_region 5 with fail
        refine region_ext (by kernel_rfl) (by kernel_rfl) ?_
        repeat (go_big_quiet_step ((go_at_call 42; exact G.out _)))
        refine wpQuiet_nil ?_
        rintro w5 ⟨⟨_, hw5⟩, rfl⟩
        have hs5 := hw5.size
        have row8 := ownsRow_call hrow8 hw5
        have row9 := ownsRow_call hrow9 hw5
        have kC5 := kC.call hw5
        have B5 := hB.trans (hw5.mono (by omega))
        have d5 := (hw5.cell (World.block_lt_of_cell? _ _ d1)).trans d1
        have e5 := (hw5.cell (World.block_lt_of_cell? _ _ d2)).trans d2
        have f5 := (hw5.cell (World.block_lt_of_cell? _ _ d3)).trans d3
        clear q1 q2 q3 q4 G hrow8 hrow9 kC hB cC d1 d2 d3 hw5
        go_upto_region 6 with fail
        have cC5 := kC5.cell
        have q1 := fun z : Ext w5 => z.cell d5
        have q2 := fun z : Ext w5 => z.cell e5
        have q3 := fun z : Ext w5 => z.cell f5
        have q4 := fun z : Ext w5 => (z.blk kC5).cell
        cases yc with
        | true =>
          have hRR : Hid (R = ([], false)) := Lib.hid (by rw [hE'.out, if_pos (hmv2.out rfl)])
          clear hmv2 hst
          refine region_ext (by kernel_rfl) (by kernel_rfl) ?_
          repeat (go_big_quiet_step (fail))
          refine wpQuiet_nil ?_
          rintro w6 ⟨⟨_, hw6⟩, rfl⟩
          go_wp2_with fail
          go_ret2
          rw [hRR.out]
          exact ⟨none, 0, rfl, RU.nil, by rw [hs'.out]; exact B5.trans (hw6.mono (by omega))⟩
        | false =>
          by_cases hbig : (o : Int) < yo
          · have hbig' : decide ((o : Int) < yo) = true := by simpa using hbig
            have hRR : Hid (R = ([], false)) := Lib.hid (by rw [hE'.out, if_pos (hmv2.out (by rw [hbig']; rfl))])
            clear hmv2 hst hbig
            refine region_ext (by kernel_rfl) (by kernel_rfl) ?_
            repeat (go_big_quiet_step (fail))
            refine wpQuiet_nil ?_
            rintro w6 ⟨⟨_, hw6⟩, rfl⟩
            go_wp2_with fail
            go_ret2
            rw [hRR.out]
            exact ⟨none, 0, rfl, RU.nil, by rw [hs'.out]; exact B5.trans (hw6.mono (by omega))⟩
          · have hbig' : decide ((o : Int) < yo) = false := by simpa using hbig
            have hL2 : Hid (l ++ [j] = mvP bs c (j + 1) ∧ staysM bs (o : Int) (l ++ [j]) = false) := Lib.hid ⟨by rw [hms.out, ← hL.out.1]; simp, by rw [hst.out, hL.out.2, hbig']; rfl⟩
            clear hmv2 hst hbig hL hms
            refine region_ext (by kernel_rfl) (by kernel_rfl) ?_
            repeat (go_big_quiet_step (fail))
            refine wpQuiet_nil ?_
            rintro w6 ⟨⟨_, hw6⟩, rfl⟩
            have hs6 := hw6.size
            have row8b := ownsRow_call row8 hw6
            have row9b := ownsRow_call row9 hw6
            have kC6 := kC5.call hw6
            have B6 := B5.trans (hw6.mono (by omega))
            have e6 := (hw6.cell (World.block_lt_of_cell? _ _ e5)).trans e5
            clear q1 q2 q3 q4 row8 row9 kC5 B5 d5 e5 f5 hw6 cC5
            have kN := Blk.new w6 3 #[.int .i64 (j : Int)]
            have he6 := Lib.hid e6
            have hb6 : b < w6.heap.size := World.block_lt_of_cell? _ _ e6
            go_upto_region 9 with (refine wpList_append_blk _ rfl (.tmp 45) (.tmp 47) 79 rfl (s + 1) 3 i0 (.int .i64 0) 1 8 Try.underlying79 hi0 hz0 hz1 hz2 rfl (by decide) _ l.length (l.map fun i => Value.int .i64 (i : Nat)) rfl (row8b.alloc _) ⟨w6.heap.size, 0, none⟩ 1 1 [.int .i64 (j : Int)] rfl rfl (fun j u hu => by rw [addr_add0, Nat.zero_add, kN.cell]; simpa using hu) (fun u hu => by simp only [List.mem_singleton] at hu; subst hu; rfl) (by unfold maxLen; omega) (by omega) (by simp; omega) ?_; intro v8' w7 hown8 hgrow7 hblk7)
            have hA7 := (Below.refl w6.heap.size w6).alloc (Nat.le_refl _) (.cells #[.int .i64 (j : Int)] 3)
            have row9c : w7.ownsRow (s + 1) 3 1 u9 l.length (l.map fun i => Value.int .i64 ((ordB bs i : Nat) : Int)) := ownsRow_grown (row9b.alloc _) hgrow7 hne
            have hne7 : ∀ g, v8'.ownBlock = some g → u9.ownBlock ≠ some g := fun g h h' => by
              rcases hblk7 g h with h1 | h1
              · exact hne g h1 h'
              · have := (row9b.lt g h').2
                rw [World.size_alloc] at h1
                omega
            have B67 : Below (s + 1) w6 w7 := ((Below.refl (s + 1) w6).alloc (by omega) (.cells #[.int .i64 (j : Int)] 3)).grown hgrow7 (by simp; omega) (fun g hg => ((row8b.alloc (.cells #[.int .i64 (j : Int)] 3)).lt g hg).1)
            have cells7 : w7.cell? ⟨b, oo + j * 3 + 1, none⟩ = some (.int .i64 yo) := (B67.cell (p := ⟨b, oo + j * 3 + 1, none⟩) (by simp only; omega)).trans e6
            have kC7 : Blk w7 s 44 _ := (B67.block s (by omega)).trans kC6
            have B7 := B6.trans (B67.mono (by omega))
            have hb7 : w6.heap.size ≤ w7.heap.size := by have := hgrow7.size; simp at this; omega
            clear hgrow7 hblk7 kN row8b row9b he6 e6
            have kN := Blk.new w7 3 #[.int .i64 yo]
            go_wp2_with (refine wpList_append_blk _ rfl (.tmp 49) (.tmp 55) 79 rfl (s + 1) 3 i0 (.int .i64 0) 1 8 Try.underlying79 hi0 hz0 hz1 hz2 rfl (by decide) _ l.length (l.map fun i => Value.int .i64 ((ordB bs i : Nat) : Int)) rfl (row9c.alloc _) ⟨w7.heap.size, 0, none⟩ 1 1 [.int .i64 yo] rfl rfl (fun j u hu => by rw [addr_add0, Nat.zero_add, kN.cell]; simpa using hu) (fun u hu => by simp only [List.mem_singleton] at hu; subst hu; rfl) (by unfold maxLen; omega) (by omega) (by simp; omega) ?_; intro v9' w8 hown9 hgrow8 hblk8)
            have B78 : Below (s + 1) w7 w8 := ((Below.refl (s + 1) w7).alloc (by omega) (.cells #[.int .i64 yo] 3)).grown hgrow8 (by simp; omega) (fun g hg => ((row9c.alloc (.cells #[.int .i64 yo] 3)).lt g hg).1)
            have row8d : w8.ownsRow (s + 1) 3 1 v8' (l.length + 1) _ := ownsRow_grown (hown8.alloc (.cells #[.int .i64 yo] 3)) hgrow8 (fun g h h' => hne7 g h' h)
            have hne8 : ∀ g, v8'.ownBlock = some g → v9'.ownBlock ≠ some g := fun g h h' => by
              rcases hblk8 g h' with h1 | h1
              · exact hne7 g h h1
              · have := (hown8.lt g h).2
                rw [World.size_alloc] at h1
                omega
            have kC8 : Blk w8 s 44 _ := (B78.block s (by omega)).trans kC7
            have B8 := B7.trans (B78.mono (by omega))
            have hs8 := B78.size
            go_roundw
            case rel => exact ⟨j + 1, l ++ [j], by omega, by go_num, hL2, by rw [List.length_append, List.length_singleton]; omega, by rw [List.length_append, List.length_singleton, List.map_append, List.map_singleton]; exact row8d, by rw [List.length_append, List.length_singleton, List.map_append, List.map_singleton, hord.out]; exact hown9, hne8, kC8, B8, by omega⟩
            case measure => simp [intOf]; omega
    · obtain rfl : j = n := by omega
      have hjn' : decide ((j : Int) < (j : Int)) = false := by simp
      have hl : Hid (movedB bs c = l ∧ staysM bs (o : Int) l = false) := Lib.hid ⟨by unfold movedB; rw [hn'.out]; exact hL.out.1.symm, hL.out.2⟩
      have hRl : Hid (R = if holdsB (frB pg mC) (l.map (ordB bs)) = true then (greedy pg bs mC l, true) else ([], false)) := Lib.hid (by
        rw [hE'.out, hl.out.1, if_neg (by rw [hl.out.2]; simp), hEm.out])
      have hlt3 : Hid (∀ i ∈ l, i < j) := Lib.hid (fun i hi => by rw [hL.out.1] at hi; exact mvP_lt hi)
      have hoe8 : (l.map fun i => Value.int .i64 (i : Nat)) = ((l.map fun i : Nat => (i : Int)).map (Value.int .i64)) := by simp
      have hoe9 : (l.map fun i => Value.int .i64 ((ordB bs i : Nat) : Int)) = ((l.map (ordB bs)).map fun o : Nat => (o : Int)).map (Value.int .i64) := by simp
      rw [hoe8] at hrow8
      rw [hoe9] at hrow9
      obtain ⟨A8, c8, rfl, hri8, hc8⟩ := own_RIx hrow8 (by simp)
      obtain ⟨A9, c9, rfl, hri9, hc9⟩ := own_RIx hrow9 (by simp)
      obtain ⟨ml, hml⟩ : ∃ ml, l.length = ml := ⟨_, rfl⟩
      rw [hml] at hlj hc8 hc9 ⊢
      have hml' := Lib.hid hml
      have hr0 := (hrS.below hB).more (show s ≤ wr.heap.size by omega)
      have HT := Lib.hid (hTk.out wr hr0)
      clear hoe8 hoe9 hrow8 hrow9 hL hl hE' hEm hml hne HO hTk
      have cC := kC.cell
      obtain ⟨Z, hZe, hZ⟩ := z84_ex
      have hZe' := Lib.hid hZe
      clear hZe
      go_upto_region 11 with (first
        | (go_at_call 59; refine HT.out.mono ?_; rintro e w2 ⟨cs, rfl, hM, hb2⟩; have hC := Lib.hid (copyM w2 Z cs mC hZ.size hM))
        | (rw [hZe'.out]; refine wpList_store_row rfl 84 (.tmp 11) (.tmp 59) rfl w2.heap.size cs rfl rfl 84 _ hC.out.new hC.out.info hC.out.size hC.out.one ?_))
      have hb3 := hb2.trans (hC.out.below.mono hb2.size)
      have kM3 := hC.out.blk
      have hlenT := Lib.hid hC.out.len
      obtain ⟨bM, hbM⟩ : ∃ bM, w2.heap.size = bM := ⟨_, rfl⟩
      have hbMs : wr.heap.size ≤ bM := by rw [← hbM]; exact hb2.size
      have hB3 := hB.trans (hb3.mono (by omega))
      rw [hbM] at kM3 ⊢
      have hM' := Lib.hid hM
      obtain ⟨w3, hw3⟩ : ∃ w3, (w2.alloc (.cells Z 84)).setRow bM cs = w3 := ⟨_, rfl⟩
      rw [hbM, hw3] at hb3 hB3
      rw [hw3] at kM3 ⊢
      have hs3 := kM3.lt
      have hri8b := (hri8.below hb3).more (show wr.heap.size ≤ bM by omega)
      have hri9b := (hri9.below hb3).more (show wr.heap.size ≤ bM by omega)
      have hos : Hid (∀ q ∈ l.map (ordB bs), q ≤ P) := Lib.hid (fun q hq => by
        obtain ⟨i, hi, rfl⟩ := List.mem_map.1 hq
        exact hordP.out i (by have := hlt3.out i hi; omega))
      have hFm := Lib.hid (hFit.out cs mC A9 ml c9 (l.map (ordB bs)) w3 hM (by rw [List.length_map, hml'.out]) (by omega) hos.out (hri9b.more (by omega)))
      clear HT hri8 hri9 hC hM hb2 hb3 kC cC hw3 hbM
      cases hh : holdsB (frB pg mC) (l.map (ordB bs)) with
      | false =>
        rw [hh] at hFm
        have hRR : Hid (R = ([], false)) := Lib.hid (by rw [hRl.out, hh]; rfl)
        clear hRl hh
        go_wp2_with (first
          | (refine wpList_load_mid rfl 84 (.tmp 11) rfl bM 0 rfl cs.toList _ (rangeAt_blk kM3) Try.underlying84 rfl hlenT.out ?_; rw [Array.toArray_toList])
          | (go_at_call 60; refine hFm.out.mono ?_; rintro e w4 ⟨rfl, hb4⟩))
        go_ret2
        rw [hRR.out]
        exact ⟨none, 0, rfl, RU.nil, by rw [hs'.out]; exact hB3.trans (hb4.mono (by omega))⟩
      | true =>
        rw [hh] at hFm
        have hRR : Hid (R = (greedy pg bs mC l, true)) := Lib.hid (by rw [hRl.out, if_pos hh])
        clear hRl hh
        go_upto_region 13 with (first
          | (refine wpList_load_mid rfl 84 (.tmp 11) rfl bM 0 rfl cs.toList _ (rangeAt_blk kM3) Try.underlying84 rfl hlenT.out ?_; rw [Array.toArray_toList])
          | (go_at_call 60; refine hFm.out.mono ?_; rintro e w4 ⟨rfl, hb4⟩))
        have hMk4 : Hid (Marks w4 bM mC) := Lib.hid ⟨cs, kM3.call hb4, hM'.out⟩
        have hB4 := hB3.trans (hb4.mono (by omega))
        have hs4 : bM + 1 ≤ w4.heap.size := by have := hb4.size; omega
        have r8 := hri8b.below (hb4.mono (by omega))
        have r9 := hri9b.below (hb4.mono (by omega))
        clear hFm hri8b hri9b kM3 hB3 hb4 hs3
        go_wp2_with fail
        go_loopw [12, 13] (fun v12 i wx => ∃ (q : Nat) (m : Nat → Bool) (done : List (Int × Int)), q ≤ ml ∧ i = .int .i64 q ∧ Hid (Marks wx bM m) ∧ wx.ownsRow (bM + 1) 42 2 v12 done.length (spCells done) ∧ Hid (done ++ greedy pg bs m (l.drop q) = greedy pg bs mC l) ∧ done.length ≤ q ∧ Below bM w4 wx ∧ bM + 1 ≤ wx.heap.size) (fun _ i _ => ml - (intOf i).toNat)
        case atStart => exact ⟨0, mC, [], by omega, rfl, hMk4, World.ownsRow_nil _ _ _ _, Lib.hid (by simp), by simp, Below.refl _ _, hs4⟩
        case round =>
          clear hMk4
          obtain ⟨q, m, done, hq, rfl, hMk, hrow, hG, hdk, hBx, hsx⟩ := hrel
          by_cases hlt : q < ml
          · have hlt' : decide ((q : Int) < (ml : Int)) = true := by simpa using hlt
            obtain ⟨b8, o8, rfl, hb8, d8⟩ := (r8.below hBx).at_ (k := q) (by rw [List.length_map]; have := hml'.out; omega)
            obtain ⟨b9, o9, rfl, hb9, d9⟩ := (r9.below hBx).at_ (k := q) (by rw [List.length_map, List.length_map]; have := hml'.out; omega)
            obtain ⟨li, hli⟩ : ∃ li, l.getD q 0 = li := ⟨_, rfl⟩
            have hg8 : (l.map fun i : Nat => (i : Int)).getD q 0 = (li : Int) := by
              rw [← hli]
              simp only [List.getD_eq_getElem?_getD, List.getElem?_map]
              rw [List.getElem?_eq_getElem (by have := hml'.out; omega)]; simp
            have hg9 : ((l.map (ordB bs)).map fun o : Nat => (o : Int)).getD q 0 = ((ordB bs li : Nat) : Int) := by
              rw [← hli]
              simp only [List.getD_eq_getElem?_getD, List.getElem?_map]
              rw [List.getElem?_eq_getElem (by have := hml'.out; omega)]; simp
            rw [hg8] at d8
            rw [hg9] at d9
            have hmem : li ∈ l := by rw [← hli, List.getD_eq_getElem?_getD, List.getElem?_eq_getElem (by have := hml'.out; omega)]; simp
            have hdr : l.drop q = li :: l.drop (q + 1) := by rw [Go.Pol.drop_cons 0 l q (by have := hml'.out; omega), hli]
            obtain ⟨od, hod⟩ : ∃ od, ordB bs li = od := ⟨_, rfl⟩
            have hodP : od ≤ P := by rw [← hod]; exact hordP.out li (by have := hlt3.out li hmem; omega)
            rw [hod] at d9
            obtain ⟨Q, hQ⟩ : ∃ Q, pg / 2 ^ od = Q := ⟨_, rfl⟩
            have hpq : pg = Q * 2 ^ od := by rw [← hQ]; exact (Nat.div_mul_cancel (by rw [hpg'.out]; exact Nat.pow_dvd_pow 2 hodP)).symm
            obtain ⟨rest, hrest⟩ : ∃ rest, l.drop (q + 1) = rest := ⟨_, rfl⟩
            obtain ⟨pred, hpred⟩ : ∃ pred : Nat → Bool, (fun a => frB pg m od a && holdsB (frB pg (markB m (a * 2 ^ od) od)) (rest.map (ordB bs))) = pred := ⟨_, rfl⟩
            have hpick : Hid (pickB pg bs m li rest = firstB pred Q 0) := Lib.hid (by unfold pickB; rw [hod, hpred, hQ])
            have hgr : Hid (greedy pg bs m (l.drop q) = match firstB pred Q 0 with | some a => ((li : Int), ((a * 2 ^ od : Nat) : Int)) :: greedy pg bs (markB m (a * 2 ^ od) od) rest | none => greedy pg bs m rest) := Lib.hid (by
              rw [hdr, hrest, greedy, hpick.out, hod]
              cases firstB pred Q 0 <;> rfl)
            have HS := Lib.hid (fun W => refSize_any (od : Int) W ⟨by omega, by omega⟩)
            rw [pw_nat] at HS
            obtain ⟨sz, hsz⟩ : ∃ sz, 2 ^ od = sz := ⟨_, rfl⟩
            have hsz1 : 1 ≤ sz := by rw [← hsz]; exact Nat.two_pow_pos od
            have hsz1024 : sz ≤ 1024 := by rw [← hsz]; exact Nat.le_trans (Nat.pow_le_pow_right (by decide) (show od ≤ 10 by omega)) (by decide)
            rw [hsz] at HS hpq hgr
            have hpred' := Lib.hid hpred
            have hQ' := Lib.hid hQ
            have hrest' := Lib.hid hrest
            have hsz' := Lib.hid hsz
            have hpq' := Lib.hid hpq
            obtain ⟨wX, rfl⟩ : ∃ wX, wX = wr := ⟨_, rfl⟩
            clear hg8 hg9 hli hmem hdr hod hQ hpq hrest hpred hsz hpick
            go_wp2_with fail
            go_loopw [12, 14] (fun s12 i wy => ∃ a x : Nat, a ≤ Q ∧ i = .int .i64 x ∧ u12 = s12 ∧ Hid (x = a * sz) ∧ Hid (firstB pred Q 0 = firstB pred (Q - a) a) ∧ Below wX.heap.size wX wy) (fun _ i _ => pg + 1 - (intOf i).toNat)
            case atStart => exact ⟨0, 0, by omega, rfl, rfl, Lib.hid (by simp), Lib.hid rfl, Below.refl _ _⟩
            case round =>
              obtain ⟨a, x, ha, rfl, rfl, hx, hfi, hBy⟩ := hrel
              have hsy := hBy.size
              by_cases haQ : a < Q
              · have hxs : x + sz ≤ pg := by
                  have := Nat.mul_le_mul_right sz (show a + 1 ≤ Q by omega)
                  rw [Nat.succ_mul, ← hx.out, ← hpq'.out] at this
                  exact this
                have hlx' : decide ((x : Int) < (pg : Int)) = true := by simp; omega
                have hlx2 : decide (x < pg) = true := by simp; omega
                obtain ⟨cm, kM, hcm⟩ := hMk.out.call hBy
                have e9 := (hBy.cell (World.block_lt_of_cell? _ _ d9)).trans d9
                have e8 := (hBy.cell (World.block_lt_of_cell? _ _ d8)).trans d8
                have hlenM : (Try.prog.info? 84).map (·.size) = some cm.toList.length := by rw [Array.length_toList, hcm.size]; exact info1024
                have hld := fun z : Ext wr => run_loadVar_mid (P := Try.prog) z.w bM 0 84 cm.toList _ (rangeAt_blk (z.blk kM)) Try.underlying84 rfl hlenM
                simp only [Array.toArray_toList] at hld
                have q9 := fun z : Ext wr => z.cell e9
                have HFx := Lib.hid (fun W => hFr.out cm m x od a W hcm (by omega) (by rw [hsz'.out]; exact hx.out.symm) (by omega))
                have hcm' := Lib.hid hcm
                have hlenM' := Lib.hid hlenM
                cases hf : frB pg m od a with
                | false =>
                  rw [hf] at HFx
                  have hfi2 : Hid (firstB pred Q 0 = firstB pred (Q - (a + 1)) (a + 1)) := Lib.hid (by
                    rw [hfi.out, show Q - a = Q - (a + 1) + 1 by omega, firstB, if_neg (by rw [← hpred'.out]; simp [hf])])
                  have G := Lib.hid (fun z : Ext wr => Ext.call (x := z) (HFx.out z.w))
                  clear hf hfi hcm hlenM
                  go_upto_region 20 with fail
                  refine region_ext (by kernel_rfl) (by kernel_rfl) ?_
                  refine wpQuiet_load (.tmp 11) 84 ⟨bM, 0, none⟩ (.agg cm) rfl rfl rfl (by rintro _ ⟨z, rfl⟩; exact hld z) ?_
                  simp only [Act.put, List.setIfInBounds_toArray, List.set_cons_zero, List.set_cons_succ]
                  repeat (go_big_quiet_step ((go_at_call 61; exact G.out _)))
                  refine wpQuiet_nil ?_
                  rintro w6 ⟨⟨_, hw6⟩, rfl⟩
                  have e96 := (hw6.cell (World.block_lt_of_cell? _ _ e9)).trans e9
                  clear q9 hld G
                  go_wp2_with (go_at_call 22; refine (HS.out _).mono ?_; rintro e wS ⟨rfl, hwS⟩; replace hwS := hwS.symm; subst hwS)
                  go_roundw
                  case rel => exact ⟨a + 1, x + sz, by omega, by go_num, rfl, Lib.hid (by rw [hx.out, Nat.succ_mul]), hfi2, hBy.trans (hw6.mono hsy)⟩
                  case measure => simp [intOf]; omega
                | true =>
                  rw [hf] at HFx
                  have hfT := Lib.hid hf
                  have G := Lib.hid (fun z : Ext wr => Ext.call (x := z) (HFx.out z.w))
                  clear hf hcm hlenM
                  go_upto_region 20 with fail
                  refine region_ext (by kernel_rfl) (by kernel_rfl) ?_
                  refine wpQuiet_load (.tmp 11) 84 ⟨bM, 0, none⟩ (.agg cm) rfl rfl rfl (by rintro _ ⟨z, rfl⟩; exact hld z) ?_
                  simp only [Act.put, List.setIfInBounds_toArray, List.set_cons_zero, List.set_cons_succ]
                  repeat (go_big_quiet_step ((go_at_call 61; exact G.out _)))
                  refine wpQuiet_nil ?_
                  rintro w6 ⟨⟨_, hw6⟩, rfl⟩
                  have hB6 := hBy.trans (hw6.mono hsy)
                  have e96 := (hw6.cell (World.block_lt_of_cell? _ _ e9)).trans e9
                  have e86 := (hw6.cell (World.block_lt_of_cell? _ _ e8)).trans e8
                  have kM6 := kM.call hw6
                  have hC6 := Lib.hid (copyM w6 Z cm m hZ.size hcm'.out)
                  have hs6 := hw6.size
                  clear q9 hld G kM e9 e8 hBy hw6
                  go_upto_region 22 with (first
                    | (refine wpList_load_mid rfl 84 (.tmp 11) rfl bM 0 rfl cm.toList _ (rangeAt_blk kM6) Try.underlying84 rfl hlenM'.out ?_; rw [Array.toArray_toList])
                    | (rw [hZe'.out]; refine wpList_store_row rfl 84 (.tmp 15) (.tmp 90) rfl w6.heap.size cm rfl rfl 84 _ hC6.out.new hC6.out.info hC6.out.size hC6.out.one ?_))
                  have hb7 := hC6.out.below
                  have kT7 := hC6.out.blk
                  obtain ⟨bT, hbT⟩ : ∃ bT, w6.heap.size = bT := ⟨_, rfl⟩
                  rw [hbT] at hb7 kT7 ⊢
                  obtain ⟨w7, hw7⟩ : ∃ w7, (w6.alloc (.cells Z 84)).setRow bT cm = w7 := ⟨_, rfl⟩
                  rw [hw7] at hb7 kT7 ⊢
                  have hbTs : wX.heap.size ≤ bT := by rw [← hbT]; exact hB6.size
                  have hB7 := hB6.trans (hb7.mono hbTs)
                  have hs7 := kT7.lt
                  have e97 := (hb7.cell (p := ⟨b9, o9 + q, none⟩) (by show b9 < bT; omega)).trans e96
                  clear hw7 hbT hC6 kM6 e96 hB6 hs6
                  go_wp2_with fail
                  go_loopw [16] (fun i wz => ∃ (p : Nat) (cz : Array Value), x ≤ p ∧ p ≤ x + sz ∧ i = .int .i64 p ∧ Blk wz bT 84 cz ∧ Hid (MarksAre cz (fun y => m y || (decide (x ≤ y) && decide (y < p)))) ∧ Below bT w7 wz ∧ bT + 1 ≤ wz.heap.size) (fun i _ => x + sz - (intOf i).toNat)
                  case atStart => exact ⟨x, cm, by omega, by omega, rfl, kT7, Lib.hid (hcm'.out.congr (fun y _ => by
                    have : (decide (x ≤ y) && decide (y < x)) = false := by
                      by_cases h : x ≤ y
                      · rw [decide_eq_false (show ¬ y < x by omega)]; simp
                      · rw [decide_eq_false h]; simp
                    rw [this, Bool.or_false])), Below.refl _ _, by omega⟩
                  case round =>
                    clear kT7
                    obtain ⟨p, cz, hp1, hp2, rfl, kT, hMz, hBz, hsz2⟩ := hrel
                    have e9z := (hBz.cell (p := ⟨b9, o9 + q, none⟩) (by show b9 < bT; omega)).trans e97
                    by_cases hpl : p < x + sz
                    · have hp' : decide ((p : Int) < (x : Int) + (sz : Int)) = true := by rw [decide_eq_true_eq]; omega
                      have hp3 : decide (p < x + sz) = true := by simpa using hpl
                      have hmm := Lib.hid (hMz.out.set (g := fun y => m y || (decide (x ≤ y) && decide (y < p + 1))) p (by omega) true (by
                        simp only [decide_eq_true hp1, decide_eq_true (show p < p + 1 by omega), Bool.and_true, Bool.or_true]) (fun y hy => by
                        have : decide (y < p + 1) = decide (y < p) := by
                          by_cases h : y < p
                          · rw [decide_eq_true h, decide_eq_true (by omega)]
                          · rw [decide_eq_false h, decide_eq_false (by omega)]
                        simp only [this]))
                      have hold := (kT.cell p).trans (hMz.out.at_ p (by omega))
                      have fT := kT.frozen
                      clear hMz
                      generalize (m p || (decide (x ≤ p) && decide (p < p))) = B0 at hold
                      go_wp2_with (go_at_call 22; refine (HS.out _).mono ?_; rintro e wS ⟨rfl, hwS⟩; replace hwS := hwS.symm; subst hwS)
                      go_roundw
                      case rel => exact ⟨p + 1, _, by omega, by omega, by go_num, kT.set_ p (.bool true), hmm, hBz.setCell (p := ⟨bT, p, none⟩) (Nat.le_refl _) _, by simp [World.setCell]; omega⟩
                      case measure => simp [intOf]; omega
                    · obtain rfl : p = x + sz := by omega
                      have hp' : decide (((x + sz : Nat) : Int) < (x : Int) + (sz : Int)) = false := by simp
                      have hp3 : decide ((x : Int) + (sz : Int) < (x : Int) + (sz : Int)) = false := by simp
                      have hMk2 : Hid (MarksAre cz (markB m (a * sz) od)) := Lib.hid (hMz.out.congr (fun y _ => by
                        unfold markB; rw [← hx.out, hsz'.out]))
                      have hBw : Below wX.heap.size wX wr := hB7.trans (hBz.mono hbTs)
                      go_upto_region 26 with (go_at_call 22; refine (HS.out _).mono ?_; rintro e wS ⟨rfl, hwS⟩; replace hwS := hwS.symm; subst hwS)
                      have r9w : RI wr wr.heap.size (some ⟨b9, o9, none⟩) ((l.map (ordB bs)).map fun o : Nat => (o : Int)) := (((r9.below hBx).below (hBw.mono (by omega))).more (by omega))
                      have hlenZ : (Try.prog.info? 84).map (·.size) = some cz.toList.length := by rw [Array.length_toList, hMk2.out.size]; exact info1024
                      have hld := fun z : Ext wr => run_loadVar_mid (P := Try.prog) z.w bT 0 84 cz.toList _ (rangeAt_blk (z.blk kT)) Try.underlying84 rfl hlenZ
                      simp only [Array.toArray_toList] at hld
                      have hlenZ' := Lib.hid hlenZ
                      have hnil : Hid (c9 = q + 1 → rest = []) := Lib.hid (fun h => by rw [← hrest'.out]; exact List.drop_of_length_le (by rw [hml'.out]; omega))
                      have htl : Hid (RI wr wr.heap.size ((some ⟨b9, o9, none⟩ : Option Addr).map fun x => ({ block := x.block, off := x.off + (q + 1), spot := none } : Addr)) ((rest.map (ordB bs)).map fun o : Nat => (o : Int))) := Lib.hid (by
                        have h := RI.tail_ (q + 1) r9w
                        rwa [← List.map_drop, ← List.map_drop, hrest'.out] at h)
                      have hosr : Hid (∀ v ∈ rest.map (ordB bs), v ≤ P) := Lib.hid (fun v hv => by
                        refine hos.out v ?_
                        rw [← hrest'.out, List.map_drop] at hv
                        exact List.mem_of_mem_drop hv)
                      have hFz := Lib.hid (fun (A' : Option Addr) (c' : Nat) (h : RI wr wr.heap.size A' ((rest.map (ordB bs)).map fun o : Nat => (o : Int))) (z : Ext wr) => Ext.call (x := z) (hFit.out cz (markB m (a * sz) od) A' (ml - (q + 1)) c' (rest.map (ordB bs)) z.w hMk2.out (by rw [List.length_map, ← hrest'.out, List.length_drop, hml'.out]) (by omega) hosr.out ((h.below z.le).more z.le.size)))
                      clear hlenZ r9w hMz hp' hp3 hpl hp1 hp2
                      by_cases hcq : c9 = q + 1
                      · have hite : (c9 = q + 1) = True := by simp [hcq]
                        have G := Lib.hid (fun z : Ext wr => hFz.out (some ⟨b9, o9, none⟩) (c9 - (q + 1)) (by rw [hnil.out hcq]; exact RI.nil) z)
                        clear hFz hcq htl hnil
                        refine region_ext (by kernel_rfl) (by kernel_rfl) ?_
                        refine wpQuiet_load (.tmp 15) 84 ⟨bT, 0, none⟩ (.agg cz) rfl rfl rfl (by rintro _ ⟨z, rfl⟩; exact hld z) ?_
                        simp only [Act.put, List.setIfInBounds_toArray, List.set_cons_zero, List.set_cons_succ]
                        repeat (go_big_quiet_step ((go_at_call 60; exact G.out _)))
                        refine wpQuiet_nil ?_
                        rintro w9 ⟨⟨_, hw9⟩, rfl⟩
                        have kT9 := kT.call hw9
                        have hBw9 := hBw.trans (hw9.mono (by have := hBw.size; omega))
                        have hs9 := hw9.size
                        have e99 := (hBw9.cell (World.block_lt_of_cell? _ _ d9)).trans d9
                        have e89 := (hBw9.cell (World.block_lt_of_cell? _ _ d8)).trans d8
                        clear hld G hw9 e9z hBz kT
                        cases hh : holdsB (frB pg (markB m (a * sz) od)) (rest.map (ordB bs)) with
                        | false =>
                          have hfi2 : Hid (firstB pred Q 0 = firstB pred (Q - (a + 1)) (a + 1)) := Lib.hid (by
                            rw [hfi.out, show Q - a = Q - (a + 1) + 1 by omega, firstB, if_neg (by rw [← hpred'.out]; simp [hfT.out, hsz'.out, hh])])
                          clear hh hfi
                          go_wp2_with (go_at_call 22; refine (HS.out _).mono ?_; rintro e wS ⟨rfl, hwS⟩; replace hwS := hwS.symm; subst hwS)
                          go_roundw
                          case rel => exact ⟨a + 1, x + sz, by omega, by go_num, rfl, Lib.hid (by rw [hx.out, Nat.succ_mul]), hfi2, hBw9⟩
                          case measure => simp [intOf]; omega
                        | true =>
                          have hfi2 : Hid (firstB pred Q 0 = some a) := Lib.hid (by
                            rw [hfi.out, show Q - a = Q - (a + 1) + 1 by omega, firstB, if_pos (by rw [← hpred'.out]; simp [hfT.out, hsz'.out, hh])])
                          have hG2 : Hid (done ++ [((li : Int), (x : Int))] ++ greedy pg bs (markB m (a * sz) od) (l.drop (q + 1)) = greedy pg bs mC l) := Lib.hid (by
                            rw [← hG.out, hgr.out, hfi2.out, hrest'.out, hx.out]; simp only [List.append_assoc, List.singleton_append])
                          obtain ⟨cm9, kM9, hcm9⟩ := hMk.out.call hBw9
                          have hrow9 := ownsRow_call hrow hBw9
                          have kN := Blk.new w9 42 #[.int .i64 (li : Int), .int .i64 (x : Int)]
                          obtain ⟨i1, hi1, hy0, hy1, hy2⟩ := info_parts info_move
                          have hF9 := Lib.hid (⟨by rw [hMk2.out.size]; exact info1024, by rw [Array.length_toList, hMk2.out.size]; exact info1024, by rw [hcm9.size, hMk2.out.size], MarksAre.one hMk2.out⟩ : (Try.prog.info? 84).map (·.size) = some cz.size ∧ (Try.prog.info? 84).map (·.size) = some cz.toList.length ∧ cm9.size = cz.size ∧ cz.all (·.oneCell') = true)
                          have hbMw : bM + 1 ≤ w9.heap.size := by have := hBw9.size; omega
                          clear hh hfi hgr hG hfi2 hcm9
                          go_upto_region 28 with (refine wpList_append_own _ rfl (.tmp 112) (.tmp 119) 23 rfl (bM + 1) 42 i1 (.agg #[.int .i64 0, .int .i64 0]) 2 16 Try.underlying23 hi1 hy0 hy1 hy2 rfl (by decide) _ done.length (spCells done) rfl (hrow9.alloc _) ⟨w9.heap.size, 0, none⟩ 1 1 [.int .i64 (li : Int), .int .i64 (x : Int)] rfl rfl (news_two kN) news_one2 (by unfold maxLen; omega) (by omega) (by simp; omega) ?_; intro v' w10 hown' hgrow _; rw [← spCells_snoc done ((li : Int), (x : Int))] at hown')
                          have kM10 : Blk w10 bM 84 cm9 := (kM9.alloc (.cells #[.int .i64 (li : Int), .int .i64 (x : Int)] 42)).grown hgrow (fun e => Blk.not_row (kM9.alloc (.cells #[.int .i64 (li : Int), .int .i64 (x : Int)] 42)) (hrow9.alloc (.cells #[.int .i64 (li : Int), .int .i64 (x : Int)] 42)) (by decide) e.symm)
                          have kT10 : Blk w10 bT 84 cz := (kT9.alloc (.cells #[.int .i64 (li : Int), .int .i64 (x : Int)] 42)).grown hgrow (fun e => Blk.not_row (kT9.alloc (.cells #[.int .i64 (li : Int), .int .i64 (x : Int)] 42)) (hrow9.alloc (.cells #[.int .i64 (li : Int), .int .i64 (x : Int)] 42)) (by decide) e.symm)
                          have hB10 : Below bM w4 w10 := ((hBx.trans (hBw9.mono (by omega))).alloc (by omega) (.cells #[.int .i64 (li : Int), .int .i64 (x : Int)] 42)).grown hgrow (by simp; omega) (fun g hg => by have := ((hrow9.alloc (.cells #[.int .i64 (li : Int), .int .i64 (x : Int)] 42)).lt g hg).1; omega)
                          have hs10 := kM10.lt
                          clear hgrow kN hrow9 kM9 kT9 e99 e89
                          go_wp2_with (first
                            | (refine wpList_load_mid rfl 84 (.tmp 15) rfl bT 0 rfl cz.toList _ (rangeAt_blk kT10) Try.underlying84 rfl hF9.out.2.1 ?_; rw [Array.toArray_toList])
                            | (refine wpList_store_row rfl 84 (.tmp 11) (.tmp 121) rfl bM cz rfl rfl 84 cm9 kM10 hF9.out.1 hF9.out.2.2.1 hF9.out.2.2.2 ?_))
                          go_roundw
                          case rel => exact ⟨q + 1, markB m (a * sz) od, done ++ [((li : Int), (x : Int))], by omega, by go_num, Lib.hid ⟨cz, setRow_heap _ _ cm9 cz 84 (0, 0) kM10, hMk2.out⟩, by rw [List.length_append]; exact ownsRow_far hown' (far_setRow w10 bM cz) (fun g hg h => by have := (hown'.lt g hg).1; omega), hG2, by rw [List.length_append, List.length_singleton]; omega, hB10.trans ((far_setRow w10 bM cz).below (by omega) (fun k hk => by omega)), by simp [World.setRow]; omega⟩
                          case measure => simp [intOf]; omega
                      · have hite : (c9 = q + 1) = False := by simp [hcq]
                        have G := Lib.hid (fun z : Ext wr => hFz.out (some ⟨b9, o9 + (q + 1), none⟩) (c9 - (q + 1)) htl.out z)
                        clear hFz hcq htl hnil
                        refine region_ext (by kernel_rfl) (by kernel_rfl) ?_
                        refine wpQuiet_load (.tmp 15) 84 ⟨bT, 0, none⟩ (.agg cz) rfl rfl rfl (by rintro _ ⟨z, rfl⟩; exact hld z) ?_
                        simp only [Act.put, List.setIfInBounds_toArray, List.set_cons_zero, List.set_cons_succ]
                        repeat (go_big_quiet_step ((go_at_call 60; exact G.out _)))
                        refine wpQuiet_nil ?_
                        rintro w9 ⟨⟨_, hw9⟩, rfl⟩
                        have kT9 := kT.call hw9
                        have hBw9 := hBw.trans (hw9.mono (by have := hBw.size; omega))
                        have hs9 := hw9.size
                        have e99 := (hBw9.cell (World.block_lt_of_cell? _ _ d9)).trans d9
                        have e89 := (hBw9.cell (World.block_lt_of_cell? _ _ d8)).trans d8
                        clear hld G hw9 e9z hBz kT
                        cases hh : holdsB (frB pg (markB m (a * sz) od)) (rest.map (ordB bs)) with
                        | false =>
                          have hfi2 : Hid (firstB pred Q 0 = firstB pred (Q - (a + 1)) (a + 1)) := Lib.hid (by
                            rw [hfi.out, show Q - a = Q - (a + 1) + 1 by omega, firstB, if_neg (by rw [← hpred'.out]; simp [hfT.out, hsz'.out, hh])])
                          clear hh hfi
                          go_wp2_with (go_at_call 22; refine (HS.out _).mono ?_; rintro e wS ⟨rfl, hwS⟩; replace hwS := hwS.symm; subst hwS)
                          go_roundw
                          case rel => exact ⟨a + 1, x + sz, by omega, by go_num, rfl, Lib.hid (by rw [hx.out, Nat.succ_mul]), hfi2, hBw9⟩
                          case measure => simp [intOf]; omega
                        | true =>
                          have hfi2 : Hid (firstB pred Q 0 = some a) := Lib.hid (by
                            rw [hfi.out, show Q - a = Q - (a + 1) + 1 by omega, firstB, if_pos (by rw [← hpred'.out]; simp [hfT.out, hsz'.out, hh])])
                          have hG2 : Hid (done ++ [((li : Int), (x : Int))] ++ greedy pg bs (markB m (a * sz) od) (l.drop (q + 1)) = greedy pg bs mC l) := Lib.hid (by
                            rw [← hG.out, hgr.out, hfi2.out, hrest'.out, hx.out]; simp only [List.append_assoc, List.singleton_append])
                          obtain ⟨cm9, kM9, hcm9⟩ := hMk.out.call hBw9
                          have hrow9 := ownsRow_call hrow hBw9
                          have kN := Blk.new w9 42 #[.int .i64 (li : Int), .int .i64 (x : Int)]
                          obtain ⟨i1, hi1, hy0, hy1, hy2⟩ := info_parts info_move
                          have hF9 := Lib.hid (⟨by rw [hMk2.out.size]; exact info1024, by rw [Array.length_toList, hMk2.out.size]; exact info1024, by rw [hcm9.size, hMk2.out.size], MarksAre.one hMk2.out⟩ : (Try.prog.info? 84).map (·.size) = some cz.size ∧ (Try.prog.info? 84).map (·.size) = some cz.toList.length ∧ cm9.size = cz.size ∧ cz.all (·.oneCell') = true)
                          have hbMw : bM + 1 ≤ w9.heap.size := by have := hBw9.size; omega
                          clear hh hfi hgr hG hfi2 hcm9
                          go_upto_region 28 with (refine wpList_append_own _ rfl (.tmp 112) (.tmp 119) 23 rfl (bM + 1) 42 i1 (.agg #[.int .i64 0, .int .i64 0]) 2 16 Try.underlying23 hi1 hy0 hy1 hy2 rfl (by decide) _ done.length (spCells done) rfl (hrow9.alloc _) ⟨w9.heap.size, 0, none⟩ 1 1 [.int .i64 (li : Int), .int .i64 (x : Int)] rfl rfl (news_two kN) news_one2 (by unfold maxLen; omega) (by omega) (by simp; omega) ?_; intro v' w10 hown' hgrow _; rw [← spCells_snoc done ((li : Int), (x : Int))] at hown')
                          have kM10 : Blk w10 bM 84 cm9 := (kM9.alloc (.cells #[.int .i64 (li : Int), .int .i64 (x : Int)] 42)).grown hgrow (fun e => Blk.not_row (kM9.alloc (.cells #[.int .i64 (li : Int), .int .i64 (x : Int)] 42)) (hrow9.alloc (.cells #[.int .i64 (li : Int), .int .i64 (x : Int)] 42)) (by decide) e.symm)
                          have kT10 : Blk w10 bT 84 cz := (kT9.alloc (.cells #[.int .i64 (li : Int), .int .i64 (x : Int)] 42)).grown hgrow (fun e => Blk.not_row (kT9.alloc (.cells #[.int .i64 (li : Int), .int .i64 (x : Int)] 42)) (hrow9.alloc (.cells #[.int .i64 (li : Int), .int .i64 (x : Int)] 42)) (by decide) e.symm)
                          have hB10 : Below bM w4 w10 := ((hBx.trans (hBw9.mono (by omega))).alloc (by omega) (.cells #[.int .i64 (li : Int), .int .i64 (x : Int)] 42)).grown hgrow (by simp; omega) (fun g hg => by have := ((hrow9.alloc (.cells #[.int .i64 (li : Int), .int .i64 (x : Int)] 42)).lt g hg).1; omega)
                          have hs10 := kM10.lt
                          clear hgrow kN hrow9 kM9 kT9 e99 e89
                          go_wp2_with (first
                            | (refine wpList_load_mid rfl 84 (.tmp 15) rfl bT 0 rfl cz.toList _ (rangeAt_blk kT10) Try.underlying84 rfl hF9.out.2.1 ?_; rw [Array.toArray_toList])
                            | (refine wpList_store_row rfl 84 (.tmp 11) (.tmp 121) rfl bM cz rfl rfl 84 cm9 kM10 hF9.out.1 hF9.out.2.2.1 hF9.out.2.2.2 ?_))
                          go_roundw
                          case rel => exact ⟨q + 1, markB m (a * sz) od, done ++ [((li : Int), (x : Int))], by omega, by go_num, Lib.hid ⟨cz, setRow_heap _ _ cm9 cz 84 (0, 0) kM10, hMk2.out⟩, by rw [List.length_append]; exact ownsRow_far hown' (far_setRow w10 bM cz) (fun g hg h => by have := (hown'.lt g hg).1; omega), hG2, by rw [List.length_append, List.length_singleton]; omega, hB10.trans ((far_setRow w10 bM cz).below (by omega) (fun k hk => by omega)), by simp [World.setRow]; omega⟩
                          case measure => simp [intOf]; omega
              · obtain rfl : a = Q := by omega
                have hxp : x = pg := by rw [hx.out, ← hpq'.out]
                have hlx' : decide ((x : Int) < (pg : Int)) = false := by simp; omega
                have hlx2 : decide (x < pg) = false := by simp; omega
                have hG2 : Hid (done ++ greedy pg bs m (l.drop (q + 1)) = greedy pg bs mC l) := Lib.hid (by
                  rw [← hG.out, hgr.out, hfi.out, Nat.sub_self, hrest'.out]; rfl)
                have hrow9 := ownsRow_call hrow hBy
                clear hxp hgr hfi hG
                go_wp2_with fail
                go_roundw
                case rel => exact ⟨q + 1, m, done, by omega, by go_num, Lib.hid (hMk.out.call hBy), hrow9, hG2, by omega, hBx.trans (hBy.mono (by omega)), by omega⟩
                case measure => simp [intOf]; omega
          · obtain rfl : q = ml := by omega
            have hlt' : decide ((q : Int) < (q : Int)) = false := by simp
            have hfin : Hid (R = (done, true)) := Lib.hid (by rw [hRR.out, ← hG.out, List.drop_of_length_le (by have := hml'.out; omega)]; simp [greedy])
            obtain ⟨O, oc, rfl, hru, _⟩ := own_RU hrow rfl
            clear hrow hG hRR
            go_wp2_with fail
            go_ret2
            rw [hfin.out]
            exact ⟨O, oc, rfl, hru, by rw [hs'.out]; exact hB4.trans (hBx.mono (by omega))⟩
end Go.Proofs.Ytifdgabfnnkghaa
