/- Merged texts. Walks of layer 5: is a call refused by a plan; is a state one; the next call. Walks of layer 5: is a call refused by a plan; a state that is one is found so; the next call. Walks of layer 5: the next call. Plain words for a simulated system: its pages, what lies in memory, what a change makes of it. Walks of layer 6: all and each over pages; is. Walks of layer 6: what a change may, and what it does. Walks of layer 6: a call is counted, and perhaps refused. Walks of layer 6: make, and the calls that make a change of pages of one kind. Walks of layer 6: Reserve, Commit, Protect, Kind. The cells of a new system. Walks of layer 6: a new system. Walks of layer 6: other refusals for a system; Counts. Walks of layer 6: Release, Decommit; first; Join. Walks of layer 6: Split; Counts. Walks of layer 6: where, Read, Write. The reference's system in memory. Walks of the reference of layer 5: what is wrong with a rule, with a plan; is a call refused; how many are. -/
import Derived.Test.YtefnnfcfigcikaaGreatD5
namespace Go.Pol
open Go Go.RowKit
/-- where the first entry is that a test holds of -/
def idxZ {α : Type} (p : α → Bool) : List α → Nat → Int
  | [], _ => -1
  | x :: r, k => if p x = true then (k : Int) else idxZ p r (k + 1)
theorem idxZ_any {α : Type} (p : α → Bool) : ∀ (bs : List α) (k : Nat), decide (0 ≤ idxZ p bs k) = bs.any p
  | [], k => by simp [idxZ]
  | x :: r, k => by
    rw [idxZ]
    cases h : p x with
    | true => simp [h]
    | false => simp [h, idxZ_any p r (k + 1)]
theorem z_getD_mem {α : Type} {l : List α} {d : α} {k : Nat} (h : k < l.length) : l.getD k d ∈ l := by
  rw [List.getD_eq_getElem?_getD, List.getElem?_eq_getElem h]; exact List.getElem_mem _
theorem z_ret_int {x y : Int} (h : x = y) : Ending.returned (.int .i64 x) = Ending.returned (.int .i64 y) := by rw [h]
theorem z_ret_bool {x y : Bool} (h : x = y) : Ending.returned (.bool x) = Ending.returned (.bool y) := by rw [h]
theorem rfC_calls (v : Value) (cs hs : Nat → Int) {j : Nat} (hj : j < 7) : (rfC v cs hs).toArray[1 + j]? = some (.int .i64 (cs j)) := by
  rcases (show j = 0 ∨ j = 1 ∨ j = 2 ∨ j = 3 ∨ j = 4 ∨ j = 5 ∨ j = 6 by omega) with rfl | rfl | rfl | rfl | rfl | rfl | rfl <;> rfl
theorem rfC_hits (v : Value) (cs hs : Nat → Int) {j : Nat} (hj : j < 7) : (rfC v cs hs).toArray[8 + j]? = some (.int .i64 (hs j)) := by
  rcases (show j = 0 ∨ j = 1 ∨ j = 2 ∨ j = 3 ∨ j = 4 ∨ j = 5 ∨ j = 6 by omega) with rfl | rfl | rfl | rfl | rfl | rfl | rfl <;> rfl
def c7 (cs : Nat → Int) : Array Value := #[.int .i64 (cs 0), .int .i64 (cs 1), .int .i64 (cs 2), .int .i64 (cs 3), .int .i64 (cs 4), .int .i64 (cs 5), .int .i64 (cs 6)]
theorem c7_at (cs : Nat → Int) {j : Nat} (hj : j < 7) : (c7 cs)[j]? = some (.int .i64 (cs j)) := by
  rcases (show j = 0 ∨ j = 1 ∨ j = 2 ∨ j = 3 ∨ j = 4 ∨ j = 5 ∨ j = 6 by omega) with rfl | rfl | rfl | rfl | rfl | rfl | rfl <;> rfl
/-- a state that is one -/
structure RfOk (s : Rf) : Prop where
  plan : (chkR s.rules).2 = 0
  calls : ∀ k, k < 7 → 0 ≤ s.calls k ∧ s.calls k ≤ 1000000
  hits : ∀ k, k < 7 → s.hits k = hitN s.rules k (s.calls k).toNat
end Go.Pol
namespace Go.Proofs.YtefnnfcfigcikaaGreat
open Go Go.Proofs Go.RowKit Go.Pol Go.Shelf
attribute [local go_sem] Oper.semAt_some Go.Pol.wide_fn Go.Pol.wide_depth Go.Pol.wide_fn' Go.Pol.wide_depth'

set_option maxRecDepth 100000 in
theorem indexR_any (p : Ru → Bool) (g : Nat) (lb : Array Value) (A : Option Addr) (n cap : Nat) (bs : List Ru) (w : World) (hn : bs.length = n) (hm : n ≤ 1000) (hr : Rd w w.heap.size A (fl ruC bs))
    (eg : ∀ args w, (callFunc g args).run Tryz.prog w = .ok (.enter g args) w)
    (hp : ∀ x ∈ bs, ∀ W, Below w.heap.size w W → Calls Tryz.prog g (#[ruV x] ++ lb) W fun e W' => e = .returned (.bool (p x)) ∧ Below W.heap.size W W') :
    Calls Tryz.prog 227 #[.slice A n cap, .func (.func g) #[] lb] w fun e w' => e = .returned (.int .i64 (idxZ p bs 0)) ∧ Below w.heap.size w w' := by
  obtain ⟨R, hR⟩ : ∃ R, idxZ p bs 0 = R := ⟨_, rfl⟩
  rw [hR]
  have hR' := Lib.hid hR
  have hn' := Lib.hid hn
  have hp' := Lib.hid hp
  clear hR hn hp
  go_enter Tryz.func227, Tryz.ntmps227
  go_wp2_with fail
  go_loopw [8] (fun i wr => ∃ k : Nat, k ≤ n ∧ i = .int .i64 k ∧ Below w.heap.size w wr ∧ Hid (idxZ p (bs.drop k) k = R)) (fun i _ => n - (intOf i).toNat)
  case atStart => exact ⟨0, by omega, rfl, Below.refl _ _, by simpa using hR'⟩
  case round =>
    obtain ⟨k, hk, rfl, hB, hH⟩ := hrel
    by_cases hlt : k < n
    · have hlt' : decide ((k : Int) < (n : Int)) = true := by simpa using hlt
      obtain ⟨b, o, rfl, _, hc⟩ := (hr.on_ hB).elem ruC_len (by omega) ru0 (k := k) (by have := hn'.out; omega)
      have HP := Lib.hid (hp'.out (bs.getD k ru0) (z_getD_mem (by have := hn'.out; omega)) wr hB)
      have hst := hH.out
      rw [Go.Pol.drop_cons ru0 bs k (by have := hn'.out; omega), idxZ] at hst
      generalize bs.getD k ru0 = x at *
      obtain ⟨xk, f, e, t⟩ := x
      have x0 := hc 0 _ rfl
      have x1 := hc 1 _ rfl
      have x2 := hc 2 _ rfl
      have x3 := hc 3 _ rfl
      simp only [Nat.add_zero] at x0
      have hkn : (k : Int) < (n : Int) := by omega
      clear hc
      cases hpx : p (xk, f, e, t) with
      | true =>
        rw [hpx] at HP
        rw [if_pos hpx] at hst
        have hst' := Lib.hid hst
        clear hst hH hpx
        go_wp2_with fail
        refine HP.out.mono ?_
        rintro e w1 ⟨rfl, hb1⟩
        go_wp2_with fail
        go_ret
        exact ⟨z_ret_int hst'.out, hB.trans (hb1.mono hB.size)⟩
      | false =>
        rw [hpx] at HP
        rw [if_neg (by simp [hpx])] at hst
        have hst' := Lib.hid hst
        clear hst hH hpx
        go_wp2_with fail
        refine HP.out.mono ?_
        rintro e w1 ⟨rfl, hb1⟩
        go_wp2_with fail
        go_roundw
        case rel => exact ⟨k + 1, by omega, by go_num, hB.trans (hb1.mono hB.size), hst'⟩
        case measure => simp [intOf]; omega
    · obtain rfl : k = n := by omega
      have hlt' : decide ((k : Int) < (k : Int)) = false := by simp
      have hst := hH.out
      rw [List.drop_of_length_le (by have := hn'.out; omega)] at hst
      have hst' := Lib.hid (show -1 = R from hst)
      clear hst hH
      go_wp2_with fail
      go_ret
      exact ⟨z_ret_int hst'.out, hB⟩
theorem containsR_any (p : Ru → Bool) (g : Nat) (lb : Array Value) (A : Option Addr) (n cap : Nat) (bs : List Ru) (w : World) (hn : bs.length = n) (hm : n ≤ 1000) (hr : Rd w w.heap.size A (fl ruC bs))
    (eg : ∀ args w, (callFunc g args).run Tryz.prog w = .ok (.enter g args) w)
    (hp : ∀ x ∈ bs, ∀ W, Below w.heap.size w W → Calls Tryz.prog g (#[ruV x] ++ lb) W fun e W' => e = .returned (.bool (p x)) ∧ Below W.heap.size W W') :
    Calls Tryz.prog 204 #[.slice A n cap, .func (.func g) #[] lb] w fun e w' => e = .returned (.bool (bs.any p)) ∧ Below w.heap.size w w' := by
  have HI := Lib.hid (indexR_any p g lb A n cap bs w hn hm hr eg hp)
  have hE := Lib.hid (idxZ_any p bs 0)
  generalize idxZ p bs 0 = R at *
  generalize bs.any p = S at *
  go_enter Tryz.func204, Tryz.ntmps204
  go_wp2_with fail
  refine HI.out.mono ?_
  rintro e w1 ⟨rfl, hb1⟩
  go_wp2_with fail
  go_ret
  exact ⟨z_ret_bool hE.out, hb1⟩
theorem refused1_any (x : Ru) (k n : Int) (B4 B5 : Nat) (W : World) (hx : ruleE x = 0) (hn : 1 ≤ n ∧ n ≤ 1000000) (h4 : Blk W B4 3 #[.int .i64 k]) (h5 : Blk W B5 3 #[.int .i64 n]) :
    Calls Tryz.prog 205 #[ruV x, .pointer (some ⟨B4, 0, none⟩), .pointer (some ⟨B5, 0, none⟩)] W fun e W' => e = .returned (.bool (x.1 == k && rfu x n)) ∧ Below W.heap.size W W' := by
  have hnx := nxt_rfu hx hn.1
  have HN := Lib.hid (fun W => next_any x (n - 1) W hx (by omega))
  generalize nxt x (n - 1) = q at *
  generalize rfu x n = R at *
  obtain ⟨xk, f, e, t⟩ := x
  have hw1 : IntKind.i64.wrap (n - 1) = n - 1 := by rw [IntKind.wrap_i64]; omega
  have hb0 := (Below.refl W.heap.size W).alloc (Nat.le_refl _) (.cells #[.int .i64 xk, .int .i64 f, .int .i64 e, .int .i64 t] 178)
  have k0 := Blk.new W 178 #[.int .i64 xk, .int .i64 f, .int .i64 e, .int .i64 t]
  have g4 := h4.alloc (.cells #[.int .i64 xk, .int .i64 f, .int .i64 e, .int .i64 t] 178)
  have g5 := h5.alloc (.cells #[.int .i64 xk, .int .i64 f, .int .i64 e, .int .i64 t] 178)
  obtain ⟨s, hs⟩ : ∃ s, W.heap.size = s := ⟨_, rfl⟩
  clear hx h4 h5
  go_enter Tryz.func205, Tryz.ntmps205
  go_upto_region 1 with fail
  generalize W.alloc (.cells #[.int .i64 xk, .int .i64 f, .int .i64 e, .int .i64 t] 178) = w0 at *
  rw [hs] at hb0 k0
  try simp only [hs]
  have hs' := Lib.hid hs
  clear hs
  have z0 := fun z : Ext w0 => (z.blk k0).cell
  have z4 := fun z : Ext w0 => (z.blk g4).cell
  have z5 := fun z : Ext w0 => (z.blk g5).cell
  by_cases hk : xk = k
  · have d1 : (xk == k) = true := by simpa using hk
    have G := Lib.hid (fun z : Ext w0 => Ext.call (x := z) (HN.out z.w))
    have hE : Hid ((q == n) = R) := Lib.hid hnx
    clear hnx hk
    refine region_ext (by kernel_rfl) (by kernel_rfl) ?_
    repeat (go_big_quiet_step ((go_at_call 206; exact G.out _)))
    refine wpQuiet_nil ?_
    rintro w1 ⟨⟨_, hw1⟩, rfl⟩
    go_wp2_with fail
    go_ret
    exact ⟨z_ret_bool (by rw [d1, Bool.true_and]; exact hE.out), by rw [hs'.out]; exact hb0.trans (hw1.mono (by have := hb0.size; have := hs'.out; omega))⟩
  · have d1 : (xk == k) = false := by simpa using hk
    clear hnx hk
    refine region_ext (by kernel_rfl) (by kernel_rfl) ?_
    repeat (go_big_quiet_step (fail))
    refine wpQuiet_nil ?_
    rintro w1 ⟨⟨_, hw1⟩, rfl⟩
    go_wp2_with fail
    go_ret
    exact ⟨z_ret_bool (by rw [d1, Bool.false_and]), by rw [hs'.out]; exact hb0.trans (hw1.mono (by have := hb0.size; have := hs'.out; omega))⟩
end Go.Proofs.YtefnnfcfigcikaaGreat
namespace Go.Proofs.YtefnnfcfigcikaaGreat
open Go Go.Proofs Go.RowKit Go.Pol Go.Shelf
attribute [local go_sem] Oper.semAt_some Go.Pol.wide_fn Go.Pol.wide_depth Go.Pol.wide_fn' Go.Pol.wide_depth'

theorem refused1_enters : ∀ args w, (callFunc 205 args).run Tryz.prog w = .ok (.enter 205 args) w := enters_of Tryz.func205 (by kernel_rfl) rfl
theorem refused_any (A : Option Addr) (n cap : Nat) (l : List Ru) (k nn : Int) (w : World) (hn : l.length = n) (hm : n ≤ 1000) (hok : ∀ x ∈ l, ruleE x = 0) (hnn : 1 ≤ nn ∧ nn ≤ 1000000) (hr : Rd w w.heap.size A (fl ruC l)) :
    Calls Tryz.prog 192 #[.agg #[.slice A n cap], .int .i64 k, .int .i64 nn] w fun e w' => e = .returned (.bool (rfd l k nn)) ∧ Below w.heap.size w w' := by
  obtain ⟨s, hs⟩ : ∃ s, w.heap.size = s := ⟨_, rfl⟩
  have hb0 := (((Below.refl w.heap.size w).alloc (Nat.le_refl _) (.cells #[.slice A n cap] 35)).alloc (by simp) (.cells #[.int .i64 k] 3)).alloc (by simp; omega) (.cells #[.int .i64 nn] 3)
  have kP := ((Blk.new w 35 #[.slice A n cap]).alloc (.cells #[.int .i64 k] 3)).alloc (.cells #[.int .i64 nn] 3)
  have k4 := (Blk.new (w.alloc (.cells #[.slice A n cap] 35)) 3 #[.int .i64 k]).alloc (.cells #[.int .i64 nn] 3)
  have k5 := Blk.new ((w.alloc (.cells #[.slice A n cap] 35)).alloc (.cells #[.int .i64 k] 3)) 3 #[.int .i64 nn]
  simp only [World.size_alloc, hs] at k4 k5 kP
  have r0 := hr.on_ hb0
  generalize hw0 : ((w.alloc (.cells #[.slice A n cap] 35)).alloc (.cells #[.int .i64 k] 3)).alloc (.cells #[.int .i64 nn] 3) = w0 at *
  have HC := Lib.hid (containsR_any (fun x => x.1 == k && rfu x nn) 205 #[.pointer (some ⟨s + 1, 0, none⟩), .pointer (some ⟨s + 2, 0, none⟩)] A n cap l w0 hn hm r0 refused1_enters
    (fun x hx W hW => refused1_any x k nn (s + 1) (s + 2) W (hok x hx) hnn (k4.call hW) (k5.call hW)))
  have hR : l.any (fun x => x.1 == k && rfu x nn) = rfd l k nn := rfl
  rw [hR] at HC
  generalize rfd l k nn = R at *
  have hw0' := Lib.hid hw0
  have hs' := Lib.hid hs
  have cP := kP.cell
  clear hw0 hs hR r0 hr hok hn k4 k5 kP
  go_enter Tryz.func192, Tryz.ntmps192
  go_upto_region 1 with fail
  rw [hw0'.out]
  simp only [hs'.out]
  go_wp2_with fail
  refine HC.out.mono ?_
  rintro e w1 ⟨rfl, hb1⟩
  go_wp2_with fail
  go_ret
  exact ⟨rfl, hb0.trans (hb1.mono hb0.size)⟩
theorem idx7 (cs : Nat → Int) (j : Nat) (hj : j < 7) (W : World) : (Instr.index 77 (.agg #[.int .i64 (cs 0), .int .i64 (cs 1), .int .i64 (cs 2), .int .i64 (cs 3), .int .i64 (cs 4), .int .i64 (cs 5), .int .i64 (cs 6)]) (.int .i64 j)).run Tryz.prog W = .ok (.int .i64 (cs j)) W := by
  have u := Tryz.underlying77
  have a3 := Tryz.isAgg3
  have z3 := Tryz.sizeOf3
  have hg := c7_at cs hj
  have h1 : 0 ≤ (j : Int) ∧ (j : Int) < 7 := by omega
  obtain ⟨X, hX⟩ : ∃ X, c7 cs = X := ⟨_, rfl⟩
  change (Instr.index 77 (.agg (c7 cs)) (.int .i64 j)).run Tryz.prog W = _
  rw [hX] at hg ⊢
  unfold Instr.index
  simp only [Sem.run_bind, run_underlying u, Result.andThen_ok]
  simp [part, asIntOf, a3, Result.andThen, h1, hg]
set_option maxRecDepth 100000 in
set_option maxHeartbeats 1600000 in
theorem checkState_any (A : Option Addr) (n cap : Nat) (S : Rf) (w : World) (hS : RfOk S) (hn : S.rules.length = n) (hr : Rd w w.heap.size A (fl ruC S.rules)) :
    Calls Tryz.prog 191 #[rfV (.slice A n cap) S.calls S.hits] w fun e w' => e = .returned (.int .i64 0) ∧ Below w.heap.size w w' := by
  obtain ⟨l, cs, hs⟩ := S
  obtain ⟨h1, h2, h3⟩ := hS
  simp only at h1 h2 h3 hn hr
  simp only
  obtain ⟨hlen, hok⟩ := chkR_zero.1 h1
  have hn50 : n ≤ 50 := by omega
  have HC := Lib.hid (fun W h => planCheck_any A n cap l W hn h)
  rw [h1] at HC
  generalize (chkR l).1 = ci at *
  unfold rfV rfC
  have hb0 := (Below.refl w.heap.size w).alloc (Nat.le_refl _) (.cells #[.slice A n cap, .int .i64 (cs 0), .int .i64 (cs 1), .int .i64 (cs 2), .int .i64 (cs 3), .int .i64 (cs 4), .int .i64 (cs 5), .int .i64 (cs 6), .int .i64 (hs 0), .int .i64 (hs 1), .int .i64 (hs 2), .int .i64 (hs 3), .int .i64 (hs 4), .int .i64 (hs 5), .int .i64 (hs 6)] 79)
  have k0 := Blk.new w 79 #[.slice A n cap, .int .i64 (cs 0), .int .i64 (cs 1), .int .i64 (cs 2), .int .i64 (cs 3), .int .i64 (cs 4), .int .i64 (cs 5), .int .i64 (cs 6), .int .i64 (hs 0), .int .i64 (hs 1), .int .i64 (hs 2), .int .i64 (hs 3), .int .i64 (hs 4), .int .i64 (hs 5), .int .i64 (hs 6)]
  have r0 := hr.on_ hb0
  obtain ⟨s, hsz⟩ : ∃ s, w.heap.size = s := ⟨_, rfl⟩
  have hh2 := Lib.hid h2
  have hh3 := Lib.hid h3
  have hix0 := Lib.hid (fun j hj W => idx7 cs j hj W)
  have hok' := Lib.hid hok
  have hn' := Lib.hid hn
  clear hr h1 h2 h3 hok hn
  go_enter Tryz.func191, Tryz.ntmps191
  go_upto_region 1 with fail
  generalize w.alloc (.cells #[.slice A n cap, .int .i64 (cs 0), .int .i64 (cs 1), .int .i64 (cs 2), .int .i64 (cs 3), .int .i64 (cs 4), .int .i64 (cs 5), .int .i64 (cs 6), .int .i64 (hs 0), .int .i64 (hs 1), .int .i64 (hs 2), .int .i64 (hs 3), .int .i64 (hs 4), .int .i64 (hs 5), .int .i64 (hs 6)] 79) = w0 at *
  rw [hsz] at hb0 k0
  try simp only [hsz]
  have hsz' := Lib.hid hsz
  clear hsz
  have c0 := k0.cell
  go_wp2_with fail
  refine (HC.out _ r0).mono ?_
  rintro e w1 ⟨rfl, hb1⟩
  have k1 := k0.call hb1
  have c1 := k1.cell
  have r1 := r0.on_ hb1
  have B1 := hb0.trans (hb1.mono (by have := hb0.size; have := hsz'.out; omega))
  clear c0 k0 r0 hb0 hb1 HC
  go_wp2_with fail
  clear c1
  go_loopw [18] (fun u wr => ∃ j : Nat, j ≤ 7 ∧ u = .int .i64 j ∧ Below w1.heap.size w1 wr) (fun u _ => 7 - (intOf u).toNat)
  case atStart => exact ⟨0, by omega, rfl, Below.refl _ _⟩
  case round =>
    obtain ⟨j, hj, rfl, hB⟩ := hrel
    by_cases hlt : j < 7
    · have hlt' : decide ((j : Int) < 7) = true := by simp; omega
      have hin : (j : Int) < 7 := by omega
      have hix := hix0.out j hlt
      have hca := hh2.out j hlt
      have hhi := hh3.out j hlt
      have kr := k1.call hB
      have hcell := (kr.cell (8 + j)).trans (rfC_hits (.slice A n cap) cs hs hlt)
      rw [hhi] at hcell
      obtain ⟨m, hm⟩ : ∃ m : Nat, cs j = (m : Int) := ⟨(cs j).toNat, by omega⟩
      rw [hm] at hix hcell hca
      simp only [Int.toNat_natCast] at hcell
      have G := Lib.hid (fun z : Ext wr => Ext.call (x := z) (hits_any A n cap l (j : Int) m z.w hn'.out (by omega) hok'.out (by omega) ((r1.on_ hB).on_ z.le)))
      generalize hitN l (j : Int) m = H at *
      have d1 : decide ((m : Int) < 0) = false := by rw [decide_eq_false_iff_not]; omega
      have d2 : decide ((1000000 : Int) < (m : Int)) = false := by rw [decide_eq_false_iff_not]; omega
      have d3 : (H != H) = false := by simp
      have z0 := fun z : Ext wr => ((z.blk kr).cell 0)
      have zh := fun z : Ext wr => z.cell hcell
      clear hhi hm hcell
      go_upto_region 7 with fail
      refine region_ext (by kernel_rfl) (by kernel_rfl) ?_
      repeat (go_big_quiet_step ((go_at_call 203; exact G.out _)))
      refine wpQuiet_nil ?_
      rintro w2 ⟨⟨_, hw2⟩, rfl⟩
      clear z0 zh
      go_wp2_with fail
      go_roundw
      case rel => exact ⟨j + 1, by omega, by go_num, hB.trans (hw2.mono hB.size)⟩
      case measure => simp [intOf]; omega
    · obtain rfl : j = 7 := by omega
      have hlt' : decide (((7 : Nat) : Int) < 7) = false := by simp
      go_wp2_with fail
      go_ret
      exact ⟨rfl, by rw [hsz'.out]; exact B1.trans (hB.mono (by have := B1.size; have := hsz'.out; omega))⟩
end Go.Proofs.YtefnnfcfigcikaaGreat
namespace Go.Pol
open Go Go.RowKit
def nextB (S : Rf) (k : Nat) : Bool := rfd S.rules k (S.calls k + 1)
def nextS (S : Rf) (k : Nat) : Rf := ⟨S.rules, upN S.calls k (S.calls k + 1), if nextB S k = true then upN S.hits k (S.hits k + 1) else S.hits⟩
theorem nextS_ok {S : Rf} (h : RfOk S) {k : Nat} (hk : k < 7) (hc : S.calls k ≠ 1000000) : RfOk (nextS S k) := by
  obtain ⟨h1, h2, h3⟩ := h
  have hk2 := h2 k hk
  refine ⟨h1, fun j hj => ?_, fun j hj => ?_⟩
  · have := h2 j hj
    have e : (nextS S k).calls j = if j = k then S.calls k + 1 else S.calls j := rfl
    rw [e]
    split
    · omega
    · exact this
  · show (if nextB S k = true then upN S.hits k (S.hits k + 1) else S.hits) j = hitN S.rules j (upN S.calls k (S.calls k + 1) j).toNat
    by_cases e : j = k
    · subst e
      have e1 : upN S.calls j (S.calls j + 1) j = S.calls j + 1 := by simp [upN]
      have e2 : (S.calls j + 1).toNat = (S.calls j).toNat + 1 := by omega
      rw [e1, e2, hitN, ← h3 j hj, show ((S.calls j).toNat : Int) + 1 = S.calls j + 1 by omega]
      unfold nextB
      cases rfd S.rules j (S.calls j + 1) <;> simp [upN]
    · have e1 : upN S.calls k (S.calls k + 1) j = S.calls j := by simp [upN, e]
      rw [e1, ← h3 j hj]
      split
      · simp [upN, e]
      · rfl
theorem rfC_setC (v : Value) (cs hs : Nat → Int) {k : Nat} (hk : k < 7) (x : Int) : (rfC v cs hs).toArray.setIfInBounds (1 + k) (.int .i64 x) = (rfC v (upN cs k x) hs).toArray := by
  rcases (show k = 0 ∨ k = 1 ∨ k = 2 ∨ k = 3 ∨ k = 4 ∨ k = 5 ∨ k = 6 by omega) with rfl | rfl | rfl | rfl | rfl | rfl | rfl <;> rfl
theorem rfC_setH (v : Value) (cs hs : Nat → Int) {k : Nat} (hk : k < 7) (x : Int) : (rfC v cs hs).toArray.setIfInBounds (8 + k) (.int .i64 x) = (rfC v cs (upN hs k x)).toArray := by
  rcases (show k = 0 ∨ k = 1 ∨ k = 2 ∨ k = 3 ∨ k = 4 ∨ k = 5 ∨ k = 6 by omega) with rfl | rfl | rfl | rfl | rfl | rfl | rfl <;> rfl
theorem rfC_setV (v u : Value) (cs hs : Nat → Int) : (rfC v cs hs).toArray.setIfInBounds 0 u = (rfC u cs hs).toArray := rfl
theorem Rd.far_ {T : Nat → Prop} {w w' : World} {B : Nat} {A : Option Addr} {xs : List Value} (h : Rd w B A xs) (hF : Far T w w') (hT : ∀ b o, A = some ⟨b, o, none⟩ → ¬ T b) : Rd w' B A xs := fun k hk => by
  obtain ⟨b, o, e, hb, hc⟩ := h k hk
  exact ⟨b, o, e, hb, hF.cell hc (hT b o e)⟩
/-- what Next hands back -/
def NextO (S : Rf) (k : Nat) (w : World) (e : Ending) (w' : World) : Prop :=
  (S.calls k = 1000000 ∧ e = .returned (.tuple #[rfV (.slice none 0 0) (fun _ => 0) (fun _ => 0), .bool false, .int .i64 3]) ∧ Below w.heap.size w w') ∨
  (S.calls k ≠ 1000000 ∧ ∃ v, e = .returned (.tuple #[rfV v (nextS S k).calls (nextS S k).hits, .bool (nextB S k), .int .i64 0]) ∧ RulesO S.rules w v w')
theorem z_results_cell_tmp2 {P : Program} {fn : Func} {a u x : Tmp} {t : TypeId} {tmps : Array Value} {w : World} {v : Value} {p : Addr} (h : fn.results = #[.cell a t, .tmp u, .tmp x]) (ha : tmps.getD a undef = .pointer (some p)) (hl : (loadVar t p).run P w = .ok v w) :
    (results fn tmps).run P w = .ok (.tuple #[v, tmps.getD u undef, tmps.getD x undef]) w := by
  have ha' : tmps[a]?.getD undef = .pointer (some p) := by rw [← ha, Array.getD_eq_getD_getElem?]
  simp [results, h, ha', asAddr, hl]
end Go.Pol
namespace Go.Proofs.YtefnnfcfigcikaaGreat
open Go Go.Proofs Go.RowKit Go.Pol Go.Shelf
attribute [local go_sem] Oper.semAt_some Go.Pol.wide_fn Go.Pol.wide_depth Go.Pol.wide_fn' Go.Pol.wide_depth'

set_option maxRecDepth 100000 in
set_option maxHeartbeats 1600000 in
theorem nextR_any (A : Option Addr) (n cap : Nat) (S : Rf) (k : Nat) (w : World) (hS : RfOk S) (hk : k < 7) (hn : S.rules.length = n) (hz : A = none → cap = 0) (hr : Rd w w.heap.size A (fl ruC S.rules)) :
    Calls Tryz.prog 161 #[rfV (.slice A n cap) S.calls S.hits, .int .i64 k] w (NextO S k w) := by
  obtain ⟨h1, h2, h3⟩ := hS
  obtain ⟨hlen, hok⟩ := chkR_zero.1 h1
  have hn50 : n ≤ 50 := by omega
  have hck := h2 k hk
  have HC := Lib.hid (fun W h => checkState_any A n cap S W ⟨h1, h2, h3⟩ hn h)
  have HK := Lib.hid (fun W h => cloneR_any A n cap S.rules W hn (by omega) hz h)
  obtain ⟨Q, hQ⟩ : ∃ Q, NextO S k w = Q := ⟨_, rfl⟩
  rw [hQ]
  have hQ1 := Lib.hid (fun (h : S.calls k = 1000000) w' (hb : Below w.heap.size w w') => show Q (.returned (.tuple #[rfV (.slice none 0 0) (fun _ => 0) (fun _ => 0), .bool false, .int .i64 3])) w' by rw [← hQ]; exact .inl ⟨h, rfl, hb⟩)
  have hQ2 := Lib.hid (fun (h : S.calls k ≠ 1000000) v w' (hv : RulesO S.rules w v w') => show Q (.returned (.tuple #[rfV v (nextS S k).calls (nextS S k).hits, .bool (nextB S k), .int .i64 0])) w' by rw [← hQ]; exact .inr ⟨h, v, rfl, hv⟩)
  unfold nextS nextB at hQ2
  have HR := Lib.hid (fun (hc : S.calls k ≠ 1000000) (A' : Option Addr) (c' : Nat) W h => refused_any A' n c' S.rules (k : Int) (S.calls k + 1) W hn (by omega) hok ⟨by omega, by omega⟩ h)
  have hcell := Lib.hid (rfC_calls (.slice A n cap) S.calls S.hits hk)
  have hcellh := Lib.hid (fun v cs => rfC_hits v cs S.hits hk)
  have hset := Lib.hid (fun v (x : Int) => rfC_setC v S.calls S.hits hk x)
  have hseth := Lib.hid (fun v cs (x : Int) => rfC_setH v cs S.hits hk x)
  have hhk : 0 ≤ S.hits k ∧ S.hits k ≤ 1000000 := by
    have := hitN_bound S.rules k (S.calls k).toNat
    rw [← h3 k hk] at this
    omega
  obtain ⟨l, cs, hs⟩ := S
  simp only at hcell hset hseth hQ1 hQ2 HR HK HC hr hn hck hhk
  have hn' := Lib.hid hn
  clear hQ h1 h2 h3 hlen hok hn
  have hb0 := ((Below.refl w.heap.size w).alloc (Nat.le_refl _) (.cells (rfC (.slice A n cap) cs hs).toArray 79)).alloc (by simp) (.cells (rfC (.slice none 0 0) (fun _ => 0) (fun _ => 0)).toArray 79)
  have k0 := (Blk.new w 79 (rfC (.slice A n cap) cs hs).toArray).alloc (.cells (rfC (.slice none 0 0) (fun _ => 0) (fun _ => 0)).toArray 79)
  have b0 := Blk.new (w.alloc (.cells (rfC (.slice A n cap) cs hs).toArray 79)) 79 (rfC (.slice none 0 0) (fun _ => 0) (fun _ => 0)).toArray
  obtain ⟨s, hsz⟩ : ∃ s, w.heap.size = s := ⟨_, rfl⟩
  rw [World.size_alloc, hsz] at b0
  rw [hsz] at k0
  unfold rfV rfC at HC ⊢
  simp only at HC ⊢
  unfold rfC at hb0 k0 b0
  have r0 := hr.on_ hb0
  go_enter Tryz.func161, Tryz.ntmps161
  go_upto_region 1 with fail
  generalize (w.alloc _).alloc _ = w0 at *
  rw [hsz] at hb0
  try simp only [hsz]
  have hsz' := Lib.hid hsz
  clear hsz hr
  have c0 := k0.cell
  go_wp2_with fail
  refine (HC.out _ r0).mono ?_
  rintro e w1 ⟨rfl, hb1⟩
  have k1 : Blk w1 s 79 (rfC (.slice A n cap) cs hs).toArray := k0.call hb1
  have b1 := b0.call hb1
  have r1 := r0.on_ hb1
  have B1 := hb0.trans (hb1.mono (by have := hb0.size; have := hsz'.out; omega))
  clear c0 k0 b0 r0 hb0 hb1 HC
  have hin : (k : Int) < 7 := by omega
  have d1 : decide ((k : Int) < 0) = false := by rw [decide_eq_false_iff_not]; omega
  have d2 : decide ((7 : Int) ≤ (k : Int)) = false := by rw [decide_eq_false_iff_not]; omega
  have ck := (k1.cell (1 + k)).trans hcell.out
  by_cases hc : cs k = 1000000
  · have hQ3 := Lib.hid (hQ1.out hc)
    rw [hc] at ck
    clear hQ2 HR HK hc
    go_upto_region 7 with fail
    go_wp2_with (refine wpList_store_mid rfl 79 (.tmp 4) (.tmp 29) rfl (s + 1) 0 (rfC (.slice none 0 0) (fun _ => 0) (fun _ => 0)).toArray rfl rfl (z_there b1 0 15 (by simp)) infoRf (Go.all_oneCell_toArray (rfC_one rfl _ _)) ?_)
    have k4 := Blk.puts (g := s + 1) (t := 79) (w := w1) (cs := #[]) (rfC (.slice none 0 0) (fun _ => 0) (fun _ => 0)) 0 w1 _ b1
    rw [putA_all (by rfl)] at k4
    have hF4 := Far.puts (T := fun k => k = s + 1) rfl (rfC (.slice none 0 0) (fun _ => 0) (fun _ => 0)) 0 w1 w1 (Far.refl _ _)
    generalize (w1).setCells (s + 1) 0 (rfC (.slice none 0 0) (fun _ => 0) (fun _ => 0)) = w4 at *
    have hl4 := run_loadVar_mid (P := Tryz.prog) w4 (s + 1) 0 79 (rfC (.slice none 0 0) (fun _ => 0) (fun _ => 0)) _ (fun j v hj => by rw [Nat.zero_add, k4.cell]; simpa using hj) Tryz.underlying79 rfl infoRf
    have hB4 : Below w.heap.size w1 w4 := hF4.below (by have := B1.size; have := hsz'.out; omega) (fun k hk e => by have := hsz'.out; omega)
    refine bodyPost_ret (v := .tuple #[rfV (.slice none 0 0) (fun _ => 0) (fun _ => 0), .bool false, .int .i64 3]) ?_ rfl ?_
    · exact z_results_cell_tmp2 Tryz.results161 rfl hl4
    rw [← hsz'.out] at B1
    exact hQ3.out _ (B1.trans hB4)
  · have d3 : (cs k == 1000000) = false := by simpa using hc
    have hQ3 := Lib.hid (hQ2.out hc)
    have HR' := Lib.hid (HR.out hc)
    have hw1 : IntKind.i64.wrap (cs k + 1) = cs k + 1 := by rw [IntKind.wrap_i64]; omega
    have hw2 : IntKind.i64.wrap (hs k + 1) = hs k + 1 := by rw [IntKind.wrap_i64]; omega
    have hup : ∀ (f : Nat → Int) x, upN f k x k = x := fun f x => by simp [upN]
    have hup' := Lib.hid hup
    clear hQ2 hQ1 HR hup hc
    go_upto_region 8 with fail
    have c0 : w1.cell? ⟨s, 0, none⟩ = some (.slice A n cap) := (k1.cell 0).trans rfl
    go_wp2_with fail
    refine (HK.out _ r1).mono ?_
    rintro e w2 ⟨v, rfl, hv⟩
    obtain ⟨A2, c2, rfl, v1, v2, v3, v4, v5, hb2⟩ := hv
    have k2 := k1.call hb2
    have b2 := b1.call hb2
    have hs1 := b1.lt
    have B2 := B1.trans (hb2.mono (by have := B1.size; have := hsz'.out; omega))
    have c2' : w2.cell? ⟨s, 0, none⟩ = some (.slice A n cap) := (k2.cell 0).trans rfl
    have f2 := k2.frozen
    clear k1 b1 r1 B1 c0 hb2 HK
    rw [hn'.out] at v2 ⊢
    go_upto_region 9 with fail
    have k3 := k2.set_ 0 (.slice A2 n c2)
    rw [rfC_setV] at k3
    have hF3 : Far (fun k => k = s) w2 (w2.setCell ⟨s, 0, none⟩ (.slice A2 n c2)) := Far.setCell (T := fun k => k = s) (p := ⟨s, 0, none⟩) (Far.refl _ _) (fun _ => rfl) _
    generalize w2.setCell ⟨s, 0, none⟩ (.slice A2 n c2) = w3 at *
    have c3 := (k3.cell (1 + k)).trans (rfC_calls (.slice A2 n c2) cs hs hk)
    have f3 := k3.frozen
    clear c2' f2 ck
    go_upto_region 10 with fail
    have k4 := k3.set_ (1 + k) (.int .i64 (cs k + 1))
    rw [hset.out] at k4
    have hF4 : Far (fun k => k = s) w2 (w3.setCell ⟨s, 1 + k, none⟩ (.int .i64 (cs k + 1))) := hF3.setCell (p := ⟨s, 1 + k, none⟩) (fun _ => rfl) _
    generalize w3.setCell ⟨s, 1 + k, none⟩ (.int .i64 (cs k + 1)) = w4 at *
    have c4 := (k4.cell (1 + k)).trans (rfC_calls (.slice A2 n c2) (upN cs k (cs k + 1)) hs hk)
    rw [hup'.out] at c4
    have c40 : w4.cell? ⟨s, 0, none⟩ = some (.slice A2 n c2) := (k4.cell 0).trans rfl
    have r4 : Rd w4 w4.heap.size A2 (fl ruC l) := (v1.far_ hF4 (fun b o e => by have := v4 b o e; omega)).more hF4.size
    have z0 := fun z : Ext w4 => z.cell c40
    have z1 := fun z : Ext w4 => z.cell c4
    have G := Lib.hid (fun z : Ext w4 => Ext.call (x := z) (HR'.out A2 c2 z.w (r4.on_ z.le)))
    have b4 := hF4.blk b2 (by omega)
    generalize rfd l (k : Int) (cs k + 1) = bb at *
    clear c3 f3 c4 c40 HR' k3 k2 hF3 b2
    refine region_ext (by kernel_rfl) (by kernel_rfl) ?_
    repeat (go_big_quiet_step ((go_at_call 192; exact G.out _)))
    refine wpQuiet_nil ?_
    rintro w5 ⟨⟨_, hw5⟩, rfl⟩
    have k5 := k4.call hw5
    have b5 := b4.call hw5
    have hF5 : Far (fun k => k = s) w2 w5 := hF4.trans (.of_below hw5)
    clear z0 z1 G r4 k4 b4 hw5 hF4
    cases bb with
    | true =>
      simp only [if_true] at hQ3
      have c5 := (k5.cell (8 + k)).trans (rfC_hits (.slice A2 n c2) (upN cs k (cs k + 1)) hs hk)
      have f5 := k5.frozen
      go_upto_region 13 with fail
      have k6 := k5.set_ (8 + k) (.int .i64 (hs k + 1))
      rw [hseth.out] at k6
      have b6 := b5.far (p := ⟨s, 8 + k, none⟩) (by show s + 1 ≠ s; omega) (.int .i64 (hs k + 1))
      have hF6 : Far (fun k => k = s) w2 (w5.setCell ⟨s, 8 + k, none⟩ (.int .i64 (hs k + 1))) := hF5.setCell (p := ⟨s, 8 + k, none⟩) (fun _ => rfl) _
      generalize w5.setCell ⟨s, 8 + k, none⟩ (.int .i64 (hs k + 1)) = w6 at *
      clear c5 f5 k5 b5 hF5
      generalize upN hs k (hs k + 1) = hs2 at *
      generalize upN cs k (cs k + 1) = cs2 at *
      have hrng : World.rangeAt w6 s 0 (rfC (.slice A2 n c2) cs2 hs2) := fun j v hj => by rw [Nat.zero_add, (k6).cell]; simpa using hj
      go_wp2_with (first
        | (refine wpList_load_mid rfl 79 (.tmp 2) rfl s 0 rfl (rfC (.slice A2 n c2) cs2 hs2) _ hrng Tryz.underlying79 rfl infoRf ?_)
        | (refine wpList_store_mid rfl 79 (.tmp 4) (.tmp 59) rfl (s + 1) 0 (rfC (.slice A2 n c2) cs2 hs2).toArray rfl rfl (z_there b6 0 15 (by simp)) infoRf (Go.all_oneCell_toArray (rfC_one rfl _ _)) ?_))
      have k7 := Blk.puts (g := s + 1) (t := 79) (w := w6) (cs := #[]) (rfC (.slice A2 n c2) cs2 hs2) 0 w6 _ b6
      rw [putA_all (by rfl)] at k7
      have hF7 := Far.puts (T := fun k => k = s ∨ k = s + 1) (.inr rfl) (rfC (.slice A2 n c2) cs2 hs2) 0 w2 w6 ((hF6).mono (fun _ _ h => .inl h))
      generalize (w6).setCells (s + 1) 0 (rfC (.slice A2 n c2) cs2 hs2) = w7 at *
      have hl7 := run_loadVar_mid (P := Tryz.prog) w7 (s + 1) 0 79 (rfC (.slice A2 n c2) cs2 hs2) _ (fun j v hj => by rw [Nat.zero_add, k7.cell]; simpa using hj) Tryz.underlying79 rfl infoRf
      have hB7 : Below w.heap.size w2 w7 := hF7.below (by have := B2.size; omega) (fun k hk e => by have := hsz'.out; omega)
      rw [← hsz'.out] at B2
      refine bodyPost_ret (v := .tuple #[rfV (.slice A2 n c2) cs2 hs2, .bool true, .int .i64 0]) ?_ rfl ?_
      · exact z_results_cell_tmp2 Tryz.results161 rfl hl7
      refine hQ3.out _ _ ⟨A2, c2, by rw [hn'.out], (v1.far_ hF7 (fun b o e => by have := v4 b o e; omega)).more hF7.size, by rw [hn'.out]; exact v2, v3, fun b o e => by have := v4 b o e; have := B2.size; have := hsz'.out; omega, ⟨v5.1, fun g o e h => (v5.2 g o e h).imp fun cr hcr => hF7.blk hcr (by have := v4 g o e; show ¬ (g = s ∨ g = s + 1); omega)⟩, B2.trans hB7⟩
    | false =>
      simp only [Bool.false_eq_true, if_false] at hQ3
      generalize upN cs k (cs k + 1) = cs2 at *
      have hrng : World.rangeAt w5 s 0 (rfC (.slice A2 n c2) cs2 hs) := fun j v hj => by rw [Nat.zero_add, (k5).cell]; simpa using hj
      go_wp2_with (first
        | (refine wpList_load_mid rfl 79 (.tmp 2) rfl s 0 rfl (rfC (.slice A2 n c2) cs2 hs) _ hrng Tryz.underlying79 rfl infoRf ?_)
        | (refine wpList_store_mid rfl 79 (.tmp 4) (.tmp 59) rfl (s + 1) 0 (rfC (.slice A2 n c2) cs2 hs).toArray rfl rfl (z_there b5 0 15 (by simp)) infoRf (Go.all_oneCell_toArray (rfC_one rfl _ _)) ?_))
      have k7 := Blk.puts (g := s + 1) (t := 79) (w := w5) (cs := #[]) (rfC (.slice A2 n c2) cs2 hs) 0 w5 _ b5
      rw [putA_all (by rfl)] at k7
      have hF7 := Far.puts (T := fun k => k = s ∨ k = s + 1) (.inr rfl) (rfC (.slice A2 n c2) cs2 hs) 0 w2 w5 ((hF5).mono (fun _ _ h => .inl h))
      generalize (w5).setCells (s + 1) 0 (rfC (.slice A2 n c2) cs2 hs) = w7 at *
      have hl7 := run_loadVar_mid (P := Tryz.prog) w7 (s + 1) 0 79 (rfC (.slice A2 n c2) cs2 hs) _ (fun j v hj => by rw [Nat.zero_add, k7.cell]; simpa using hj) Tryz.underlying79 rfl infoRf
      have hB7 : Below w.heap.size w2 w7 := hF7.below (by have := B2.size; omega) (fun k hk e => by have := hsz'.out; omega)
      rw [← hsz'.out] at B2
      refine bodyPost_ret (v := .tuple #[rfV (.slice A2 n c2) cs2 hs, .bool false, .int .i64 0]) ?_ rfl ?_
      · exact z_results_cell_tmp2 Tryz.results161 rfl hl7
      refine hQ3.out _ _ ⟨A2, c2, by rw [hn'.out], (v1.far_ hF7 (fun b o e => by have := v4 b o e; omega)).more hF7.size, by rw [hn'.out]; exact v2, v3, fun b o e => by have := v4 b o e; have := B2.size; have := hsz'.out; omega, ⟨v5.1, fun g o e h => (v5.2 g o e h).imp fun cr hcr => hF7.blk hcr (by have := v4 g o e; show ¬ (g = s ∨ g = s + 1); omega)⟩, B2.trans hB7⟩
end Go.Proofs.YtefnnfcfigcikaaGreat
namespace Go.Pol
open Go Go.RowKit
/-- a page: its kind, whether it is of a huge one, its bytes -/
structure Pg where
  kind : Int
  huge : Bool
  byt : Nat → Int
/-- a system -/
structure Vm where
  pg : Nat → Pg
  rf : Rf
def pgC (g : Pg) : List Value := .int .i64 g.kind :: .bool g.huge :: (List.range 64).map fun k => .int .u8 (g.byt k)
theorem pgC_len (g : Pg) : (pgC g).length = 66 := by simp [pgC]
theorem pgC_one (g : Pg) : ∀ x ∈ pgC g, x.oneCell' = true := by
  intro x hx
  simp only [pgC, List.mem_cons, List.mem_map] at hx
  rcases hx with rfl | rfl | ⟨k, _, rfl⟩ <;> rfl
def Vm.setP (V : Vm) (p : Nat) (g : Pg) : Vm := { V with pg := fun q => if q = p then g else V.pg q }
/-- the cells of a system -/
structure SysC (cs : Array Value) (v : Value) (V : Vm) : Prop where
  size : cs.size = 67600
  made : cs[0]? = some (.bool true)
  page : ∀ p, p < 1024 → ∀ i, i < 66 → cs[1 + p * 66 + i]? = (pgC (V.pg p))[i]?
  rf : ∀ i, i < 15 → cs[67585 + i]? = (rfC v V.rf.calls V.rf.hits)[i]?
theorem SysC.kind {cs : Array Value} {v : Value} {V : Vm} (h : SysC cs v V) {p : Nat} (hp : p < 1024) : cs[1 + p * 66]? = some (.int .i64 (V.pg p).kind) := (h.page p hp 0 (by omega)).trans rfl
theorem SysC.hug {cs : Array Value} {v : Value} {V : Vm} (h : SysC cs v V) {p : Nat} (hp : p < 1024) : cs[1 + p * 66 + 1]? = some (.bool (V.pg p).huge) := (h.page p hp 1 (by omega)).trans rfl
theorem SysC.byte {cs : Array Value} {v : Value} {V : Vm} (h : SysC cs v V) {p k : Nat} (hp : p < 1024) (hk : k < 64) : cs[1 + p * 66 + (k + 2)]? = some (.int .u8 ((V.pg p).byt k)) := by
  refine (h.page p hp (k + 2) (by omega)).trans ?_
  unfold pgC
  rw [List.getElem?_cons_succ, List.getElem?_cons_succ, List.getElem?_map, List.getElem?_range hk]; rfl
theorem SysC.put {cs : Array Value} {v : Value} {V : Vm} (h : SysC cs v V) {p : Nat} (hp : p < 1024) (g : Pg) : SysC (putA cs (1 + p * 66) (pgC g)) v (V.setP p g) := by
  have hs := h.size
  have hl := pgC_len g
  have hg := putA_get (pgC g) cs (1 + p * 66) (by rw [hl]; omega)
  refine ⟨by rw [putA_size]; exact hs, ?_, fun q hq i hi => ?_, fun i hi => ?_⟩
  · rw [hg, if_neg (by omega)]; exact h.made
  · rw [hg, hl]
    by_cases e : q = p
    · subst e
      rw [if_pos (by omega), show 1 + q * 66 + i - (1 + q * 66) = i by omega]
      simp [Vm.setP]
    · rw [if_neg (by omega), h.page q hq i hi]
      simp [Vm.setP, e]
  · rw [hg, if_neg (by rw [hl]; omega)]; exact h.rf i hi
theorem SysC.putRf {cs : Array Value} {v : Value} {V : Vm} (h : SysC cs v V) (u : Value) (S : Rf) : SysC (putA cs 67585 (rfC u S.calls S.hits)) u { V with rf := S } := by
  have hs := h.size
  have hl : (rfC u S.calls S.hits).length = 15 := rfl
  have hg := putA_get (rfC u S.calls S.hits) cs 67585 (by rw [hl]; omega)
  refine ⟨by rw [putA_size]; exact hs, ?_, fun q hq i hi => ?_, fun i hi => ?_⟩
  · rw [hg, if_neg (by omega)]; exact h.made
  · rw [hg, hl, if_neg (by omega)]; exact h.page q hq i hi
  · rw [hg, hl, if_pos (by omega), show 67585 + i - 67585 = i by omega]
/-- rules that are none are read from anywhere -/
theorem Rd.keepR {T : Nat → Prop} {w w' : World} {B : Nat} {A : Option Addr} {l : List Ru} (h : Rd w B A (fl ruC l)) (hF : Far T w w') (hT : ∀ b o, A = some ⟨b, o, none⟩ → l ≠ [] → ¬ T b) : Rd w' B A (fl ruC l) := by
  by_cases h0 : l = []
  · subst h0; exact fun k hk => absurd hk (by simp [fl])
  · exact h.far_ hF (fun b o e => hT b o e h0)
/-- a system in memory -/
structure SysIs (w : World) (b : Nat) (V : Vm) : Prop where
  ex : ∃ (cs : Array Value) (A : Option Addr) (n cap : Nat), Blk w b 114 cs ∧ SysC cs (.slice A n cap) V ∧ V.rf.rules.length = n ∧ Rd w w.heap.size A (fl ruC V.rf.rules) ∧ (A = none → cap = 0) ∧ (∀ g o, A = some ⟨g, o, none⟩ → V.rf.rules ≠ [] → g ≠ b) ∧ RfOk V.rf ∧ ∀ g o, A = some ⟨g, o, none⟩ → V.rf.rules ≠ [] → ∃ cr, Blk w g 178 cr
theorem SysIs.lt {w : World} {b : Nat} {V : Vm} (h : SysIs w b V) : b < w.heap.size := by
  obtain ⟨cs, A, n, cap, hk, _⟩ := h.ex
  exact hk.lt
theorem SysIs.ok {w : World} {b : Nat} {V : Vm} (h : SysIs w b V) : RfOk V.rf := by
  obtain ⟨cs, A, n, cap, _, _, _, _, _, _, h, _⟩ := h.ex
  exact h
theorem SysIs.far {w w' : World} {b : Nat} {V : Vm} {T : Nat → Prop} (h : SysIs w b V) (hF : Far T w w') (hb : ¬ T b) (hA : ∀ cs A n cap, Blk w b 114 cs → SysC cs (.slice A n cap) V → ∀ g o, A = some ⟨g, o, none⟩ → V.rf.rules ≠ [] → (∃ cr, Blk w g 178 cr) → ¬ T g) : SysIs w' b V := by
  obtain ⟨cs, A, n, cap, h1, h2, h3, h4, h5, h6, h7, h8⟩ := h.ex
  have hA' := fun g o e h => hA cs A n cap h1 h2 g o e h (h8 g o e h)
  refine ⟨cs, A, n, cap, hF.blk h1 hb, h2, h3, (h4.keepR hF hA').more hF.size, h5, h6, h7, fun g o e h => (h8 g o e h).imp fun cr hc => hF.blk hc (hA' g o e h)⟩
theorem SysIs.call {w w' : World} {b : Nat} {V : Vm} (h : SysIs w b V) (hb : Below w.heap.size w w') : SysIs w' b V :=
  h.far (T := fun _ => False) (Far.of_below hb) id (fun _ _ _ _ _ _ _ _ _ _ _ h => h)
/-- a page put anew -/
theorem SysIs.setP {w : World} {b : Nat} {V : Vm} (h : SysIs w b V) {p : Nat} (hp : p < 1024) (g : Pg) : SysIs (w.setCells b (1 + p * 66) (pgC g)) b (V.setP p g) ∧ Far (fun k => k = b) w (w.setCells b (1 + p * 66) (pgC g)) := by
  obtain ⟨cs, A, n, cap, h1, h2, h3, h4, h5, h6, h7, h8⟩ := h.ex
  have hF := Far.puts (T := fun k => k = b) rfl (pgC g) (1 + p * 66) w w (Far.refl _ _)
  exact ⟨⟨_, A, n, cap, Blk.puts (w := w) (cs := #[]) (pgC g) (1 + p * 66) w cs h1, h2.put hp g, h3, (h4.keepR hF (fun g' o e h => h6 g' o e h)).more hF.size, h5, h6, h7, fun g o e h => (h8 g o e h).imp fun cr hc => hF.blk hc (h6 g o e h)⟩, hF⟩
/-- pages that a change makes anew -/
def Vm.eachP (V : Vm) (at_ n : Nat) (f : Pg → Pg) : Vm := { V with pg := fun q => if at_ ≤ q ∧ q < at_ + n then f (V.pg q) else V.pg q }
theorem Vm.eachP_zero (V : Vm) (at_ : Nat) (f : Pg → Pg) : V.eachP at_ 0 f = V := by
  unfold Vm.eachP
  congr 1
  funext q
  rw [if_neg (by omega)]
theorem Vm.eachP_succ (V : Vm) (at_ n : Nat) (f : Pg → Pg) : V.eachP at_ (n + 1) f = (V.eachP at_ n f).setP (at_ + n) (f ((V.eachP at_ n f).pg (at_ + n))) := by
  unfold Vm.eachP Vm.setP
  simp only
  congr 1
  funext q
  by_cases e : q = at_ + n
  · subst e
    rw [if_pos (by omega), if_pos rfl, if_neg (by omega)]
  · rw [if_neg e]
    by_cases h : at_ ≤ q ∧ q < at_ + n
    · rw [if_pos (by omega), if_pos h]
    · rw [if_neg (by omega), if_neg h]
/-- a new page of a kind -/
def newPg (k : Int) : Pg := ⟨k, false, fun _ => 0⟩
end Go.Pol
namespace Go.Pol
open Go Go.RowKit
/-- is something so of all of some pages? -/
def allP (V : Vm) (at_ n : Nat) (pr : Pg → Bool) : Bool := (List.range n).all fun i => pr (V.pg (at_ + i))
theorem allP_iff {V : Vm} {at_ n : Nat} {pr : Pg → Bool} : allP V at_ n pr = true ↔ ∀ q, at_ ≤ q → q < at_ + n → pr (V.pg q) = true := by
  unfold allP
  rw [List.all_eq_true]
  constructor
  · intro h q h1 h2
    have := h (q - at_) (List.mem_range.2 (by omega))
    rwa [show at_ + (q - at_) = q by omega] at this
  · intro h i hi
    exact h _ (by omega) (by have := List.mem_range.1 hi; omega)
end Go.Pol
namespace Go.Proofs.YtefnnfcfigcikaaGreat
open Go Go.Proofs Go.RowKit Go.Pol Go.Shelf
attribute [local go_sem] Oper.semAt_some Go.Pol.wide_fn Go.Pol.wide_depth Go.Pol.wide_fn' Go.Pol.wide_depth'

theorem is_any (b : Nat) (V : Vm) (w : World) (hV : SysIs w b V) : Calls Tryz.prog 59 #[.pointer (some ⟨b, 0, none⟩)] w fun e w' => e = .returned (.bool true) ∧ w' = w := by
  obtain ⟨cs, A, n, cap, hk, hc, _⟩ := hV.ex
  have c0 := (hk.cell 0).trans hc.made
  go_enter Tryz.func59, Tryz.ntmps59
  go_wp2_with fail
  go_ret
  exact ⟨rfl, rfl⟩
theorem isNil_any (w : World) : Calls Tryz.prog 59 #[.pointer none] w fun e w' => e = .returned (.bool false) ∧ w' = w := by
  go_enter Tryz.func59, Tryz.ntmps59
  go_wp2_with fail
  go_ret
  exact ⟨rfl, rfl⟩
set_option maxHeartbeats 1600000 in
theorem all_any (b a n : Nat) (pr : Pg → Bool) (g : Nat) (lb : Array Value) (V : Vm) (w : World) (hn : a + n ≤ 1024) (eg : ∀ args w, (callFunc g args).run Tryz.prog w = .ok (.enter g args) w)
    (hp : ∀ p, p < 1024 → ∀ W, Below w.heap.size w W → Calls Tryz.prog g (#[.pointer (some ⟨b, 1 + p * 66, none⟩)] ++ lb) W fun e W' => e = .returned (.bool (pr (V.pg p))) ∧ Below W.heap.size W W') :
    Calls Tryz.prog 104 #[.pointer (some ⟨b, 0, none⟩), .int .i64 a, .int .i64 n, .func (.func g) #[] lb] w fun e w' => e = .returned (.bool (allP V a n pr)) ∧ Below w.heap.size w w' := by
  obtain ⟨R, hR⟩ : ∃ R, allP V a n pr = R := ⟨_, rfl⟩
  rw [hR]
  have hR' := Lib.hid hR
  have hp' := Lib.hid hp
  clear hp hR
  go_enter Tryz.func104, Tryz.ntmps104
  go_wp2_with fail
  go_loopw [11] (fun u wr => ∃ i : Nat, i ≤ n ∧ u = .int .i64 i ∧ Hid (∀ j, j < i → pr (V.pg (a + j)) = true) ∧ Below w.heap.size w wr) (fun u _ => n - (intOf u).toNat)
  case atStart => exact ⟨0, by omega, rfl, Lib.hid (fun _ h => by omega), Below.refl _ _⟩
  case round =>
    obtain ⟨i, hi, rfl, hA, hB⟩ := hrel
    by_cases hlt : i < n
    · have hlt' : decide ((i : Int) < (n : Int)) = true := by simpa using hlt
      obtain ⟨p, hpd⟩ : ∃ p, a + i = p := ⟨_, rfl⟩
      have hw : IntKind.i64.wrap ((a : Int) + (i : Int)) = (p : Int) := by rw [IntKind.wrap_i64]; omega
      have hpl : (p : Int) < 1024 := by omega
      have HP := Lib.hid (hp'.out p (by omega) wr hB)
      have hpd' := Lib.hid hpd
      clear hpd
      cases hv : pr (V.pg p) with
      | true =>
        rw [hv] at HP
        have hA2 : Hid (∀ j, j < i + 1 → pr (V.pg (a + j)) = true) := Lib.hid (fun j hj => by
          by_cases e : j = i
          · rw [e, hpd'.out]; exact hv
          · exact hA.out j (by omega))
        clear hv hA
        go_wp2_with fail
        refine HP.out.mono ?_
        rintro e w1 ⟨rfl, hb1⟩
        go_wp2_with fail
        go_roundw
        case rel => exact ⟨i + 1, by omega, by go_num, hA2, hB.trans (hb1.mono hB.size)⟩
        case measure => simp [intOf]; omega
      | false =>
        rw [hv] at HP
        have hE : Hid (R = false) := Lib.hid (by
          cases hx : R with
          | false => rfl
          | true =>
            rw [hx] at hR'
            have := allP_iff.1 hR'.out p (by have := hpd'.out; omega) (by have := hpd'.out; omega)
            rw [hv] at this; cases this)
        clear hv hA
        go_wp2_with fail
        refine HP.out.mono ?_
        rintro e w1 ⟨rfl, hb1⟩
        go_wp2_with fail
        go_ret
        exact ⟨z_ret_bool hE.out.symm, hB.trans (hb1.mono hB.size)⟩
    · obtain rfl : i = n := by omega
      have hlt' : decide ((i : Int) < (i : Int)) = false := by simp
      have hE : Hid (R = true) := Lib.hid (by
        rw [← hR'.out, allP_iff]
        intro q h1 h2
        have := hA.out (q - a) (by omega)
        rwa [show a + (q - a) = q by omega] at this)
      clear hA
      go_wp2_with fail
      go_ret
      exact ⟨z_ret_bool hE.out.symm, hB⟩
set_option maxHeartbeats 1600000 in
theorem each_any (b a n : Nat) (fd : Pg → Pg) (g : Nat) (lb : Array Value) (V : Vm) (w : World) (hV : SysIs w b V) (hn : a + n ≤ 1024) (eg : ∀ args w, (callFunc g args).run Tryz.prog w = .ok (.enter g args) w)
    (hp : ∀ p, p < 1024 → ∀ V' W, SysIs W b V' → Far (fun k => k = b) w W → Calls Tryz.prog g (#[.pointer (some ⟨b, 1 + p * 66, none⟩)] ++ lb) W fun e W' => e = .returned (.tuple #[]) ∧ SysIs W' b (V'.setP p (fd (V'.pg p))) ∧ Far (fun k => k = b) W W') :
    Calls Tryz.prog 106 #[.pointer (some ⟨b, 0, none⟩), .int .i64 a, .int .i64 n, .func (.func g) #[] lb] w fun e w' => e = .returned (.tuple #[]) ∧ SysIs w' b (V.eachP a n fd) ∧ Far (fun k => k = b) w w' := by
  have hp' := Lib.hid hp
  have hV0 : Hid (SysIs w b (V.eachP a 0 fd)) := Lib.hid (by rw [Vm.eachP_zero]; exact hV)
  clear hp hV
  go_enter Tryz.func106, Tryz.ntmps106
  go_wp2_with fail
  go_loopw [10] (fun u wr => ∃ i : Nat, i ≤ n ∧ u = .int .i64 i ∧ Hid (SysIs wr b (V.eachP a i fd)) ∧ Far (fun k => k = b) w wr) (fun u _ => n - (intOf u).toNat)
  case atStart => exact ⟨0, by omega, rfl, hV0, Far.refl _ _⟩
  case round =>
    clear hV0
    obtain ⟨i, hi, rfl, hS, hF⟩ := hrel
    by_cases hlt : i < n
    · have hlt' : decide ((i : Int) < (n : Int)) = true := by simpa using hlt
      have HP0 := hp'.out (a + i) (by omega) _ wr hS.out hF
      rw [← Vm.eachP_succ] at HP0
      obtain ⟨p, hpd⟩ : ∃ p, a + i = p := ⟨_, rfl⟩
      rw [hpd] at HP0
      have HP := Lib.hid HP0
      have hw : IntKind.i64.wrap ((a : Int) + (i : Int)) = (p : Int) := by rw [IntKind.wrap_i64]; omega
      have hpl : (p : Int) < 1024 := by omega
      clear hpd HP0 hS
      go_wp2_with fail
      refine HP.out.mono ?_
      rintro e w1 ⟨rfl, hS1, hF1⟩
      go_wp2_with fail
      go_roundw
      case rel => exact ⟨i + 1, by omega, by go_num, Lib.hid hS1, hF.trans hF1⟩
      case measure => simp [intOf]; omega
    · obtain rfl : i = n := by omega
      have hlt' : decide ((i : Int) < (i : Int)) = false := by simp
      go_wp2_with fail
      go_end0
      exact ⟨rfl, hS.out, hF⟩
end Go.Proofs.YtefnnfcfigcikaaGreat
namespace Go.Pol
open Go Go.RowKit
theorem z_one3 {a b c : Value} (ha : a.oneCell' = true) (hb : b.oneCell' = true) (hc : c.oneCell' = true) : ∀ x ∈ [a, b, c], x.oneCell' = true := by
  intro x hx
  simp only [List.mem_cons, List.not_mem_nil, or_false] at hx
  rcases hx with rfl | rfl | rfl
  · exact ha
  · exact hb
  · exact hc
theorem z_results_cell {P : Program} {fn : Func} {a : Tmp} {t : TypeId} {tmps : Array Value} {w : World} {v : Value} {p : Addr} (h : fn.results = #[.cell a t]) (ha : tmps.getD a undef = .pointer (some p)) (hl : (loadVar t p).run P w = .ok v w) :
    (results fn tmps).run P w = .ok v w := by
  have ha' : tmps[a]?.getD undef = .pointer (some p) := by rw [← ha, Array.getD_eq_getD_getElem?]
  simp [results, h, ha', asAddr, hl]
end Go.Pol
namespace Go.Proofs.YtefnnfcfigcikaaGreat
open Go Go.Proofs Go.RowKit Go.Pol Go.Shelf
attribute [local go_sem] Oper.semAt_some Go.Pol.wide_fn Go.Pol.wide_depth Go.Pol.wide_fn' Go.Pol.wide_depth'

theorem may_enters : ∀ args w, (callFunc 107 args).run Tryz.prog w = .ok (.enter 107 args) w := enters_of Tryz.func107 (by kernel_rfl) rfl
theorem do_enters : ∀ args w, (callFunc 108 args).run Tryz.prog w = .ok (.enter 108 args) w := enters_of Tryz.func108 (by kernel_rfl) rfl
theorem infoCh : (Tryz.prog.info? 119).map (·.size) = some 3 := by kernel_rfl
theorem becomes_any (call fr tk : Int) (w : World) : Calls Tryz.prog 53 #[.int .i64 call, .int .i64 fr, .int .i64 tk] w fun e w' =>
    e = .returned (.agg #[.int .i64 call, .func (.func 107) #[] #[.pointer (some ⟨w.heap.size, 0, none⟩)], .func (.func 108) #[] #[.pointer (some ⟨w.heap.size + 1, 0, none⟩)]]) ∧
      Blk w' w.heap.size 3 #[.int .i64 fr] ∧ Blk w' (w.heap.size + 1) 3 #[.int .i64 tk] ∧ Below w.heap.size w w' := by
  obtain ⟨s, hs⟩ : ∃ s, w.heap.size = s := ⟨_, rfl⟩
  have k0 := ((Blk.new w 3 #[.int .i64 fr]).alloc (.cells #[.int .i64 tk] 3)).alloc (.cells #[.int .i64 0, Value.nilFunc, Value.nilFunc] 119)
  have k1 := (Blk.new (w.alloc (.cells #[.int .i64 fr] 3)) 3 #[.int .i64 tk]).alloc (.cells #[.int .i64 0, Value.nilFunc, Value.nilFunc] 119)
  have kz := Blk.new ((w.alloc (.cells #[.int .i64 fr] 3)).alloc (.cells #[.int .i64 tk] 3)) 119 #[.int .i64 0, Value.nilFunc, Value.nilFunc]
  have hb := (((Below.refl w.heap.size w).alloc (Nat.le_refl _) (.cells #[.int .i64 fr] 3)).alloc (by simp) (.cells #[.int .i64 tk] 3)).alloc (by simp; omega) (.cells #[.int .i64 0, Value.nilFunc, Value.nilFunc] 119)
  simp only [World.size_alloc] at k1 kz
  rw [hs] at k0 k1 kz
  rw [hs] at hb
  have hs' := Lib.hid hs
  go_enter Tryz.func53, Tryz.ntmps53
  go_upto_region 1 with fail
  generalize ((w.alloc (.cells #[.int .i64 fr] 3)).alloc (.cells #[.int .i64 tk] 3)).alloc (.cells #[.int .i64 0, Value.nilFunc, Value.nilFunc] 119) = w3 at *
  clear hs
  go_wp2_with (refine wpList_store_mid rfl 119 (.tmp 6) (.tmp 10) rfl (s + 1 + 1) 0 #[.int .i64 call, .func (.func 107) #[] #[.pointer (some ⟨s, 0, none⟩)], .func (.func 108) #[] #[.pointer (some ⟨s + 1, 0, none⟩)]] rfl rfl (z_there kz 0 3 (by simp)) infoCh (Go.all_oneCell_toArray (z_one3 rfl rfl rfl)) ?_)
  have k4 := Blk.puts (g := s + 1 + 1) (t := 119) (w := w3) (cs := #[]) [.int .i64 call, .func (.func 107) #[] #[.pointer (some ⟨s, 0, none⟩)], .func (.func 108) #[] #[.pointer (some ⟨s + 1, 0, none⟩)]] 0 w3 _ kz
  rw [putA_all (by rfl)] at k4
  have hF4 := Far.puts (T := fun k => k = s + 1 + 1) rfl [.int .i64 call, .func (.func 107) #[] #[.pointer (some ⟨s, 0, none⟩)], .func (.func 108) #[] #[.pointer (some ⟨s + 1, 0, none⟩)]] 0 w3 w3 (Far.refl _ _)
  generalize w3.setCells (s + 1 + 1) 0 [.int .i64 call, .func (.func 107) #[] #[.pointer (some ⟨s, 0, none⟩)], .func (.func 108) #[] #[.pointer (some ⟨s + 1, 0, none⟩)]] = w4 at *
  have hl4 := run_loadVar_mid (P := Tryz.prog) w4 (s + 1 + 1) 0 119 [.int .i64 call, .func (.func 107) #[] #[.pointer (some ⟨s, 0, none⟩)], .func (.func 108) #[] #[.pointer (some ⟨s + 1, 0, none⟩)]] _ (fun j v hj => by rw [Nat.zero_add, k4.cell]; simpa using hj) Tryz.underlying119 rfl infoCh
  refine bodyPost_ret (v := .agg #[.int .i64 call, .func (.func 107) #[] #[.pointer (some ⟨s, 0, none⟩)], .func (.func 108) #[] #[.pointer (some ⟨s + 1, 0, none⟩)]]) ?_ rfl ?_
  · exact z_results_cell Tryz.results53 rfl hl4
  rw [hs'.out]
  exact ⟨rfl, hF4.blk k0 (by omega), hF4.blk k1 (by omega), hb.trans (hF4.below (by have := kz.lt; omega) (fun k hk e => by omega))⟩
theorem may_any (fr : Int) (b p B : Nat) (V : Vm) (W : World) (hV : SysIs W b V) (hp : p < 1024) (hB : Blk W B 3 #[.int .i64 fr]) :
    Calls Tryz.prog 107 #[.pointer (some ⟨b, 1 + p * 66, none⟩), .pointer (some ⟨B, 0, none⟩)] W fun e W' => e = .returned (.bool ((V.pg p).kind == fr && !(V.pg p).huge)) ∧ Below W.heap.size W W' := by
  obtain ⟨cs, A, n, cap, hk, hc, _⟩ := hV.ex
  have c0 := (hk.cell (1 + p * 66)).trans (hc.kind hp)
  have c1 := (hk.cell (1 + p * 66 + 1)).trans (hc.hug hp)
  generalize (V.pg p).kind = kd at *
  generalize (V.pg p).huge = hg at *
  have z0 := fun z : Ext W => z.cell c0
  have z1 := fun z : Ext W => z.cell c1
  have z2 := fun z : Ext W => (z.blk hB).cell
  clear c0 c1 hk hc hV hB
  go_enter Tryz.func107, Tryz.ntmps107
  go_upto_region 1 with fail
  by_cases h : kd = fr
  · have d1 : (kd == fr) = true := by simpa using h
    clear h
    cases hg with
    | true =>
      refine region_ext (by kernel_rfl) (by kernel_rfl) ?_
      repeat (go_big_quiet_step (fail))
      refine wpQuiet_nil ?_
      rintro w1 ⟨⟨_, hw1⟩, rfl⟩
      go_wp2_with fail
      go_ret
      exact ⟨z_ret_bool (by rw [d1]; rfl), hw1⟩
    | false =>
      refine region_ext (by kernel_rfl) (by kernel_rfl) ?_
      repeat (go_big_quiet_step (fail))
      refine wpQuiet_nil ?_
      rintro w1 ⟨⟨_, hw1⟩, rfl⟩
      go_wp2_with fail
      go_ret
      exact ⟨z_ret_bool (by rw [d1]; rfl), hw1⟩
  · have d1 : (kd == fr) = false := by simpa using h
    clear h
    refine region_ext (by kernel_rfl) (by kernel_rfl) ?_
    repeat (go_big_quiet_step (fail))
    refine wpQuiet_nil ?_
    rintro w1 ⟨⟨_, hw1⟩, rfl⟩
    go_wp2_with fail
    go_ret
    exact ⟨z_ret_bool (by rw [d1]; rfl), hw1⟩
theorem infoPg : (Tryz.prog.info? 111).map (·.size) = some 66 := by kernel_rfl
theorem newPg_cells (tk : Int) : Tryz.zeroCells111.setIfInBounds 0 (.int .i64 tk) = (pgC (newPg tk)).toArray := by
  have h : Tryz.zeroCells111 = (pgC (newPg 0)).toArray := by kernel_rfl
  rw [h]
  rfl
theorem do_any (tk : Int) (b p B : Nat) (V : Vm) (W : World) (hV : SysIs W b V) (hp : p < 1024) (hB : Blk W B 3 #[.int .i64 tk]) :
    Calls Tryz.prog 108 #[.pointer (some ⟨b, 1 + p * 66, none⟩), .pointer (some ⟨B, 0, none⟩)] W fun e W' => e = .returned (.tuple #[]) ∧ SysIs W' b (V.setP p (newPg tk)) ∧ Far (fun k => k = b) W W' := by
  have hput := hV.setP hp (newPg tk)
  obtain ⟨cs, A, n, cap, hk, hc, _⟩ := hV.ex
  have hsz := hc.size
  have ht := z_there hk (1 + p * 66) 66 (by omega)
  have cB := hB.cell
  have hz := newPg_cells tk
  clear hk hc hV
  go_enter Tryz.func108, Tryz.ntmps108
  go_wp2_with (refine wpList_store_mid rfl 111 (.tmp 6) (.tmp 5) rfl b (1 + p * 66) (pgC (newPg tk)).toArray rfl rfl ht infoPg (Go.all_oneCell_toArray (pgC_one _)) ?_)
  go_end0
  exact ⟨rfl, hput.1, hput.2⟩
end Go.Proofs.YtefnnfcfigcikaaGreat
namespace Go.Pol
open Go Go.RowKit
def refB (S : Rf) (k : Nat) : Bool := if S.calls k = 1000000 then false else nextB S k
def refS (S : Rf) (k : Nat) : Rf := if S.calls k = 1000000 then S else nextS S k
def Vm.ref (V : Vm) (k : Nat) : Vm := { V with rf := refS V.rf k }
/-- refusals put anew -/
theorem SysIs.putRf {w w' : World} {b : Nat} {V : Vm} (h : SysIs w b V) (S : Rf) (A : Option Addr) (n cap : Nat) (hB : Below w.heap.size w w') (hn : S.rules.length = n) (hr : Rd w' w'.heap.size A (fl ruC S.rules)) (hz : A = none → cap = 0) (hA : ∀ g o, A = some ⟨g, o, none⟩ → w.heap.size ≤ g) (hS : RfOk S) (hT : ∀ g o, A = some ⟨g, o, none⟩ → S.rules ≠ [] → ∃ cr, Blk w' g 178 cr) :
    SysIs (w'.setCells b 67585 (rfC (.slice A n cap) S.calls S.hits)) b { V with rf := S } ∧ Far (fun k => k = b) w (w'.setCells b 67585 (rfC (.slice A n cap) S.calls S.hits)) := by
  have hlt := h.lt
  obtain ⟨cs, A0, n0, cap0, h1, h2, _⟩ := h.ex
  have k1 := h1.call hB
  have hF := Far.puts (T := fun k => k = b) rfl (rfC (.slice A n cap) S.calls S.hits) 67585 w' w' (Far.refl _ _)
  refine ⟨⟨_, A, n, cap, Blk.puts (w := w) (cs := #[]) (rfC (.slice A n cap) S.calls S.hits) 67585 w' cs k1, h2.putRf _ S, hn, (hr.far_ hF (fun g o e => by have := hA g o e; omega)).more hF.size, hz, fun g o e _ => by have := hA g o e; omega, hS, fun g o e h => (hT g o e h).imp fun cr hc => hF.blk hc (by have := hA g o e; show ¬ g = b; omega)⟩, (Far.of_below hB).trans hF⟩
end Go.Pol
namespace Go.Proofs.YtefnnfcfigcikaaGreat
open Go Go.Proofs Go.RowKit Go.Pol Go.Shelf
attribute [local go_sem] Oper.semAt_some Go.Pol.wide_fn Go.Pol.wide_depth Go.Pol.wide_fn' Go.Pol.wide_depth'

set_option maxHeartbeats 1600000 in
theorem sysRefused_any (b k : Nat) (V : Vm) (w : World) (hV : SysIs w b V) (hk : k < 7) :
    Calls Tryz.prog 105 #[.pointer (some ⟨b, 0, none⟩), .int .i64 k] w fun e w' => e = .returned (.bool (refB V.rf k)) ∧ SysIs w' b (V.ref k) ∧ Far (fun k => k = b) w w' := by
  have hV' := Lib.hid hV
  obtain ⟨cs, A, n, cap, hk0, hc, hn, hr, hz, hA, hok, _⟩ := hV.ex
  have HN := Lib.hid (nextR_any A n cap V.rf k w hok hk hn hz hr)
  have hrng : w.rangeAt b 67585 (rfC (.slice A n cap) V.rf.calls V.rf.hits) := fun j v hj => by
    have hj15 : j < 15 := (List.getElem?_eq_some_iff.1 hj).1
    rw [hk0.cell, hc.rf j hj15]; exact hj
  have hok' := Lib.hid hok
  have hrl := Lib.hid (show refB V.rf k = if V.rf.calls k = 1000000 then false else nextB V.rf k from rfl)
  have hrs := Lib.hid (show V.ref k = { V with rf := if V.rf.calls k = 1000000 then V.rf else nextS V.rf k } from rfl)
  generalize refB V.rf k = R at *
  generalize V.ref k = V2 at *
  clear hc hr hz hA hn hok hV
  go_enter Tryz.func105, Tryz.ntmps105
  go_wp2_with (first
    | (refine wpList_load_mid rfl 79 (.tmp 11) rfl b 67585 rfl (rfC (.slice A n cap) V.rf.calls V.rf.hits) _ hrng Tryz.underlying79 rfl infoRf ?_))
  clear hrng
  refine HN.out.mono ?_
  rintro e w1 hN
  rcases hN with ⟨hc, rfl, hb1⟩ | ⟨hc, v, rfl, hv⟩
  · rw [if_pos hc] at hrl hrs
    have hV1 := hV'.out.call hb1
    have hE := Lib.hid (And.intro hrl.out hrs.out)
    clear hrl hrs hc HN hk0 hok'
    unfold rfV rfC
    go_wp2_with fail
    go_ret
    obtain ⟨e1, e2⟩ := hE.out
    rw [e1, e2]
    have hbz := (Below.refl w1.heap.size w1).alloc (Nat.le_refl _) (.cells (rfC (.slice none 0 0) (fun _ => 0) (fun _ => 0)).toArray 79)
    unfold rfC at hbz
    exact ⟨rfl, hV1.call hbz, .of_below (hb1.trans (hbz.mono hb1.size))⟩
  · rw [if_neg hc] at hrl hrs
    obtain ⟨A2, c2, rfl, v1, v2, v3, v4, v5, hb1⟩ := hv
    have hS2 : RfOk (nextS V.rf k) := nextS_ok hok'.out hk hc
    have hbz := (Below.refl w1.heap.size w1).alloc (Nat.le_refl _) (.cells (rfC (.slice A2 V.rf.rules.length c2) (nextS V.rf k).calls (nextS V.rf k).hits).toArray 79)
    have hb2 := hb1.trans (hbz.mono hb1.size)
    have hput := hV'.out.putRf (nextS V.rf k) A2 V.rf.rules.length c2 hb2 rfl (v1.on_ hbz) v5.1 v4 hS2 (fun g o e h => (v5.2 g o e h).imp fun cr hc => hc.call hbz)
    have hV2 := hV'.out.call hb2
    have hE := Lib.hid (And.intro hrl.out hrs.out)
    have hsz := hV2.lt
    obtain ⟨cs9, A9, n9, c9, k9, h9, h10⟩ := hV2.ex
    have hcs9 := h9.size
    have kz := Blk.new w1 79 (rfC (.slice A2 V.rf.rules.length c2) (nextS V.rf k).calls (nextS V.rf k).hits).toArray
    clear h10
    clear hrl hrs hc HN hk0 hok' hS2 hb2 hb1 v1 hV2 h9
    generalize V.rf.rules.length = n2 at *
    generalize (nextS V.rf k).calls = cs2 at *
    generalize (nextS V.rf k).hits = hs2 at *
    have hput' := Lib.hid hput
    clear hput
    rw [← hE.out.1]
    rw [← hE.out.2] at hput'
    clear hE hV'
    unfold rfC at hbz k9 hput' kz
    unfold rfV rfC
    obtain ⟨s, hs⟩ : ∃ s, w1.heap.size = s := ⟨_, rfl⟩
    rw [hs] at kz
    go_upto_region 3 with fail
    generalize w1.alloc _ = w2 at *
    clear hs hbz
    have cz := kz.cell
    have ht : w2.there b 67585 (rfC (.slice A2 n2 c2) cs2 hs2).toArray.size := z_there k9 67585 15 (by omega)
    have hone := Go.all_oneCell_toArray (rfC_one (v := .slice A2 n2 c2) rfl cs2 hs2)
    clear hcs9 k9 kz
    have hput2 : Hid (SysIs (w2.setCells b 67585 (rfC (.slice A2 n2 c2) cs2 hs2)) b V2 ∧ Far (fun k => k = b) w (w2.setCells b 67585 (rfC (.slice A2 n2 c2) cs2 hs2))) := hput'
    clear hput'
    cases R with
    | true =>
      go_wp2_with (refine wpList_store_mid rfl 79 (.tmp 23) (.tmp 21) rfl b 67585 (rfC (.slice A2 n2 c2) cs2 hs2).toArray ?hxx ?hyy ht infoRf hone ?_)
      case hxx => rfl
      case hyy => rfl
      generalize w2.setCells b 67585 _ = w4 at *
      go_ret
      exact ⟨rfl, hput2.out.1, hput2.out.2⟩
    | false =>
      go_wp2_with (refine wpList_store_mid rfl 79 (.tmp 23) (.tmp 21) rfl b 67585 (rfC (.slice A2 n2 c2) cs2 hs2).toArray ?hxy ?hyz ht infoRf hone ?_)
      case hxy => rfl
      case hyz => rfl
      generalize w2.setCells b 67585 _ = w4 at *
      go_ret
      exact ⟨rfl, hput2.out.1, hput2.out.2⟩
end Go.Proofs.YtefnnfcfigcikaaGreat
namespace Go.Pol
open Go Go.RowKit
/-- what a change makes of a system -/
def makeF (V : Vm) (a n : Int) (call : Nat) (pr : Pg → Bool) (fd : Pg → Pg) : Int × Vm :=
  if n < 1 ∨ a < 0 ∨ 1024 ≤ a ∨ 1024 - a < n then (7, V) else if allP V a.toNat n.toNat pr = false then (9, V) else if refB V.rf call = true then (60, V.ref call) else (0, (V.ref call).eachP a.toNat n.toNat fd)
/-- a system afterwards, and nothing else of what was -/
def SysTo (b : Nat) (V : Vm) (w w' : World) : Prop := SysIs w' b V ∧ Far (fun k => k = b) w w'
/-- pages of one kind, of no huge one, become another kind -/
def bec (V : Vm) (a n : Int) (call : Nat) (fr tk : Int) : Int × Vm := makeF V a n call (fun g => g.kind == fr && !g.huge) (fun _ => newPg tk)
end Go.Pol
namespace Go.Proofs.YtefnnfcfigcikaaGreat
open Go Go.Proofs Go.RowKit Go.Pol Go.Shelf
attribute [local go_sem] Oper.semAt_some Go.Pol.wide_fn Go.Pol.wide_depth Go.Pol.wide_fn' Go.Pol.wide_depth'

set_option maxRecDepth 100000 in
set_option maxHeartbeats 1600000 in
theorem make_any (b call : Nat) (a n : Int) (pr : Pg → Bool) (fd : Pg → Pg) (g1 g2 : Nat) (lb1 lb2 : Array Value) (V : Vm) (w : World) (hV : SysIs w b V) (hc : call < 7)
    (e1 : ∀ args w, (callFunc g1 args).run Tryz.prog w = .ok (.enter g1 args) w) (e2 : ∀ args w, (callFunc g2 args).run Tryz.prog w = .ok (.enter g2 args) w)
    (hp1 : ∀ p, p < 1024 → ∀ V' W, SysIs W b V' → Far (fun k => k = b) w W → Calls Tryz.prog g1 (#[.pointer (some ⟨b, 1 + p * 66, none⟩)] ++ lb1) W fun e W' => e = .returned (.bool (pr (V'.pg p))) ∧ Below W.heap.size W W')
    (hp2 : ∀ p, p < 1024 → ∀ V' W, SysIs W b V' → Far (fun k => k = b) w W → Calls Tryz.prog g2 (#[.pointer (some ⟨b, 1 + p * 66, none⟩)] ++ lb2) W fun e W' => e = .returned (.tuple #[]) ∧ SysIs W' b (V'.setP p (fd (V'.pg p))) ∧ Far (fun k => k = b) W W') :
    Calls Tryz.prog 52 #[.pointer (some ⟨b, 0, none⟩), .int .i64 a, .int .i64 n, .agg #[.int .i64 call, .func (.func g1) #[] lb1, .func (.func g2) #[] lb2]] w fun e w' => e = .returned (.int .i64 (makeF V a n call pr fd).1) ∧ SysTo b (makeF V a n call pr fd).2 w w' := by
  have hb0 := (Below.refl w.heap.size w).alloc (Nat.le_refl _) (.cells #[.int .i64 call, .func (.func g1) #[] lb1, .func (.func g2) #[] lb2] 119)
  have k0 := Blk.new w 119 #[.int .i64 call, .func (.func g1) #[] lb1, .func (.func g2) #[] lb2]
  have V0 := hV.call hb0
  have F0 : Far (fun k => k = b) w (w.alloc (.cells #[.int .i64 call, .func (.func g1) #[] lb1, .func (.func g2) #[] lb2] 119)) := .of_below hb0
  have hbs := hV.lt
  have HI := Lib.hid (fun W h => is_any b V W h)
  have HA := Lib.hid (fun (aa nn : Nat) (h : aa + nn ≤ 1024) W (hW : SysIs W b V) (hF : Far (fun k => k = b) w W) => all_any b aa nn pr g1 lb1 V W h e1 (fun p hp W' hb => hp1 p hp V W' (hW.call hb) (hF.trans (.of_below hb))))
  have HR := Lib.hid (fun W h => sysRefused_any b call V W h hc)
  have HE := Lib.hid (fun (aa nn : Nat) (h : aa + nn ≤ 1024) V' W (hW : SysIs W b V') (hF : Far (fun k => k = b) w W) => each_any b aa nn fd g2 lb2 V' W hW h e2 (fun p hp V2 W' h2 hF2 => hp2 p hp V2 W' h2 (hF.trans hF2)))
  obtain ⟨R, hR⟩ : ∃ R, makeF V a n call pr fd = R := ⟨_, rfl⟩
  rw [hR]
  unfold makeF at hR
  obtain ⟨re, rV⟩ := R
  obtain ⟨s, hs⟩ : ∃ s, w.heap.size = s := ⟨_, rfl⟩
  rw [hs] at k0 hbs
  have hs' := Lib.hid hs
  simp only
  unfold SysTo
  clear hp1 hp2 hb0 hV e1 e2
  by_cases c1 : n < 1
  · have d1 : decide (n < 1) = true := by simpa using c1
    rw [if_pos (by omega)] at hR
    simp only [Prod.mk.injEq] at hR
    obtain ⟨rfl, rfl⟩ := hR
    have c0 := k0.cell
    clear hs
    go_enter Tryz.func52, Tryz.ntmps52
    go_upto_region 1 with fail
    generalize w.alloc _ = w0 at *
    simp only [hs'.out]
    go_wp2_with fail
    refine (HI.out _ V0).mono ?_
    rintro e9 w9 ⟨rfl, hw9⟩
    replace hw9 := hw9.symm
    subst hw9
    go_wp2_with fail
    go_ret
    exact ⟨rfl, V0, F0⟩
  have d1 : decide (n < 1) = false := by simpa using c1
  by_cases c2 : a < 0
  · have d2 : decide (a < 0) = true := by simpa using c2
    rw [if_pos (by omega)] at hR
    simp only [Prod.mk.injEq] at hR
    obtain ⟨rfl, rfl⟩ := hR
    have c0 := k0.cell
    clear hs
    go_enter Tryz.func52, Tryz.ntmps52
    go_upto_region 1 with fail
    generalize w.alloc _ = w0 at *
    simp only [hs'.out]
    go_wp2_with fail
    refine (HI.out _ V0).mono ?_
    rintro e9 w9 ⟨rfl, hw9⟩
    replace hw9 := hw9.symm
    subst hw9
    go_wp2_with fail
    go_ret
    exact ⟨rfl, V0, F0⟩
  have d2 : decide (a < 0) = false := by simpa using c2
  by_cases c3 : 1024 ≤ a
  · have d3 : decide (1024 ≤ a) = true := by simpa using c3
    rw [if_pos (by omega)] at hR
    simp only [Prod.mk.injEq] at hR
    obtain ⟨rfl, rfl⟩ := hR
    have c0 := k0.cell
    clear hs
    go_enter Tryz.func52, Tryz.ntmps52
    go_upto_region 1 with fail
    generalize w.alloc _ = w0 at *
    simp only [hs'.out]
    go_wp2_with fail
    refine (HI.out _ V0).mono ?_
    rintro e9 w9 ⟨rfl, hw9⟩
    replace hw9 := hw9.symm
    subst hw9
    go_wp2_with fail
    go_ret
    exact ⟨rfl, V0, F0⟩
  have d3 : decide (1024 ≤ a) = false := by simpa using c3
  have hw : IntKind.i64.wrap (1024 - a) = 1024 - a := by rw [IntKind.wrap_i64]; omega
  by_cases c4 : 1024 - a < n
  · have d4 : decide (1024 - a < n) = true := by simpa using c4
    rw [if_pos (by omega)] at hR
    simp only [Prod.mk.injEq] at hR
    obtain ⟨rfl, rfl⟩ := hR
    have c0 := k0.cell
    clear hs
    go_enter Tryz.func52, Tryz.ntmps52
    go_upto_region 1 with fail
    generalize w.alloc _ = w0 at *
    simp only [hs'.out]
    go_wp2_with fail
    refine (HI.out _ V0).mono ?_
    rintro e9 w9 ⟨rfl, hw9⟩
    replace hw9 := hw9.symm
    subst hw9
    go_wp2_with fail
    go_ret
    exact ⟨rfl, V0, F0⟩
  have d4 : decide (1024 - a < n) = false := by simpa using c4
  rw [if_neg (by omega)] at hR
  obtain ⟨aa, rfl⟩ : ∃ aa : Nat, a = (aa : Int) := ⟨a.toNat, by omega⟩
  obtain ⟨nn, rfl⟩ : ∃ nn : Nat, n = (nn : Int) := ⟨n.toNat, by omega⟩
  simp only [Int.toNat_natCast] at hR
  have hsum : aa + nn ≤ 1024 := by omega
  have HA' := Lib.hid (HA.out aa nn hsum)
  have HE' := Lib.hid (HE.out aa nn hsum)
  generalize allP V aa nn pr = al at *
  cases al with
  | false =>
    rw [if_pos rfl] at hR
    simp only [Prod.mk.injEq] at hR
    obtain ⟨rfl, rfl⟩ := hR
    have c0 := k0.cell
    clear hs
    go_enter Tryz.func52, Tryz.ntmps52
    go_upto_region 1 with fail
    generalize w.alloc _ = w0 at *
    simp only [hs'.out]
    go_wp2_with fail
    refine (HI.out _ V0).mono ?_
    rintro e9 w9 ⟨rfl, hw9⟩
    replace hw9 := hw9.symm
    subst hw9
    go_wp2_with fail
    refine (HA'.out _ V0 F0).mono ?_
    rintro e w1 ⟨rfl, hb1⟩
    have V1 := V0.call hb1
    have F1 : Far (fun k => k = b) w w1 := F0.trans (.of_below hb1)
    go_wp2_with fail
    go_ret
    exact ⟨rfl, V1, F1⟩
  | true =>
    rw [if_neg (by simp)] at hR
    generalize refB V.rf call = rb at *
    cases rb with
    | true =>
      rw [if_pos rfl] at hR
      simp only [Prod.mk.injEq] at hR
      obtain ⟨rfl, rfl⟩ := hR
      generalize V.ref call = V2 at *
      have c0 := k0.cell
      clear hs
      go_enter Tryz.func52, Tryz.ntmps52
      go_upto_region 1 with fail
      generalize w.alloc _ = w0 at *
      simp only [hs'.out]
      go_wp2_with fail
      refine (HI.out _ V0).mono ?_
      rintro e9 w9 ⟨rfl, hw9⟩
      replace hw9 := hw9.symm
      subst hw9
      go_wp2_with fail
      refine (HA'.out _ V0 F0).mono ?_
      rintro e w1 ⟨rfl, hb1⟩
      have k1 := k0.call hb1
      have c1 := k1.cell
      have V1 := V0.call hb1
      have F1 : Far (fun k => k = b) w w1 := F0.trans (.of_below hb1)
      clear c0
      go_wp2_with fail
      refine (HR.out _ V1).mono ?_
      rintro e w2 ⟨rfl, V2', F2⟩
      go_wp2_with fail
      go_ret
      exact ⟨rfl, V2', F1.trans F2⟩
    | false =>
      rw [if_neg (by simp)] at hR
      simp only [Prod.mk.injEq] at hR
      obtain ⟨rfl, rfl⟩ := hR
      generalize V.ref call = V2 at *
      have c0 := k0.cell
      clear hs
      go_enter Tryz.func52, Tryz.ntmps52
      go_upto_region 1 with fail
      generalize w.alloc _ = w0 at *
      simp only [hs'.out]
      go_wp2_with fail
      refine (HI.out _ V0).mono ?_
      rintro e9 w9 ⟨rfl, hw9⟩
      replace hw9 := hw9.symm
      subst hw9
      go_wp2_with fail
      refine (HA'.out _ V0 F0).mono ?_
      rintro e w1 ⟨rfl, hb1⟩
      have k1 := k0.call hb1
      have c1 := k1.cell
      have V1 := V0.call hb1
      have F1 : Far (fun k => k = b) w w1 := F0.trans (.of_below hb1)
      clear c0
      go_wp2_with fail
      refine (HR.out _ V1).mono ?_
      rintro e w2 ⟨rfl, V2', F2⟩
      have k2 := F2.blk k1 (by omega)
      have c2 := k2.cell
      clear c1
      go_wp2_with fail
      refine (HE'.out _ _ V2' (F1.trans F2)).mono ?_
      rintro e w3 ⟨rfl, V3, F3⟩
      go_wp2_with fail
      go_ret
      exact ⟨rfl, V3, (F1.trans F2).trans F3⟩
end Go.Proofs.YtefnnfcfigcikaaGreat
namespace Go.Proofs.YtefnnfcfigcikaaGreat
open Go Go.Proofs Go.RowKit Go.Pol Go.Shelf
attribute [local go_sem] Oper.semAt_some Go.Pol.wide_fn Go.Pol.wide_depth Go.Pol.wide_fn' Go.Pol.wide_depth'

/-- make with a change that becomes laid -/
theorem makeBec_any (b call : Nat) (a n fr tk : Int) (s : Nat) (V : Vm) (w : World) (hV : SysIs w b V) (hc : call < 7) (h1 : Blk w s 3 #[.int .i64 fr]) (h2 : Blk w (s + 1) 3 #[.int .i64 tk]) (hb : s ≠ b ∧ s + 1 ≠ b) :
    Calls Tryz.prog 52 #[.pointer (some ⟨b, 0, none⟩), .int .i64 a, .int .i64 n, .agg #[.int .i64 call, .func (.func 107) #[] #[.pointer (some ⟨s, 0, none⟩)], .func (.func 108) #[] #[.pointer (some ⟨s + 1, 0, none⟩)]]] w fun e w' =>
      e = .returned (.int .i64 (bec V a n call fr tk).1) ∧ SysTo b (bec V a n call fr tk).2 w w' :=
  make_any b call a n (fun g => g.kind == fr && !g.huge) (fun _ => newPg tk) _ _ _ _ V w hV hc may_enters do_enters
    (fun p hp V' W hW hF => may_any fr b p s V' W hW hp (hF.blk h1 hb.1))
    (fun p hp V' W hW hF => do_any tk b p (s + 1) V' W hW hp (hF.blk h2 hb.2))
theorem reserve_any (b : Nat) (a n : Int) (V : Vm) (w : World) (hV : SysIs w b V) :
    Calls Tryz.prog 12 #[.pointer (some ⟨b, 0, none⟩), .int .i64 a, .int .i64 n] w fun e w' => e = .returned (.int .i64 (bec V a n 0 0 1).1) ∧ SysTo b (bec V a n 0 0 1).2 w w' := by
  have HB := Lib.hid (becomes_any 0 0 1 w)
  have HM := Lib.hid (fun W s hW h1 h2 hb => makeBec_any b 0 a n 0 1 s V W hW (by omega) h1 h2 hb)
  have hbs := hV.lt
  have hV' := Lib.hid hV
  obtain ⟨re, hre⟩ : ∃ re, (bec V a n 0 0 1).1 = re := ⟨_, rfl⟩
  obtain ⟨rV, hrV⟩ : ∃ rV, (bec V a n 0 0 1).2 = rV := ⟨_, rfl⟩
  simp only [hre, hrV] at HM ⊢
  unfold SysTo at HM ⊢
  clear hre hrV hV
  go_enter Tryz.func12, Tryz.ntmps12
  go_wp2_with fail
  refine HB.out.mono ?_
  rintro e9 w1 ⟨rfl, k1, k2, hb1⟩
  have V1 := hV'.out.call hb1
  have HM1 := Lib.hid (HM.out w1 _ V1 k1 k2 (by omega))
  clear HM HB k1 k2
  go_wp2_with fail
  refine HM1.out.mono ?_
  rintro e8 w2 ⟨rfl, V2, F2⟩
  go_wp2_with fail
  go_ret
  exact ⟨rfl, V2, (Far.of_below hb1).trans F2⟩
theorem commit_any (b : Nat) (a n : Int) (V : Vm) (w : World) (hV : SysIs w b V) :
    Calls Tryz.prog 13 #[.pointer (some ⟨b, 0, none⟩), .int .i64 a, .int .i64 n] w fun e w' => e = .returned (.int .i64 (bec V a n 2 1 2).1) ∧ SysTo b (bec V a n 2 1 2).2 w w' := by
  have HB := Lib.hid (becomes_any 2 1 2 w)
  have HM := Lib.hid (fun W s hW h1 h2 hb => makeBec_any b 2 a n 1 2 s V W hW (by omega) h1 h2 hb)
  have hbs := hV.lt
  have hV' := Lib.hid hV
  obtain ⟨re, hre⟩ : ∃ re, (bec V a n 2 1 2).1 = re := ⟨_, rfl⟩
  obtain ⟨rV, hrV⟩ : ∃ rV, (bec V a n 2 1 2).2 = rV := ⟨_, rfl⟩
  simp only [hre, hrV] at HM ⊢
  unfold SysTo at HM ⊢
  clear hre hrV hV
  go_enter Tryz.func13, Tryz.ntmps13
  go_wp2_with fail
  refine HB.out.mono ?_
  rintro e9 w1 ⟨rfl, k1, k2, hb1⟩
  have V1 := hV'.out.call hb1
  have HM1 := Lib.hid (HM.out w1 _ V1 k1 k2 (by omega))
  clear HM HB k1 k2
  go_wp2_with fail
  refine HM1.out.mono ?_
  rintro e8 w2 ⟨rfl, V2, F2⟩
  go_wp2_with fail
  go_ret
  exact ⟨rfl, V2, (Far.of_below hb1).trans F2⟩
theorem vkind_any (b : Nat) (p : Int) (V : Vm) (w : World) (hV : SysIs w b V) :
    Calls Tryz.prog 17 #[.pointer (some ⟨b, 0, none⟩), .int .i64 p] w fun e w' =>
      e = .returned (.tuple #[.int .i64 (if 0 ≤ p ∧ p < 1024 then (V.pg p.toNat).kind else 0), .bool (if 0 ≤ p ∧ p < 1024 then (V.pg p.toNat).huge else false), .int .i64 (if 0 ≤ p ∧ p < 1024 then 0 else 7)]) ∧ Below w.heap.size w w' := by
  have HI := Lib.hid (is_any b V w hV)
  by_cases c1 : p < 0
  · have d1 : decide (p < 0) = true := by simpa using c1
    have hn : ¬ (0 ≤ p ∧ p < 1024) := by omega
    rw [if_neg hn, if_neg hn, if_neg hn]
    clear hn
    go_enter Tryz.func17, Tryz.ntmps17
    go_wp2_with fail
    refine HI.out.mono ?_
    rintro e9 w9 ⟨rfl, hw9⟩
    replace hw9 := hw9.symm
    subst hw9
    go_wp2_with fail
    (try simp only [Exit.inBlock, Exit.then]); refine bodyPost_ret (results_tmp3 rfl _ _ _) rfl ?_
    exact ⟨rfl, Below.refl _ _⟩
  have d1 : decide (p < 0) = false := by simpa using c1
  by_cases c2 : 1024 ≤ p
  · have d2 : decide (1024 ≤ p) = true := by simpa using c2
    have hn : ¬ (0 ≤ p ∧ p < 1024) := by omega
    rw [if_neg hn, if_neg hn, if_neg hn]
    clear hn
    go_enter Tryz.func17, Tryz.ntmps17
    go_wp2_with fail
    refine HI.out.mono ?_
    rintro e9 w9 ⟨rfl, hw9⟩
    replace hw9 := hw9.symm
    subst hw9
    go_wp2_with fail
    (try simp only [Exit.inBlock, Exit.then]); refine bodyPost_ret (results_tmp3 rfl _ _ _) rfl ?_
    exact ⟨rfl, Below.refl _ _⟩
  have d2 : decide (1024 ≤ p) = false := by simpa using c2
  have hn : 0 ≤ p ∧ p < 1024 := by omega
  rw [if_pos hn, if_pos hn, if_pos hn]
  clear hn
  obtain ⟨q, rfl⟩ : ∃ q : Nat, p = (q : Int) := ⟨p.toNat, by omega⟩
  simp only [Int.toNat_natCast]
  have hq : q < 1024 := by omega
  have hq2 : (q : Int) < 1024 := by omega
  obtain ⟨cs, A, n, cap, hk, hc, _⟩ := hV.ex
  have c0 := (hk.cell (1 + q * 66)).trans (hc.kind hq)
  have c1 := (hk.cell (1 + q * 66 + 1)).trans (hc.hug hq)
  generalize (V.pg q).kind = kd at *
  generalize (V.pg q).huge = hg at *
  have z0 := fun z : Ext w => z.cell c0
  have z1 := fun z : Ext w => z.cell c1
  clear c0 c1 hk hc
  go_enter Tryz.func17, Tryz.ntmps17
  go_wp2_with fail
  refine HI.out.mono ?_
  rintro e9 w9 ⟨rfl, hw9⟩
  replace hw9 := hw9.symm
  subst hw9
  go_upto_region 5 with fail
  refine region_ext (by kernel_rfl) (by kernel_rfl) ?_
  repeat (go_big_quiet_step (fail))
  refine wpQuiet_nil ?_
  rintro w1 ⟨⟨_, hw1⟩, rfl⟩
  go_wp2_with fail
  (try simp only [Exit.inBlock, Exit.then]); refine bodyPost_ret (results_tmp3 rfl _ _ _) rfl ?_
  exact ⟨rfl, hw1⟩
end Go.Proofs.YtefnnfcfigcikaaGreat
namespace Go.Pol
open Go Go.RowKit
/-- strips zero bytes -/
def st0 : Nat → List Value → Option (List Value)
  | 0, l => some l
  | n + 1, .int .u8 z :: r => if z = 0 then st0 n r else none
  | _ + 1, _ => none
/-- strips a new page -/
def st1 : List Value → Option (List Value)
  | .int .i64 k :: .bool false :: r => if k = 0 then st0 64 r else none
  | _ => none
/-- strips 2^d new pages -/
def stP : Nat → List Value → Option (List Value)
  | 0, l => st1 l
  | d + 1, l => match stP d l with
    | some r => stP d r
    | none => none
theorem st0_spec : ∀ (n : Nat) (l r : List Value), st0 n l = some r → l = List.replicate n (.int .u8 0) ++ r
  | 0, l, r, h => by cases h; rfl
  | n + 1, l, r, h => by
    unfold st0 at h
    split at h
    · omega
    · rename_i m z r' e
      obtain rfl : m = n := by omega
      by_cases hz : z = 0
      · rw [if_pos hz] at h
        rw [hz, st0_spec m r' r h, List.replicate_succ]; rfl
      · rw [if_neg hz] at h; cases h
    · cases h
theorem st1_spec {l r : List Value} (h : st1 l = some r) : l = pgC (newPg 0) ++ r := by
  unfold st1 at h
  split at h
  · rename_i k r'
    by_cases hk : k = 0
    · rw [if_pos hk] at h
      rw [hk, st0_spec 64 r' r h]
      rfl
    · rw [if_neg hk] at h; cases h
  · cases h
theorem stP_spec : ∀ (d : Nat) (l r : List Value), stP d l = some r → l = fl pgC (List.replicate (2 ^ d) (newPg 0)) ++ r
  | 0, l, r, h => by
    rw [stP] at h
    rw [st1_spec h]
    simp [fl]
  | d + 1, l, r, h => by
    rw [stP] at h
    split at h
    · rename_i r' h'
      have h1 := stP_spec d l r' h'
      have h2 := stP_spec d r' r h
      rw [h1, h2, ← List.append_assoc, ← fl_append, List.replicate_append_replicate, show 2 ^ d + 2 ^ d = 2 ^ (d + 1) by rw [Nat.pow_succ]; omega]
    · cases h
/-- strips a system -/
def stS : List Value → Option (List Value)
  | .bool false :: r => stP 10 r
  | _ => none
/-- a new system -/
def newVm : Vm := ⟨fun _ => newPg 0, ⟨[], fun _ => 0, fun _ => 0⟩⟩
theorem newSys {zc : Array Value} (h : stS zc.toList = some (rfC (.slice none 0 0) (fun _ => 0) (fun _ => 0))) (v : Value) : SysC (putA (putA zc 0 [.bool true]) 67585 (rfC v (fun _ => 0) (fun _ => 0))) v newVm := by
  unfold stS at h
  split at h
  · rename_i r hr
    have h1 := stP_spec 10 r _ h
    have hl := fl_len pgC_len (List.replicate (2 ^ 10) (newPg 0))
    rw [List.length_replicate] at hl
    have hlen : zc.size = 67600 := by
      rw [← Array.length_toList, hr, h1, List.length_cons, List.length_append, hl]; rfl
    have hpg : ∀ p, p < 1024 → ∀ i, i < 66 → zc[1 + p * 66 + i]? = (pgC (newPg 0))[i]? := fun p hp i hi => by
      rw [← Array.getElem?_toList, hr, h1, show 1 + p * 66 + i = (p * 66 + i) + 1 by omega, List.getElem?_cons_succ, List.getElem?_append_left (by rw [hl]; omega), fl_at pgC_len (newPg 0) _ p (by rw [List.length_replicate]; omega) i hi]
      congr 2
      rw [List.getD_eq_getElem?_getD, List.getElem?_replicate, if_pos (by omega)]; rfl
    generalize hL : rfC v (fun _ => 0) (fun _ => 0) = L at *
    have hLl : L.length = 15 := by rw [← hL]; rfl
    have hs1 : (putA zc 0 [.bool true]).size = 67600 := by rw [putA_size]; exact hlen
    have hg := putA_get L (putA zc 0 [.bool true]) 67585 (by rw [hLl]; omega)
    have hg0 := putA_get [.bool true] zc 0 (by simp; omega)
    refine ⟨by rw [putA_size]; exact hs1, ?_, fun p hp i hi => ?_, fun i hi => ?_⟩
    · rw [hg, if_neg (by omega), hg0, if_pos (by simp)]; rfl
    · rw [hg, if_neg (by omega), hg0, if_neg (by simp only [List.length_cons, List.length_nil]; omega)]
      exact hpg p hp i hi
    · rw [hg, if_pos (by omega), show 67585 + i - 67585 = i by omega, ← hL]; rfl
  · cases h
end Go.Pol
namespace Go.Proofs.YtefnnfcfigcikaaGreat
open Go Go.Proofs Go.RowKit Go.Pol
set_option maxRecDepth 100000 in
theorem zeroSys : stS Tryz.zeroCells114.toList = some (rfC (.slice none 0 0) (fun _ => 0) (fun _ => 0)) := by kernel_rfl
end Go.Proofs.YtefnnfcfigcikaaGreat
namespace Go.Pol
open Go Go.RowKit
/-- a new system is handed back -/
def NewO (w : World) (e : Ending) (w' : World) : Prop := ∃ b, e = .returned (.tuple #[.pointer (some ⟨b, 0, none⟩), .int .i64 0]) ∧ SysIs w' b newVm ∧ w.heap.size ≤ b ∧ Below w.heap.size w w'
end Go.Pol
namespace Go.Proofs.YtefnnfcfigcikaaGreat
open Go Go.Proofs Go.RowKit Go.Pol Go.Shelf
attribute [local go_sem] Oper.semAt_some Go.Pol.wide_fn Go.Pol.wide_depth Go.Pol.wide_fn' Go.Pol.wide_depth'

set_option maxRecDepth 100000 in
set_option maxHeartbeats 1600000 in
theorem new_any (w : World) :
    Calls Tryz.prog 10 #[.agg #[.slice none 0 0]] w (NewO w) := by
  have hb0 := (Below.refl w.heap.size w).alloc (Nat.le_refl _) (.cells #[.slice none 0 0] 35)
  have k0 := Blk.new w 35 #[.slice none 0 0]
  have c0 := k0.cell
  have HS := Lib.hid (fun W => start_any none 0 0 [] W rfl (by omega) (fun _ => rfl) (fun k hk => absurd hk (by simp [fl])))
  go_enter Tryz.func10, Tryz.ntmps10
  go_wp2_with fail
  refine (HS.out _).mono ?_
  rintro e w1 hS
  rcases hS with ⟨h0, _⟩ | ⟨_, v, rfl, hv⟩
  · exact absurd (by decide) h0
  obtain ⟨A, cap, rfl, v1, v2, v3, v4, v5, hb1⟩ := hv
  simp only [List.length_nil]
  have B1 := hb0.trans (hb1.mono hb0.size)
  have hB2 := B1.alloc B1.size (.cells (rfC (.slice A 0 cap) (fun _ => 0) (fun _ => 0)).toArray 79)
  have hzs := Tryz.zeroCells114_size
  have hzz := zeroSys
  obtain ⟨zc, hzc⟩ : ∃ zc, Tryz.zeroCells114 = zc := ⟨_, rfl⟩
  rw [hzc] at hzs hzz
  have hne : ¬ zc = #[] := fun e => by rw [e] at hzs; simp at hzs
  have hC := Lib.hid (newSys hzz (.slice A 0 cap))
  have kz := Blk.new w1 79 (rfC (.slice A 0 cap) (fun _ => 0) (fun _ => 0)).toArray
  clear hzz c0 k0 v1 HS
  unfold rfC at hB2 kz
  unfold rfV rfC
  go_upto_region 4 with fail
  generalize w1.alloc _ = w2 at *
  have cz := kz.cell
  have hB3 := hB2.alloc hB2.size (.cells (putA (putA zc 0 [.bool true]) 67585 (rfC (.slice A 0 cap) (fun _ => 0) (fun _ => 0))) 114)
  have kS := Blk.new w2 114 (putA (putA zc 0 [.bool true]) 67585 (rfC (.slice A 0 cap) (fun _ => 0) (fun _ => 0)))
  have hbs := hB2.size
  go_wp2_with fail
  go_ret2
  refine ⟨w2.heap.size, rfl, ?_, hbs, hB3⟩
  refine ⟨_, A, 0, cap, kS, hC.out, rfl, fun k hk => absurd hk (by simp [fl, newVm]), v5.1, fun g o e h => absurd rfl h, ⟨by decide, fun k _ => ⟨Int.le_refl _, (by show (0 : Int) ≤ 1000000; decide)⟩, fun k _ => rfl⟩, fun g o e h => absurd rfl h⟩
end Go.Proofs.YtefnnfcfigcikaaGreat
namespace Go.Pol
open Go Go.RowKit
/-- a plan begun -/
def newRf (l : List Ru) : Rf := ⟨l, fun _ => 0, fun _ => 0⟩
theorem newRf_ok {l : List Ru} (h : (chkR l).2 = 0) : RfOk (newRf l) := ⟨h, fun k _ => ⟨Int.le_refl _, (by show (0 : Int) ≤ 1000000; decide)⟩, fun k _ => rfl⟩
/-- a system with other refusals -/
def planF (V : Vm) (l : List Ru) : Vm := if (chkR l).2 = 0 then { V with rf := newRf l } else V
/-- are the kinds of all pages kinds? -/
def KindOk (V : Vm) : Prop := ∀ p, p < 1024 → 0 ≤ (V.pg p).kind ∧ (V.pg p).kind ≤ 3
end Go.Pol
namespace Go.Proofs.YtefnnfcfigcikaaGreat
open Go Go.Proofs Go.RowKit Go.Pol Go.Shelf
attribute [local go_sem] Oper.semAt_some Go.Pol.wide_fn Go.Pol.wide_depth Go.Pol.wide_fn' Go.Pol.wide_depth'

set_option maxRecDepth 100000 in
set_option maxHeartbeats 400000 in
theorem plan_any (b : Nat) (A : Option Addr) (n cap : Nat) (l : List Ru) (V : Vm) (w : World) (hV : SysIs w b V) (hn : l.length = n) (hm : n ≤ 1000) (hz : A = none → cap = 0) (hr : Rd w w.heap.size A (fl ruC l)) :
    Calls Tryz.prog 66 #[.pointer (some ⟨b, 0, none⟩), .agg #[.slice A n cap]] w fun e w' => e = .returned (.int .i64 (chkR l).2) ∧ SysTo b (planF V l) w w' := by
  have hb0 := (Below.refl w.heap.size w).alloc (Nat.le_refl _) (.cells #[.slice A n cap] 35)
  have k0 := Blk.new w 35 #[.slice A n cap]
  have c0 := k0.cell
  have V0 := hV.call hb0
  have r0 := hr.on_ hb0
  have HI := Lib.hid (fun W h => is_any b V W h)
  have HS := Lib.hid (fun W h => start_any A n cap l W hn hm hz h)
  have hV' := Lib.hid hV
  have hbs := hV.lt
  unfold SysTo
  obtain ⟨P, hP⟩ : ∃ P, planF V l = P := ⟨_, rfl⟩
  rw [hP]
  unfold planF at hP
  have hnk := Lib.hid (newRf_ok (l := l))
  unfold StartO at HS
  obtain ⟨f0, hf0⟩ : ∃ f0 : Nat → Int, (fun _ : Nat => (0 : Int)) = f0 := ⟨_, rfl⟩
  have e1 : (newRf l).calls = f0 := hf0
  have e2 : (newRf l).hits = f0 := hf0
  have e12 := Lib.hid (And.intro e1 e2)
  rw [hf0] at HS
  clear e1 e2 hf0
  generalize (chkR l).2 = re at *
  have hP' := Lib.hid hP
  clear hP hV hr hz hm k0
  go_enter Tryz.func66, Tryz.ntmps66
  go_upto_region 1 with fail
  generalize w.alloc _ = w0 at *
  go_wp2_with fail
  refine (HI.out _ V0).mono ?_
  rintro e9 w9 ⟨rfl, hw9⟩
  replace hw9 := hw9.symm
  subst hw9
  go_wp2_with fail
  refine (HS.out _ r0).mono ?_
  rintro e w1 hS
  rcases hS with ⟨hne, rfl, hb1⟩ | ⟨h0, v, rfl, hv⟩
  · have hP2 := hP'.out
    rw [if_neg hne] at hP2
    subst hP2
    have he : (re == 0) = false := by simpa using hne
    have hbz := (hb0.trans (hb1.mono hb0.size)).alloc (by have := hb0.size; have := hb1.size; omega) (.cells (rfC (.slice none 0 0) f0 f0).toArray 79)
    unfold rfC at hbz
    have V1 := hV'.out.call hbz
    clear HS HI hP' c0 r0 V0
    unfold rfV rfC
    go_wp2_with fail
    go_ret
    exact ⟨rfl, V1, .of_below hbz⟩
  · have hP2 := hP'.out
    rw [if_pos h0] at hP2
    obtain ⟨A2, c2, rfl, v1, v2, v3, v4, v5, hb1⟩ := hv
    have B1 := hb0.trans (hb1.mono hb0.size)
    have hbz := (Below.refl w1.heap.size w1).alloc (Nat.le_refl _) (.cells (rfC (.slice A2 l.length c2) f0 f0).toArray 79)
    have hb2 := B1.trans (hbz.mono B1.size)
    have hput := hV'.out.putRf (newRf l) A2 l.length c2 hb2 rfl (v1.on_ hbz) v5.1 (fun g o e => by have := v4 g o e; have := hb0.size; omega) (hnk.out h0) (fun g o e h => (v5.2 g o e h).imp fun cr hc => hc.call hbz)
    have hV2 := hV'.out.call hb2
    obtain ⟨cs9, A9, n9, c9, k9, h9, h10⟩ := hV2.ex
    have hcs9 := h9.size
    have kz := Blk.new w1 79 (rfC (.slice A2 l.length c2) f0 f0).toArray
    clear h10 h9 hV2 hb2 v1 HS HI hP' c0 r0 V0
    rw [e12.out.1, e12.out.2] at hput
    change SysIs (World.setCells _ b 67585 (rfC (.slice A2 l.length c2) f0 f0)) b { V with rf := newRf l } ∧ Far (fun k => k = b) w (World.setCells _ b 67585 (rfC (.slice A2 l.length c2) f0 f0)) at hput
    rw [hP2] at hput
    subst h0
    have hput' := Lib.hid hput
    rw [hn] at kz hput' k9 hbz ⊢
    clear hput hP2
    unfold rfC at hbz k9 hput' kz
    unfold rfV rfC
    obtain ⟨s, hs⟩ : ∃ s, w1.heap.size = s := ⟨_, rfl⟩
    rw [hs] at kz
    go_upto_region 5 with fail
    generalize w1.alloc _ = w2 at *
    clear hs hbz
    have cz := kz.cell
    have ht : w2.there b 67585 (rfC (.slice A2 n c2) f0 f0).toArray.size := z_there k9 67585 15 (by omega)
    have hone := Go.all_oneCell_toArray (rfC_one (v := .slice A2 n c2) rfl f0 f0)
    have hput2 : Hid (SysIs (w2.setCells b 67585 (rfC (.slice A2 n c2) f0 f0)) b P ∧ Far (fun k => k = b) w (w2.setCells b 67585 (rfC (.slice A2 n c2) f0 f0))) := hput'
    clear hcs9 k9 kz hput'
    go_wp2_with (refine wpList_store_mid rfl 79 (.tmp 20) (.tmp 18) rfl b 67585 (rfC (.slice A2 n c2) f0 f0).toArray ?hxx ?hyy ht infoRf hone ?_)
    case hxx => rfl
    case hyy => rfl
    generalize w2.setCells b 67585 _ = w4 at *
    go_ret
    exact ⟨rfl, hput2.out.1, hput2.out.2⟩
end Go.Proofs.YtefnnfcfigcikaaGreat
namespace Go.Pol
open Go Go.RowKit
/-- is a number that of the first page of a group? -/
def fstB (p : Int) : Bool := decide (0 ≤ p) && decide (p < 1024) && decide (p % 16 = 0)
def Pg.hugeP (g : Pg) (h : Bool) : Pg := { g with huge := h }
theorem SysC.setHuge {cs : Array Value} {v : Value} {V : Vm} (h : SysC cs v V) {p : Nat} (hp : p < 1024) (x : Bool) : SysC (cs.setIfInBounds (1 + p * 66 + 1) (.bool x)) v (V.setP p ((V.pg p).hugeP x)) := by
  have hs := h.size
  have hg : ∀ i, (cs.setIfInBounds (1 + p * 66 + 1) (.bool x))[i]? = if 1 + p * 66 + 1 = i then some (.bool x) else cs[i]? := fun i => by
    rw [Array.getElem?_setIfInBounds]
    by_cases e : 1 + p * 66 + 1 = i
    · rw [if_pos e, if_pos e, if_pos (by omega)]
    · rw [if_neg e, if_neg e]
  refine ⟨by simp [hs], ?_, fun q hq i hi => ?_, fun i hi => ?_⟩
  · rw [hg, if_neg (by omega)]; exact h.made
  · rw [hg]
    by_cases e : q = p
    · subst e
      have hpg : (V.setP q ((V.pg q).hugeP x)).pg q = (V.pg q).hugeP x := by simp [Vm.setP]
      rw [hpg]
      by_cases e1 : i = 1
      · subst e1; rw [if_pos rfl]; rfl
      · rw [if_neg (by omega), h.page q hq i hi]
        unfold pgC
        match i, e1 with
        | 0, _ => rfl
        | i + 2, _ => rfl
    · rw [if_neg (by omega), h.page q hq i hi]
      simp [Vm.setP, e]
  · rw [hg, if_neg (by omega)]; exact h.rf i hi
theorem SysIs.setHuge {w : World} {b : Nat} {V : Vm} (h : SysIs w b V) {p : Nat} (hp : p < 1024) (x : Bool) : SysIs (w.setCell ⟨b, 1 + p * 66 + 1, none⟩ (.bool x)) b (V.setP p ((V.pg p).hugeP x)) ∧ Far (fun k => k = b) w (w.setCell ⟨b, 1 + p * 66 + 1, none⟩ (.bool x)) := by
  obtain ⟨cs, A, n, cap, h1, h2, h3, h4, h5, h6, h7, h8⟩ := h.ex
  have hF : Far (fun k => k = b) w (w.setCell ⟨b, 1 + p * 66 + 1, none⟩ (.bool x)) := Far.setCell (T := fun k => k = b) (p := ⟨b, 1 + p * 66 + 1, none⟩) (Far.refl _ _) (fun _ => rfl) _
  exact ⟨⟨_, A, n, cap, h1.set_ _ _, h2.setHuge hp x, h3, (h4.keepR hF (fun g' o e h => h6 g' o e h)).more hF.size, h5, h6, h7, fun g o e h => (h8 g o e h).imp fun cr hc => hF.blk hc (h6 g o e h)⟩, hF⟩
/-- what Join makes of a system -/
def joinF (V : Vm) (p : Int) : Int × Vm := if fstB p = false then (7, V) else if (V.pg p.toNat).huge = true then (8, V) else makeF V p 16 5 (fun g => g.kind == 2) (fun g => g.hugeP true)
end Go.Pol
namespace Go.Proofs.YtefnnfcfigcikaaGreat
open Go Go.Proofs Go.RowKit Go.Pol Go.Shelf
attribute [local go_sem] Oper.semAt_some Go.Pol.wide_fn Go.Pol.wide_depth Go.Pol.wide_fn' Go.Pol.wide_depth'

theorem release_any (b : Nat) (a n : Int) (V : Vm) (w : World) (hV : SysIs w b V) :
    Calls Tryz.prog 162 #[.pointer (some ⟨b, 0, none⟩), .int .i64 a, .int .i64 n] w fun e w' => e = .returned (.int .i64 (bec V a n 1 1 0).1) ∧ SysTo b (bec V a n 1 1 0).2 w w' := by
  have HB := Lib.hid (becomes_any 1 1 0 w)
  have HM := Lib.hid (fun W s hW h1 h2 hb => makeBec_any b 1 a n 1 0 s V W hW (by omega) h1 h2 hb)
  have hbs := hV.lt
  have hV' := Lib.hid hV
  obtain ⟨re, hre⟩ : ∃ re, (bec V a n 1 1 0).1 = re := ⟨_, rfl⟩
  obtain ⟨rV, hrV⟩ : ∃ rV, (bec V a n 1 1 0).2 = rV := ⟨_, rfl⟩
  simp only [hre, hrV] at HM ⊢
  unfold SysTo at HM ⊢
  clear hre hrV hV
  go_enter Tryz.func162, Tryz.ntmps162
  go_wp2_with fail
  refine HB.out.mono ?_
  rintro e9 w1 ⟨rfl, k1, k2, hb1⟩
  have V1 := hV'.out.call hb1
  have HM1 := Lib.hid (HM.out w1 _ V1 k1 k2 (by omega))
  clear HM HB k1 k2
  go_wp2_with fail
  refine HM1.out.mono ?_
  rintro e8 w2 ⟨rfl, V2, F2⟩
  go_wp2_with fail
  go_ret
  exact ⟨rfl, V2, (Far.of_below hb1).trans F2⟩
theorem decommit_any (b : Nat) (a n : Int) (V : Vm) (w : World) (hV : SysIs w b V) :
    Calls Tryz.prog 91 #[.pointer (some ⟨b, 0, none⟩), .int .i64 a, .int .i64 n] w fun e w' => e = .returned (.int .i64 (bec V a n 3 2 1).1) ∧ SysTo b (bec V a n 3 2 1).2 w w' := by
  have HB := Lib.hid (becomes_any 3 2 1 w)
  have HM := Lib.hid (fun W s hW h1 h2 hb => makeBec_any b 3 a n 2 1 s V W hW (by omega) h1 h2 hb)
  have hbs := hV.lt
  have hV' := Lib.hid hV
  obtain ⟨re, hre⟩ : ∃ re, (bec V a n 3 2 1).1 = re := ⟨_, rfl⟩
  obtain ⟨rV, hrV⟩ : ∃ rV, (bec V a n 3 2 1).2 = rV := ⟨_, rfl⟩
  simp only [hre, hrV] at HM ⊢
  unfold SysTo at HM ⊢
  clear hre hrV hV
  go_enter Tryz.func91, Tryz.ntmps91
  go_wp2_with fail
  refine HB.out.mono ?_
  rintro e9 w1 ⟨rfl, k1, k2, hb1⟩
  have V1 := hV'.out.call hb1
  have HM1 := Lib.hid (HM.out w1 _ V1 k1 k2 (by omega))
  clear HM HB k1 k2
  go_wp2_with fail
  refine HM1.out.mono ?_
  rintro e8 w2 ⟨rfl, V2, F2⟩
  go_wp2_with fail
  go_ret
  exact ⟨rfl, V2, (Far.of_below hb1).trans F2⟩
theorem vfirst_any (p : Int) (w : World) : Calls Tryz.prog 89 #[.int .i64 p] w fun e w' => e = .returned (.bool (fstB p)) ∧ w' = w := by
  unfold fstB
  by_cases c1 : 0 ≤ p
  · have d1 : decide (0 ≤ p) = true := by simpa using c1
    by_cases c2 : p < 1024
    · have d2 : decide (p < 1024) = true := by simpa using c2
      have hr : Int.tmod p 16 = p % 16 := Int.tmod_eq_emod_of_nonneg c1
      by_cases c3 : p % 16 = 0
      · have d3 : decide (p % 16 = 0) = true := by simpa using c3
        have d4 : (p % 16 == 0) = true := by simpa using c3
        rw [d1, d2, d3]
        clear d3 c3
        go_enter Tryz.func89, Tryz.ntmps89
        go_wp2_with fail
        go_ret
        exact ⟨rfl, rfl⟩
      · have d3 : decide (p % 16 = 0) = false := by simpa using c3
        have d4 : (p % 16 == 0) = false := by simpa using c3
        rw [d1, d2, d3]
        clear d3 c3
        go_enter Tryz.func89, Tryz.ntmps89
        go_wp2_with fail
        go_ret
        exact ⟨rfl, rfl⟩
    · have d2 : decide (p < 1024) = false := by simpa using c2
      rw [d1, d2]
      go_enter Tryz.func89, Tryz.ntmps89
      go_wp2_with fail
      go_ret
      exact ⟨rfl, rfl⟩
  · have d1 : decide (0 ≤ p) = false := by simpa using c1
    rw [d1]
    go_enter Tryz.func89, Tryz.ntmps89
    go_wp2_with fail
    go_ret
    exact ⟨rfl, rfl⟩
theorem join1_enters : ∀ args w, (callFunc 120 args).run Tryz.prog w = .ok (.enter 120 args) w := enters_of Tryz.func120 (by kernel_rfl) rfl
theorem join2_enters : ∀ args w, (callFunc 121 args).run Tryz.prog w = .ok (.enter 121 args) w := enters_of Tryz.func121 (by kernel_rfl) rfl
theorem join1_any (b p : Nat) (V : Vm) (W : World) (hV : SysIs W b V) (hp : p < 1024) : Calls Tryz.prog 120 #[.pointer (some ⟨b, 1 + p * 66, none⟩)] W fun e W' => e = .returned (.bool ((V.pg p).kind == 2)) ∧ Below W.heap.size W W' := by
  obtain ⟨cs, A, n, cap, hk, hc, _⟩ := hV.ex
  have c0 := (hk.cell (1 + p * 66)).trans (hc.kind hp)
  generalize (V.pg p).kind = kd at *
  clear hk hc hV
  go_enter Tryz.func120, Tryz.ntmps120
  go_wp2_with fail
  go_ret
  exact ⟨rfl, Below.refl _ _⟩
theorem join2_any (b p : Nat) (V : Vm) (W : World) (hV : SysIs W b V) (hp : p < 1024) : Calls Tryz.prog 121 #[.pointer (some ⟨b, 1 + p * 66, none⟩)] W fun e W' => e = .returned (.tuple #[]) ∧ SysIs W' b (V.setP p ((V.pg p).hugeP true)) ∧ Far (fun k => k = b) W W' := by
  have hset := Lib.hid (hV.setHuge hp true)
  obtain ⟨cs, A, n, cap, hk, hc, _⟩ := hV.ex
  have c0 := (hk.cell (1 + p * 66 + 1)).trans (hc.hug hp)
  have f0 := hk.frozen
  clear hk hc hV
  go_enter Tryz.func121, Tryz.ntmps121
  go_wp2_with fail
  go_end0
  exact ⟨rfl, hset.out.1, hset.out.2⟩
set_option maxHeartbeats 1600000 in
theorem vjoin_any (b : Nat) (p : Int) (V : Vm) (w : World) (hV : SysIs w b V) :
    Calls Tryz.prog 65 #[.pointer (some ⟨b, 0, none⟩), .int .i64 p] w fun e w' => e = .returned (.int .i64 (Go.Pol.joinF V p).1) ∧ SysTo b (Go.Pol.joinF V p).2 w w' := by
  have HI := Lib.hid (is_any b V w hV)
  have HF := Lib.hid (vfirst_any p w)
  have HM := Lib.hid (make_any b 5 p 16 (fun g => g.kind == 2) (fun g => g.hugeP true) _ _ #[] #[] V w hV (by omega) join1_enters join2_enters (fun q hq V' W hW _ => join1_any b q V' W hW hq) (fun q hq V' W hW _ => join2_any b q V' W hW hq))
  have hV' := Lib.hid hV
  obtain ⟨R, hR⟩ : ∃ R, Go.Pol.joinF V p = R := ⟨_, rfl⟩
  rw [hR]
  unfold Go.Pol.joinF at hR
  obtain ⟨re, rV⟩ := R
  simp only
  cases hf : fstB p with
  | false =>
    rw [hf] at HF
    rw [if_pos hf] at hR
    simp only [Prod.mk.injEq] at hR
    obtain ⟨rfl, rfl⟩ := hR
    clear hf HM
    go_enter Tryz.func65, Tryz.ntmps65
    go_wp2_with fail
    refine HI.out.mono ?_
    rintro e9 w9 ⟨rfl, hw9⟩
    replace hw9 := hw9.symm
    subst hw9
    go_wp2_with fail
    refine HF.out.mono ?_
    rintro e8 w8 ⟨rfl, hw8⟩
    replace hw8 := hw8.symm
    subst hw8
    go_wp2_with fail
    go_ret
    exact ⟨rfl, hV'.out, Far.refl _ _⟩
  | true =>
    rw [hf] at HF
    rw [if_neg (by simp [hf])] at hR
    have hp0 : 0 ≤ p ∧ p < 1024 := by
      unfold fstB at hf
      simp at hf
      omega
    obtain ⟨q, rfl⟩ : ∃ q : Nat, p = (q : Int) := ⟨p.toNat, by omega⟩
    simp only [Int.toNat_natCast] at hR
    have hq : q < 1024 := by omega
    have hq2 : (q : Int) < 1024 := by omega
    obtain ⟨cs, A, n, cap, hk, hc, _⟩ := hV.ex
    have c1 := (hk.cell (1 + q * 66 + 1)).trans (hc.hug hq)
    clear hk hc hf
    cases hh : (V.pg q).huge with
    | true =>
      rw [hh] at c1
      rw [if_pos hh] at hR
      simp only [Prod.mk.injEq] at hR
      obtain ⟨rfl, rfl⟩ := hR
      clear hh HM
      go_enter Tryz.func65, Tryz.ntmps65
      go_wp2_with fail
      refine HI.out.mono ?_
      rintro e9 w9 ⟨rfl, hw9⟩
      replace hw9 := hw9.symm
      subst hw9
      go_wp2_with fail
      refine HF.out.mono ?_
      rintro e8 w8 ⟨rfl, hw8⟩
      replace hw8 := hw8.symm
      subst hw8
      go_wp2_with fail
      go_ret
      exact ⟨rfl, hV'.out, Far.refl _ _⟩
    | false =>
      rw [hh] at c1
      rw [if_neg (by simp [hh])] at hR
      have hR' := Lib.hid hR
      generalize makeF V (q : Int) 16 5 (fun g => g.kind == 2) (fun g => g.hugeP true) = M at *
      obtain rfl := hR
      clear hh
      unfold SysTo at HM
      go_enter Tryz.func65, Tryz.ntmps65
      go_wp2_with fail
      refine HI.out.mono ?_
      rintro e9 w9 ⟨rfl, hw9⟩
      replace hw9 := hw9.symm
      subst hw9
      go_wp2_with fail
      refine HF.out.mono ?_
      rintro e8 w8 ⟨rfl, hw8⟩
      replace hw8 := hw8.symm
      subst hw8
      go_wp2_with fail
      refine HM.out.mono ?_
      rintro e w1 ⟨rfl, V1, F1⟩
      go_wp2_with fail
      go_ret
      exact ⟨rfl, V1, F1⟩
end Go.Proofs.YtefnnfcfigcikaaGreat
namespace Go.Pol
open Go Go.RowKit
/-- what Split makes of a system -/
def splitF (V : Vm) (p : Int) : Int × Vm := if fstB p = false then (7, V) else makeF V p 16 6 (fun g => g.huge) (fun g => g.hugeP false)
/-- so many numbers, whichever -/
structure IntsC (cs : Array Value) (n : Nat) : Prop where
  size : cs.size = n
  at_ : ∀ j, j < n → ∃ z : Int, cs[j]? = some (.int .i64 z)
theorem IntsC.set {cs : Array Value} {n : Nat} (h : IntsC cs n) (i : Nat) (z : Int) : IntsC (cs.setIfInBounds i (.int .i64 z)) n := by
  refine ⟨by simp [h.size], fun j hj => ?_⟩
  rw [Array.getElem?_setIfInBounds]
  by_cases e : i = j
  · rw [if_pos e, if_pos (by rw [h.size]; omega)]
    exact ⟨z, rfl⟩
  · rw [if_neg e]
    exact h.at_ j hj
theorem IntsC.one {cs : Array Value} {n : Nat} (h : IntsC cs n) : ∀ x ∈ cs.toList, x.oneCell' = true := by
  intro x hx
  obtain ⟨i, hi, rfl⟩ := List.mem_iff_getElem.1 hx
  obtain ⟨z, hz⟩ := h.at_ i (by rw [← h.size]; simpa using hi)
  rw [Array.getElem?_eq_getElem (by simpa using hi)] at hz
  simp only [Option.some.injEq] at hz
  rw [Array.getElem_toList, hz]
  rfl
end Go.Pol
namespace Go.Proofs.YtefnnfcfigcikaaGreat
open Go Go.Proofs Go.RowKit Go.Pol Go.Shelf
attribute [local go_sem] Oper.semAt_some Go.Pol.wide_fn Go.Pol.wide_depth Go.Pol.wide_fn' Go.Pol.wide_depth'

theorem split1_enters : ∀ args w, (callFunc 142 args).run Tryz.prog w = .ok (.enter 142 args) w := enters_of Tryz.func142 (by kernel_rfl) rfl
theorem split2_enters : ∀ args w, (callFunc 143 args).run Tryz.prog w = .ok (.enter 143 args) w := enters_of Tryz.func143 (by kernel_rfl) rfl
theorem split1_any (b p : Nat) (V : Vm) (W : World) (hV : SysIs W b V) (hp : p < 1024) : Calls Tryz.prog 142 #[.pointer (some ⟨b, 1 + p * 66, none⟩)] W fun e W' => e = .returned (.bool (V.pg p).huge) ∧ Below W.heap.size W W' := by
  obtain ⟨cs, A, n, cap, hk, hc, _⟩ := hV.ex
  have c0 := (hk.cell (1 + p * 66 + 1)).trans (hc.hug hp)
  generalize (V.pg p).huge = kd at *
  clear hk hc hV
  go_enter Tryz.func142, Tryz.ntmps142
  go_wp2_with fail
  go_ret
  exact ⟨rfl, Below.refl _ _⟩
theorem split2_any (b p : Nat) (V : Vm) (W : World) (hV : SysIs W b V) (hp : p < 1024) : Calls Tryz.prog 143 #[.pointer (some ⟨b, 1 + p * 66, none⟩)] W fun e W' => e = .returned (.tuple #[]) ∧ SysIs W' b (V.setP p ((V.pg p).hugeP false)) ∧ Far (fun k => k = b) W W' := by
  have hset := Lib.hid (hV.setHuge hp false)
  obtain ⟨cs, A, n, cap, hk, hc, _⟩ := hV.ex
  have c0 := (hk.cell (1 + p * 66 + 1)).trans (hc.hug hp)
  have f0 := hk.frozen
  clear hk hc hV
  go_enter Tryz.func143, Tryz.ntmps143
  go_wp2_with fail
  go_end0
  exact ⟨rfl, hset.out.1, hset.out.2⟩
set_option maxHeartbeats 1600000 in
theorem vsplit_any (b : Nat) (p : Int) (V : Vm) (w : World) (hV : SysIs w b V) :
    Calls Tryz.prog 90 #[.pointer (some ⟨b, 0, none⟩), .int .i64 p] w fun e w' => e = .returned (.int .i64 (splitF V p).1) ∧ SysTo b (splitF V p).2 w w' := by
  have HI := Lib.hid (is_any b V w hV)
  have HF := Lib.hid (vfirst_any p w)
  have HM := Lib.hid (make_any b 6 p 16 (fun g => g.huge) (fun g => g.hugeP false) _ _ #[] #[] V w hV (by omega) split1_enters split2_enters (fun q hq V' W hW _ => split1_any b q V' W hW hq) (fun q hq V' W hW _ => split2_any b q V' W hW hq))
  have hV' := Lib.hid hV
  obtain ⟨R, hR⟩ : ∃ R, splitF V p = R := ⟨_, rfl⟩
  rw [hR]
  unfold splitF at hR
  obtain ⟨re, rV⟩ := R
  simp only
  cases hf : fstB p with
  | false =>
    rw [hf] at HF
    rw [if_pos hf] at hR
    simp only [Prod.mk.injEq] at hR
    obtain ⟨rfl, rfl⟩ := hR
    clear hf HM
    go_enter Tryz.func90, Tryz.ntmps90
    go_wp2_with fail
    refine HI.out.mono ?_
    rintro e9 w9 ⟨rfl, hw9⟩
    replace hw9 := hw9.symm
    subst hw9
    go_wp2_with fail
    refine HF.out.mono ?_
    rintro e9 w9 ⟨rfl, hw9⟩
    replace hw9 := hw9.symm
    subst hw9
    go_wp2_with fail
    go_ret
    exact ⟨rfl, hV'.out, Far.refl _ _⟩
  | true =>
    rw [hf] at HF
    rw [if_neg (by simp [hf])] at hR
    have hR' := Lib.hid hR
    generalize makeF V p 16 6 (fun g => g.huge) (fun g => g.hugeP false) = M at *
    obtain rfl := hR
    unfold SysTo at HM
    go_enter Tryz.func90, Tryz.ntmps90
    go_wp2_with fail
    refine HI.out.mono ?_
    rintro e9 w9 ⟨rfl, hw9⟩
    replace hw9 := hw9.symm
    subst hw9
    go_wp2_with fail
    refine HF.out.mono ?_
    rintro e9 w9 ⟨rfl, hw9⟩
    replace hw9 := hw9.symm
    subst hw9
    go_wp2_with fail
    refine HM.out.mono ?_
    rintro e w1 ⟨rfl, V1, F1⟩
    go_wp2_with fail
    go_ret
    exact ⟨rfl, V1, F1⟩
/-- four pointers to numbers -/
theorem infoVc : (Tryz.prog.info? 123).map (·.size) = some 5 := by kernel_rfl
theorem infoP4 : (Tryz.prog.info? 196).map (·.size) = some 4 := by kernel_rfl
set_option maxRecDepth 100000 in
set_option maxHeartbeats 1600000 in
theorem counts_any (b : Nat) (V : Vm) (w : World) (hV : SysIs w b V) (hk : KindOk V) :
    Calls Tryz.prog 55 #[.pointer (some ⟨b, 0, none⟩)] w fun e w' => (∃ cs, IntsC cs 5 ∧ e = .returned (.tuple #[.agg cs, .int .i64 0])) ∧ Below w.heap.size w w' := by
  have hb0 := (Below.refl w.heap.size w).alloc (Nat.le_refl _) (.cells #[.int .i64 0, .int .i64 0, .int .i64 0, .int .i64 0, .int .i64 0] 123)
  have k0 := Blk.new w 123 #[.int .i64 0, .int .i64 0, .int .i64 0, .int .i64 0, .int .i64 0]
  have HI := Lib.hid (fun W h => is_any b V W h)
  have HF := Lib.hid (fun (p : Int) W => vfirst_any p W)
  have V0 := hV.call hb0
  have hbs := hV.lt
  have hk' := Lib.hid hk
  have hV' := Lib.hid hV
  obtain ⟨s, hs⟩ : ∃ s, w.heap.size = s := ⟨_, rfl⟩
  have hsz0 : (w.alloc (.cells #[.int .i64 0, .int .i64 0, .int .i64 0, .int .i64 0, .int .i64 0] 123)).heap.size = s + 1 := by rw [World.size_alloc, hs]
  rw [hs] at k0 hbs
  clear hk hV
  go_enter Tryz.func55, Tryz.ntmps55
  go_upto_region 1 with fail
  generalize w.alloc _ = w0 at *
  go_wp2_with fail
  refine (HI.out _ V0).mono ?_
  rintro e9 w9 ⟨rfl, hw9⟩
  replace hw9 := hw9.symm
  subst hw9
  go_upto_region 4 with fail
  have hb1 := hb0.alloc (by omega) (.cells #[.int .i64 0, .int .i64 0, .int .i64 0, .int .i64 0, .int .i64 0] 123)
  have k01 := k0.alloc (.cells #[.int .i64 0, .int .i64 0, .int .i64 0, .int .i64 0, .int .i64 0] 123)
  have k4 := Blk.new w0 123 #[.int .i64 0, .int .i64 0, .int .i64 0, .int .i64 0, .int .i64 0]
  have hsz1 : (w0.alloc (.cells #[.int .i64 0, .int .i64 0, .int .i64 0, .int .i64 0, .int .i64 0] 123)).heap.size = s + 2 := by rw [World.size_alloc, hsz0]
  rw [hsz0] at k4
  clear V0 hb0 k0
  generalize w0.alloc _ = w1 at *
  have k5 := Blk.new w1 196 #[Value.pointer (some ⟨s + 1, 0, none⟩), Value.pointer (some ⟨s + 1, 1, none⟩), Value.pointer (some ⟨s + 1, 2, none⟩), Value.pointer (some ⟨s + 1, 3, none⟩)]
  rw [hsz1] at k5
  have k24 := k4.alloc (.cells #[Value.pointer (some ⟨s + 1, 0, none⟩), Value.pointer (some ⟨s + 1, 1, none⟩), Value.pointer (some ⟨s + 1, 2, none⟩), Value.pointer (some ⟨s + 1, 3, none⟩)] 196)
  have k20 := k01.alloc (.cells #[Value.pointer (some ⟨s + 1, 0, none⟩), Value.pointer (some ⟨s + 1, 1, none⟩), Value.pointer (some ⟨s + 1, 2, none⟩), Value.pointer (some ⟨s + 1, 3, none⟩)] 196)
  have B2 := hb1.alloc (by omega) (.cells #[Value.pointer (some ⟨s + 1, 0, none⟩), Value.pointer (some ⟨s + 1, 1, none⟩), Value.pointer (some ⟨s + 1, 2, none⟩), Value.pointer (some ⟨s + 1, 3, none⟩)] 196)
  go_wp2_with fail
  generalize w1.alloc _ = w2 at *
  have hint : IntsC #[.int .i64 0, .int .i64 0, .int .i64 0, .int .i64 0, .int .i64 0] 5 := ⟨rfl, fun j hj => by
    rcases (show j = 0 ∨ j = 1 ∨ j = 2 ∨ j = 3 ∨ j = 4 by omega) with rfl | rfl | rfl | rfl | rfl <;> exact ⟨0, rfl⟩⟩
  clear k4 k01 hb1 hsz0 hsz1
  go_loopw [16] (fun u wr => ∃ i : Nat, i ≤ 1024 ∧ u = .int .i64 i ∧ Below w.heap.size w wr ∧ Blk wr s 123 #[.int .i64 0, .int .i64 0, .int .i64 0, .int .i64 0, .int .i64 0] ∧ Blk wr (s + 2) 196 ([Value.pointer (some ⟨s + 1, 0, none⟩), Value.pointer (some ⟨s + 1, 1, none⟩), Value.pointer (some ⟨s + 1, 2, none⟩), Value.pointer (some ⟨s + 1, 3, none⟩)]).toArray ∧ ∃ cs, IntsC cs 5 ∧ Blk wr (s + 1) 123 cs) (fun u _ => 1024 - (intOf u).toNat)
  case atStart => exact ⟨0, by omega, rfl, B2, k20, k5, _, hint, k24⟩
  case round =>
    clear k24 k20 B2 k5 hint
    obtain ⟨i, hi, rfl, hB, h0, h5, cs, hcs, h4⟩ := hrel
    by_cases hlt : i < 1024
    · have hil : (i : Int) < 1024 := by omega
      have hlt' : decide ((i : Int) < 1024) = true := by simpa using hil
      obtain ⟨cv, A, n, cap, hkv, hcv, _⟩ := (hV'.out.call hB).ex
      obtain ⟨hk0, hk3⟩ := hk'.out i hlt
      have e0 := (hkv.cell (1 + i * 66)).trans (hcv.kind hlt)
      generalize (V.pg i).kind = kd at *
      obtain ⟨d, rfl⟩ : ∃ d : Nat, kd = (d : Int) := ⟨kd.toNat, by omega⟩
      have hd4 : (d : Int) < 4 := by omega
      have e1 : wr.cell? ⟨s + 2, d, none⟩ = some (.pointer (some ⟨s + 1, d, none⟩)) := by
        rw [h5.cell]
        rcases (show d = 0 ∨ d = 1 ∨ d = 2 ∨ d = 3 by omega) with rfl | rfl | rfl | rfl <;> rfl
      obtain ⟨z, hz⟩ := hcs.at_ d (by omega)
      have e2 := (h4.cell d).trans hz
      have f2 := h4.frozen d
      have k4' := h4.set_ d (.int .i64 (wrap64 (z + 1)))
      have hcs' := hcs.set d (wrap64 (z + 1))
      have F4 := Far.setCell (T := fun k => k = s + 1) (p := ⟨s + 1, d, none⟩) (Far.refl _ wr) (fun _ => rfl) (.int .i64 (wrap64 (z + 1)))
      go_upto_region 9 with fail
      generalize wr.setCell ⟨s + 1, d, none⟩ _ = w3 at *
      clear e0 e1 e2 f2 hkv hcv hcs h4 hz
      have B3 := hB.trans (F4.below (by have := hB.size; omega) (fun k hk e => by omega))
      have h03 := F4.blk h0 (by show ¬ s = s + 1; omega)
      have h53 := F4.blk h5 (by show ¬ s + 2 = s + 1; omega)
      clear h0 h5 F4 hB
      generalize cs.setIfInBounds d _ = cs at *
      obtain ⟨cv, A, n, cap, hkv, hcv, _⟩ := (hV'.out.call B3).ex
      have e0 := (hkv.cell (1 + i * 66 + 1)).trans (hcv.hug hlt)
      obtain ⟨z4, hz4⟩ := hcs'.at_ 4 (by omega)
      have e2 := (k4'.cell 4).trans hz4
      have f2 := k4'.frozen 4
      have k4'' := k4'.set_ 4 (.int .i64 (wrap64 (z4 + 1)))
      have hcs'' := hcs'.set 4 (wrap64 (z4 + 1))
      have F4 := Far.setCell (T := fun k => k = s + 1) (p := ⟨s + 1, 4, none⟩) (Far.refl _ w3) (fun _ => rfl) (.int .i64 (wrap64 (z4 + 1)))
      clear hkv hcv
      cases hh : (V.pg i).huge with
      | false =>
        rw [hh] at e0
        clear hh
        go_wp2_with fail
        go_roundw
        case rel => exact ⟨i + 1, by omega, by go_num, B3, h03, h53, _, hcs', k4'⟩
        case measure => simp [intOf]; omega
      | true =>
        rw [hh] at e0
        clear hh
        have HF' := Lib.hid (HF.out (i : Int) w3)
        cases hf : fstB (i : Int) with
        | false =>
          rw [hf] at HF'
          clear hf
          go_wp2_with fail
          refine HF'.out.mono ?_
          rintro e9 w9 ⟨rfl, hw9⟩
          replace hw9 := hw9.symm
          subst hw9
          go_wp2_with fail
          go_roundw
          case rel => exact ⟨i + 1, by omega, by go_num, B3, h03, h53, _, hcs', k4'⟩
          case measure => simp [intOf]; omega
        | true =>
          rw [hf] at HF'
          clear hf
          go_wp2_with fail
          refine HF'.out.mono ?_
          rintro e9 w9 ⟨rfl, hw9⟩
          replace hw9 := hw9.symm
          subst hw9
          have B4 := B3.trans (F4.below (by have := B3.size; omega) (fun k hk e => by omega))
          have h04 := F4.blk h03 (by show ¬ s = s + 1; omega)
          have h54 := F4.blk h53 (by show ¬ s + 2 = s + 1; omega)
          go_wp2_with fail
          go_roundw
          case rel => exact ⟨i + 1, by omega, by go_num, B4, h04, h54, _, hcs'', k4''⟩
          case measure => simp [intOf]; omega
    · obtain rfl : i = 1024 := by omega
      have hlt' : decide (((1024 : Nat) : Int) < 1024) = false := by simp
      have hra : wr.rangeAt (s + 1) 0 cs.toList := fun j v hj => by
        rw [Nat.zero_add, h4.cell]
        simpa using hj
      have hsz := hcs.size
      have ht : wr.there s 0 cs.size := by rw [hsz]; exact z_there h0 0 5 (by simp)
      have hk9 := Blk.puts (g := s) (t := 123) (w := wr) (cs := #[]) cs.toList 0 wr _ h0
      rw [putA_all (by rw [Array.length_toList, hsz]; rfl), Array.toArray_toList] at hk9
      have hF9 := Far.puts (T := fun k => k = s) rfl cs.toList 0 wr wr (Far.refl _ _)
      have hone := Go.all_oneCell_toArray (hcs.one)
      rw [Array.toArray_toList] at hone
      have hinf : (Tryz.prog.info? 123).map (·.size) = some cs.size := by rw [hsz]; exact infoVc
      go_wp2_with (first
        | (refine wpList_load_mid rfl 123 (.tmp 4) rfl (s + 1) 0 rfl cs.toList _ hra Tryz.underlying123 rfl (by rw [Array.length_toList, hsz]; kernel_rfl) ?_; rw [Array.toArray_toList])
        | (refine wpList_store_mid rfl 123 (.tmp 2) (.tmp 48) rfl s 0 cs rfl rfl ht hinf hone ?_))
      generalize World.setCells wr s 0 _ = w9 at *
      have hra9 : w9.rangeAt s 0 cs.toList := fun j v hj => by
        rw [Nat.zero_add, hk9.cell]
        simpa using hj
      have hl9 := run_loadVar_mid (P := Tryz.prog) w9 s 0 123 cs.toList _ hra9 Tryz.underlying123 rfl (by rw [Array.length_toList, hsz]; kernel_rfl)
      rw [Array.toArray_toList] at hl9
      refine bodyPost_ret (v := .tuple #[.agg cs, .int .i64 0]) ?_ rfl ?_
      · exact z_results_cell_tmp Tryz.results55 rfl hl9
      exact ⟨⟨_, hcs, rfl⟩, hB.trans (hF9.below (by have := hB.size; omega) (fun k hk e => by omega))⟩
end Go.Proofs.YtefnnfcfigcikaaGreat
namespace Go.Pol
open Go Go.RowKit
/-- may a byte be read or written? -/
def whF (V : Vm) (a : Int) : Int := if a < 0 ∨ 65536 ≤ a then 7 else if (V.pg (a / 64).toNat).kind ≠ 2 then 61 else 0
def Pg.byteP (g : Pg) (k : Nat) (v : Int) : Pg := { g with byt := fun j => if j = k then v else g.byt j }
/-- what Write makes of a system -/
def writeF (V : Vm) (a : Int) (v : Int) : Vm := if whF V a = 0 then V.setP (a / 64).toNat ((V.pg (a / 64).toNat).byteP (a % 64).toNat v) else V
theorem SysC.setByte {cs : Array Value} {v : Value} {V : Vm} (h : SysC cs v V) {p k : Nat} (hp : p < 1024) (hk : k < 64) (x : Int) : SysC (cs.setIfInBounds (1 + p * 66 + 2 + k) (.int .u8 x)) v (V.setP p ((V.pg p).byteP k x)) := by
  have hs := h.size
  have hg : ∀ i, (cs.setIfInBounds (1 + p * 66 + 2 + k) (.int .u8 x))[i]? = if 1 + p * 66 + 2 + k = i then some (.int .u8 x) else cs[i]? := fun i => by
    rw [Array.getElem?_setIfInBounds]
    by_cases e : 1 + p * 66 + 2 + k = i
    · rw [if_pos e, if_pos e, if_pos (by omega)]
    · rw [if_neg e, if_neg e]
  refine ⟨by simp [hs], ?_, fun q hq i hi => ?_, fun i hi => ?_⟩
  · rw [hg, if_neg (by omega)]; exact h.made
  · rw [hg]
    by_cases e : q = p
    · subst e
      have hpg : (V.setP q ((V.pg q).byteP k x)).pg q = (V.pg q).byteP k x := by simp [Vm.setP]
      rw [hpg]
      match i with
      | 0 => rw [if_neg (by omega), h.page q hq 0 hi]; rfl
      | 1 => rw [if_neg (by omega), h.page q hq 1 hi]; rfl
      | j + 2 =>
        have hj : j < 64 := by omega
        have e2 : ∀ g : Pg, (pgC g)[j + 2]? = some (.int .u8 (g.byt j)) := fun g => by
          unfold pgC
          simp [hj]
        rw [e2]
        by_cases e1 : j = k
        · subst e1
          rw [if_pos (by omega)]
          simp [Pg.byteP]
        · rw [if_neg (by omega), h.page q hq (j + 2) hi, e2]
          simp [Pg.byteP, e1]
    · rw [if_neg (by omega), h.page q hq i hi]
      simp [Vm.setP, e]
  · rw [hg, if_neg (by omega)]; exact h.rf i hi
theorem SysIs.setByte {w : World} {b : Nat} {V : Vm} (h : SysIs w b V) {p k : Nat} (hp : p < 1024) (hk : k < 64) (x : Int) : SysIs (w.setCell ⟨b, 1 + p * 66 + 2 + k, none⟩ (.int .u8 x)) b (V.setP p ((V.pg p).byteP k x)) ∧ Far (fun k => k = b) w (w.setCell ⟨b, 1 + p * 66 + 2 + k, none⟩ (.int .u8 x)) := by
  obtain ⟨cs, A, n, cap, h1, h2, h3, h4, h5, h6, h7, h8⟩ := h.ex
  have hF : Far (fun k => k = b) w (w.setCell ⟨b, 1 + p * 66 + 2 + k, none⟩ (.int .u8 x)) := Far.setCell (T := fun k => k = b) (p := ⟨b, 1 + p * 66 + 2 + k, none⟩) (Far.refl _ _) (fun _ => rfl) _
  exact ⟨⟨_, A, n, cap, h1.set_ _ _, h2.setByte hp hk x, h3, (h4.keepR hF (fun g' o e h => h6 g' o e h)).more hF.size, h5, h6, h7, fun g o e h => (h8 g o e h).imp fun cr hc => hF.blk hc (h6 g o e h)⟩, hF⟩
/-! the kinds of pages stay kinds -/
theorem KindOk.setP {V : Vm} (h : KindOk V) (p : Nat) {g : Pg} (hg : 0 ≤ g.kind ∧ g.kind ≤ 3) : KindOk (V.setP p g) := fun q hq => by
  show 0 ≤ (if q = p then g else V.pg q).kind ∧ (if q = p then g else V.pg q).kind ≤ 3
  split
  · exact hg
  · exact h q hq
theorem KindOk.eachP {V : Vm} (h : KindOk V) (a n : Nat) {f : Pg → Pg} (hf : ∀ g : Pg, (0 ≤ g.kind ∧ g.kind ≤ 3) → 0 ≤ (f g).kind ∧ (f g).kind ≤ 3) : KindOk (V.eachP a n f) := fun q hq => by
  show 0 ≤ (if a ≤ q ∧ q < a + n then f (V.pg q) else V.pg q).kind ∧ (if a ≤ q ∧ q < a + n then f (V.pg q) else V.pg q).kind ≤ 3
  split
  · exact hf _ (h q hq)
  · exact h q hq
theorem Vm.ref_pg (V : Vm) (call : Nat) : (V.ref call).pg = V.pg := by
  unfold Vm.ref
  repeat (first | rfl | split)
theorem KindOk.ref {V : Vm} (h : KindOk V) (call : Nat) : KindOk (V.ref call) := fun q hq => by rw [Vm.ref_pg]; exact h q hq
theorem KindOk.makeF {V : Vm} (h : KindOk V) (a n : Int) (call : Nat) (pr : Pg → Bool) {f : Pg → Pg} (hf : ∀ g : Pg, (0 ≤ g.kind ∧ g.kind ≤ 3) → 0 ≤ (f g).kind ∧ (f g).kind ≤ 3) : KindOk (makeF V a n call pr f).2 := by
  unfold Go.Pol.makeF
  split
  · exact h
  · split
    · exact h
    · split
      · exact h.ref call
      · exact (h.ref call).eachP _ _ hf
theorem KindOk.bec {V : Vm} (h : KindOk V) (a n : Int) (call : Nat) (fr : Int) {tk : Int} (hk : 0 ≤ tk ∧ tk ≤ 3) : KindOk (bec V a n call fr tk).2 := h.makeF _ _ _ _ (fun _ _ => hk)
theorem KindOk.join {V : Vm} (h : KindOk V) (p : Int) : KindOk (joinF V p).2 := by
  unfold joinF
  split
  · exact h
  · split
    · exact h
    · exact h.makeF _ _ _ _ (fun _ hg => hg)
theorem KindOk.split {V : Vm} (h : KindOk V) (p : Int) : KindOk (splitF V p).2 := by
  unfold splitF
  split
  · exact h
  · exact h.makeF _ _ _ _ (fun _ hg => hg)
theorem KindOk.write {V : Vm} (h : KindOk V) (a v : Int) : KindOk (writeF V a v) := by
  unfold writeF
  split
  · rename_i hw
    refine h.setP _ ?_
    show 0 ≤ (V.pg (a / 64).toNat).kind ∧ (V.pg (a / 64).toNat).kind ≤ 3
    have ha : ¬ (a < 0 ∨ 65536 ≤ a) := fun hc => by unfold whF at hw; rw [if_pos hc] at hw; omega
    exact h _ (by omega)
  · exact h
theorem KindOk.plan {V : Vm} (h : KindOk V) (l : List Ru) : KindOk (planF V l) := by
  unfold planF
  split
  · exact h
  · exact h
end Go.Pol
namespace Go.Proofs.YtefnnfcfigcikaaGreat
open Go Go.Proofs Go.RowKit Go.Pol Go.Shelf
attribute [local go_sem] Oper.semAt_some Go.Pol.wide_fn Go.Pol.wide_depth Go.Pol.wide_fn' Go.Pol.wide_depth'

/-- the place of a byte, or none -/
def whP (b : Nat) (V : Vm) (a : Int) : Option Addr := if whF V a = 0 then some ⟨b, 1 + (a / 64).toNat * 66 + 2 + (a % 64).toNat, none⟩ else none
theorem where_any (b : Nat) (a : Int) (V : Vm) (w : World) (hV : SysIs w b V) :
    Calls Tryz.prog 119 #[.pointer (some ⟨b, 0, none⟩), .int .i64 a] w fun e w' => e = .returned (.tuple #[.pointer (whP b V a), .int .i64 (whF V a)]) ∧ w' = w := by
  have HI := Lib.hid (is_any b V w hV)
  unfold whP
  obtain ⟨R, hR⟩ : ∃ R, whF V a = R := ⟨_, rfl⟩
  rw [hR]
  unfold whF at hR
  by_cases c1 : a < 0
  · have d1 : decide (a < 0) = true := by simpa using c1
    rw [if_pos (.inl c1)] at hR
    subst hR
    rw [if_neg (by omega)]
    go_enter Tryz.func119, Tryz.ntmps119
    go_wp2_with fail
    refine HI.out.mono ?_
    rintro e9 w9 ⟨rfl, hw9⟩
    replace hw9 := hw9.symm
    subst hw9
    go_wp2_with fail
    go_ret2
    exact ⟨rfl, rfl⟩
  have d1 : decide (a < 0) = false := by simpa using c1
  by_cases c2 : 65536 ≤ a
  · have d2 : decide (65536 ≤ a) = true := by simpa using c2
    rw [if_pos (.inr c2)] at hR
    subst hR
    rw [if_neg (by omega)]
    go_enter Tryz.func119, Tryz.ntmps119
    go_wp2_with fail
    refine HI.out.mono ?_
    rintro e9 w9 ⟨rfl, hw9⟩
    replace hw9 := hw9.symm
    subst hw9
    go_wp2_with fail
    go_ret2
    exact ⟨rfl, rfl⟩
  have d2 : decide (65536 ≤ a) = false := by simpa using c2
  rw [if_neg (by omega)] at hR
  obtain ⟨q, k, rfl, hq, hk⟩ : ∃ q k : Nat, a = ((q * 64 + k : Nat) : Int) ∧ q < 1024 ∧ k < 64 := ⟨(a / 64).toNat, (a % 64).toNat, by omega, by omega, by omega⟩
  have e1 : (((q * 64 + k : Nat) : Int) / 64).toNat = q := by omega
  have e2 : (((q * 64 + k : Nat) : Int) % 64).toNat = k := by omega
  rw [e1] at hR ⊢
  rw [e2]
  clear e1 e2
  have h0 : (0 : Int) ≤ ((q * 64 + k : Nat) : Int) := by omega
  have hdv : Int.tdiv ((q * 64 + k : Nat) : Int) 64 = (q : Int) := by rw [Int.tdiv_eq_ediv_of_nonneg h0]; omega
  have hmd : Int.tmod ((q * 64 + k : Nat) : Int) 64 = (k : Int) := by rw [Int.tmod_eq_emod_of_nonneg h0]; omega
  have hwq : wrap64 (q : Int) = (q : Int) := by unfold wrap64; omega
  have hql : (q : Int) < 1024 := by omega
  have hkl : (k : Int) < 64 := by omega
  generalize ((q * 64 + k : Nat) : Int) = a at *
  obtain ⟨cs, A, n, cap, hkb, hc, _⟩ := hV.ex
  have c0 := (hkb.cell (1 + q * 66)).trans (hc.kind hq)
  by_cases hkd : (V.pg q).kind = 2
  · rw [if_neg (by simpa using hkd)] at hR
    subst hR
    rw [if_pos rfl]
    rw [hkd] at c0
    clear hkd hkb hc hV
    go_enter Tryz.func119, Tryz.ntmps119
    go_wp2_with fail
    refine HI.out.mono ?_
    rintro e9 w9 ⟨rfl, hw9⟩
    replace hw9 := hw9.symm
    subst hw9
    go_wp2_with fail
    go_ret2
    exact ⟨rfl, rfl⟩
  · rw [if_pos hkd] at hR
    subst hR
    rw [if_neg (by omega)]
    generalize (V.pg q).kind = kd at *
    have hkd' : (kd != 2) = true := by simpa using hkd
    clear hkb hc hV
    go_enter Tryz.func119, Tryz.ntmps119
    go_wp2_with fail
    refine HI.out.mono ?_
    rintro e9 w9 ⟨rfl, hw9⟩
    replace hw9 := hw9.symm
    subst hw9
    go_wp2_with fail
    go_ret2
    exact ⟨rfl, rfl⟩
theorem write_any (b : Nat) (a v : Int) (V : Vm) (w : World) (hV : SysIs w b V) :
    Calls Tryz.prog 64 #[.pointer (some ⟨b, 0, none⟩), .int .i64 a, .int .u8 v] w fun e w' => e = .returned (.int .i64 (whF V a)) ∧ SysTo b (writeF V a v) w w' := by
  have HW := Lib.hid (where_any b a V w hV)
  have hV' := Lib.hid hV
  unfold SysTo
  obtain ⟨P, hP⟩ : ∃ P, writeF V a v = P := ⟨_, rfl⟩
  rw [hP]
  unfold writeF at hP
  unfold whP at HW
  obtain ⟨R, hR⟩ : ∃ R, whF V a = R := ⟨_, rfl⟩
  rw [hR] at hP HW ⊢
  by_cases c0 : R = 0
  · subst c0
    rw [if_pos rfl] at hP HW
    have ha : ¬ (a < 0 ∨ 65536 ≤ a) := fun hc => by unfold whF at hR; rw [if_pos hc] at hR; omega
    have hq : (a / 64).toNat < 1024 := by omega
    have hk : (a % 64).toNat < 64 := by omega
    generalize (a / 64).toNat = q at *
    generalize (a % 64).toNat = k at *
    have hset := hV.setByte hq hk v
    rw [hP] at hset
    have hset' := Lib.hid hset
    obtain ⟨cs, A, n, cap, hkb, hc, _⟩ := hV.ex
    have e1 := (hkb.cell (1 + q * 66 + (k + 2))).trans (hc.byte hq hk)
    rw [show 1 + q * 66 + (k + 2) = 1 + q * 66 + 2 + k by omega] at e1
    have f1 := hkb.frozen
    clear hkb hc hV hP hset hR ha
    go_enter Tryz.func64, Tryz.ntmps64
    go_wp2_with fail
    refine HW.out.mono ?_
    rintro e9 w9 ⟨rfl, hw9⟩
    replace hw9 := hw9.symm
    subst hw9
    go_wp2_with fail
    go_ret
    exact ⟨rfl, hset'.out.1, hset'.out.2⟩
  · rw [if_neg c0] at hP HW
    subst hP
    have d0 : (R == 0) = false := by simpa using c0
    clear hR hV
    go_enter Tryz.func64, Tryz.ntmps64
    go_wp2_with fail
    refine HW.out.mono ?_
    rintro e9 w9 ⟨rfl, hw9⟩
    replace hw9 := hw9.symm
    subst hw9
    go_wp2_with fail
    go_ret
    exact ⟨rfl, hV'.out, Far.refl _ _⟩
theorem read_any (b : Nat) (a : Int) (V : Vm) (w : World) (hV : SysIs w b V) :
    Calls Tryz.prog 165 #[.pointer (some ⟨b, 0, none⟩), .int .i64 a] w fun e w' => e = .returned (.tuple #[.int .u8 (if whF V a = 0 then (V.pg (a / 64).toNat).byt (a % 64).toNat else 0), .int .i64 (whF V a)]) ∧ w' = w := by
  have HW := Lib.hid (where_any b a V w hV)
  unfold whP at HW
  obtain ⟨R, hR⟩ : ∃ R, whF V a = R := ⟨_, rfl⟩
  rw [hR] at HW ⊢
  by_cases c0 : R = 0
  · subst c0
    rw [if_pos rfl] at HW ⊢
    have ha : ¬ (a < 0 ∨ 65536 ≤ a) := fun hc => by unfold whF at hR; rw [if_pos hc] at hR; omega
    have hq : (a / 64).toNat < 1024 := by omega
    have hk : (a % 64).toNat < 64 := by omega
    generalize (a / 64).toNat = q at *
    generalize (a % 64).toNat = k at *
    obtain ⟨cs, A, n, cap, hkb, hc, _⟩ := hV.ex
    have e1 := (hkb.cell (1 + q * 66 + (k + 2))).trans (hc.byte hq hk)
    rw [show 1 + q * 66 + (k + 2) = 1 + q * 66 + 2 + k by omega] at e1
    generalize (V.pg q).byt k = x at *
    clear hkb hc hV hR ha
    go_enter Tryz.func165, Tryz.ntmps165
    go_wp2_with fail
    refine HW.out.mono ?_
    rintro e9 w9 ⟨rfl, hw9⟩
    replace hw9 := hw9.symm
    subst hw9
    go_wp2_with fail
    go_ret2
    exact ⟨rfl, rfl⟩
  · rw [if_neg c0] at HW ⊢
    have d0 : (R != 0) = true := by simpa using c0
    clear hR hV
    go_enter Tryz.func165, Tryz.ntmps165
    go_wp2_with fail
    refine HW.out.mono ?_
    rintro e9 w9 ⟨rfl, hw9⟩
    replace hw9 := hw9.symm
    subst hw9
    go_wp2_with fail
    go_ret2
    exact ⟨rfl, rfl⟩
end Go.Proofs.YtefnnfcfigcikaaGreat
namespace Go.Pol
open Go Go.RowKit
/-- the cells of the reference's system -/
structure RefC (cs : Array Value) (v : Value) (V : Vm) : Prop where
  size : cs.size = 66639
  kind : ∀ p, p < 1024 → cs[p]? = some (.int .i64 (V.pg p).kind)
  huge : ∀ p, p < 1024 → cs[1024 + p / 16]? = some (.bool (V.pg p).huge)
  byt : ∀ p, p < 1024 → ∀ k, k < 64 → cs[1088 + p * 64 + k]? = some (.int .u8 ((V.pg p).byt k))
  rf : ∀ i, i < 15 → cs[66624 + i]? = (rfC v V.rf.calls V.rf.hits)[i]?
/-- the reference's system in memory; its rules lie below B -/
structure RefIs (w : World) (B b : Nat) (V : Vm) : Prop where
  ex : ∃ (cs : Array Value) (A : Option Addr) (n cap : Nat), Blk w b 183 cs ∧ RefC cs (.slice A n cap) V ∧ (V.rf.rules.length = n ∧ (A = none → cap = 0)) ∧ Rd w B A (fl ruC V.rf.rules) ∧ B ≤ b ∧ RfOk V.rf
theorem RefIs.lt {w : World} {B b : Nat} {V : Vm} (h : RefIs w B b V) : b < w.heap.size := by
  obtain ⟨cs, A, n, cap, hk, _⟩ := h.ex
  exact hk.lt
theorem RefIs.base {w : World} {B b : Nat} {V : Vm} (h : RefIs w B b V) : B ≤ b := by
  obtain ⟨cs, A, n, cap, _, _, _, _, h, _⟩ := h.ex
  exact h
theorem RefIs.ok {w : World} {B b : Nat} {V : Vm} (h : RefIs w B b V) : RfOk V.rf := by
  obtain ⟨cs, A, n, cap, _, _, _, _, _, h⟩ := h.ex
  exact h
/-- rules below a bound are kept by what turns nothing there -/
theorem Rd.keepB {T : Nat → Prop} {w w' : World} {B : Nat} {A : Option Addr} {xs : List Value} (h : Rd w B A xs) (hF : Far T w w') (hT : ∀ k, T k → B ≤ k) : Rd w' B A xs := fun k hk => by
  obtain ⟨b, o, e, hb, hc⟩ := h k hk
  exact ⟨b, o, e, hb, hF.cell hc (fun ht => by have := hT _ ht; simp only at this; omega)⟩
theorem RefIs.far {w w' : World} {B b : Nat} {V : Vm} {T : Nat → Prop} (h : RefIs w B b V) (hF : Far T w w') (hT : ∀ k, T k → B ≤ k ∧ k ≠ b) : RefIs w' B b V := by
  obtain ⟨cs, A, n, cap, h1, h2, h3, h4, h5, h6⟩ := h.ex
  exact ⟨cs, A, n, cap, hF.blk h1 (fun ht => (hT _ ht).2 rfl), h2, h3, h4.keepB hF (fun k hk => (hT k hk).1), h5, h6⟩
theorem RefIs.call {w w' : World} {B b : Nat} {V : Vm} (h : RefIs w B b V) (hb : Below w.heap.size w w') : RefIs w' B b V :=
  h.far (T := fun _ => False) (Far.of_below hb) (fun _ h => h.elim)
/-- a page's kind put anew, and its bytes -/
theorem RefC.put {cs : Array Value} {v : Value} {V : Vm} (h : RefC cs v V) {p : Nat} (hp : p < 1024) (hh : (V.pg p).huge = false) (tk : Int) :
    RefC (putA (cs.setIfInBounds p (.int .i64 tk)) (1088 + p * 64) (List.replicate 64 (.int .u8 0))) v (V.setP p (newPg tk)) := by
  have hs := h.size
  have hl : (List.replicate 64 (Value.int .u8 0)).length = 64 := by simp
  have hg := putA_get (List.replicate 64 (Value.int .u8 0)) (cs.setIfInBounds p (.int .i64 tk)) (1088 + p * 64) (by rw [hl, Array.size_setIfInBounds]; omega)
  have hg2 : ∀ i, (cs.setIfInBounds p (.int .i64 tk))[i]? = if p = i then some (.int .i64 tk) else cs[i]? := fun i => by
    rw [Array.getElem?_setIfInBounds]
    by_cases e : p = i
    · subst e; rw [if_pos rfl, if_pos rfl, if_pos (by omega)]
    · rw [if_neg e, if_neg e]
  have hpg : ∀ q, (V.setP p (newPg tk)).pg q = if q = p then newPg tk else V.pg q := fun q => rfl
  refine ⟨by rw [putA_size, Array.size_setIfInBounds]; exact hs, fun q hq => ?_, fun q hq => ?_, fun q hq k hk => ?_, fun i hi => ?_⟩
  · rw [hg, if_neg (by omega), hg2, hpg]
    by_cases e : q = p
    · subst e; rw [if_pos rfl, if_pos rfl]; rfl
    · rw [if_neg (fun h => e h.symm), if_neg e]; exact h.kind q hq
  · rw [hg, if_neg (by omega), hg2, if_neg (by omega), h.huge q hq, hpg]
    by_cases e : q = p
    · subst e; rw [if_pos rfl, hh]; rfl
    · rw [if_neg e]
  · rw [hg, hl, hpg]
    by_cases e : q = p
    · subst e
      rw [if_pos (by omega), if_pos rfl, List.getElem?_replicate, if_pos (by omega)]; rfl
    · rw [if_neg (by omega), hg2, if_neg (by omega), if_neg e]; exact h.byt q hq k hk
  · rw [hg, if_neg (by rw [hl]; omega), hg2, if_neg (by omega)]; exact h.rf i hi
/-- a group made huge, or none -/
theorem RefC.putH {cs : Array Value} {v : Value} {V : Vm} (h : RefC cs v V) {g : Nat} (hg : g < 64) (x : Bool) :
    RefC (cs.setIfInBounds (1024 + g) (.bool x)) v (V.eachP (g * 16) 16 (fun p => p.hugeP x)) := by
  have hs := h.size
  have hg2 : ∀ i, (cs.setIfInBounds (1024 + g) (.bool x))[i]? = if 1024 + g = i then some (.bool x) else cs[i]? := fun i => by
    rw [Array.getElem?_setIfInBounds]
    by_cases e : 1024 + g = i
    · subst e; rw [if_pos rfl, if_pos rfl, if_pos (by omega)]
    · rw [if_neg e, if_neg e]
  have hpg : ∀ q, (V.eachP (g * 16) 16 (fun p => p.hugeP x)).pg q = if g * 16 ≤ q ∧ q < g * 16 + 16 then (V.pg q).hugeP x else V.pg q := fun q => rfl
  refine ⟨by rw [Array.size_setIfInBounds]; exact hs, fun q hq => ?_, fun q hq => ?_, fun q hq k hk => ?_, fun i hi => ?_⟩
  · rw [hg2, if_neg (by omega), h.kind q hq, hpg]
    split <;> rfl
  · rw [hg2, hpg]
    by_cases e : g * 16 ≤ q ∧ q < g * 16 + 16
    · rw [if_pos (by omega), if_pos e]; rfl
    · rw [if_neg (by omega), if_neg e]; exact h.huge q hq
  · rw [hg2, if_neg (by omega), h.byt q hq k hk, hpg]
    split <;> rfl
  · rw [hg2, if_neg (by omega)]; exact h.rf i hi
theorem RefC.putByte {cs : Array Value} {v : Value} {V : Vm} (h : RefC cs v V) {p k : Nat} (hp : p < 1024) (hk : k < 64) (x : Int) :
    RefC (cs.setIfInBounds (1088 + p * 64 + k) (.int .u8 x)) v (V.setP p ((V.pg p).byteP k x)) := by
  have hs := h.size
  have hg2 : ∀ i, (cs.setIfInBounds (1088 + p * 64 + k) (.int .u8 x))[i]? = if 1088 + p * 64 + k = i then some (.int .u8 x) else cs[i]? := fun i => by
    rw [Array.getElem?_setIfInBounds]
    by_cases e : 1088 + p * 64 + k = i
    · rw [if_pos e, if_pos e, if_pos (by omega)]
    · rw [if_neg e, if_neg e]
  have hpg : ∀ q, (V.setP p ((V.pg p).byteP k x)).pg q = if q = p then (V.pg p).byteP k x else V.pg q := fun q => rfl
  refine ⟨by rw [Array.size_setIfInBounds]; exact hs, fun q hq => ?_, fun q hq => ?_, fun q hq j hj => ?_, fun i hi => ?_⟩
  · rw [hg2, if_neg (by omega), h.kind q hq, hpg]
    by_cases e : q = p
    · subst e; rw [if_pos rfl]; rfl
    · rw [if_neg e]
  · rw [hg2, if_neg (by omega), h.huge q hq, hpg]
    by_cases e : q = p
    · subst e; rw [if_pos rfl]; rfl
    · rw [if_neg e]
  · rw [hg2, hpg]
    by_cases e : q = p
    · subst e
      rw [if_pos rfl]
      by_cases e2 : j = k
      · subst e2; rw [if_pos rfl]; simp [Pg.byteP]
      · rw [if_neg (by omega), h.byt q hq j hj]; simp [Pg.byteP, e2]
    · rw [if_neg (by omega), if_neg e]; exact h.byt q hq j hj
  · rw [hg2, if_neg (by omega)]; exact h.rf i hi
theorem RefC.putRf {cs : Array Value} {v : Value} {V : Vm} (h : RefC cs v V) (u : Value) (S : Rf) : RefC (putA cs 66624 (rfC u S.calls S.hits)) u { V with rf := S } := by
  have hs := h.size
  have hl : (rfC u S.calls S.hits).length = 15 := rfl
  have hg := putA_get (rfC u S.calls S.hits) cs 66624 (by rw [hl]; omega)
  refine ⟨by rw [putA_size]; exact hs, fun q hq => ?_, fun q hq => ?_, fun q hq k hk => ?_, fun i hi => ?_⟩
  · rw [hg, if_neg (by omega)]; exact h.kind q hq
  · rw [hg, if_neg (by omega)]; exact h.huge q hq
  · rw [hg, if_neg (by omega)]; exact h.byt q hq k hk
  · rw [hg, if_pos (by omega), show 66624 + i - 66624 = i by omega]
theorem RefIs.put {w : World} {B b : Nat} {V : Vm} (h : RefIs w B b V) {p : Nat} (hp : p < 1024) (hh : (V.pg p).huge = false) (tk : Int) :
    RefIs ((w.setCell ⟨b, p, none⟩ (.int .i64 tk)).setCells b (1088 + p * 64) (List.replicate 64 (.int .u8 0))) B b (V.setP p (newPg tk)) ∧ Far (fun k => k = b) w ((w.setCell ⟨b, p, none⟩ (.int .i64 tk)).setCells b (1088 + p * 64) (List.replicate 64 (.int .u8 0))) := by
  obtain ⟨cs, A, n, cap, h1, h2, h3, h4, h5, h6⟩ := h.ex
  have hF1 : Far (fun k => k = b) w (w.setCell ⟨b, p, none⟩ (.int .i64 tk)) := Far.setCell (T := fun k => k = b) (p := ⟨b, p, none⟩) (Far.refl _ _) (fun _ => rfl) _
  have hF := Far.puts (T := fun k => k = b) rfl (List.replicate 64 (Value.int .u8 0)) (1088 + p * 64) w _ hF1
  exact ⟨⟨_, A, n, cap, Blk.puts (w := w) (cs := #[]) (List.replicate 64 (Value.int .u8 0)) (1088 + p * 64) _ _ (h1.set_ _ _), h2.put hp hh tk, h3, h4.keepB hF (fun k e => by omega), h5, h6⟩, hF⟩
theorem RefIs.putH {w : World} {B b : Nat} {V : Vm} (h : RefIs w B b V) {g : Nat} (hg : g < 64) (x : Bool) :
    RefIs (w.setCell ⟨b, 1024 + g, none⟩ (.bool x)) B b (V.eachP (g * 16) 16 (fun p => p.hugeP x)) ∧ Far (fun k => k = b) w (w.setCell ⟨b, 1024 + g, none⟩ (.bool x)) := by
  obtain ⟨cs, A, n, cap, h1, h2, h3, h4, h5, h6⟩ := h.ex
  have hF : Far (fun k => k = b) w (w.setCell ⟨b, 1024 + g, none⟩ (.bool x)) := Far.setCell (T := fun k => k = b) (p := ⟨b, 1024 + g, none⟩) (Far.refl _ _) (fun _ => rfl) _
  exact ⟨⟨_, A, n, cap, h1.set_ _ _, h2.putH hg x, h3, h4.keepB hF (fun k e => by omega), h5, h6⟩, hF⟩
theorem RefIs.putByte {w : World} {B b : Nat} {V : Vm} (h : RefIs w B b V) {p k : Nat} (hp : p < 1024) (hk : k < 64) (x : Int) :
    RefIs (w.setCell ⟨b, 1088 + p * 64 + k, none⟩ (.int .u8 x)) B b (V.setP p ((V.pg p).byteP k x)) ∧ Far (fun k => k = b) w (w.setCell ⟨b, 1088 + p * 64 + k, none⟩ (.int .u8 x)) := by
  obtain ⟨cs, A, n, cap, h1, h2, h3, h4, h5, h6⟩ := h.ex
  have hF : Far (fun k => k = b) w (w.setCell ⟨b, 1088 + p * 64 + k, none⟩ (.int .u8 x)) := Far.setCell (T := fun k => k = b) (p := ⟨b, 1088 + p * 64 + k, none⟩) (Far.refl _ _) (fun _ => rfl) _
  exact ⟨⟨_, A, n, cap, h1.set_ _ _, h2.putByte hp hk x, h3, h4.keepB hF (fun k e => by omega), h5, h6⟩, hF⟩
theorem RefIs.putRf {w w' : World} {B b : Nat} {V : Vm} (h : RefIs w B b V) (S : Rf) (A : Option Addr) (n cap : Nat) (hB : Below w.heap.size w w') (hn : S.rules.length = n) (hz : A = none → cap = 0) (hr : Rd w' B A (fl ruC S.rules)) (hS : RfOk S) :
    RefIs (w'.setCells b 66624 (rfC (.slice A n cap) S.calls S.hits)) B b { V with rf := S } ∧ Far (fun k => k = b) w (w'.setCells b 66624 (rfC (.slice A n cap) S.calls S.hits)) := by
  have hlt := h.lt
  obtain ⟨cs, A0, n0, cap0, h1, h2, _, _, h5, _⟩ := h.ex
  have k1 := h1.call hB
  have hF := Far.puts (T := fun k => k = b) rfl (rfC (.slice A n cap) S.calls S.hits) 66624 w' w' (Far.refl _ _)
  exact ⟨⟨_, A, n, cap, Blk.puts (w := w) (cs := #[]) (rfC (.slice A n cap) S.calls S.hits) 66624 w' cs k1, h2.putRf _ S, ⟨hn, hz⟩, hr.keepB hF (fun k e => by omega), h5, hS⟩, (Far.of_below hB).trans hF⟩
/-! the zero cells -/
def stV (z : Value → Bool) : Nat → List Value → Option (List Value)
  | 0, v :: r => if z v = true then some r else none
  | 0, [] => none
  | d + 1, l => match stV z d l with
    | some r => stV z d r
    | none => none
theorem stV_spec (z : Value → Bool) : ∀ (d : Nat) (l r : List Value), stV z d l = some r → ∃ pre, l = pre ++ r ∧ pre.length = 2 ^ d ∧ ∀ v ∈ pre, z v = true
  | 0, [], r, h => by cases h
  | 0, v :: l, r, h => by
    rw [stV] at h
    by_cases hz : z v = true
    · rw [if_pos hz] at h
      cases h
      exact ⟨[v], rfl, rfl, by simpa using hz⟩
    · rw [if_neg hz] at h; cases h
  | d + 1, l, r, h => by
    rw [stV] at h
    split at h
    · rename_i r' h'
      obtain ⟨p1, e1, l1, a1⟩ := stV_spec z d l r' h'
      obtain ⟨p2, e2, l2, a2⟩ := stV_spec z d r' r h
      refine ⟨p1 ++ p2, by rw [e1, e2, List.append_assoc], by rw [List.length_append, l1, l2, Nat.pow_succ]; omega, fun v hv => ?_⟩
      rcases List.mem_append.1 hv with h | h
      · exact a1 v h
      · exact a2 v h
    · cases h
def zI : Value → Bool
  | .int .i64 k => decide (k = 0)
  | _ => false
def zB : Value → Bool
  | .bool b => !b
  | _ => false
def zU : Value → Bool
  | .int .u8 k => decide (k = 0)
  | _ => false
theorem zI_eq {v : Value} (h : zI v = true) : v = .int .i64 0 := by
  unfold zI at h
  split at h
  · rw [decide_eq_true_eq] at h; rw [h]
  · cases h
theorem zB_eq {v : Value} (h : zB v = true) : v = .bool false := by
  unfold zB at h
  split at h
  · rename_i b; cases b with
    | false => rfl
    | true => cases h
  · cases h
theorem zU_eq {v : Value} (h : zU v = true) : v = .int .u8 0 := by
  unfold zU at h
  split at h
  · rw [decide_eq_true_eq] at h; rw [h]
  · cases h
def stR (l : List Value) : Option (List Value) :=
  match stV zI 10 l with
  | some r => match stV zB 6 r with
    | some r => stV zU 16 r
    | none => none
  | none => none
theorem newRef {zc : Array Value} (h : stR zc.toList = some (rfC (.slice none 0 0) (fun _ => 0) (fun _ => 0))) (v : Value) : RefC (putA zc 66624 (rfC v (fun _ => 0) (fun _ => 0))) v newVm := by
  unfold stR at h
  split at h
  · rename_i r1 h1
    split at h
    · rename_i r2 h2
      obtain ⟨p1, e1, l1, a1⟩ := stV_spec zI 10 _ _ h1
      obtain ⟨p2, e2, l2, a2⟩ := stV_spec zB 6 _ _ h2
      obtain ⟨p3, e3, l3, a3⟩ := stV_spec zU 16 _ _ h
      have hz : zc.toList = p1 ++ (p2 ++ (p3 ++ rfC (.slice none 0 0) (fun _ => 0) (fun _ => 0))) := by rw [e1, e2, e3]
      simp only [Nat.reducePow] at l1 l2 l3
      have hlen : zc.size = 66639 := by
        rw [← Array.length_toList, hz, List.length_append, List.length_append, List.length_append, l1, l2, l3]; rfl
      have hgl : ∀ i, zc[i]? = (p1 ++ (p2 ++ (p3 ++ rfC (.slice none 0 0) (fun _ => 0) (fun _ => 0))))[i]? := fun i => by rw [← Array.getElem?_toList, hz]
      generalize hL : rfC v (fun _ => 0) (fun _ => 0) = L at *
      have hLl : L.length = 15 := by rw [← hL]; rfl
      have hg := putA_get L zc 66624 (by rw [hLl]; omega)
      refine ⟨by rw [putA_size]; exact hlen, fun p hp => ?_, fun p hp => ?_, fun p hp k hk => ?_, fun i hi => ?_⟩
      · rw [hg, if_neg (by omega), hgl, List.getElem?_append_left (by omega)]
        have hl : p < p1.length := by omega
        rw [List.getElem?_eq_getElem hl, zI_eq (a1 _ (List.getElem_mem hl))]; rfl
      · rw [hg, if_neg (by omega), hgl, List.getElem?_append_right (by omega), List.getElem?_append_left (by omega)]
        have hl : 1024 + p / 16 - p1.length < p2.length := by omega
        rw [List.getElem?_eq_getElem hl, zB_eq (a2 _ (List.getElem_mem hl))]; rfl
      · rw [hg, if_neg (by omega), hgl, List.getElem?_append_right (by omega), List.getElem?_append_right (by omega), List.getElem?_append_left (by omega)]
        have hl : 1088 + p * 64 + k - p1.length - p2.length < p3.length := by omega
        rw [List.getElem?_eq_getElem hl, zU_eq (a3 _ (List.getElem_mem hl))]; rfl
      · rw [hg, if_pos (by omega), show 66624 + i - 66624 = i by omega, ← hL]; rfl
    · cases h
  · cases h
end Go.Pol
namespace Go.Proofs.YtefnnfcfigcikaaGreat
open Go Go.Proofs Go.RowKit Go.Pol
set_option maxRecDepth 200000 in
theorem zeroRef : stR Tryz.zeroCells183.toList = some (rfC (.slice none 0 0) (fun _ => 0) (fun _ => 0)) := by kernel_rfl
theorem infoKinds : (Tryz.prog.info? 109).map (·.size) = some 64 := by kernel_rfl
end Go.Proofs.YtefnnfcfigcikaaGreat
namespace Go.Pol
open Go Go.RowKit
/-- is a number in a range? -/
def inB (n a b : Int) : Bool := decide (a ≤ n) && decide (n ≤ b)
theorem inB_true {n a b : Int} : inB n a b = true ↔ a ≤ n ∧ n ≤ b := by simp [inB]
theorem inB_false {n a b : Int} : inB n a b = false ↔ ¬ (a ≤ n ∧ n ≤ b) := by rw [← inB_true]; simp
theorem rfd_step (l : List Ru) (k n : Int) (i : Nat) (h : i < l.length) : (l.drop i).any (fun x => x.1 == k && rfu x n) = ((l.getD i ru0).1 == k && rfu (l.getD i ru0) n || (l.drop (i + 1)).any (fun x => x.1 == k && rfu x n)) := by
  rw [Go.Pol.drop_cons ru0 l i h, List.any_cons]
end Go.Pol
namespace Go.Proofs.YtefnnfcfigcikaaGreat
open Go Go.Proofs Go.RowKit Go.Pol Go.Shelf
attribute [local go_sem] Oper.semAt_some Go.Pol.wide_fn Go.Pol.wide_depth Go.Pol.wide_fn' Go.Pol.wide_depth'

theorem in_any (n a b : Int) (w : World) : Calls Tryz.prog 199 #[.int .i64 n, .int .i64 a, .int .i64 b] w fun e w' => e = .returned (.bool (inB n a b)) ∧ w = w' := by
  by_cases h1 : a ≤ n
  · have d1 : decide (a ≤ n) = true := by simpa using h1
    have hE : inB n a b = decide (n ≤ b) := by simp [inB, h1]
    rw [hE]
    clear hE h1
    go_enter Tryz.func199, Tryz.ntmps199
    go_wp2_with fail
    go_ret
    exact ⟨rfl, rfl⟩
  · have d1 : decide (a ≤ n) = false := by simpa using h1
    have hE : inB n a b = false := by simp [inB, h1]
    rw [hE]
    clear hE h1
    go_enter Tryz.func199, Tryz.ntmps199
    go_wp2_with fail
    go_ret
    exact ⟨rfl, rfl⟩
theorem rrule_any (x : Ru) (w : World) : Calls Tryz.prog 197 #[ruV x] w fun e w' => e = .returned (.int .i64 (ruleE x)) ∧ Below w.heap.size w w' := by
  obtain ⟨k, f, e, t⟩ := x
  have hb0 := (Below.refl w.heap.size w).alloc (Nat.le_refl _) (.cells #[.int .i64 k, .int .i64 f, .int .i64 e, .int .i64 t] 178)
  have k0 := Blk.new w 178 #[.int .i64 k, .int .i64 f, .int .i64 e, .int .i64 t]
  have c0 := k0.cell
  clear k0
  obtain ⟨R, hR⟩ : ∃ R, ruleE (k, f, e, t) = R := ⟨_, rfl⟩
  rw [hR]
  unfold ruleE at hR
  simp only at hR
  have H1 := Lib.hid (fun W => in_any k 0 6 W)
  have H2 := Lib.hid (fun W => in_any f 1 10000 W)
  have H3 := Lib.hid (fun W => in_any e 0 12 W)
  have H4 := Lib.hid (fun W => in_any t 0 1000 W)
  have hE : Hid ((inB k 0 6 = false → R = 2) ∧ (inB k 0 6 = true → (inB f 1 10000 && inB e 0 12 && inB t 0 1000) = false → R = 7) ∧
      (inB k 0 6 = true → inB f 1 10000 = true → inB e 0 12 = true → inB t 0 1000 = true → R = if e = 0 ∧ t ≠ 1 then 6 else 0)) := Lib.hid (by
    simp only [Bool.and_eq_false_iff, inB_false, inB_true]
    refine ⟨fun h => ?_, fun h h2 => ?_, fun h h2 h3 h4 => ?_⟩
    · rw [← hR, if_pos (by omega)]
    · rw [← hR, if_neg (by omega), if_pos (by omega)]
    · rw [← hR, if_neg (by omega), if_neg (by omega)])
  generalize inB k 0 6 = b1 at *
  generalize inB f 1 10000 = b2 at *
  generalize inB e 0 12 = b3 at *
  generalize inB t 0 1000 = b4 at *
  clear hR
  go_enter Tryz.func197, Tryz.ntmps197
  go_wp2_with fail
  refine (H1.out _).mono ?_
  rintro e9 w9 ⟨rfl, rfl⟩
  cases b1 with
  | false =>
    have hr := hE.out.1 rfl
    subst hr
    go_wp2_with fail
    go_ret
    exact ⟨rfl, hb0⟩
  | true =>
    have hE2 := Lib.hid (hE.out.2.1 rfl)
    have hE3 := Lib.hid (hE.out.2.2 rfl)
    clear hE H1
    go_wp2_with fail
    refine (H2.out _).mono ?_
    rintro e9 w9 ⟨rfl, rfl⟩
    cases b2 with
    | false =>
      have hr := hE2.out rfl
      subst hr
      go_wp2_with fail
      go_ret
      exact ⟨rfl, hb0⟩
    | true =>
      have hE4 := Lib.hid (hE3.out rfl)
      clear hE3 H2
      go_wp2_with fail
      refine (H3.out _).mono ?_
      rintro e9 w9 ⟨rfl, rfl⟩
      cases b3 with
      | false =>
        have hr := hE2.out rfl
        subst hr
        go_wp2_with fail
        go_ret
        exact ⟨rfl, hb0⟩
      | true =>
        have hE5 := Lib.hid (hE4.out rfl)
        clear hE4 H3
        go_wp2_with fail
        refine (H4.out _).mono ?_
        rintro e9 w9 ⟨rfl, rfl⟩
        cases b4 with
        | false =>
          have hr := hE2.out rfl
          subst hr
          go_wp2_with fail
          go_ret
          exact ⟨rfl, hb0⟩
        | true =>
          have hr := hE5.out rfl
          clear hE5 hE2 H4
          by_cases c9 : e = 0
          · subst c9
            by_cases c10 : t = 1
            · have d10 : (t != 1) = false := by simpa using c10
              rw [if_neg (by omega)] at hr
              subst hr
              clear c10
              go_wp2_with fail
              go_ret
              exact ⟨rfl, hb0⟩
            · have d10 : (t != 1) = true := by simpa using c10
              rw [if_pos ⟨rfl, c10⟩] at hr
              subst hr
              clear c10
              go_wp2_with fail
              go_ret
              exact ⟨rfl, hb0⟩
          · have d9 : (e == 0) = false := by simpa using c9
            rw [if_neg (by omega)] at hr
            subst hr
            clear c9
            go_wp2_with fail
            go_ret
            exact ⟨rfl, hb0⟩
set_option maxRecDepth 100000 in
theorem rplanCheck_any (A : Option Addr) (n cap : Nat) (l : List Ru) (w : World) (hn : l.length = n) (hr : Rd w w.heap.size A (fl ruC l)) :
    Calls Tryz.prog 177 #[.agg #[.slice A n cap]] w fun e w' => e = .returned (.tuple #[.int .i64 (chkR l).1, .int .i64 (chkR l).2]) ∧ Below w.heap.size w w' := by
  have hb0 := (Below.refl w.heap.size w).alloc (Nat.le_refl _) (.cells #[.slice A n cap] 35)
  have k0 := Blk.new w 35 #[.slice A n cap]
  have c0 := k0.cell
  have r0 := hr.on_ hb0
  obtain ⟨R, hR⟩ : ∃ R, chkR l = R := ⟨_, rfl⟩
  rw [hR]
  obtain ⟨ri, re⟩ := R
  unfold chkR at hR
  have hn' := Lib.hid hn
  by_cases h50 : 50 < n
  · have d1 : decide (50 < (n : Int)) = true := by rw [decide_eq_true_eq]; omega
    have hE : Hid ((ri, re) = (0, 3)) := Lib.hid (by rw [← hR, if_pos (by omega)])
    clear hR hr r0 k0 hn h50
    go_enter Tryz.func177, Tryz.ntmps177
    go_wp2_with fail
    go_ret2
    have h := hE.out
    simp only [Prod.mk.injEq] at h
    exact ⟨by rw [h.1, h.2]; rfl, hb0⟩
  · have d1 : decide (50 < (n : Int)) = false := by rw [decide_eq_false_iff_not]; omega
    rw [if_neg (by omega)] at hR
    have hR' := Lib.hid hR
    clear hR hr hn
    obtain ⟨s, hs⟩ : ∃ s, w.heap.size = s := ⟨_, rfl⟩
    have HR := Lib.hid (fun x W => rrule_any x W)
    have hs' := Lib.hid hs
    go_enter Tryz.func177, Tryz.ntmps177
    go_upto_region 3 with fail
    generalize w.alloc (.cells #[.slice A n cap] 35) = w0 at *
    rw [hs] at hb0 k0 c0
    try simp only [hs]
    clear hs
    have k0' := Lib.hid k0
    clear k0
    go_wp2_with fail
    go_loopw [4] (fun u wr => ∃ i : Nat, i ≤ n ∧ u = .int .i64 i ∧ Hid (badF i (l.drop i) = (ri, re)) ∧ Below w0.heap.size w0 wr) (fun u _ => n - (intOf u).toNat)
    case atStart => exact ⟨0, by omega, rfl, Lib.hid hR'.out, Below.refl _ _⟩
    case round =>
      clear hR' c0
      obtain ⟨i, hi, rfl, hR, hB⟩ := hrel
      have kr := k0'.out.call hB
      have cr := kr.cell
      by_cases hlt : i < n
      · have hlt' : decide ((i : Int) < (n : Int)) = true := by simpa using hlt
        have hst := badF_step l i (by have := hn'.out; omega)
        rw [hR.out] at hst
        obtain ⟨b, o, rfl, hb, hc⟩ := (r0.on_ hB).elem ruC_len (by omega) ru0 (k := i) (by have := hn'.out; omega)
        generalize l.getD i ru0 = x at *
        have hcl := HR.out x
        obtain ⟨k, f, e, t⟩ := x
        have x0 := hc 0 _ rfl
        have x1 := hc 1 _ rfl
        have x2 := hc 2 _ rfl
        have x3 := hc 3 _ rfl
        simp only [Nat.add_zero] at x0
        generalize ruleE (k, f, e, t) = er at *
        have hst' := Lib.hid hst
        have hcl' := Lib.hid hcl
        have hin : (i : Int) < (n : Int) := by omega
        clear hc hst hcl
        by_cases he : er = 0
        · subst he
          have hst2 : Hid (badF (i + 1) (l.drop (i + 1)) = (ri, re)) := Lib.hid (by rw [hst'.out, if_neg (by simp)])
          clear hst'
          go_wp2_with fail
          refine (hcl'.out _).mono ?_
          rintro e9 w1 ⟨rfl, hb1⟩
          go_wp2_with fail
          go_roundw
          case rel => exact ⟨i + 1, by omega, by go_num, hst2, hB.trans (hb1.mono hB.size)⟩
          case measure => simp [intOf]; omega
        · have he' : (er != 0) = true := by simpa using he
          have hst2 : Hid ((ri, re) = ((i : Int), er)) := Lib.hid (by rw [hst'.out, if_pos he])
          clear hst' he
          go_wp2_with fail
          refine (hcl'.out _).mono ?_
          rintro e9 w1 ⟨rfl, hb1⟩
          go_wp2_with fail
          go_ret2
          have h := hst2.out
          simp only [Prod.mk.injEq] at h
          exact ⟨by rw [h.1, h.2]; rfl, by rw [hs'.out]; exact hb0.trans ((hB.trans (hb1.mono hB.size)).mono (by have := hb0.size; have := hs'.out; omega))⟩
      · obtain rfl : i = n := by omega
        have hlt' : decide ((i : Int) < (i : Int)) = false := by simp
        have hE : (0, 0) = (ri, re) := by
          have := hR.out
          rw [List.drop_of_length_le (by have := hn'.out; omega)] at this
          exact this
        simp only [Prod.mk.injEq] at hE
        obtain ⟨rfl, rfl⟩ := hE
        go_wp2_with fail
        go_ret2
        exact ⟨rfl, by rw [hs'.out]; exact hb0.trans (hB.mono (by have := hb0.size; have := hs'.out; omega))⟩
end Go.Proofs.YtefnnfcfigcikaaGreat
