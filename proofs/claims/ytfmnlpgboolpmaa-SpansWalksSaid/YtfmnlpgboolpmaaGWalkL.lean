/- Walks: the reference's list of the pages of a set. -/
import Derived.Test.YtfmnlpgboolpmaaGWalkJ
import Derived.Test.YtfmnlpgboolpmaaGSpecB
namespace Go.Pol
open Go Go.RowKit
def pagesX (x : Sp) (j : Nat) : List Int := (List.range j).map fun (k : Nat) => x.1 + (k : Int)
theorem pagesX_succ (x : Sp) (j : Nat) : pagesX x (j + 1) = pagesX x j ++ [x.1 + (j : Int)] := by simp [pagesX, List.range_succ]
theorem pagesOf_nil : pagesOf [] = [] := rfl
theorem pagesOf_cons (x : Sp) (r : List Sp) : pagesOf (x :: r) = pagesX x x.2.toNat ++ pagesOf r := by simp [pagesOf, pagesX]
theorem pagesOf_append (l r : List Sp) : pagesOf (l ++ r) = pagesOf l ++ pagesOf r := by simp [pagesOf]
theorem pagesOf_len : ∀ (l : List Sp), (∀ x ∈ l, 0 ≤ x.2) → ((pagesOf l).length : Int) = sumS l
  | [], _ => by simp [pagesOf, sumS]
  | x :: r, h => by
    have ih := pagesOf_len r (fun y hy => h y (by simp [hy]))
    have hx := h x (by simp)
    rw [pagesOf_cons, List.length_append, show (pagesX x x.2.toNat).length = x.2.toNat by simp [pagesX]]
    simp only [sumS, List.map_cons, List.sum_cons] at ih ⊢
    omega
theorem take_snoc (us : List Sp) (k : Nat) (hk : k < us.length) : us.take (k + 1) = us.take k ++ [us.getD k (0,0)] := by
  rw [List.take_add_one, List.getElem?_eq_getElem hk]
  simp [List.getD_eq_getElem?_getD, hk]
theorem ints_one {a : Int} : ∀ u ∈ [Value.int .i64 a], u.oneCell' = true := by
  intro u hu; simp only [List.mem_cons, List.not_mem_nil, or_false] at hu; subst hu; rfl
theorem news_i {w : World} {g : Nat} {t : TypeId} {a : Int} (h : Blk w g t #[.int .i64 a]) : ∀ (j : Nat) (u : Value), [Value.int .i64 a][j]? = some u → w.cell? ((⟨g, 0, none⟩ : Addr).add j) = some u := by
  intro j u hu
  rw [addr_add0, Nat.zero_add, h.cell]
  simpa using hu
/-- what a call of the own made reads as a list -/
theorem own_RIx {w : World} {base : Nat} {e : TypeId} {v : Value} {n : Nat} {xs : List Int} (h : w.ownsRow base e 1 v n (xs.map (Value.int .i64))) (hn : xs.length = n) : ∃ (A : Option Addr) (cap : Nat), v = .slice A n cap ∧ RI w w.heap.size A xs := by
  have hv := h
  rcases h.2 with ⟨rfl, h0⟩ | ⟨g, cap, cur, rfl, hg, hk, _⟩
  · subst h0
    obtain rfl : xs = [] := List.eq_nil_of_length_eq_zero hn
    exact ⟨none, 0, rfl, RI.nil⟩
  · refine ⟨_, cap, rfl, fun k hk' => ?_⟩
    have hk2 : k < xs.length := by simpa using hk'
    have hc := hv.cellAt k (by omega)
    refine ⟨g, 0, rfl, Blk.lt hk, ?_⟩
    rw [Nat.zero_add, hc]
    exact List.getElem?_eq_getElem hk'
end Go.Pol
namespace Go.Proofs.Ytfmnlpgboolpmaa
open Go Go.Proofs Go.RowKit Go.Pol
theorem infoIn : (Try.prog.info? 3).map (fun i => (i.zero, i.size, i.bytes)) = some (some (.int .i64 0), 1, 8) := by kernel_rfl

set_option maxRecDepth 100000 in
set_option maxHeartbeats 1600000 in
theorem refPages_any (A : Option Addr) (n cap : Nat) (us : List Sp) (w : World) (hn : us.length = n) (hm : n ≤ maxLen) (hr : RU w w.heap.size A us) (hu : Go.Pol.Can us) (L : List Int) (hL : pagesOf us = L) :
    Calls Try.prog 49 #[.slice A n cap] w fun e w' => ∃ (A' : Option Addr) (cap' : Nat), e = .returned (.slice A' L.length cap') ∧ RI w' w'.heap.size A' L ∧ Below w.heap.size w w' := by
  obtain ⟨i0, hi, hz0, hz1, hz2⟩ := info_parts infoIn
  have hc := refSpCheck_any A n cap us w hn hm hr
  rw [chkS_zero.2 hu] at hc
  have HC := Lib.hid hc
  clear hc
  have hlen := hu.len
  have hvl := Lib.hid hu.1
  have hn' := Lib.hid hn
  have hL' := Lib.hid hL
  clear hL
  have hn512 : n ≤ 512 := by omega
  clear hn hu
  go_enter Try.func49, Try.ntmps49
  go_wp2_with (go_at_call 43; refine (HC.out).mono ?_; rintro e w1 ⟨rfl, hq⟩)
  go_loopw [3, 4] (fun v i wr => ∃ (k : Nat) (xs : List Int), k ≤ n ∧ i = .int .i64 k ∧ Hid (xs = pagesOf (us.take k)) ∧ xs.length ≤ 1024 * k ∧ wr.ownsRow w.heap.size 3 1 v xs.length (xs.map (Value.int .i64)) ∧ Below w.heap.size w wr) (fun _ i _ => n - (intOf i).toNat)
  case atStart => exact ⟨0, [], by omega, rfl, Lib.hid (by simp [pagesOf]), by simp, World.ownsRow_nil _ _ _ _, hq⟩
  case round =>
    obtain ⟨k, xs, hk, rfl, hX, hxl, hrow, hB⟩ := hrel
    have hBs := hB.size
    by_cases hlt : k < n
    · have hlt' : decide ((k : Int) < (n : Int)) = true := by simp; omega
      obtain ⟨b, o, rfl, hbl, hcw, hdw⟩ := RU.at_' hr (k := k) (by have := hn'.out; omega)
      have hvx := vld_iff.1 (hvl.out (us.getD k (0,0)) (by rw [List.getD_eq_getElem?_getD, List.getElem?_eq_getElem (by have := hn'.out; omega)]; simp))
      have htk := Lib.hid (take_snoc us k (by have := hn'.out; omega))
      generalize us.getD k (0,0) = x at *
      obtain ⟨xa, xb⟩ := x
      dsimp only at hcw hdw hvx
      have hc := (hB.cell (p := ⟨b, o + k * 2, none⟩) hbl).trans hcw
      have hd := (hB.cell (p := ⟨b, o + k * 2 + 1, none⟩) hbl).trans hdw
      go_wp2_with fail
      go_loopw [3, 5] (fun v p wr => ∃ (j : Nat) (ys : List Int), (j : Int) ≤ xb ∧ p = .int .i64 (xa + j) ∧ Hid (ys = xs ++ pagesX (xa, xb) j) ∧ ys.length ≤ 1024 * k + j ∧ wr.ownsRow w.heap.size 3 1 v ys.length (ys.map (Value.int .i64)) ∧ Below w.heap.size w wr) (fun _ p _ => (xa + xb - intOf p).toNat)
      case atStart => exact ⟨0, xs, by omega, by simp, Lib.hid (by simp [pagesX]), by omega, hrow, hB⟩
      case round =>
        obtain ⟨j, ys, hj, rfl, hY, hyl, hrow, hB⟩ := hrel
        have hBs := hB.size
        have hc := (hB.cell (p := ⟨b, o + k * 2, none⟩) hbl).trans hcw
        have hd := (hB.cell (p := ⟨b, o + k * 2 + 1, none⟩) hbl).trans hdw
        have e1 := fun z : Ext wr => z.cell hc
        have e2 := fun z : Ext wr => z.cell hd
        by_cases hjx : (j : Int) < xb
        · have hj' : decide (xa + (j : Int) < xa + xb) = true := by simp; omega
          have hY2 : Hid (ys ++ [xa + (j : Int)] = xs ++ pagesX (xa, xb) (j + 1)) := Lib.hid (by rw [hY.out, pagesX_succ, List.append_assoc])
          go_upto_region 8 with fail
          refine region_ext (by kernel_rfl) (by kernel_rfl) ?_
          repeat (go_big_quiet_step (fail))
          refine wpQuiet_nil ?_
          rintro w2 ⟨⟨_, hw2⟩, rfl⟩
          have hrow2 := ownsRow_call hrow hw2
          have hB2 := hB.trans (hw2.mono hBs)
          have hBs2 := hB2.size
          have kN := Blk.new w2 3 #[.int .i64 (xa + (j : Int))]
          go_wp2_with (refine wpList_append_own _ rfl (.tmp 35) (.tmp 37) 59 rfl w.heap.size 3 i0 (.int .i64 0) 1 8 Try.underlying59 hi hz0 hz1 hz2 rfl (by decide) _ ys.length (ys.map (Value.int .i64)) rfl (hrow2.alloc _) ⟨w2.heap.size, 0, none⟩ 1 1 [.int .i64 (xa + (j : Int))] rfl rfl (news_i kN) ints_one (by unfold maxLen; omega) (by omega) (by simp; omega) ?_; intro v' w3 hown' hgrow _)
          go_roundw
          case rel => exact ⟨j + 1, ys ++ [xa + (j : Int)], by omega, by go_num, hY2, by simp; omega, by simpa using hown', (hB2.alloc hBs2 _).grown hgrow (by simp; omega) (fun i hi => (hrow2.lt i hi).1)⟩
          case measure => simp [intOf]; omega
        · have hj' : decide (xa + (j : Int) < xa + xb) = false := by simp; omega
          have hjx2 : xb.toNat = j := by omega
          have hX2 : Hid (ys = pagesOf (us.take (k + 1))) := Lib.hid (by rw [hY.out, hX.out, htk.out, pagesOf_append, pagesOf_cons, pagesOf_nil, List.append_nil]; rw [← hjx2])
          go_upto_region 8 with fail
          refine region_ext (by kernel_rfl) (by kernel_rfl) ?_
          repeat (go_big_quiet_step (fail))
          refine wpQuiet_nil ?_
          rintro w2 ⟨⟨_, hw2⟩, rfl⟩
          have hrow2 := ownsRow_call hrow hw2
          have hB2 := hB.trans (hw2.mono hBs)
          go_wp2_with fail
          go_roundw
          case rel => exact ⟨k + 1, ys, by omega, by simp, hX2, by omega, hrow2, hB2⟩
          case measure => simp [intOf]; omega
    · have hlt' : decide ((k : Int) < (n : Int)) = false := by simp; omega
      have hE : Hid (xs = L) := Lib.hid (by rw [hX.out, List.take_of_length_le (by have := hn'.out; omega)]; exact hL'.out)
      rw [hE.out] at hrow
      obtain ⟨A', cap', rfl, hri⟩ := own_RIx hrow rfl
      clear hX hxl hE
      go_wp2_with fail
      go_ret
      exact ⟨A', cap', rfl, hri, hB⟩
end Go.Proofs.Ytfmnlpgboolpmaa
