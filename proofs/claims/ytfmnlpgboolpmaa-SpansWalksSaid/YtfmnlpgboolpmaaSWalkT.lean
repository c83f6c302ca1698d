/- Walks: the reference's Pages (nothing where it is no set) and Pieces; the law's comparison of lists of numbers. -/
import Derived.Test.YtfmnlpgboolpmaaSSpecJ
import Derived.Test.YtfmnlpgboolpmaaSWalkR
namespace Go.Proofs.Ytfmnlpgboolpmaa
open Go Go.Proofs Go.RowKit Go.Pol Go.Shelf

/-- what hands back a list of numbers -/
def IntsL (w : World) (xs : List Int) (e : Ending) (w' : World) : Prop := ∃ (A : Option Addr) (cap : Nat), e = .returned (.slice A xs.length cap) ∧ RI w' w'.heap.size A xs ∧ Below w.heap.size w w'
theorem refPagesT_any (A : Option Addr) (n cap : Nat) (us : List Sp) (w : World) (hn : us.length = n) (hm : n ≤ maxLen) (hr : RU w w.heap.size A us) :
    Calls Try.prog 49 #[.slice A n cap] w (IntsL w (fsts (piecesF us 1))) := by
  by_cases hz : chkS us = 0
  · have h := chkS_zero.1 hz
    have e : fsts (piecesF us 1) = pagesOf us := pieces_one h
    exact refPages_any A n cap us w hn hm hr h _ e.symm
  · rw [show piecesF us 1 = [] from pieces_bad (fun h => hz h.1)]
    have HC := Lib.hid (refSpCheck_any A n cap us w hn hm hr)
    generalize chkS us = er at *
    have hz' : (er != 0) = true := by simpa using hz
    clear hz
    go_enter Try.func49, Try.ntmps49
    go_wp2_with (go_at_call 43; refine (HC.out).mono ?_; rintro e w1 ⟨rfl, hq⟩)
    go_ret
    exact ⟨none, 0, rfl, RI.nil, hq⟩

set_option maxRecDepth 100000 in
set_option maxHeartbeats 800000 in
/-- equal lists -/
theorem ints_any (A B : Option Addr) (n cap cap' : Nat) (xs : List Int) (w : World) (hn : xs.length = n) (hm : n ≤ 1000000) (hr : RI w w.heap.size A xs) (hs : RI w w.heap.size B xs) :
    Calls Try.prog 48 #[.slice A n cap, .slice B n cap'] w fun e w' => e = .returned (.bool true) ∧ Below w.heap.size w w' := by
  have hn' := Lib.hid hn
  clear hn
  have hne : ((n : Int) != n) = false := by simp
  go_enter Try.func48, Try.ntmps48
  go_wp2_with fail
  go_loopw [5] (fun i wr => ∃ k : Nat, k ≤ n ∧ i = .int .i64 k ∧ Below w.heap.size w wr) (fun i _ => n - (intOf i).toNat)
  case atStart => exact ⟨0, by omega, rfl, Below.refl _ _⟩
  case round =>
    obtain ⟨k, hk, rfl, hB⟩ := hrel
    by_cases hlt : k < n
    · have hlt' : decide ((k : Int) < (n : Int)) = true := by simp; omega
      obtain ⟨b, o, rfl, hbl, hc⟩ := (hr.below hB).at_ (k := k) (by have := hn'.out; omega)
      obtain ⟨b2, o2, rfl, hbl2, hc2⟩ := (hs.below hB).at_ (k := k) (by have := hn'.out; omega)
      generalize xs.getD k 0 = x at *
      have q1 := fun z : Ext wr => z.cell hc
      have q2 := fun z : Ext wr => z.cell hc2
      have hxx : (x != x) = false := by simp
      go_upto_region 6 with fail
      refine region_ext (by kernel_rfl) (by kernel_rfl) ?_
      repeat (go_big_quiet_step (fail))
      refine wpQuiet_nil ?_
      rintro w1 ⟨⟨_, hw1⟩, rfl⟩
      go_wp2_with fail
      go_roundw
      case rel => exact ⟨k + 1, by omega, by go_num, hB.trans (hw1.mono hB.size)⟩
      case measure => simp [intOf]; omega
    · have hlt' : decide ((k : Int) < (n : Int)) = false := by simp; omega
      go_wp2_with fail
      go_ret
      exact ⟨rfl, hB⟩

/-- the page before -/
def prevP (L : List Int) (k : Nat) : Int := if k = 0 then -2 else L.getD (k - 1) 0
theorem goP_step {L : List Int} {size : Int} {k : Nat} {out R : List Sp} (hk : k < L.length) (h : goP size (prevP L k) (L.drop k) out = R) :
    goP size (prevP L (k + 1)) (L.drop (k + 1)) (if L.getD k 0 = prevP L k + 1 ∧ L.getD k 0 % size ≠ 0 then bump out else out ++ [(L.getD k 0, 1)]) = R := by
  rw [drop_cons 0 L k hk, goP] at h
  have e : prevP L (k + 1) = L.getD k 0 := by unfold prevP; rw [if_neg (by omega)]; rfl
  rw [e]
  by_cases hc : L.getD k 0 = prevP L k + 1 ∧ L.getD k 0 % size ≠ 0
  · rw [if_pos hc] at h ⊢; exact h
  · rw [if_neg hc] at h ⊢; exact h

set_option maxRecDepth 100000 in
set_option maxHeartbeats 3200000 in
theorem refPieces_any (A : Option Addr) (n cap : Nat) (us : List Sp) (size : Int) (w : World) (hn : us.length = n) (hm : n ≤ maxLen) (hr : RU w w.heap.size A us) :
    Calls Try.prog 50 #[.slice A n cap, .int .i64 size] w (SpansO w (piecesF us size)) := by
  have HC := Lib.hid (refSpCheck_any A n cap us w hn hm hr)
  by_cases hz : chkS us = 0
  case neg =>
    rw [pieces_bad (fun h => hz h.1)]
    generalize chkS us = er at *
    have hz' : (er != 0) = true := by simpa using hz
    clear hz
    go_enter Try.func50, Try.ntmps50
    go_wp2_with fail
    refine (HC.out).mono ?_
    rintro e w1 ⟨rfl, hq⟩
    go_wp2_with fail
    go_ret
    exact ⟨none, 0, rfl, RU.nil, by simp, by unfold maxLen; omega, fun b o e => (by cases e), hq⟩
  rw [hz] at HC
  by_cases hs1 : size < 1
  · have hs1' : decide (size < 1) = true := by simpa using hs1
    rw [pieces_bad (fun h => by omega)]
    go_enter Try.func50, Try.ntmps50
    go_wp2_with fail
    refine (HC.out).mono ?_
    rintro e w1 ⟨rfl, hq⟩
    go_wp2_with fail
    go_ret
    exact ⟨none, 0, rfl, RU.nil, by simp, by unfold maxLen; omega, fun b o e => (by cases e), hq⟩
  have hs1' : decide (size < 1) = false := by simpa using hs1
  by_cases hs2 : 1024 < size
  · have hs2' : decide (1024 < size) = true := by simpa using hs2
    rw [pieces_bad (fun h => by omega)]
    go_enter Try.func50, Try.ntmps50
    go_wp2_with fail
    refine (HC.out).mono ?_
    rintro e w1 ⟨rfl, hq⟩
    go_wp2_with fail
    go_ret
    exact ⟨none, 0, rfl, RU.nil, by simp, by unfold maxLen; omega, fun b o e => (by cases e), hq⟩
  have hs2' : decide (1024 < size) = false := by simpa using hs2
  have hcan := chkS_zero.1 hz
  have hR := Lib.hid (ref_pieces (size := size) hcan ⟨by omega, by omega⟩)
  have hin := pages_in hcan.1
  have hL0 := pages_most hcan
  have HP := Lib.hid (fun W h => refPages_any A n cap us W hn hm h hcan _ rfl)
  generalize piecesF us size = R at *
  generalize pagesOf us = L at *
  obtain ⟨ll, hll⟩ : ∃ ll, L.length = ll := ⟨_, rfl⟩
  rw [hll] at HP hL0
  have hll' := Lib.hid hll
  have hin' := Lib.hid hin
  obtain ⟨i0, hi, hz0, hz1, hz2⟩ := infoSp_parts
  clear hz hcan hin hn hll
  go_enter Try.func50, Try.ntmps50
  go_wp2_with fail
  refine (HC.out).mono ?_
  rintro e w1 ⟨rfl, hb1⟩
  have r1 := hr.on hb1
  go_wp2_with fail
  refine (HP.out _ r1).mono ?_
  rintro e w2 ⟨A2, cap2, rfl, hri, hb2⟩
  have B2 := hb1.trans (hb2.mono hb1.size)
  clear HC HP hb1 hb2 r1 hr
  obtain ⟨s, hs⟩ : ∃ s, w2.heap.size = s := ⟨_, rfl⟩
  rw [hs] at hri
  have hsw : w.heap.size ≤ s := by rw [← hs]; exact B2.size
  go_wp2_with fail
  go_loopw [5, 7] (fun v i wr => ∃ (k : Nat) (out : List Sp), k ≤ ll ∧ i = .int .i64 k ∧ Hid (goP size (prevP L k) (L.drop k) out = R) ∧ (out.length ≤ k ∧ (0 < k → out ≠ []) ∧ ∀ x ∈ out, 1 ≤ x.2 ∧ x.2 ≤ k) ∧ wr.ownsRow s 40 2 v out.length (spCells out) ∧ Below s w2 wr) (fun _ i _ => ll - (intOf i).toNat)
  case atStart => exact ⟨0, [], by omega, rfl, Lib.hid (by rw [List.drop_zero]; exact hR.out), ⟨by simp, by omega, fun x hx => (by simp at hx)⟩, World.ownsRow_nil _ _ _ _, by rw [← hs]; exact Below.refl _ _⟩
  case round =>
    obtain ⟨k, out, hk, rfl, hG, ⟨ho1, ho2, ho3⟩, hrow, hB⟩ := hrel
    have hBs : s ≤ wr.heap.size := by rw [← hs]; exact hB.size
    by_cases hlt : k < ll
    · have hlt' : decide ((k : Int) < (ll : Int)) = true := by simp; omega
      have hst := goP_step (by have := hll'.out; omega) hG.out
      have hr1 := hri.below hB
      obtain ⟨b, o, rfl, hbl, hc⟩ := hr1.at_ (k := k) (by have := hll'.out; omega)
      have hp := hin'.out (L.getD k 0) (by rw [List.getD_eq_getElem?_getD, List.getElem?_eq_getElem (by have := hll'.out; omega)]; simp)
      clear hG
      by_cases hk0 : 0 < k
      case neg =>
        have hk0' : decide (0 < (k : Int)) = false := by simp; omega
        have hk0n : decide (0 < k) = false := by simp; omega
        rw [if_neg (fun h => by have h := h.1; unfold prevP at h; rw [if_pos (by omega)] at h; omega)] at hst
        have hG2 := Lib.hid hst
        clear hst
        generalize L.getD k 0 = p at *
        have q1 := fun z : Ext wr => z.cell hc
        go_upto_region 8 with fail
        refine region_ext (by kernel_rfl) (by kernel_rfl) ?_
        repeat (go_big_quiet_step (fail))
        refine wpQuiet_nil ?_
        rintro w3 ⟨⟨_, hw3⟩, rfl⟩
        have hrow3 := ownsRow_call hrow hw3
        have hB3 := hB.trans (hw3.mono hBs)
        have hBs3 := Nat.le_trans hBs hw3.size
        have hc3 := (hw3.cell (p := ⟨b, o + k, none⟩) (by show b < wr.heap.size; omega)).trans hc
        have kN := Blk.new w3 40 #[.int .i64 p, .int .i64 1]
        go_wp2_with (refine wpList_append_own _ rfl (.tmp 61) (.tmp 67) 36 rfl s 40 i0 (.agg #[.int .i64 0, .int .i64 0]) 2 16 Try.underlying36 hi hz0 hz1 hz2 rfl (by decide) _ out.length (spCells out) rfl (hrow3.alloc _) ⟨w3.heap.size, 0, none⟩ 1 1 [.int .i64 p, .int .i64 1] rfl rfl (news_two kN) news_one2 (by unfold maxLen; omega) (by omega) (by simp; omega) ?_; intro v' w4 hown' hgrow _; rw [← spCells_snoc out (p, 1)] at hown')
        go_roundw
        case rel => exact ⟨k + 1, out ++ [(p, 1)], by omega, by go_num, hG2, ⟨by simp; omega, fun _ => by simp, fun y hy => by
          rcases List.mem_append.1 hy with h | h
          · have := ho3 y h; omega
          · simp only [List.mem_singleton] at h; subst h; simp only; omega⟩, by simpa using hown', (hB3.alloc hBs3 _).grown hgrow (by simp; omega) (fun j hj => (hrow3.lt j hj).1)⟩
        case measure => simp [intOf]; omega
      case pos =>
        have hk0' : decide (0 < (k : Int)) = true := by simp; omega
        have hk0n : decide (0 < k) = true := by simp; omega
        obtain ⟨b', o', had, hbl2, hc2⟩ := hr1.at_ (k := k - 1) (by have := hll'.out; omega)
        obtain ⟨rfl, rfl⟩ : b = b' ∧ o = o' := by simpa using had
        clear had
        have hp2 := hin'.out (L.getD (k - 1) 0) (by rw [List.getD_eq_getElem?_getD, List.getElem?_eq_getElem (by have := hll'.out; omega)]; simp)
        have hpv : prevP L k = L.getD (k - 1) 0 := by unfold prevP; rw [if_neg (by omega)]
        rw [hpv] at hst
        clear hpv
        have htm : Int.tmod (L.getD k 0) size = L.getD k 0 % size := Int.tmod_eq_emod_of_nonneg (by omega)
        have dz : (size == 0) = false := by simp; omega
        by_cases hc0 : L.getD k 0 = L.getD (k - 1) 0 + 1
        case neg =>
          have hc0' : (L.getD k 0 == L.getD (k - 1) 0 + 1) = false := by simpa using hc0
          rw [if_neg (fun h => hc0 h.1)] at hst
          have hG2 := Lib.hid hst
          clear hst hc0
          generalize L.getD (k - 1) 0 = pv at *
          generalize L.getD k 0 = p at *
          have q1 := fun z : Ext wr => z.cell hc
          have q2 := fun z : Ext wr => z.cell hc2
          go_upto_region 8 with fail
          refine region_ext (by kernel_rfl) (by kernel_rfl) ?_
          repeat (go_big_quiet_step (fail))
          refine wpQuiet_nil ?_
          rintro w3 ⟨⟨_, hw3⟩, rfl⟩
          have hrow3 := ownsRow_call hrow hw3
          have hB3 := hB.trans (hw3.mono hBs)
          have hBs3 := Nat.le_trans hBs hw3.size
          have hc3 := (hw3.cell (p := ⟨b, o + k, none⟩) (by show b < wr.heap.size; omega)).trans hc
          have kN := Blk.new w3 40 #[.int .i64 p, .int .i64 1]
          go_wp2_with (refine wpList_append_own _ rfl (.tmp 61) (.tmp 67) 36 rfl s 40 i0 (.agg #[.int .i64 0, .int .i64 0]) 2 16 Try.underlying36 hi hz0 hz1 hz2 rfl (by decide) _ out.length (spCells out) rfl (hrow3.alloc _) ⟨w3.heap.size, 0, none⟩ 1 1 [.int .i64 p, .int .i64 1] rfl rfl (news_two kN) news_one2 (by unfold maxLen; omega) (by omega) (by simp; omega) ?_; intro v' w4 hown' hgrow _; rw [← spCells_snoc out (p, 1)] at hown')
          go_roundw
          case rel => exact ⟨k + 1, out ++ [(p, 1)], by omega, by go_num, hG2, ⟨by simp; omega, fun _ => by simp, fun y hy => by
            rcases List.mem_append.1 hy with h | h
            · have := ho3 y h; omega
            · simp only [List.mem_singleton] at h; subst h; simp only; omega⟩, by simpa using hown', (hB3.alloc hBs3 _).grown hgrow (by simp; omega) (fun j hj => (hrow3.lt j hj).1)⟩
          case measure => simp [intOf]; omega
        case pos =>
          have hc0' : (L.getD k 0 == L.getD (k - 1) 0 + 1) = true := by simpa using hc0
          by_cases hc1 : L.getD k 0 % size = 0
          · rw [if_neg (fun h => h.2 hc1)] at hst
            rw [hc1] at htm
            have hG2 := Lib.hid hst
            clear hst hc0 hc1
            generalize L.getD (k - 1) 0 = pv at *
            generalize L.getD k 0 = p at *
            have q1 := fun z : Ext wr => z.cell hc
            have q2 := fun z : Ext wr => z.cell hc2
            go_upto_region 8 with fail
            refine region_ext (by kernel_rfl) (by kernel_rfl) ?_
            repeat (go_big_quiet_step (fail))
            refine wpQuiet_nil ?_
            rintro w3 ⟨⟨_, hw3⟩, rfl⟩
            have hrow3 := ownsRow_call hrow hw3
            have hB3 := hB.trans (hw3.mono hBs)
            have hBs3 := Nat.le_trans hBs hw3.size
            have hc3 := (hw3.cell (p := ⟨b, o + k, none⟩) (by show b < wr.heap.size; omega)).trans hc
            have kN := Blk.new w3 40 #[.int .i64 p, .int .i64 1]
            go_wp2_with (refine wpList_append_own _ rfl (.tmp 61) (.tmp 67) 36 rfl s 40 i0 (.agg #[.int .i64 0, .int .i64 0]) 2 16 Try.underlying36 hi hz0 hz1 hz2 rfl (by decide) _ out.length (spCells out) rfl (hrow3.alloc _) ⟨w3.heap.size, 0, none⟩ 1 1 [.int .i64 p, .int .i64 1] rfl rfl (news_two kN) news_one2 (by unfold maxLen; omega) (by omega) (by simp; omega) ?_; intro v' w4 hown' hgrow _; rw [← spCells_snoc out (p, 1)] at hown')
            go_roundw
            case rel => exact ⟨k + 1, out ++ [(p, 1)], by omega, by go_num, hG2, ⟨by simp; omega, fun _ => by simp, fun y hy => by
              rcases List.mem_append.1 hy with h | h
              · have := ho3 y h; omega
              · simp only [List.mem_singleton] at h; subst h; simp only; omega⟩, by simpa using hown', (hB3.alloc hBs3 _).grown hgrow (by simp; omega) (fun j hj => (hrow3.lt j hj).1)⟩
            case measure => simp [intOf]; omega
          · rw [if_pos ⟨hc0, hc1⟩] at hst
            have hne0 : (L.getD k 0 % size != 0) = true := by simpa using hc1
            clear hc0 hc1
            generalize L.getD (k - 1) 0 = pv at *
            generalize L.getD k 0 = p at *
            generalize p % size = pm at *
            have q1 := fun z : Ext wr => z.cell hc
            have q2 := fun z : Ext wr => z.cell hc2
            go_upto_region 8 with fail
            refine region_ext (by kernel_rfl) (by kernel_rfl) ?_
            repeat (go_big_quiet_step (fail))
            refine wpQuiet_nil ?_
            rintro w3 ⟨⟨_, hw3⟩, rfl⟩
            obtain ⟨r, x, hrx⟩ : ∃ r x, out = r ++ [x] := by
              rcases List.eq_nil_or_concat out with h | ⟨r, x, h⟩
              · exact absurd h (ho2 hk0)
              · exact ⟨r, x, by rw [h, List.concat_eq_append]⟩
            subst hrx
            rw [bump_snoc] at hst
            have hG2 := Lib.hid hst
            have hwx := ho3 x (by simp)
            have ho4 : ∀ y ∈ r ++ [(x.1, x.2 + 1)], 1 ≤ y.2 ∧ y.2 ≤ ((k + 1 : Nat) : Int) := fun y hy => by
              rcases List.mem_append.1 hy with h | h
              · have := ho3 y (by simp [h]); omega
              · simp only [List.mem_singleton] at h; subst h; simp only; omega
            clear ho3 hst
            obtain ⟨xa, xb⟩ := x
            dsimp only at hwx hG2 ho4
            rw [List.length_append, List.length_singleton] at hrow ho1
            have hrow3 := ownsRow_call hrow hw3
            have hB3 := hB.trans (hw3.mono hBs)
            obtain ⟨g, cap3, rfl⟩ := ownsRow_succ hrow3
            have hgb := (hrow3.lt g rfl).1
            have hcx : w3.cell? ⟨g, r.length * 2 + 1, none⟩ = some (.int .i64 xb) := by
              rw [hrow3.cellAt _ (by omega), spCells_snoc, List.getElem?_append_right (by rw [spCells_len]; omega), spCells_len]
              simp
            have hfx := hrow3.frozenAt (r.length * 2 + 1)
            obtain ⟨hst, hgr⟩ := hrow3.stored (r.length * 2 + 1) (.int .i64 (xb + 1))
            rw [spCells_set] at hst
            obtain ⟨rl, hrl⟩ : ∃ rl, r.length = rl := ⟨_, rfl⟩
            rw [hrl] at hcx hfx hst hgr ho1 ⊢
            have hrl' := Lib.hid hrl
            clear hrl hrow hrow3
            go_wp2_with fail
            go_roundw
            case rel => exact ⟨k + 1, r ++ [(xa, xb + 1)], by omega, by go_num, hG2, ⟨by simp; have := hrl'.out; omega, fun _ => by simp, ho4⟩, by simpa [hrl'.out] using hst, hB3.grown hgr (Nat.le_trans hBs hw3.size) (fun j hj => by cases hj; omega)⟩
            case measure => simp [intOf]; omega
    · have hlt' : decide ((k : Int) < (ll : Int)) = false := by simp; omega
      have hE : Hid (out = R) := Lib.hid (by rw [← hG.out, List.drop_eq_nil_of_le (by have := hll'.out; omega)]; rfl)
      rw [hE.out] at hrow
      obtain ⟨A', cap', rfl, hru, h1, h2, h3, _⟩ := own_RU hrow rfl
      go_wp2_with fail
      go_ret
      exact ⟨A', cap', rfl, hru, h1, h2, fun b o e => by have := h3 b o e; omega, B2.trans (hB.mono hsw)⟩
end Go.Proofs.Ytfmnlpgboolpmaa
