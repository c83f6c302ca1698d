/- Walks: the reference's set of marked pages. -/
import Derived.Test.YtfmnlpgboolpmaaGWalkD
namespace Go.Pol
open Go Go.RowKit
/-- an array of marks reads as a function -/
structure MarksAre (cs : Array Value) (f : Nat → Bool) : Prop where
  size : cs.size = 1024
  at_ : ∀ k, k < 1024 → cs[k]? = some (.bool (f k))
theorem form_len2 : ∀ (s : List Sp) (e : Int) (m : Int), (∀ x ∈ s, 1 ≤ x.2 ∧ x.1 + x.2 ≤ m) → formOk e s = true → e ≤ m → (s.length : Int) ≤ m - e
  | [], e, m, _, _, h => by simp; omega
  | x :: r, e, m, hw, hf, _ => by
    have hf' := formOk_cons.1 hf
    have hx := hw x (by simp)
    have := form_len2 r (x.1 + x.2) m (fun y hy => hw y (by simp [hy])) hf'.2 hx.2
    simp only [List.length_cons]
    omega
theorem spCells_set (r : List Sp) (x : Sp) (y : Int) : (spCells (r ++ [x])).set (r.length * 2 + 1) (.int .i64 y) = spCells (r ++ [(x.1, y)]) := by
  rw [spCells_snoc, spCells_snoc]
  have : r.length * 2 + 1 = (spCells r).length + 1 := by rw [spCells_len]
  rw [this, List.set_append_right _ _ (by omega)]
  simp
end Go.Pol
namespace Go.Proofs.Ytfmnlpgboolpmaa
open Go Go.Proofs Go.RowKit Go.Pol

/-- what hands back a slice of spans -/
def SpansO (w : World) (us : List Sp) (e : Ending) (w' : World) : Prop :=
  ∃ (A : Option Addr) (cap : Nat), e = .returned (.slice A us.length cap) ∧ RU w' w'.heap.size A us ∧ us.length ≤ cap ∧ cap ≤ maxLen ∧ (∀ b o, A = some ⟨b, o, none⟩ → w.heap.size ≤ b) ∧ Below w.heap.size w w'

set_option maxRecDepth 100000 in
set_option maxHeartbeats 1600000 in
theorem refSet_any (cs : Array Value) (f : Nat → Bool) (w : World) (hm : MarksAre cs f) :
    Calls Try.prog 91 #[.agg cs] w (SpansO w (setA f)) := by
  obtain ⟨i0, hi, hz0, hz1, hz2⟩ := infoSp_parts
  have hb0 := (Below.refl w.heap.size w).alloc (Nat.le_refl _) (.cells cs 103)
  have kM := Blk.new w 103 cs
  have hcs := Lib.hid hm.at_
  have hcz := hm.size
  have hok := Lib.hid (fun p => setF_ok f p)
  have hA : Hid (setA f = setF f 1024) := Lib.hid rfl
  obtain ⟨SA, hSA⟩ : ∃ S, setA f = S := ⟨_, rfl⟩
  rw [hSA]
  have hSA' := Lib.hid hSA
  clear hSA hm
  go_enter Try.func91, Try.ntmps91
  go_wp2_with fail
  go_loopw [3, 4] (fun v i wr => ∃ k : Nat, k ≤ 1024 ∧ i = .int .i64 k ∧ wr.ownsRow (w.heap.size + 1) 40 2 v (setF f k).length (spCells (setF f k)) ∧ Blk wr w.heap.size 103 cs ∧ Below w.heap.size w wr) (fun _ i _ => 1024 - (intOf i).toNat)
  case atStart => exact ⟨0, by omega, rfl, World.ownsRow_nil _ _ _ _, kM, hb0⟩
  case round =>
    obtain ⟨k, hk, rfl, hrow, kW, hB⟩ := hrel
    have hBs := hB.size
    have hwl := kW.lt
    by_cases hlt : k < 1024
    · have hlt' : decide ((k : Int) < 1024) = true := by simp; omega
      have hck : wr.cell? ⟨w.heap.size, k, none⟩ = some (.bool (f k)) := by rw [kW.cell]; exact hcs.out k hlt
      have hstep := Lib.hid (show setF f (k + 1) = _ from rfl)
      have hl512 : (setF f k).length ≤ 1024 := by
        have := (hok.out k)
        have h := form_len2 (setF f k) (-1) k (fun x hx => ⟨(this.wid x hx).2.1, (this.wid x hx).2.2⟩) this.form (by omega)
        omega
      cases hfk : f k with
      | false =>
        rw [hfk] at hck
        have hS : Hid (setF f (k + 1) = setF f k) := Lib.hid (by rw [setF, if_neg (by simp [hfk])])
        go_wp2_with fail
        go_roundw
        case rel => exact ⟨k + 1, by omega, by simp, by rw [hS.out]; exact hrow, kW, hB⟩
        case measure => simp [intOf]; omega
      | true =>
        rw [hfk] at hck
        by_cases hk0 : 0 < k
        case neg =>
          have hk0' : decide (0 < (k : Int)) = false := by simp; omega
          have hk0n : decide (0 < k) = false := by simp; omega
          have hS : Hid (setF f (k + 1) = setF f k ++ [((k : Int), 1)]) := Lib.hid (by rw [setF, if_pos hfk, if_neg (by simp; omega)])
          have kN := Blk.new wr 40 #[.int .i64 (k : Int), .int .i64 1]
          go_wp2_with (refine wpList_append_own _ rfl (.tmp 9) (.tmp 12) 36 rfl (w.heap.size + 1) 40 i0 (.agg #[.int .i64 0, .int .i64 0]) 2 16 Try.underlying36 hi hz0 hz1 hz2 rfl (by decide) _ (setF f k).length (spCells (setF f k)) rfl (hrow.alloc _) ⟨wr.heap.size, 0, none⟩ 1 1 [.int .i64 (k : Int), .int .i64 1] rfl rfl (news_two kN) news_one2 (by unfold maxLen; omega) (by omega) (by simp; omega) ?_; intro v' w1 hown' hgrow _; rw [← spCells_snoc (setF f k) ((k : Int), 1), ← hS.out] at hown')
          have hne1 := (hrow.alloc (.cells #[.int .i64 (k : Int), .int .i64 1] 40)).lt
          go_roundw
          case rel => exact ⟨k + 1, by omega, by simp, by rw [show (setF f (k + 1)).length = (setF f k).length + 1 by rw [hS.out]; simp]; exact hown', (kW.alloc _).grown hgrow (fun e => by have := (hrow.lt _ e.symm).1; omega), (hB.alloc hBs _).grown hgrow (by simp; omega) (fun j hj => by have := (hrow.lt j hj).1; omega)⟩
          case measure => simp [intOf]; omega
        case pos =>
          have hk0' : decide (0 < (k : Int)) = true := by simp; omega
          have hk0n : decide (0 < k) = true := by simp; omega
          have hkp : wr.cell? ⟨w.heap.size, k - 1, none⟩ = some (.bool (f (k - 1))) := by rw [kW.cell]; exact hcs.out (k - 1) (by omega)
          cases hfp : f (k - 1) with
          | false =>
            rw [hfp] at hkp
            have hS : Hid (setF f (k + 1) = setF f k ++ [((k : Int), 1)]) := Lib.hid (by rw [setF, if_pos hfk, if_neg (by simp [hfp])])
            have kN := Blk.new wr 40 #[.int .i64 (k : Int), .int .i64 1]
            go_wp2_with (refine wpList_append_own _ rfl (.tmp 9) (.tmp 12) 36 rfl (w.heap.size + 1) 40 i0 (.agg #[.int .i64 0, .int .i64 0]) 2 16 Try.underlying36 hi hz0 hz1 hz2 rfl (by decide) _ (setF f k).length (spCells (setF f k)) rfl (hrow.alloc _) ⟨wr.heap.size, 0, none⟩ 1 1 [.int .i64 (k : Int), .int .i64 1] rfl rfl (news_two kN) news_one2 (by unfold maxLen; omega) (by omega) (by simp; omega) ?_; intro v' w1 hown' hgrow _; rw [← spCells_snoc (setF f k) ((k : Int), 1), ← hS.out] at hown')
            have hne1 := (hrow.alloc (.cells #[.int .i64 (k : Int), .int .i64 1] 40)).lt
            go_roundw
            case rel => exact ⟨k + 1, by omega, by simp, by rw [show (setF f (k + 1)).length = (setF f k).length + 1 by rw [hS.out]; simp]; exact hown', (kW.alloc _).grown hgrow (fun e => by have := (hrow.lt _ e.symm).1; omega), (hB.alloc hBs _).grown hgrow (by simp; omega) (fun j hj => by have := (hrow.lt j hj).1; omega)⟩
            case measure => simp [intOf]; omega
          | true =>
            rw [hfp] at hkp
            obtain ⟨r, x, hrx, hxe⟩ := (hok.out k).last hk0 hfp
            have hwx := (hok.out k).wid x (by rw [hrx]; simp)
            have hS : Hid (setF f (k + 1) = r ++ [(x.1, x.2 + 1)]) := Lib.hid (by rw [setF, if_pos hfk, if_pos (by simp [hfp]; omega), hrx, bump_snoc])
            rw [hrx] at hrow hl512
            clear hrx hstep
            obtain ⟨xa, xb⟩ := x
            dsimp only at hwx hxe
            rw [List.length_append, List.length_singleton] at hrow hl512
            obtain ⟨g, cap, rfl⟩ := ownsRow_succ hrow
            have hgb := (hrow.lt g rfl).1
            have hcx : wr.cell? ⟨g, r.length * 2 + 1, none⟩ = some (.int .i64 xb) := by
              rw [hrow.cellAt _ (by omega), spCells_snoc, List.getElem?_append_right (by rw [spCells_len]; omega), spCells_len]
              simp
            have hfx := hrow.frozenAt (r.length * 2 + 1)
            obtain ⟨hst, hgr⟩ := hrow.stored (r.length * 2 + 1) (.int .i64 (xb + 1))
            rw [spCells_set] at hst
            obtain ⟨rl, hrl⟩ : ∃ rl, r.length = rl := ⟨_, rfl⟩
            rw [hrl] at hcx hfx hst hgr hl512 ⊢
            have hrl' := Lib.hid hrl
            clear hrl hrow
            go_wp2_with fail
            go_roundw
            case rel => exact ⟨k + 1, by omega, by simp, by rw [hS.out]; simpa [hrl'.out] using hst, kW.grown hgr (fun e => by cases e; omega), hB.grown hgr hBs (fun j hj => by cases hj; omega)⟩
            case measure => simp [intOf]; omega
    · obtain rfl : k = 1024 := by omega
      obtain ⟨A, cap, rfl, hru, h1, h2, h3, _⟩ := own_RU hrow rfl
      have hE : Hid (SA = setF f 1024) := Lib.hid (by rw [← hSA'.out]; rfl)
      go_wp2_with fail
      go_ret
      rw [hE.out]
      exact ⟨A, cap, rfl, hru, h1, h2, fun b o e => by have := h3 b o e; omega, hB⟩
end Go.Proofs.Ytfmnlpgboolpmaa
