/- Walks: of: spans sorted by their first pages and joined. -/
import Derived.Test.YtfmnlpgboolpmaaGWalkV
import Derived.Test.YtfmnlpgboolpmaaGWalkL
namespace Go.Proofs.Ytfmnlpgboolpmaa
open Go Go.Proofs Go.RowKit Go.Pol

def ofF (us : List Sp) : List Sp := us.foldl joinF []
theorem joinF_vld {xs : List Sp} {x : Sp} (hxs : ∀ y ∈ xs, vld y = true) (hx : vld x = true) : ∀ y ∈ joinF xs x, vld y = true := by
  rcases List.eq_nil_or_concat xs with rfl | ⟨pre, l, rfl⟩
  · rw [joinF_nil]; simpa using hx
  · rw [List.concat_eq_append] at *
    rw [joinF_snoc]
    have hl := vld_iff.1 (hxs l (by simp))
    have hx' := vld_iff.1 hx
    split
    · intro y hy
      rcases List.mem_append.1 hy with h | h
      · exact hxs y (by simp [h])
      · simp only [List.mem_singleton] at h
        subst h
        exact vld_iff.2 (by simp only; omega)
    · intro y hy
      rcases List.mem_append.1 hy with h | h
      · exact hxs y h
      · simp only [List.mem_singleton] at h
        subst h
        exact hx
theorem joinF_len (xs : List Sp) (x : Sp) : (joinF xs x).length ≤ xs.length + 1 := by
  rcases List.eq_nil_or_concat xs with rfl | ⟨pre, l, rfl⟩
  · simp [joinF_nil]
  · rw [List.concat_eq_append, joinF_snoc]
    split <;> simp
theorem ofF_snoc (us : List Sp) (x : Sp) : ofF (us ++ [x]) = joinF (ofF us) x := by simp [ofF]

set_option maxRecDepth 100000 in
set_option maxHeartbeats 1600000 in
theorem of_any (base : Nat) (v : Value) (us : List Sp) (w : World) (hv : ∀ y ∈ us, vld y = true) (hlen : us.length ≤ 100000) (hbase : base ≤ w.heap.size)
    (HS : Calls Try.prog 107 #[v, .func (.func 108) #[] #[]] w fun e w' => e = .returned (.tuple #[]) ∧ ∃ us' : List Sp, us'.Perm us ∧ us'.Pairwise (fun a b => a.1 ≤ b.1) ∧ w'.ownsRow base 40 2 v us.length (spCells us') ∧ Below base w w') 
    (hrow : w.ownsRow base 40 2 v us.length (spCells us)) :
    Calls Try.prog 82 #[v] w fun e w' => ∃ (us' : List Sp) (v' : Value), us'.Perm us ∧ us'.Pairwise (fun a b => a.1 ≤ b.1) ∧ e = .returned v' ∧ w'.ownsRow w.heap.size 40 2 v' (ofF us').length (spCells (ofF us')) ∧ Below base w w' := by
  obtain ⟨A, cap, rfl⟩ := own_nil_iff hrow rfl
  go_enter Try.func82, Try.ntmps82
  go_wp2_with fail
  refine HS.mono ?_
  rintro e w1 ⟨rfl, us', hp, hs, hrow1, hb1⟩
  have hv' : ∀ y ∈ us', vld y = true := fun y hy => hv y (hp.mem_iff.1 hy)
  have hn := hp.length_eq
  obtain ⟨n, hn0⟩ : ∃ n, us.length = n := ⟨_, rfl⟩
  rw [hn0] at hrow1 hn hlen ⊢
  have hn' := Lib.hid hn
  clear hn hn0 HS hrow hv
  have hws := hb1.size
  have hb1s := hb1.size
  go_wp2_with fail
  go_loopw [3, 10] (fun v i wr => ∃ k : Nat, k ≤ n ∧ i = .int .i64 k ∧ wr.ownsRow w1.heap.size 40 2 v (ofF (us'.take k)).length (spCells (ofF (us'.take k))) ∧ Below w1.heap.size w1 wr ∧ Hid ((∀ y ∈ ofF (us'.take k), vld y = true) ∧ (ofF (us'.take k)).length ≤ k)) (fun _ i _ => n - (intOf i).toNat)
  case atStart => exact ⟨0, by omega, rfl, by simpa [ofF, spCells] using World.ownsRow_nil _ _ _ _, Below.refl _ _, Lib.hid ⟨by simp [ofF], by simp [ofF]⟩⟩
  case round =>
    obtain ⟨k, hk, rfl, hrow2, hB, hH⟩ := hrel
    by_cases hlt : k < n
    · have hlt' : decide ((k : Int) < (n : Int)) = true := by simpa using hlt
      have hr := ownsRow_call hrow1 hB
      obtain ⟨g, cap', e, _⟩ := hr.form (by omega)
      cases e
      have hg := hrow1.lt g rfl
      have hca := hr.cellAt (k * 2) (by omega)
      have hcb := hr.cellAt (k * 2 + 1) (by omega)
      have hat := spCells_at us' k (by have := hn'.out; omega)
      rw [hat.1] at hca
      rw [hat.2] at hcb
      have hvx := hv' (us'.getD k (0,0)) (by rw [List.getD_eq_getElem?_getD, List.getElem?_eq_getElem (by have := hn'.out; omega)]; simp)
      have htk := Lib.hid (take_snoc us' k (by have := hn'.out; omega))
      clear hat hr
      generalize us'.getD k (0,0) = x at *
      have hxb := vld_iff.1 hvx
      have hstep : Hid (ofF (us'.take (k + 1)) = joinF (ofF (us'.take k)) x) := Lib.hid (by rw [htk.out, ofF_snoc])
      have hH2 : Hid ((∀ y ∈ joinF (ofF (us'.take k)) x, vld y = true) ∧ (joinF (ofF (us'.take k)) x).length ≤ k + 1) := Lib.hid ⟨joinF_vld hH.out.1 hvx, by have := joinF_len (ofF (us'.take k)) x; have := hH.out.2; omega⟩
      have HJ := Lib.hid (fun (W : World) (v : Value) (hW : w1.heap.size ≤ W.heap.size) (h : W.ownsRow w1.heap.size 40 2 v (ofF (us'.take k)).length (spCells (ofF (us'.take k)))) => join_any w1.heap.size v (ofF (us'.take k)) x W (by omega) (fun y hy => by have := vld_iff.1 (hH.out.1 y hy); omega) (by have := hH.out.2; omega) hW h)
      generalize ofF (us'.take k) = L at *
      obtain ⟨xa, xb⟩ := x
      dsimp only at hca hcb HJ
      clear htk hvx hxb hH
      have hBs := hB.size
      go_wp2_with fail
      refine (HJ.out _ _ (by simp; omega) (hrow2.alloc _)).mono ?_
      rintro e w2 ⟨v', rfl, hrow3, hb3⟩
      go_wp2_with fail
      go_roundw
      case rel => exact ⟨k + 1, by omega, by go_num, by rw [hstep.out]; exact hrow3, (hB.alloc hBs _).trans hb3, by rw [hstep.out]; exact hH2⟩
      case measure => simp [intOf]; omega
    · obtain rfl : k = n := by omega
      have hlt' : decide ((k : Int) < (k : Int)) = false := by simp
      have hT : us'.take k = us' := List.take_of_length_le (by have := hn'.out; omega)
      rw [hT] at hrow2
      obtain ⟨A', cap', rfl⟩ := own_nil_iff hrow2 rfl
      go_wp2_with fail
      go_ret
      exact ⟨us', _, hp, hs, rfl, ownsRow_base hrow2 hws, hb1.trans (hB.mono (Nat.le_trans hbase hws))⟩
end Go.Proofs.Ytfmnlpgboolpmaa
