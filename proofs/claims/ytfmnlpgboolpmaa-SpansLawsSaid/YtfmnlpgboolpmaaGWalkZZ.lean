/- Walk: the program's Union of two sets. -/
import Derived.Test.YtfmnlpgboolpmaaGWalkZ
namespace Go.Proofs.Ytfmnlpgboolpmaa
open Go Go.Proofs Go.RowKit Go.Pol

set_option maxHeartbeats 1600000 in
theorem union_any (A1 A2 : Option Addr) (n1 c1 n2 c2 : Nat) (us vs : List Sp) (w : World) (hn1 : us.length = n1) (hm1 : n1 ≤ c1) (hc1 : c1 ≤ maxLen) (hr1 : RU w w.heap.size A1 us) (hn2 : vs.length = n2) (hm2 : n2 ≤ c2) (hc2 : c2 ≤ maxLen) (hr2 : RU w w.heap.size A2 vs)
    (hz1 : A1 = none → c1 = 0) (hz2 : A2 = none → c2 = 0) (hU : Go.Pol.Can us) (hV : Go.Pol.Can vs) :
    Calls Try.prog 36 #[.slice A1 n1 c1, .slice A2 n2 c2] w fun e w' => ∃ (us' : List Sp) (A : Option Addr) (cap : Nat), us'.Perm (us ++ vs) ∧ us'.Pairwise (fun a b => a.1 ≤ b.1) ∧ e = .returned (.tuple #[.slice A (ofF us').length cap, .int .i64 0]) ∧
      RU w' w'.heap.size A (ofF us') ∧ (ofF us').length ≤ cap ∧ cap ≤ maxLen ∧ Below w.heap.size w w' := by
  have hb0 := (Below.refl w.heap.size w).alloc (Nat.le_refl _) (.cells #[.slice A1 n1 c1, .slice A2 n2 c2] 36)
  have k0 := Blk.new w 36 #[.slice A1 n1 c1, .slice A2 n2 c2]
  have r1 := hr1.on ((Below.refl w.heap.size w).alloc (Nat.le_refl _) (.cells #[.slice A1 n1 c1, .slice A2 n2 c2] 36))
  have r2 := hr2.on ((Below.refl w.heap.size w).alloc (Nat.le_refl _) (.cells #[.slice A1 n1 c1, .slice A2 n2 c2] 36))
  have HC := Lib.hid (check2_any A1 A2 n1 c1 n2 c2 us vs w.heap.size _ hn1 (Nat.le_trans hm1 hc1) r1 hn2 (Nat.le_trans hm2 hc2) r2 k0)
  rw [chkS_zero.2 hU, chkS_zero.2 hV, if_pos rfl] at HC
  have hl1 := hU.len
  have hl2 := hV.len
  have hv : ∀ y ∈ us ++ vs, vld y = true := fun y hy => by
    rcases List.mem_append.1 hy with h | h
    · exact hU.1 y h
    · exact hV.1 y h
  clear hr1 hr2
  go_enter Try.func36, Try.ntmps36
  go_wp2_with fail
  refine HC.out.mono ?_
  rintro e w1 ⟨rfl, hb1⟩
  have B1 := hb0.trans (hb1.mono hb0.size)
  have r3 := r1.on hb1
  have r4 := r2.on hb1
  clear HC k0 r1 r2
  have hbX := (Below.refl w1.heap.size w1).alloc (Nat.le_refl _) (.cells #[.slice A1 n1 c1, .slice A2 n2 c2] 36)
  have kX := Blk.new w1 36 #[.slice A1 n1 c1, .slice A2 n2 c2]
  have HK := Lib.hid (concat2_any A1 A2 n1 c1 n2 c2 us vs w1.heap.size _ hn1 (by omega) (r3.on hbX) hn2 (by omega) (r4.on hbX) hz1 hz2 kX)
  have B2 := B1.trans (hbX.mono B1.size)
  go_wp2_with fail
  refine HK.out.mono ?_
  rintro e w2 ⟨v, rfl, hrow, hb2⟩
  have B3 := B2.trans (hb2.mono B2.size)
  have HO := Lib.hid (of'_any _ v (us ++ vs) w2 hv (by rw [List.length_append]; omega) hb2.size hrow)
  go_wp2_with fail
  refine HO.out.mono ?_
  rintro e w3 ⟨us', v', hp, hs, rfl, hrow3, hb3⟩
  have B4 := B3.trans (hb3.mono B2.size)
  obtain ⟨A, cap, rfl, hru, h1, h2, _, _⟩ := own_RU hrow3 rfl
  go_wp2_with fail
  go_ret2
  exact ⟨us', A, cap, hp, hs, rfl, hru, h1, h2, B4⟩
end Go.Proofs.Ytfmnlpgboolpmaa
