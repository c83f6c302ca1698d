/- Walks of layer 6: where, Read, Write. -/
import Derived.Test.YtjmmgoijnhnnaaaGreatT25
namespace Go.Pol
open Go Go.RowKit
end Go.Pol
namespace Go.Proofs.YtjmmgoijnhnnaaaGreat
open Go Go.Proofs Go.RowKit Go.Pol Go.Shelf
attribute [local go_sem] Oper.semAt_some Go.Pol.wide_fn Go.Pol.wide_depth Go.Pol.wide_fn' Go.Pol.wide_depth'
theorem read_any (b : Nat) (a : Int) (V : Vm) (w : World) (hV : SysIs w b V) :
  Calls Tryz.prog 16 #[.pointer (some ⟨b, 0, none⟩), .int .i64 a] w fun e w' => e = .returned (.tuple #[.int .u8 (if whF V a = 0 then (V.pg (a / 64).toNat).byt (a % 64).toNat else 0), .int .i64 (whF V a)]) ∧ w' = w := by
 have HW := Lib.hid (where_any b a V w hV)
 unfold whP at HW
 obtain ⟨R, hR⟩ : ∃ R, whF V a = R := ⟨_, rfl⟩
 rw [hR] at HW ⊢
 by_cases c0 : R = 0
 ·subst c0
  rw [if_pos rfl] at HW ⊢
  have ha : ¬ (a < 0 ∨ 65536 ≤ a) := fun hc => by unfold whF at hR; rw [if_pos hc] at hR; omega
  have hq : (a / 64).toNat < 1024 := by omega
  have hk : (a % 64).toNat < 64 := by omega
  generalize (a / 64).toNat = q at *
  generalize (a % 64).toNat = k at *
  obtain ⟨cs, A, n, cap, hkb, hc, _⟩ := hV.ex
  have e1 := (hkb.cell (1 + q * 66 + (k + 2))).trans (hc.byte hq hk)
  rw [show 1 + q * 66 + (k + 2) = 1 + q * 66 + 2 + k by omega] at e1
  generalize (V.pg q).byt k = x at *
  clear hkb hc hV hR ha
  go_enter Tryz.func16, Tryz.ntmps16
  go_wp2_with fail
  refine HW.out.mono ?_
  rintro e9 w9 ⟨rfl, hw9⟩
  replace hw9 := hw9.symm
  subst hw9
  go_wp2_with fail
  go_ret2
  exact ⟨rfl, rfl⟩
 ·rw [if_neg c0] at HW ⊢
  have d0 : (R != 0) = true := by simpa using c0
  clear hR hV
  go_enter Tryz.func16, Tryz.ntmps16
  go_wp2_with fail
  refine HW.out.mono ?_
  rintro e9 w9 ⟨rfl, hw9⟩
  replace hw9 := hw9.symm
  subst hw9
  go_wp2_with fail
  go_ret2
  exact ⟨rfl, rfl⟩
end Go.Proofs.YtjmmgoijnhnnaaaGreat
