/- The sort of spans at whatever length; of of whatever valid spans of the call's own. -/
import Derived.Shelf.SlSortCmp.NoneTotal
import Derived.Test.YtfmnlpgboolpmaaGWalkX
namespace Go.Proofs.Ytfmnlpgboolpmaa
open Go Go.Proofs Go.RowKit Go.Pol Go.Shelf

theorem sort_any (base : Nat) (v : Value) (us : List Sp) (w : World) (hlen : us.length ≤ 100000) (hbase : base ≤ w.heap.size) (hrow : w.ownsRow base 40 2 v us.length (spCells us)) :
    Calls Try.prog 107 #[v, .func (.func 108) #[] #[]] w fun e w' => e = .returned (.tuple #[]) ∧ ∃ us' : List Sp, us'.Perm us ∧ us'.Pairwise (fun a b => a.1 ≤ b.1) ∧ w'.ownsRow base 40 2 v us.length (spCells us') ∧ Below base w w' := by
  by_cases hne : us = []
  · subst hne
    obtain ⟨A, cap, rfl⟩ := own_nil_iff hrow rfl
    have h := AnyF.slices_SortFunc_none sortSp A cap (.func (.func 108) #[] #[]) w
    change Calls Try.prog 107 _ _ _ at h
    refine h.mono ?_
    rintro e w' ⟨rfl, rfl⟩
    exact ⟨rfl, [], List.Perm.refl _, List.Pairwise.nil, hrow, Below.refl _ _⟩
  · exact sortSome_any base v us w hlen hbase hne hrow
/-- of: of valid spans in a slice of the call's own -/
theorem of'_any (base : Nat) (v : Value) (us : List Sp) (w : World) (hv : ∀ y ∈ us, vld y = true) (hlen : us.length ≤ 100000) (hbase : base ≤ w.heap.size) (hrow : w.ownsRow base 40 2 v us.length (spCells us)) :
    Calls Try.prog 82 #[v] w fun e w' => ∃ (us' : List Sp) (v' : Value), us'.Perm us ∧ us'.Pairwise (fun a b => a.1 ≤ b.1) ∧ e = .returned v' ∧ w'.ownsRow w.heap.size 40 2 v' (ofF us').length (spCells (ofF us')) ∧ Below base w w' :=
  of_any base v us w hv hlen hbase (sort_any base v us w hlen hbase hrow) hrow
end Go.Proofs.Ytfmnlpgboolpmaa
