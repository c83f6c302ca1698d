/- Walks of the reference of layer 6: the two regions of Save that draw their order, over any slots. -/
import Derived.Test.YtjmmgoijnhnnaaaGreatT24
namespace Go.Proofs.YtjmmgoijnhnnaaaGreat
open Go Go.Proofs Go.RowKit Go.Pol Go.Shelf
attribute [local go_sem] Oper.semAt_some Go.Pol.wide_fn Go.Pol.wide_depth Go.Pol.wide_fn' Go.Pol.wide_depth'
theorem news_list {w : World} {g : Nat} {t : TypeId} {l : List Value} (h : Blk w g t l.toArray) : ∀ (j : Nat) (u : Value), l[j]? = some u → w.cell? ((⟨g, 0, none⟩ : Addr).add j) = some u := fun j u hu => by
 rw [addr_add0, Nat.zero_add, h.cell]; simpa using hu
end Go.Proofs.YtjmmgoijnhnnaaaGreat
