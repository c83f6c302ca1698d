/- Plain law of layer 12 (commit): the first bytes of the pages in use. -/
import Derived.Test.YtjmmgoijnhnnaaaGreatT34
namespace Go.Pol
open Go Go.RowKit
def rdB (V : Vm) (a : Int) : Int := if whF V a = 0 then (V.pg (a / 64).toNat).byt (a % 64).toNat else 0
def pgB (V : Vm) (p : Int) : List Int := (List.range 8).map fun (k : Nat) => rdB V (p * 64 + k)
def byL (V : Vm) (L : List Sp) : Nat → List Int
 | 0 => []
 | n + 1 => byL V L n ++ pgB V (nthF L n).1
theorem pgB_len (V : Vm) (p : Int) : (pgB V p).length = 8 := by simp [pgB]
theorem byL_len (V : Vm) (L : List Sp) : ∀ n, (byL V L n).length = 8 * n
 | 0 => rfl
 | n + 1 => by rw [byL, List.length_append, byL_len V L n, pgB_len]; omega
theorem pgB_take (V : Vm) (p : Int) {k : Nat} (hk : k < 8) : (pgB V p).take (k + 1) = (pgB V p).take k ++ [rdB V (p * 64 + k)] := by
 have hl : k < (pgB V p).length := by rw [pgB_len]; exact hk
 rw [List.take_add_one, List.getElem?_eq_getElem hl]
 simp [pgB]
theorem byL_congr {V W : Vm} {L : List Sp} : ∀ n : Nat, (∀ i, i < n → ∀ k : Nat, k < 8 → rdB W ((nthF L i).1 * 64 + k) = rdB V ((nthF L i).1 * 64 + k)) → byL W L n = byL V L n
 | 0, _ => rfl
 | n + 1, h => by
  rw [byL, byL, byL_congr n (fun i hi => h i (by omega))]
  congr 1
  unfold pgB
  refine List.map_congr_left fun k hk => ?_
  exact h n (by omega) k (by simpa using hk)
theorem byL_pre (V : Vm) (L : List Sp) (m : Nat) : ∀ d : Nat, byL V L m <+: byL V L (m + d)
 | 0 => List.prefix_refl _
 | d + 1 => (byL_pre V L m d).trans (by rw [← Nat.add_assoc, byL]; exact List.prefix_append _ _)
theorem pre_at {a b : List Int} (h : a <+: b) {i : Nat} (hi : i < a.length) : b.getD i 0 = a.getD i 0 := by
 obtain ⟨t, rfl⟩ := h
 rw [List.getD_eq_getElem?_getD, List.getD_eq_getElem?_getD, List.getElem?_append_left hi]
theorem byL_hold {V W : Vm} {r r' : Cr} {L L' : List Nd} (h : CmI V L r) (h' : CmI W L' r') (ho : CrOk r) (hc : r.cl = false) (hH : Hold V W) (hp : r'.pg = r.pg ∧ r'.n = r.n ∧ r'.f = r.f ∧ r'.bk = r.bk ∧ r'.ev = r.ev) (hc' : r'.cl = false) (hl : r.live ≤ r'.live) (ho' : CrOk r') :
  byL W (runsL r.pg r.n r.f r.bk r.ev) r.live.toNat = byL V (runsL r.pg r.n r.f r.bk r.ev) r.live.toNat := by
 obtain ⟨_, hk, _⟩ := h.of_ok ho
 obtain ⟨_, hk', _⟩ := h'.of_ok ho'
 have hk := hk hc
 have hk' := hk' hc'
 obtain ⟨e1, e2, e3, e4, e5⟩ := hp
 rw [e1, e2, e3, e4, e5] at hk'
 have hlv := ho.live1
 rw [ho.us] at hlv
 refine byL_congr _ (fun i hi k hk8 => ?_)
 obtain ⟨q1, q2, q3, q4, q5, _⟩ := parts_nth ho.plan i (by omega)
 rw [q1]
 generalize pageAt (runsL r.pg r.n r.f r.bk r.ev) i = p at *
 obtain ⟨P, rfl⟩ : ∃ P : Nat, p = P := ⟨p.toNat, by omega⟩
 have a1 := hk P
 have a2 := hk' P
 rw [if_pos q3, q2, if_pos (show useC r ((i : Int), (0 : Int)).1 = true by unfold useC; simp; omega)] at a1
 rw [if_pos q3, q2, if_pos (show useC r' ((i : Int), (0 : Int)).1 = true by unfold useC; simp; omega)] at a2
 have w1 : whF V ((P : Int) * 64 + k) = 0 := by
  unfold whF
  rw [if_neg (by omega), show (((P : Int) * 64 + k) / 64).toNat = P by omega, if_neg (by rw [show (V.pg P).kind = 2 from a1]; decide)]
 have w2 : whF W ((P : Int) * 64 + k) = 0 := by
  unfold whF
  rw [if_neg (by omega), show (((P : Int) * 64 + k) / 64).toNat = P by omega, if_neg (by rw [show (W.pg P).kind = 2 from a2]; decide)]
 unfold rdB
 rw [if_pos w1, if_pos w2, show (((P : Int) * 64 + k) / 64).toNat = P by omega, show (((P : Int) * 64 + k) % 64).toNat = k by omega]
 exact hH P a2 k
end Go.Pol
