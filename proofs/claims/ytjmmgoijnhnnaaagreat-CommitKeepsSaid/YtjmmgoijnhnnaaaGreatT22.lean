/- Walks: Pages as a function value that is ranged over: it ranges over the pieces of one page, and hands each to the loop. -/
import Derived.Test.YtjmmgoijnhnnaaaGreatT21
namespace Go.Pol
open Go Go.RowKit
theorem roundIn_in {F : Fence} {n : Nat} {P : Program} {l l' : Nat} {f : FuncId} {tmps : Array Value} {assign body : Code} {w : World} {R : Ending → World → Prop} (h : RoundIn F n P l f tmps assign body w R) : RoundIn (F.inRound l') n P l f tmps assign body w R := h
def fsts (l : List Sp) : List Int := l.map (·.1)
theorem fsts_snoc (l : List Sp) (x : Sp) : fsts (l ++ [x]) = fsts l ++ [x.1] := by simp [fsts]
theorem fsts_pre {a b : List Sp} (h : a <+: b) : fsts a <+: fsts b := by
 obtain ⟨r, rfl⟩ := h
 exact ⟨fsts r, by simp [fsts]⟩
abbrev inA (p : Int) : Array Value := #[.int .i64 p]
end Go.Pol
namespace Go.Proofs.YtjmmgoijnhnnaaaGreat
open Go Go.Proofs Go.RowKit Go.Pol Go.Shelf
attribute [local go_sem] Oper.semAt_some Go.Pol.wide_fn Go.Pol.wide_depth Go.Pol.wide_fn' Go.Pol.wide_depth'
set_option maxRecDepth 100000 in
set_option maxHeartbeats 1600000 in
theorem pages1_seq (A : Option Addr) (n cap : Nat) (us : List Sp) (B1 : Nat) (K : Nat → Prop) (w : World) (hK1 : K B1)
  (k1 : Blk w B1 41 #[.slice A n cap]) (hn : us.length = n) (hm : n ≤ 1000000) (hr : RU w w.heap.size A us) (hown : us ≠ [] → ∀ b o, A = some ⟨b, o, none⟩ → K b) :
  SeqY Tryz.prog 132 #[.pointer (some ⟨B1, 0, none⟩)] inA (fun _ => False) K (fsts (piecesF us 1)) w := by
 intro n0 l0 J Jx W hW hJ hJx hnew hY h0
 have kB1 := hW.blk k1 (by simpa using hK1)
 have hrW : RU W W.heap.size A us := by
  by_cases h : us = []
  ·subst h; exact RU.nil
  ·exact (hW.ru hr (fun b o e h' => h' (hown h b o e))).more hW.size
 obtain ⟨s, hs⟩ : ∃ s, W.heap.size = s := ⟨_, rfl⟩
 obtain ⟨Wb, hWb⟩ : ∃ Wb, W.alloc (.cells #[.func (.yield l0) #[] #[]] 165) = Wb := ⟨_, rfl⟩
 refine callsIn_wide.2 ?_
 refine calls_of_marks Tryz.func132 rfl ?_
 simp only [Tryz.ntmps132, List.size_toArray, List.length_cons, List.length_nil, Nat.reduceAdd, Nat.reduceSub, Array.replicate_succ, Array.replicate_zero, List.push_toArray, List.append_toArray, List.nil_append, List.cons_append]
 go_upto_region 1 with fail
 have hFb : Far (fun _ => False) W Wb := by rw [← hWb]; exact (Far.refl _ W).alloc _
 have hszb : Wb.heap.size = s + 1 := by rw [← hWb, ← hs]; simp
 have kY : Blk Wb s 165 #[.func (.yield l0) #[] #[]] := by rw [← hWb, ← hs]; exact Blk.new _ _ _
 have kB1b := hFb.blk kB1 id
 have hrb : RU Wb Wb.heap.size A us := hrW.on (by rw [← hWb]; exact (Below.refl W.heap.size W).alloc (Nat.le_refl _) _)
 have zB := kB1b.cell
 clear hWb kB1 hrW
 have HT := Lib.hid (piecesTop_own A n cap us 1 Wb hn hm hrb)
 go_wp2_with fail
 refine HT.out.mono ?_
 rintro e w2 ⟨lb, Kin, rfl, hseq, hK, hq2⟩
 have kY2 := kY.call hq2
 have hF2 : Far (fun _ => False) W w2 := hFb.trans (.of_below hq2)
 have hs2 : s + 1 ≤ w2.heap.size := by rw [← hszb]; exact hq2.size
 clear HT hrb hq2 hn hr
 have HJ0 : J (fun k => Kin k ∨ False ∨ k = s ∨ k = w2.heap.size ∨ k = w2.heap.size + 1) [] w2 :=
  hJ _ _ W w2 (hnew _ _ _ W h0 (fun k hk => by
   right
   rcases hk with h | h | h | h | h
   ·have := (hK k h).1; omega
   ·exact h.elim
   ·omega
   ·omega
   ·omega)) (hF2.mono fun _ _ h => h.elim)
 go_wp2_with fail
 refine rangeXB 3 6 140 (gf := 189) (lb := lb) rfl pieces_enters hseq rfl (fun _ h => h.elim) (fun k h => (hK k h).2)
  (fun X pre W => J (fun k => Kin k ∨ X k ∨ k = s ∨ k = w2.heap.size ∨ k = w2.heap.size + 1) (fsts pre) W ∧ Blk W s 165 #[.func (.yield l0) #[] #[]] ∧ ¬ X s ∧ w2.heap.size ≤ W.heap.size)
  (fun c X pre W => c = .ret ∧ pre <+: piecesF us 1 ∧ Jx (fun k => Kin k ∨ X k ∨ k = s ∨ k = w2.heap.size ∨ k = w2.heap.size + 1) (fsts pre) W)
  (fun X pre A B h hf => ⟨hJ _ _ A B h.1 (hf.mono fun k _ h => by
    rcases h with h | h | h | h
    ·exact h.elim
    ·exact .inr (.inr (.inl h))
    ·exact .inr (.inr (.inr (.inr (.inl h))))
    ·exact .inr (.inr (.inr (.inr (.inr h))))), hf.blk h.2.1 (by rintro (h' | h' | h' | h'); exact h'; exact h.2.2.1 h'; omega; omega), h.2.2.1, Nat.le_trans h.2.2.2 hf.size⟩)
  (fun c X pre A B h hf => ⟨h.1, h.2.1, hJx _ _ A B h.2.2 (hf.mono fun k _ h => by
    rcases h with h | h | h | h
    ·exact h.elim
    ·exact .inr (.inr (.inl h))
    ·exact .inr (.inr (.inr (.inr (.inl h))))
    ·exact .inr (.inr (.inr (.inr (.inr h)))))⟩)
  (fun X X' pre A h hX => ⟨hnew _ _ _ A h.1 (fun k hk => by
    rcases hk with h' | h' | h'
    ·exact .inl (.inl h')
    ·exact (hX k h').elim (fun h' => .inl (.inr (.inl h'))) .inr
    ·exact .inl (.inr (.inr h'))), h.2.1, fun h' => (hX _ h').elim h.2.2.1 (fun h' => by have := h.2.1.lt; omega), h.2.2.2⟩)
  ⟨HJ0, kY2, id, Nat.le_refl _⟩ ?assign ?body ?done ?stop
 case assign =>
  intro m l x W C hC
  simp only [List.setIfInBounds_toArray, List.set_cons_succ, List.set_cons_zero] at hC ⊢
  gi_wp2
  exact hC
 case body =>
  rintro m l X pre x Bx Wa W hsz hXlt ⟨hJs, kY, nY, hwz⟩ hpre hBx kx hBa
  simp only [List.setIfInBounds_toArray, List.set_cons_succ, List.set_cons_zero]
  obtain ⟨xa, xb⟩ := x
  dsimp only at kx
  have cx := kx.cell
  have cY := kY.cell
  have hmap : Hid (fsts (pre ++ [(xa, xb)]) = fsts pre ++ [xa]) := Lib.hid (fsts_snoc _ _)
  have hpre2 : fsts pre ++ [xa] <+: fsts (piecesF us 1) := by
   rw [← hmap.out]
   exact fsts_pre hpre
  have hall : ∀ k, (Kin k ∨ X k ∨ k = s ∨ k = w2.heap.size ∨ k = w2.heap.size + 1) → k < W.heap.size := fun k hk => by
   rcases hk with h | h | h | h | h
   ·have := (hK k h).2; omega
   ·have := (hXlt k h).1; have := kx.lt; omega
   ·omega
   ·omega
   ·omega
  obtain ⟨fn, tmps, assign, body, hy, hRd⟩ := hY (m - 1) _ (fsts pre) xa W hJs hall hpre2
  clear hY
  gi_wp2_with fail
  refine (roundIn_in hRd).mono ?_
  rintro e W4 (⟨rfl, hJ4, hF4⟩ | ⟨rfl, hJx4, hF4⟩)
  ·gi_wp2_with fail
   exact ⟨hF4.mono fun k _ h h' => h (.inr (by
    rcases h' with h' | h' | h' | h'
    ·exact .inl h'
    ·exact .inr (.inl h')
    ·exact .inr (.inr (.inr (.inl h')))
    ·exact .inr (.inr (.inr (.inr h'))))), by rw [hmap.out]; exact hJ4, hF4.blk kY (fun h => h (.inr (.inr (.inr (.inl rfl))))), nY, Nat.le_trans hwz hF4.size⟩
  ·gi_wp2_with fail
   exact ⟨hF4.mono fun k _ h h' => h (.inr (h'.elim (fun h' => .inr (.inr (.inr (.inl h')))) (fun h' => .inr (.inr (.inr (.inr h')))))), rfl, hpre, by rw [hmap.out]; exact hJx4⟩
 case done =>
  rintro X W5 hsz ⟨hJs, _, _, _⟩ hd
  have hfin := hJ _ _ W5 (W5.putObj w2.heap.size (.deferred none)) hJs (Far.putObj (Far.refl _ _) (fun _ => .inr (.inr (.inr (.inr (.inl rfl))))) _)
  go_wp2_with fail
  exact leave_mark (v := .tuple #[]) hd (results_none rfl _ _ _) ⟨⟨_, rfl⟩, .inl ⟨_, hfin⟩⟩
 case stop =>
  rintro c X pre W5 hsz hpre ⟨rfl, _, hJs⟩ hd
  have hfin := hJx _ _ W5 (W5.putObj w2.heap.size (.deferred none)) hJs (Far.putObj (Far.refl _ _) (fun _ => .inr (.inr (.inr (.inr (.inl rfl))))) _)
  go_wp2_with fail
  exact leave_mark (v := .tuple #[]) hd (results_none rfl _ _ _) ⟨⟨_, rfl⟩, .inr ⟨_, _, fsts_pre hpre, hfin⟩⟩
end Go.Proofs.YtjmmgoijnhnnaaaGreat
