/- Merged texts. Walks of layer 12 (commit): one call of a play. -/
import Derived.Test.YtjmmgoijnhnnaaaGreatT11
namespace Go.Pol
open Go Go.RowKit
theorem wpAnyT_firstL {P : Program} {ops : Array Oper} {Q : Exit → Act → World → Prop} {md : Region.Mode} {S : World → Prop} {tl : List Nat} {i : Nat} {oi : Oper} {v : Value} (hi : ops[i]? = some oi) (hsel : ∀ (j : Nat) (o : Oper) cs b, ops[j]? = some o → o.op ≠ .select cs b)
  (hQ : ∀ c a w, Q (.panic c) (a.put oi.dst v) w → Q (.panic c) a w) :
  ∀ (fuel : Nat) (listed : Array Bool) (a : Act) (w : World), Closed md ops listed → (∀ t ∈ tl, listed.getD t false = true ∨ t ∈ waitsL md ops i ops.size) →
   (∀ j oj, ops[j]? = some oj → j ≠ i → listed.getD j true = false → (∀ e ∈ oj.after, Region.binds md e = true → e.on ≠ i) → oi.apart ops oj = true) →
   i ∈ Region.ready md ops listed → YieldsIf P ops S oi v a → S w →
   wpAnyT P md ops Q S tl fuel (listed.setIfInBounds i true) (a.put oi.dst v) w → wpAnyT P md ops Q S tl (fuel + 1) listed a w := by
 intro fuel
 induction fuel with
 | zero =>
  intro listed a w hcl _ _ hr hy hS H
  refine ⟨fun h => (by rw [h] at hr; cases hr), fun j hj => ?_⟩
  by_cases hji : j = i
  ·subst hji; exact hy.wpOp hi hS ⟨fun _ => hS, H⟩
  ·have := ready_mono hj hji
   rw [H.1] at this
   cases this
 | succ fuel ih =>
  intro listed a w hcl htl hfree hr hy hS H
  refine ⟨fun h => (by rw [h] at hr; cases hr), fun j hj => ?_⟩
  by_cases hji : j = i
  ·subst hji; exact hy.wpOp hi hS ⟨fun _ => hS, H⟩
  ·have h1 := H.2 j (ready_mono hj hji)
   obtain ⟨hjun, oj, hoj, hall⟩ := mem_ready.1 hj
   have hun : listed.getD i false = false := getD_both (mem_ready.1 hr).1
   have hntl : tl.contains j = false := by
    cases h : tl.contains j with
    | false => rfl
    | true =>
     rcases htl j (by simpa using h) with h2 | h2
     ·have h3 := getD_both hjun
      rw [h3] at h2; cases h2
     ·exact absurd hj (waits_not hcl hun _ j h2).2
   have hnot : ∀ e ∈ oj.after, Region.binds md e = true → e.on ≠ i := fun e he hb heq => by
    have h1 := hall e he hb
    rw [heq, hun] at h1
    cases h1
   have h2 := wpOp_putIf hoj (hfree j oj hoj hji hjun hnot) (fun cs b => hsel i oi cs b hi) (fun cs b => hsel j oj cs b hoj) hQ hy h1
   have hfree' : ∀ k ok, ops[k]? = some ok → k ≠ i → (listed.setIfInBounds j true).getD k true = false →
     (∀ e ∈ ok.after, Region.binds md e = true → e.on ≠ i) → oi.apart ops ok = true := fun k ok hk hki hun hno => by
    refine hfree k ok hk hki ?_ hno
    by_cases hjk : j = k
    ·subst hjk; exact hjun
    ·rw [getD_set_ne true hjk] at hun; exact hun
   refine wpOp_mono (fun a' w' h3 => ⟨h3.2.1, ih (listed.setIfInBounds j true) a' w' (hcl.set hj) (fun t ht => (htl t ht).imp (fun h => getD_set_true h) id) hfree' (ready_mono hr (Ne.symm hji)) h3.1 (h3.2.1 hntl) ?_⟩) h2
   rw [Array.setIfInBounds_comm _ _ hji]
   exact h3.2.2
theorem wpAnyT_takeL {P : Program} {ops : Array Oper} {Q : Exit → Act → World → Prop} {md : Region.Mode} {S : World → Prop} {tl : List Nat} {i : Nat} {oi : Oper} {v : Value} {fuel : Nat} {listed : Array Bool} {a : Act} {w : World} (hi : ops[i]? = some oi)
  (hB : (Region.noSelect ops && Region.free md ops listed i && (Region.ready md ops listed).contains i && closedB md ops listed && tl.all (fun t => listed.getD t false || (waitsL md ops i ops.size).contains t)) = true)
  (hQ : ∀ c a w, Q (.panic c) (a.put oi.dst v) w → Q (.panic c) a w) (hy : YieldsIf P ops S oi v a) (hS : S w)
  (h : wpAnyT P md ops Q S tl fuel (listed.setIfInBounds i true) (a.put oi.dst v) w) : wpAnyT P md ops Q S tl (fuel + 1) listed a w := by
 simp only [Bool.and_eq_true] at hB
 obtain ⟨⟨⟨⟨h1, h2⟩, h3⟩, h4⟩, h5⟩ := hB
 exact wpAnyT_firstL hi (Region.noSelect_spec h1) hQ fuel listed a w (closed_of h4) (fun t ht => by simpa using List.all_eq_true.1 h5 t ht) (Region.free_spec hi h2) (by simpa using h3) hy hS h
theorem tkL {P : Program} {ops : Array Oper} {Q : Exit → Act → World → Prop} {md : Region.Mode} {S : World → Prop} {tl : List Nat} (i : Nat) {oi : Oper} {v : Value} {fuel : Nat} {listed : Array Bool} {a : Act} {w : World} (hS : S w) (h : wpAnyT P md ops Q S tl fuel (listed.setIfInBounds i true) (a.put oi.dst v) w) (hi : ops[i]? = some oi := by (simp only [List.getElem?_toArray, List.getElem?_cons_succ, List.getElem?_cons_zero]; rfl)) (hB : (Region.noSelect ops && Region.free md ops listed i && (Region.ready md ops listed).contains i && closedB md ops listed && tl.all (fun t => listed.getD t false || (waitsL md ops i ops.size).contains t)) = true := by kernel_rfl) (hQ : ∀ c a w, Q (.panic c) (a.put oi.dst v) w → Q (.panic c) a w := by exact fun _ _ _ h => h) (hy : YieldsIf P ops S oi v a := by (refine Or.inl ⟨rfl, ?_⟩; intro wS hSw; obtain ⟨_, _⟩ := hSw; go_simp; (try with_reducible rfl))) : wpAnyT P md ops Q S tl (fuel + 1) listed a w := wpAnyT_takeL hi hB hQ hy hS h
def TwS (y bs bb x : Nat) (r : Cr) (v : Value) (b : Int) (W : World) : Prop := W.cell? ⟨y, 0, none⟩ = some (.pointer (some ⟨bs, 0, none⟩)) ∧ W.cell? ⟨y, 1, none⟩ = some (.pointer (some ⟨bb, 0, none⟩)) ∧ W.cell? ⟨y, 2, none⟩ = some (.int .i64 r.pg) ∧ W.cell? ⟨y, 3, none⟩ = some (.int .i64 r.n) ∧ W.cell? ⟨y, 4, none⟩ = some (.int .i64 r.f) ∧ W.cell? ⟨y, 5, none⟩ = some (.int .i64 r.bk) ∧ W.cell? ⟨y, 6, none⟩ = some (.int .i64 r.ev) ∧ W.cell? ⟨y, 7, none⟩ = some (.int .i64 r.node) ∧ W.cell? ⟨y, 8, none⟩ = some (.int .i64 r.live) ∧ W.cell? ⟨y, 9, none⟩ = some v ∧ W.cell? ⟨y, 10, none⟩ = some (.bool r.cl) ∧ W.cell? ⟨x, 1, none⟩ = some (.int .i64 b)
theorem TwS.of {y bs bb x : Nat} {r : Cr} {v : Value} {a b : Int} {W : World} {t u : TypeId} (h : Blk W y t (twC (some ⟨bs, 0, none⟩) (some ⟨bb, 0, none⟩) r v)) (k : Blk W x u #[.int .u8 a, .int .i64 b]) : TwS y bs bb x r v b W :=
 ⟨h.cell 0, h.cell 1, h.cell 2, h.cell 3, h.cell 4, h.cell 5, h.cell 6, h.cell 7, h.cell 8, h.cell 9, h.cell 10, k.cell 1⟩
def nthC (r : Cr) (i : Int) : Int × Int := if chkG r.pg r.n r.f r.bk r.ev = 0 then nthF (runsL r.pg r.n r.f r.bk r.ev) i else (0, chkG r.pg r.n r.f r.bk r.ev)
theorem PlyAt.putR {N y bs bb : Nat} {V : Vm} {L : List Nd} {r' : Cr} {w1 w2 w3 : World} {A : Option Addr} {cap : Nat} {cs : Array Value} (hlo : N ≤ y ∧ N ≤ bs ∧ N + 1 ≤ bb) (hinv : CmI V L r') (T : BothTo bs bb V L w1 w2) (ky : Blk w2 y 49 cs) (hk : KeptAt w2 A r'.kept) (hl : r'.kept.length ≤ cap) (hm : cap ≤ maxLen)
  (F : Far (fun k => k = y) w2 w3) (k3 : Blk w3 y 49 (twC (some ⟨bs, 0, none⟩) (some ⟨bb, 0, none⟩) r' (.slice A r'.kept.length cap))) : PlyAt w3 N y bs bb V L r' := by
 obtain ⟨cv, hcv⟩ := T.sys.typed
 obtain ⟨_, _, kq, _⟩ := T.bud.ex
 refine ⟨T.sys.far F (fun e => by have e : bs = y := e; rw [e] at hcv; exact hcv.ne ky (by decide)) (fun _ _ _ _ _ _ q _ _ _ ⟨_, hq⟩ e => by have e : q = y := e; rw [e] at hq; exact hq.ne ky (by decide)), T.bud.far F (fun e => by have e : bb = y := e; rw [e] at kq; exact kq.ne ky (by decide)) (fun q ⟨_, _, hq⟩ e => by have e : q = y := e; rw [e] at hq; exact hq.ne ky (by decide)), ⟨A, cap, k3, hk.far F (fun g cs hG e => by have e : g = y := e; rw [e] at hG; exact hG.ne ky (by decide)), hl, hm⟩, hlo, hinv⟩
end Go.Pol
namespace Go.Proofs.YtjmmgoijnhnnaaaGreat
open Go Go.Proofs Go.RowKit Go.Pol Go.Shelf
attribute [local go_sem] Oper.semAt_some Go.Pol.wide_fn Go.Pol.wide_depth Go.Pol.wide_fn' Go.Pol.wide_depth'
def acF (S : Vm × List Nd × Cr) (x : Int × Int) : Vm × List Nd × Cr :=
 if x.1 % 12 < 4 then ((growC S.1 S.2.1 S.2.2 x.2).2.2.1, (growC S.1 S.2.1 S.2.2 x.2).2.2.2, (growC S.1 S.2.1 S.2.2 x.2).1)
 else if x.1 % 12 < 6 then (S.1, S.2.1, (shrinkC S.2.2 x.2).1)
 else if x.1 % 12 < 8 then ((purgeC S.1 S.2.1 S.2.2 x.2).2.2.1, (purgeC S.1 S.2.1 S.2.2 x.2).2.2.2, (purgeC S.1 S.2.1 S.2.2 x.2).1)
 else if x.1 % 12 = 8 then (if (nthC S.2.2 x.2).2 = 0 then writeF S.1 ((nthC S.2.2 x.2).1 * 64 + (nthC S.2.2 x.2).1 % 64) (1 + (nthC S.2.2 x.2).1 % 200) else S.1, S.2.1, S.2.2)
 else if x.1 % 12 = 10 then (S.1, (setLimB S.2.1 1 x.2).2, S.2.2)
 else if x.1 % 12 = 11 then ((closeC S.1 S.2.1 S.2.2).2.2.1, (closeC S.1 S.2.1 S.2.2).2.2.2, (closeC S.1 S.2.1 S.2.2).1)
 else S
theorem purgeC_inv {V : Vm} {L : List Nd} {r : Cr} (h : CmI V L r) (k : Int) : CmI (purgeC V L r k).2.2.1 (purgeC V L r k).2.2.2 (purgeC V L r k).1 := by
 unfold Go.Proofs.YtjmmgoijnhnnaaaGreat.purgeC
 by_cases h1 : chkCm r ≠ 0
 ·rw [if_pos h1]; exact h
 rw [if_neg h1]
 have ho := chkCm_zero.1 (by simpa using h1)
 by_cases h2 : ¬ (askS r.kept (k, 1) = 0 ∧ (gapsF r.kept (k, 1)).isEmpty = true)
 ·rw [if_pos h2]; exact h
 rw [if_neg h2]
 have h2 := Decidable.not_not.1 h2
 have hv : vld (k, 1) = true := by
  have := h2.1
  unfold askS at this
  rw [if_pos (chkS_zero.2 ho.can)] at this
  by_cases hv : vld (k, 1) = true
  ·exact hv
  ·rw [if_neg hv] at this; exact absurd this (by decide)
 have hk : mem k r.kept = true := by rw [← has_one ho.can hv]; exact h2.2
 obtain ⟨a, b⟩ := h.purge ho hk
 have hnd : r.node.toNat = 1 := by rw [(h.of_ok ho).1]; rfl
 dsimp only
 rw [hnd]
 by_cases h3 : (bec V (nthF (runsL r.pg r.n r.f r.bk r.ev) k).1 1 3 2 1).1 ≠ 0
 ·rw [if_pos h3]; exact a h3
 ·rw [if_neg h3]; exact b (by simpa using h3)
theorem ac_inv {V : Vm} {L : List Nd} {r : Cr} (h : CmI V L r) (x : Int × Int) : CmI (acF (V, L, r) x).1 (acF (V, L, r) x).2.1 (acF (V, L, r) x).2.2 := by
 unfold acF
 dsimp only
 split
 ·exact h.grow _
 ·split
  ·exact h.shrink _
  ·split
   ·exact purgeC_inv h _
   ·split
    ·split
     ·exact h.write _ _
     ·exact h
    ·split
     ·exact h.limit _
     ·split
      ·exact h.close.1
      ·exact h
theorem nthC_range {r : Cr} {i : Int} : (nthC r i).2 = 0 → 0 ≤ (nthC r i).1 ∧ (nthC r i).1 < 1024 := fun h => by
 unfold nthC at h ⊢
 by_cases hc : chkG r.pg r.n r.f r.bk r.ev = 0
 ·rw [if_pos hc] at h ⊢
  have hp := chkG_zero.1 hc
  have hpos := runs_pos hp
  have hi : 0 ≤ i ∧ i < sumS (runsL r.pg r.n r.f r.bk r.ev) := by
   rw [nthF_pages _ _ hpos, nthP] at h
   split at h
   ·exact absurd h (by decide)
   ·have := pagesOf_len (runsL r.pg r.n r.f r.bk r.ev) (fun x hx => by have := hpos x hx; omega)
    omega
  have := parts_nth hp i.toNat (by omega)
  rw [show ((i.toNat : Nat) : Int) = i by omega] at this
  rw [this.1]
  exact ⟨this.2.2.2.1, this.2.2.2.2.1⟩
 ·rw [if_neg hc] at h
  exact absurd h hc
theorem hnl_of {V : Vm} {L : List Nd} {r : Cr} (h : CmI V L r) : chkCm r = 0 → r.node.toNat < L.length := fun hc => by
 rw [(h.of_ok (chkCm_zero.1 hc)).1, h.two]; decide
set_option maxRecDepth 100000 in
set_option maxHeartbeats 6400000 in
theorem alone_any (N y bs bb : Nat) (V : Vm) (L : List Nd) (r : Cr) (a b : Int) (w : World) (h : PlyAt w N y bs bb V L r) (hN : N ≤ w.heap.size) (ha : 0 ≤ a ∧ a ≤ 255) (hb1 : -9223372036854775808 ≤ b) (hb2 : b ≤ 9223372036854775807) :
  Calls Tryz.prog 15 #[.pointer (some ⟨y, 0, none⟩), .agg #[.int .u8 a, .int .i64 b]] w fun e w' => (∃ er : Int, e = .returned (.int .i64 er)) ∧ PlyAt w' N y bs bb (acF (V, L, r) (a, b)).1 (acF (V, L, r) (a, b)).2.1 (acF (V, L, r) (a, b)).2.2 ∧ Below N w w' := by
 have hinv := ac_inv h.inv (a, b)
 have hlo := h.lo
 have hK := h.inv.kindOk
 have hO := h.inv.bok
 have hnl := hnl_of h.inv
 have h2len := h.inv.two
 obtain ⟨A, cap, ky, hk, hl, hm⟩ := h.two
 have hV := h.sys
 have hB := h.bud
 have hb0 := (Below.refl w.heap.size w).alloc (Nat.le_refl _) (.cells #[.int .u8 a, .int .i64 b] 51)
 have kx := Blk.new w 51 #[.int .u8 a, .int .i64 b]
 have V0 := hV.call hb0
 have Bu0 := hB.call hb0
 have ky0 := ky.call hb0
 have hk0 := hk.call hb0
 have B0 := hb0.mono hN
 obtain ⟨x, hx⟩ : ∃ x, w.heap.size = x := ⟨_, rfl⟩
 rw [hx] at kx
 obtain ⟨R, hR⟩ : ∃ R, acF (V, L, r) (a, b) = R := ⟨_, rfl⟩
 rw [hR] at hinv ⊢
 unfold acF at hR
 simp only at hR
 obtain ⟨m, hm12⟩ : ∃ m, a % 12 = m := ⟨_, rfl⟩
 have hm0 : 0 ≤ m ∧ m < 12 := by omega
 have ht : Int.tmod a 12 = m := by rw [Int.tmod_eq_emod_of_nonneg ha.1]; exact hm12
 rw [hm12] at hR
 clear h hV hB ky hk hm12
 by_cases c1 : m < 4
 ·rw [if_pos c1] at hR
  have HG := Lib.hid (fun W h1 h2 h3 => cmGrow_any bs bb V L r b A cap W h1 hK h2 hO hnl hl hm h3)
  generalize growC V L r b = S at *
  obtain ⟨sr, se, sV, sL⟩ := S
  simp only at HG hR
  subst hR
  simp only at hinv
  have hm4 : m = 0 ∨ m = 1 ∨ m = 2 ∨ m = 3 := by omega
  clear c1 hm0
  rcases hm4 with rfl | rfl | rfl | rfl
  ·go_enter Tryz.func15, Tryz.ntmps15
   go_upto_region 1 with fail
   generalize w.alloc _ = w0 at *
   try simp only [hx]
   have cx := kx.cell
   go_upto_region 7 with fail
   have hbd := (Below.refl w0.heap.size w0).drew
   have V1 := V0.call hbd
   have Bu1 := Bu0.call hbd
   have ky1 := ky0.call hbd
   have kx1 := kx.call hbd
   have hk1 := hk0.call hbd
   have B1 := B0.trans (hbd.mono (by have := B0.size; omega))
   refine wp_noPanic ?_
   refine wp_region_T (TwS y bs bb x r (.slice A r.kept.length cap) b) [0, 17, 18, 19, 20, 21, 22] (by kernel_rfl) ?_
   generalize w0.drew = wd at *
   have hS := TwS.of ky1 kx1
   dsimp only [TwS] at hS ⊢
   clear V0 Bu0 ky0 kx hk0 B0 cx hbd hb0
   refine tkV 0 ?_
   try simp only [Act.put, qsA, qsB, qsC]
   refine tkL 1 hS ?_
   try simp only [Act.put, qsA, qsB, qsC]
   refine tkL 2 hS ?_
   try simp only [Act.put, qsA, qsB, qsC]
   refine tkL 3 hS ?_
   try simp only [Act.put, qsA, qsB, qsC]
   refine tkL 4 hS ?_
   try simp only [Act.put, qsA, qsB, qsC]
   refine tkL 5 hS ?_
   try simp only [Act.put, qsA, qsB, qsC]
   refine tkL 6 hS ?_
   try simp only [Act.put, qsA, qsB, qsC]
   refine tkL 7 hS ?_
   try simp only [Act.put, qsA, qsB, qsC]
   refine tkL 8 hS ?_
   try simp only [Act.put, qsA, qsB, qsC]
   refine tkL 9 hS ?_
   try simp only [Act.put, qsA, qsB, qsC]
   refine tkL 10 hS ?_
   try simp only [Act.put, qsA, qsB, qsC]
   refine tkL 11 hS ?_
   try simp only [Act.put, qsA, qsB, qsC]
   refine tkL 12 hS ?_
   try simp only [Act.put, qsA, qsB, qsC]
   refine tkL 13 hS ?_
   try simp only [Act.put, qsA, qsB, qsC]
   refine tkL 14 hS ?_
   try simp only [Act.put, qsA, qsB, qsC]
   refine tkR 15 fun K hK => ?_
   go_simp
   refine ((HG.out wd V1 Bu1 hk1)).mono ?_
   rintro (e w2 ⟨v2, rfl, ⟨A2, c2, rfl, hl2, hm2, hk2⟩, T2⟩)
   refine hK.out _ _ (fun _ => TwS.of (T2.blk V1 ky1 (by decide) (by decide)) (T2.blk V1 kx1 (by decide) (by decide))) (fun hS => ?_)
   clear hK K
   replace hS := hS rfl
   try simp only [Act.put, qsA, qsB, qsC]
   have ky2 := T2.blk V1 ky1 (by decide) (by decide)
   have kx2 := T2.blk V1 kx1 (by decide) (by decide)
   have B2 := B1.trans (T2.far.below (by have := B1.size; omega) (fun k hk e => by rcases e with rfl | ⟨e, _⟩ <;> omega))
   refine tkL 16 hS ?_
   try simp only [Act.put, qsA, qsB, qsC]
   refine tkV 17 ?_
   try simp only [Act.put, qsA, qsB, qsC]
   refine tkV 18 ?_
   try simp only [Act.put, qsA, qsB, qsC]
   refine tkV 19 ?_
   try simp only [Act.put, qsA, qsB, qsC]
   refine tkV 20 ?_
   try simp only [Act.put, qsA, qsB, qsC]
   have F3 := putT_far w2 y sr (.slice A2 sr.kept.length c2)
   have ky3 := putT_blk ky2 sr (.slice A2 sr.kept.length c2)
   have kx3 := F3.blk kx2 (fun e => by have e : x = y := e; rw [e] at kx2; exact kx2.ne ky2 (by decide))
   have T3 := PlyAt.putR hlo hinv T2 ky2 hk2 hl2 hm2 F3 ky3
   have B3 := B2.trans (F3.below (Nat.le_trans hN B2.size) (fun k hk e => by have e : k = y := e; omega))
   have cy2 := ky2.cell
   have fy2 := ky2.frozen
   refine tkR 21 fun KK hKK => ?_
   go_simp
   refine hKK.out _ (putT w2 y sr (.slice A2 sr.kept.length c2)) (fun h => absurd h (by decide)) (fun _ => ?_)
   clear hKK KK
   generalize putT w2 y sr (.slice A2 sr.kept.length c2) = w3 at *
   try simp only [Act.put, qsA, qsB, qsC]
   refine tkV 22 ?_
   try simp only [Act.put, qsA, qsB, qsC]
   refine wpAnyT_done (by kernel_rfl) ?_ _
   refine noPanic_normal ?_
   go_wp2_with fail
   go_ret
   exact ⟨⟨_, rfl⟩, T3, B3⟩
  ·go_enter Tryz.func15, Tryz.ntmps15
   go_upto_region 1 with fail
   generalize w.alloc _ = w0 at *
   try simp only [hx]
   have cx := kx.cell
   go_upto_region 7 with fail
   have hbd := (Below.refl w0.heap.size w0).drew
   have V1 := V0.call hbd
   have Bu1 := Bu0.call hbd
   have ky1 := ky0.call hbd
   have kx1 := kx.call hbd
   have hk1 := hk0.call hbd
   have B1 := B0.trans (hbd.mono (by have := B0.size; omega))
   refine wp_noPanic ?_
   refine wp_region_T (TwS y bs bb x r (.slice A r.kept.length cap) b) [0, 17, 18, 19, 20, 21, 22] (by kernel_rfl) ?_
   generalize w0.drew = wd at *
   have hS := TwS.of ky1 kx1
   dsimp only [TwS] at hS ⊢
   clear V0 Bu0 ky0 kx hk0 B0 cx hbd hb0
   refine tkV 0 ?_
   try simp only [Act.put, qsA, qsB, qsC]
   refine tkL 1 hS ?_
   try simp only [Act.put, qsA, qsB, qsC]
   refine tkL 2 hS ?_
   try simp only [Act.put, qsA, qsB, qsC]
   refine tkL 3 hS ?_
   try simp only [Act.put, qsA, qsB, qsC]
   refine tkL 4 hS ?_
   try simp only [Act.put, qsA, qsB, qsC]
   refine tkL 5 hS ?_
   try simp only [Act.put, qsA, qsB, qsC]
   refine tkL 6 hS ?_
   try simp only [Act.put, qsA, qsB, qsC]
   refine tkL 7 hS ?_
   try simp only [Act.put, qsA, qsB, qsC]
   refine tkL 8 hS ?_
   try simp only [Act.put, qsA, qsB, qsC]
   refine tkL 9 hS ?_
   try simp only [Act.put, qsA, qsB, qsC]
   refine tkL 10 hS ?_
   try simp only [Act.put, qsA, qsB, qsC]
   refine tkL 11 hS ?_
   try simp only [Act.put, qsA, qsB, qsC]
   refine tkL 12 hS ?_
   try simp only [Act.put, qsA, qsB, qsC]
   refine tkL 13 hS ?_
   try simp only [Act.put, qsA, qsB, qsC]
   refine tkL 14 hS ?_
   try simp only [Act.put, qsA, qsB, qsC]
   refine tkR 15 fun K hK => ?_
   go_simp
   refine ((HG.out wd V1 Bu1 hk1)).mono ?_
   rintro (e w2 ⟨v2, rfl, ⟨A2, c2, rfl, hl2, hm2, hk2⟩, T2⟩)
   refine hK.out _ _ (fun _ => TwS.of (T2.blk V1 ky1 (by decide) (by decide)) (T2.blk V1 kx1 (by decide) (by decide))) (fun hS => ?_)
   clear hK K
   replace hS := hS rfl
   try simp only [Act.put, qsA, qsB, qsC]
   have ky2 := T2.blk V1 ky1 (by decide) (by decide)
   have kx2 := T2.blk V1 kx1 (by decide) (by decide)
   have B2 := B1.trans (T2.far.below (by have := B1.size; omega) (fun k hk e => by rcases e with rfl | ⟨e, _⟩ <;> omega))
   refine tkL 16 hS ?_
   try simp only [Act.put, qsA, qsB, qsC]
   refine tkV 17 ?_
   try simp only [Act.put, qsA, qsB, qsC]
   refine tkV 18 ?_
   try simp only [Act.put, qsA, qsB, qsC]
   refine tkV 19 ?_
   try simp only [Act.put, qsA, qsB, qsC]
   refine tkV 20 ?_
   try simp only [Act.put, qsA, qsB, qsC]
   have F3 := putT_far w2 y sr (.slice A2 sr.kept.length c2)
   have ky3 := putT_blk ky2 sr (.slice A2 sr.kept.length c2)
   have kx3 := F3.blk kx2 (fun e => by have e : x = y := e; rw [e] at kx2; exact kx2.ne ky2 (by decide))
   have T3 := PlyAt.putR hlo hinv T2 ky2 hk2 hl2 hm2 F3 ky3
   have B3 := B2.trans (F3.below (Nat.le_trans hN B2.size) (fun k hk e => by have e : k = y := e; omega))
   have cy2 := ky2.cell
   have fy2 := ky2.frozen
   refine tkR 21 fun KK hKK => ?_
   go_simp
   refine hKK.out _ (putT w2 y sr (.slice A2 sr.kept.length c2)) (fun h => absurd h (by decide)) (fun _ => ?_)
   clear hKK KK
   generalize putT w2 y sr (.slice A2 sr.kept.length c2) = w3 at *
   try simp only [Act.put, qsA, qsB, qsC]
   refine tkV 22 ?_
   try simp only [Act.put, qsA, qsB, qsC]
   refine wpAnyT_done (by kernel_rfl) ?_ _
   refine noPanic_normal ?_
   go_wp2_with fail
   go_ret
   exact ⟨⟨_, rfl⟩, T3, B3⟩
  ·go_enter Tryz.func15, Tryz.ntmps15
   go_upto_region 1 with fail
   generalize w.alloc _ = w0 at *
   try simp only [hx]
   have cx := kx.cell
   go_upto_region 7 with fail
   have hbd := (Below.refl w0.heap.size w0).drew
   have V1 := V0.call hbd
   have Bu1 := Bu0.call hbd
   have ky1 := ky0.call hbd
   have kx1 := kx.call hbd
   have hk1 := hk0.call hbd
   have B1 := B0.trans (hbd.mono (by have := B0.size; omega))
   refine wp_noPanic ?_
   refine wp_region_T (TwS y bs bb x r (.slice A r.kept.length cap) b) [0, 17, 18, 19, 20, 21, 22] (by kernel_rfl) ?_
   generalize w0.drew = wd at *
   have hS := TwS.of ky1 kx1
   dsimp only [TwS] at hS ⊢
   clear V0 Bu0 ky0 kx hk0 B0 cx hbd hb0
   refine tkV 0 ?_
   try simp only [Act.put, qsA, qsB, qsC]
   refine tkL 1 hS ?_
   try simp only [Act.put, qsA, qsB, qsC]
   refine tkL 2 hS ?_
   try simp only [Act.put, qsA, qsB, qsC]
   refine tkL 3 hS ?_
   try simp only [Act.put, qsA, qsB, qsC]
   refine tkL 4 hS ?_
   try simp only [Act.put, qsA, qsB, qsC]
   refine tkL 5 hS ?_
   try simp only [Act.put, qsA, qsB, qsC]
   refine tkL 6 hS ?_
   try simp only [Act.put, qsA, qsB, qsC]
   refine tkL 7 hS ?_
   try simp only [Act.put, qsA, qsB, qsC]
   refine tkL 8 hS ?_
   try simp only [Act.put, qsA, qsB, qsC]
   refine tkL 9 hS ?_
   try simp only [Act.put, qsA, qsB, qsC]
   refine tkL 10 hS ?_
   try simp only [Act.put, qsA, qsB, qsC]
   refine tkL 11 hS ?_
   try simp only [Act.put, qsA, qsB, qsC]
   refine tkL 12 hS ?_
   try simp only [Act.put, qsA, qsB, qsC]
   refine tkL 13 hS ?_
   try simp only [Act.put, qsA, qsB, qsC]
   refine tkL 14 hS ?_
   try simp only [Act.put, qsA, qsB, qsC]
   refine tkR 15 fun K hK => ?_
   go_simp
   refine ((HG.out wd V1 Bu1 hk1)).mono ?_
   rintro (e w2 ⟨v2, rfl, ⟨A2, c2, rfl, hl2, hm2, hk2⟩, T2⟩)
   refine hK.out _ _ (fun _ => TwS.of (T2.blk V1 ky1 (by decide) (by decide)) (T2.blk V1 kx1 (by decide) (by decide))) (fun hS => ?_)
   clear hK K
   replace hS := hS rfl
   try simp only [Act.put, qsA, qsB, qsC]
   have ky2 := T2.blk V1 ky1 (by decide) (by decide)
   have kx2 := T2.blk V1 kx1 (by decide) (by decide)
   have B2 := B1.trans (T2.far.below (by have := B1.size; omega) (fun k hk e => by rcases e with rfl | ⟨e, _⟩ <;> omega))
   refine tkL 16 hS ?_
   try simp only [Act.put, qsA, qsB, qsC]
   refine tkV 17 ?_
   try simp only [Act.put, qsA, qsB, qsC]
   refine tkV 18 ?_
   try simp only [Act.put, qsA, qsB, qsC]
   refine tkV 19 ?_
   try simp only [Act.put, qsA, qsB, qsC]
   refine tkV 20 ?_
   try simp only [Act.put, qsA, qsB, qsC]
   have F3 := putT_far w2 y sr (.slice A2 sr.kept.length c2)
   have ky3 := putT_blk ky2 sr (.slice A2 sr.kept.length c2)
   have kx3 := F3.blk kx2 (fun e => by have e : x = y := e; rw [e] at kx2; exact kx2.ne ky2 (by decide))
   have T3 := PlyAt.putR hlo hinv T2 ky2 hk2 hl2 hm2 F3 ky3
   have B3 := B2.trans (F3.below (Nat.le_trans hN B2.size) (fun k hk e => by have e : k = y := e; omega))
   have cy2 := ky2.cell
   have fy2 := ky2.frozen
   refine tkR 21 fun KK hKK => ?_
   go_simp
   refine hKK.out _ (putT w2 y sr (.slice A2 sr.kept.length c2)) (fun h => absurd h (by decide)) (fun _ => ?_)
   clear hKK KK
   generalize putT w2 y sr (.slice A2 sr.kept.length c2) = w3 at *
   try simp only [Act.put, qsA, qsB, qsC]
   refine tkV 22 ?_
   try simp only [Act.put, qsA, qsB, qsC]
   refine wpAnyT_done (by kernel_rfl) ?_ _
   refine noPanic_normal ?_
   go_wp2_with fail
   go_ret
   exact ⟨⟨_, rfl⟩, T3, B3⟩
  ·go_enter Tryz.func15, Tryz.ntmps15
   go_upto_region 1 with fail
   generalize w.alloc _ = w0 at *
   try simp only [hx]
   have cx := kx.cell
   go_upto_region 7 with fail
   have hbd := (Below.refl w0.heap.size w0).drew
   have V1 := V0.call hbd
   have Bu1 := Bu0.call hbd
   have ky1 := ky0.call hbd
   have kx1 := kx.call hbd
   have hk1 := hk0.call hbd
   have B1 := B0.trans (hbd.mono (by have := B0.size; omega))
   refine wp_noPanic ?_
   refine wp_region_T (TwS y bs bb x r (.slice A r.kept.length cap) b) [0, 17, 18, 19, 20, 21, 22] (by kernel_rfl) ?_
   generalize w0.drew = wd at *
   have hS := TwS.of ky1 kx1
   dsimp only [TwS] at hS ⊢
   clear V0 Bu0 ky0 kx hk0 B0 cx hbd hb0
   refine tkV 0 ?_
   try simp only [Act.put, qsA, qsB, qsC]
   refine tkL 1 hS ?_
   try simp only [Act.put, qsA, qsB, qsC]
   refine tkL 2 hS ?_
   try simp only [Act.put, qsA, qsB, qsC]
   refine tkL 3 hS ?_
   try simp only [Act.put, qsA, qsB, qsC]
   refine tkL 4 hS ?_
   try simp only [Act.put, qsA, qsB, qsC]
   refine tkL 5 hS ?_
   try simp only [Act.put, qsA, qsB, qsC]
   refine tkL 6 hS ?_
   try simp only [Act.put, qsA, qsB, qsC]
   refine tkL 7 hS ?_
   try simp only [Act.put, qsA, qsB, qsC]
   refine tkL 8 hS ?_
   try simp only [Act.put, qsA, qsB, qsC]
   refine tkL 9 hS ?_
   try simp only [Act.put, qsA, qsB, qsC]
   refine tkL 10 hS ?_
   try simp only [Act.put, qsA, qsB, qsC]
   refine tkL 11 hS ?_
   try simp only [Act.put, qsA, qsB, qsC]
   refine tkL 12 hS ?_
   try simp only [Act.put, qsA, qsB, qsC]
   refine tkL 13 hS ?_
   try simp only [Act.put, qsA, qsB, qsC]
   refine tkL 14 hS ?_
   try simp only [Act.put, qsA, qsB, qsC]
   refine tkR 15 fun K hK => ?_
   go_simp
   refine ((HG.out wd V1 Bu1 hk1)).mono ?_
   rintro (e w2 ⟨v2, rfl, ⟨A2, c2, rfl, hl2, hm2, hk2⟩, T2⟩)
   refine hK.out _ _ (fun _ => TwS.of (T2.blk V1 ky1 (by decide) (by decide)) (T2.blk V1 kx1 (by decide) (by decide))) (fun hS => ?_)
   clear hK K
   replace hS := hS rfl
   try simp only [Act.put, qsA, qsB, qsC]
   have ky2 := T2.blk V1 ky1 (by decide) (by decide)
   have kx2 := T2.blk V1 kx1 (by decide) (by decide)
   have B2 := B1.trans (T2.far.below (by have := B1.size; omega) (fun k hk e => by rcases e with rfl | ⟨e, _⟩ <;> omega))
   refine tkL 16 hS ?_
   try simp only [Act.put, qsA, qsB, qsC]
   refine tkV 17 ?_
   try simp only [Act.put, qsA, qsB, qsC]
   refine tkV 18 ?_
   try simp only [Act.put, qsA, qsB, qsC]
   refine tkV 19 ?_
   try simp only [Act.put, qsA, qsB, qsC]
   refine tkV 20 ?_
   try simp only [Act.put, qsA, qsB, qsC]
   have F3 := putT_far w2 y sr (.slice A2 sr.kept.length c2)
   have ky3 := putT_blk ky2 sr (.slice A2 sr.kept.length c2)
   have kx3 := F3.blk kx2 (fun e => by have e : x = y := e; rw [e] at kx2; exact kx2.ne ky2 (by decide))
   have T3 := PlyAt.putR hlo hinv T2 ky2 hk2 hl2 hm2 F3 ky3
   have B3 := B2.trans (F3.below (Nat.le_trans hN B2.size) (fun k hk e => by have e : k = y := e; omega))
   have cy2 := ky2.cell
   have fy2 := ky2.frozen
   refine tkR 21 fun KK hKK => ?_
   go_simp
   refine hKK.out _ (putT w2 y sr (.slice A2 sr.kept.length c2)) (fun h => absurd h (by decide)) (fun _ => ?_)
   clear hKK KK
   generalize putT w2 y sr (.slice A2 sr.kept.length c2) = w3 at *
   try simp only [Act.put, qsA, qsB, qsC]
   refine tkV 22 ?_
   try simp only [Act.put, qsA, qsB, qsC]
   refine wpAnyT_done (by kernel_rfl) ?_ _
   refine noPanic_normal ?_
   go_wp2_with fail
   go_ret
   exact ⟨⟨_, rfl⟩, T3, B3⟩
 rw [if_neg c1] at hR
 by_cases c2 : m < 6
 ·rw [if_pos c2] at hR
  have HG := Lib.hid (fun W h3 => shrink_any r b A cap W hl hm h3)
  generalize shrinkC r b = S at *
  obtain ⟨sr, se⟩ := S
  simp only at HG hR
  subst hR
  simp only at hinv
  have hm4 : m = 4 ∨ m = 5 := by omega
  clear c1 c2 hm0
  rcases hm4 with rfl | rfl
  ·go_enter Tryz.func15, Tryz.ntmps15
   go_upto_region 1 with fail
   generalize w.alloc _ = w0 at *
   try simp only [hx]
   have cx := kx.cell
   go_upto_region 10 with fail
   have hbd := (Below.refl w0.heap.size w0).drew
   have V1 := V0.call hbd
   have Bu1 := Bu0.call hbd
   have ky1 := ky0.call hbd
   have kx1 := kx.call hbd
   have hk1 := hk0.call hbd
   have B1 := B0.trans (hbd.mono (by have := B0.size; omega))
   refine wp_noPanic ?_
   refine wp_region_T (TwS y bs bb x r (.slice A r.kept.length cap) b) [0, 9, 10, 11, 12, 13, 14] (by kernel_rfl) ?_
   generalize w0.drew = wd at *
   have hS := TwS.of ky1 kx1
   dsimp only [TwS] at hS ⊢
   clear V0 Bu0 ky0 kx hk0 B0 cx hbd hb0
   refine tkV 0 ?_
   try simp only [Act.put, qsA, qsB, qsC]
   refine tkL 1 hS ?_
   try simp only [Act.put, qsA, qsB, qsC]
   refine tkL 2 hS ?_
   try simp only [Act.put, qsA, qsB, qsC]
   refine tkL 3 hS ?_
   try simp only [Act.put, qsA, qsB, qsC]
   refine tkL 4 hS ?_
   try simp only [Act.put, qsA, qsB, qsC]
   refine tkL 5 hS ?_
   try simp only [Act.put, qsA, qsB, qsC]
   refine tkL 6 hS ?_
   try simp only [Act.put, qsA, qsB, qsC]
   refine tkR 7 fun K hK => ?_
   go_simp
   refine ((HG.out wd hk1)).mono ?_
   rintro (e w2 ⟨v2, rfl, ⟨A2, c2, rfl, hl2, hm2, hk2⟩, hb2⟩)
   refine hK.out _ _ (fun _ => TwS.of (ky1.call hb2) (kx1.call hb2)) (fun hS => ?_)
   clear hK K
   replace hS := hS rfl
   try simp only [Act.put, qsA, qsB, qsC]
   have T2 := BothTo.below V1 Bu1 hb2
   have ky2 := ky1.call hb2
   have kx2 := kx1.call hb2
   have B2 := B1.trans (hb2.mono (by have := B1.size; omega))
   refine tkL 8 hS ?_
   try simp only [Act.put, qsA, qsB, qsC]
   refine tkV 9 ?_
   try simp only [Act.put, qsA, qsB, qsC]
   refine tkV 10 ?_
   try simp only [Act.put, qsA, qsB, qsC]
   refine tkV 11 ?_
   try simp only [Act.put, qsA, qsB, qsC]
   refine tkV 12 ?_
   try simp only [Act.put, qsA, qsB, qsC]
   have F3 := putT_far w2 y sr (.slice A2 sr.kept.length c2)
   have ky3 := putT_blk ky2 sr (.slice A2 sr.kept.length c2)
   have kx3 := F3.blk kx2 (fun e => by have e : x = y := e; rw [e] at kx2; exact kx2.ne ky2 (by decide))
   have T3 := PlyAt.putR hlo hinv T2 ky2 hk2 hl2 hm2 F3 ky3
   have B3 := B2.trans (F3.below (Nat.le_trans hN B2.size) (fun k hk e => by have e : k = y := e; omega))
   have cy2 := ky2.cell
   have fy2 := ky2.frozen
   refine tkR 13 fun KK hKK => ?_
   go_simp
   refine hKK.out _ (putT w2 y sr (.slice A2 sr.kept.length c2)) (fun h => absurd h (by decide)) (fun _ => ?_)
   clear hKK KK
   generalize putT w2 y sr (.slice A2 sr.kept.length c2) = w3 at *
   try simp only [Act.put, qsA, qsB, qsC]
   refine tkV 14 ?_
   try simp only [Act.put, qsA, qsB, qsC]
   refine wpAnyT_done (by kernel_rfl) ?_ _
   refine noPanic_normal ?_
   go_wp2_with fail
   go_ret
   exact ⟨⟨_, rfl⟩, T3, B3⟩
  ·go_enter Tryz.func15, Tryz.ntmps15
   go_upto_region 1 with fail
   generalize w.alloc _ = w0 at *
   try simp only [hx]
   have cx := kx.cell
   go_upto_region 10 with fail
   have hbd := (Below.refl w0.heap.size w0).drew
   have V1 := V0.call hbd
   have Bu1 := Bu0.call hbd
   have ky1 := ky0.call hbd
   have kx1 := kx.call hbd
   have hk1 := hk0.call hbd
   have B1 := B0.trans (hbd.mono (by have := B0.size; omega))
   refine wp_noPanic ?_
   refine wp_region_T (TwS y bs bb x r (.slice A r.kept.length cap) b) [0, 9, 10, 11, 12, 13, 14] (by kernel_rfl) ?_
   generalize w0.drew = wd at *
   have hS := TwS.of ky1 kx1
   dsimp only [TwS] at hS ⊢
   clear V0 Bu0 ky0 kx hk0 B0 cx hbd hb0
   refine tkV 0 ?_
   try simp only [Act.put, qsA, qsB, qsC]
   refine tkL 1 hS ?_
   try simp only [Act.put, qsA, qsB, qsC]
   refine tkL 2 hS ?_
   try simp only [Act.put, qsA, qsB, qsC]
   refine tkL 3 hS ?_
   try simp only [Act.put, qsA, qsB, qsC]
   refine tkL 4 hS ?_
   try simp only [Act.put, qsA, qsB, qsC]
   refine tkL 5 hS ?_
   try simp only [Act.put, qsA, qsB, qsC]
   refine tkL 6 hS ?_
   try simp only [Act.put, qsA, qsB, qsC]
   refine tkR 7 fun K hK => ?_
   go_simp
   refine ((HG.out wd hk1)).mono ?_
   rintro (e w2 ⟨v2, rfl, ⟨A2, c2, rfl, hl2, hm2, hk2⟩, hb2⟩)
   refine hK.out _ _ (fun _ => TwS.of (ky1.call hb2) (kx1.call hb2)) (fun hS => ?_)
   clear hK K
   replace hS := hS rfl
   try simp only [Act.put, qsA, qsB, qsC]
   have T2 := BothTo.below V1 Bu1 hb2
   have ky2 := ky1.call hb2
   have kx2 := kx1.call hb2
   have B2 := B1.trans (hb2.mono (by have := B1.size; omega))
   refine tkL 8 hS ?_
   try simp only [Act.put, qsA, qsB, qsC]
   refine tkV 9 ?_
   try simp only [Act.put, qsA, qsB, qsC]
   refine tkV 10 ?_
   try simp only [Act.put, qsA, qsB, qsC]
   refine tkV 11 ?_
   try simp only [Act.put, qsA, qsB, qsC]
   refine tkV 12 ?_
   try simp only [Act.put, qsA, qsB, qsC]
   have F3 := putT_far w2 y sr (.slice A2 sr.kept.length c2)
   have ky3 := putT_blk ky2 sr (.slice A2 sr.kept.length c2)
   have kx3 := F3.blk kx2 (fun e => by have e : x = y := e; rw [e] at kx2; exact kx2.ne ky2 (by decide))
   have T3 := PlyAt.putR hlo hinv T2 ky2 hk2 hl2 hm2 F3 ky3
   have B3 := B2.trans (F3.below (Nat.le_trans hN B2.size) (fun k hk e => by have e : k = y := e; omega))
   have cy2 := ky2.cell
   have fy2 := ky2.frozen
   refine tkR 13 fun KK hKK => ?_
   go_simp
   refine hKK.out _ (putT w2 y sr (.slice A2 sr.kept.length c2)) (fun h => absurd h (by decide)) (fun _ => ?_)
   clear hKK KK
   generalize putT w2 y sr (.slice A2 sr.kept.length c2) = w3 at *
   try simp only [Act.put, qsA, qsB, qsC]
   refine tkV 14 ?_
   try simp only [Act.put, qsA, qsB, qsC]
   refine wpAnyT_done (by kernel_rfl) ?_ _
   refine noPanic_normal ?_
   go_wp2_with fail
   go_ret
   exact ⟨⟨_, rfl⟩, T3, B3⟩
 rw [if_neg c2] at hR
 by_cases c3 : m < 8
 ·rw [if_pos c3] at hR
  have HG := Lib.hid (fun W h1 h2 h3 => purge_any bs bb V L r b A cap W h1 hK h2 hO hnl hl hm h3 hb1 hb2)
  generalize purgeC V L r b = S at *
  obtain ⟨sr, se, sV, sL⟩ := S
  simp only at HG hR
  subst hR
  simp only at hinv
  have hm4 : m = 6 ∨ m = 7 := by omega
  clear c1 c2 c3 hm0
  rcases hm4 with rfl | rfl
  ·go_enter Tryz.func15, Tryz.ntmps15
   go_upto_region 1 with fail
   generalize w.alloc _ = w0 at *
   try simp only [hx]
   have cx := kx.cell
   go_upto_region 13 with fail
   have hbd := (Below.refl w0.heap.size w0).drew
   have V1 := V0.call hbd
   have Bu1 := Bu0.call hbd
   have ky1 := ky0.call hbd
   have kx1 := kx.call hbd
   have hk1 := hk0.call hbd
   have B1 := B0.trans (hbd.mono (by have := B0.size; omega))
   refine wp_noPanic ?_
   refine wp_region_T (TwS y bs bb x r (.slice A r.kept.length cap) b) [0, 17, 18, 19, 20, 21, 22] (by kernel_rfl) ?_
   generalize w0.drew = wd at *
   have hS := TwS.of ky1 kx1
   dsimp only [TwS] at hS ⊢
   clear V0 Bu0 ky0 kx hk0 B0 cx hbd hb0
   refine tkV 0 ?_
   try simp only [Act.put, qsA, qsB, qsC]
   refine tkL 1 hS ?_
   try simp only [Act.put, qsA, qsB, qsC]
   refine tkL 2 hS ?_
   try simp only [Act.put, qsA, qsB, qsC]
   refine tkL 3 hS ?_
   try simp only [Act.put, qsA, qsB, qsC]
   refine tkL 4 hS ?_
   try simp only [Act.put, qsA, qsB, qsC]
   refine tkL 5 hS ?_
   try simp only [Act.put, qsA, qsB, qsC]
   refine tkL 6 hS ?_
   try simp only [Act.put, qsA, qsB, qsC]
   refine tkL 7 hS ?_
   try simp only [Act.put, qsA, qsB, qsC]
   refine tkL 8 hS ?_
   try simp only [Act.put, qsA, qsB, qsC]
   refine tkL 9 hS ?_
   try simp only [Act.put, qsA, qsB, qsC]
   refine tkL 10 hS ?_
   try simp only [Act.put, qsA, qsB, qsC]
   refine tkL 11 hS ?_
   try simp only [Act.put, qsA, qsB, qsC]
   refine tkL 12 hS ?_
   try simp only [Act.put, qsA, qsB, qsC]
   refine tkL 13 hS ?_
   try simp only [Act.put, qsA, qsB, qsC]
   refine tkL 14 hS ?_
   try simp only [Act.put, qsA, qsB, qsC]
   refine tkR 15 fun K hK => ?_
   go_simp
   refine ((HG.out wd V1 Bu1 hk1)).mono ?_
   rintro (e w2 ⟨v2, rfl, ⟨A2, c2, rfl, hl2, hm2, hk2⟩, T2⟩)
   refine hK.out _ _ (fun _ => TwS.of (T2.blk V1 ky1 (by decide) (by decide)) (T2.blk V1 kx1 (by decide) (by decide))) (fun hS => ?_)
   clear hK K
   replace hS := hS rfl
   try simp only [Act.put, qsA, qsB, qsC]
   have ky2 := T2.blk V1 ky1 (by decide) (by decide)
   have kx2 := T2.blk V1 kx1 (by decide) (by decide)
   have B2 := B1.trans (T2.far.below (by have := B1.size; omega) (fun k hk e => by rcases e with rfl | ⟨e, _⟩ <;> omega))
   refine tkL 16 hS ?_
   try simp only [Act.put, qsA, qsB, qsC]
   refine tkV 17 ?_
   try simp only [Act.put, qsA, qsB, qsC]
   refine tkV 18 ?_
   try simp only [Act.put, qsA, qsB, qsC]
   refine tkV 19 ?_
   try simp only [Act.put, qsA, qsB, qsC]
   refine tkV 20 ?_
   try simp only [Act.put, qsA, qsB, qsC]
   have F3 := putT_far w2 y sr (.slice A2 sr.kept.length c2)
   have ky3 := putT_blk ky2 sr (.slice A2 sr.kept.length c2)
   have kx3 := F3.blk kx2 (fun e => by have e : x = y := e; rw [e] at kx2; exact kx2.ne ky2 (by decide))
   have T3 := PlyAt.putR hlo hinv T2 ky2 hk2 hl2 hm2 F3 ky3
   have B3 := B2.trans (F3.below (Nat.le_trans hN B2.size) (fun k hk e => by have e : k = y := e; omega))
   have cy2 := ky2.cell
   have fy2 := ky2.frozen
   refine tkR 21 fun KK hKK => ?_
   go_simp
   refine hKK.out _ (putT w2 y sr (.slice A2 sr.kept.length c2)) (fun h => absurd h (by decide)) (fun _ => ?_)
   clear hKK KK
   generalize putT w2 y sr (.slice A2 sr.kept.length c2) = w3 at *
   try simp only [Act.put, qsA, qsB, qsC]
   refine tkV 22 ?_
   try simp only [Act.put, qsA, qsB, qsC]
   refine wpAnyT_done (by kernel_rfl) ?_ _
   refine noPanic_normal ?_
   go_wp2_with fail
   go_ret
   exact ⟨⟨_, rfl⟩, T3, B3⟩
  ·go_enter Tryz.func15, Tryz.ntmps15
   go_upto_region 1 with fail
   generalize w.alloc _ = w0 at *
   try simp only [hx]
   have cx := kx.cell
   go_upto_region 13 with fail
   have hbd := (Below.refl w0.heap.size w0).drew
   have V1 := V0.call hbd
   have Bu1 := Bu0.call hbd
   have ky1 := ky0.call hbd
   have kx1 := kx.call hbd
   have hk1 := hk0.call hbd
   have B1 := B0.trans (hbd.mono (by have := B0.size; omega))
   refine wp_noPanic ?_
   refine wp_region_T (TwS y bs bb x r (.slice A r.kept.length cap) b) [0, 17, 18, 19, 20, 21, 22] (by kernel_rfl) ?_
   generalize w0.drew = wd at *
   have hS := TwS.of ky1 kx1
   dsimp only [TwS] at hS ⊢
   clear V0 Bu0 ky0 kx hk0 B0 cx hbd hb0
   refine tkV 0 ?_
   try simp only [Act.put, qsA, qsB, qsC]
   refine tkL 1 hS ?_
   try simp only [Act.put, qsA, qsB, qsC]
   refine tkL 2 hS ?_
   try simp only [Act.put, qsA, qsB, qsC]
   refine tkL 3 hS ?_
   try simp only [Act.put, qsA, qsB, qsC]
   refine tkL 4 hS ?_
   try simp only [Act.put, qsA, qsB, qsC]
   refine tkL 5 hS ?_
   try simp only [Act.put, qsA, qsB, qsC]
   refine tkL 6 hS ?_
   try simp only [Act.put, qsA, qsB, qsC]
   refine tkL 7 hS ?_
   try simp only [Act.put, qsA, qsB, qsC]
   refine tkL 8 hS ?_
   try simp only [Act.put, qsA, qsB, qsC]
   refine tkL 9 hS ?_
   try simp only [Act.put, qsA, qsB, qsC]
   refine tkL 10 hS ?_
   try simp only [Act.put, qsA, qsB, qsC]
   refine tkL 11 hS ?_
   try simp only [Act.put, qsA, qsB, qsC]
   refine tkL 12 hS ?_
   try simp only [Act.put, qsA, qsB, qsC]
   refine tkL 13 hS ?_
   try simp only [Act.put, qsA, qsB, qsC]
   refine tkL 14 hS ?_
   try simp only [Act.put, qsA, qsB, qsC]
   refine tkR 15 fun K hK => ?_
   go_simp
   refine ((HG.out wd V1 Bu1 hk1)).mono ?_
   rintro (e w2 ⟨v2, rfl, ⟨A2, c2, rfl, hl2, hm2, hk2⟩, T2⟩)
   refine hK.out _ _ (fun _ => TwS.of (T2.blk V1 ky1 (by decide) (by decide)) (T2.blk V1 kx1 (by decide) (by decide))) (fun hS => ?_)
   clear hK K
   replace hS := hS rfl
   try simp only [Act.put, qsA, qsB, qsC]
   have ky2 := T2.blk V1 ky1 (by decide) (by decide)
   have kx2 := T2.blk V1 kx1 (by decide) (by decide)
   have B2 := B1.trans (T2.far.below (by have := B1.size; omega) (fun k hk e => by rcases e with rfl | ⟨e, _⟩ <;> omega))
   refine tkL 16 hS ?_
   try simp only [Act.put, qsA, qsB, qsC]
   refine tkV 17 ?_
   try simp only [Act.put, qsA, qsB, qsC]
   refine tkV 18 ?_
   try simp only [Act.put, qsA, qsB, qsC]
   refine tkV 19 ?_
   try simp only [Act.put, qsA, qsB, qsC]
   refine tkV 20 ?_
   try simp only [Act.put, qsA, qsB, qsC]
   have F3 := putT_far w2 y sr (.slice A2 sr.kept.length c2)
   have ky3 := putT_blk ky2 sr (.slice A2 sr.kept.length c2)
   have kx3 := F3.blk kx2 (fun e => by have e : x = y := e; rw [e] at kx2; exact kx2.ne ky2 (by decide))
   have T3 := PlyAt.putR hlo hinv T2 ky2 hk2 hl2 hm2 F3 ky3
   have B3 := B2.trans (F3.below (Nat.le_trans hN B2.size) (fun k hk e => by have e : k = y := e; omega))
   have cy2 := ky2.cell
   have fy2 := ky2.frozen
   refine tkR 21 fun KK hKK => ?_
   go_simp
   refine hKK.out _ (putT w2 y sr (.slice A2 sr.kept.length c2)) (fun h => absurd h (by decide)) (fun _ => ?_)
   clear hKK KK
   generalize putT w2 y sr (.slice A2 sr.kept.length c2) = w3 at *
   try simp only [Act.put, qsA, qsB, qsC]
   refine tkV 22 ?_
   try simp only [Act.put, qsA, qsB, qsC]
   refine wpAnyT_done (by kernel_rfl) ?_ _
   refine noPanic_normal ?_
   go_wp2_with fail
   go_ret
   exact ⟨⟨_, rfl⟩, T3, B3⟩
 rw [if_neg c3] at hR
 by_cases c4 : m = 8
 ·rw [if_pos c4] at hR
  have HN := Lib.hid (fun W => refNth_any r.pg r.n r.f r.bk r.ev b W (nthC r b) rfl)
  have hng := Lib.hid (nthC_range (r := r) (i := b))
  unfold planV at HN
  generalize nthC r b = S at *
  obtain ⟨sp, se⟩ := S
  simp only at HN hR hng
  clear c1 c2 c3 hm0
  subst c4
  go_enter Tryz.func15, Tryz.ntmps15
  go_upto_region 1 with fail
  generalize w.alloc _ = w0 at *
  try simp only [hx]
  have cx := kx.cell
  go_upto_region 15 with fail
  have hbd := (Below.refl w0.heap.size w0).drew
  have V1 := V0.call hbd
  have Bu1 := Bu0.call hbd
  have ky1 := ky0.call hbd
  have kx1 := kx.call hbd
  have hk1 := hk0.call hbd
  have B1 := B0.trans (hbd.mono (by have := B0.size; omega))
  refine wp_noPanic ?_
  refine wp_region_T (TwS y bs bb x r (.slice A r.kept.length cap) b) [] (by kernel_rfl) ?_
  generalize w0.drew = wd at *
  have hS := TwS.of ky1 kx1
  dsimp only [TwS] at hS ⊢
  clear V0 Bu0 ky0 kx hk0 B0 cx hbd hb0
  refine tkQ 0 hS ?_
  try simp only [Act.put, qsA, qsB, qsC]
  refine tkQ 1 hS ?_
  try simp only [Act.put, qsA, qsB, qsC]
  refine tkQ 2 hS ?_
  try simp only [Act.put, qsA, qsB, qsC]
  refine tkQ 3 hS ?_
  try simp only [Act.put, qsA, qsB, qsC]
  refine tkQ 4 hS ?_
  try simp only [Act.put, qsA, qsB, qsC]
  refine tkQ 5 hS ?_
  try simp only [Act.put, qsA, qsB, qsC]
  refine tkQ 6 hS ?_
  try simp only [Act.put, qsA, qsB, qsC]
  refine tkR 7 fun K hK => ?_
  go_simp
  refine ((HN.out wd)).mono ?_
  rintro (e w2 ⟨rfl, hb2⟩)
  refine hK.out _ _ (fun _ => TwS.of (ky1.call hb2) (kx1.call hb2)) (fun hS => ?_)
  clear hK K
  replace hS := hS rfl
  try simp only [Act.put, qsA, qsB, qsC]
  refine tkQ 8 hS ?_
  try simp only [Act.put, qsA, qsB, qsC]
  refine tkQ 9 hS ?_
  try simp only [Act.put, qsA, qsB, qsC]
  refine tkQ 10 hS ?_
  try simp only [Act.put, qsA, qsB, qsC]
  refine tkQ 11 hS ?_
  try simp only [Act.put, qsA, qsB, qsC]
  refine tkQ 12 hS ?_
  try simp only [Act.put, qsA, qsB, qsC]
  refine wpAnyT_done (by kernel_rfl) ?_ _
  refine noPanic_normal ?_
  have V2 := V1.call hb2
  have Bu2 := Bu1.call hb2
  have ky2 := ky1.call hb2
  have hk2 := hk1.call hb2
  have B2 := B1.trans (hb2.mono (by have := B1.size; omega))
  have cy2 := ky2.cell
  clear V1 Bu1 ky1 hk1 B1 hS hb2 kx1
  by_cases hse : se = 0
  ·subst hse
   rw [if_pos rfl] at hR
   subst hR
   simp only at hinv
   obtain ⟨hp0, hp1⟩ := hng.out rfl
   obtain ⟨u, hu⟩ : ∃ u, sp % 64 = u := ⟨_, rfl⟩
   obtain ⟨q, hq⟩ : ∃ q, sp % 200 = q := ⟨_, rfl⟩
   have tu : Int.tmod sp 64 = u := by rw [Int.tmod_eq_emod_of_nonneg hp0]; exact hu
   have tq : Int.tmod sp 200 = q := by rw [Int.tmod_eq_emod_of_nonneg hp0]; exact hq
   have hu2 : 0 ≤ u ∧ u < 64 := by omega
   have hq2 : 0 ≤ q ∧ q < 200 := by omega
   have hw8 : IntKind.u8.wrap (1 + q) = 1 + q := IntWalk.u8_in _ (by omega)
   have HW := Lib.hid (write_any bs (sp * 64 + u) (1 + q) V w2 V2)
   have huH := Lib.hid hu
   have hqH := Lib.hid hq
   clear hu hq
   go_wp2_with fail
   refine HW.out.mono ?_
   rintro e w3 ⟨rfl, h3⟩
   have hE : writeF V (sp * 64 + u) (1 + q) = writeF V (sp * 64 + sp % 64) (1 + sp % 200) := by rw [huH.out, hqH.out]
   rw [hE] at h3
   clear hE huH hqH tu tq
   have ky3 := h3.blk V2 ky2 (by decide)
   have T3 := BothTo.bySys V2 Bu2 h3
   have hk3 := T3.kept V2 hk2
   go_wp2_with fail
   go_ret
   exact ⟨⟨_, rfl⟩, ⟨h3.1, T3.bud, ⟨A, cap, ky3, hk3, hl, hm⟩, hlo, hinv⟩, B2.trans (h3.2.below (by have := B2.size; omega) (fun k hk e => by have e : k = bs := e; omega))⟩
  ·have d1 : (se == 0) = false := by simpa using hse
   rw [if_neg hse] at hR
   subst hR
   simp only at hinv
   clear hse
   go_wp2_with fail
   go_ret
   exact ⟨⟨_, rfl⟩, ⟨V2, Bu2, ⟨A, cap, ky2, hk2, hl, hm⟩, hlo, hinv⟩, B2⟩
 rw [if_neg c4] at hR
 by_cases c5 : m = 10
 ·rw [if_pos c5] at hR
  have HG := Lib.hid (fun W h2 => setLimB_any bb 1 b L W h2 hO (by rw [h2len]; decide))
  generalize setLimB L 1 b = S at *
  obtain ⟨se, sL⟩ := S
  simp only at HG hR
  rw [show ((1 : Nat) : Int) = 1 from rfl] at HG
  subst hR
  simp only at hinv
  clear c1 c2 c3 c4 hm0
  subst c5
  go_enter Tryz.func15, Tryz.ntmps15
  go_upto_region 1 with fail
  generalize w.alloc _ = w0 at *
  try simp only [hx]
  have cx := kx.cell
  go_upto_region 20 with fail
  have hbd := (Below.refl w0.heap.size w0).drew
  have V1 := V0.call hbd
  have Bu1 := Bu0.call hbd
  have ky1 := ky0.call hbd
  have kx1 := kx.call hbd
  have hk1 := hk0.call hbd
  have B1 := B0.trans (hbd.mono (by have := B0.size; omega))
  refine wp_noPanic ?_
  refine wp_region_T (TwS y bs bb x r (.slice A r.kept.length cap) b) [] (by kernel_rfl) ?_
  generalize w0.drew = wd at *
  have hS := TwS.of ky1 kx1
  dsimp only [TwS] at hS ⊢
  clear V0 Bu0 ky0 kx hk0 B0 cx hbd hb0
  refine tkQ 0 hS ?_
  try simp only [Act.put, qsA, qsB, qsC]
  refine tkQ 1 hS ?_
  try simp only [Act.put, qsA, qsB, qsC]
  refine tkQ 2 hS ?_
  try simp only [Act.put, qsA, qsB, qsC]
  refine tkQ 3 hS ?_
  try simp only [Act.put, qsA, qsB, qsC]
  refine tkQ 4 hS ?_
  try simp only [Act.put, qsA, qsB, qsC]
  refine tkQ 5 hS ?_
  try simp only [Act.put, qsA, qsB, qsC]
  refine tkR 6 fun K hK => ?_
  go_simp
  refine ((HG.out wd Bu1)).mono ?_
  rintro (e w2 ⟨rfl, h2⟩)
  refine hK.out _ _ (fun _ => TwS.of ((BothTo.byBud V1 h2).blk V1 ky1 (by decide) (by decide)) ((BothTo.byBud V1 h2).blk V1 kx1 (by decide) (by decide))) (fun hS => ?_)
  clear hK K
  replace hS := hS rfl
  try simp only [Act.put, qsA, qsB, qsC]
  have T2 := BothTo.byBud V1 h2
  refine tkQ 7 hS ?_
  try simp only [Act.put, qsA, qsB, qsC]
  refine wpAnyT_done (by kernel_rfl) ?_ _
  refine noPanic_normal ?_
  go_wp2_with fail
  go_ret
  exact ⟨⟨_, rfl⟩, ⟨T2.sys, T2.bud, ⟨A, cap, T2.blk V1 ky1 (by decide) (by decide), T2.kept V1 hk1, hl, hm⟩, hlo, hinv⟩, B1.trans (T2.far.below (by have := B1.size; omega) (fun k hk e => by rcases e with rfl | ⟨e, _⟩ <;> omega))⟩
 rw [if_neg c5] at hR
 by_cases c6 : m = 11
 ·rw [if_pos c6] at hR
  have HG := Lib.hid (fun W h1 h2 h3 => cmClose_any bs bb V L r A cap W h1 hK h2 hO hnl hl hm h3)
  generalize closeC V L r = S at *
  obtain ⟨sr, se, sV, sL⟩ := S
  simp only at HG hR
  subst hR
  simp only at hinv
  clear c1 c2 c3 c4 c5 hm0
  subst c6
  go_enter Tryz.func15, Tryz.ntmps15
  go_upto_region 1 with fail
  generalize w.alloc _ = w0 at *
  try simp only [hx]
  have cx := kx.cell
  go_upto_region 22 with fail
  have hbd := (Below.refl w0.heap.size w0).drew
  have V1 := V0.call hbd
  have Bu1 := Bu0.call hbd
  have ky1 := ky0.call hbd
  have kx1 := kx.call hbd
  have hk1 := hk0.call hbd
  have B1 := B0.trans (hbd.mono (by have := B0.size; omega))
  refine wp_noPanic ?_
  refine wp_region_T (TwS y bs bb x r (.slice A r.kept.length cap) b) [0, 15, 16, 17, 18, 19, 20] (by kernel_rfl) ?_
  generalize w0.drew = wd at *
  have hS := TwS.of ky1 kx1
  dsimp only [TwS] at hS ⊢
  clear V0 Bu0 ky0 kx hk0 B0 cx hbd hb0
  refine tkV 0 ?_
  try simp only [Act.put, qsA, qsB, qsC]
  refine tkL 1 hS ?_
  try simp only [Act.put, qsA, qsB, qsC]
  refine tkL 2 hS ?_
  try simp only [Act.put, qsA, qsB, qsC]
  refine tkL 3 hS ?_
  try simp only [Act.put, qsA, qsB, qsC]
  refine tkL 4 hS ?_
  try simp only [Act.put, qsA, qsB, qsC]
  refine tkL 5 hS ?_
  try simp only [Act.put, qsA, qsB, qsC]
  refine tkL 6 hS ?_
  try simp only [Act.put, qsA, qsB, qsC]
  refine tkL 7 hS ?_
  try simp only [Act.put, qsA, qsB, qsC]
  refine tkL 8 hS ?_
  try simp only [Act.put, qsA, qsB, qsC]
  refine tkL 9 hS ?_
  try simp only [Act.put, qsA, qsB, qsC]
  refine tkL 10 hS ?_
  try simp only [Act.put, qsA, qsB, qsC]
  refine tkL 11 hS ?_
  try simp only [Act.put, qsA, qsB, qsC]
  refine tkL 12 hS ?_
  try simp only [Act.put, qsA, qsB, qsC]
  refine tkR 13 fun K hK => ?_
  go_simp
  refine ((HG.out wd V1 Bu1 hk1)).mono ?_
  rintro (e w2 ⟨v2, rfl, ⟨A2, c2, rfl, hl2, hm2, hk2⟩, T2⟩)
  refine hK.out _ _ (fun _ => TwS.of (T2.blk V1 ky1 (by decide) (by decide)) (T2.blk V1 kx1 (by decide) (by decide))) (fun hS => ?_)
  clear hK K
  replace hS := hS rfl
  try simp only [Act.put, qsA, qsB, qsC]
  have ky2 := T2.blk V1 ky1 (by decide) (by decide)
  have kx2 := T2.blk V1 kx1 (by decide) (by decide)
  have B2 := B1.trans (T2.far.below (by have := B1.size; omega) (fun k hk e => by rcases e with rfl | ⟨e, _⟩ <;> omega))
  refine tkL 14 hS ?_
  try simp only [Act.put, qsA, qsB, qsC]
  refine tkV 15 ?_
  try simp only [Act.put, qsA, qsB, qsC]
  refine tkV 16 ?_
  try simp only [Act.put, qsA, qsB, qsC]
  refine tkV 17 ?_
  try simp only [Act.put, qsA, qsB, qsC]
  refine tkV 18 ?_
  try simp only [Act.put, qsA, qsB, qsC]
  have F3 := putT_far w2 y sr (.slice A2 sr.kept.length c2)
  have ky3 := putT_blk ky2 sr (.slice A2 sr.kept.length c2)
  have kx3 := F3.blk kx2 (fun e => by have e : x = y := e; rw [e] at kx2; exact kx2.ne ky2 (by decide))
  have T3 := PlyAt.putR hlo hinv T2 ky2 hk2 hl2 hm2 F3 ky3
  have B3 := B2.trans (F3.below (Nat.le_trans hN B2.size) (fun k hk e => by have e : k = y := e; omega))
  have cy2 := ky2.cell
  have fy2 := ky2.frozen
  refine tkR 19 fun KK hKK => ?_
  go_simp
  refine hKK.out _ (putT w2 y sr (.slice A2 sr.kept.length c2)) (fun h => absurd h (by decide)) (fun _ => ?_)
  clear hKK KK
  generalize putT w2 y sr (.slice A2 sr.kept.length c2) = w3 at *
  try simp only [Act.put, qsA, qsB, qsC]
  refine tkV 20 ?_
  try simp only [Act.put, qsA, qsB, qsC]
  refine wpAnyT_done (by kernel_rfl) ?_ _
  refine noPanic_normal ?_
  go_wp2_with fail
  go_ret
  exact ⟨⟨_, rfl⟩, T3, B3⟩
 rw [if_neg c6] at hR
 obtain rfl : m = 9 := by omega
 subst hR
 clear c1 c2 c3 c4 c5 c6 hm0
 go_enter Tryz.func15, Tryz.ntmps15
 go_upto_region 1 with fail
 generalize w.alloc _ = w0 at *
 try simp only [hx]
 have cx := kx.cell
 go_wp2_with fail
 go_ret
 exact ⟨⟨_, rfl⟩, ⟨V0, Bu0, ⟨A, cap, ky0, hk0, hl, hm⟩, hlo, hinv⟩, B0⟩
end Go.Proofs.YtjmmgoijnhnnaaaGreat
