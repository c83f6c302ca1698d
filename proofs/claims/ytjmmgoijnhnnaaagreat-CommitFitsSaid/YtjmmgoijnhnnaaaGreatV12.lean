/- Merged texts. Walks of layer 12 (commit): one call of a play. -/
import Derived.Test.YtjmmgoijnhnnaaaGreatV11
namespace Go.Pol
open Go Go.RowKit
theorem wpAnyT_firstL {P : Program} {ops : Array Oper} {Q : Exit → Act → World → Prop} {md : Region.Mode} {S : World → Prop} {tl : List Nat} {i : Nat} {oi : Oper} {v : Value} (hi : ops[i]? = some oi) (hsel : ∀ (j : Nat) (o : Oper) cs b, ops[j]? = some o → o.op ≠ .select cs b)
  (hQ : ∀ c a w, Q (.panic c) (a.put oi.dst v) w → Q (.panic c) a w) :
  ∀ (fuel : Nat) (listed : Array Bool) (a : Act) (w : World), Closed md ops listed → (∀ t ∈ tl, listed.getD t false = true ∨ t ∈ waitsL md ops i ops.size) →
   (∀ j oj, ops[j]? = some oj → j ≠ i → listed.getD j true = false → (∀ e ∈ oj.after, Region.binds md e = true → e.on ≠ i) → oi.apart ops oj = true) →
   i ∈ Region.ready md ops listed → YieldsIf P ops S oi v a → S w →
   wpAnyT P md ops Q S tl fuel (listed.setIfInBounds i true) (a.put oi.dst v) w → wpAnyT P md ops Q S tl (fuel + 1) listed a w := by
 intro fuel
 induction fuel with
 | zero =>
  intro listed a w hcl _ _ hr hy hS H
  refine ⟨fun h => (by rw [h] at hr; cases hr), fun j hj => ?_⟩
  by_cases hji : j = i
  ·subst hji; exact hy.wpOp hi hS ⟨fun _ => hS, H⟩
  ·have := ready_mono hj hji
   rw [H.1] at this
   cases this
 | succ fuel ih =>
  intro listed a w hcl htl hfree hr hy hS H
  refine ⟨fun h => (by rw [h] at hr; cases hr), fun j hj => ?_⟩
  by_cases hji : j = i
  ·subst hji; exact hy.wpOp hi hS ⟨fun _ => hS, H⟩
  ·have h1 := H.2 j (ready_mono hj hji)
   obtain ⟨hjun, oj, hoj, hall⟩ := mem_ready.1 hj
   have hun : listed.getD i false = false := getD_both (mem_ready.1 hr).1
   have hntl : tl.contains j = false := by
    cases h : tl.contains j with
    | false => rfl
    | true =>
     rcases htl j (by simpa using h) with h2 | h2
     ·have h3 := getD_both hjun
      rw [h3] at h2; cases h2
     ·exact absurd hj (waits_not hcl hun _ j h2).2
   have hnot : ∀ e ∈ oj.after, Region.binds md e = true → e.on ≠ i := fun e he hb heq => by
    have h1 := hall e he hb
    rw [heq, hun] at h1
    cases h1
   have h2 := wpOp_putIf hoj (hfree j oj hoj hji hjun hnot) (fun cs b => hsel i oi cs b hi) (fun cs b => hsel j oj cs b hoj) hQ hy h1
   have hfree' : ∀ k ok, ops[k]? = some ok → k ≠ i → (listed.setIfInBounds j true).getD k true = false →
     (∀ e ∈ ok.after, Region.binds md e = true → e.on ≠ i) → oi.apart ops ok = true := fun k ok hk hki hun hno => by
    refine hfree k ok hk hki ?_ hno
    by_cases hjk : j = k
    ·subst hjk; exact hjun
    ·rw [getD_set_ne true hjk] at hun; exact hun
   refine wpOp_mono (fun a' w' h3 => ⟨h3.2.1, ih (listed.setIfInBounds j true) a' w' (hcl.set hj) (fun t ht => (htl t ht).imp (fun h => getD_set_true h) id) hfree' (ready_mono hr (Ne.symm hji)) h3.1 (h3.2.1 hntl) ?_⟩) h2
   rw [Array.setIfInBounds_comm _ _ hji]
   exact h3.2.2
theorem wpAnyT_takeL {P : Program} {ops : Array Oper} {Q : Exit → Act → World → Prop} {md : Region.Mode} {S : World → Prop} {tl : List Nat} {i : Nat} {oi : Oper} {v : Value} {fuel : Nat} {listed : Array Bool} {a : Act} {w : World} (hi : ops[i]? = some oi)
  (hB : (Region.noSelect ops && Region.free md ops listed i && (Region.ready md ops listed).contains i && closedB md ops listed && tl.all (fun t => listed.getD t false || (waitsL md ops i ops.size).contains t)) = true)
  (hQ : ∀ c a w, Q (.panic c) (a.put oi.dst v) w → Q (.panic c) a w) (hy : YieldsIf P ops S oi v a) (hS : S w)
  (h : wpAnyT P md ops Q S tl fuel (listed.setIfInBounds i true) (a.put oi.dst v) w) : wpAnyT P md ops Q S tl (fuel + 1) listed a w := by
 simp only [Bool.and_eq_true] at hB
 obtain ⟨⟨⟨⟨h1, h2⟩, h3⟩, h4⟩, h5⟩ := hB
 exact wpAnyT_firstL hi (Region.noSelect_spec h1) hQ fuel listed a w (closed_of h4) (fun t ht => by simpa using List.all_eq_true.1 h5 t ht) (Region.free_spec hi h2) (by simpa using h3) hy hS h
def TwS (y bs bb x : Nat) (r : Cr) (v : Value) (b : Int) (W : World) : Prop := W.cell? ⟨y, 0, none⟩ = some (.pointer (some ⟨bs, 0, none⟩)) ∧ W.cell? ⟨y, 1, none⟩ = some (.pointer (some ⟨bb, 0, none⟩)) ∧ W.cell? ⟨y, 2, none⟩ = some (.int .i64 r.pg) ∧ W.cell? ⟨y, 3, none⟩ = some (.int .i64 r.n) ∧ W.cell? ⟨y, 4, none⟩ = some (.int .i64 r.f) ∧ W.cell? ⟨y, 5, none⟩ = some (.int .i64 r.bk) ∧ W.cell? ⟨y, 6, none⟩ = some (.int .i64 r.ev) ∧ W.cell? ⟨y, 7, none⟩ = some (.int .i64 r.node) ∧ W.cell? ⟨y, 8, none⟩ = some (.int .i64 r.live) ∧ W.cell? ⟨y, 9, none⟩ = some v ∧ W.cell? ⟨y, 10, none⟩ = some (.bool r.cl) ∧ W.cell? ⟨x, 1, none⟩ = some (.int .i64 b)
theorem TwS.of {y bs bb x : Nat} {r : Cr} {v : Value} {a b : Int} {W : World} {t u : TypeId} (h : Blk W y t (twC (some ⟨bs, 0, none⟩) (some ⟨bb, 0, none⟩) r v)) (k : Blk W x u #[.int .u8 a, .int .i64 b]) : TwS y bs bb x r v b W :=
 ⟨h.cell 0, h.cell 1, h.cell 2, h.cell 3, h.cell 4, h.cell 5, h.cell 6, h.cell 7, h.cell 8, h.cell 9, h.cell 10, k.cell 1⟩
def nthC (r : Cr) (i : Int) : Int × Int := if chkG r.pg r.n r.f r.bk r.ev = 0 then nthF (runsL r.pg r.n r.f r.bk r.ev) i else (0, chkG r.pg r.n r.f r.bk r.ev)
theorem PlyAt.putR {N y bs bb : Nat} {V : Vm} {L : List Nd} {r' : Cr} {w1 w2 w3 : World} {A : Option Addr} {cap : Nat} {cs : Array Value} (hlo : N ≤ y ∧ N ≤ bs ∧ N + 1 ≤ bb) (hinv : CmI V L r') (T : BothTo bs bb V L w1 w2) (ky : Blk w2 y 49 cs) (hk : KeptAt w2 A r'.kept) (hl : r'.kept.length ≤ cap) (hm : cap ≤ maxLen)
  (F : Far (fun k => k = y) w2 w3) (k3 : Blk w3 y 49 (twC (some ⟨bs, 0, none⟩) (some ⟨bb, 0, none⟩) r' (.slice A r'.kept.length cap))) : PlyAt w3 N y bs bb V L r' := by
 obtain ⟨cv, hcv⟩ := T.sys.typed
 obtain ⟨_, _, kq, _⟩ := T.bud.ex
 refine ⟨T.sys.far F (fun e => by have e : bs = y := e; rw [e] at hcv; exact hcv.ne ky (by decide)) (fun _ _ _ _ _ _ q _ _ _ ⟨_, hq⟩ e => by have e : q = y := e; rw [e] at hq; exact hq.ne ky (by decide)), T.bud.far F (fun e => by have e : bb = y := e; rw [e] at kq; exact kq.ne ky (by decide)) (fun q ⟨_, _, hq⟩ e => by have e : q = y := e; rw [e] at hq; exact hq.ne ky (by decide)), ⟨A, cap, k3, hk.far F (fun g cs hG e => by have e : g = y := e; rw [e] at hG; exact hG.ne ky (by decide)), hl, hm⟩, hlo, hinv⟩
end Go.Pol
namespace Go.Proofs.YtjmmgoijnhnnaaaGreat
open Go Go.Proofs Go.RowKit Go.Pol Go.Shelf
attribute [local go_sem] Oper.semAt_some Go.Pol.wide_fn Go.Pol.wide_depth Go.Pol.wide_fn' Go.Pol.wide_depth'
def acF (S : Vm × List Nd × Cr) (x : Int × Int) : Vm × List Nd × Cr :=
 if x.1 % 12 < 4 then ((growC S.1 S.2.1 S.2.2 x.2).2.2.1, (growC S.1 S.2.1 S.2.2 x.2).2.2.2, (growC S.1 S.2.1 S.2.2 x.2).1)
 else if x.1 % 12 < 6 then (S.1, S.2.1, (shrinkC S.2.2 x.2).1)
 else if x.1 % 12 < 8 then ((purgeC S.1 S.2.1 S.2.2 x.2).2.2.1, (purgeC S.1 S.2.1 S.2.2 x.2).2.2.2, (purgeC S.1 S.2.1 S.2.2 x.2).1)
 else if x.1 % 12 = 8 then (if (nthC S.2.2 x.2).2 = 0 then writeF S.1 ((nthC S.2.2 x.2).1 * 64 + (nthC S.2.2 x.2).1 % 64) (1 + (nthC S.2.2 x.2).1 % 200) else S.1, S.2.1, S.2.2)
 else if x.1 % 12 = 10 then (S.1, (setLimB S.2.1 1 x.2).2, S.2.2)
 else if x.1 % 12 = 11 then ((closeC S.1 S.2.1 S.2.2).2.2.1, (closeC S.1 S.2.1 S.2.2).2.2.2, (closeC S.1 S.2.1 S.2.2).1)
 else S
theorem purgeC_inv {V : Vm} {L : List Nd} {r : Cr} (h : CmI V L r) (k : Int) : CmI (purgeC V L r k).2.2.1 (purgeC V L r k).2.2.2 (purgeC V L r k).1 := by
 unfold Go.Proofs.YtjmmgoijnhnnaaaGreat.purgeC
 by_cases h1 : chkCm r ≠ 0
 ·rw [if_pos h1]; exact h
 rw [if_neg h1]
 have ho := chkCm_zero.1 (by simpa using h1)
 by_cases h2 : ¬ (askS r.kept (k, 1) = 0 ∧ (gapsF r.kept (k, 1)).isEmpty = true)
 ·rw [if_pos h2]; exact h
 rw [if_neg h2]
 have h2 := Decidable.not_not.1 h2
 have hv : vld (k, 1) = true := by
  have := h2.1
  unfold askS at this
  rw [if_pos (chkS_zero.2 ho.can)] at this
  by_cases hv : vld (k, 1) = true
  ·exact hv
  ·rw [if_neg hv] at this; exact absurd this (by decide)
 have hk : mem k r.kept = true := by rw [← has_one ho.can hv]; exact h2.2
 obtain ⟨a, b⟩ := h.purge ho hk
 have hnd : r.node.toNat = 1 := by rw [(h.of_ok ho).1]; rfl
 dsimp only
 rw [hnd]
 by_cases h3 : (bec V (nthF (runsL r.pg r.n r.f r.bk r.ev) k).1 1 3 2 1).1 ≠ 0
 ·rw [if_pos h3]; exact a h3
 ·rw [if_neg h3]; exact b (by simpa using h3)
theorem ac_inv {V : Vm} {L : List Nd} {r : Cr} (h : CmI V L r) (x : Int × Int) : CmI (acF (V, L, r) x).1 (acF (V, L, r) x).2.1 (acF (V, L, r) x).2.2 := by
 unfold acF
 dsimp only
 split
 ·exact h.grow _
 ·split
  ·exact h.shrink _
  ·split
   ·exact purgeC_inv h _
   ·split
    ·split
     ·exact h.write _ _
     ·exact h
    ·split
     ·exact h.limit _
     ·split
      ·exact h.close.1
      ·exact h
theorem nthC_range {r : Cr} {i : Int} : (nthC r i).2 = 0 → 0 ≤ (nthC r i).1 ∧ (nthC r i).1 < 1024 := fun h => by
 unfold nthC at h ⊢
 by_cases hc : chkG r.pg r.n r.f r.bk r.ev = 0
 ·rw [if_pos hc] at h ⊢
  have hp := chkG_zero.1 hc
  have hpos := runs_pos hp
  have hi : 0 ≤ i ∧ i < sumS (runsL r.pg r.n r.f r.bk r.ev) := by
   rw [nthF_pages _ _ hpos, nthP] at h
   split at h
   ·exact absurd h (by decide)
   ·have := pagesOf_len (runsL r.pg r.n r.f r.bk r.ev) (fun x hx => by have := hpos x hx; omega)
    omega
  have := parts_nth hp i.toNat (by omega)
  rw [show ((i.toNat : Nat) : Int) = i by omega] at this
  rw [this.1]
  exact ⟨this.2.2.2.1, this.2.2.2.2.1⟩
 ·rw [if_neg hc] at h
  exact absurd h hc
theorem hnl_of {V : Vm} {L : List Nd} {r : Cr} (h : CmI V L r) : chkCm r = 0 → r.node.toNat < L.length := fun hc => by
 rw [(h.of_ok (chkCm_zero.1 hc)).1, h.two]; decide
set_option maxRecDepth 100000 in
set_option maxHeartbeats 6400000 in
theorem alone_any (N y bs bb : Nat) (V : Vm) (L : List Nd) (r : Cr) (a b : Int) (w : World) (h : PlyAt w N y bs bb V L r) (hN : N ≤ w.heap.size) (ha : 0 ≤ a ∧ a ≤ 255) (hb1 : -9223372036854775808 ≤ b) (hb2 : b ≤ 9223372036854775807) :
  Calls Tryz.prog 15 #[.pointer (some ⟨y, 0, none⟩), .agg #[.int .u8 a, .int .i64 b]] w fun e w' => (∃ er : Int, e = .returned (.int .i64 er)) ∧ PlyAt w' N y bs bb (acF (V, L, r) (a, b)).1 (acF (V, L, r) (a, b)).2.1 (acF (V, L, r) (a, b)).2.2 ∧ Below N w w' := by
 have hinv := ac_inv h.inv (a, b)
 have hlo := h.lo
 have hK := h.inv.kindOk
 have hO := h.inv.bok
 have hnl := hnl_of h.inv
 have h2len := h.inv.two
 obtain ⟨A, cap, ky, hk, hl, hm⟩ := h.two
 have hV := h.sys
 have hB := h.bud
 have hb0 := (Below.refl w.heap.size w).alloc (Nat.le_refl _) (.cells #[.int .u8 a, .int .i64 b] 51)
 have kx := Blk.new w 51 #[.int .u8 a, .int .i64 b]
 have V0 := hV.call hb0
 have Bu0 := hB.call hb0
 have ky0 := ky.call hb0
 have hk0 := hk.call hb0
 have B0 := hb0.mono hN
 obtain ⟨x, hx⟩ : ∃ x, w.heap.size = x := ⟨_, rfl⟩
 rw [hx] at kx
 obtain ⟨R, hR⟩ : ∃ R, acF (V, L, r) (a, b) = R := ⟨_, rfl⟩
 rw [hR] at hinv ⊢
 unfold acF at hR
 simp only at hR
 obtain ⟨m, hm12⟩ : ∃ m, a % 12 = m := ⟨_, rfl⟩
 have hm0 : 0 ≤ m ∧ m < 12 := by omega
 have ht : Int.tmod a 12 = m := by rw [Int.tmod_eq_emod_of_nonneg ha.1]; exact hm12
 rw [hm12] at hR
 clear h hV hB ky hk hm12
 by_cases c1 : m < 4
 ·rw [if_pos c1] at hR
  have HG := Lib.hid (fun W h1 h2 h3 => cmGrow_any bs bb V L r b A cap W h1 hK h2 hO hnl hl hm h3)
  generalize growC V L r b = S at *
  obtain ⟨sr, se, sV, sL⟩ := S
  simp only at HG hR
  subst hR
  simp only at hinv
  have hm4 : m = 0 ∨ m = 1 ∨ m = 2 ∨ m = 3 := by omega
  clear c1 hm0
  rcases hm4 with rfl | rfl | rfl | rfl
  ·go_enter Tryz.func15, Tryz.ntmps15
   go_upto_region 1 with fail
   generalize w.alloc _ = w0 at *
   try simp only [hx]
   have cx := kx.cell
   go_upto_region 7 with fail
   have hbd := (Below.refl w0.heap.size w0).drew
   have V1 := V0.call hbd
   have Bu1 := Bu0.call hbd
   have ky1 := ky0.call hbd
   have kx1 := kx.call hbd
   have hk1 := hk0.call hbd
   have B1 := B0.trans (hbd.mono (by have := B0.size; omega))
   refine wp_noPanic ?_
   refine wp_region_T (TwS y bs bb x r (.slice A r.kept.length cap) b) [0, 17, 18, 19, 20, 21, 22] (by kernel_rfl) ?_
   generalize w0.drew = wd at *
   have hS := TwS.of ky1 kx1
   dsimp only [TwS] at hS ⊢
   clear V0 Bu0 ky0 kx hk0 B0 cx hbd hb0
   refine' wpAnyT_takeV (i := 0) (v := _) ?hiT0spa (by kernel_rfl) ?hQT0spa (Or.inl ⟨?hwT0spa, ?hyT0spa⟩) ?reT0spa
   case hiT0spa => (simp only [List.getElem?_toArray, List.getElem?_cons_zero]; rfl)
   case hQT0spa => exact fun _ _ _ h => h
   case hwT0spa => rfl
   case hyT0spa => (intro wS hSw; go_simp; (try with_reducible rfl))
   try simp only [Act.put, List.setIfInBounds_toArray, List.set_cons_zero, List.set_cons_succ]
   refine' wpAnyT_takeL (i := 1) (v := _) ?hiT1spa (by kernel_rfl) ?hQT1spa (Or.inl ⟨?hwT1spa, ?hyT1spa⟩) hS ?reT1spa
   case hiT1spa => (simp only [List.getElem?_toArray, List.getElem?_cons_succ, List.getElem?_cons_zero]; rfl)
   case hQT1spa => exact fun _ _ _ h => h
   case hwT1spa => rfl
   case hyT1spa => (intro wS hSw; obtain ⟨_, _⟩ := hSw; go_simp; (try with_reducible rfl))
   try simp only [Act.put, List.setIfInBounds_toArray, List.set_cons_zero, List.set_cons_succ]
   refine' wpAnyT_takeL (i := 2) (v := _) ?hiT2spa (by kernel_rfl) ?hQT2spa (Or.inl ⟨?hwT2spa, ?hyT2spa⟩) hS ?reT2spa
   case hiT2spa => (simp only [List.getElem?_toArray, List.getElem?_cons_succ, List.getElem?_cons_zero]; rfl)
   case hQT2spa => exact fun _ _ _ h => h
   case hwT2spa => rfl
   case hyT2spa => (intro wS hSw; obtain ⟨_, _⟩ := hSw; go_simp; (try with_reducible rfl))
   try simp only [Act.put, List.setIfInBounds_toArray, List.set_cons_zero, List.set_cons_succ]
   refine' wpAnyT_takeL (i := 3) (v := _) ?hiT3spa (by kernel_rfl) ?hQT3spa (Or.inl ⟨?hwT3spa, ?hyT3spa⟩) hS ?reT3spa
   case hiT3spa => (simp only [List.getElem?_toArray, List.getElem?_cons_succ, List.getElem?_cons_zero]; rfl)
   case hQT3spa => exact fun _ _ _ h => h
   case hwT3spa => rfl
   case hyT3spa => (intro wS hSw; obtain ⟨_, _⟩ := hSw; go_simp; (try with_reducible rfl))
   try simp only [Act.put, List.setIfInBounds_toArray, List.set_cons_zero, List.set_cons_succ]
   refine' wpAnyT_takeL (i := 4) (v := _) ?hiT4spa (by kernel_rfl) ?hQT4spa (Or.inl ⟨?hwT4spa, ?hyT4spa⟩) hS ?reT4spa
   case hiT4spa => (simp only [List.getElem?_toArray, List.getElem?_cons_succ, List.getElem?_cons_zero]; rfl)
   case hQT4spa => exact fun _ _ _ h => h
   case hwT4spa => rfl
   case hyT4spa => (intro wS hSw; obtain ⟨_, _⟩ := hSw; go_simp; (try with_reducible rfl))
   try simp only [Act.put, List.setIfInBounds_toArray, List.set_cons_zero, List.set_cons_succ]
   refine' wpAnyT_takeL (i := 5) (v := _) ?hiT5spa (by kernel_rfl) ?hQT5spa (Or.inl ⟨?hwT5spa, ?hyT5spa⟩) hS ?reT5spa
   case hiT5spa => (simp only [List.getElem?_toArray, List.getElem?_cons_succ, List.getElem?_cons_zero]; rfl)
   case hQT5spa => exact fun _ _ _ h => h
   case hwT5spa => rfl
   case hyT5spa => (intro wS hSw; obtain ⟨_, _⟩ := hSw; go_simp; (try with_reducible rfl))
   try simp only [Act.put, List.setIfInBounds_toArray, List.set_cons_zero, List.set_cons_succ]
   refine' wpAnyT_takeL (i := 6) (v := _) ?hiT6spa (by kernel_rfl) ?hQT6spa (Or.inl ⟨?hwT6spa, ?hyT6spa⟩) hS ?reT6spa
   case hiT6spa => (simp only [List.getElem?_toArray, List.getElem?_cons_succ, List.getElem?_cons_zero]; rfl)
   case hQT6spa => exact fun _ _ _ h => h
   case hwT6spa => rfl
   case hyT6spa => (intro wS hSw; obtain ⟨_, _⟩ := hSw; go_simp; (try with_reducible rfl))
   try simp only [Act.put, List.setIfInBounds_toArray, List.set_cons_zero, List.set_cons_succ]
   refine' wpAnyT_takeL (i := 7) (v := _) ?hiT7spa (by kernel_rfl) ?hQT7spa (Or.inl ⟨?hwT7spa, ?hyT7spa⟩) hS ?reT7spa
   case hiT7spa => (simp only [List.getElem?_toArray, List.getElem?_cons_succ, List.getElem?_cons_zero]; rfl)
   case hQT7spa => exact fun _ _ _ h => h
   case hwT7spa => rfl
   case hyT7spa => (intro wS hSw; obtain ⟨_, _⟩ := hSw; go_simp; (try with_reducible rfl))
   try simp only [Act.put, List.setIfInBounds_toArray, List.set_cons_zero, List.set_cons_succ]
   refine' wpAnyT_takeL (i := 8) (v := _) ?hiT8spa (by kernel_rfl) ?hQT8spa (Or.inl ⟨?hwT8spa, ?hyT8spa⟩) hS ?reT8spa
   case hiT8spa => (simp only [List.getElem?_toArray, List.getElem?_cons_succ, List.getElem?_cons_zero]; rfl)
   case hQT8spa => exact fun _ _ _ h => h
   case hwT8spa => rfl
   case hyT8spa => (intro wS hSw; obtain ⟨_, _⟩ := hSw; go_simp; (try with_reducible rfl))
   try simp only [Act.put, List.setIfInBounds_toArray, List.set_cons_zero, List.set_cons_succ]
   refine' wpAnyT_takeL (i := 9) (v := _) ?hiT9spa (by kernel_rfl) ?hQT9spa (Or.inl ⟨?hwT9spa, ?hyT9spa⟩) hS ?reT9spa
   case hiT9spa => (simp only [List.getElem?_toArray, List.getElem?_cons_succ, List.getElem?_cons_zero]; rfl)
   case hQT9spa => exact fun _ _ _ h => h
   case hwT9spa => rfl
   case hyT9spa => (intro wS hSw; obtain ⟨_, _⟩ := hSw; go_simp; (try with_reducible rfl))
   try simp only [Act.put, List.setIfInBounds_toArray, List.set_cons_zero, List.set_cons_succ]
   refine' wpAnyT_takeL (i := 10) (v := _) ?hiT10spa (by kernel_rfl) ?hQT10spa (Or.inl ⟨?hwT10spa, ?hyT10spa⟩) hS ?reT10spa
   case hiT10spa => (simp only [List.getElem?_toArray, List.getElem?_cons_succ, List.getElem?_cons_zero]; rfl)
   case hQT10spa => exact fun _ _ _ h => h
   case hwT10spa => rfl
   case hyT10spa => (intro wS hSw; obtain ⟨_, _⟩ := hSw; go_simp; (try with_reducible rfl))
   try simp only [Act.put, List.setIfInBounds_toArray, List.set_cons_zero, List.set_cons_succ]
   refine' wpAnyT_takeL (i := 11) (v := _) ?hiT11spa (by kernel_rfl) ?hQT11spa (Or.inl ⟨?hwT11spa, ?hyT11spa⟩) hS ?reT11spa
   case hiT11spa => (simp only [List.getElem?_toArray, List.getElem?_cons_succ, List.getElem?_cons_zero]; rfl)
   case hQT11spa => exact fun _ _ _ h => h
   case hwT11spa => rfl
   case hyT11spa => (intro wS hSw; obtain ⟨_, _⟩ := hSw; go_simp; (try with_reducible rfl))
   try simp only [Act.put, List.setIfInBounds_toArray, List.set_cons_zero, List.set_cons_succ]
   refine' wpAnyT_takeL (i := 12) (v := _) ?hiT12spa (by kernel_rfl) ?hQT12spa (Or.inl ⟨?hwT12spa, ?hyT12spa⟩) hS ?reT12spa
   case hiT12spa => (simp only [List.getElem?_toArray, List.getElem?_cons_succ, List.getElem?_cons_zero]; rfl)
   case hQT12spa => exact fun _ _ _ h => h
   case hwT12spa => rfl
   case hyT12spa => (intro wS hSw; obtain ⟨_, _⟩ := hSw; go_simp; (try with_reducible rfl))
   try simp only [Act.put, List.setIfInBounds_toArray, List.set_cons_zero, List.set_cons_succ]
   refine' wpAnyT_takeL (i := 13) (v := _) ?hiT13spa (by kernel_rfl) ?hQT13spa (Or.inl ⟨?hwT13spa, ?hyT13spa⟩) hS ?reT13spa
   case hiT13spa => (simp only [List.getElem?_toArray, List.getElem?_cons_succ, List.getElem?_cons_zero]; rfl)
   case hQT13spa => exact fun _ _ _ h => h
   case hwT13spa => rfl
   case hyT13spa => (intro wS hSw; obtain ⟨_, _⟩ := hSw; go_simp; (try with_reducible rfl))
   try simp only [Act.put, List.setIfInBounds_toArray, List.set_cons_zero, List.set_cons_succ]
   refine' wpAnyT_takeL (i := 14) (v := _) ?hiT14spa (by kernel_rfl) ?hQT14spa (Or.inl ⟨?hwT14spa, ?hyT14spa⟩) hS ?reT14spa
   case hiT14spa => (simp only [List.getElem?_toArray, List.getElem?_cons_succ, List.getElem?_cons_zero]; rfl)
   case hQT14spa => exact fun _ _ _ h => h
   case hwT14spa => rfl
   case hyT14spa => (intro wS hSw; obtain ⟨_, _⟩ := hSw; go_simp; (try with_reducible rfl))
   try simp only [Act.put, List.setIfInBounds_toArray, List.set_cons_zero, List.set_cons_succ]
   refine wpAnyT_ready (rs := [15]) (by kernel_rfl) (by simp) ?_
   refine' AllReadyT.cons ?hic15spa (fun K hK => ?stc15spa) AllReadyT.nil
   case hic15spa => (simp only [List.getElem?_toArray, List.getElem?_cons_succ, List.getElem?_cons_zero]; rfl)
   go_simp
   refine ((HG.out wd V1 Bu1 hk1)).mono ?_
   rintro (e w2 ⟨v2, rfl, ⟨A2, c2, rfl, hl2, hm2, hk2⟩, T2⟩)
   refine hK.out _ _ (fun _ => TwS.of (T2.blk V1 ky1 (by decide) (by decide)) (T2.blk V1 kx1 (by decide) (by decide))) (fun hS => ?_)
   clear hK K
   replace hS := hS rfl
   try simp only [Act.put, List.setIfInBounds_toArray, List.set_cons_zero, List.set_cons_succ]
   have ky2 := T2.blk V1 ky1 (by decide) (by decide)
   have kx2 := T2.blk V1 kx1 (by decide) (by decide)
   have B2 := B1.trans (T2.far.below (by have := B1.size; omega) (fun k hk e => by rcases e with rfl | ⟨e, _⟩ <;> omega))
   refine' wpAnyT_takeL (i := 16) (v := _) ?hiT16spa (by kernel_rfl) ?hQT16spa (Or.inl ⟨?hwT16spa, ?hyT16spa⟩) hS ?reT16spa
   case hiT16spa => (simp only [List.getElem?_toArray, List.getElem?_cons_succ, List.getElem?_cons_zero]; rfl)
   case hQT16spa => exact fun _ _ _ h => h
   case hwT16spa => rfl
   case hyT16spa => (intro wS hSw; obtain ⟨_, _⟩ := hSw; go_simp; (try with_reducible rfl))
   try simp only [Act.put, List.setIfInBounds_toArray, List.set_cons_zero, List.set_cons_succ]
   refine' wpAnyT_takeV (i := 17) (v := _) ?hiT17spa (by kernel_rfl) ?hQT17spa (Or.inl ⟨?hwT17spa, ?hyT17spa⟩) ?reT17spa
   case hiT17spa => (simp only [List.getElem?_toArray, List.getElem?_cons_succ, List.getElem?_cons_zero]; rfl)
   case hQT17spa => exact fun _ _ _ h => h
   case hwT17spa => rfl
   case hyT17spa => (intro wS hSw; go_simp; (try with_reducible rfl))
   try simp only [Act.put, List.setIfInBounds_toArray, List.set_cons_zero, List.set_cons_succ]
   refine' wpAnyT_takeV (i := 18) (v := _) ?hiT18spa (by kernel_rfl) ?hQT18spa (Or.inl ⟨?hwT18spa, ?hyT18spa⟩) ?reT18spa
   case hiT18spa => (simp only [List.getElem?_toArray, List.getElem?_cons_succ, List.getElem?_cons_zero]; rfl)
   case hQT18spa => exact fun _ _ _ h => h
   case hwT18spa => rfl
   case hyT18spa => (intro wS hSw; go_simp; (try with_reducible rfl))
   try simp only [Act.put, List.setIfInBounds_toArray, List.set_cons_zero, List.set_cons_succ]
   refine' wpAnyT_takeV (i := 19) (v := _) ?hiT19spa (by kernel_rfl) ?hQT19spa (Or.inl ⟨?hwT19spa, ?hyT19spa⟩) ?reT19spa
   case hiT19spa => (simp only [List.getElem?_toArray, List.getElem?_cons_succ, List.getElem?_cons_zero]; rfl)
   case hQT19spa => exact fun _ _ _ h => h
   case hwT19spa => rfl
   case hyT19spa => (intro wS hSw; go_simp; (try with_reducible rfl))
   try simp only [Act.put, List.setIfInBounds_toArray, List.set_cons_zero, List.set_cons_succ]
   refine' wpAnyT_takeV (i := 20) (v := _) ?hiT20spa (by kernel_rfl) ?hQT20spa (Or.inl ⟨?hwT20spa, ?hyT20spa⟩) ?reT20spa
   case hiT20spa => (simp only [List.getElem?_toArray, List.getElem?_cons_succ, List.getElem?_cons_zero]; rfl)
   case hQT20spa => exact fun _ _ _ h => h
   case hwT20spa => rfl
   case hyT20spa => (intro wS hSw; go_simp; (try with_reducible rfl))
   try simp only [Act.put, List.setIfInBounds_toArray, List.set_cons_zero, List.set_cons_succ]
   have F3 := putT_far w2 y sr (.slice A2 sr.kept.length c2)
   have ky3 := putT_blk ky2 sr (.slice A2 sr.kept.length c2)
   have kx3 := F3.blk kx2 (fun e => by have e : x = y := e; rw [e] at kx2; exact kx2.ne ky2 (by decide))
   have T3 := PlyAt.putR hlo hinv T2 ky2 hk2 hl2 hm2 F3 ky3
   have B3 := B2.trans (F3.below (Nat.le_trans hN B2.size) (fun k hk e => by have e : k = y := e; omega))
   have cy2 := ky2.cell
   have fy2 := ky2.frozen
   refine wpAnyT_ready (rs := [21]) (by kernel_rfl) (by simp) ?_
   refine' AllReadyT.cons ?hi21spa (fun KK hKK => ?st21spa) AllReadyT.nil
   case hi21spa => (simp only [List.getElem?_toArray, List.getElem?_cons_succ, List.getElem?_cons_zero]; rfl)
   go_simp
   refine hKK.out _ (putT w2 y sr (.slice A2 sr.kept.length c2)) (fun h => absurd h (by decide)) (fun _ => ?_)
   clear hKK KK
   generalize putT w2 y sr (.slice A2 sr.kept.length c2) = w3 at *
   try simp only [Act.put, List.setIfInBounds_toArray, List.set_cons_zero, List.set_cons_succ]
   refine' wpAnyT_takeV (i := 22) (v := _) ?hiT22spa (by kernel_rfl) ?hQT22spa (Or.inl ⟨?hwT22spa, ?hyT22spa⟩) ?reT22spa
   case hiT22spa => (simp only [List.getElem?_toArray, List.getElem?_cons_succ, List.getElem?_cons_zero]; rfl)
   case hQT22spa => exact fun _ _ _ h => h
   case hwT22spa => rfl
   case hyT22spa => (intro wS hSw; go_simp; (try with_reducible rfl))
   try simp only [Act.put, List.setIfInBounds_toArray, List.set_cons_zero, List.set_cons_succ]
   refine wpAnyT_done (by kernel_rfl) ?_ _
   refine noPanic_normal ?_
   go_wp2_with fail
   go_ret
   exact ⟨⟨_, rfl⟩, T3, B3⟩
  ·go_enter Tryz.func15, Tryz.ntmps15
   go_upto_region 1 with fail
   generalize w.alloc _ = w0 at *
   try simp only [hx]
   have cx := kx.cell
   go_upto_region 7 with fail
   have hbd := (Below.refl w0.heap.size w0).drew
   have V1 := V0.call hbd
   have Bu1 := Bu0.call hbd
   have ky1 := ky0.call hbd
   have kx1 := kx.call hbd
   have hk1 := hk0.call hbd
   have B1 := B0.trans (hbd.mono (by have := B0.size; omega))
   refine wp_noPanic ?_
   refine wp_region_T (TwS y bs bb x r (.slice A r.kept.length cap) b) [0, 17, 18, 19, 20, 21, 22] (by kernel_rfl) ?_
   generalize w0.drew = wd at *
   have hS := TwS.of ky1 kx1
   dsimp only [TwS] at hS ⊢
   clear V0 Bu0 ky0 kx hk0 B0 cx hbd hb0
   refine' wpAnyT_takeV (i := 0) (v := _) ?hiT0spb (by kernel_rfl) ?hQT0spb (Or.inl ⟨?hwT0spb, ?hyT0spb⟩) ?reT0spb
   case hiT0spb => (simp only [List.getElem?_toArray, List.getElem?_cons_zero]; rfl)
   case hQT0spb => exact fun _ _ _ h => h
   case hwT0spb => rfl
   case hyT0spb => (intro wS hSw; go_simp; (try with_reducible rfl))
   try simp only [Act.put, List.setIfInBounds_toArray, List.set_cons_zero, List.set_cons_succ]
   refine' wpAnyT_takeL (i := 1) (v := _) ?hiT1spb (by kernel_rfl) ?hQT1spb (Or.inl ⟨?hwT1spb, ?hyT1spb⟩) hS ?reT1spb
   case hiT1spb => (simp only [List.getElem?_toArray, List.getElem?_cons_succ, List.getElem?_cons_zero]; rfl)
   case hQT1spb => exact fun _ _ _ h => h
   case hwT1spb => rfl
   case hyT1spb => (intro wS hSw; obtain ⟨_, _⟩ := hSw; go_simp; (try with_reducible rfl))
   try simp only [Act.put, List.setIfInBounds_toArray, List.set_cons_zero, List.set_cons_succ]
   refine' wpAnyT_takeL (i := 2) (v := _) ?hiT2spb (by kernel_rfl) ?hQT2spb (Or.inl ⟨?hwT2spb, ?hyT2spb⟩) hS ?reT2spb
   case hiT2spb => (simp only [List.getElem?_toArray, List.getElem?_cons_succ, List.getElem?_cons_zero]; rfl)
   case hQT2spb => exact fun _ _ _ h => h
   case hwT2spb => rfl
   case hyT2spb => (intro wS hSw; obtain ⟨_, _⟩ := hSw; go_simp; (try with_reducible rfl))
   try simp only [Act.put, List.setIfInBounds_toArray, List.set_cons_zero, List.set_cons_succ]
   refine' wpAnyT_takeL (i := 3) (v := _) ?hiT3spb (by kernel_rfl) ?hQT3spb (Or.inl ⟨?hwT3spb, ?hyT3spb⟩) hS ?reT3spb
   case hiT3spb => (simp only [List.getElem?_toArray, List.getElem?_cons_succ, List.getElem?_cons_zero]; rfl)
   case hQT3spb => exact fun _ _ _ h => h
   case hwT3spb => rfl
   case hyT3spb => (intro wS hSw; obtain ⟨_, _⟩ := hSw; go_simp; (try with_reducible rfl))
   try simp only [Act.put, List.setIfInBounds_toArray, List.set_cons_zero, List.set_cons_succ]
   refine' wpAnyT_takeL (i := 4) (v := _) ?hiT4spb (by kernel_rfl) ?hQT4spb (Or.inl ⟨?hwT4spb, ?hyT4spb⟩) hS ?reT4spb
   case hiT4spb => (simp only [List.getElem?_toArray, List.getElem?_cons_succ, List.getElem?_cons_zero]; rfl)
   case hQT4spb => exact fun _ _ _ h => h
   case hwT4spb => rfl
   case hyT4spb => (intro wS hSw; obtain ⟨_, _⟩ := hSw; go_simp; (try with_reducible rfl))
   try simp only [Act.put, List.setIfInBounds_toArray, List.set_cons_zero, List.set_cons_succ]
   refine' wpAnyT_takeL (i := 5) (v := _) ?hiT5spb (by kernel_rfl) ?hQT5spb (Or.inl ⟨?hwT5spb, ?hyT5spb⟩) hS ?reT5spb
   case hiT5spb => (simp only [List.getElem?_toArray, List.getElem?_cons_succ, List.getElem?_cons_zero]; rfl)
   case hQT5spb => exact fun _ _ _ h => h
   case hwT5spb => rfl
   case hyT5spb => (intro wS hSw; obtain ⟨_, _⟩ := hSw; go_simp; (try with_reducible rfl))
   try simp only [Act.put, List.setIfInBounds_toArray, List.set_cons_zero, List.set_cons_succ]
   refine' wpAnyT_takeL (i := 6) (v := _) ?hiT6spb (by kernel_rfl) ?hQT6spb (Or.inl ⟨?hwT6spb, ?hyT6spb⟩) hS ?reT6spb
   case hiT6spb => (simp only [List.getElem?_toArray, List.getElem?_cons_succ, List.getElem?_cons_zero]; rfl)
   case hQT6spb => exact fun _ _ _ h => h
   case hwT6spb => rfl
   case hyT6spb => (intro wS hSw; obtain ⟨_, _⟩ := hSw; go_simp; (try with_reducible rfl))
   try simp only [Act.put, List.setIfInBounds_toArray, List.set_cons_zero, List.set_cons_succ]
   refine' wpAnyT_takeL (i := 7) (v := _) ?hiT7spb (by kernel_rfl) ?hQT7spb (Or.inl ⟨?hwT7spb, ?hyT7spb⟩) hS ?reT7spb
   case hiT7spb => (simp only [List.getElem?_toArray, List.getElem?_cons_succ, List.getElem?_cons_zero]; rfl)
   case hQT7spb => exact fun _ _ _ h => h
   case hwT7spb => rfl
   case hyT7spb => (intro wS hSw; obtain ⟨_, _⟩ := hSw; go_simp; (try with_reducible rfl))
   try simp only [Act.put, List.setIfInBounds_toArray, List.set_cons_zero, List.set_cons_succ]
   refine' wpAnyT_takeL (i := 8) (v := _) ?hiT8spb (by kernel_rfl) ?hQT8spb (Or.inl ⟨?hwT8spb, ?hyT8spb⟩) hS ?reT8spb
   case hiT8spb => (simp only [List.getElem?_toArray, List.getElem?_cons_succ, List.getElem?_cons_zero]; rfl)
   case hQT8spb => exact fun _ _ _ h => h
   case hwT8spb => rfl
   case hyT8spb => (intro wS hSw; obtain ⟨_, _⟩ := hSw; go_simp; (try with_reducible rfl))
   try simp only [Act.put, List.setIfInBounds_toArray, List.set_cons_zero, List.set_cons_succ]
   refine' wpAnyT_takeL (i := 9) (v := _) ?hiT9spb (by kernel_rfl) ?hQT9spb (Or.inl ⟨?hwT9spb, ?hyT9spb⟩) hS ?reT9spb
   case hiT9spb => (simp only [List.getElem?_toArray, List.getElem?_cons_succ, List.getElem?_cons_zero]; rfl)
   case hQT9spb => exact fun _ _ _ h => h
   case hwT9spb => rfl
   case hyT9spb => (intro wS hSw; obtain ⟨_, _⟩ := hSw; go_simp; (try with_reducible rfl))
   try simp only [Act.put, List.setIfInBounds_toArray, List.set_cons_zero, List.set_cons_succ]
   refine' wpAnyT_takeL (i := 10) (v := _) ?hiT10spb (by kernel_rfl) ?hQT10spb (Or.inl ⟨?hwT10spb, ?hyT10spb⟩) hS ?reT10spb
   case hiT10spb => (simp only [List.getElem?_toArray, List.getElem?_cons_succ, List.getElem?_cons_zero]; rfl)
   case hQT10spb => exact fun _ _ _ h => h
   case hwT10spb => rfl
   case hyT10spb => (intro wS hSw; obtain ⟨_, _⟩ := hSw; go_simp; (try with_reducible rfl))
   try simp only [Act.put, List.setIfInBounds_toArray, List.set_cons_zero, List.set_cons_succ]
   refine' wpAnyT_takeL (i := 11) (v := _) ?hiT11spb (by kernel_rfl) ?hQT11spb (Or.inl ⟨?hwT11spb, ?hyT11spb⟩) hS ?reT11spb
   case hiT11spb => (simp only [List.getElem?_toArray, List.getElem?_cons_succ, List.getElem?_cons_zero]; rfl)
   case hQT11spb => exact fun _ _ _ h => h
   case hwT11spb => rfl
   case hyT11spb => (intro wS hSw; obtain ⟨_, _⟩ := hSw; go_simp; (try with_reducible rfl))
   try simp only [Act.put, List.setIfInBounds_toArray, List.set_cons_zero, List.set_cons_succ]
   refine' wpAnyT_takeL (i := 12) (v := _) ?hiT12spb (by kernel_rfl) ?hQT12spb (Or.inl ⟨?hwT12spb, ?hyT12spb⟩) hS ?reT12spb
   case hiT12spb => (simp only [List.getElem?_toArray, List.getElem?_cons_succ, List.getElem?_cons_zero]; rfl)
   case hQT12spb => exact fun _ _ _ h => h
   case hwT12spb => rfl
   case hyT12spb => (intro wS hSw; obtain ⟨_, _⟩ := hSw; go_simp; (try with_reducible rfl))
   try simp only [Act.put, List.setIfInBounds_toArray, List.set_cons_zero, List.set_cons_succ]
   refine' wpAnyT_takeL (i := 13) (v := _) ?hiT13spb (by kernel_rfl) ?hQT13spb (Or.inl ⟨?hwT13spb, ?hyT13spb⟩) hS ?reT13spb
   case hiT13spb => (simp only [List.getElem?_toArray, List.getElem?_cons_succ, List.getElem?_cons_zero]; rfl)
   case hQT13spb => exact fun _ _ _ h => h
   case hwT13spb => rfl
   case hyT13spb => (intro wS hSw; obtain ⟨_, _⟩ := hSw; go_simp; (try with_reducible rfl))
   try simp only [Act.put, List.setIfInBounds_toArray, List.set_cons_zero, List.set_cons_succ]
   refine' wpAnyT_takeL (i := 14) (v := _) ?hiT14spb (by kernel_rfl) ?hQT14spb (Or.inl ⟨?hwT14spb, ?hyT14spb⟩) hS ?reT14spb
   case hiT14spb => (simp only [List.getElem?_toArray, List.getElem?_cons_succ, List.getElem?_cons_zero]; rfl)
   case hQT14spb => exact fun _ _ _ h => h
   case hwT14spb => rfl
   case hyT14spb => (intro wS hSw; obtain ⟨_, _⟩ := hSw; go_simp; (try with_reducible rfl))
   try simp only [Act.put, List.setIfInBounds_toArray, List.set_cons_zero, List.set_cons_succ]
   refine wpAnyT_ready (rs := [15]) (by kernel_rfl) (by simp) ?_
   refine' AllReadyT.cons ?hic15spb (fun K hK => ?stc15spb) AllReadyT.nil
   case hic15spb => (simp only [List.getElem?_toArray, List.getElem?_cons_succ, List.getElem?_cons_zero]; rfl)
   go_simp
   refine ((HG.out wd V1 Bu1 hk1)).mono ?_
   rintro (e w2 ⟨v2, rfl, ⟨A2, c2, rfl, hl2, hm2, hk2⟩, T2⟩)
   refine hK.out _ _ (fun _ => TwS.of (T2.blk V1 ky1 (by decide) (by decide)) (T2.blk V1 kx1 (by decide) (by decide))) (fun hS => ?_)
   clear hK K
   replace hS := hS rfl
   try simp only [Act.put, List.setIfInBounds_toArray, List.set_cons_zero, List.set_cons_succ]
   have ky2 := T2.blk V1 ky1 (by decide) (by decide)
   have kx2 := T2.blk V1 kx1 (by decide) (by decide)
   have B2 := B1.trans (T2.far.below (by have := B1.size; omega) (fun k hk e => by rcases e with rfl | ⟨e, _⟩ <;> omega))
   refine' wpAnyT_takeL (i := 16) (v := _) ?hiT16spb (by kernel_rfl) ?hQT16spb (Or.inl ⟨?hwT16spb, ?hyT16spb⟩) hS ?reT16spb
   case hiT16spb => (simp only [List.getElem?_toArray, List.getElem?_cons_succ, List.getElem?_cons_zero]; rfl)
   case hQT16spb => exact fun _ _ _ h => h
   case hwT16spb => rfl
   case hyT16spb => (intro wS hSw; obtain ⟨_, _⟩ := hSw; go_simp; (try with_reducible rfl))
   try simp only [Act.put, List.setIfInBounds_toArray, List.set_cons_zero, List.set_cons_succ]
   refine' wpAnyT_takeV (i := 17) (v := _) ?hiT17spb (by kernel_rfl) ?hQT17spb (Or.inl ⟨?hwT17spb, ?hyT17spb⟩) ?reT17spb
   case hiT17spb => (simp only [List.getElem?_toArray, List.getElem?_cons_succ, List.getElem?_cons_zero]; rfl)
   case hQT17spb => exact fun _ _ _ h => h
   case hwT17spb => rfl
   case hyT17spb => (intro wS hSw; go_simp; (try with_reducible rfl))
   try simp only [Act.put, List.setIfInBounds_toArray, List.set_cons_zero, List.set_cons_succ]
   refine' wpAnyT_takeV (i := 18) (v := _) ?hiT18spb (by kernel_rfl) ?hQT18spb (Or.inl ⟨?hwT18spb, ?hyT18spb⟩) ?reT18spb
   case hiT18spb => (simp only [List.getElem?_toArray, List.getElem?_cons_succ, List.getElem?_cons_zero]; rfl)
   case hQT18spb => exact fun _ _ _ h => h
   case hwT18spb => rfl
   case hyT18spb => (intro wS hSw; go_simp; (try with_reducible rfl))
   try simp only [Act.put, List.setIfInBounds_toArray, List.set_cons_zero, List.set_cons_succ]
   refine' wpAnyT_takeV (i := 19) (v := _) ?hiT19spb (by kernel_rfl) ?hQT19spb (Or.inl ⟨?hwT19spb, ?hyT19spb⟩) ?reT19spb
   case hiT19spb => (simp only [List.getElem?_toArray, List.getElem?_cons_succ, List.getElem?_cons_zero]; rfl)
   case hQT19spb => exact fun _ _ _ h => h
   case hwT19spb => rfl
   case hyT19spb => (intro wS hSw; go_simp; (try with_reducible rfl))
   try simp only [Act.put, List.setIfInBounds_toArray, List.set_cons_zero, List.set_cons_succ]
   refine' wpAnyT_takeV (i := 20) (v := _) ?hiT20spb (by kernel_rfl) ?hQT20spb (Or.inl ⟨?hwT20spb, ?hyT20spb⟩) ?reT20spb
   case hiT20spb => (simp only [List.getElem?_toArray, List.getElem?_cons_succ, List.getElem?_cons_zero]; rfl)
   case hQT20spb => exact fun _ _ _ h => h
   case hwT20spb => rfl
   case hyT20spb => (intro wS hSw; go_simp; (try with_reducible rfl))
   try simp only [Act.put, List.setIfInBounds_toArray, List.set_cons_zero, List.set_cons_succ]
   have F3 := putT_far w2 y sr (.slice A2 sr.kept.length c2)
   have ky3 := putT_blk ky2 sr (.slice A2 sr.kept.length c2)
   have kx3 := F3.blk kx2 (fun e => by have e : x = y := e; rw [e] at kx2; exact kx2.ne ky2 (by decide))
   have T3 := PlyAt.putR hlo hinv T2 ky2 hk2 hl2 hm2 F3 ky3
   have B3 := B2.trans (F3.below (Nat.le_trans hN B2.size) (fun k hk e => by have e : k = y := e; omega))
   have cy2 := ky2.cell
   have fy2 := ky2.frozen
   refine wpAnyT_ready (rs := [21]) (by kernel_rfl) (by simp) ?_
   refine' AllReadyT.cons ?hi21spb (fun KK hKK => ?st21spb) AllReadyT.nil
   case hi21spb => (simp only [List.getElem?_toArray, List.getElem?_cons_succ, List.getElem?_cons_zero]; rfl)
   go_simp
   refine hKK.out _ (putT w2 y sr (.slice A2 sr.kept.length c2)) (fun h => absurd h (by decide)) (fun _ => ?_)
   clear hKK KK
   generalize putT w2 y sr (.slice A2 sr.kept.length c2) = w3 at *
   try simp only [Act.put, List.setIfInBounds_toArray, List.set_cons_zero, List.set_cons_succ]
   refine' wpAnyT_takeV (i := 22) (v := _) ?hiT22spb (by kernel_rfl) ?hQT22spb (Or.inl ⟨?hwT22spb, ?hyT22spb⟩) ?reT22spb
   case hiT22spb => (simp only [List.getElem?_toArray, List.getElem?_cons_succ, List.getElem?_cons_zero]; rfl)
   case hQT22spb => exact fun _ _ _ h => h
   case hwT22spb => rfl
   case hyT22spb => (intro wS hSw; go_simp; (try with_reducible rfl))
   try simp only [Act.put, List.setIfInBounds_toArray, List.set_cons_zero, List.set_cons_succ]
   refine wpAnyT_done (by kernel_rfl) ?_ _
   refine noPanic_normal ?_
   go_wp2_with fail
   go_ret
   exact ⟨⟨_, rfl⟩, T3, B3⟩
  ·go_enter Tryz.func15, Tryz.ntmps15
   go_upto_region 1 with fail
   generalize w.alloc _ = w0 at *
   try simp only [hx]
   have cx := kx.cell
   go_upto_region 7 with fail
   have hbd := (Below.refl w0.heap.size w0).drew
   have V1 := V0.call hbd
   have Bu1 := Bu0.call hbd
   have ky1 := ky0.call hbd
   have kx1 := kx.call hbd
   have hk1 := hk0.call hbd
   have B1 := B0.trans (hbd.mono (by have := B0.size; omega))
   refine wp_noPanic ?_
   refine wp_region_T (TwS y bs bb x r (.slice A r.kept.length cap) b) [0, 17, 18, 19, 20, 21, 22] (by kernel_rfl) ?_
   generalize w0.drew = wd at *
   have hS := TwS.of ky1 kx1
   dsimp only [TwS] at hS ⊢
   clear V0 Bu0 ky0 kx hk0 B0 cx hbd hb0
   refine' wpAnyT_takeV (i := 0) (v := _) ?hiT0spc (by kernel_rfl) ?hQT0spc (Or.inl ⟨?hwT0spc, ?hyT0spc⟩) ?reT0spc
   case hiT0spc => (simp only [List.getElem?_toArray, List.getElem?_cons_zero]; rfl)
   case hQT0spc => exact fun _ _ _ h => h
   case hwT0spc => rfl
   case hyT0spc => (intro wS hSw; go_simp; (try with_reducible rfl))
   try simp only [Act.put, List.setIfInBounds_toArray, List.set_cons_zero, List.set_cons_succ]
   refine' wpAnyT_takeL (i := 1) (v := _) ?hiT1spc (by kernel_rfl) ?hQT1spc (Or.inl ⟨?hwT1spc, ?hyT1spc⟩) hS ?reT1spc
   case hiT1spc => (simp only [List.getElem?_toArray, List.getElem?_cons_succ, List.getElem?_cons_zero]; rfl)
   case hQT1spc => exact fun _ _ _ h => h
   case hwT1spc => rfl
   case hyT1spc => (intro wS hSw; obtain ⟨_, _⟩ := hSw; go_simp; (try with_reducible rfl))
   try simp only [Act.put, List.setIfInBounds_toArray, List.set_cons_zero, List.set_cons_succ]
   refine' wpAnyT_takeL (i := 2) (v := _) ?hiT2spc (by kernel_rfl) ?hQT2spc (Or.inl ⟨?hwT2spc, ?hyT2spc⟩) hS ?reT2spc
   case hiT2spc => (simp only [List.getElem?_toArray, List.getElem?_cons_succ, List.getElem?_cons_zero]; rfl)
   case hQT2spc => exact fun _ _ _ h => h
   case hwT2spc => rfl
   case hyT2spc => (intro wS hSw; obtain ⟨_, _⟩ := hSw; go_simp; (try with_reducible rfl))
   try simp only [Act.put, List.setIfInBounds_toArray, List.set_cons_zero, List.set_cons_succ]
   refine' wpAnyT_takeL (i := 3) (v := _) ?hiT3spc (by kernel_rfl) ?hQT3spc (Or.inl ⟨?hwT3spc, ?hyT3spc⟩) hS ?reT3spc
   case hiT3spc => (simp only [List.getElem?_toArray, List.getElem?_cons_succ, List.getElem?_cons_zero]; rfl)
   case hQT3spc => exact fun _ _ _ h => h
   case hwT3spc => rfl
   case hyT3spc => (intro wS hSw; obtain ⟨_, _⟩ := hSw; go_simp; (try with_reducible rfl))
   try simp only [Act.put, List.setIfInBounds_toArray, List.set_cons_zero, List.set_cons_succ]
   refine' wpAnyT_takeL (i := 4) (v := _) ?hiT4spc (by kernel_rfl) ?hQT4spc (Or.inl ⟨?hwT4spc, ?hyT4spc⟩) hS ?reT4spc
   case hiT4spc => (simp only [List.getElem?_toArray, List.getElem?_cons_succ, List.getElem?_cons_zero]; rfl)
   case hQT4spc => exact fun _ _ _ h => h
   case hwT4spc => rfl
   case hyT4spc => (intro wS hSw; obtain ⟨_, _⟩ := hSw; go_simp; (try with_reducible rfl))
   try simp only [Act.put, List.setIfInBounds_toArray, List.set_cons_zero, List.set_cons_succ]
   refine' wpAnyT_takeL (i := 5) (v := _) ?hiT5spc (by kernel_rfl) ?hQT5spc (Or.inl ⟨?hwT5spc, ?hyT5spc⟩) hS ?reT5spc
   case hiT5spc => (simp only [List.getElem?_toArray, List.getElem?_cons_succ, List.getElem?_cons_zero]; rfl)
   case hQT5spc => exact fun _ _ _ h => h
   case hwT5spc => rfl
   case hyT5spc => (intro wS hSw; obtain ⟨_, _⟩ := hSw; go_simp; (try with_reducible rfl))
   try simp only [Act.put, List.setIfInBounds_toArray, List.set_cons_zero, List.set_cons_succ]
   refine' wpAnyT_takeL (i := 6) (v := _) ?hiT6spc (by kernel_rfl) ?hQT6spc (Or.inl ⟨?hwT6spc, ?hyT6spc⟩) hS ?reT6spc
   case hiT6spc => (simp only [List.getElem?_toArray, List.getElem?_cons_succ, List.getElem?_cons_zero]; rfl)
   case hQT6spc => exact fun _ _ _ h => h
   case hwT6spc => rfl
   case hyT6spc => (intro wS hSw; obtain ⟨_, _⟩ := hSw; go_simp; (try with_reducible rfl))
   try simp only [Act.put, List.setIfInBounds_toArray, List.set_cons_zero, List.set_cons_succ]
   refine' wpAnyT_takeL (i := 7) (v := _) ?hiT7spc (by kernel_rfl) ?hQT7spc (Or.inl ⟨?hwT7spc, ?hyT7spc⟩) hS ?reT7spc
   case hiT7spc => (simp only [List.getElem?_toArray, List.getElem?_cons_succ, List.getElem?_cons_zero]; rfl)
   case hQT7spc => exact fun _ _ _ h => h
   case hwT7spc => rfl
   case hyT7spc => (intro wS hSw; obtain ⟨_, _⟩ := hSw; go_simp; (try with_reducible rfl))
   try simp only [Act.put, List.setIfInBounds_toArray, List.set_cons_zero, List.set_cons_succ]
   refine' wpAnyT_takeL (i := 8) (v := _) ?hiT8spc (by kernel_rfl) ?hQT8spc (Or.inl ⟨?hwT8spc, ?hyT8spc⟩) hS ?reT8spc
   case hiT8spc => (simp only [List.getElem?_toArray, List.getElem?_cons_succ, List.getElem?_cons_zero]; rfl)
   case hQT8spc => exact fun _ _ _ h => h
   case hwT8spc => rfl
   case hyT8spc => (intro wS hSw; obtain ⟨_, _⟩ := hSw; go_simp; (try with_reducible rfl))
   try simp only [Act.put, List.setIfInBounds_toArray, List.set_cons_zero, List.set_cons_succ]
   refine' wpAnyT_takeL (i := 9) (v := _) ?hiT9spc (by kernel_rfl) ?hQT9spc (Or.inl ⟨?hwT9spc, ?hyT9spc⟩) hS ?reT9spc
   case hiT9spc => (simp only [List.getElem?_toArray, List.getElem?_cons_succ, List.getElem?_cons_zero]; rfl)
   case hQT9spc => exact fun _ _ _ h => h
   case hwT9spc => rfl
   case hyT9spc => (intro wS hSw; obtain ⟨_, _⟩ := hSw; go_simp; (try with_reducible rfl))
   try simp only [Act.put, List.setIfInBounds_toArray, List.set_cons_zero, List.set_cons_succ]
   refine' wpAnyT_takeL (i := 10) (v := _) ?hiT10spc (by kernel_rfl) ?hQT10spc (Or.inl ⟨?hwT10spc, ?hyT10spc⟩) hS ?reT10spc
   case hiT10spc => (simp only [List.getElem?_toArray, List.getElem?_cons_succ, List.getElem?_cons_zero]; rfl)
   case hQT10spc => exact fun _ _ _ h => h
   case hwT10spc => rfl
   case hyT10spc => (intro wS hSw; obtain ⟨_, _⟩ := hSw; go_simp; (try with_reducible rfl))
   try simp only [Act.put, List.setIfInBounds_toArray, List.set_cons_zero, List.set_cons_succ]
   refine' wpAnyT_takeL (i := 11) (v := _) ?hiT11spc (by kernel_rfl) ?hQT11spc (Or.inl ⟨?hwT11spc, ?hyT11spc⟩) hS ?reT11spc
   case hiT11spc => (simp only [List.getElem?_toArray, List.getElem?_cons_succ, List.getElem?_cons_zero]; rfl)
   case hQT11spc => exact fun _ _ _ h => h
   case hwT11spc => rfl
   case hyT11spc => (intro wS hSw; obtain ⟨_, _⟩ := hSw; go_simp; (try with_reducible rfl))
   try simp only [Act.put, List.setIfInBounds_toArray, List.set_cons_zero, List.set_cons_succ]
   refine' wpAnyT_takeL (i := 12) (v := _) ?hiT12spc (by kernel_rfl) ?hQT12spc (Or.inl ⟨?hwT12spc, ?hyT12spc⟩) hS ?reT12spc
   case hiT12spc => (simp only [List.getElem?_toArray, List.getElem?_cons_succ, List.getElem?_cons_zero]; rfl)
   case hQT12spc => exact fun _ _ _ h => h
   case hwT12spc => rfl
   case hyT12spc => (intro wS hSw; obtain ⟨_, _⟩ := hSw; go_simp; (try with_reducible rfl))
   try simp only [Act.put, List.setIfInBounds_toArray, List.set_cons_zero, List.set_cons_succ]
   refine' wpAnyT_takeL (i := 13) (v := _) ?hiT13spc (by kernel_rfl) ?hQT13spc (Or.inl ⟨?hwT13spc, ?hyT13spc⟩) hS ?reT13spc
   case hiT13spc => (simp only [List.getElem?_toArray, List.getElem?_cons_succ, List.getElem?_cons_zero]; rfl)
   case hQT13spc => exact fun _ _ _ h => h
   case hwT13spc => rfl
   case hyT13spc => (intro wS hSw; obtain ⟨_, _⟩ := hSw; go_simp; (try with_reducible rfl))
   try simp only [Act.put, List.setIfInBounds_toArray, List.set_cons_zero, List.set_cons_succ]
   refine' wpAnyT_takeL (i := 14) (v := _) ?hiT14spc (by kernel_rfl) ?hQT14spc (Or.inl ⟨?hwT14spc, ?hyT14spc⟩) hS ?reT14spc
   case hiT14spc => (simp only [List.getElem?_toArray, List.getElem?_cons_succ, List.getElem?_cons_zero]; rfl)
   case hQT14spc => exact fun _ _ _ h => h
   case hwT14spc => rfl
   case hyT14spc => (intro wS hSw; obtain ⟨_, _⟩ := hSw; go_simp; (try with_reducible rfl))
   try simp only [Act.put, List.setIfInBounds_toArray, List.set_cons_zero, List.set_cons_succ]
   refine wpAnyT_ready (rs := [15]) (by kernel_rfl) (by simp) ?_
   refine' AllReadyT.cons ?hic15spc (fun K hK => ?stc15spc) AllReadyT.nil
   case hic15spc => (simp only [List.getElem?_toArray, List.getElem?_cons_succ, List.getElem?_cons_zero]; rfl)
   go_simp
   refine ((HG.out wd V1 Bu1 hk1)).mono ?_
   rintro (e w2 ⟨v2, rfl, ⟨A2, c2, rfl, hl2, hm2, hk2⟩, T2⟩)
   refine hK.out _ _ (fun _ => TwS.of (T2.blk V1 ky1 (by decide) (by decide)) (T2.blk V1 kx1 (by decide) (by decide))) (fun hS => ?_)
   clear hK K
   replace hS := hS rfl
   try simp only [Act.put, List.setIfInBounds_toArray, List.set_cons_zero, List.set_cons_succ]
   have ky2 := T2.blk V1 ky1 (by decide) (by decide)
   have kx2 := T2.blk V1 kx1 (by decide) (by decide)
   have B2 := B1.trans (T2.far.below (by have := B1.size; omega) (fun k hk e => by rcases e with rfl | ⟨e, _⟩ <;> omega))
   refine' wpAnyT_takeL (i := 16) (v := _) ?hiT16spc (by kernel_rfl) ?hQT16spc (Or.inl ⟨?hwT16spc, ?hyT16spc⟩) hS ?reT16spc
   case hiT16spc => (simp only [List.getElem?_toArray, List.getElem?_cons_succ, List.getElem?_cons_zero]; rfl)
   case hQT16spc => exact fun _ _ _ h => h
   case hwT16spc => rfl
   case hyT16spc => (intro wS hSw; obtain ⟨_, _⟩ := hSw; go_simp; (try with_reducible rfl))
   try simp only [Act.put, List.setIfInBounds_toArray, List.set_cons_zero, List.set_cons_succ]
   refine' wpAnyT_takeV (i := 17) (v := _) ?hiT17spc (by kernel_rfl) ?hQT17spc (Or.inl ⟨?hwT17spc, ?hyT17spc⟩) ?reT17spc
   case hiT17spc => (simp only [List.getElem?_toArray, List.getElem?_cons_succ, List.getElem?_cons_zero]; rfl)
   case hQT17spc => exact fun _ _ _ h => h
   case hwT17spc => rfl
   case hyT17spc => (intro wS hSw; go_simp; (try with_reducible rfl))
   try simp only [Act.put, List.setIfInBounds_toArray, List.set_cons_zero, List.set_cons_succ]
   refine' wpAnyT_takeV (i := 18) (v := _) ?hiT18spc (by kernel_rfl) ?hQT18spc (Or.inl ⟨?hwT18spc, ?hyT18spc⟩) ?reT18spc
   case hiT18spc => (simp only [List.getElem?_toArray, List.getElem?_cons_succ, List.getElem?_cons_zero]; rfl)
   case hQT18spc => exact fun _ _ _ h => h
   case hwT18spc => rfl
   case hyT18spc => (intro wS hSw; go_simp; (try with_reducible rfl))
   try simp only [Act.put, List.setIfInBounds_toArray, List.set_cons_zero, List.set_cons_succ]
   refine' wpAnyT_takeV (i := 19) (v := _) ?hiT19spc (by kernel_rfl) ?hQT19spc (Or.inl ⟨?hwT19spc, ?hyT19spc⟩) ?reT19spc
   case hiT19spc => (simp only [List.getElem?_toArray, List.getElem?_cons_succ, List.getElem?_cons_zero]; rfl)
   case hQT19spc => exact fun _ _ _ h => h
   case hwT19spc => rfl
   case hyT19spc => (intro wS hSw; go_simp; (try with_reducible rfl))
   try simp only [Act.put, List.setIfInBounds_toArray, List.set_cons_zero, List.set_cons_succ]
   refine' wpAnyT_takeV (i := 20) (v := _) ?hiT20spc (by kernel_rfl) ?hQT20spc (Or.inl ⟨?hwT20spc, ?hyT20spc⟩) ?reT20spc
   case hiT20spc => (simp only [List.getElem?_toArray, List.getElem?_cons_succ, List.getElem?_cons_zero]; rfl)
   case hQT20spc => exact fun _ _ _ h => h
   case hwT20spc => rfl
   case hyT20spc => (intro wS hSw; go_simp; (try with_reducible rfl))
   try simp only [Act.put, List.setIfInBounds_toArray, List.set_cons_zero, List.set_cons_succ]
   have F3 := putT_far w2 y sr (.slice A2 sr.kept.length c2)
   have ky3 := putT_blk ky2 sr (.slice A2 sr.kept.length c2)
   have kx3 := F3.blk kx2 (fun e => by have e : x = y := e; rw [e] at kx2; exact kx2.ne ky2 (by decide))
   have T3 := PlyAt.putR hlo hinv T2 ky2 hk2 hl2 hm2 F3 ky3
   have B3 := B2.trans (F3.below (Nat.le_trans hN B2.size) (fun k hk e => by have e : k = y := e; omega))
   have cy2 := ky2.cell
   have fy2 := ky2.frozen
   refine wpAnyT_ready (rs := [21]) (by kernel_rfl) (by simp) ?_
   refine' AllReadyT.cons ?hi21spc (fun KK hKK => ?st21spc) AllReadyT.nil
   case hi21spc => (simp only [List.getElem?_toArray, List.getElem?_cons_succ, List.getElem?_cons_zero]; rfl)
   go_simp
   refine hKK.out _ (putT w2 y sr (.slice A2 sr.kept.length c2)) (fun h => absurd h (by decide)) (fun _ => ?_)
   clear hKK KK
   generalize putT w2 y sr (.slice A2 sr.kept.length c2) = w3 at *
   try simp only [Act.put, List.setIfInBounds_toArray, List.set_cons_zero, List.set_cons_succ]
   refine' wpAnyT_takeV (i := 22) (v := _) ?hiT22spc (by kernel_rfl) ?hQT22spc (Or.inl ⟨?hwT22spc, ?hyT22spc⟩) ?reT22spc
   case hiT22spc => (simp only [List.getElem?_toArray, List.getElem?_cons_succ, List.getElem?_cons_zero]; rfl)
   case hQT22spc => exact fun _ _ _ h => h
   case hwT22spc => rfl
   case hyT22spc => (intro wS hSw; go_simp; (try with_reducible rfl))
   try simp only [Act.put, List.setIfInBounds_toArray, List.set_cons_zero, List.set_cons_succ]
   refine wpAnyT_done (by kernel_rfl) ?_ _
   refine noPanic_normal ?_
   go_wp2_with fail
   go_ret
   exact ⟨⟨_, rfl⟩, T3, B3⟩
  ·go_enter Tryz.func15, Tryz.ntmps15
   go_upto_region 1 with fail
   generalize w.alloc _ = w0 at *
   try simp only [hx]
   have cx := kx.cell
   go_upto_region 7 with fail
   have hbd := (Below.refl w0.heap.size w0).drew
   have V1 := V0.call hbd
   have Bu1 := Bu0.call hbd
   have ky1 := ky0.call hbd
   have kx1 := kx.call hbd
   have hk1 := hk0.call hbd
   have B1 := B0.trans (hbd.mono (by have := B0.size; omega))
   refine wp_noPanic ?_
   refine wp_region_T (TwS y bs bb x r (.slice A r.kept.length cap) b) [0, 17, 18, 19, 20, 21, 22] (by kernel_rfl) ?_
   generalize w0.drew = wd at *
   have hS := TwS.of ky1 kx1
   dsimp only [TwS] at hS ⊢
   clear V0 Bu0 ky0 kx hk0 B0 cx hbd hb0
   refine' wpAnyT_takeV (i := 0) (v := _) ?hiT0spd (by kernel_rfl) ?hQT0spd (Or.inl ⟨?hwT0spd, ?hyT0spd⟩) ?reT0spd
   case hiT0spd => (simp only [List.getElem?_toArray, List.getElem?_cons_zero]; rfl)
   case hQT0spd => exact fun _ _ _ h => h
   case hwT0spd => rfl
   case hyT0spd => (intro wS hSw; go_simp; (try with_reducible rfl))
   try simp only [Act.put, List.setIfInBounds_toArray, List.set_cons_zero, List.set_cons_succ]
   refine' wpAnyT_takeL (i := 1) (v := _) ?hiT1spd (by kernel_rfl) ?hQT1spd (Or.inl ⟨?hwT1spd, ?hyT1spd⟩) hS ?reT1spd
   case hiT1spd => (simp only [List.getElem?_toArray, List.getElem?_cons_succ, List.getElem?_cons_zero]; rfl)
   case hQT1spd => exact fun _ _ _ h => h
   case hwT1spd => rfl
   case hyT1spd => (intro wS hSw; obtain ⟨_, _⟩ := hSw; go_simp; (try with_reducible rfl))
   try simp only [Act.put, List.setIfInBounds_toArray, List.set_cons_zero, List.set_cons_succ]
   refine' wpAnyT_takeL (i := 2) (v := _) ?hiT2spd (by kernel_rfl) ?hQT2spd (Or.inl ⟨?hwT2spd, ?hyT2spd⟩) hS ?reT2spd
   case hiT2spd => (simp only [List.getElem?_toArray, List.getElem?_cons_succ, List.getElem?_cons_zero]; rfl)
   case hQT2spd => exact fun _ _ _ h => h
   case hwT2spd => rfl
   case hyT2spd => (intro wS hSw; obtain ⟨_, _⟩ := hSw; go_simp; (try with_reducible rfl))
   try simp only [Act.put, List.setIfInBounds_toArray, List.set_cons_zero, List.set_cons_succ]
   refine' wpAnyT_takeL (i := 3) (v := _) ?hiT3spd (by kernel_rfl) ?hQT3spd (Or.inl ⟨?hwT3spd, ?hyT3spd⟩) hS ?reT3spd
   case hiT3spd => (simp only [List.getElem?_toArray, List.getElem?_cons_succ, List.getElem?_cons_zero]; rfl)
   case hQT3spd => exact fun _ _ _ h => h
   case hwT3spd => rfl
   case hyT3spd => (intro wS hSw; obtain ⟨_, _⟩ := hSw; go_simp; (try with_reducible rfl))
   try simp only [Act.put, List.setIfInBounds_toArray, List.set_cons_zero, List.set_cons_succ]
   refine' wpAnyT_takeL (i := 4) (v := _) ?hiT4spd (by kernel_rfl) ?hQT4spd (Or.inl ⟨?hwT4spd, ?hyT4spd⟩) hS ?reT4spd
   case hiT4spd => (simp only [List.getElem?_toArray, List.getElem?_cons_succ, List.getElem?_cons_zero]; rfl)
   case hQT4spd => exact fun _ _ _ h => h
   case hwT4spd => rfl
   case hyT4spd => (intro wS hSw; obtain ⟨_, _⟩ := hSw; go_simp; (try with_reducible rfl))
   try simp only [Act.put, List.setIfInBounds_toArray, List.set_cons_zero, List.set_cons_succ]
   refine' wpAnyT_takeL (i := 5) (v := _) ?hiT5spd (by kernel_rfl) ?hQT5spd (Or.inl ⟨?hwT5spd, ?hyT5spd⟩) hS ?reT5spd
   case hiT5spd => (simp only [List.getElem?_toArray, List.getElem?_cons_succ, List.getElem?_cons_zero]; rfl)
   case hQT5spd => exact fun _ _ _ h => h
   case hwT5spd => rfl
   case hyT5spd => (intro wS hSw; obtain ⟨_, _⟩ := hSw; go_simp; (try with_reducible rfl))
   try simp only [Act.put, List.setIfInBounds_toArray, List.set_cons_zero, List.set_cons_succ]
   refine' wpAnyT_takeL (i := 6) (v := _) ?hiT6spd (by kernel_rfl) ?hQT6spd (Or.inl ⟨?hwT6spd, ?hyT6spd⟩) hS ?reT6spd
   case hiT6spd => (simp only [List.getElem?_toArray, List.getElem?_cons_succ, List.getElem?_cons_zero]; rfl)
   case hQT6spd => exact fun _ _ _ h => h
   case hwT6spd => rfl
   case hyT6spd => (intro wS hSw; obtain ⟨_, _⟩ := hSw; go_simp; (try with_reducible rfl))
   try simp only [Act.put, List.setIfInBounds_toArray, List.set_cons_zero, List.set_cons_succ]
   refine' wpAnyT_takeL (i := 7) (v := _) ?hiT7spd (by kernel_rfl) ?hQT7spd (Or.inl ⟨?hwT7spd, ?hyT7spd⟩) hS ?reT7spd
   case hiT7spd => (simp only [List.getElem?_toArray, List.getElem?_cons_succ, List.getElem?_cons_zero]; rfl)
   case hQT7spd => exact fun _ _ _ h => h
   case hwT7spd => rfl
   case hyT7spd => (intro wS hSw; obtain ⟨_, _⟩ := hSw; go_simp; (try with_reducible rfl))
   try simp only [Act.put, List.setIfInBounds_toArray, List.set_cons_zero, List.set_cons_succ]
   refine' wpAnyT_takeL (i := 8) (v := _) ?hiT8spd (by kernel_rfl) ?hQT8spd (Or.inl ⟨?hwT8spd, ?hyT8spd⟩) hS ?reT8spd
   case hiT8spd => (simp only [List.getElem?_toArray, List.getElem?_cons_succ, List.getElem?_cons_zero]; rfl)
   case hQT8spd => exact fun _ _ _ h => h
   case hwT8spd => rfl
   case hyT8spd => (intro wS hSw; obtain ⟨_, _⟩ := hSw; go_simp; (try with_reducible rfl))
   try simp only [Act.put, List.setIfInBounds_toArray, List.set_cons_zero, List.set_cons_succ]
   refine' wpAnyT_takeL (i := 9) (v := _) ?hiT9spd (by kernel_rfl) ?hQT9spd (Or.inl ⟨?hwT9spd, ?hyT9spd⟩) hS ?reT9spd
   case hiT9spd => (simp only [List.getElem?_toArray, List.getElem?_cons_succ, List.getElem?_cons_zero]; rfl)
   case hQT9spd => exact fun _ _ _ h => h
   case hwT9spd => rfl
   case hyT9spd => (intro wS hSw; obtain ⟨_, _⟩ := hSw; go_simp; (try with_reducible rfl))
   try simp only [Act.put, List.setIfInBounds_toArray, List.set_cons_zero, List.set_cons_succ]
   refine' wpAnyT_takeL (i := 10) (v := _) ?hiT10spd (by kernel_rfl) ?hQT10spd (Or.inl ⟨?hwT10spd, ?hyT10spd⟩) hS ?reT10spd
   case hiT10spd => (simp only [List.getElem?_toArray, List.getElem?_cons_succ, List.getElem?_cons_zero]; rfl)
   case hQT10spd => exact fun _ _ _ h => h
   case hwT10spd => rfl
   case hyT10spd => (intro wS hSw; obtain ⟨_, _⟩ := hSw; go_simp; (try with_reducible rfl))
   try simp only [Act.put, List.setIfInBounds_toArray, List.set_cons_zero, List.set_cons_succ]
   refine' wpAnyT_takeL (i := 11) (v := _) ?hiT11spd (by kernel_rfl) ?hQT11spd (Or.inl ⟨?hwT11spd, ?hyT11spd⟩) hS ?reT11spd
   case hiT11spd => (simp only [List.getElem?_toArray, List.getElem?_cons_succ, List.getElem?_cons_zero]; rfl)
   case hQT11spd => exact fun _ _ _ h => h
   case hwT11spd => rfl
   case hyT11spd => (intro wS hSw; obtain ⟨_, _⟩ := hSw; go_simp; (try with_reducible rfl))
   try simp only [Act.put, List.setIfInBounds_toArray, List.set_cons_zero, List.set_cons_succ]
   refine' wpAnyT_takeL (i := 12) (v := _) ?hiT12spd (by kernel_rfl) ?hQT12spd (Or.inl ⟨?hwT12spd, ?hyT12spd⟩) hS ?reT12spd
   case hiT12spd => (simp only [List.getElem?_toArray, List.getElem?_cons_succ, List.getElem?_cons_zero]; rfl)
   case hQT12spd => exact fun _ _ _ h => h
   case hwT12spd => rfl
   case hyT12spd => (intro wS hSw; obtain ⟨_, _⟩ := hSw; go_simp; (try with_reducible rfl))
   try simp only [Act.put, List.setIfInBounds_toArray, List.set_cons_zero, List.set_cons_succ]
   refine' wpAnyT_takeL (i := 13) (v := _) ?hiT13spd (by kernel_rfl) ?hQT13spd (Or.inl ⟨?hwT13spd, ?hyT13spd⟩) hS ?reT13spd
   case hiT13spd => (simp only [List.getElem?_toArray, List.getElem?_cons_succ, List.getElem?_cons_zero]; rfl)
   case hQT13spd => exact fun _ _ _ h => h
   case hwT13spd => rfl
   case hyT13spd => (intro wS hSw; obtain ⟨_, _⟩ := hSw; go_simp; (try with_reducible rfl))
   try simp only [Act.put, List.setIfInBounds_toArray, List.set_cons_zero, List.set_cons_succ]
   refine' wpAnyT_takeL (i := 14) (v := _) ?hiT14spd (by kernel_rfl) ?hQT14spd (Or.inl ⟨?hwT14spd, ?hyT14spd⟩) hS ?reT14spd
   case hiT14spd => (simp only [List.getElem?_toArray, List.getElem?_cons_succ, List.getElem?_cons_zero]; rfl)
   case hQT14spd => exact fun _ _ _ h => h
   case hwT14spd => rfl
   case hyT14spd => (intro wS hSw; obtain ⟨_, _⟩ := hSw; go_simp; (try with_reducible rfl))
   try simp only [Act.put, List.setIfInBounds_toArray, List.set_cons_zero, List.set_cons_succ]
   refine wpAnyT_ready (rs := [15]) (by kernel_rfl) (by simp) ?_
   refine' AllReadyT.cons ?hic15spd (fun K hK => ?stc15spd) AllReadyT.nil
   case hic15spd => (simp only [List.getElem?_toArray, List.getElem?_cons_succ, List.getElem?_cons_zero]; rfl)
   go_simp
   refine ((HG.out wd V1 Bu1 hk1)).mono ?_
   rintro (e w2 ⟨v2, rfl, ⟨A2, c2, rfl, hl2, hm2, hk2⟩, T2⟩)
   refine hK.out _ _ (fun _ => TwS.of (T2.blk V1 ky1 (by decide) (by decide)) (T2.blk V1 kx1 (by decide) (by decide))) (fun hS => ?_)
   clear hK K
   replace hS := hS rfl
   try simp only [Act.put, List.setIfInBounds_toArray, List.set_cons_zero, List.set_cons_succ]
   have ky2 := T2.blk V1 ky1 (by decide) (by decide)
   have kx2 := T2.blk V1 kx1 (by decide) (by decide)
   have B2 := B1.trans (T2.far.below (by have := B1.size; omega) (fun k hk e => by rcases e with rfl | ⟨e, _⟩ <;> omega))
   refine' wpAnyT_takeL (i := 16) (v := _) ?hiT16spd (by kernel_rfl) ?hQT16spd (Or.inl ⟨?hwT16spd, ?hyT16spd⟩) hS ?reT16spd
   case hiT16spd => (simp only [List.getElem?_toArray, List.getElem?_cons_succ, List.getElem?_cons_zero]; rfl)
   case hQT16spd => exact fun _ _ _ h => h
   case hwT16spd => rfl
   case hyT16spd => (intro wS hSw; obtain ⟨_, _⟩ := hSw; go_simp; (try with_reducible rfl))
   try simp only [Act.put, List.setIfInBounds_toArray, List.set_cons_zero, List.set_cons_succ]
   refine' wpAnyT_takeV (i := 17) (v := _) ?hiT17spd (by kernel_rfl) ?hQT17spd (Or.inl ⟨?hwT17spd, ?hyT17spd⟩) ?reT17spd
   case hiT17spd => (simp only [List.getElem?_toArray, List.getElem?_cons_succ, List.getElem?_cons_zero]; rfl)
   case hQT17spd => exact fun _ _ _ h => h
   case hwT17spd => rfl
   case hyT17spd => (intro wS hSw; go_simp; (try with_reducible rfl))
   try simp only [Act.put, List.setIfInBounds_toArray, List.set_cons_zero, List.set_cons_succ]
   refine' wpAnyT_takeV (i := 18) (v := _) ?hiT18spd (by kernel_rfl) ?hQT18spd (Or.inl ⟨?hwT18spd, ?hyT18spd⟩) ?reT18spd
   case hiT18spd => (simp only [List.getElem?_toArray, List.getElem?_cons_succ, List.getElem?_cons_zero]; rfl)
   case hQT18spd => exact fun _ _ _ h => h
   case hwT18spd => rfl
   case hyT18spd => (intro wS hSw; go_simp; (try with_reducible rfl))
   try simp only [Act.put, List.setIfInBounds_toArray, List.set_cons_zero, List.set_cons_succ]
   refine' wpAnyT_takeV (i := 19) (v := _) ?hiT19spd (by kernel_rfl) ?hQT19spd (Or.inl ⟨?hwT19spd, ?hyT19spd⟩) ?reT19spd
   case hiT19spd => (simp only [List.getElem?_toArray, List.getElem?_cons_succ, List.getElem?_cons_zero]; rfl)
   case hQT19spd => exact fun _ _ _ h => h
   case hwT19spd => rfl
   case hyT19spd => (intro wS hSw; go_simp; (try with_reducible rfl))
   try simp only [Act.put, List.setIfInBounds_toArray, List.set_cons_zero, List.set_cons_succ]
   refine' wpAnyT_takeV (i := 20) (v := _) ?hiT20spd (by kernel_rfl) ?hQT20spd (Or.inl ⟨?hwT20spd, ?hyT20spd⟩) ?reT20spd
   case hiT20spd => (simp only [List.getElem?_toArray, List.getElem?_cons_succ, List.getElem?_cons_zero]; rfl)
   case hQT20spd => exact fun _ _ _ h => h
   case hwT20spd => rfl
   case hyT20spd => (intro wS hSw; go_simp; (try with_reducible rfl))
   try simp only [Act.put, List.setIfInBounds_toArray, List.set_cons_zero, List.set_cons_succ]
   have F3 := putT_far w2 y sr (.slice A2 sr.kept.length c2)
   have ky3 := putT_blk ky2 sr (.slice A2 sr.kept.length c2)
   have kx3 := F3.blk kx2 (fun e => by have e : x = y := e; rw [e] at kx2; exact kx2.ne ky2 (by decide))
   have T3 := PlyAt.putR hlo hinv T2 ky2 hk2 hl2 hm2 F3 ky3
   have B3 := B2.trans (F3.below (Nat.le_trans hN B2.size) (fun k hk e => by have e : k = y := e; omega))
   have cy2 := ky2.cell
   have fy2 := ky2.frozen
   refine wpAnyT_ready (rs := [21]) (by kernel_rfl) (by simp) ?_
   refine' AllReadyT.cons ?hi21spd (fun KK hKK => ?st21spd) AllReadyT.nil
   case hi21spd => (simp only [List.getElem?_toArray, List.getElem?_cons_succ, List.getElem?_cons_zero]; rfl)
   go_simp
   refine hKK.out _ (putT w2 y sr (.slice A2 sr.kept.length c2)) (fun h => absurd h (by decide)) (fun _ => ?_)
   clear hKK KK
   generalize putT w2 y sr (.slice A2 sr.kept.length c2) = w3 at *
   try simp only [Act.put, List.setIfInBounds_toArray, List.set_cons_zero, List.set_cons_succ]
   refine' wpAnyT_takeV (i := 22) (v := _) ?hiT22spd (by kernel_rfl) ?hQT22spd (Or.inl ⟨?hwT22spd, ?hyT22spd⟩) ?reT22spd
   case hiT22spd => (simp only [List.getElem?_toArray, List.getElem?_cons_succ, List.getElem?_cons_zero]; rfl)
   case hQT22spd => exact fun _ _ _ h => h
   case hwT22spd => rfl
   case hyT22spd => (intro wS hSw; go_simp; (try with_reducible rfl))
   try simp only [Act.put, List.setIfInBounds_toArray, List.set_cons_zero, List.set_cons_succ]
   refine wpAnyT_done (by kernel_rfl) ?_ _
   refine noPanic_normal ?_
   go_wp2_with fail
   go_ret
   exact ⟨⟨_, rfl⟩, T3, B3⟩
 rw [if_neg c1] at hR
 by_cases c2 : m < 6
 ·rw [if_pos c2] at hR
  have HG := Lib.hid (fun W h3 => shrink_any r b A cap W hl hm h3)
  generalize shrinkC r b = S at *
  obtain ⟨sr, se⟩ := S
  simp only at HG hR
  subst hR
  simp only at hinv
  have hm4 : m = 4 ∨ m = 5 := by omega
  clear c1 c2 hm0
  rcases hm4 with rfl | rfl
  ·go_enter Tryz.func15, Tryz.ntmps15
   go_upto_region 1 with fail
   generalize w.alloc _ = w0 at *
   try simp only [hx]
   have cx := kx.cell
   go_upto_region 10 with fail
   have hbd := (Below.refl w0.heap.size w0).drew
   have V1 := V0.call hbd
   have Bu1 := Bu0.call hbd
   have ky1 := ky0.call hbd
   have kx1 := kx.call hbd
   have hk1 := hk0.call hbd
   have B1 := B0.trans (hbd.mono (by have := B0.size; omega))
   refine wp_noPanic ?_
   refine wp_region_T (TwS y bs bb x r (.slice A r.kept.length cap) b) [0, 9, 10, 11, 12, 13, 14] (by kernel_rfl) ?_
   generalize w0.drew = wd at *
   have hS := TwS.of ky1 kx1
   dsimp only [TwS] at hS ⊢
   clear V0 Bu0 ky0 kx hk0 B0 cx hbd hb0
   refine' wpAnyT_takeV (i := 0) (v := _) ?hiT0spe (by kernel_rfl) ?hQT0spe (Or.inl ⟨?hwT0spe, ?hyT0spe⟩) ?reT0spe
   case hiT0spe => (simp only [List.getElem?_toArray, List.getElem?_cons_zero]; rfl)
   case hQT0spe => exact fun _ _ _ h => h
   case hwT0spe => rfl
   case hyT0spe => (intro wS hSw; go_simp; (try with_reducible rfl))
   try simp only [Act.put, List.setIfInBounds_toArray, List.set_cons_zero, List.set_cons_succ]
   refine' wpAnyT_takeL (i := 1) (v := _) ?hiT1spe (by kernel_rfl) ?hQT1spe (Or.inl ⟨?hwT1spe, ?hyT1spe⟩) hS ?reT1spe
   case hiT1spe => (simp only [List.getElem?_toArray, List.getElem?_cons_succ, List.getElem?_cons_zero]; rfl)
   case hQT1spe => exact fun _ _ _ h => h
   case hwT1spe => rfl
   case hyT1spe => (intro wS hSw; obtain ⟨_, _⟩ := hSw; go_simp; (try with_reducible rfl))
   try simp only [Act.put, List.setIfInBounds_toArray, List.set_cons_zero, List.set_cons_succ]
   refine' wpAnyT_takeL (i := 2) (v := _) ?hiT2spe (by kernel_rfl) ?hQT2spe (Or.inl ⟨?hwT2spe, ?hyT2spe⟩) hS ?reT2spe
   case hiT2spe => (simp only [List.getElem?_toArray, List.getElem?_cons_succ, List.getElem?_cons_zero]; rfl)
   case hQT2spe => exact fun _ _ _ h => h
   case hwT2spe => rfl
   case hyT2spe => (intro wS hSw; obtain ⟨_, _⟩ := hSw; go_simp; (try with_reducible rfl))
   try simp only [Act.put, List.setIfInBounds_toArray, List.set_cons_zero, List.set_cons_succ]
   refine' wpAnyT_takeL (i := 3) (v := _) ?hiT3spe (by kernel_rfl) ?hQT3spe (Or.inl ⟨?hwT3spe, ?hyT3spe⟩) hS ?reT3spe
   case hiT3spe => (simp only [List.getElem?_toArray, List.getElem?_cons_succ, List.getElem?_cons_zero]; rfl)
   case hQT3spe => exact fun _ _ _ h => h
   case hwT3spe => rfl
   case hyT3spe => (intro wS hSw; obtain ⟨_, _⟩ := hSw; go_simp; (try with_reducible rfl))
   try simp only [Act.put, List.setIfInBounds_toArray, List.set_cons_zero, List.set_cons_succ]
   refine' wpAnyT_takeL (i := 4) (v := _) ?hiT4spe (by kernel_rfl) ?hQT4spe (Or.inl ⟨?hwT4spe, ?hyT4spe⟩) hS ?reT4spe
   case hiT4spe => (simp only [List.getElem?_toArray, List.getElem?_cons_succ, List.getElem?_cons_zero]; rfl)
   case hQT4spe => exact fun _ _ _ h => h
   case hwT4spe => rfl
   case hyT4spe => (intro wS hSw; obtain ⟨_, _⟩ := hSw; go_simp; (try with_reducible rfl))
   try simp only [Act.put, List.setIfInBounds_toArray, List.set_cons_zero, List.set_cons_succ]
   refine' wpAnyT_takeL (i := 5) (v := _) ?hiT5spe (by kernel_rfl) ?hQT5spe (Or.inl ⟨?hwT5spe, ?hyT5spe⟩) hS ?reT5spe
   case hiT5spe => (simp only [List.getElem?_toArray, List.getElem?_cons_succ, List.getElem?_cons_zero]; rfl)
   case hQT5spe => exact fun _ _ _ h => h
   case hwT5spe => rfl
   case hyT5spe => (intro wS hSw; obtain ⟨_, _⟩ := hSw; go_simp; (try with_reducible rfl))
   try simp only [Act.put, List.setIfInBounds_toArray, List.set_cons_zero, List.set_cons_succ]
   refine' wpAnyT_takeL (i := 6) (v := _) ?hiT6spe (by kernel_rfl) ?hQT6spe (Or.inl ⟨?hwT6spe, ?hyT6spe⟩) hS ?reT6spe
   case hiT6spe => (simp only [List.getElem?_toArray, List.getElem?_cons_succ, List.getElem?_cons_zero]; rfl)
   case hQT6spe => exact fun _ _ _ h => h
   case hwT6spe => rfl
   case hyT6spe => (intro wS hSw; obtain ⟨_, _⟩ := hSw; go_simp; (try with_reducible rfl))
   try simp only [Act.put, List.setIfInBounds_toArray, List.set_cons_zero, List.set_cons_succ]
   refine wpAnyT_ready (rs := [7]) (by kernel_rfl) (by simp) ?_
   refine' AllReadyT.cons ?hic7spe (fun K hK => ?stc7spe) AllReadyT.nil
   case hic7spe => (simp only [List.getElem?_toArray, List.getElem?_cons_succ, List.getElem?_cons_zero]; rfl)
   go_simp
   refine ((HG.out wd hk1)).mono ?_
   rintro (e w2 ⟨v2, rfl, ⟨A2, c2, rfl, hl2, hm2, hk2⟩, hb2⟩)
   refine hK.out _ _ (fun _ => TwS.of (ky1.call hb2) (kx1.call hb2)) (fun hS => ?_)
   clear hK K
   replace hS := hS rfl
   try simp only [Act.put, List.setIfInBounds_toArray, List.set_cons_zero, List.set_cons_succ]
   have T2 := BothTo.below V1 Bu1 hb2
   have ky2 := ky1.call hb2
   have kx2 := kx1.call hb2
   have B2 := B1.trans (hb2.mono (by have := B1.size; omega))
   refine' wpAnyT_takeL (i := 8) (v := _) ?hiT8spe (by kernel_rfl) ?hQT8spe (Or.inl ⟨?hwT8spe, ?hyT8spe⟩) hS ?reT8spe
   case hiT8spe => (simp only [List.getElem?_toArray, List.getElem?_cons_succ, List.getElem?_cons_zero]; rfl)
   case hQT8spe => exact fun _ _ _ h => h
   case hwT8spe => rfl
   case hyT8spe => (intro wS hSw; obtain ⟨_, _⟩ := hSw; go_simp; (try with_reducible rfl))
   try simp only [Act.put, List.setIfInBounds_toArray, List.set_cons_zero, List.set_cons_succ]
   refine' wpAnyT_takeV (i := 9) (v := _) ?hiT9spe (by kernel_rfl) ?hQT9spe (Or.inl ⟨?hwT9spe, ?hyT9spe⟩) ?reT9spe
   case hiT9spe => (simp only [List.getElem?_toArray, List.getElem?_cons_succ, List.getElem?_cons_zero]; rfl)
   case hQT9spe => exact fun _ _ _ h => h
   case hwT9spe => rfl
   case hyT9spe => (intro wS hSw; go_simp; (try with_reducible rfl))
   try simp only [Act.put, List.setIfInBounds_toArray, List.set_cons_zero, List.set_cons_succ]
   refine' wpAnyT_takeV (i := 10) (v := _) ?hiT10spe (by kernel_rfl) ?hQT10spe (Or.inl ⟨?hwT10spe, ?hyT10spe⟩) ?reT10spe
   case hiT10spe => (simp only [List.getElem?_toArray, List.getElem?_cons_succ, List.getElem?_cons_zero]; rfl)
   case hQT10spe => exact fun _ _ _ h => h
   case hwT10spe => rfl
   case hyT10spe => (intro wS hSw; go_simp; (try with_reducible rfl))
   try simp only [Act.put, List.setIfInBounds_toArray, List.set_cons_zero, List.set_cons_succ]
   refine' wpAnyT_takeV (i := 11) (v := _) ?hiT11spe (by kernel_rfl) ?hQT11spe (Or.inl ⟨?hwT11spe, ?hyT11spe⟩) ?reT11spe
   case hiT11spe => (simp only [List.getElem?_toArray, List.getElem?_cons_succ, List.getElem?_cons_zero]; rfl)
   case hQT11spe => exact fun _ _ _ h => h
   case hwT11spe => rfl
   case hyT11spe => (intro wS hSw; go_simp; (try with_reducible rfl))
   try simp only [Act.put, List.setIfInBounds_toArray, List.set_cons_zero, List.set_cons_succ]
   refine' wpAnyT_takeV (i := 12) (v := _) ?hiT12spe (by kernel_rfl) ?hQT12spe (Or.inl ⟨?hwT12spe, ?hyT12spe⟩) ?reT12spe
   case hiT12spe => (simp only [List.getElem?_toArray, List.getElem?_cons_succ, List.getElem?_cons_zero]; rfl)
   case hQT12spe => exact fun _ _ _ h => h
   case hwT12spe => rfl
   case hyT12spe => (intro wS hSw; go_simp; (try with_reducible rfl))
   try simp only [Act.put, List.setIfInBounds_toArray, List.set_cons_zero, List.set_cons_succ]
   have F3 := putT_far w2 y sr (.slice A2 sr.kept.length c2)
   have ky3 := putT_blk ky2 sr (.slice A2 sr.kept.length c2)
   have kx3 := F3.blk kx2 (fun e => by have e : x = y := e; rw [e] at kx2; exact kx2.ne ky2 (by decide))
   have T3 := PlyAt.putR hlo hinv T2 ky2 hk2 hl2 hm2 F3 ky3
   have B3 := B2.trans (F3.below (Nat.le_trans hN B2.size) (fun k hk e => by have e : k = y := e; omega))
   have cy2 := ky2.cell
   have fy2 := ky2.frozen
   refine wpAnyT_ready (rs := [13]) (by kernel_rfl) (by simp) ?_
   refine' AllReadyT.cons ?hi13spe (fun KK hKK => ?st13spe) AllReadyT.nil
   case hi13spe => (simp only [List.getElem?_toArray, List.getElem?_cons_succ, List.getElem?_cons_zero]; rfl)
   go_simp
   refine hKK.out _ (putT w2 y sr (.slice A2 sr.kept.length c2)) (fun h => absurd h (by decide)) (fun _ => ?_)
   clear hKK KK
   generalize putT w2 y sr (.slice A2 sr.kept.length c2) = w3 at *
   try simp only [Act.put, List.setIfInBounds_toArray, List.set_cons_zero, List.set_cons_succ]
   refine' wpAnyT_takeV (i := 14) (v := _) ?hiT14spe (by kernel_rfl) ?hQT14spe (Or.inl ⟨?hwT14spe, ?hyT14spe⟩) ?reT14spe
   case hiT14spe => (simp only [List.getElem?_toArray, List.getElem?_cons_succ, List.getElem?_cons_zero]; rfl)
   case hQT14spe => exact fun _ _ _ h => h
   case hwT14spe => rfl
   case hyT14spe => (intro wS hSw; go_simp; (try with_reducible rfl))
   try simp only [Act.put, List.setIfInBounds_toArray, List.set_cons_zero, List.set_cons_succ]
   refine wpAnyT_done (by kernel_rfl) ?_ _
   refine noPanic_normal ?_
   go_wp2_with fail
   go_ret
   exact ⟨⟨_, rfl⟩, T3, B3⟩
  ·go_enter Tryz.func15, Tryz.ntmps15
   go_upto_region 1 with fail
   generalize w.alloc _ = w0 at *
   try simp only [hx]
   have cx := kx.cell
   go_upto_region 10 with fail
   have hbd := (Below.refl w0.heap.size w0).drew
   have V1 := V0.call hbd
   have Bu1 := Bu0.call hbd
   have ky1 := ky0.call hbd
   have kx1 := kx.call hbd
   have hk1 := hk0.call hbd
   have B1 := B0.trans (hbd.mono (by have := B0.size; omega))
   refine wp_noPanic ?_
   refine wp_region_T (TwS y bs bb x r (.slice A r.kept.length cap) b) [0, 9, 10, 11, 12, 13, 14] (by kernel_rfl) ?_
   generalize w0.drew = wd at *
   have hS := TwS.of ky1 kx1
   dsimp only [TwS] at hS ⊢
   clear V0 Bu0 ky0 kx hk0 B0 cx hbd hb0
   refine' wpAnyT_takeV (i := 0) (v := _) ?hiT0spf (by kernel_rfl) ?hQT0spf (Or.inl ⟨?hwT0spf, ?hyT0spf⟩) ?reT0spf
   case hiT0spf => (simp only [List.getElem?_toArray, List.getElem?_cons_zero]; rfl)
   case hQT0spf => exact fun _ _ _ h => h
   case hwT0spf => rfl
   case hyT0spf => (intro wS hSw; go_simp; (try with_reducible rfl))
   try simp only [Act.put, List.setIfInBounds_toArray, List.set_cons_zero, List.set_cons_succ]
   refine' wpAnyT_takeL (i := 1) (v := _) ?hiT1spf (by kernel_rfl) ?hQT1spf (Or.inl ⟨?hwT1spf, ?hyT1spf⟩) hS ?reT1spf
   case hiT1spf => (simp only [List.getElem?_toArray, List.getElem?_cons_succ, List.getElem?_cons_zero]; rfl)
   case hQT1spf => exact fun _ _ _ h => h
   case hwT1spf => rfl
   case hyT1spf => (intro wS hSw; obtain ⟨_, _⟩ := hSw; go_simp; (try with_reducible rfl))
   try simp only [Act.put, List.setIfInBounds_toArray, List.set_cons_zero, List.set_cons_succ]
   refine' wpAnyT_takeL (i := 2) (v := _) ?hiT2spf (by kernel_rfl) ?hQT2spf (Or.inl ⟨?hwT2spf, ?hyT2spf⟩) hS ?reT2spf
   case hiT2spf => (simp only [List.getElem?_toArray, List.getElem?_cons_succ, List.getElem?_cons_zero]; rfl)
   case hQT2spf => exact fun _ _ _ h => h
   case hwT2spf => rfl
   case hyT2spf => (intro wS hSw; obtain ⟨_, _⟩ := hSw; go_simp; (try with_reducible rfl))
   try simp only [Act.put, List.setIfInBounds_toArray, List.set_cons_zero, List.set_cons_succ]
   refine' wpAnyT_takeL (i := 3) (v := _) ?hiT3spf (by kernel_rfl) ?hQT3spf (Or.inl ⟨?hwT3spf, ?hyT3spf⟩) hS ?reT3spf
   case hiT3spf => (simp only [List.getElem?_toArray, List.getElem?_cons_succ, List.getElem?_cons_zero]; rfl)
   case hQT3spf => exact fun _ _ _ h => h
   case hwT3spf => rfl
   case hyT3spf => (intro wS hSw; obtain ⟨_, _⟩ := hSw; go_simp; (try with_reducible rfl))
   try simp only [Act.put, List.setIfInBounds_toArray, List.set_cons_zero, List.set_cons_succ]
   refine' wpAnyT_takeL (i := 4) (v := _) ?hiT4spf (by kernel_rfl) ?hQT4spf (Or.inl ⟨?hwT4spf, ?hyT4spf⟩) hS ?reT4spf
   case hiT4spf => (simp only [List.getElem?_toArray, List.getElem?_cons_succ, List.getElem?_cons_zero]; rfl)
   case hQT4spf => exact fun _ _ _ h => h
   case hwT4spf => rfl
   case hyT4spf => (intro wS hSw; obtain ⟨_, _⟩ := hSw; go_simp; (try with_reducible rfl))
   try simp only [Act.put, List.setIfInBounds_toArray, List.set_cons_zero, List.set_cons_succ]
   refine' wpAnyT_takeL (i := 5) (v := _) ?hiT5spf (by kernel_rfl) ?hQT5spf (Or.inl ⟨?hwT5spf, ?hyT5spf⟩) hS ?reT5spf
   case hiT5spf => (simp only [List.getElem?_toArray, List.getElem?_cons_succ, List.getElem?_cons_zero]; rfl)
   case hQT5spf => exact fun _ _ _ h => h
   case hwT5spf => rfl
   case hyT5spf => (intro wS hSw; obtain ⟨_, _⟩ := hSw; go_simp; (try with_reducible rfl))
   try simp only [Act.put, List.setIfInBounds_toArray, List.set_cons_zero, List.set_cons_succ]
   refine' wpAnyT_takeL (i := 6) (v := _) ?hiT6spf (by kernel_rfl) ?hQT6spf (Or.inl ⟨?hwT6spf, ?hyT6spf⟩) hS ?reT6spf
   case hiT6spf => (simp only [List.getElem?_toArray, List.getElem?_cons_succ, List.getElem?_cons_zero]; rfl)
   case hQT6spf => exact fun _ _ _ h => h
   case hwT6spf => rfl
   case hyT6spf => (intro wS hSw; obtain ⟨_, _⟩ := hSw; go_simp; (try with_reducible rfl))
   try simp only [Act.put, List.setIfInBounds_toArray, List.set_cons_zero, List.set_cons_succ]
   refine wpAnyT_ready (rs := [7]) (by kernel_rfl) (by simp) ?_
   refine' AllReadyT.cons ?hic7spf (fun K hK => ?stc7spf) AllReadyT.nil
   case hic7spf => (simp only [List.getElem?_toArray, List.getElem?_cons_succ, List.getElem?_cons_zero]; rfl)
   go_simp
   refine ((HG.out wd hk1)).mono ?_
   rintro (e w2 ⟨v2, rfl, ⟨A2, c2, rfl, hl2, hm2, hk2⟩, hb2⟩)
   refine hK.out _ _ (fun _ => TwS.of (ky1.call hb2) (kx1.call hb2)) (fun hS => ?_)
   clear hK K
   replace hS := hS rfl
   try simp only [Act.put, List.setIfInBounds_toArray, List.set_cons_zero, List.set_cons_succ]
   have T2 := BothTo.below V1 Bu1 hb2
   have ky2 := ky1.call hb2
   have kx2 := kx1.call hb2
   have B2 := B1.trans (hb2.mono (by have := B1.size; omega))
   refine' wpAnyT_takeL (i := 8) (v := _) ?hiT8spf (by kernel_rfl) ?hQT8spf (Or.inl ⟨?hwT8spf, ?hyT8spf⟩) hS ?reT8spf
   case hiT8spf => (simp only [List.getElem?_toArray, List.getElem?_cons_succ, List.getElem?_cons_zero]; rfl)
   case hQT8spf => exact fun _ _ _ h => h
   case hwT8spf => rfl
   case hyT8spf => (intro wS hSw; obtain ⟨_, _⟩ := hSw; go_simp; (try with_reducible rfl))
   try simp only [Act.put, List.setIfInBounds_toArray, List.set_cons_zero, List.set_cons_succ]
   refine' wpAnyT_takeV (i := 9) (v := _) ?hiT9spf (by kernel_rfl) ?hQT9spf (Or.inl ⟨?hwT9spf, ?hyT9spf⟩) ?reT9spf
   case hiT9spf => (simp only [List.getElem?_toArray, List.getElem?_cons_succ, List.getElem?_cons_zero]; rfl)
   case hQT9spf => exact fun _ _ _ h => h
   case hwT9spf => rfl
   case hyT9spf => (intro wS hSw; go_simp; (try with_reducible rfl))
   try simp only [Act.put, List.setIfInBounds_toArray, List.set_cons_zero, List.set_cons_succ]
   refine' wpAnyT_takeV (i := 10) (v := _) ?hiT10spf (by kernel_rfl) ?hQT10spf (Or.inl ⟨?hwT10spf, ?hyT10spf⟩) ?reT10spf
   case hiT10spf => (simp only [List.getElem?_toArray, List.getElem?_cons_succ, List.getElem?_cons_zero]; rfl)
   case hQT10spf => exact fun _ _ _ h => h
   case hwT10spf => rfl
   case hyT10spf => (intro wS hSw; go_simp; (try with_reducible rfl))
   try simp only [Act.put, List.setIfInBounds_toArray, List.set_cons_zero, List.set_cons_succ]
   refine' wpAnyT_takeV (i := 11) (v := _) ?hiT11spf (by kernel_rfl) ?hQT11spf (Or.inl ⟨?hwT11spf, ?hyT11spf⟩) ?reT11spf
   case hiT11spf => (simp only [List.getElem?_toArray, List.getElem?_cons_succ, List.getElem?_cons_zero]; rfl)
   case hQT11spf => exact fun _ _ _ h => h
   case hwT11spf => rfl
   case hyT11spf => (intro wS hSw; go_simp; (try with_reducible rfl))
   try simp only [Act.put, List.setIfInBounds_toArray, List.set_cons_zero, List.set_cons_succ]
   refine' wpAnyT_takeV (i := 12) (v := _) ?hiT12spf (by kernel_rfl) ?hQT12spf (Or.inl ⟨?hwT12spf, ?hyT12spf⟩) ?reT12spf
   case hiT12spf => (simp only [List.getElem?_toArray, List.getElem?_cons_succ, List.getElem?_cons_zero]; rfl)
   case hQT12spf => exact fun _ _ _ h => h
   case hwT12spf => rfl
   case hyT12spf => (intro wS hSw; go_simp; (try with_reducible rfl))
   try simp only [Act.put, List.setIfInBounds_toArray, List.set_cons_zero, List.set_cons_succ]
   have F3 := putT_far w2 y sr (.slice A2 sr.kept.length c2)
   have ky3 := putT_blk ky2 sr (.slice A2 sr.kept.length c2)
   have kx3 := F3.blk kx2 (fun e => by have e : x = y := e; rw [e] at kx2; exact kx2.ne ky2 (by decide))
   have T3 := PlyAt.putR hlo hinv T2 ky2 hk2 hl2 hm2 F3 ky3
   have B3 := B2.trans (F3.below (Nat.le_trans hN B2.size) (fun k hk e => by have e : k = y := e; omega))
   have cy2 := ky2.cell
   have fy2 := ky2.frozen
   refine wpAnyT_ready (rs := [13]) (by kernel_rfl) (by simp) ?_
   refine' AllReadyT.cons ?hi13spf (fun KK hKK => ?st13spf) AllReadyT.nil
   case hi13spf => (simp only [List.getElem?_toArray, List.getElem?_cons_succ, List.getElem?_cons_zero]; rfl)
   go_simp
   refine hKK.out _ (putT w2 y sr (.slice A2 sr.kept.length c2)) (fun h => absurd h (by decide)) (fun _ => ?_)
   clear hKK KK
   generalize putT w2 y sr (.slice A2 sr.kept.length c2) = w3 at *
   try simp only [Act.put, List.setIfInBounds_toArray, List.set_cons_zero, List.set_cons_succ]
   refine' wpAnyT_takeV (i := 14) (v := _) ?hiT14spf (by kernel_rfl) ?hQT14spf (Or.inl ⟨?hwT14spf, ?hyT14spf⟩) ?reT14spf
   case hiT14spf => (simp only [List.getElem?_toArray, List.getElem?_cons_succ, List.getElem?_cons_zero]; rfl)
   case hQT14spf => exact fun _ _ _ h => h
   case hwT14spf => rfl
   case hyT14spf => (intro wS hSw; go_simp; (try with_reducible rfl))
   try simp only [Act.put, List.setIfInBounds_toArray, List.set_cons_zero, List.set_cons_succ]
   refine wpAnyT_done (by kernel_rfl) ?_ _
   refine noPanic_normal ?_
   go_wp2_with fail
   go_ret
   exact ⟨⟨_, rfl⟩, T3, B3⟩
 rw [if_neg c2] at hR
 by_cases c3 : m < 8
 ·rw [if_pos c3] at hR
  have HG := Lib.hid (fun W h1 h2 h3 => purge_any bs bb V L r b A cap W h1 hK h2 hO hnl hl hm h3 hb1 hb2)
  generalize purgeC V L r b = S at *
  obtain ⟨sr, se, sV, sL⟩ := S
  simp only at HG hR
  subst hR
  simp only at hinv
  have hm4 : m = 6 ∨ m = 7 := by omega
  clear c1 c2 c3 hm0
  rcases hm4 with rfl | rfl
  ·go_enter Tryz.func15, Tryz.ntmps15
   go_upto_region 1 with fail
   generalize w.alloc _ = w0 at *
   try simp only [hx]
   have cx := kx.cell
   go_upto_region 13 with fail
   have hbd := (Below.refl w0.heap.size w0).drew
   have V1 := V0.call hbd
   have Bu1 := Bu0.call hbd
   have ky1 := ky0.call hbd
   have kx1 := kx.call hbd
   have hk1 := hk0.call hbd
   have B1 := B0.trans (hbd.mono (by have := B0.size; omega))
   refine wp_noPanic ?_
   refine wp_region_T (TwS y bs bb x r (.slice A r.kept.length cap) b) [0, 17, 18, 19, 20, 21, 22] (by kernel_rfl) ?_
   generalize w0.drew = wd at *
   have hS := TwS.of ky1 kx1
   dsimp only [TwS] at hS ⊢
   clear V0 Bu0 ky0 kx hk0 B0 cx hbd hb0
   refine' wpAnyT_takeV (i := 0) (v := _) ?hiT0spg (by kernel_rfl) ?hQT0spg (Or.inl ⟨?hwT0spg, ?hyT0spg⟩) ?reT0spg
   case hiT0spg => (simp only [List.getElem?_toArray, List.getElem?_cons_zero]; rfl)
   case hQT0spg => exact fun _ _ _ h => h
   case hwT0spg => rfl
   case hyT0spg => (intro wS hSw; go_simp; (try with_reducible rfl))
   try simp only [Act.put, List.setIfInBounds_toArray, List.set_cons_zero, List.set_cons_succ]
   refine' wpAnyT_takeL (i := 1) (v := _) ?hiT1spg (by kernel_rfl) ?hQT1spg (Or.inl ⟨?hwT1spg, ?hyT1spg⟩) hS ?reT1spg
   case hiT1spg => (simp only [List.getElem?_toArray, List.getElem?_cons_succ, List.getElem?_cons_zero]; rfl)
   case hQT1spg => exact fun _ _ _ h => h
   case hwT1spg => rfl
   case hyT1spg => (intro wS hSw; obtain ⟨_, _⟩ := hSw; go_simp; (try with_reducible rfl))
   try simp only [Act.put, List.setIfInBounds_toArray, List.set_cons_zero, List.set_cons_succ]
   refine' wpAnyT_takeL (i := 2) (v := _) ?hiT2spg (by kernel_rfl) ?hQT2spg (Or.inl ⟨?hwT2spg, ?hyT2spg⟩) hS ?reT2spg
   case hiT2spg => (simp only [List.getElem?_toArray, List.getElem?_cons_succ, List.getElem?_cons_zero]; rfl)
   case hQT2spg => exact fun _ _ _ h => h
   case hwT2spg => rfl
   case hyT2spg => (intro wS hSw; obtain ⟨_, _⟩ := hSw; go_simp; (try with_reducible rfl))
   try simp only [Act.put, List.setIfInBounds_toArray, List.set_cons_zero, List.set_cons_succ]
   refine' wpAnyT_takeL (i := 3) (v := _) ?hiT3spg (by kernel_rfl) ?hQT3spg (Or.inl ⟨?hwT3spg, ?hyT3spg⟩) hS ?reT3spg
   case hiT3spg => (simp only [List.getElem?_toArray, List.getElem?_cons_succ, List.getElem?_cons_zero]; rfl)
   case hQT3spg => exact fun _ _ _ h => h
   case hwT3spg => rfl
   case hyT3spg => (intro wS hSw; obtain ⟨_, _⟩ := hSw; go_simp; (try with_reducible rfl))
   try simp only [Act.put, List.setIfInBounds_toArray, List.set_cons_zero, List.set_cons_succ]
   refine' wpAnyT_takeL (i := 4) (v := _) ?hiT4spg (by kernel_rfl) ?hQT4spg (Or.inl ⟨?hwT4spg, ?hyT4spg⟩) hS ?reT4spg
   case hiT4spg => (simp only [List.getElem?_toArray, List.getElem?_cons_succ, List.getElem?_cons_zero]; rfl)
   case hQT4spg => exact fun _ _ _ h => h
   case hwT4spg => rfl
   case hyT4spg => (intro wS hSw; obtain ⟨_, _⟩ := hSw; go_simp; (try with_reducible rfl))
   try simp only [Act.put, List.setIfInBounds_toArray, List.set_cons_zero, List.set_cons_succ]
   refine' wpAnyT_takeL (i := 5) (v := _) ?hiT5spg (by kernel_rfl) ?hQT5spg (Or.inl ⟨?hwT5spg, ?hyT5spg⟩) hS ?reT5spg
   case hiT5spg => (simp only [List.getElem?_toArray, List.getElem?_cons_succ, List.getElem?_cons_zero]; rfl)
   case hQT5spg => exact fun _ _ _ h => h
   case hwT5spg => rfl
   case hyT5spg => (intro wS hSw; obtain ⟨_, _⟩ := hSw; go_simp; (try with_reducible rfl))
   try simp only [Act.put, List.setIfInBounds_toArray, List.set_cons_zero, List.set_cons_succ]
   refine' wpAnyT_takeL (i := 6) (v := _) ?hiT6spg (by kernel_rfl) ?hQT6spg (Or.inl ⟨?hwT6spg, ?hyT6spg⟩) hS ?reT6spg
   case hiT6spg => (simp only [List.getElem?_toArray, List.getElem?_cons_succ, List.getElem?_cons_zero]; rfl)
   case hQT6spg => exact fun _ _ _ h => h
   case hwT6spg => rfl
   case hyT6spg => (intro wS hSw; obtain ⟨_, _⟩ := hSw; go_simp; (try with_reducible rfl))
   try simp only [Act.put, List.setIfInBounds_toArray, List.set_cons_zero, List.set_cons_succ]
   refine' wpAnyT_takeL (i := 7) (v := _) ?hiT7spg (by kernel_rfl) ?hQT7spg (Or.inl ⟨?hwT7spg, ?hyT7spg⟩) hS ?reT7spg
   case hiT7spg => (simp only [List.getElem?_toArray, List.getElem?_cons_succ, List.getElem?_cons_zero]; rfl)
   case hQT7spg => exact fun _ _ _ h => h
   case hwT7spg => rfl
   case hyT7spg => (intro wS hSw; obtain ⟨_, _⟩ := hSw; go_simp; (try with_reducible rfl))
   try simp only [Act.put, List.setIfInBounds_toArray, List.set_cons_zero, List.set_cons_succ]
   refine' wpAnyT_takeL (i := 8) (v := _) ?hiT8spg (by kernel_rfl) ?hQT8spg (Or.inl ⟨?hwT8spg, ?hyT8spg⟩) hS ?reT8spg
   case hiT8spg => (simp only [List.getElem?_toArray, List.getElem?_cons_succ, List.getElem?_cons_zero]; rfl)
   case hQT8spg => exact fun _ _ _ h => h
   case hwT8spg => rfl
   case hyT8spg => (intro wS hSw; obtain ⟨_, _⟩ := hSw; go_simp; (try with_reducible rfl))
   try simp only [Act.put, List.setIfInBounds_toArray, List.set_cons_zero, List.set_cons_succ]
   refine' wpAnyT_takeL (i := 9) (v := _) ?hiT9spg (by kernel_rfl) ?hQT9spg (Or.inl ⟨?hwT9spg, ?hyT9spg⟩) hS ?reT9spg
   case hiT9spg => (simp only [List.getElem?_toArray, List.getElem?_cons_succ, List.getElem?_cons_zero]; rfl)
   case hQT9spg => exact fun _ _ _ h => h
   case hwT9spg => rfl
   case hyT9spg => (intro wS hSw; obtain ⟨_, _⟩ := hSw; go_simp; (try with_reducible rfl))
   try simp only [Act.put, List.setIfInBounds_toArray, List.set_cons_zero, List.set_cons_succ]
   refine' wpAnyT_takeL (i := 10) (v := _) ?hiT10spg (by kernel_rfl) ?hQT10spg (Or.inl ⟨?hwT10spg, ?hyT10spg⟩) hS ?reT10spg
   case hiT10spg => (simp only [List.getElem?_toArray, List.getElem?_cons_succ, List.getElem?_cons_zero]; rfl)
   case hQT10spg => exact fun _ _ _ h => h
   case hwT10spg => rfl
   case hyT10spg => (intro wS hSw; obtain ⟨_, _⟩ := hSw; go_simp; (try with_reducible rfl))
   try simp only [Act.put, List.setIfInBounds_toArray, List.set_cons_zero, List.set_cons_succ]
   refine' wpAnyT_takeL (i := 11) (v := _) ?hiT11spg (by kernel_rfl) ?hQT11spg (Or.inl ⟨?hwT11spg, ?hyT11spg⟩) hS ?reT11spg
   case hiT11spg => (simp only [List.getElem?_toArray, List.getElem?_cons_succ, List.getElem?_cons_zero]; rfl)
   case hQT11spg => exact fun _ _ _ h => h
   case hwT11spg => rfl
   case hyT11spg => (intro wS hSw; obtain ⟨_, _⟩ := hSw; go_simp; (try with_reducible rfl))
   try simp only [Act.put, List.setIfInBounds_toArray, List.set_cons_zero, List.set_cons_succ]
   refine' wpAnyT_takeL (i := 12) (v := _) ?hiT12spg (by kernel_rfl) ?hQT12spg (Or.inl ⟨?hwT12spg, ?hyT12spg⟩) hS ?reT12spg
   case hiT12spg => (simp only [List.getElem?_toArray, List.getElem?_cons_succ, List.getElem?_cons_zero]; rfl)
   case hQT12spg => exact fun _ _ _ h => h
   case hwT12spg => rfl
   case hyT12spg => (intro wS hSw; obtain ⟨_, _⟩ := hSw; go_simp; (try with_reducible rfl))
   try simp only [Act.put, List.setIfInBounds_toArray, List.set_cons_zero, List.set_cons_succ]
   refine' wpAnyT_takeL (i := 13) (v := _) ?hiT13spg (by kernel_rfl) ?hQT13spg (Or.inl ⟨?hwT13spg, ?hyT13spg⟩) hS ?reT13spg
   case hiT13spg => (simp only [List.getElem?_toArray, List.getElem?_cons_succ, List.getElem?_cons_zero]; rfl)
   case hQT13spg => exact fun _ _ _ h => h
   case hwT13spg => rfl
   case hyT13spg => (intro wS hSw; obtain ⟨_, _⟩ := hSw; go_simp; (try with_reducible rfl))
   try simp only [Act.put, List.setIfInBounds_toArray, List.set_cons_zero, List.set_cons_succ]
   refine' wpAnyT_takeL (i := 14) (v := _) ?hiT14spg (by kernel_rfl) ?hQT14spg (Or.inl ⟨?hwT14spg, ?hyT14spg⟩) hS ?reT14spg
   case hiT14spg => (simp only [List.getElem?_toArray, List.getElem?_cons_succ, List.getElem?_cons_zero]; rfl)
   case hQT14spg => exact fun _ _ _ h => h
   case hwT14spg => rfl
   case hyT14spg => (intro wS hSw; obtain ⟨_, _⟩ := hSw; go_simp; (try with_reducible rfl))
   try simp only [Act.put, List.setIfInBounds_toArray, List.set_cons_zero, List.set_cons_succ]
   refine wpAnyT_ready (rs := [15]) (by kernel_rfl) (by simp) ?_
   refine' AllReadyT.cons ?hic15spg (fun K hK => ?stc15spg) AllReadyT.nil
   case hic15spg => (simp only [List.getElem?_toArray, List.getElem?_cons_succ, List.getElem?_cons_zero]; rfl)
   go_simp
   refine ((HG.out wd V1 Bu1 hk1)).mono ?_
   rintro (e w2 ⟨v2, rfl, ⟨A2, c2, rfl, hl2, hm2, hk2⟩, T2⟩)
   refine hK.out _ _ (fun _ => TwS.of (T2.blk V1 ky1 (by decide) (by decide)) (T2.blk V1 kx1 (by decide) (by decide))) (fun hS => ?_)
   clear hK K
   replace hS := hS rfl
   try simp only [Act.put, List.setIfInBounds_toArray, List.set_cons_zero, List.set_cons_succ]
   have ky2 := T2.blk V1 ky1 (by decide) (by decide)
   have kx2 := T2.blk V1 kx1 (by decide) (by decide)
   have B2 := B1.trans (T2.far.below (by have := B1.size; omega) (fun k hk e => by rcases e with rfl | ⟨e, _⟩ <;> omega))
   refine' wpAnyT_takeL (i := 16) (v := _) ?hiT16spg (by kernel_rfl) ?hQT16spg (Or.inl ⟨?hwT16spg, ?hyT16spg⟩) hS ?reT16spg
   case hiT16spg => (simp only [List.getElem?_toArray, List.getElem?_cons_succ, List.getElem?_cons_zero]; rfl)
   case hQT16spg => exact fun _ _ _ h => h
   case hwT16spg => rfl
   case hyT16spg => (intro wS hSw; obtain ⟨_, _⟩ := hSw; go_simp; (try with_reducible rfl))
   try simp only [Act.put, List.setIfInBounds_toArray, List.set_cons_zero, List.set_cons_succ]
   refine' wpAnyT_takeV (i := 17) (v := _) ?hiT17spg (by kernel_rfl) ?hQT17spg (Or.inl ⟨?hwT17spg, ?hyT17spg⟩) ?reT17spg
   case hiT17spg => (simp only [List.getElem?_toArray, List.getElem?_cons_succ, List.getElem?_cons_zero]; rfl)
   case hQT17spg => exact fun _ _ _ h => h
   case hwT17spg => rfl
   case hyT17spg => (intro wS hSw; go_simp; (try with_reducible rfl))
   try simp only [Act.put, List.setIfInBounds_toArray, List.set_cons_zero, List.set_cons_succ]
   refine' wpAnyT_takeV (i := 18) (v := _) ?hiT18spg (by kernel_rfl) ?hQT18spg (Or.inl ⟨?hwT18spg, ?hyT18spg⟩) ?reT18spg
   case hiT18spg => (simp only [List.getElem?_toArray, List.getElem?_cons_succ, List.getElem?_cons_zero]; rfl)
   case hQT18spg => exact fun _ _ _ h => h
   case hwT18spg => rfl
   case hyT18spg => (intro wS hSw; go_simp; (try with_reducible rfl))
   try simp only [Act.put, List.setIfInBounds_toArray, List.set_cons_zero, List.set_cons_succ]
   refine' wpAnyT_takeV (i := 19) (v := _) ?hiT19spg (by kernel_rfl) ?hQT19spg (Or.inl ⟨?hwT19spg, ?hyT19spg⟩) ?reT19spg
   case hiT19spg => (simp only [List.getElem?_toArray, List.getElem?_cons_succ, List.getElem?_cons_zero]; rfl)
   case hQT19spg => exact fun _ _ _ h => h
   case hwT19spg => rfl
   case hyT19spg => (intro wS hSw; go_simp; (try with_reducible rfl))
   try simp only [Act.put, List.setIfInBounds_toArray, List.set_cons_zero, List.set_cons_succ]
   refine' wpAnyT_takeV (i := 20) (v := _) ?hiT20spg (by kernel_rfl) ?hQT20spg (Or.inl ⟨?hwT20spg, ?hyT20spg⟩) ?reT20spg
   case hiT20spg => (simp only [List.getElem?_toArray, List.getElem?_cons_succ, List.getElem?_cons_zero]; rfl)
   case hQT20spg => exact fun _ _ _ h => h
   case hwT20spg => rfl
   case hyT20spg => (intro wS hSw; go_simp; (try with_reducible rfl))
   try simp only [Act.put, List.setIfInBounds_toArray, List.set_cons_zero, List.set_cons_succ]
   have F3 := putT_far w2 y sr (.slice A2 sr.kept.length c2)
   have ky3 := putT_blk ky2 sr (.slice A2 sr.kept.length c2)
   have kx3 := F3.blk kx2 (fun e => by have e : x = y := e; rw [e] at kx2; exact kx2.ne ky2 (by decide))
   have T3 := PlyAt.putR hlo hinv T2 ky2 hk2 hl2 hm2 F3 ky3
   have B3 := B2.trans (F3.below (Nat.le_trans hN B2.size) (fun k hk e => by have e : k = y := e; omega))
   have cy2 := ky2.cell
   have fy2 := ky2.frozen
   refine wpAnyT_ready (rs := [21]) (by kernel_rfl) (by simp) ?_
   refine' AllReadyT.cons ?hi21spg (fun KK hKK => ?st21spg) AllReadyT.nil
   case hi21spg => (simp only [List.getElem?_toArray, List.getElem?_cons_succ, List.getElem?_cons_zero]; rfl)
   go_simp
   refine hKK.out _ (putT w2 y sr (.slice A2 sr.kept.length c2)) (fun h => absurd h (by decide)) (fun _ => ?_)
   clear hKK KK
   generalize putT w2 y sr (.slice A2 sr.kept.length c2) = w3 at *
   try simp only [Act.put, List.setIfInBounds_toArray, List.set_cons_zero, List.set_cons_succ]
   refine' wpAnyT_takeV (i := 22) (v := _) ?hiT22spg (by kernel_rfl) ?hQT22spg (Or.inl ⟨?hwT22spg, ?hyT22spg⟩) ?reT22spg
   case hiT22spg => (simp only [List.getElem?_toArray, List.getElem?_cons_succ, List.getElem?_cons_zero]; rfl)
   case hQT22spg => exact fun _ _ _ h => h
   case hwT22spg => rfl
   case hyT22spg => (intro wS hSw; go_simp; (try with_reducible rfl))
   try simp only [Act.put, List.setIfInBounds_toArray, List.set_cons_zero, List.set_cons_succ]
   refine wpAnyT_done (by kernel_rfl) ?_ _
   refine noPanic_normal ?_
   go_wp2_with fail
   go_ret
   exact ⟨⟨_, rfl⟩, T3, B3⟩
  ·go_enter Tryz.func15, Tryz.ntmps15
   go_upto_region 1 with fail
   generalize w.alloc _ = w0 at *
   try simp only [hx]
   have cx := kx.cell
   go_upto_region 13 with fail
   have hbd := (Below.refl w0.heap.size w0).drew
   have V1 := V0.call hbd
   have Bu1 := Bu0.call hbd
   have ky1 := ky0.call hbd
   have kx1 := kx.call hbd
   have hk1 := hk0.call hbd
   have B1 := B0.trans (hbd.mono (by have := B0.size; omega))
   refine wp_noPanic ?_
   refine wp_region_T (TwS y bs bb x r (.slice A r.kept.length cap) b) [0, 17, 18, 19, 20, 21, 22] (by kernel_rfl) ?_
   generalize w0.drew = wd at *
   have hS := TwS.of ky1 kx1
   dsimp only [TwS] at hS ⊢
   clear V0 Bu0 ky0 kx hk0 B0 cx hbd hb0
   refine' wpAnyT_takeV (i := 0) (v := _) ?hiT0sph (by kernel_rfl) ?hQT0sph (Or.inl ⟨?hwT0sph, ?hyT0sph⟩) ?reT0sph
   case hiT0sph => (simp only [List.getElem?_toArray, List.getElem?_cons_zero]; rfl)
   case hQT0sph => exact fun _ _ _ h => h
   case hwT0sph => rfl
   case hyT0sph => (intro wS hSw; go_simp; (try with_reducible rfl))
   try simp only [Act.put, List.setIfInBounds_toArray, List.set_cons_zero, List.set_cons_succ]
   refine' wpAnyT_takeL (i := 1) (v := _) ?hiT1sph (by kernel_rfl) ?hQT1sph (Or.inl ⟨?hwT1sph, ?hyT1sph⟩) hS ?reT1sph
   case hiT1sph => (simp only [List.getElem?_toArray, List.getElem?_cons_succ, List.getElem?_cons_zero]; rfl)
   case hQT1sph => exact fun _ _ _ h => h
   case hwT1sph => rfl
   case hyT1sph => (intro wS hSw; obtain ⟨_, _⟩ := hSw; go_simp; (try with_reducible rfl))
   try simp only [Act.put, List.setIfInBounds_toArray, List.set_cons_zero, List.set_cons_succ]
   refine' wpAnyT_takeL (i := 2) (v := _) ?hiT2sph (by kernel_rfl) ?hQT2sph (Or.inl ⟨?hwT2sph, ?hyT2sph⟩) hS ?reT2sph
   case hiT2sph => (simp only [List.getElem?_toArray, List.getElem?_cons_succ, List.getElem?_cons_zero]; rfl)
   case hQT2sph => exact fun _ _ _ h => h
   case hwT2sph => rfl
   case hyT2sph => (intro wS hSw; obtain ⟨_, _⟩ := hSw; go_simp; (try with_reducible rfl))
   try simp only [Act.put, List.setIfInBounds_toArray, List.set_cons_zero, List.set_cons_succ]
   refine' wpAnyT_takeL (i := 3) (v := _) ?hiT3sph (by kernel_rfl) ?hQT3sph (Or.inl ⟨?hwT3sph, ?hyT3sph⟩) hS ?reT3sph
   case hiT3sph => (simp only [List.getElem?_toArray, List.getElem?_cons_succ, List.getElem?_cons_zero]; rfl)
   case hQT3sph => exact fun _ _ _ h => h
   case hwT3sph => rfl
   case hyT3sph => (intro wS hSw; obtain ⟨_, _⟩ := hSw; go_simp; (try with_reducible rfl))
   try simp only [Act.put, List.setIfInBounds_toArray, List.set_cons_zero, List.set_cons_succ]
   refine' wpAnyT_takeL (i := 4) (v := _) ?hiT4sph (by kernel_rfl) ?hQT4sph (Or.inl ⟨?hwT4sph, ?hyT4sph⟩) hS ?reT4sph
   case hiT4sph => (simp only [List.getElem?_toArray, List.getElem?_cons_succ, List.getElem?_cons_zero]; rfl)
   case hQT4sph => exact fun _ _ _ h => h
   case hwT4sph => rfl
   case hyT4sph => (intro wS hSw; obtain ⟨_, _⟩ := hSw; go_simp; (try with_reducible rfl))
   try simp only [Act.put, List.setIfInBounds_toArray, List.set_cons_zero, List.set_cons_succ]
   refine' wpAnyT_takeL (i := 5) (v := _) ?hiT5sph (by kernel_rfl) ?hQT5sph (Or.inl ⟨?hwT5sph, ?hyT5sph⟩) hS ?reT5sph
   case hiT5sph => (simp only [List.getElem?_toArray, List.getElem?_cons_succ, List.getElem?_cons_zero]; rfl)
   case hQT5sph => exact fun _ _ _ h => h
   case hwT5sph => rfl
   case hyT5sph => (intro wS hSw; obtain ⟨_, _⟩ := hSw; go_simp; (try with_reducible rfl))
   try simp only [Act.put, List.setIfInBounds_toArray, List.set_cons_zero, List.set_cons_succ]
   refine' wpAnyT_takeL (i := 6) (v := _) ?hiT6sph (by kernel_rfl) ?hQT6sph (Or.inl ⟨?hwT6sph, ?hyT6sph⟩) hS ?reT6sph
   case hiT6sph => (simp only [List.getElem?_toArray, List.getElem?_cons_succ, List.getElem?_cons_zero]; rfl)
   case hQT6sph => exact fun _ _ _ h => h
   case hwT6sph => rfl
   case hyT6sph => (intro wS hSw; obtain ⟨_, _⟩ := hSw; go_simp; (try with_reducible rfl))
   try simp only [Act.put, List.setIfInBounds_toArray, List.set_cons_zero, List.set_cons_succ]
   refine' wpAnyT_takeL (i := 7) (v := _) ?hiT7sph (by kernel_rfl) ?hQT7sph (Or.inl ⟨?hwT7sph, ?hyT7sph⟩) hS ?reT7sph
   case hiT7sph => (simp only [List.getElem?_toArray, List.getElem?_cons_succ, List.getElem?_cons_zero]; rfl)
   case hQT7sph => exact fun _ _ _ h => h
   case hwT7sph => rfl
   case hyT7sph => (intro wS hSw; obtain ⟨_, _⟩ := hSw; go_simp; (try with_reducible rfl))
   try simp only [Act.put, List.setIfInBounds_toArray, List.set_cons_zero, List.set_cons_succ]
   refine' wpAnyT_takeL (i := 8) (v := _) ?hiT8sph (by kernel_rfl) ?hQT8sph (Or.inl ⟨?hwT8sph, ?hyT8sph⟩) hS ?reT8sph
   case hiT8sph => (simp only [List.getElem?_toArray, List.getElem?_cons_succ, List.getElem?_cons_zero]; rfl)
   case hQT8sph => exact fun _ _ _ h => h
   case hwT8sph => rfl
   case hyT8sph => (intro wS hSw; obtain ⟨_, _⟩ := hSw; go_simp; (try with_reducible rfl))
   try simp only [Act.put, List.setIfInBounds_toArray, List.set_cons_zero, List.set_cons_succ]
   refine' wpAnyT_takeL (i := 9) (v := _) ?hiT9sph (by kernel_rfl) ?hQT9sph (Or.inl ⟨?hwT9sph, ?hyT9sph⟩) hS ?reT9sph
   case hiT9sph => (simp only [List.getElem?_toArray, List.getElem?_cons_succ, List.getElem?_cons_zero]; rfl)
   case hQT9sph => exact fun _ _ _ h => h
   case hwT9sph => rfl
   case hyT9sph => (intro wS hSw; obtain ⟨_, _⟩ := hSw; go_simp; (try with_reducible rfl))
   try simp only [Act.put, List.setIfInBounds_toArray, List.set_cons_zero, List.set_cons_succ]
   refine' wpAnyT_takeL (i := 10) (v := _) ?hiT10sph (by kernel_rfl) ?hQT10sph (Or.inl ⟨?hwT10sph, ?hyT10sph⟩) hS ?reT10sph
   case hiT10sph => (simp only [List.getElem?_toArray, List.getElem?_cons_succ, List.getElem?_cons_zero]; rfl)
   case hQT10sph => exact fun _ _ _ h => h
   case hwT10sph => rfl
   case hyT10sph => (intro wS hSw; obtain ⟨_, _⟩ := hSw; go_simp; (try with_reducible rfl))
   try simp only [Act.put, List.setIfInBounds_toArray, List.set_cons_zero, List.set_cons_succ]
   refine' wpAnyT_takeL (i := 11) (v := _) ?hiT11sph (by kernel_rfl) ?hQT11sph (Or.inl ⟨?hwT11sph, ?hyT11sph⟩) hS ?reT11sph
   case hiT11sph => (simp only [List.getElem?_toArray, List.getElem?_cons_succ, List.getElem?_cons_zero]; rfl)
   case hQT11sph => exact fun _ _ _ h => h
   case hwT11sph => rfl
   case hyT11sph => (intro wS hSw; obtain ⟨_, _⟩ := hSw; go_simp; (try with_reducible rfl))
   try simp only [Act.put, List.setIfInBounds_toArray, List.set_cons_zero, List.set_cons_succ]
   refine' wpAnyT_takeL (i := 12) (v := _) ?hiT12sph (by kernel_rfl) ?hQT12sph (Or.inl ⟨?hwT12sph, ?hyT12sph⟩) hS ?reT12sph
   case hiT12sph => (simp only [List.getElem?_toArray, List.getElem?_cons_succ, List.getElem?_cons_zero]; rfl)
   case hQT12sph => exact fun _ _ _ h => h
   case hwT12sph => rfl
   case hyT12sph => (intro wS hSw; obtain ⟨_, _⟩ := hSw; go_simp; (try with_reducible rfl))
   try simp only [Act.put, List.setIfInBounds_toArray, List.set_cons_zero, List.set_cons_succ]
   refine' wpAnyT_takeL (i := 13) (v := _) ?hiT13sph (by kernel_rfl) ?hQT13sph (Or.inl ⟨?hwT13sph, ?hyT13sph⟩) hS ?reT13sph
   case hiT13sph => (simp only [List.getElem?_toArray, List.getElem?_cons_succ, List.getElem?_cons_zero]; rfl)
   case hQT13sph => exact fun _ _ _ h => h
   case hwT13sph => rfl
   case hyT13sph => (intro wS hSw; obtain ⟨_, _⟩ := hSw; go_simp; (try with_reducible rfl))
   try simp only [Act.put, List.setIfInBounds_toArray, List.set_cons_zero, List.set_cons_succ]
   refine' wpAnyT_takeL (i := 14) (v := _) ?hiT14sph (by kernel_rfl) ?hQT14sph (Or.inl ⟨?hwT14sph, ?hyT14sph⟩) hS ?reT14sph
   case hiT14sph => (simp only [List.getElem?_toArray, List.getElem?_cons_succ, List.getElem?_cons_zero]; rfl)
   case hQT14sph => exact fun _ _ _ h => h
   case hwT14sph => rfl
   case hyT14sph => (intro wS hSw; obtain ⟨_, _⟩ := hSw; go_simp; (try with_reducible rfl))
   try simp only [Act.put, List.setIfInBounds_toArray, List.set_cons_zero, List.set_cons_succ]
   refine wpAnyT_ready (rs := [15]) (by kernel_rfl) (by simp) ?_
   refine' AllReadyT.cons ?hic15sph (fun K hK => ?stc15sph) AllReadyT.nil
   case hic15sph => (simp only [List.getElem?_toArray, List.getElem?_cons_succ, List.getElem?_cons_zero]; rfl)
   go_simp
   refine ((HG.out wd V1 Bu1 hk1)).mono ?_
   rintro (e w2 ⟨v2, rfl, ⟨A2, c2, rfl, hl2, hm2, hk2⟩, T2⟩)
   refine hK.out _ _ (fun _ => TwS.of (T2.blk V1 ky1 (by decide) (by decide)) (T2.blk V1 kx1 (by decide) (by decide))) (fun hS => ?_)
   clear hK K
   replace hS := hS rfl
   try simp only [Act.put, List.setIfInBounds_toArray, List.set_cons_zero, List.set_cons_succ]
   have ky2 := T2.blk V1 ky1 (by decide) (by decide)
   have kx2 := T2.blk V1 kx1 (by decide) (by decide)
   have B2 := B1.trans (T2.far.below (by have := B1.size; omega) (fun k hk e => by rcases e with rfl | ⟨e, _⟩ <;> omega))
   refine' wpAnyT_takeL (i := 16) (v := _) ?hiT16sph (by kernel_rfl) ?hQT16sph (Or.inl ⟨?hwT16sph, ?hyT16sph⟩) hS ?reT16sph
   case hiT16sph => (simp only [List.getElem?_toArray, List.getElem?_cons_succ, List.getElem?_cons_zero]; rfl)
   case hQT16sph => exact fun _ _ _ h => h
   case hwT16sph => rfl
   case hyT16sph => (intro wS hSw; obtain ⟨_, _⟩ := hSw; go_simp; (try with_reducible rfl))
   try simp only [Act.put, List.setIfInBounds_toArray, List.set_cons_zero, List.set_cons_succ]
   refine' wpAnyT_takeV (i := 17) (v := _) ?hiT17sph (by kernel_rfl) ?hQT17sph (Or.inl ⟨?hwT17sph, ?hyT17sph⟩) ?reT17sph
   case hiT17sph => (simp only [List.getElem?_toArray, List.getElem?_cons_succ, List.getElem?_cons_zero]; rfl)
   case hQT17sph => exact fun _ _ _ h => h
   case hwT17sph => rfl
   case hyT17sph => (intro wS hSw; go_simp; (try with_reducible rfl))
   try simp only [Act.put, List.setIfInBounds_toArray, List.set_cons_zero, List.set_cons_succ]
   refine' wpAnyT_takeV (i := 18) (v := _) ?hiT18sph (by kernel_rfl) ?hQT18sph (Or.inl ⟨?hwT18sph, ?hyT18sph⟩) ?reT18sph
   case hiT18sph => (simp only [List.getElem?_toArray, List.getElem?_cons_succ, List.getElem?_cons_zero]; rfl)
   case hQT18sph => exact fun _ _ _ h => h
   case hwT18sph => rfl
   case hyT18sph => (intro wS hSw; go_simp; (try with_reducible rfl))
   try simp only [Act.put, List.setIfInBounds_toArray, List.set_cons_zero, List.set_cons_succ]
   refine' wpAnyT_takeV (i := 19) (v := _) ?hiT19sph (by kernel_rfl) ?hQT19sph (Or.inl ⟨?hwT19sph, ?hyT19sph⟩) ?reT19sph
   case hiT19sph => (simp only [List.getElem?_toArray, List.getElem?_cons_succ, List.getElem?_cons_zero]; rfl)
   case hQT19sph => exact fun _ _ _ h => h
   case hwT19sph => rfl
   case hyT19sph => (intro wS hSw; go_simp; (try with_reducible rfl))
   try simp only [Act.put, List.setIfInBounds_toArray, List.set_cons_zero, List.set_cons_succ]
   refine' wpAnyT_takeV (i := 20) (v := _) ?hiT20sph (by kernel_rfl) ?hQT20sph (Or.inl ⟨?hwT20sph, ?hyT20sph⟩) ?reT20sph
   case hiT20sph => (simp only [List.getElem?_toArray, List.getElem?_cons_succ, List.getElem?_cons_zero]; rfl)
   case hQT20sph => exact fun _ _ _ h => h
   case hwT20sph => rfl
   case hyT20sph => (intro wS hSw; go_simp; (try with_reducible rfl))
   try simp only [Act.put, List.setIfInBounds_toArray, List.set_cons_zero, List.set_cons_succ]
   have F3 := putT_far w2 y sr (.slice A2 sr.kept.length c2)
   have ky3 := putT_blk ky2 sr (.slice A2 sr.kept.length c2)
   have kx3 := F3.blk kx2 (fun e => by have e : x = y := e; rw [e] at kx2; exact kx2.ne ky2 (by decide))
   have T3 := PlyAt.putR hlo hinv T2 ky2 hk2 hl2 hm2 F3 ky3
   have B3 := B2.trans (F3.below (Nat.le_trans hN B2.size) (fun k hk e => by have e : k = y := e; omega))
   have cy2 := ky2.cell
   have fy2 := ky2.frozen
   refine wpAnyT_ready (rs := [21]) (by kernel_rfl) (by simp) ?_
   refine' AllReadyT.cons ?hi21sph (fun KK hKK => ?st21sph) AllReadyT.nil
   case hi21sph => (simp only [List.getElem?_toArray, List.getElem?_cons_succ, List.getElem?_cons_zero]; rfl)
   go_simp
   refine hKK.out _ (putT w2 y sr (.slice A2 sr.kept.length c2)) (fun h => absurd h (by decide)) (fun _ => ?_)
   clear hKK KK
   generalize putT w2 y sr (.slice A2 sr.kept.length c2) = w3 at *
   try simp only [Act.put, List.setIfInBounds_toArray, List.set_cons_zero, List.set_cons_succ]
   refine' wpAnyT_takeV (i := 22) (v := _) ?hiT22sph (by kernel_rfl) ?hQT22sph (Or.inl ⟨?hwT22sph, ?hyT22sph⟩) ?reT22sph
   case hiT22sph => (simp only [List.getElem?_toArray, List.getElem?_cons_succ, List.getElem?_cons_zero]; rfl)
   case hQT22sph => exact fun _ _ _ h => h
   case hwT22sph => rfl
   case hyT22sph => (intro wS hSw; go_simp; (try with_reducible rfl))
   try simp only [Act.put, List.setIfInBounds_toArray, List.set_cons_zero, List.set_cons_succ]
   refine wpAnyT_done (by kernel_rfl) ?_ _
   refine noPanic_normal ?_
   go_wp2_with fail
   go_ret
   exact ⟨⟨_, rfl⟩, T3, B3⟩
 rw [if_neg c3] at hR
 by_cases c4 : m = 8
 ·rw [if_pos c4] at hR
  have HN := Lib.hid (fun W => refNth_any r.pg r.n r.f r.bk r.ev b W (nthC r b) rfl)
  have hng := Lib.hid (nthC_range (r := r) (i := b))
  unfold planV at HN
  generalize nthC r b = S at *
  obtain ⟨sp, se⟩ := S
  simp only at HN hR hng
  clear c1 c2 c3 hm0
  subst c4
  go_enter Tryz.func15, Tryz.ntmps15
  go_upto_region 1 with fail
  generalize w.alloc _ = w0 at *
  try simp only [hx]
  have cx := kx.cell
  go_upto_region 15 with fail
  have hbd := (Below.refl w0.heap.size w0).drew
  have V1 := V0.call hbd
  have Bu1 := Bu0.call hbd
  have ky1 := ky0.call hbd
  have kx1 := kx.call hbd
  have hk1 := hk0.call hbd
  have B1 := B0.trans (hbd.mono (by have := B0.size; omega))
  refine wp_noPanic ?_
  refine wp_region_T (TwS y bs bb x r (.slice A r.kept.length cap) b) [] (by kernel_rfl) ?_
  generalize w0.drew = wd at *
  have hS := TwS.of ky1 kx1
  dsimp only [TwS] at hS ⊢
  clear V0 Bu0 ky0 kx hk0 B0 cx hbd hb0
  refine' wpAnyT_take (i := 0) (v := _) ?hiT0spk (by kernel_rfl) ?hQT0spk (Or.inl ⟨?hwT0spk, ?hyT0spk⟩) hS ?reT0spk
  case hiT0spk => (simp only [List.getElem?_toArray, List.getElem?_cons_zero]; rfl)
  case hQT0spk => exact fun _ _ _ h => h
  case hwT0spk => rfl
  case hyT0spk => (intro wS hSw; obtain ⟨_, _⟩ := hSw; go_simp; (try with_reducible rfl))
  try simp only [Act.put, List.setIfInBounds_toArray, List.set_cons_zero, List.set_cons_succ]
  refine' wpAnyT_take (i := 1) (v := _) ?hiT1spk (by kernel_rfl) ?hQT1spk (Or.inl ⟨?hwT1spk, ?hyT1spk⟩) hS ?reT1spk
  case hiT1spk => (simp only [List.getElem?_toArray, List.getElem?_cons_succ, List.getElem?_cons_zero]; rfl)
  case hQT1spk => exact fun _ _ _ h => h
  case hwT1spk => rfl
  case hyT1spk => (intro wS hSw; obtain ⟨_, _⟩ := hSw; go_simp; (try with_reducible rfl))
  try simp only [Act.put, List.setIfInBounds_toArray, List.set_cons_zero, List.set_cons_succ]
  refine' wpAnyT_take (i := 2) (v := _) ?hiT2spk (by kernel_rfl) ?hQT2spk (Or.inl ⟨?hwT2spk, ?hyT2spk⟩) hS ?reT2spk
  case hiT2spk => (simp only [List.getElem?_toArray, List.getElem?_cons_succ, List.getElem?_cons_zero]; rfl)
  case hQT2spk => exact fun _ _ _ h => h
  case hwT2spk => rfl
  case hyT2spk => (intro wS hSw; obtain ⟨_, _⟩ := hSw; go_simp; (try with_reducible rfl))
  try simp only [Act.put, List.setIfInBounds_toArray, List.set_cons_zero, List.set_cons_succ]
  refine' wpAnyT_take (i := 3) (v := _) ?hiT3spk (by kernel_rfl) ?hQT3spk (Or.inl ⟨?hwT3spk, ?hyT3spk⟩) hS ?reT3spk
  case hiT3spk => (simp only [List.getElem?_toArray, List.getElem?_cons_succ, List.getElem?_cons_zero]; rfl)
  case hQT3spk => exact fun _ _ _ h => h
  case hwT3spk => rfl
  case hyT3spk => (intro wS hSw; obtain ⟨_, _⟩ := hSw; go_simp; (try with_reducible rfl))
  try simp only [Act.put, List.setIfInBounds_toArray, List.set_cons_zero, List.set_cons_succ]
  refine' wpAnyT_take (i := 4) (v := _) ?hiT4spk (by kernel_rfl) ?hQT4spk (Or.inl ⟨?hwT4spk, ?hyT4spk⟩) hS ?reT4spk
  case hiT4spk => (simp only [List.getElem?_toArray, List.getElem?_cons_succ, List.getElem?_cons_zero]; rfl)
  case hQT4spk => exact fun _ _ _ h => h
  case hwT4spk => rfl
  case hyT4spk => (intro wS hSw; obtain ⟨_, _⟩ := hSw; go_simp; (try with_reducible rfl))
  try simp only [Act.put, List.setIfInBounds_toArray, List.set_cons_zero, List.set_cons_succ]
  refine' wpAnyT_take (i := 5) (v := _) ?hiT5spk (by kernel_rfl) ?hQT5spk (Or.inl ⟨?hwT5spk, ?hyT5spk⟩) hS ?reT5spk
  case hiT5spk => (simp only [List.getElem?_toArray, List.getElem?_cons_succ, List.getElem?_cons_zero]; rfl)
  case hQT5spk => exact fun _ _ _ h => h
  case hwT5spk => rfl
  case hyT5spk => (intro wS hSw; obtain ⟨_, _⟩ := hSw; go_simp; (try with_reducible rfl))
  try simp only [Act.put, List.setIfInBounds_toArray, List.set_cons_zero, List.set_cons_succ]
  refine' wpAnyT_take (i := 6) (v := _) ?hiT6spk (by kernel_rfl) ?hQT6spk (Or.inl ⟨?hwT6spk, ?hyT6spk⟩) hS ?reT6spk
  case hiT6spk => (simp only [List.getElem?_toArray, List.getElem?_cons_succ, List.getElem?_cons_zero]; rfl)
  case hQT6spk => exact fun _ _ _ h => h
  case hwT6spk => rfl
  case hyT6spk => (intro wS hSw; obtain ⟨_, _⟩ := hSw; go_simp; (try with_reducible rfl))
  try simp only [Act.put, List.setIfInBounds_toArray, List.set_cons_zero, List.set_cons_succ]
  refine wpAnyT_ready (rs := [7]) (by kernel_rfl) (by simp) ?_
  refine' AllReadyT.cons ?hic7spk (fun K hK => ?stc7spk) AllReadyT.nil
  case hic7spk => (simp only [List.getElem?_toArray, List.getElem?_cons_succ, List.getElem?_cons_zero]; rfl)
  go_simp
  refine ((HN.out wd)).mono ?_
  rintro (e w2 ⟨rfl, hb2⟩)
  refine hK.out _ _ (fun _ => TwS.of (ky1.call hb2) (kx1.call hb2)) (fun hS => ?_)
  clear hK K
  replace hS := hS rfl
  try simp only [Act.put, List.setIfInBounds_toArray, List.set_cons_zero, List.set_cons_succ]
  refine' wpAnyT_take (i := 8) (v := _) ?hiT8spk (by kernel_rfl) ?hQT8spk (Or.inl ⟨?hwT8spk, ?hyT8spk⟩) hS ?reT8spk
  case hiT8spk => (simp only [List.getElem?_toArray, List.getElem?_cons_succ, List.getElem?_cons_zero]; rfl)
  case hQT8spk => exact fun _ _ _ h => h
  case hwT8spk => rfl
  case hyT8spk => (intro wS hSw; obtain ⟨_, _⟩ := hSw; go_simp; (try with_reducible rfl))
  try simp only [Act.put, List.setIfInBounds_toArray, List.set_cons_zero, List.set_cons_succ]
  refine' wpAnyT_take (i := 9) (v := _) ?hiT9spk (by kernel_rfl) ?hQT9spk (Or.inl ⟨?hwT9spk, ?hyT9spk⟩) hS ?reT9spk
  case hiT9spk => (simp only [List.getElem?_toArray, List.getElem?_cons_succ, List.getElem?_cons_zero]; rfl)
  case hQT9spk => exact fun _ _ _ h => h
  case hwT9spk => rfl
  case hyT9spk => (intro wS hSw; obtain ⟨_, _⟩ := hSw; go_simp; (try with_reducible rfl))
  try simp only [Act.put, List.setIfInBounds_toArray, List.set_cons_zero, List.set_cons_succ]
  refine' wpAnyT_take (i := 10) (v := _) ?hiT10spk (by kernel_rfl) ?hQT10spk (Or.inl ⟨?hwT10spk, ?hyT10spk⟩) hS ?reT10spk
  case hiT10spk => (simp only [List.getElem?_toArray, List.getElem?_cons_succ, List.getElem?_cons_zero]; rfl)
  case hQT10spk => exact fun _ _ _ h => h
  case hwT10spk => rfl
  case hyT10spk => (intro wS hSw; obtain ⟨_, _⟩ := hSw; go_simp; (try with_reducible rfl))
  try simp only [Act.put, List.setIfInBounds_toArray, List.set_cons_zero, List.set_cons_succ]
  refine' wpAnyT_take (i := 11) (v := _) ?hiT11spk (by kernel_rfl) ?hQT11spk (Or.inl ⟨?hwT11spk, ?hyT11spk⟩) hS ?reT11spk
  case hiT11spk => (simp only [List.getElem?_toArray, List.getElem?_cons_succ, List.getElem?_cons_zero]; rfl)
  case hQT11spk => exact fun _ _ _ h => h
  case hwT11spk => rfl
  case hyT11spk => (intro wS hSw; obtain ⟨_, _⟩ := hSw; go_simp; (try with_reducible rfl))
  try simp only [Act.put, List.setIfInBounds_toArray, List.set_cons_zero, List.set_cons_succ]
  refine' wpAnyT_take (i := 12) (v := _) ?hiT12spk (by kernel_rfl) ?hQT12spk (Or.inl ⟨?hwT12spk, ?hyT12spk⟩) hS ?reT12spk
  case hiT12spk => (simp only [List.getElem?_toArray, List.getElem?_cons_succ, List.getElem?_cons_zero]; rfl)
  case hQT12spk => exact fun _ _ _ h => h
  case hwT12spk => rfl
  case hyT12spk => (intro wS hSw; obtain ⟨_, _⟩ := hSw; go_simp; (try with_reducible rfl))
  try simp only [Act.put, List.setIfInBounds_toArray, List.set_cons_zero, List.set_cons_succ]
  refine wpAnyT_done (by kernel_rfl) ?_ _
  refine noPanic_normal ?_
  have V2 := V1.call hb2
  have Bu2 := Bu1.call hb2
  have ky2 := ky1.call hb2
  have hk2 := hk1.call hb2
  have B2 := B1.trans (hb2.mono (by have := B1.size; omega))
  have cy2 := ky2.cell
  clear V1 Bu1 ky1 hk1 B1 hS hb2 kx1
  by_cases hse : se = 0
  ·subst hse
   rw [if_pos rfl] at hR
   subst hR
   simp only at hinv
   obtain ⟨hp0, hp1⟩ := hng.out rfl
   obtain ⟨u, hu⟩ : ∃ u, sp % 64 = u := ⟨_, rfl⟩
   obtain ⟨q, hq⟩ : ∃ q, sp % 200 = q := ⟨_, rfl⟩
   have tu : Int.tmod sp 64 = u := by rw [Int.tmod_eq_emod_of_nonneg hp0]; exact hu
   have tq : Int.tmod sp 200 = q := by rw [Int.tmod_eq_emod_of_nonneg hp0]; exact hq
   have hu2 : 0 ≤ u ∧ u < 64 := by omega
   have hq2 : 0 ≤ q ∧ q < 200 := by omega
   have hw8 : IntKind.u8.wrap (1 + q) = 1 + q := IntWalk.u8_in _ (by omega)
   have HW := Lib.hid (write_any bs (sp * 64 + u) (1 + q) V w2 V2)
   have huH := Lib.hid hu
   have hqH := Lib.hid hq
   clear hu hq
   go_wp2_with fail
   refine HW.out.mono ?_
   rintro e w3 ⟨rfl, h3⟩
   have hE : writeF V (sp * 64 + u) (1 + q) = writeF V (sp * 64 + sp % 64) (1 + sp % 200) := by rw [huH.out, hqH.out]
   rw [hE] at h3
   clear hE huH hqH tu tq
   have ky3 := h3.blk V2 ky2 (by decide)
   have T3 := BothTo.bySys V2 Bu2 h3
   have hk3 := T3.kept V2 hk2
   go_wp2_with fail
   go_ret
   exact ⟨⟨_, rfl⟩, ⟨h3.1, T3.bud, ⟨A, cap, ky3, hk3, hl, hm⟩, hlo, hinv⟩, B2.trans (h3.2.below (by have := B2.size; omega) (fun k hk e => by have e : k = bs := e; omega))⟩
  ·have d1 : (se == 0) = false := by simpa using hse
   rw [if_neg hse] at hR
   subst hR
   simp only at hinv
   clear hse
   go_wp2_with fail
   go_ret
   exact ⟨⟨_, rfl⟩, ⟨V2, Bu2, ⟨A, cap, ky2, hk2, hl, hm⟩, hlo, hinv⟩, B2⟩
 rw [if_neg c4] at hR
 by_cases c5 : m = 10
 ·rw [if_pos c5] at hR
  have HG := Lib.hid (fun W h2 => setLimB_any bb 1 b L W h2 hO (by rw [h2len]; decide))
  generalize setLimB L 1 b = S at *
  obtain ⟨se, sL⟩ := S
  simp only at HG hR
  rw [show ((1 : Nat) : Int) = 1 from rfl] at HG
  subst hR
  simp only at hinv
  clear c1 c2 c3 c4 hm0
  subst c5
  go_enter Tryz.func15, Tryz.ntmps15
  go_upto_region 1 with fail
  generalize w.alloc _ = w0 at *
  try simp only [hx]
  have cx := kx.cell
  go_upto_region 20 with fail
  have hbd := (Below.refl w0.heap.size w0).drew
  have V1 := V0.call hbd
  have Bu1 := Bu0.call hbd
  have ky1 := ky0.call hbd
  have kx1 := kx.call hbd
  have hk1 := hk0.call hbd
  have B1 := B0.trans (hbd.mono (by have := B0.size; omega))
  refine wp_noPanic ?_
  refine wp_region_T (TwS y bs bb x r (.slice A r.kept.length cap) b) [] (by kernel_rfl) ?_
  generalize w0.drew = wd at *
  have hS := TwS.of ky1 kx1
  dsimp only [TwS] at hS ⊢
  clear V0 Bu0 ky0 kx hk0 B0 cx hbd hb0
  refine' wpAnyT_take (i := 0) (v := _) ?hiT0spj (by kernel_rfl) ?hQT0spj (Or.inl ⟨?hwT0spj, ?hyT0spj⟩) hS ?reT0spj
  case hiT0spj => (simp only [List.getElem?_toArray, List.getElem?_cons_zero]; rfl)
  case hQT0spj => exact fun _ _ _ h => h
  case hwT0spj => rfl
  case hyT0spj => (intro wS hSw; obtain ⟨_, _⟩ := hSw; go_simp; (try with_reducible rfl))
  try simp only [Act.put, List.setIfInBounds_toArray, List.set_cons_zero, List.set_cons_succ]
  refine' wpAnyT_take (i := 1) (v := _) ?hiT1spj (by kernel_rfl) ?hQT1spj (Or.inl ⟨?hwT1spj, ?hyT1spj⟩) hS ?reT1spj
  case hiT1spj => (simp only [List.getElem?_toArray, List.getElem?_cons_succ, List.getElem?_cons_zero]; rfl)
  case hQT1spj => exact fun _ _ _ h => h
  case hwT1spj => rfl
  case hyT1spj => (intro wS hSw; obtain ⟨_, _⟩ := hSw; go_simp; (try with_reducible rfl))
  try simp only [Act.put, List.setIfInBounds_toArray, List.set_cons_zero, List.set_cons_succ]
  refine' wpAnyT_take (i := 2) (v := _) ?hiT2spj (by kernel_rfl) ?hQT2spj (Or.inl ⟨?hwT2spj, ?hyT2spj⟩) hS ?reT2spj
  case hiT2spj => (simp only [List.getElem?_toArray, List.getElem?_cons_succ, List.getElem?_cons_zero]; rfl)
  case hQT2spj => exact fun _ _ _ h => h
  case hwT2spj => rfl
  case hyT2spj => (intro wS hSw; obtain ⟨_, _⟩ := hSw; go_simp; (try with_reducible rfl))
  try simp only [Act.put, List.setIfInBounds_toArray, List.set_cons_zero, List.set_cons_succ]
  refine' wpAnyT_take (i := 3) (v := _) ?hiT3spj (by kernel_rfl) ?hQT3spj (Or.inl ⟨?hwT3spj, ?hyT3spj⟩) hS ?reT3spj
  case hiT3spj => (simp only [List.getElem?_toArray, List.getElem?_cons_succ, List.getElem?_cons_zero]; rfl)
  case hQT3spj => exact fun _ _ _ h => h
  case hwT3spj => rfl
  case hyT3spj => (intro wS hSw; obtain ⟨_, _⟩ := hSw; go_simp; (try with_reducible rfl))
  try simp only [Act.put, List.setIfInBounds_toArray, List.set_cons_zero, List.set_cons_succ]
  refine' wpAnyT_take (i := 4) (v := _) ?hiT4spj (by kernel_rfl) ?hQT4spj (Or.inl ⟨?hwT4spj, ?hyT4spj⟩) hS ?reT4spj
  case hiT4spj => (simp only [List.getElem?_toArray, List.getElem?_cons_succ, List.getElem?_cons_zero]; rfl)
  case hQT4spj => exact fun _ _ _ h => h
  case hwT4spj => rfl
  case hyT4spj => (intro wS hSw; obtain ⟨_, _⟩ := hSw; go_simp; (try with_reducible rfl))
  try simp only [Act.put, List.setIfInBounds_toArray, List.set_cons_zero, List.set_cons_succ]
  refine' wpAnyT_take (i := 5) (v := _) ?hiT5spj (by kernel_rfl) ?hQT5spj (Or.inl ⟨?hwT5spj, ?hyT5spj⟩) hS ?reT5spj
  case hiT5spj => (simp only [List.getElem?_toArray, List.getElem?_cons_succ, List.getElem?_cons_zero]; rfl)
  case hQT5spj => exact fun _ _ _ h => h
  case hwT5spj => rfl
  case hyT5spj => (intro wS hSw; obtain ⟨_, _⟩ := hSw; go_simp; (try with_reducible rfl))
  try simp only [Act.put, List.setIfInBounds_toArray, List.set_cons_zero, List.set_cons_succ]
  refine wpAnyT_ready (rs := [6]) (by kernel_rfl) (by simp) ?_
  refine' AllReadyT.cons ?hic6spj (fun K hK => ?stc6spj) AllReadyT.nil
  case hic6spj => (simp only [List.getElem?_toArray, List.getElem?_cons_succ, List.getElem?_cons_zero]; rfl)
  go_simp
  refine ((HG.out wd Bu1)).mono ?_
  rintro (e w2 ⟨rfl, h2⟩)
  refine hK.out _ _ (fun _ => TwS.of ((BothTo.byBud V1 h2).blk V1 ky1 (by decide) (by decide)) ((BothTo.byBud V1 h2).blk V1 kx1 (by decide) (by decide))) (fun hS => ?_)
  clear hK K
  replace hS := hS rfl
  try simp only [Act.put, List.setIfInBounds_toArray, List.set_cons_zero, List.set_cons_succ]
  have T2 := BothTo.byBud V1 h2
  refine' wpAnyT_take (i := 7) (v := _) ?hiT7spj (by kernel_rfl) ?hQT7spj (Or.inl ⟨?hwT7spj, ?hyT7spj⟩) hS ?reT7spj
  case hiT7spj => (simp only [List.getElem?_toArray, List.getElem?_cons_succ, List.getElem?_cons_zero]; rfl)
  case hQT7spj => exact fun _ _ _ h => h
  case hwT7spj => rfl
  case hyT7spj => (intro wS hSw; obtain ⟨_, _⟩ := hSw; go_simp; (try with_reducible rfl))
  try simp only [Act.put, List.setIfInBounds_toArray, List.set_cons_zero, List.set_cons_succ]
  refine wpAnyT_done (by kernel_rfl) ?_ _
  refine noPanic_normal ?_
  go_wp2_with fail
  go_ret
  exact ⟨⟨_, rfl⟩, ⟨T2.sys, T2.bud, ⟨A, cap, T2.blk V1 ky1 (by decide) (by decide), T2.kept V1 hk1, hl, hm⟩, hlo, hinv⟩, B1.trans (T2.far.below (by have := B1.size; omega) (fun k hk e => by rcases e with rfl | ⟨e, _⟩ <;> omega))⟩
 rw [if_neg c5] at hR
 by_cases c6 : m = 11
 ·rw [if_pos c6] at hR
  have HG := Lib.hid (fun W h1 h2 h3 => cmClose_any bs bb V L r A cap W h1 hK h2 hO hnl hl hm h3)
  generalize closeC V L r = S at *
  obtain ⟨sr, se, sV, sL⟩ := S
  simp only at HG hR
  subst hR
  simp only at hinv
  clear c1 c2 c3 c4 c5 hm0
  subst c6
  go_enter Tryz.func15, Tryz.ntmps15
  go_upto_region 1 with fail
  generalize w.alloc _ = w0 at *
  try simp only [hx]
  have cx := kx.cell
  go_upto_region 22 with fail
  have hbd := (Below.refl w0.heap.size w0).drew
  have V1 := V0.call hbd
  have Bu1 := Bu0.call hbd
  have ky1 := ky0.call hbd
  have kx1 := kx.call hbd
  have hk1 := hk0.call hbd
  have B1 := B0.trans (hbd.mono (by have := B0.size; omega))
  refine wp_noPanic ?_
  refine wp_region_T (TwS y bs bb x r (.slice A r.kept.length cap) b) [0, 15, 16, 17, 18, 19, 20] (by kernel_rfl) ?_
  generalize w0.drew = wd at *
  have hS := TwS.of ky1 kx1
  dsimp only [TwS] at hS ⊢
  clear V0 Bu0 ky0 kx hk0 B0 cx hbd hb0
  refine' wpAnyT_takeV (i := 0) (v := _) ?hiT0spi (by kernel_rfl) ?hQT0spi (Or.inl ⟨?hwT0spi, ?hyT0spi⟩) ?reT0spi
  case hiT0spi => (simp only [List.getElem?_toArray, List.getElem?_cons_zero]; rfl)
  case hQT0spi => exact fun _ _ _ h => h
  case hwT0spi => rfl
  case hyT0spi => (intro wS hSw; go_simp; (try with_reducible rfl))
  try simp only [Act.put, List.setIfInBounds_toArray, List.set_cons_zero, List.set_cons_succ]
  refine' wpAnyT_takeL (i := 1) (v := _) ?hiT1spi (by kernel_rfl) ?hQT1spi (Or.inl ⟨?hwT1spi, ?hyT1spi⟩) hS ?reT1spi
  case hiT1spi => (simp only [List.getElem?_toArray, List.getElem?_cons_succ, List.getElem?_cons_zero]; rfl)
  case hQT1spi => exact fun _ _ _ h => h
  case hwT1spi => rfl
  case hyT1spi => (intro wS hSw; obtain ⟨_, _⟩ := hSw; go_simp; (try with_reducible rfl))
  try simp only [Act.put, List.setIfInBounds_toArray, List.set_cons_zero, List.set_cons_succ]
  refine' wpAnyT_takeL (i := 2) (v := _) ?hiT2spi (by kernel_rfl) ?hQT2spi (Or.inl ⟨?hwT2spi, ?hyT2spi⟩) hS ?reT2spi
  case hiT2spi => (simp only [List.getElem?_toArray, List.getElem?_cons_succ, List.getElem?_cons_zero]; rfl)
  case hQT2spi => exact fun _ _ _ h => h
  case hwT2spi => rfl
  case hyT2spi => (intro wS hSw; obtain ⟨_, _⟩ := hSw; go_simp; (try with_reducible rfl))
  try simp only [Act.put, List.setIfInBounds_toArray, List.set_cons_zero, List.set_cons_succ]
  refine' wpAnyT_takeL (i := 3) (v := _) ?hiT3spi (by kernel_rfl) ?hQT3spi (Or.inl ⟨?hwT3spi, ?hyT3spi⟩) hS ?reT3spi
  case hiT3spi => (simp only [List.getElem?_toArray, List.getElem?_cons_succ, List.getElem?_cons_zero]; rfl)
  case hQT3spi => exact fun _ _ _ h => h
  case hwT3spi => rfl
  case hyT3spi => (intro wS hSw; obtain ⟨_, _⟩ := hSw; go_simp; (try with_reducible rfl))
  try simp only [Act.put, List.setIfInBounds_toArray, List.set_cons_zero, List.set_cons_succ]
  refine' wpAnyT_takeL (i := 4) (v := _) ?hiT4spi (by kernel_rfl) ?hQT4spi (Or.inl ⟨?hwT4spi, ?hyT4spi⟩) hS ?reT4spi
  case hiT4spi => (simp only [List.getElem?_toArray, List.getElem?_cons_succ, List.getElem?_cons_zero]; rfl)
  case hQT4spi => exact fun _ _ _ h => h
  case hwT4spi => rfl
  case hyT4spi => (intro wS hSw; obtain ⟨_, _⟩ := hSw; go_simp; (try with_reducible rfl))
  try simp only [Act.put, List.setIfInBounds_toArray, List.set_cons_zero, List.set_cons_succ]
  refine' wpAnyT_takeL (i := 5) (v := _) ?hiT5spi (by kernel_rfl) ?hQT5spi (Or.inl ⟨?hwT5spi, ?hyT5spi⟩) hS ?reT5spi
  case hiT5spi => (simp only [List.getElem?_toArray, List.getElem?_cons_succ, List.getElem?_cons_zero]; rfl)
  case hQT5spi => exact fun _ _ _ h => h
  case hwT5spi => rfl
  case hyT5spi => (intro wS hSw; obtain ⟨_, _⟩ := hSw; go_simp; (try with_reducible rfl))
  try simp only [Act.put, List.setIfInBounds_toArray, List.set_cons_zero, List.set_cons_succ]
  refine' wpAnyT_takeL (i := 6) (v := _) ?hiT6spi (by kernel_rfl) ?hQT6spi (Or.inl ⟨?hwT6spi, ?hyT6spi⟩) hS ?reT6spi
  case hiT6spi => (simp only [List.getElem?_toArray, List.getElem?_cons_succ, List.getElem?_cons_zero]; rfl)
  case hQT6spi => exact fun _ _ _ h => h
  case hwT6spi => rfl
  case hyT6spi => (intro wS hSw; obtain ⟨_, _⟩ := hSw; go_simp; (try with_reducible rfl))
  try simp only [Act.put, List.setIfInBounds_toArray, List.set_cons_zero, List.set_cons_succ]
  refine' wpAnyT_takeL (i := 7) (v := _) ?hiT7spi (by kernel_rfl) ?hQT7spi (Or.inl ⟨?hwT7spi, ?hyT7spi⟩) hS ?reT7spi
  case hiT7spi => (simp only [List.getElem?_toArray, List.getElem?_cons_succ, List.getElem?_cons_zero]; rfl)
  case hQT7spi => exact fun _ _ _ h => h
  case hwT7spi => rfl
  case hyT7spi => (intro wS hSw; obtain ⟨_, _⟩ := hSw; go_simp; (try with_reducible rfl))
  try simp only [Act.put, List.setIfInBounds_toArray, List.set_cons_zero, List.set_cons_succ]
  refine' wpAnyT_takeL (i := 8) (v := _) ?hiT8spi (by kernel_rfl) ?hQT8spi (Or.inl ⟨?hwT8spi, ?hyT8spi⟩) hS ?reT8spi
  case hiT8spi => (simp only [List.getElem?_toArray, List.getElem?_cons_succ, List.getElem?_cons_zero]; rfl)
  case hQT8spi => exact fun _ _ _ h => h
  case hwT8spi => rfl
  case hyT8spi => (intro wS hSw; obtain ⟨_, _⟩ := hSw; go_simp; (try with_reducible rfl))
  try simp only [Act.put, List.setIfInBounds_toArray, List.set_cons_zero, List.set_cons_succ]
  refine' wpAnyT_takeL (i := 9) (v := _) ?hiT9spi (by kernel_rfl) ?hQT9spi (Or.inl ⟨?hwT9spi, ?hyT9spi⟩) hS ?reT9spi
  case hiT9spi => (simp only [List.getElem?_toArray, List.getElem?_cons_succ, List.getElem?_cons_zero]; rfl)
  case hQT9spi => exact fun _ _ _ h => h
  case hwT9spi => rfl
  case hyT9spi => (intro wS hSw; obtain ⟨_, _⟩ := hSw; go_simp; (try with_reducible rfl))
  try simp only [Act.put, List.setIfInBounds_toArray, List.set_cons_zero, List.set_cons_succ]
  refine' wpAnyT_takeL (i := 10) (v := _) ?hiT10spi (by kernel_rfl) ?hQT10spi (Or.inl ⟨?hwT10spi, ?hyT10spi⟩) hS ?reT10spi
  case hiT10spi => (simp only [List.getElem?_toArray, List.getElem?_cons_succ, List.getElem?_cons_zero]; rfl)
  case hQT10spi => exact fun _ _ _ h => h
  case hwT10spi => rfl
  case hyT10spi => (intro wS hSw; obtain ⟨_, _⟩ := hSw; go_simp; (try with_reducible rfl))
  try simp only [Act.put, List.setIfInBounds_toArray, List.set_cons_zero, List.set_cons_succ]
  refine' wpAnyT_takeL (i := 11) (v := _) ?hiT11spi (by kernel_rfl) ?hQT11spi (Or.inl ⟨?hwT11spi, ?hyT11spi⟩) hS ?reT11spi
  case hiT11spi => (simp only [List.getElem?_toArray, List.getElem?_cons_succ, List.getElem?_cons_zero]; rfl)
  case hQT11spi => exact fun _ _ _ h => h
  case hwT11spi => rfl
  case hyT11spi => (intro wS hSw; obtain ⟨_, _⟩ := hSw; go_simp; (try with_reducible rfl))
  try simp only [Act.put, List.setIfInBounds_toArray, List.set_cons_zero, List.set_cons_succ]
  refine' wpAnyT_takeL (i := 12) (v := _) ?hiT12spi (by kernel_rfl) ?hQT12spi (Or.inl ⟨?hwT12spi, ?hyT12spi⟩) hS ?reT12spi
  case hiT12spi => (simp only [List.getElem?_toArray, List.getElem?_cons_succ, List.getElem?_cons_zero]; rfl)
  case hQT12spi => exact fun _ _ _ h => h
  case hwT12spi => rfl
  case hyT12spi => (intro wS hSw; obtain ⟨_, _⟩ := hSw; go_simp; (try with_reducible rfl))
  try simp only [Act.put, List.setIfInBounds_toArray, List.set_cons_zero, List.set_cons_succ]
  refine wpAnyT_ready (rs := [13]) (by kernel_rfl) (by simp) ?_
  refine' AllReadyT.cons ?hic13spi (fun K hK => ?stc13spi) AllReadyT.nil
  case hic13spi => (simp only [List.getElem?_toArray, List.getElem?_cons_succ, List.getElem?_cons_zero]; rfl)
  go_simp
  refine ((HG.out wd V1 Bu1 hk1)).mono ?_
  rintro (e w2 ⟨v2, rfl, ⟨A2, c2, rfl, hl2, hm2, hk2⟩, T2⟩)
  refine hK.out _ _ (fun _ => TwS.of (T2.blk V1 ky1 (by decide) (by decide)) (T2.blk V1 kx1 (by decide) (by decide))) (fun hS => ?_)
  clear hK K
  replace hS := hS rfl
  try simp only [Act.put, List.setIfInBounds_toArray, List.set_cons_zero, List.set_cons_succ]
  have ky2 := T2.blk V1 ky1 (by decide) (by decide)
  have kx2 := T2.blk V1 kx1 (by decide) (by decide)
  have B2 := B1.trans (T2.far.below (by have := B1.size; omega) (fun k hk e => by rcases e with rfl | ⟨e, _⟩ <;> omega))
  refine' wpAnyT_takeL (i := 14) (v := _) ?hiT14spi (by kernel_rfl) ?hQT14spi (Or.inl ⟨?hwT14spi, ?hyT14spi⟩) hS ?reT14spi
  case hiT14spi => (simp only [List.getElem?_toArray, List.getElem?_cons_succ, List.getElem?_cons_zero]; rfl)
  case hQT14spi => exact fun _ _ _ h => h
  case hwT14spi => rfl
  case hyT14spi => (intro wS hSw; obtain ⟨_, _⟩ := hSw; go_simp; (try with_reducible rfl))
  try simp only [Act.put, List.setIfInBounds_toArray, List.set_cons_zero, List.set_cons_succ]
  refine' wpAnyT_takeV (i := 15) (v := _) ?hiT15spi (by kernel_rfl) ?hQT15spi (Or.inl ⟨?hwT15spi, ?hyT15spi⟩) ?reT15spi
  case hiT15spi => (simp only [List.getElem?_toArray, List.getElem?_cons_succ, List.getElem?_cons_zero]; rfl)
  case hQT15spi => exact fun _ _ _ h => h
  case hwT15spi => rfl
  case hyT15spi => (intro wS hSw; go_simp; (try with_reducible rfl))
  try simp only [Act.put, List.setIfInBounds_toArray, List.set_cons_zero, List.set_cons_succ]
  refine' wpAnyT_takeV (i := 16) (v := _) ?hiT16spi (by kernel_rfl) ?hQT16spi (Or.inl ⟨?hwT16spi, ?hyT16spi⟩) ?reT16spi
  case hiT16spi => (simp only [List.getElem?_toArray, List.getElem?_cons_succ, List.getElem?_cons_zero]; rfl)
  case hQT16spi => exact fun _ _ _ h => h
  case hwT16spi => rfl
  case hyT16spi => (intro wS hSw; go_simp; (try with_reducible rfl))
  try simp only [Act.put, List.setIfInBounds_toArray, List.set_cons_zero, List.set_cons_succ]
  refine' wpAnyT_takeV (i := 17) (v := _) ?hiT17spi (by kernel_rfl) ?hQT17spi (Or.inl ⟨?hwT17spi, ?hyT17spi⟩) ?reT17spi
  case hiT17spi => (simp only [List.getElem?_toArray, List.getElem?_cons_succ, List.getElem?_cons_zero]; rfl)
  case hQT17spi => exact fun _ _ _ h => h
  case hwT17spi => rfl
  case hyT17spi => (intro wS hSw; go_simp; (try with_reducible rfl))
  try simp only [Act.put, List.setIfInBounds_toArray, List.set_cons_zero, List.set_cons_succ]
  refine' wpAnyT_takeV (i := 18) (v := _) ?hiT18spi (by kernel_rfl) ?hQT18spi (Or.inl ⟨?hwT18spi, ?hyT18spi⟩) ?reT18spi
  case hiT18spi => (simp only [List.getElem?_toArray, List.getElem?_cons_succ, List.getElem?_cons_zero]; rfl)
  case hQT18spi => exact fun _ _ _ h => h
  case hwT18spi => rfl
  case hyT18spi => (intro wS hSw; go_simp; (try with_reducible rfl))
  try simp only [Act.put, List.setIfInBounds_toArray, List.set_cons_zero, List.set_cons_succ]
  have F3 := putT_far w2 y sr (.slice A2 sr.kept.length c2)
  have ky3 := putT_blk ky2 sr (.slice A2 sr.kept.length c2)
  have kx3 := F3.blk kx2 (fun e => by have e : x = y := e; rw [e] at kx2; exact kx2.ne ky2 (by decide))
  have T3 := PlyAt.putR hlo hinv T2 ky2 hk2 hl2 hm2 F3 ky3
  have B3 := B2.trans (F3.below (Nat.le_trans hN B2.size) (fun k hk e => by have e : k = y := e; omega))
  have cy2 := ky2.cell
  have fy2 := ky2.frozen
  refine wpAnyT_ready (rs := [19]) (by kernel_rfl) (by simp) ?_
  refine' AllReadyT.cons ?hi19spi (fun KK hKK => ?st19spi) AllReadyT.nil
  case hi19spi => (simp only [List.getElem?_toArray, List.getElem?_cons_succ, List.getElem?_cons_zero]; rfl)
  go_simp
  refine hKK.out _ (putT w2 y sr (.slice A2 sr.kept.length c2)) (fun h => absurd h (by decide)) (fun _ => ?_)
  clear hKK KK
  generalize putT w2 y sr (.slice A2 sr.kept.length c2) = w3 at *
  try simp only [Act.put, List.setIfInBounds_toArray, List.set_cons_zero, List.set_cons_succ]
  refine' wpAnyT_takeV (i := 20) (v := _) ?hiT20spi (by kernel_rfl) ?hQT20spi (Or.inl ⟨?hwT20spi, ?hyT20spi⟩) ?reT20spi
  case hiT20spi => (simp only [List.getElem?_toArray, List.getElem?_cons_succ, List.getElem?_cons_zero]; rfl)
  case hQT20spi => exact fun _ _ _ h => h
  case hwT20spi => rfl
  case hyT20spi => (intro wS hSw; go_simp; (try with_reducible rfl))
  try simp only [Act.put, List.setIfInBounds_toArray, List.set_cons_zero, List.set_cons_succ]
  refine wpAnyT_done (by kernel_rfl) ?_ _
  refine noPanic_normal ?_
  go_wp2_with fail
  go_ret
  exact ⟨⟨_, rfl⟩, T3, B3⟩
 rw [if_neg c6] at hR
 obtain rfl : m = 9 := by omega
 subst hR
 clear c1 c2 c3 c4 c5 c6 hm0
 go_enter Tryz.func15, Tryz.ntmps15
 go_upto_region 1 with fail
 generalize w.alloc _ = w0 at *
 try simp only [hx]
 have cx := kx.cell
 go_wp2_with fail
 go_ret
 exact ⟨⟨_, rfl⟩, ⟨V0, Bu0, ⟨A, cap, ky0, hk0, hl, hm⟩, hlo, hinv⟩, B0⟩
end Go.Proofs.YtjmmgoijnhnnaaaGreat
