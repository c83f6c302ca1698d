/- Merged texts. Walk of layer 13: Score. Plain words for Choose of layer 13. A contract of the library's sort family, laid at this program in plain words (written by the kit's lay-plain; numbers of this seat). Words for lists of groups: as cells, as readings, across steps. Walks of layer 13: slices.AppendSeq and slices.Collect over groups that a function value hands out. The stable sort of groups by their live pages: the comparison; up to 20 groups (one insertion sort). Walk of layer 13: Choose. Walks: the reference's Has, Meets and Count; the program's Meets. Walk: the program's Union of two sets. Walks: the program's Minus; Union of whatever lists. Walks: the reference's Union, Meet, Minus and Not. Plain laws for the reference of layer 13: what its calls into layer 03 say of groups. Walks of layer 13: slices.Contains of ints; Split. -/
import Derived.Shelf.SlSortCmp.WholeK
import Derived.Ground.SlsfProg
import Derived.Test.YtefnnfcfigcikaaGreatProg
import Derived.Sort.OwnSortedInts
import Derived.Test.YtefnnfcfigcikaaGreatC3
namespace Go.Pol
open Go Go.RowKit
def idleG (l : List Gp) : Int := (l.map fun g => 16 - g.2.2.1).sum
theorem idleG_snoc (l : List Gp) (x : Gp) : idleG (l ++ [x]) = idleG l + (16 - x.2.2.1) := by simp [idleG]
theorem gsH_huge {C L : List Sp} {H : List Int} (h : chkH C L H = 0) : (gsH C L H).filter hugeP = H.map fun g => (g, grpF C g, grpF L g, true) := by
  obtain ⟨_, _, h3, _, h5⟩ := chkH_zero.1 h
  rw [gsH_map, List.filter_map]
  rw [show (hugeP ∘ fun g => (g, grpF C g, grpF L g, decide (g ∈ H))) = fun g => decide (g ∈ H) from rfl, huge_grps h3 h5]
  refine List.map_congr_left fun g hg => ?_
  rw [decide_eq_true hg]
theorem gsH_whole (C L : List Sp) (H : List Int) : ((gsH C L H).filter wholeP).length = (wholeF C H).length := by
  rw [gsH_map, List.filter_map, List.length_map]; rfl
theorem gsH_live {C L : List Sp} {H : List Int} {x : Gp} (h : x ∈ gsH C L H) : 0 ≤ x.2.2.1 ∧ x.2.2.1 ≤ 16 := by
  rw [gsH_map] at h
  obtain ⟨g, _, rfl⟩ := List.mem_map.1 h
  exact grpF_bound L g
theorem idleG_bound : ∀ (l : List Gp), (∀ x ∈ l, 0 ≤ x.2.2.1 ∧ x.2.2.1 ≤ 16) → 0 ≤ idleG l ∧ idleG l ≤ 16 * l.length
  | [], _ => by simp [idleG]
  | x :: r, h => by
    have h1 := h x (by simp)
    have h2 := idleG_bound r (fun y hy => h y (by simp [hy]))
    simp only [idleG, List.map_cons, List.sum_cons, List.length_cons] at h2 ⊢
    omega
theorem idleG_huge {C L : List Sp} {H : List Int} (h : chkH C L H = 0) : idleG ((gsH C L H).filter hugeP) = idleF L H := by
  rw [gsH_huge h, idleG, idleF, List.map_map]; rfl
/-- what Score answers -/
def scoreA (C L : List Sp) (H : List Int) : Int × Int × Int × Int :=
  if chkH C L H ≠ 0 then (0, 0, 0, chkH C L H) else (H.length, (wholeF C H).length, idleF L H, 0)
/-- a loop over groups that looks at none of them -/
theorem rangeXS {P : Program} {g : Operand} {ps : Array Tmp} {body : Code} {Q : Exit → Act → World → Prop} {a : Act} {w : World} (pb : Nat)
    {gf : Nat} {lb : Array Value} (hg : a.eval g = .func (.func gf) #[] lb) (eg : ∀ args w, (callFunc gf args).run P w = .ok (.enter gf args) w)
    {T K : Nat → Prop} {xs : List Gp} (hseq : SeqX P gf lb gA T K xs w) (hps : ps = #[pb])
    (hT : ∀ k, T k → k < w.heap.size) (hK : ∀ k, K k → k < w.heap.size)
    (I : (Nat → Prop) → List Gp → World → Prop) (Ix : Code → (Nat → Prop) → List Gp → World → Prop)
    (hI : ∀ X pre A B, I X pre A → Far (fun k => T k ∨ X k ∨ k = w.heap.size ∨ k = w.heap.size + 1) A B → I X pre B)
    (hIx : ∀ c X pre A B, Ix c X pre A → Far (fun k => T k ∨ X k ∨ k = w.heap.size ∨ k = w.heap.size + 1) A B → Ix c X pre B)
    (hnew : ∀ X X' pre A, I X pre A → (∀ k, X' k → X k ∨ A.heap.size ≤ k) → I X' pre A)
    (h0 : I (fun _ => False) [] w)
    (hbody : ∀ (m l : Nat) (X : Nat → Prop) (pre : List Gp) (x : Gp) (W : World), w.heap.size + 2 ≤ W.heap.size → (∀ k, X k → k < W.heap.size ∧ k ≠ w.heap.size ∧ k ≠ w.heap.size + 1) → I X pre W → pre ++ [x] <+: xs →
      body.wpIn (Fence.wide.inRound l) m P (xPost w.heap.size K X I Ix (pre ++ [x]) W) { tmps := a.tmps.setIfInBounds pb (gV x), defers := [] } W)
    (hdone : ∀ (X : Nat → Prop) (W : World), w.heap.size + 2 ≤ W.heap.size → I X xs W → W.heap[w.heap.size]? = some (.deferred (some [])) → Q .normal { a with defers := markOf w.heap.size :: a.defers } W)
    (hstop : ∀ (c : Code) (X : Nat → Prop) (pre : List Gp) (W : World), w.heap.size + 2 ≤ W.heap.size → pre <+: xs → Ix c X pre W → W.heap[w.heap.size]? = some (.deferred (some [])) → c.wp P Q { a with defers := markOf w.heap.size :: a.defers } W) :
    (Code.rangeFunc g ps .skip body).wp P Q a w := by
  subst hps
  refine rangeX hg eg hseq (fun _ => rfl) hT hK I Ix hI hIx hnew h0
    (fun _ x a' _ => a' = { tmps := a.tmps.setIfInBounds pb (gV x), defers := [] })
    (fun _ _ _ _ _ h _ => h) ?_ ?_ hdone hstop
  · intro m l x W C hs hC
    have e : (#[pb].zip (gA x)).foldl (fun t (p, v) => t.setIfInBounds p v) a.tmps = a.tmps.setIfInBounds pb (gV x) := by simp [gA]
    rw [e]
    refine wpIn_skip ?_
    exact hC _ _ (Far.refl _ W) rfl
  · rintro m l X pre x a' Wa W hs hX hi rfl hpre _ hfa
    exact hbody m l X pre x W hs (fun k hk => ⟨by have := hX k hk; have := hfa.size; omega, (hX k hk).2⟩) hi hpre
end Go.Pol
namespace Go.Proofs.YtefnnfcfigcikaaGreat
open Go Go.Proofs Go.RowKit Go.Pol Go.Shelf
attribute [local go_sem] Oper.semAt_some Go.Pol.wide_fn Go.Pol.wide_depth Go.Pol.wide_fn' Go.Pol.wide_depth'

theorem three_set {W : World} {p q r : Nat} {t t' t'' : TypeId} {x y z : Value} (hpq : p ≠ q) (hpr : p ≠ r) (hqr : q ≠ r) (k1 : Blk W p t #[x]) (k2 : Blk W q t' #[y]) (k3 : Blk W r t'' #[z]) (a b c : Value) :
    Blk (((W.setCell ⟨p, 0, none⟩ a).setCell ⟨q, 0, none⟩ b).setCell ⟨r, 0, none⟩ c) p t #[a] ∧ Blk (((W.setCell ⟨p, 0, none⟩ a).setCell ⟨q, 0, none⟩ b).setCell ⟨r, 0, none⟩ c) q t' #[b] ∧ Blk (((W.setCell ⟨p, 0, none⟩ a).setCell ⟨q, 0, none⟩ b).setCell ⟨r, 0, none⟩ c) r t'' #[c] ∧
      Far (fun k => k = p ∨ k = q ∨ k = r) W (((W.setCell ⟨p, 0, none⟩ a).setCell ⟨q, 0, none⟩ b).setCell ⟨r, 0, none⟩ c) := by
  obtain ⟨h1, h2, h3⟩ := two_set hpq k1 k2 a b
  have h4 := h3.blk k3 (by omega)
  exact ⟨h1.far (p := ⟨r, 0, none⟩) hpr c, h2.far (p := ⟨r, 0, none⟩) hqr c, h4.set_ 0 c, Far.setCell (T := fun k => k = p ∨ k = q ∨ k = r) (p := ⟨r, 0, none⟩) (h3.mono fun _ _ h => h.elim .inl (fun h => .inr (.inl h))) (fun _ => .inr (.inr rfl)) c⟩
def ScoreS (s : Nat) (a b c : Int) (w : Go.World) : Prop := w.cell? ⟨s + 1, 0, none⟩ = some (.int .i64 a) ∧ w.cell? ⟨s + 2, 0, none⟩ = some (.int .i64 b) ∧ w.cell? ⟨s + 3, 0, none⟩ = some (.int .i64 c)
/-- the three counts -/
structure Cnt3 (w W : World) (s D : Nat) (X : Nat → Prop) (a b c : Int) : Prop where
  k1 : Blk W (s + 1) 3 #[.int .i64 a]
  k2 : Blk W (s + 2) 3 #[.int .i64 b]
  k3 : Blk W (s + 3) 3 #[.int .i64 c]
  below : Below s w W
  size : D ≤ W.heap.size
  own : ∀ k, X k → D ≤ k
theorem Cnt3.far {w A B : World} {s D D0 : Nat} {X : Nat → Prop} {a b c : Int} (h : Cnt3 w A s D X a b c) (hf : Far (fun k => False ∨ X k ∨ k = D0 ∨ k = D0 + 1) A B) (hD : s + 4 ≤ D) (h0 : D ≤ D0) : Cnt3 w B s D X a b c := by
  have hn : ∀ k, k < D → ¬ (False ∨ X k ∨ k = D0 ∨ k = D0 + 1) := by
    rintro k hk (h' | h' | h' | h')
    · exact h'
    · have := h.own k h'; omega
    · omega
    · omega
  exact ⟨hf.blk h.k1 (hn _ (by omega)), hf.blk h.k2 (hn _ (by omega)), hf.blk h.k3 (hn _ (by omega)), h.below.trans (hf.below (by have := h.size; omega) (fun k hk => hn k (by omega))), Nat.le_trans h.size hf.size, h.own⟩
theorem Cnt3.new {w W : World} {s D : Nat} {X X' : Nat → Prop} {a b c : Int} (h : Cnt3 w W s D X a b c) (hX : ∀ k, X' k → X k ∨ W.heap.size ≤ k) : Cnt3 w W s D X' a b c :=
  ⟨h.k1, h.k2, h.k3, h.below, h.size, fun k hk => (hX k hk).elim (h.own k) (fun h' => by have := h.size; omega)⟩
theorem Cnt3.later {w A B : World} {s D D2 : Nat} {X : Nat → Prop} {a b c : Int} (h : Cnt3 w A s D X a b c) (hb : Below A.heap.size A B) (hD : D2 ≤ B.heap.size) (hs4 : s + 4 ≤ D) : Cnt3 w B s D2 (fun _ => False) a b c :=
  ⟨h.k1.call hb, h.k2.call hb, h.k3.call hb, h.below.trans (hb.mono (by have := h.size; omega)), hD, fun _ h => h.elim⟩

set_option maxRecDepth 100000 in
set_option maxHeartbeats 3200000 in
theorem score_any (S : Value) (C L : List Sp) (H : List Int) (w : World) (hS : StIs w S C L H) :
    Calls Tryz.prog 24 #[S] w fun e w' => e = .returned (.tuple #[.int .i64 (scoreA C L H).1, .int .i64 (scoreA C L H).2.1, .int .i64 (scoreA C L H).2.2.1, .int .i64 (scoreA C L H).2.2.2]) ∧ Below w.heap.size w w' := by
  obtain ⟨A1, A2, A3, n1, c1, n2, c2, n3, c3, rfl, h1, h2, h3, h4, h5, h6, h7, h8, h9⟩ := hS.ex
  obtain ⟨s, hs⟩ : ∃ s, w.heap.size = s := ⟨_, rfl⟩
  obtain ⟨W0, hW0⟩ : ∃ W0, (((w.alloc (.cells #[.slice A1 n1 c1, .slice A2 n2 c2, .slice A3 n3 c3] 52)).alloc (.cells #[.int .i64 0] 3)).alloc (.cells #[.int .i64 0] 3)).alloc (.cells #[.int .i64 0] 3) = W0 := ⟨_, rfl⟩
  have hs0 : W0.heap.size = s + 4 := by rw [← hW0, ← hs]; simp
  have hb0 : Below s w W0 := by rw [← hW0, ← hs]; exact ((((Below.refl w.heap.size w).alloc (Nat.le_refl _) _).alloc (by simp) _).alloc (by simp; omega) _).alloc (by simp; omega) _
  have kH : Blk W0 s 52 #[.slice A1 n1 c1, .slice A2 n2 c2, .slice A3 n3 c3] := by rw [← hW0, ← hs]; exact (((Blk.new _ _ _).alloc _).alloc _).alloc _
  have k1 : Blk W0 (s + 1) 3 #[.int .i64 0] := by
    rw [← hW0, ← hs]; have := Blk.new (w.alloc (.cells #[.slice A1 n1 c1, .slice A2 n2 c2, .slice A3 n3 c3] 52)) 3 #[.int .i64 0]
    rw [World.size_alloc] at this; exact (this.alloc _).alloc _
  have k2 : Blk W0 (s + 2) 3 #[.int .i64 0] := by
    rw [← hW0, ← hs]; have := Blk.new ((w.alloc (.cells #[.slice A1 n1 c1, .slice A2 n2 c2, .slice A3 n3 c3] 52)).alloc (.cells #[.int .i64 0] 3)) 3 #[.int .i64 0]
    simp only [World.size_alloc] at this; exact this.alloc _
  have k3 : Blk W0 (s + 3) 3 #[.int .i64 0] := by
    rw [← hW0, ← hs]; have := Blk.new (((w.alloc (.cells #[.slice A1 n1 c1, .slice A2 n2 c2, .slice A3 n3 c3] 52)).alloc (.cells #[.int .i64 0] 3)).alloc (.cells #[.int .i64 0] 3)) 3 #[.int .i64 0]
    simp only [World.size_alloc] at this; exact this
  have hbb : Below w.heap.size w W0 := by rw [hs]; exact hb0
  have HO := Lib.hid (open_any A1 A2 A3 n1 c1 n2 c2 n3 c3 C L H W0 h1 h2 (h3.on hbb) h4 h5 (h6.on hbb) h7 h8 (RI.on h9 hbb))
  have hA := Lib.hid (show scoreA C L H = if chkH C L H ≠ 0 then (0, 0, 0, chkH C L H) else ((H.length : Int), ((wholeF C H).length : Int), idleF L H, 0) from rfl)
  have hgs := Lib.hid (show gpsOf (fun g => (g : Int)) (fun g => grpF C (g : Int)) (fun g => grpF L (g : Int)) (fun g => decide ((g : Int) ∈ H)) = gsH C L H from rfl)
  have hlv := Lib.hid (fun x (h : x ∈ gsH C L H) => gsH_live h)
  have hl1 := filter_len_grps C L H hugeP
  have hl2 := filter_len_grps C L H wholeP
  have hwl := Lib.hid (gsH_whole C L H)
  have hhl := Lib.hid (fun h : chkH C L H = 0 => (⟨by rw [gsH_huge h, List.length_map], idleG_huge h⟩ : ((gsH C L H).filter hugeP).length = H.length ∧ idleG ((gsH C L H).filter hugeP) = idleF L H))
  generalize scoreA C L H = R at *
  generalize hER : chkH C L H = er at *
  have hER' := Lib.hid hER
  have cH := kH.cell
  have hW1 := Lib.hid hW0
  clear hW0 h1 h2 h3 h4 h5 h6 h7 h8 h9 hS hbb hER
  refine calls_of_marks Tryz.func24 rfl ?_
  simp only [Tryz.ntmps24, List.size_toArray, List.length_cons, List.length_nil, Nat.reduceAdd, Nat.reduceSub, Array.replicate_succ, Array.replicate_zero, List.push_toArray, List.append_toArray, List.nil_append, List.cons_append]
  go_upto_region 1 with fail
  try simp only [Nat.add_assoc, Nat.reduceAdd]
  rw [hW1.out]
  clear hW1
  go_wp2_with fail
  refine HO.out.mono ?_
  rintro e w1 ⟨hb1, he, hz⟩
  have B1 := hb0.trans (hb1.mono (by omega))
  rw [hER'.out] at he hz
  have k11 := k1.call hb1
  have k21 := k2.call hb1
  have k31 := k3.call hb1
  by_cases h0 : er = 0
  case neg =>
    obtain rfl := he h0
    have h0' : (er != 0) = true := by simpa using h0
    have hA' : Hid (R = (0, 0, 0, er)) := Lib.hid (by rw [hA.out, if_pos h0])
    clear hA h0 he hz
    have z1 := k11.cell
    have z2 := k21.cell
    have z3 := k31.cell
    have y1 := k11.frozen
    have y2 := k21.frozen
    have y3 := k31.frozen
    go_wp2_with fail
    obtain ⟨k4, k5, k6, hf⟩ := three_set (by omega) (by omega) (by omega) k11 k21 k31 (.int .i64 0) (.int .i64 0) (.int .i64 0)
    have x1 := k4.cell
    have x2 := k5.cell
    have x3 := k6.cell
    exact leave_none (v := .tuple #[.int .i64 0, .int .i64 0, .int .i64 0, .int .i64 er]) (by simp [results, Tryz.results24, go_sem, x1, x2, x3]) ⟨by rw [hA'.out], by rw [hs]; exact B1.trans (hf.below (by have := B1.size; omega) (fun k hk => by omega))⟩
  case pos =>
    subst h0
    obtain ⟨b, cs, rfl, hbs, kL, hcs⟩ := hz rfl
    obtain ⟨e1, e2⟩ := hhl.out rfl
    have hA2 : Hid (R = ((((gsH C L H).filter hugeP).length : Int), (((gsH C L H).filter wholeP).length : Int), idleG ((gsH C L H).filter hugeP), 0)) := Lib.hid (by rw [hA.out, if_neg (by simp), e1, e2, hwl.out])
    have hs1 := hb1.size
    have hbB := kL.lt
    have HS := Lib.hid (some_any b 70 w1)
    have kQ := heap_two w1 143 149 (.pointer (some ⟨b, 0, none⟩)) (.func (.func 70) #[] #[])
    obtain ⟨Bo, hBo⟩ : ∃ Bo, w1.heap.size = Bo := ⟨_, rfl⟩
    rw [hBo] at kQ HS hbB hs1
    clear hA he hz hhl hwl e1 e2 kH cH k1 k2 k3
    go_wp2_with fail
    refine HS.out.mono ?_
    rintro e w3 ⟨rfl, hw3⟩
    obtain ⟨q1, q2, q3, q4⟩ := kQ
    rw [← hw3] at q1 q2 q3 q4
    rw [← hBo] at q3
    clear hw3 HS
    have kL3 := kL.call q3
    have hsq := some1_seq hugeP 70 b Bo (Bo + 1) cs (gsH C L H) _ _ _ _ _ _ (fun k => k = b ∨ k = Bo ∨ k = Bo + 1) w3 (.inl rfl) (.inr (.inl rfl)) (.inr (.inr rfl)) kL3 q1 q2 hcs hgs.out (enters_of Tryz.func70 (by kernel_rfl) rfl) (fun x W => huge_any x W)
    have hc0 : Cnt3 w w3 s w3.heap.size (fun _ => False) 0 0 0 := ⟨k11.call q3, k21.call q3, k31.call q3, B1.trans (q3.mono (by have := B1.size; omega)), Nat.le_refl _, fun _ h => h.elim⟩
    have hxs := Lib.hid (fun x (h : x ∈ (gsH C L H).filter hugeP) => hlv.out x (List.mem_filter.1 h).1)
    generalize (gsH C L H).filter hugeP = xs at *
    obtain ⟨D, hD⟩ : ∃ D, w3.heap.size = D := ⟨_, rfl⟩
    rw [hD] at hc0
    clear hb1 q1 q2 kL k11 k21 k31 B1 q3
    go_wp2_with fail
    refine rangeXG 7 18 151 (gf := 124) rfl some1_enters hsq rfl (fun _ h => h.elim) (fun k h => by omega)
      (fun X pre W => Cnt3 w W s D X (pre.length : Int) 0 (idleG pre) ∧ Blk W b 160 cs)
      (fun _ _ _ _ => False)
      (fun X pre A B h hf => ⟨h.1.far hf (by omega) (by omega), hf.blk h.2 (by rintro (h' | h' | h' | h'); exact h'; have := h.1.own _ h'; omega; omega; omega)⟩)
      (fun _ _ _ _ _ h _ => h.elim)
      (fun X X' pre A h hX => ⟨h.1.new hX, h.2⟩)
      ⟨hc0, kL3⟩ ?assign ?body ?done (fun _ _ _ _ _ _ h _ => h.elim)
    case assign =>
      intro m l x W C hC
      obtain ⟨xn, xc, xl, xh⟩ := x
      simp only [gV, List.setIfInBounds_toArray, List.set_cons_succ, List.set_cons_zero] at hC ⊢
      gi_wp2
      exact hC
    case body =>
      rintro m l X pre x Bx Wa W hsz hXlt ⟨hC, kL⟩ hpre hBx kx hBa
      simp only [List.setIfInBounds_toArray, List.set_cons_succ, List.set_cons_zero]
      have hsn := Lib.hid (idleG_snoc pre x)
      have hpl : pre.length < 64 := by
        have h1 := hpre.length_le
        simp at h1
        omega
      have hib := idleG_bound pre (fun y hy => hxs.out y (hpre.subset (by simp [hy])))
      have hxl := hxs.out x (hpre.subset (by simp))
      obtain ⟨xn, xc, xl, xh⟩ := x
      dsimp only at kx hsn hxl
      have hln : (pre ++ [(xn, xc, xl, xh)]).length = pre.length + 1 := by simp
      generalize idleG pre = ig at *
      obtain ⟨pl, hpl2⟩ : ∃ pl, pre.length = pl := ⟨_, rfl⟩
      rw [hpl2] at hC hpl hib
      have cx := kx.cell
      have z1 := hC.k1.cell
      have z2 := hC.k2.cell
      have z3 := hC.k3.cell
      have y1 := hC.k1.frozen
      have y3 := hC.k3.frozen
      gi_wp2_with fail
      obtain ⟨k4, k6, hf⟩ := two_set (by omega) hC.k1 hC.k3 (.int .i64 ((pl : Int) + 1)) (.int .i64 (ig + (16 - xl)))
      refine ⟨hf.mono fun k _ h => ?_, ⟨by rw [hln, hpl2]; exact k4, hf.blk hC.k2 (by omega), by rw [hsn.out]; exact k6, hC.below.trans (hf.below (by have := hC.below.size; omega) (fun k hk => by omega)), Nat.le_trans hC.size hf.size, hC.own⟩, hf.blk kL (by omega)⟩
      rintro (h' | h' | h' | h')
      · omega
      · have := hC.own k h'; omega
      · omega
      · omega
    case done =>
      rintro X W hsz ⟨hC, kL⟩ hd
      rw [hD] at hd hsz
      have HS := Lib.hid (some_any b 69 W)
      have kQ := heap_two W 143 149 (.pointer (some ⟨b, 0, none⟩)) (.func (.func 69) #[] #[])
      obtain ⟨Bp, hBp⟩ : ∃ Bp, W.heap.size = Bp := ⟨_, rfl⟩
      rw [hBp] at kQ HS hsz
      have hib := idleG_bound xs hxs.out
      obtain ⟨xl, hxl⟩ : ∃ xl, xs.length = xl := ⟨_, rfl⟩
      obtain ⟨ig, hig⟩ : ∃ ig, idleG xs = ig := ⟨_, rfl⟩
      rw [hxl, hig] at hC hA2
      rw [hD]
      clear hsq hxs hib hig hxl kL3 hc0
      go_wp2_with fail
      refine HS.out.mono ?_
      rintro e w5 ⟨rfl, hw3⟩
      obtain ⟨q1, q2, q3, q4⟩ := kQ
      rw [← hw3] at q1 q2 q3 q4
      rw [← hBp] at q3
      clear hw3 HS
      have d5 := (q3.block D (by omega)).trans hd
      have kL5 := kL.call q3
      have hsq := some1_seq wholeP 69 b Bp (Bp + 1) cs (gsH C L H) _ _ _ _ _ _ (fun k => k = b ∨ k = Bp ∨ k = Bp + 1) w5 (.inl rfl) (.inr (.inl rfl)) (.inr (.inr rfl)) kL5 q1 q2 hcs hgs.out (enters_of Tryz.func69 (by kernel_rfl) rfl) (fun x W => whole_any x W)
      have hc5 := hC.later (D2 := w5.heap.size) q3 (Nat.le_refl _) (by omega)
      generalize (gsH C L H).filter wholeP = ys at *
      obtain ⟨E, hE⟩ : ∃ E, w5.heap.size = E := ⟨_, rfl⟩
      rw [hE] at hc5
      clear q1 q2 kL q3 hC hd hcs hlv
      go_wp2_with fail
      refine rangeXS 28 (gf := 124) rfl some1_enters hsq rfl (fun _ h => h.elim) (fun k h => by omega)
        (fun X pre W => Cnt3 w W s E X (xl : Int) (pre.length : Int) ig ∧ W.heap[D]? = some (.deferred (some [])) )
        (fun _ _ _ _ => False)
        (fun X pre A B h hf => ⟨h.1.far hf (by omega) (by omega), hf.same h.2 (by rintro (h' | h' | h' | h'); exact h'; have := h.1.own _ h'; omega; omega; omega)⟩)
        (fun _ _ _ _ _ h _ => h.elim)
        (fun X X' pre A h hX => ⟨h.1.new hX, h.2⟩)
        ⟨hc5, d5⟩ ?body2 ?done2 (fun _ _ _ _ _ _ h _ => h.elim)
      case body2 =>
        rintro m l X pre x W2 hsz2 hXlt ⟨hC, hd2⟩ hpre
        simp only [List.setIfInBounds_toArray, List.set_cons_succ, List.set_cons_zero]
        have hpl : pre.length < 64 := by
          have h1 := hpre.length_le
          simp at h1
          omega
        have hln : (pre ++ [x]).length = pre.length + 1 := by simp
        obtain ⟨pl, hpl2⟩ : ∃ pl, pre.length = pl := ⟨_, rfl⟩
        rw [hpl2] at hC hpl
        have z2 := hC.k2.cell
        have y2 := hC.k2.frozen
        gi_wp2_with fail
        have hf4 : Far (fun k => k = s + 2) W2 (W2.setCell ⟨s + 2, 0, none⟩ (.int .i64 ((pl : Int) + 1))) := Far.setCell (T := fun k => k = s + 2) (p := ⟨s + 2, 0, none⟩) (Far.refl _ _) (fun _ => rfl) _
        refine ⟨hf4.mono fun k _ h => ?_, ⟨hf4.blk hC.k1 (by omega), by rw [hln, hpl2]; exact hC.k2.set_ 0 _, hf4.blk hC.k3 (by omega), hC.below.trans (hf4.below (by have := hC.below.size; omega) (fun k hk => by omega)), Nat.le_trans hC.size hf4.size, hC.own⟩, hf4.same hd2 (by omega)⟩
        rintro (h' | h' | h' | h')
        · omega
        · have := hC.own k h'; omega
        · omega
        · omega
      case done2 =>
        rintro X W2 hsz2 ⟨hC, hd2⟩ he2
        rw [hE] at he2 hsz2 ⊢
        obtain ⟨yl, hyl⟩ : ∃ yl, ys.length = yl := ⟨_, rfl⟩
        rw [hyl] at hC hA2
        clear hsq hyl
        go_upto_region 10 with fail
        refine wp_noPanic ?_
        refine wp_region_T (ScoreS s xl yl ig) [] (by kernel_rfl) ?_
        have hS : ScoreS s xl yl ig W2.drew := ⟨hC.k1.cell 0, hC.k2.cell 0, hC.k3.cell 0⟩
        refine' wpAnyT_take (i := 0) (v := _) ?hiT0 (by kernel_rfl) ?hQT0 (Or.inl ⟨?hwT0, ?hyT0⟩) hS ?reT0
        case hiT0 => (simp only [List.getElem?_toArray, List.getElem?_cons_zero]; rfl)
        case hQT0 => exact fun _ _ _ h => h
        case hwT0 => rfl
        case hyT0 => (intro wS hSw; obtain ⟨_, _, _⟩ := hSw; go_simp; (try with_reducible rfl))
        try simp only [Act.put, List.setIfInBounds_toArray, List.set_cons_zero, List.set_cons_succ]
        refine' wpAnyT_take (i := 1) (v := _) ?hiT1 (by kernel_rfl) ?hQT1 (Or.inl ⟨?hwT1, ?hyT1⟩) hS ?reT1
        case hiT1 => (simp only [List.getElem?_toArray, List.getElem?_cons_succ, List.getElem?_cons_zero]; rfl)
        case hQT1 => exact fun _ _ _ h => h
        case hwT1 => rfl
        case hyT1 => (intro wS hSw; obtain ⟨_, _, _⟩ := hSw; go_simp; (try with_reducible rfl))
        try simp only [Act.put, List.setIfInBounds_toArray, List.set_cons_zero, List.set_cons_succ]
        refine' wpAnyT_take (i := 2) (v := _) ?hiT2 (by kernel_rfl) ?hQT2 (Or.inl ⟨?hwT2, ?hyT2⟩) hS ?reT2
        case hiT2 => (simp only [List.getElem?_toArray, List.getElem?_cons_succ, List.getElem?_cons_zero]; rfl)
        case hQT2 => exact fun _ _ _ h => h
        case hwT2 => rfl
        case hyT2 => (intro wS hSw; obtain ⟨_, _, _⟩ := hSw; go_simp; (try with_reducible rfl))
        try simp only [Act.put, List.setIfInBounds_toArray, List.set_cons_zero, List.set_cons_succ]
        have hdD := (show W2.drew.heap[D]? = some (.deferred (some [])) from hd2)
        have hdE := (show W2.drew.heap[E]? = some (.deferred (some [])) from he2)
        have k1d := hC.k1.drew
        have k2d := hC.k2.drew
        have k3d := hC.k3.drew
        have Bd := hC.below.trans ((Below.refl W2.heap.size W2).drew.mono (by have := hC.below.size; omega))
        have hszd : W2.drew.heap.size = W2.heap.size := rfl
        generalize W2.drew = w6 at *
        clear hC hd2 he2
        refine wpAnyT_ready (rs := [3]) (by kernel_rfl) (by simp) ?_
        refine' AllReadyT.cons ?hi3 (fun K hK => ?st3) AllReadyT.nil
        case hi3 => (simp only [List.getElem?_toArray, List.getElem?_cons_succ, List.getElem?_cons_zero]; rfl)
        have z1 := k1d.cell
        have y1 := k1d.frozen
        go_simp
        have hf5 : Far (fun k => k = s + 1) w6 (w6.setCell ⟨s + 1, 0, none⟩ (.int .i64 xl)) := Far.setCell (T := fun k => k = s + 1) (p := ⟨s + 1, 0, none⟩) (Far.refl _ _) (fun _ => rfl) _
        have k15 : Blk (w6.setCell ⟨s + 1, 0, none⟩ (.int .i64 xl)) (s + 1) 3 #[.int .i64 xl] := k1d.set_ 0 (.int .i64 xl)
        have k25 := hf5.blk k2d (by omega)
        have k35 := hf5.blk k3d (by omega)
        refine hK.out _ _ (fun _ => ⟨k15.cell 0, k25.cell 0, k35.cell 0⟩) (fun hS => ?_)
        clear hK K
        replace hS := hS rfl
        have hdD5 := hf5.same hdD (by omega)
        have hdE5 := hf5.same hdE (by omega)
        have B5 := Bd.trans (hf5.below (by have := Bd.size; omega) (fun k hk => by omega))
        have hs5 := hf5.size
        clear z1 y1 hf5 k1d k2d k3d hdD hdE
        generalize (w6.setCell ⟨s + 1, 0, none⟩ (.int .i64 xl)) = w7 at *
        try simp only [Act.put, List.setIfInBounds_toArray, List.set_cons_zero, List.set_cons_succ]
        refine wpAnyT_ready (rs := [4]) (by kernel_rfl) (by simp) ?_
        refine' AllReadyT.cons ?hi4 (fun K hK => ?st4) AllReadyT.nil
        case hi4 => (simp only [List.getElem?_toArray, List.getElem?_cons_succ, List.getElem?_cons_zero]; rfl)
        have z2 := k25.cell
        have y2 := k25.frozen
        go_simp
        have hf6 : Far (fun k => k = s + 2) w7 (w7.setCell ⟨s + 2, 0, none⟩ (.int .i64 yl)) := Far.setCell (T := fun k => k = s + 2) (p := ⟨s + 2, 0, none⟩) (Far.refl _ _) (fun _ => rfl) _
        have k26 : Blk (w7.setCell ⟨s + 2, 0, none⟩ (.int .i64 yl)) (s + 2) 3 #[.int .i64 yl] := k25.set_ 0 (.int .i64 yl)
        have k16 := hf6.blk k15 (by omega)
        have k36 := hf6.blk k35 (by omega)
        refine hK.out _ _ (fun _ => ⟨k16.cell 0, k26.cell 0, k36.cell 0⟩) (fun hS => ?_)
        clear hK K
        replace hS := hS rfl
        have hdD6 := hf6.same hdD5 (by omega)
        have hdE6 := hf6.same hdE5 (by omega)
        have B6 := B5.trans (hf6.below (by have := B5.size; omega) (fun k hk => by omega))
        have hs6 := hf6.size
        clear z2 y2 hf6 k15 k25 k35 hdD5 hdE5
        generalize (w7.setCell ⟨s + 2, 0, none⟩ (.int .i64 yl)) = w8 at *
        try simp only [Act.put, List.setIfInBounds_toArray, List.set_cons_zero, List.set_cons_succ]
        refine wpAnyT_ready (rs := [5]) (by kernel_rfl) (by simp) ?_
        refine' AllReadyT.cons ?hi5 (fun K hK => ?st5) AllReadyT.nil
        case hi5 => (simp only [List.getElem?_toArray, List.getElem?_cons_succ, List.getElem?_cons_zero]; rfl)
        have z3 := k36.cell
        have y3 := k36.frozen
        go_simp
        have hf7 : Far (fun k => k = s + 3) w8 (w8.setCell ⟨s + 3, 0, none⟩ (.int .i64 ig)) := Far.setCell (T := fun k => k = s + 3) (p := ⟨s + 3, 0, none⟩) (Far.refl _ _) (fun _ => rfl) _
        have k37 : Blk (w8.setCell ⟨s + 3, 0, none⟩ (.int .i64 ig)) (s + 3) 3 #[.int .i64 ig] := k36.set_ 0 (.int .i64 ig)
        have k17 := hf7.blk k16 (by omega)
        have k27 := hf7.blk k26 (by omega)
        refine hK.out _ _ (fun _ => ⟨k17.cell 0, k27.cell 0, k37.cell 0⟩) (fun hS => ?_)
        clear hK K
        replace hS := hS rfl
        have hdD7 := hf7.same hdD6 (by omega)
        have hdE7 := hf7.same hdE6 (by omega)
        have B7 := B6.trans (hf7.below (by have := B6.size; omega) (fun k hk => by omega))
        have hs7 := hf7.size
        clear z3 y3 hf7 k16 k26 k36 hdD6 hdE6
        generalize (w8.setCell ⟨s + 3, 0, none⟩ (.int .i64 ig)) = w9 at *
        try simp only [Act.put, List.setIfInBounds_toArray, List.set_cons_zero, List.set_cons_succ]
        refine' wpAnyT_take (i := 6) (v := _) ?hiT6 (by kernel_rfl) ?hQT6 (Or.inl ⟨?hwT6, ?hyT6⟩) hS ?reT6
        case hiT6 => (simp only [List.getElem?_toArray, List.getElem?_cons_succ, List.getElem?_cons_zero]; rfl)
        case hQT6 => exact fun _ _ _ h => h
        case hwT6 => rfl
        case hyT6 => (intro wS hSw; obtain ⟨_, _, _⟩ := hSw; go_simp; (try with_reducible rfl))
        try simp only [Act.put, List.setIfInBounds_toArray, List.set_cons_zero, List.set_cons_succ]
        refine wpAnyT_done (by kernel_rfl) ?_ _
        refine noPanic_normal ?_
        go_wp2_with fail
        have hfp : Far (fun k => k = D ∨ k = E) w9 (World.putObj (World.putObj w9 E (.deferred none)) D (.deferred none)) := Far.putObj (T := fun k => k = D ∨ k = E) (Far.putObj (T := fun k => k = D ∨ k = E) (Far.refl _ _) (fun _ => .inr rfl) _) (fun _ => .inl rfl) _
        have hB9 := B7.trans (hfp.below (by have := B7.size; omega) (fun k hk => by omega))
        have x1 := (hfp.blk k17 (by omega)).cell
        have x2 := (hfp.blk k27 (by omega)).cell
        have x3 := (hfp.blk k37 (by omega)).cell
        exact leave_mark2 (v := .tuple #[.int .i64 xl, .int .i64 yl, .int .i64 ig, .int .i64 0]) (by omega) hdD7 hdE7 (by simp [results, Tryz.results24, go_sem, x1, x2, x3]) ⟨by rw [hA2.out], by rw [hs]; exact hB9⟩
end Go.Proofs.YtefnnfcfigcikaaGreat
namespace Go.Pol
open Go
/-- the idle pages of groups that are not huge -/
def haveF (gs : List Gp) : Int := (gs.map fun g => if g.2.2.2 then 0 else g.2.1 - g.2.2.1).sum
/-- the groups whose pages are needed too -/
def cutH (n : Int) : Int → List Gp → List Gp
  | _, [] => []
  | h, g :: r => if n ≤ h then [] else g :: cutH n (h + (16 - g.2.2.1)) r
def numsF (l : List Gp) : List Int := l.map (·.1)
/-- is a page idle, and in no group that stays huge? -/
def freeP (C L : List Sp) (H T : List Int) (p : Nat) : Bool := mem (p : Int) C && !mem (p : Int) L && !(decide ((p : Int) / 16 ∈ H) && !decide ((p : Int) / 16 ∈ T))
def firH (n : Int) (C L : List Sp) (H T : List Int) (k : Nat) : List Nat := ((List.range k).filter (freeP C L H T)).take n.toNat
def onesF (l : List Nat) : List Sp := l.map fun (p : Nat) => ((p : Int), (1 : Int))
/-- what Choose answers, with the huge groups in the order in which they are taken -/
def chooseA (C L : List Sp) (H : List Int) (n : Int) (ord : List Gp) : List Sp × Int :=
  if chkH C L H ≠ 0 then ([], chkH C L H) else if n < 0 ∨ 1024 < n then ([], 2) else
  if haveF (gsH C L H) + idleG (cutH n (haveF (gsH C L H)) ord) < n then ([], 4)
  else (setOf (onesF (firH n C L H (numsF (cutH n (haveF (gsH C L H)) ord)) 1024)), 0)
theorem onesF_snoc (l : List Nat) (k : Nat) : onesF (l ++ [k]) = onesF l ++ [((k : Int), (1 : Int))] := by simp [onesF]
theorem haveF_snoc (l : List Gp) (g : Gp) : haveF (l ++ [g]) = haveF l + if g.2.2.2 then 0 else g.2.1 - g.2.2.1 := by simp [haveF]
theorem haveF_bound : ∀ (l : List Gp), (∀ x ∈ l, 0 ≤ x.2.1 ∧ x.2.1 ≤ 16 ∧ 0 ≤ x.2.2.1 ∧ x.2.2.1 ≤ 16) → -16 * (l.length : Int) ≤ haveF l ∧ haveF l ≤ 16 * l.length
  | [], _ => by simp [haveF]
  | x :: r, h => by
    have h1 := h x (by simp)
    have h2 := haveF_bound r (fun y hy => h y (by simp [hy]))
    have e : haveF (x :: r) = (if x.2.2.2 then 0 else x.2.1 - x.2.2.1) + haveF r := by simp [haveF]
    rw [e, List.length_cons]
    split
    · omega
    · omega
theorem gsH_bounds {C L : List Sp} {H : List Int} {x : Gp} (h : x ∈ gsH C L H) : 0 ≤ x.2.1 ∧ x.2.1 ≤ 16 ∧ 0 ≤ x.2.2.1 ∧ x.2.2.1 ≤ 16 := by
  rw [gsH_map] at h
  obtain ⟨g, _, rfl⟩ := List.mem_map.1 h
  have h1 := grpF_bound C g
  have h2 := grpF_bound L g
  exact ⟨h1.1, h1.2, h2.1, h2.2⟩
theorem gsH_num {C L : List Sp} {H : List Int} {x : Gp} (h : x ∈ gsH C L H) : 0 ≤ x.1 ∧ x.1 < 64 := by
  rw [gsH_map] at h
  obtain ⟨g, hg, rfl⟩ := List.mem_map.1 h
  exact mem_grps.1 hg
theorem cutH_len (n : Int) : ∀ (h : Int) (l : List Gp), (cutH n h l).length ≤ l.length
  | _, [] => Nat.le_refl _
  | h, g :: r => by
    rw [cutH]
    split
    · simp
    · simpa using cutH_len n _ r
/-- one page more -/
theorem firH_succ (n : Int) (hn : 0 ≤ n) (C L : List Sp) (H T : List Int) (k : Nat) : firH n C L H T (k + 1) = if (decide ((firH n C L H T k).length < n) && freeP C L H T k) = true then firH n C L H T k ++ [k] else firH n C L H T k := by
  have hlen : (firH n C L H T k).length = min n.toNat ((List.range k).filter (freeP C L H T)).length := by unfold firH; rw [List.length_take]
  unfold firH at hlen ⊢
  rw [List.range_succ, List.filter_append]
  cases hf : freeP C L H T k with
  | false => simp [hf]
  | true =>
    rw [show [k].filter (freeP C L H T) = [k] by simp [hf]]
    by_cases hlt : ((List.range k).filter (freeP C L H T)).length < n.toNat
    · rw [if_pos (by rw [hlen, Bool.and_true, decide_eq_true_eq]; omega), List.take_of_length_le (by simp; omega), List.take_of_length_le (by omega)]
    · rw [if_neg (by rw [hlen, Bool.and_true, decide_eq_true_eq]; omega), List.take_append_of_le_length (by omega)]
theorem firH_len (n : Int) (C L : List Sp) (H T : List Int) (k : Nat) : (firH n C L H T k).length ≤ k := by
  unfold firH
  rw [List.length_take]
  have := List.length_filter_le (freeP C L H T) (List.range k)
  rw [List.length_range] at this
  omega
theorem firH_lt {n : Int} {C L : List Sp} {H T : List Int} {k p : Nat} (h : p ∈ firH n C L H T k) : p < k := by
  unfold firH at h
  have := List.mem_filter.1 (List.mem_of_mem_take h)
  simpa using this.1
theorem ones_ok {n : Int} {C L : List Sp} {H T : List Int} : ofE (onesF (firH n C L H T 1024)) = 0 := by
  unfold ofE onesF
  have := firH_len n C L H T 1024
  rw [if_neg (by rw [List.length_map]; omega), if_pos ?_]
  rw [List.all_eq_true]
  intro x hx
  obtain ⟨p, hp, rfl⟩ := List.mem_map.1 hx
  have := firH_lt hp
  rw [vld_iff]
  simp only
  omega
end Go.Pol
namespace Go.Proofs.YtefnnfcfigcikaaGreat
open Go Go.Proofs Go.Shelf
def insG_ren : Go.Shelf.Ren := ⟨fun | 20 => 194 | n => n, fun | 24 => 151 | 22 => 161 | 3 => 3 | 25 => 164 | 4 => 4 | 0 => 0 | n => n, fun | n => n⟩
theorem insG : Go.Proofs.SlLaysF0.n20 Tryz.prog insG_ren := {
  mixed := by kernel_rfl
  f20 := ⟨Tryz.f194.name, by decide, Tryz.func194.trans (congrArg some (by kernel_rfl))⟩
  t0 := Tryz.underlying0
  a0 := Tryz.isAgg0
  z0 := Tryz.sizeOf0
  v0 := Tryz.zeroValue0
  t3 := Tryz.underlying3
  a3 := Tryz.isAgg3
  z3 := Tryz.sizeOf3
  v3 := Tryz.zeroValue3
  t4 := Tryz.underlying4
  a4 := Tryz.isAgg4
  z4 := Tryz.sizeOf4
  v4 := Tryz.zeroValue4
  t22 := Tryz.underlying161
  a22 := Tryz.isAgg161
  z22 := Tryz.sizeOf161
  v22 := Tryz.zeroValue161
  t25 := Tryz.underlying164
  a25 := Tryz.isAgg164
  z25 := Tryz.sizeOf164
  v25 := Tryz.zeroValue164 }
end Go.Proofs.YtefnnfcfigcikaaGreat
namespace Go.Pol
open Go Go.RowKit
/-- a slice of groups -/
def RG (w : World) (B : Nat) (A : Option Addr) (bs : List Gp) : Prop :=
  ∀ k, k < bs.length → ∃ b o, A = some ⟨b, o, none⟩ ∧ b < B ∧ w.cell? ⟨b, o + k * 4, none⟩ = some (.int .i64 (bs.getD k gp0).1) ∧ w.cell? ⟨b, o + k * 4 + 1, none⟩ = some (.int .i64 (bs.getD k gp0).2.1) ∧ w.cell? ⟨b, o + k * 4 + 2, none⟩ = some (.int .i64 (bs.getD k gp0).2.2.1) ∧ w.cell? ⟨b, o + k * 4 + 3, none⟩ = some (.bool (bs.getD k gp0).2.2.2)
def gCells (bs : List Gp) : List Value := bs.flatMap fun x => [.int .i64 x.1, .int .i64 x.2.1, .int .i64 x.2.2.1, .bool x.2.2.2]
theorem gCells_len (bs : List Gp) : (gCells bs).length = bs.length * 4 := by
  induction bs with
  | nil => rfl
  | cons x r ih => simp only [gCells, List.flatMap_cons, List.length_append, List.length_cons, List.length_nil] at ih ⊢; omega
theorem gCells_snoc (bs : List Gp) (x : Gp) : gCells (bs ++ [x]) = gCells bs ++ [.int .i64 x.1, .int .i64 x.2.1, .int .i64 x.2.2.1, .bool x.2.2.2] := by simp [gCells]
theorem gCells_at : ∀ (bs : List Gp) (k : Nat), k < bs.length → (gCells bs)[k * 4]? = some (.int .i64 (bs.getD k gp0).1) ∧ (gCells bs)[k * 4 + 1]? = some (.int .i64 (bs.getD k gp0).2.1) ∧ (gCells bs)[k * 4 + 2]? = some (.int .i64 (bs.getD k gp0).2.2.1) ∧ (gCells bs)[k * 4 + 3]? = some (.bool (bs.getD k gp0).2.2.2)
  | [], k, h => by simp at h
  | x :: r, 0, _ => by simp [gCells]
  | x :: r, k + 1, h => by
    have ih := gCells_at r k (by simpa using h)
    have e : gCells (x :: r) = .int .i64 x.1 :: .int .i64 x.2.1 :: .int .i64 x.2.2.1 :: .bool x.2.2.2 :: gCells r := by simp [gCells]
    rw [e, show (k + 1) * 4 = k * 4 + 1 + 1 + 1 + 1 by omega]
    simpa using ih
section
variable {w w' : World} {B B' : Nat} {A : Option Addr} {bs : List Gp}
theorem RG.keep (h : RG w B A bs) (hk : ∀ p : Addr, p.block < B → w'.cell? p = w.cell? p) : RG w' B A bs := fun k hl => by
  obtain ⟨b, o, e, hb, hc, hd, hf, hg⟩ := h k hl
  exact ⟨b, o, e, hb, (hk _ hb).trans hc, (hk _ hb).trans hd, (hk _ hb).trans hf, (hk _ hb).trans hg⟩
theorem RG.below (h : RG w B A bs) (hb : Below B w w') : RG w' B A bs := h.keep fun _ hp => hb.cell hp
theorem RG.more (h : RG w B A bs) (hB : B ≤ B') : RG w B' A bs := fun k hl => by
  obtain ⟨b, o, e, hb, hc⟩ := h k hl
  exact ⟨b, o, e, by omega, hc⟩
theorem RG.on (h : RG w w.heap.size A bs) (hb : Below w.heap.size w w') : RG w' w'.heap.size A bs := (h.below hb).more hb.size
theorem RG.nil : RG w B A [] := fun k h => absurd h (by simp)
/-- what a call of the own made reads as a list -/
theorem own_RG {base n : Nat} {e : TypeId} {v : Value} (h : w.ownsRow base e 4 v n (gCells bs)) (hn : bs.length = n) : ∃ (A : Option Addr) (cap : Nat), v = .slice A n cap ∧ RG w w.heap.size A bs ∧ ∀ b o, A = some ⟨b, o, none⟩ → base ≤ b := by
  have hv := h
  rcases h.2 with ⟨rfl, h0⟩ | ⟨g, cap, cur, rfl, hg, hk, hnc, hcm, _⟩
  · subst h0
    obtain rfl : bs = [] := List.eq_nil_of_length_eq_zero hn
    exact ⟨none, 0, rfl, RG.nil, fun b o e => (by cases e)⟩
  · refine ⟨_, cap, rfl, fun k hk' => ?_, fun b o e => by cases e; exact hg⟩
    have h2 := gCells_at bs k hk'
    have c0 := hv.cellAt (k * 4) (by omega)
    have c1 := hv.cellAt (k * 4 + 1) (by omega)
    have c2 := hv.cellAt (k * 4 + 2) (by omega)
    have c3 := hv.cellAt (k * 4 + 3) (by omega)
    refine ⟨g, 0, rfl, Blk.lt hk, ?_, ?_, ?_, ?_⟩
    · rw [Nat.zero_add, c0]; exact h2.1
    · rw [Nat.zero_add, c1]; exact h2.2.1
    · rw [Nat.zero_add, c2]; exact h2.2.2.1
    · rw [Nat.zero_add, c3]; exact h2.2.2.2
theorem own_nilG {base n : Nat} {e : TypeId} {v : Value} (h : w.ownsRow base e 4 v n (gCells bs)) (hn : bs.length = n) : ∃ (A : Option Addr) (cap : Nat), v = .slice A n cap := by
  obtain ⟨A, cap, hv, _⟩ := own_RG h hn
  exact ⟨A, cap, hv⟩
theorem news_four {g : Nat} {t : TypeId} {a b c : Int} {d : Bool} (h : Blk w g t #[.int .i64 a, .int .i64 b, .int .i64 c, .bool d]) : ∀ (j : Nat) (u : Value), [Value.int .i64 a, Value.int .i64 b, Value.int .i64 c, Value.bool d][j]? = some u → w.cell? ((⟨g, 0, none⟩ : Addr).add j) = some u := by
  intro j u hu
  rw [addr_add0, Nat.zero_add]
  rw [h.cell]
  simpa using hu
theorem news_one4 {a b c : Int} {d : Bool} : ∀ u ∈ [Value.int .i64 a, Value.int .i64 b, Value.int .i64 c, Value.bool d], u.oneCell' = true := by
  intro u hu
  simp only [List.mem_cons, List.not_mem_nil, or_false] at hu
  rcases hu with rfl | rfl | rfl | rfl <;> rfl
end
end Go.Pol
namespace Go.Proofs.YtefnnfcfigcikaaGreat
open Go Go.Proofs Go.RowKit Go.Pol Go.Shelf
attribute [local go_sem] Oper.semAt_some Go.Pol.wide_fn Go.Pol.wide_depth Go.Pol.wide_fn' Go.Pol.wide_depth'

theorem infoGp : (Tryz.prog.info? 151).map (fun i => (i.zero, i.size, i.bytes)) = some (some (.agg #[.int .i64 0, .int .i64 0, .int .i64 0, .bool false]), 4, 32) := by kernel_rfl
theorem infoGp_parts : ∃ i0, Tryz.prog.info? 151 = some i0 ∧ i0.zero = some (.agg #[.int .i64 0, .int .i64 0, .int .i64 0, .bool false]) ∧ i0.size = 4 ∧ i0.bytes = 32 := by
  obtain ⟨i0, h⟩ := info_parts infoGp
  exact ⟨i0, h⟩
set_option maxRecDepth 100000 in
set_option maxHeartbeats 3200000 in
theorem appendSeqG_any (g : Nat) (lb : Array Value) (K : Nat → Prop) (xs : List Gp) (w : World) (hxs : xs.length ≤ 1000000)
    (hseq : SeqX Tryz.prog g lb gA (fun _ => False) K xs w) (eg : ∀ args w, (callFunc g args).run Tryz.prog w = .ok (.enter g args) w) (hK : ∀ k, K k → k < w.heap.size) :
    Calls Tryz.prog 171 #[.slice none 0 0, .func (.func g) #[] lb] w fun e w' => ∃ v, e = .returned v ∧ w'.ownsRow w.heap.size 151 4 v xs.length (gCells xs) ∧ Below w.heap.size w w' := by
  obtain ⟨i0, hi, hz0, hz1, hz2⟩ := infoGp_parts
  obtain ⟨s, hs⟩ : ∃ s, w.heap.size = s := ⟨_, rfl⟩
  obtain ⟨W0, hW0⟩ : ∃ W0, w.alloc (.cells #[.slice none 0 0] 161) = W0 := ⟨_, rfl⟩
  have hs0 : W0.heap.size = s + 1 := by rw [← hW0, ← hs]; simp
  have kO : Blk W0 s 161 #[.slice none 0 0] := by rw [← hW0, ← hs]; exact Blk.new _ _ _
  have hb0 : Below s w W0 := by rw [← hW0, ← hs]; exact (Below.refl w.heap.size w).alloc (Nat.le_refl _) _
  have hF0 : Far (fun _ => False) w W0 := .of_below (by rw [hs]; exact hb0)
  have hW1 := Lib.hid hW0
  clear hW0
  refine calls_of_marks Tryz.func171 rfl ?_
  simp only [Tryz.ntmps171, List.size_toArray, List.length_cons, List.length_nil, Nat.reduceAdd, Nat.reduceSub, Array.replicate_succ, Array.replicate_zero, List.push_toArray, List.append_toArray, List.nil_append, List.cons_append]
  go_wp2_with fail
  rw [hW1.out]
  clear hW1
  have ls1 := kO.lt
  have hlen : ∀ (pre : List Gp) (x : Gp), pre ++ [x] <+: xs → pre.length < 1000000 := fun pre x h => by
    have := h.length_le
    simp at this
    omega
  refine rangeXG 5 7 151 (gf := g) (lb := lb) rfl eg (hseq.later (hF0.mono fun _ _ h => h.elim)) rfl (fun _ h => h.elim) (fun k h => by have := hK k h; omega)
    (fun X pre W => BoxX X W s 161 151 (s + 3) 4 pre.length (gCells pre) ∧ Below s w W ∧ ∀ k, X k → s ≤ k)
    (fun _ _ _ _ => False)
    (fun X pre A B h hf => ⟨h.1.far hf (by rintro (h | h | h | h) <;> first | exact h | exact h.elim | omega) (fun g hg => by rintro (h | h | h | h) <;> first | exact h | exact h.elim | omega),
      h.2.1.trans (hf.below (by rw [← hs]; exact h.2.1.size) (fun k hk => by rintro (h' | h' | h' | h'); exact h'; have := h.2.2 k h'; omega; omega; omega)), h.2.2⟩)
    (fun _ _ _ _ _ h _ => h.elim)
    (fun X X' pre A h hX => ⟨h.1.new hX, h.2.1, fun k hk => (hX _ hk).elim (h.2.2 k) (fun h' => by have := h.2.1.size; omega)⟩)
    ⟨⟨_, kO, World.ownsRow_nil _ _ _ _, id, fun _ _ => id⟩, hb0, fun _ h => h.elim⟩ ?assign ?body ?done (fun _ _ _ _ _ _ h _ => h.elim)
  case assign =>
    intro m l x W C hC
    obtain ⟨xn, xc, xl, xh⟩ := x
    simp only [gV, List.setIfInBounds_toArray, List.set_cons_succ, List.set_cons_zero] at hC ⊢
    gi_wp2
    exact hC
  case body =>
    rintro m l X pre x Bx Wa W hsz hXlt ⟨hbox, hB, hXs⟩ hpre hBx kx hBa
    simp only [List.setIfInBounds_toArray, List.set_cons_succ, List.set_cons_zero]
    have hlt := hlen pre x hpre
    obtain ⟨v, hv, hrow, hXB, hXg⟩ := hbox.ex
    obtain ⟨A', cap', rfl⟩ := own_nilG hrow rfl
    obtain ⟨pl, hpl⟩ : ∃ pl, pre.length = pl := ⟨_, rfl⟩
    obtain ⟨xa, xo, xl, xc⟩ := x
    dsimp only at kx
    have cx := kx.cell
    have cv := hv.cell
    have fv := hv.frozen
    have kN := Blk.new W 151 #[.int .i64 xa, .int .i64 xo, .int .i64 xl, .bool xc]
    have hXl2 : ∀ k, X k → k < W.heap.size := fun k hk => by have := (hXlt k hk).1; have := kx.lt; omega
    rw [hpl] at hrow hv cv hlt hXg
    gi_wp2_with (gi_at_builtin; refine wpListIn_append_x _ rfl (.tmp 8) (.tmp 10) 161 rfl (s + 3) 151 i0 (.agg #[.int .i64 0, .int .i64 0, .int .i64 0, .bool false]) 4 32 Tryz.underlying161 hi hz0 hz1 hz2 rfl (by decide) _ pl (gCells pre) rfl (hrow.alloc _) ⟨W.heap.size, 0, none⟩ 1 1 [.int .i64 xa, .int .i64 xo, .int .i64 xl, .bool xc] rfl rfl (news_four kN) news_one4 (by unfold maxLen; omega) (by omega) (by simp; omega) ?_; intro v' w1 hown' hgrow hblk; rw [← gCells_snoc pre (xa, xo, xl, xc)] at hown'; obtain ⟨hv1, hb2, hf2⟩ := BoxX.appended hv (by decide) hrow hXB hXg hown' hgrow hblk hXl2; obtain ⟨A2, cap2, rfl⟩ := own_nilG hown' (by simp; omega); have cv1 := hv1.cell; have fv1 := hv1.frozen)
    have hgx : ∀ g, (Value.slice A' pl cap').ownBlock = some g → s + 3 ≤ g ∧ ¬ X g := fun g hg => ⟨(hrow.lt g hg).1, hXg g hg⟩
    have hf3 := hf2 (fun k => k = s ∨ (Value.slice A' pl cap').ownBlock = some k) (.inl rfl) (fun g hg => .inr hg)
    refine ⟨hf3.mono fun k _ h => ?_, ?_, hB.trans (hf3.below (by have := hB.size; omega) fun k hk => ?_), hXs⟩
    · rintro (h' | h' | h' | h')
      · have := hK k h'
        rcases h with h | h
        · omega
        · have := hgx k h; omega
      · rcases h with h | h
        · exact hXB (h ▸ h')
        · exact (hgx k h).2 h'
      · rcases h with h | h
        · omega
        · have := hgx k h; omega
      · rcases h with h | h
        · omega
        · have := hgx k h; omega
    · rw [List.length_append, List.length_singleton, hpl]; exact hb2
    · rintro (h | h)
      · omega
      · have := hgx _ h; omega
  case done =>
    rintro X W hsz ⟨hbox, hB, hXs⟩ hd
    obtain ⟨v, hv, hrow, hXB, hXg⟩ := hbox.ex
    have cv := hv.cell
    obtain ⟨A', cap', rfl⟩ := own_nilG hrow rfl
    rw [hs0] at hd hsz
    go_wp2_with fail
    rw [hs0]
    have hfp : Far (fun k => k = s + 1) W (W.putObj (s + 1) (.deferred none)) := Far.putObj (T := fun k => k = s + 1) (Far.refl _ _) (fun _ => rfl) _
    have hrow3 := ownsRow_far hrow hfp (fun g hg h => by have := (hrow.lt g hg).1; omega)
    exact leave_mark (v := .slice A' xs.length cap') hd (by simp [results, Tryz.results171, go_sem]) ⟨_, rfl, ownsRow_base hrow3 (by omega), by rw [hs]; exact hB.trans (hfp.below (by have := hB.size; omega) (fun k hk => by omega))⟩

theorem collectG_any (g : Nat) (lb : Array Value) (K : Nat → Prop) (xs : List Gp) (w : World) (hxs : xs.length ≤ 1000000)
    (hseq : SeqX Tryz.prog g lb gA (fun _ => False) K xs w) (eg : ∀ args w, (callFunc g args).run Tryz.prog w = .ok (.enter g args) w) (hK : ∀ k, K k → k < w.heap.size) :
    Calls Tryz.prog 125 #[.func (.func g) #[] lb] w fun e w' => ∃ v, e = .returned v ∧ w'.ownsRow w.heap.size 151 4 v xs.length (gCells xs) ∧ Below w.heap.size w w' := by
  have HA := Lib.hid (appendSeqG_any g lb K xs w hxs hseq eg hK)
  go_enter Tryz.func125, Tryz.ntmps125
  go_wp2_with (go_at_call 171; refine (HA.out).mono ?_; rintro e w1 ⟨v, rfl, hown, hf⟩)
  go_ret
  exact ⟨v, rfl, hown, hf⟩
end Go.Proofs.YtefnnfcfigcikaaGreat
namespace Go.Proofs.YtefnnfcfigcikaaGreat
open Go Go.Proofs Go.RowKit Go.Pol Go.Shelf Go.Sort

def encG (x : Gp) : List Value := [.int .i64 x.1, .int .i64 x.2.1, .int .i64 x.2.2.1, .bool x.2.2.2]
theorem flat_cellsG (us : List Gp) : (flatK encG 4 us.toArray).toList = gCells us := by
  apply List.ext_getElem?
  intro t
  have hl := gCells_len us
  by_cases ht : t < us.length * 4
  · have h1 : (flatK encG 4 us.toArray).toList[t]? = some ((encG us.toArray[t / 4]!)[t % 4]!) := by
      rw [← get_flatK encG 4 us.toArray t (by simpa using ht)]
      rw [Array.getElem?_toList, getElem!_pos _ t (by simpa using ht), Array.getElem?_eq_getElem (by simpa using ht)]
    rw [h1]
    have hk : t / 4 < us.length := by omega
    have hat := gCells_at us (t / 4) hk
    have hg : us.toArray[t / 4]! = us.getD (t / 4) gp0 := by
      rw [List.getD_eq_getElem?_getD, List.getElem?_eq_getElem hk, getElem!_pos _ _ (by simpa using hk)]; simp
    rw [hg]
    rcases (show t % 4 = 0 ∨ t % 4 = 1 ∨ t % 4 = 2 ∨ t % 4 = 3 by omega) with h | h | h | h
    · rw [h, show t = t / 4 * 4 by omega, hat.1]; simp [encG]
    · rw [h]
      have e : t = t / 4 * 4 + 1 := by omega
      generalize t / 4 = k at *
      subst e
      rw [hat.2.1]; simp [encG]
    · rw [h]
      have e : t = t / 4 * 4 + 2 := by omega
      generalize t / 4 = k at *
      subst e
      rw [hat.2.2.1]; simp [encG]
    · rw [h]
      have e : t = t / 4 * 4 + 3 := by omega
      generalize t / 4 = k at *
      subst e
      rw [hat.2.2.2]; simp [encG]
  · rw [List.getElem?_eq_none (by simp; omega), List.getElem?_eq_none (by omega)]
theorem owns_putG {w : World} {base g n cap m : Nat} {e : TypeId} {os : Array Obj} {xs : List Value} (F : Array Value) (hF : F.size = n * 4) (h : w.ownsRow base e 4 (.slice (some ⟨g, 0, none⟩) n cap) n xs) :
    (grow (putRow id (Sort.ahead w m) g 0 F) os).ownsRow base e 4 (.slice (some ⟨g, 0, none⟩) n cap) n F.toList := by
  rcases h.2 with ⟨h0, _⟩ | ⟨g', cap', cur, hv, hbase, hb, h1, h2, h3, _⟩
  · cases h0
  cases hv
  exact ⟨by simpa using hF, .inr ⟨g, cap, _, rfl, hbase, heap_putF _ hb, h1, h2, by simp [putCells, h3], by rw [← hF]; exact take_putF cur F (by rw [hF, h3]; exact Nat.mul_le_mul_right 4 h1)⟩⟩
theorem holds_ownG {w : World} {base g n cap : Nat} {e : TypeId} {us : List Gp} (hn : us.length = n) (h : w.ownsRow base e 4 (.slice (some ⟨g, 0, none⟩) n cap) n (gCells us)) : HoldsK encG 4 w g 0 us.toArray := by
  intro j hj
  have hj' : j < us.length * 4 := by simpa using hj
  rw [Nat.zero_add]
  refine ⟨?_, h.frozenAt j⟩
  rw [h.cellAt j (by omega), ← flat_cellsG, Array.getElem?_toList, getElem!_pos _ j hj, Array.getElem?_eq_getElem hj]
  rfl






theorem choose1_any (x y : Gp) (w : World) : Calls Tryz.prog 75 #[gV x, gV y] w fun e w' => e = .returned (.int .i64 (cmpI x.2.2.1 y.2.2.1)) ∧
    w' = (w.alloc (.cells #[.int .i64 x.1, .int .i64 x.2.1, .int .i64 x.2.2.1, .bool x.2.2.2] 151)).alloc (.cells #[.int .i64 y.1, .int .i64 y.2.1, .int .i64 y.2.2.1, .bool y.2.2.2] 151) := by
  obtain ⟨xa, xo, xl, xc⟩ := x
  obtain ⟨ya, yo, yl, yc⟩ := y
  simp only [gV]
  have HC := Lib.hid (fun W => compare_any xl yl W)
  generalize cmpI xl yl = R at *
  go_enter Tryz.func75, Tryz.ntmps75
  go_wp2_with (go_at_call 76; refine (HC.out _).mono ?_; rintro e w' ⟨rfl, rfl⟩)
  go_ret
  exact ⟨rfl, rfl⟩
theorem cmpLaysG (blk off size : Nat) (w : World) : CmpLays Tryz.prog 75 #[] encG 4 (fun x y => cmpI x.2.2.1 y.2.2.1) blk off size w :=
  fun m os dk _ x y => (choose1_any x y _).mono (by rintro e w' ⟨he, rfl⟩; exact ⟨he, 0, _, by rw [alloc_eq_grow, alloc_eq_grow, grow_grow]; rfl⟩)
/-- fewer live pages -/
def ltL (x y : Gp) : Bool := decide (x.2.2.1 < y.2.2.1)
theorem ltOf_L : (ltOf fun x y : Gp => cmpI x.2.2.1 y.2.2.1) = ltL := by
  funext x y
  unfold ltOf cmpI ltL
  by_cases h1 : x.2.2.1 < y.2.2.1
  · simp [h1]
  · by_cases h2 : y.2.2.1 < x.2.2.1 <;> simp [h1, h2]
theorem choose1_enters : ∀ args w, (callFunc 75 args).run Tryz.prog w = .ok (.enter 75 args) w := enters_of Tryz.func75 (by kernel_rfl) rfl
/-- what is asked of the sort of a list -/
def StabC (n : Nat) (F : Array Gp → Array Gp) : Prop := ∀ (g cap : Nat) (d : Array Gp) (w : World), d.size = n → HoldsK encG 4 w g 0 d → g < w.heap.size →
  Calls Tryz.prog 172 #[.slice (some ⟨g, 0, none⟩) n cap, .int .i64 n, .func (.func 75) #[] #[]] w fun e w' => e = .returned (.tuple #[]) ∧ ∃ m os, w' = sortWorldK encG 4 w g 0 m (F d) os
set_option maxHeartbeats 1000000 in
theorem stable20 (n : Nat) (hn : n ≤ 19) : StabC n (fun d => insertionSort ltL d 0 n) := by
  intro g cap d w hd hH hg
  have hI := AnyQ.insertionSortCmpFunc insG 4 Tryz.isAgg151 Tryz.sizeOf151 encG (fun _ => rfl) (fun x v hv => by simp [encG] at hv; rcases hv with rfl | rfl | rfl | rfl <;> rfl) (fun x y => cmpI x.2.2.1 y.2.2.1) 75 #[] g 0 cap 0 n d w choose1_enters (cmpLaysG g 0 d.size w) hH hg (Nat.zero_le _) (by omega) (by omega)
  rw [hd, ltOf_L] at hI
  change Calls Tryz.prog 194 _ _ _ at hI
  have HI := Lib.hid hI
  clear hI
  have h1 : decide (20 ≤ (n : Int)) = false := by simp; omega
  have h2 : decide (20 < (n : Int)) = false := by simp; omega
  clear hH
  go_enter Tryz.func172, Tryz.ntmps172
  go_wp2_with fail
  go_loopw [7, 8] (fun a b wr => a = .int .i64 0 ∧ b = .int .i64 20 ∧ wr = w) (fun _ _ _ => 0)
  case atStart => exact ⟨rfl, rfl, rfl⟩
  case round =>
    obtain ⟨rfl, rfl, hw⟩ := hrel
    have hw' := hw.symm
    clear hw
    subst hw'
    go_wp2_with fail
    refine HI.out.mono ?_
    rintro e w1 ⟨rfl, m, os, rfl⟩
    go_wp2_with fail
    obtain ⟨W2, hW2⟩ : ∃ W2, sortWorldK encG 4 w g 0 m (insertionSort ltL d 0 n) os = W2 := ⟨_, rfl⟩
    rw [hW2]
    have hW2' := Lib.hid hW2
    clear hW2
    go_loopw [6] (fun a wr => a = .int .i64 20 ∧ wr = W2) (fun _ _ => 0)
    case atStart => exact ⟨rfl, rfl⟩
    case round =>
      obtain ⟨rfl, hw⟩ := hrel
      have hw' := hw.symm
      clear hw
      subst hw'
      go_wp2_with fail
      go_end0
      exact ⟨rfl, m, os, hW2'.out.symm⟩
theorem insertionNone (A : Option Addr) (cap : Nat) (w : World) : Calls Tryz.prog 194 #[.slice A 0 cap, .int .i64 0, .int .i64 0, .func (.func 75) #[] #[]] w fun e w' => e = .returned (.tuple #[]) ∧ w' = w := by
  go_enter Tryz.func194, Tryz.ntmps194
  go_wp2_with fail
  go_loopw [8] (fun a wr => a = .int .i64 1 ∧ wr = w) (fun _ _ => 0)
  case atStart => exact ⟨rfl, rfl⟩
  case round =>
    obtain ⟨rfl, hw⟩ := hrel
    have hw' := hw.symm
    clear hw
    subst hw'
    go_wp2_with fail
    go_end0
    exact ⟨rfl, rfl⟩
theorem stableNone (A : Option Addr) (cap : Nat) (w : World) : Calls Tryz.prog 172 #[.slice A 0 cap, .int .i64 0, .func (.func 75) #[] #[]] w fun e w' => e = .returned (.tuple #[]) ∧ w' = w := by
  have HI := Lib.hid (insertionNone A cap w)
  go_enter Tryz.func172, Tryz.ntmps172
  go_wp2_with fail
  go_loopw [7, 8] (fun a b wr => a = .int .i64 0 ∧ b = .int .i64 20 ∧ wr = w) (fun _ _ _ => 0)
  case atStart => exact ⟨rfl, rfl, rfl⟩
  case round =>
    obtain ⟨rfl, rfl, hw⟩ := hrel
    have hw' := hw.symm
    clear hw
    subst hw'
    go_wp2_with fail
    refine HI.out.mono ?_
    rintro e w1 ⟨rfl, hw⟩
    have hw' := hw.symm
    clear hw
    subst hw'
    go_wp2_with fail
    go_loopw [6] (fun a wr => a = .int .i64 20 ∧ wr = w) (fun _ _ => 0)
    case atStart => exact ⟨rfl, rfl⟩
    case round =>
      obtain ⟨rfl, hw⟩ := hrel
      have hw' := hw.symm
      clear hw
      subst hw'
      go_wp2_with fail
      go_end0
      exact ⟨rfl, rfl⟩
/-- a sort by what StabC asks, of a list of its own -/
theorem sortStableG_any (F : Array Gp → Array Gp) (base : Nat) (v : Value) (us : List Gp) (w : World) (hF : us ≠ [] → StabC us.length F) (hsz : ∀ d, (F d).size = d.size) (hbase : base ≤ w.heap.size) (hrow : w.ownsRow base 151 4 v us.length (gCells us)) :
    Calls Tryz.prog 126 #[v, .func (.func 75) #[] #[]] w fun e w' => e = .returned (.tuple #[]) ∧ w'.ownsRow base 151 4 v us.length (gCells (F us.toArray).toList) ∧ Go.RowKit.Below base w w' := by
  by_cases hne : us = []
  · subst hne
    obtain ⟨A, cap, rfl⟩ := own_nilG hrow rfl
    have HS := Lib.hid (stableNone A cap w)
    have he : (F #[]).toList = [] := by
      have := hsz #[]
      rw [← List.length_eq_zero_iff, Array.length_toList, this]; rfl
    have hfin : w.ownsRow base 151 4 (.slice A ([] : List Gp).length cap) ([] : List Gp).length (gCells (F ([] : List Gp).toArray).toList) := by
      rw [show (F ([] : List Gp).toArray).toList = [] from he]; exact hrow
    clear hrow hF
    go_enter Tryz.func126, Tryz.ntmps126
    go_wp2_with fail
    refine HS.out.mono ?_
    rintro e w1 ⟨rfl, hw⟩
    subst hw
    go_wp2_with fail
    go_end0
    exact ⟨rfl, hfin, Go.RowKit.Below.refl _ _⟩
  · have hpos : 0 < us.length := List.length_pos_iff.2 hne
    obtain ⟨g, cap, rfl, hg1, hg2⟩ := hrow.form hpos
    have HS := Lib.hid (hF hne g cap us.toArray w (by simp) (holds_ownG rfl hrow) hg2)
    have hlen : (F us.toArray).toList.length = us.length := by rw [Array.length_toList, hsz]; simp
    generalize hd : F us.toArray = d' at *
    obtain ⟨us'⟩ := d'
    obtain ⟨n, hn⟩ : ∃ n, us.length = n := ⟨_, rfl⟩
    rw [hn] at HS hlen hrow ⊢
    clear hF hd
    go_enter Tryz.func126, Tryz.ntmps126
    go_wp2_with fail
    refine HS.out.mono ?_
    rintro e w1 ⟨rfl, m, os, rfl⟩
    go_wp2_with fail
    go_end0
    refine ⟨rfl, ?_, (Go.RowKit.Below.refl base w).grown (grownBy_putF _) hbase (fun j hj => by cases hj; exact hg1)⟩
    have := owns_putG (m := m) (os := os) (flatK encG 4 us'.toArray) (by simp [show us'.length = n from hlen]) hrow
    rw [flat_cellsG] at this
    exact this
/-- what the stable sort makes of a list -/
def SortsTo (us vs : List Gp) : Prop := vs.length = us.length ∧ ∀ (base : Nat) (v : Value) (w : World), base ≤ w.heap.size → w.ownsRow base 151 4 v us.length (gCells us) →
  Calls Tryz.prog 126 #[v, .func (.func 75) #[] #[]] w fun e w' => e = .returned (.tuple #[]) ∧ w'.ownsRow base 151 4 v us.length (gCells vs) ∧ Go.RowKit.Below base w w'
theorem sorts_of_stab (F : Array Gp → Array Gp) (us : List Gp) (hF : us ≠ [] → StabC us.length F) (hsz : ∀ d, (F d).size = d.size) : SortsTo us (F us.toArray).toList :=
  ⟨by rw [Array.length_toList, hsz]; simp, fun base v w hb hr => sortStableG_any F base v us w hF hsz hb hr⟩
theorem sortedStableG_any (vs : List Gp) (g : Nat) (lb : Array Value) (K : Nat → Prop) (xs : List Gp) (w : World) (hxs : xs.length ≤ 1000) (hS : SortsTo xs vs)
    (hseq : SeqX Tryz.prog g lb gA (fun _ => False) K xs w) (eg : ∀ args w, (callFunc g args).run Tryz.prog w = .ok (.enter g args) w) (hK : ∀ k, K k → k < w.heap.size) :
    Calls Tryz.prog 74 #[.func (.func g) #[] lb, .func (.func 75) #[] #[]] w fun e w' => ∃ (A : Option Addr) (cap : Nat), e = .returned (.slice A xs.length cap) ∧ RG w' w'.heap.size A vs ∧ (∀ b o, A = some ⟨b, o, none⟩ → w.heap.size ≤ b) ∧ Go.RowKit.Below w.heap.size w w' := by
  have HA := Lib.hid (collectG_any g lb K xs w (by omega) hseq eg hK)
  have hlen := hS.1
  have hS' := Lib.hid hS.2
  clear hS
  go_enter Tryz.func74, Tryz.ntmps74
  go_wp2_with fail
  refine HA.out.mono ?_
  rintro e w1 ⟨v, rfl, hown, hb1⟩
  have HS := Lib.hid (hS'.out w.heap.size v w1 hb1.size hown)
  obtain ⟨A0, cap0, rfl⟩ := own_nilG hown rfl
  go_wp2_with fail
  refine HS.out.mono ?_
  rintro e w2 ⟨rfl, hown2, hb2⟩
  obtain ⟨A, cap, e, hrt, hA⟩ := own_RG hown2 hlen
  cases e
  go_wp2_with fail
  go_ret
  exact ⟨A0, cap0, rfl, hrt, hA, hb1.trans hb2⟩
end Go.Proofs.YtefnnfcfigcikaaGreat
namespace Go.Pol
open Go Go.RowKit
theorem cutH_nil {n h : Int} (hn : n ≤ h) : ∀ (l : List Gp), cutH n h l = []
  | [] => rfl
  | _ :: _ => by rw [cutH, if_pos hn]
theorem numsF_snoc (l : List Gp) (x : Gp) : numsF (l ++ [x]) = numsF l ++ [x.1] := by simp [numsF]
theorem upd_taken (H T : List Int) (x : Nat) : upd (fun g : Nat => decide ((g : Int) ∈ H) && !decide ((g : Int) ∈ T)) x false = fun g : Nat => decide ((g : Int) ∈ H) && !decide ((g : Int) ∈ T ++ [(x : Int)]) := by
  funext g
  unfold upd
  by_cases h : g = x
  · subst h; simp
  · rw [if_neg h]
    have : ¬ ((g : Int) = (x : Int)) := by omega
    simp [this]
/-- the cells of all pages -/
structure PgsAre (cs : Array Value) (cm lv : Nat → Bool) : Prop where
  size : cs.size = 2048
  at_ : ∀ k, k < 1024 → cs[k * 2]? = some (.bool (cm k)) ∧ cs[k * 2 + 1]? = some (.bool (lv k))
theorem LookIs.pages {cs : Array Value} {cm lv : Nat → Bool} {nm gc gl : Nat → Int} {gh : Nat → Bool} (h : LookIs cs cm lv nm gc gl gh) : PgsAre (cs.extract 0 2048) cm lv := by
  have hx : ∀ j, j < 2048 → (cs.extract 0 2048)[j]? = cs[j]? := fun j hj => by
    rw [ext_get (by rw [h.size]; omega), Nat.zero_add]
  exact ⟨by simp [h.size], fun k hk => by rw [hx _ (by omega), hx _ (by omega)]; exact ⟨h.cm k hk, h.lv k hk⟩⟩
theorem LookIs.rangeAtP {w : World} {b : Nat} {t : TypeId} {cs : Array Value} {cm lv : Nat → Bool} {nm gc gl : Nat → Int} {gh : Nat → Bool} (h : LookIs cs cm lv nm gc gl gh) (hb : Blk w b t cs) :
    w.rangeAt b 0 (cs.extract 0 2048).toList := fun j v hj => by
  rw [Array.getElem?_toList] at hj
  have hlt : j < 2048 := by
    have := (Array.getElem?_eq_some_iff.1 hj).1
    simp [h.size] at this
    omega
  rw [hb.cell, ← hj, ext_get (by rw [h.size]; omega)]
theorem extract2 {cs : Array Value} {k : Nat} {a b : Value} (h0 : cs[k * 2]? = some a) (h1 : cs[k * 2 + 1]? = some b) : cs.extract (k * 2) (k * 2 + 2) = #[a, b] := by
  have hs := (Array.getElem?_eq_some_iff.1 h1).1
  apply Array.ext_getElem?
  intro i
  by_cases hi : i < 2
  · rw [ext_get (by omega)]
    rcases (show i = 0 ∨ i = 1 by omega) with rfl | rfl
    · exact h0
    · exact h1
  · rw [Array.getElem?_eq_none (by simp; omega), Array.getElem?_eq_none (by simp; omega)]
/-- what a list of spans and an error look like that are handed back -/
def SpE (r : List Sp × Int) (w : World) (e : Ending) (w' : World) : Prop := ∃ (A : Option Addr) (cap : Nat), e = .returned (.tuple #[.slice A r.1.length cap, .int .i64 r.2]) ∧ RU w' w'.heap.size A r.1 ∧ r.1.length ≤ cap ∧ cap ≤ maxLen ∧ Below w.heap.size w w'
theorem SpE.err {w w' : World} {c : Int} (hb : Below w.heap.size w w') : SpE ([], c) w (.returned (.tuple #[.slice none 0 0, .int .i64 c])) w' := ⟨none, 0, rfl, RU.nil, Nat.le_refl _, by unfold maxLen; omega, hb⟩
end Go.Pol
namespace Go.Proofs.YtefnnfcfigcikaaGreat
open Go Go.Proofs Go.RowKit Go.Pol Go.Shelf
attribute [local go_sem] Oper.semAt_some Go.Pol.wide_fn Go.Pol.wide_depth Go.Pol.wide_fn' Go.Pol.wide_depth'

theorem idx_pg (cs : Array Value) (cm lv : Nat → Bool) (h : PgsAre cs cm lv) (k : Nat) (hk : k < 1024) (W : World) : (Instr.index 157 (.agg cs) (.int .i64 k)).run Tryz.prog W = .ok (.agg #[.bool (cm k), .bool (lv k)]) W := by
  have u := Tryz.underlying157
  have a3 := Tryz.isAgg155
  have z3 := Tryz.sizeOf155
  obtain ⟨h0, h1⟩ := h.at_ k hk
  have he := extract2 h0 h1
  have hb : 0 ≤ (k : Int) ∧ (k : Int) < 1024 := by omega
  unfold Instr.index
  simp only [Sem.run_bind, run_underlying u, Result.andThen_ok]
  simp [part, asIntOf, a3, z3, Result.andThen, hb, he]

set_option maxRecDepth 100000 in
set_option maxHeartbeats 3200000 in
theorem choose_any (S : Value) (C L : List Sp) (H : List Int) (n : Int) (ord : List Gp) (w : World) (hS : StIs w S C L H) (hso : SortsTo ((gsH C L H).filter hugeP) ord) (hperm : ord.Perm ((gsH C L H).filter hugeP)) :
    Calls Tryz.prog 28 #[S, .int .i64 n] w (SpE (chooseA C L H n ord) w) := by
  obtain ⟨A1, A2, A3, n1, c1, n2, c2, n3, c3, rfl, h1, h2, h3, h4, h5, h6, h7, h8, h9⟩ := hS.ex
  have hb0 := (Below.refl w.heap.size w).alloc (Nat.le_refl _) (.cells #[.slice A1 n1 c1, .slice A2 n2 c2, .slice A3 n3 c3] 52)
  have k0 := Blk.new w 52 #[.slice A1 n1 c1, .slice A2 n2 c2, .slice A3 n3 c3]
  have c0 := k0.cell
  have HO := Lib.hid (open_any A1 A2 A3 n1 c1 n2 c2 n3 c3 C L H _ h1 h2 (h3.on hb0) h4 h5 (h6.on hb0) h7 h8 (RI.on h9 hb0))
  obtain ⟨s, hs⟩ : ∃ s, w.heap.size = s := ⟨_, rfl⟩
  obtain ⟨hv, hhv⟩ : ∃ hv, haveF (gsH C L H) = hv := ⟨_, rfl⟩
  obtain ⟨ct, hct⟩ : ∃ ct, cutH n hv ord = ct := ⟨_, rfl⟩
  have hA0 : chooseA C L H n ord = if chkH C L H ≠ 0 then ([], chkH C L H) else if n < 0 ∨ 1024 < n then ([], 2) else if hv + idleG ct < n then ([], 4) else (setOf (onesF (firH n C L H (numsF ct) 1024)), 0) := by
    rw [← hct, ← hhv]; rfl
  have hA := Lib.hid hA0
  clear hA0
  generalize chooseA C L H n ord = R at *
  generalize hER : chkH C L H = er at *
  have hER' := Lib.hid hER
  have hct' := Lib.hid hct
  have hhv' := Lib.hid hhv
  have hgs := Lib.hid (show gpsOf (fun g => (g : Int)) (fun g => grpF C (g : Int)) (fun g => grpF L (g : Int)) (fun g => decide ((g : Int) ∈ H)) = gsH C L H from rfl)
  have hso' := Lib.hid hso
  have hperm' := Lib.hid hperm
  clear h1 h2 h3 h4 h5 h6 h7 h8 h9 hS hER hct hhv k0 hso hperm
  go_enter Tryz.func28, Tryz.ntmps28
  go_wp2_with fail
  refine HO.out.mono ?_
  rintro e w1 ⟨hb1, he, hz⟩
  have B1 := hb0.trans (hb1.mono hb0.size)
  rw [hER'.out] at he hz
  by_cases h0 : er = 0
  case neg =>
    obtain rfl := he h0
    have h0' : (er != 0) = true := by simpa using h0
    have hA' : Hid (R = ([], er)) := Lib.hid (by rw [hA.out, if_pos h0])
    clear hA h0 he hz
    go_wp2_with fail
    go_ret2
    rw [hA'.out]
    exact SpE.err B1
  case pos =>
    obtain ⟨b, cs, rfl, hbs, kL, hcs⟩ := hz h0
    have hA1 : Hid (R = if n < 0 ∨ 1024 < n then ([], 2) else if hv + idleG ct < n then ([], 4) else (setOf (onesF (firH n C L H (numsF ct) 1024)), 0)) := Lib.hid (by rw [hA.out, if_neg (by simp [h0])])
    clear hA he hz h0
    by_cases hl0 : n < 0
    · have hl0' : decide (n < 0) = true := by simpa using hl0
      have hA2 : Hid (R = ([], 2)) := Lib.hid (by rw [hA1.out, if_pos (.inl hl0)])
      clear hA1 hl0
      go_wp2_with fail
      go_ret2
      rw [hA2.out]
      exact SpE.err B1
    have hl0' : decide (n < 0) = false := by simpa using hl0
    by_cases hl1 : 1024 < n
    · have hl1' : decide (1024 < n) = true := by simpa using hl1
      have hA2 : Hid (R = ([], 2)) := Lib.hid (by rw [hA1.out, if_pos (.inr hl1)])
      clear hA1 hl0 hl1
      go_wp2_with fail
      go_ret2
      rw [hA2.out]
      exact SpE.err B1
    have hl1' : decide (1024 < n) = false := by simpa using hl1
    have hA2 : Hid (R = if hv + idleG ct < n then ([], 4) else (setOf (onesF (firH n C L H (numsF ct) 1024)), 0)) := Lib.hid (by rw [hA1.out, if_neg (by omega)])
    clear hA1
    have hsb : s < b := by have := hbs; rw [World.size_alloc, hs] at this; omega
    have hra := hcs.rangeAt kL
    have hG := hcs.groups
    rw [hgs.out] at hG
    have hlen := hG.len
    have hsz2 := hG.size
    generalize cs.extract 2048 2304 = ds at *
    have hidx := Lib.hid (fun k hk W => idx_grp ds (gsH C L H) hG k hk W)
    clear hG
    go_wp2_with (refine wpList_load_mid rfl 158 (.tmp 33) rfl b 2048 rfl ds.toList _ hra Tryz.underlying158 rfl (by rw [Array.length_toList, hsz2]; kernel_rfl) ?_; rw [Array.toArray_toList])
    clear hra
    have hbd := Lib.hid (fun x (h : x ∈ gsH C L H) => gsH_bounds h)
    generalize hGS : gsH C L H = gs at *
    have hGS' := Lib.hid hGS
    clear hGS
    go_loopw [8, 35] (fun v i wr => ∃ k : Nat, k ≤ 64 ∧ i = .int .i64 k ∧ v = .int .i64 (haveF (gs.take k)) ∧ Below w1.heap.size w1 wr) (fun _ i _ => 64 - (intOf i).toNat)
    case atStart => exact ⟨0, by omega, rfl, by simp [haveF], Below.refl _ _⟩
    case round =>
      obtain ⟨k, hk, rfl, hvv, hB⟩ := hrel
      have hbnd := haveF_bound (gs.take k) (fun x hx => hbd.out x (List.mem_of_mem_take hx))
      rw [List.length_take] at hbnd
      by_cases hlt : k < 64
      · as_aux_lemma =>
          have hlt' : decide ((k : Int) < 64) = true := by rw [decide_eq_true_eq]; omega
          have hts := Lib.hid (take_snocG gs k (by omega))
          have hix := fun W => hidx.out k hlt W
          have hsn := Lib.hid (haveF_snoc (gs.take k) (gs.getD k gp0))
          have hxb := hbd.out (gs.getD k gp0) (by rw [List.getD_eq_getElem?_getD, List.getElem?_eq_getElem (by omega)]; exact List.getElem_mem _)
          rw [← hts.out] at hsn
          generalize haveF (gs.take k) = hk0 at *
          generalize gs.getD k gp0 = x at *
          obtain ⟨xn, xc, xl, xh⟩ := x
          unfold gV at hix
          dsimp only at hix hsn hxb
          have kX := Blk.new wr 151 #[.int .i64 xn, .int .i64 xc, .int .i64 xl, .bool xh]
          have cX := kX.cell
          have hBX := hB.alloc hB.size (.cells #[.int .i64 xn, .int .i64 xc, .int .i64 xl, .bool xh] 151)
          subst hvv
          cases xh with
          | true =>
            have hsn2 : Hid (haveF (gs.take (k + 1)) = hk0) := Lib.hid (by rw [hsn.out]; simp)
            clear hsn hts
            go_wp2_with fail
            go_roundw
            case rel => exact ⟨k + 1, by omega, by go_num, by rw [hsn2.out], hBX⟩
            case measure => simp [intOf]; omega
          | false =>
            have hsn2 : Hid (haveF (gs.take (k + 1)) = hk0 + (xc - xl)) := Lib.hid (by rw [hsn.out]; simp)
            clear hsn hts
            go_wp2_with fail
            go_roundw
            case rel => exact ⟨k + 1, by omega, by go_num, by rw [hsn2.out], hBX⟩
            case measure => simp [intOf]; omega
      · obtain rfl : k = 64 := by omega
        have hlt' : decide (((64 : Nat) : Int) < 64) = false := by decide
        have hT : gs.take 64 = gs := List.take_of_length_le (by omega)
        rw [hT, hhv'.out] at hvv hbnd
        subst hvv
        clear hT
        have HS := Lib.hid (some_any b 70 wr)
        have kQ := heap_two wr 143 149 (.pointer (some ⟨b, 0, none⟩)) (.func (.func 70) #[] #[])
        obtain ⟨Bo, hBo⟩ : ∃ Bo, wr.heap.size = Bo := ⟨_, rfl⟩
        rw [hBo] at kQ HS
        have kLr := kL.call hB
        have hs1 := hB.size
        have hbB := kLr.lt
        rw [hBo] at hbB
        go_wp2_with fail
        refine HS.out.mono ?_
        rintro e w3 ⟨rfl, hw3⟩
        obtain ⟨q1, q2, q3, q4⟩ := kQ
        rw [← hw3] at q1 q2 q3 q4
        rw [← hBo] at q3
        clear hw3 HS
        have kL3 := kLr.call q3
        have B3 := B1.trans ((hB.trans (q3.mono hB.size)).mono (by have := B1.size; omega))
        have hsq := some1_seq hugeP 70 b Bo (Bo + 1) cs gs _ _ _ _ _ _ (fun k => k = b ∨ k = Bo ∨ k = Bo + 1) w3 (.inl rfl) (.inr (.inl rfl)) (.inr (.inr rfl)) kL3 q1 q2 hcs hgs.out (enters_of Tryz.func70 (by kernel_rfl) rfl) (fun x W => huge_any x W)
        have hxl : (gs.filter hugeP).length ≤ 64 := by
          have := List.length_filter_le hugeP gs
          omega
        have HT := Lib.hid (sortedStableG_any ord _ _ _ _ w3 (by omega) hso'.out hsq some1_enters (fun k hk => by omega))
        have hol : ord.length = (gs.filter hugeP).length := hperm'.out.length_eq
        have hob := Lib.hid (fun x (hx : x ∈ ord) => (List.mem_filter.1 (hperm'.out.mem_iff.1 hx)).1)
        rw [← hol] at HT hxl
        obtain ⟨ol, holl⟩ : ∃ ol, ord.length = ol := ⟨_, rfl⟩
        rw [holl] at HT hxl
        clear q1 q2 q3 kLr hsq hol hB hb1 kL hbs hidx
        go_wp2_with fail
        refine HT.out.mono ?_
        rintro e w4 ⟨A4, c4, rfl, hrg, hA4, hb4⟩
        have kL4 := kL3.call hb4
        have B4 := B3.trans (hb4.mono (by have := B3.size; omega))
        have hs4 := hb4.size
        clear HT hb4 kL3 B3
        go_wp2_with fail
        go_loopw [8, 54] (fun v i wr => ∃ (k : Nat) (es : Array Value), k ≤ ol ∧ i = .int .i64 k ∧ v = .int .i64 (hv + idleG (ord.take k)) ∧ Far (fun g => g = b) w4 wr ∧ Blk wr b 160 es ∧
          Hid (LookIs es (fun p => mem (p : Int) C) (fun p => mem (p : Int) L) (fun g => (g : Int)) (fun g => grpF C (g : Int)) (fun g => grpF L (g : Int)) (fun g => decide ((g : Int) ∈ H) && !decide ((g : Int) ∈ numsF (ord.take k)))) ∧
          Hid (cutH n hv ord = ord.take k ++ cutH n (hv + idleG (ord.take k)) (ord.drop k))) (fun _ i _ => ol - (intOf i).toNat)
        case atStart => exact ⟨0, cs, by omega, rfl, by simp [idleG], Far.refl _ _, kL4, Lib.hid (by simpa [numsF] using hcs), Lib.hid (by simp [idleG])⟩
        case round =>
          obtain ⟨k, es, hk, rfl, hvv, hF4, kLk, hlk, hck⟩ := hrel
          clear kL4
          have Br := B4.trans (hF4.below (by have := B4.size; omega) (fun g hg => by omega))
          have hib := idleG_bound (ord.take k) (fun x hx => by have := hbd.out x (hob.out x (List.mem_of_mem_take hx)); omega)
          rw [List.length_take] at hib
          by_cases hlt : k < ol
          · have hlt' : decide ((k : Int) < (ol : Int)) = true := by simpa using hlt
            by_cases hbr : n ≤ hv + idleG (ord.take k)
            · as_aux_lemma =>
                have hbr' : decide (n ≤ hv + idleG (ord.take k)) = true := by simpa using hbr
                have hT : ct = ord.take k := by rw [← hct'.out, hck.out, cutH_nil hbr, List.append_nil]
                have hge' : decide (hv + idleG (ord.take k) < n) = false := by simp; omega
                have hA3 : Hid (R = (setOf (onesF (firH n C L H (numsF (ord.take k)) 1024)), 0)) := Lib.hid (by rw [hA2.out, hT, if_neg (by omega)])
                have hdr : ∃ x, x = ord.getD k gp0 := ⟨_, rfl⟩
                have hmem : ord.getD k gp0 ∈ ord := by rw [List.getD_eq_getElem?_getD, List.getElem?_eq_getElem (by omega)]; exact List.getElem_mem _
                obtain ⟨qb, qo, rfl, hqb, d0, d1, d2, d3⟩ := hrg k (by omega)
                have hqn : w3.heap.size ≤ qb := hA4 _ _ rfl
                replace d0 := hF4.cell d0 (by simp; omega)
                replace d1 := hF4.cell d1 (by simp; omega)
                replace d2 := hF4.cell d2 (by simp; omega)
                replace d3 := hF4.cell d3 (by simp; omega)
                generalize hTT : numsF (ord.take k) = T at *
                generalize idleG (ord.take k) = ig at *
                generalize ord.getD k gp0 = x at *
                obtain ⟨xn, xc, xl, xh⟩ := x
                dsimp only at d0 d1 d2 d3
                have hlk2 := hlk.out
                have hbX : Below wr.heap.size wr (wr.alloc (.cells #[.int .i64 xn, .int .i64 xc, .int .i64 xl, .bool xh] 151)) := (Below.refl _ _).alloc (Nat.le_refl _) _
                have kL5 := kLk.call hbX
                have B5 := Br.trans (hbX.mono (by have := Br.size; omega))
                clear hck hT hdr hmem hTT hlk hA2 hrg hA4
                subst hvv
                go_upto_region 17 with fail
                generalize wr.alloc (.cells #[.int .i64 xn, .int .i64 xc, .int .i64 xl, .bool xh] 151) = w5 at *
                have hPg := hlk2.pages
                have hra := hlk2.rangeAtP kL5
                have hsz9 := hPg.size
                generalize es.extract 0 2048 = ps at *
                have hidp := Lib.hid (fun k hk W => idx_pg ps _ _ hPg k hk W)
                have hgh := Lib.hid (fun q hq => hlk2.gh q hq)
                clear hPg hlk2
                obtain ⟨j0, hi, hz0, hz1, hz2⟩ := infoSp_parts
                go_wp2_with (refine wpList_load_mid rfl 157 (.tmp 79) rfl b 0 rfl ps.toList _ hra Tryz.underlying157 rfl (by rw [Array.length_toList, hsz9]; kernel_rfl) ?_; rw [Array.toArray_toList])
                clear hra
                go_loopw [1, 14, 81] (fun v1 v14 i wr => ∃ (k : Nat) (l : List Nat), k ≤ 1024 ∧ i = .int .i64 k ∧ Hid (firH n C L H T k = l) ∧ (l.length : Int) ≤ n ∧ l.length ≤ k ∧ v1 = .int .i64 (n - l.length) ∧ wr.ownsRow w5.heap.size 134 2 v14 l.length (spCells (onesF l)) ∧ Below w5.heap.size w5 wr) (fun _ _ i _ => 1024 - (intOf i).toNat)
                case atStart => exact ⟨0, [], by omega, rfl, Lib.hid (by simp [firH]), by simp; omega, by simp, by simp, World.ownsRow_nil _ _ _ _, Below.refl _ _⟩
                case round =>
                  obtain ⟨k, l, hk, rfl, hfl, hln, hlk, rfl, hrow, hB⟩ := hrel
                  by_cases hlt : k < 1024
                  · have hlt' : decide ((k : Int) < 1024) = true := by rw [decide_eq_true_eq]; omega
                    have hix := fun W => hidp.out k hlt W
                    have hsu := Lib.hid (firH_succ n (by omega) C L H T k)
                    rw [hfl.out] at hsu
                    have kLr := kL5.call hB
                    obtain ⟨q, hq⟩ : ∃ q, k / 16 = q := ⟨_, rfl⟩
                    have hq' : ((k : Int) / 16) = (q : Int) := by omega
                    have hq64 : q < 64 := by omega
                    have c5 := (kLr.cell (2048 + q * 4 + 3)).trans (hgh.out q hq64)
                    have hfr : Hid (freeP C L H T k = (mem (k : Int) C && !mem (k : Int) L && !(decide ((q : Int) ∈ H) && !decide ((q : Int) ∈ T)))) := Lib.hid (by rw [freeP, hq'])
                    obtain ⟨c9, hc9⟩ : ∃ c9, mem (k : Int) C = c9 := ⟨_, rfl⟩
                    obtain ⟨l9, hl9⟩ : ∃ l9, mem (k : Int) L = l9 := ⟨_, rfl⟩
                    obtain ⟨g9, hg9⟩ : ∃ g9, (decide ((q : Int) ∈ H) && !decide ((q : Int) ∈ T)) = g9 := ⟨_, rfl⟩
                    rw [hg9] at c5 hfr
                    rw [hc9, hl9] at hfr
                    rw [hc9, hl9] at hix
                    clear hc9 hl9 hg9
                    obtain ⟨ll, hll⟩ : ∃ ll, l.length = ll := ⟨_, rfl⟩
                    rw [hll] at hrow hln hlk hsu ⊢
                    have kX := Blk.new wr 155 #[.bool c9, .bool l9]
                    have cX := kX.cell
                    have hbX : Below wr.heap.size wr (wr.alloc (.cells #[.bool c9, .bool l9] 155)) := (Below.refl _ _).alloc (Nat.le_refl _) _
                    have c5X := ((kLr.call hbX).cell (2048 + q * 4 + 3)).trans ((kLr.cell (2048 + q * 4 + 3)).symm.trans c5)
                    by_cases hpos : (ll : Int) < n
                    case neg =>
                      have hpos' : decide (0 < n - (ll : Int)) = false := by simp; omega
                      have hsu2 : Hid (firH n C L H T (k + 1) = l) := Lib.hid (by rw [hsu.out, decide_eq_false hpos]; rfl)
                      clear hsu hfl hfr hidp hgh
                      go_wp2_with fail
                      go_roundw
                      case rel => exact ⟨k + 1, l, by omega, by go_num, hsu2, by omega, by omega, by rw [hll], by rw [hll]; exact ownsRow_call hrow hbX, hB.trans (hbX.mono hB.size)⟩
                      case measure => simp [intOf]; omega
                    case pos =>
                      have hpos' : decide (0 < n - (ll : Int)) = true := by simp; omega
                      cases c9 with
                      | false =>
                        have hsu2 : Hid (firH n C L H T (k + 1) = l) := Lib.hid (by rw [hsu.out, hfr.out]; simp)
                        clear hsu hfl hfr hidp hgh
                        go_wp2_with fail
                        go_roundw
                        case rel => exact ⟨k + 1, l, by omega, by go_num, hsu2, by omega, by omega, by rw [hll], by rw [hll]; exact ownsRow_call hrow hbX, hB.trans (hbX.mono hB.size)⟩
                        case measure => simp [intOf]; omega
                      | true =>
                        cases l9 with
                        | true =>
                          have hsu2 : Hid (firH n C L H T (k + 1) = l) := Lib.hid (by rw [hsu.out, hfr.out]; simp)
                          clear hsu hfl hfr hidp hgh
                          go_wp2_with fail
                          go_roundw
                          case rel => exact ⟨k + 1, l, by omega, by go_num, hsu2, by omega, by omega, by rw [hll], by rw [hll]; exact ownsRow_call hrow hbX, hB.trans (hbX.mono hB.size)⟩
                          case measure => simp [intOf]; omega
                        | false =>
                          cases g9 with
                          | true =>
                            have hsu2 : Hid (firH n C L H T (k + 1) = l) := Lib.hid (by rw [hsu.out, hfr.out]; simp)
                            clear hsu hfl hfr hidp hgh
                            go_wp2_with fail
                            go_roundw
                            case rel => exact ⟨k + 1, l, by omega, by go_num, hsu2, by omega, by omega, by rw [hll], by rw [hll]; exact ownsRow_call hrow hbX, hB.trans (hbX.mono hB.size)⟩
                            case measure => simp [intOf]; omega
                          | false =>
                            have hsu2 : Hid (firH n C L H T (k + 1) = l ++ [k]) := Lib.hid (by rw [hsu.out, hfr.out, decide_eq_true hpos]; rfl)
                            clear hsu hfl hfr hidp hgh
                            go_upto_region 28 with fail
                            have hrow6 := ownsRow_call hrow hbX
                            have hsX := hbX.size
                            generalize wr.alloc (.cells #[.bool true, .bool false] 155) = w6 at *
                            have kN := Blk.new w6 134 #[.int .i64 (k : Int), .int .i64 1]
                            have hB6 := hB.trans (hbX.mono hB.size)
                            have hbN : Below w6.heap.size w6 (w6.alloc (.cells #[.int .i64 (k : Int), .int .i64 1] 134)) := (Below.refl _ _).alloc (Nat.le_refl _) _
                            go_wp2_with (refine wpList_append_own _ rfl (.tmp 107) (.tmp 110) 42 rfl w5.heap.size 134 j0 (.agg #[.int .i64 0, .int .i64 0]) 2 16 Tryz.underlying42 hi hz0 hz1 hz2 rfl (by decide) _ ll (spCells (onesF l)) rfl (hrow6.alloc _) ⟨w6.heap.size, 0, none⟩ 1 1 [.int .i64 (k : Int), .int .i64 1] rfl rfl (news_two kN) news_one2 (by unfold maxLen; omega) (by omega) (by have := hB6.size; simp; omega) ?_; intro v' w7 hown' hgrow _)
                            go_roundw
                            case rel => exact ⟨k + 1, l ++ [k], by omega, by go_num, hsu2, by rw [List.length_append, List.length_singleton, hll]; omega, by rw [List.length_append, List.length_singleton, hll]; omega, by rw [List.length_append, List.length_singleton, hll]; congr 1; omega, by rw [List.length_append, List.length_singleton, hll, onesF_snoc, spCells_snoc]; exact hown', (hB6.trans (hbN.mono hB6.size)).grown hgrow (by have := hB6.size; simp; omega) (fun g hg => by have := (hrow6.lt g hg).1; omega)⟩
                            case measure => simp [intOf]; omega
                  · obtain rfl : k = 1024 := by omega
                    have hlt' : decide (((1024 : Nat) : Int) < 1024) = false := by decide
                    have hA4 : Hid (R = (setOf (onesF l), 0)) := Lib.hid (by rw [hA3.out, hfl.out])
                    have hok : ofE (onesF l) = 0 := by rw [← hfl.out]; exact ones_ok
                    have hol2 : (onesF l).length = l.length := by simp [onesF]
                    obtain ⟨A7, c7, rfl, hru, _⟩ := own_RU hrow hol2
                    have HOf := Lib.hid (ofTop_any A7 l.length c7 (onesF l) wr hol2 (by unfold maxLen; omega) hru)
                    rw [hok, if_pos rfl] at HOf
                    have B7 := B5.trans (hB.mono (by have := B5.size; omega))
                    clear hfl hA3 hidp hgh hok hrow hru hol2
                    generalize setOf (onesF l) = G at *
                    go_wp2_with fail
                    refine HOf.out.mono ?_
                    rintro e w8 ⟨A8, c8, rfl, hru8, hg1, hg2, _, hb8, _⟩
                    go_wp2_with fail
                    go_ret2
                    rw [hA4.out]
                    exact ⟨A8, c8, rfl, hru8, hg1, hg2, B7.trans (hb8.mono (by have := B7.size; omega))⟩
            · as_aux_lemma =>
                have hts := take_snocG ord k (by omega)
                have hdr : ord.drop k = ord.getD k gp0 :: ord.drop (k + 1) := Go.Pol.drop_cons gp0 ord k (by omega)
                have hmem : ord.getD k gp0 ∈ ord := by rw [List.getD_eq_getElem?_getD, List.getElem?_eq_getElem (by omega)]; exact List.getElem_mem _
                have hxb := hbd.out _ (hob.out _ hmem)
                have hxn := gsH_num (by rw [hGS'.out]; exact hob.out _ hmem : ord.getD k gp0 ∈ gsH C L H)
                have hsn := idleG_snoc (ord.take k) (ord.getD k gp0)
                rw [← hts] at hsn
                have hck1 := hck.out
                rw [hdr, cutH, if_neg hbr] at hck1
                obtain ⟨qb, qo, rfl, hqb, d0, d1, d2, d3⟩ := hrg k (by omega)
                have hqn : w3.heap.size ≤ qb := hA4 _ _ rfl
                replace d0 := hF4.cell d0 (by simp; omega)
                replace d1 := hF4.cell d1 (by simp; omega)
                replace d2 := hF4.cell d2 (by simp; omega)
                replace d3 := hF4.cell d3 (by simp; omega)
                have hnm := numsF_snoc (ord.take k) (ord.getD k gp0)
                rw [← hts] at hnm
                generalize idleG (ord.take k) = ig at *
                generalize ord.getD k gp0 = x at *
                obtain ⟨xn, xc, xl, xh⟩ := x
                dsimp only at d0 d1 d2 d3 hsn hxb hxn hnm hck1
                obtain ⟨gn, rfl⟩ : ∃ gn : Nat, xn = (gn : Int) := ⟨xn.toNat, by omega⟩
                have hck2 : Hid (cutH n hv ord = ord.take (k + 1) ++ cutH n (hv + idleG (ord.take (k + 1))) (ord.drop (k + 1))) := Lib.hid (by
                  rw [hck1, hsn, hts, List.append_assoc, List.singleton_append, Int.add_assoc])
                have hset := hlk.out.gh_ (p := gn) (by omega) false
                rw [upd_taken, ← hnm] at hset
                have hset' := Lib.hid hset
                have c5 := (hlk.out.gh gn (by omega))
                have hsn2 := Lib.hid hsn
                have kX := Blk.new wr 151 #[.int .i64 (gn : Int), .int .i64 xc, .int .i64 xl, .bool xh]
                have cX := kX.cell
                have hbX : Below wr.heap.size wr (wr.alloc (.cells #[.int .i64 (gn : Int), .int .i64 xc, .int .i64 xl, .bool xh] 151)) := (Below.refl _ _).alloc (Nat.le_refl _) _
                have kL5 := kLk.call hbX
                have hbr' : decide (n ≤ hv + ig) = false := by simpa using hbr
                clear hset hts hdr hck hck1 hlk hnm hsn hrg hA4 hmem
                subst hvv
                go_upto_region 19 with fail
                generalize wr.alloc (.cells #[.int .i64 (gn : Int), .int .i64 xc, .int .i64 xl, .bool xh] 151) = w5 at *
                have hcX : ∀ z : Ext w5, _ := fun z => (z.blk kX).cell
                refine region_ext_tail 7 (by kernel_rfl) (by kernel_rfl) ?_
                simp only [List.take_succ_cons, List.take_zero, List.drop_succ_cons, List.drop_zero]
                repeat (go_big_quiet_step (fail))
                refine wpQuiet_nil ?_
                intro z
                have kLz := z.blk kL5
                have fz := kLz.frozen
                have cz := (kLz.cell (2048 + gn * 4 + 3)).trans c5
                clear hcX c5 cX
                go_wp2_with fail
                have hf2 : Far (fun g => g = b) w5 (z.w.setCell ⟨b, 2048 + gn * 4 + 3, none⟩ (.bool false)) := Far.setCell (T := fun g => g = b) (p := ⟨b, 2048 + gn * 4 + 3, none⟩) (.of_below z.le) (fun _ => rfl) _
                go_roundw
                case rel => exact ⟨k + 1, _, by omega, by go_num, by rw [hsn2.out, Int.add_assoc], hF4.trans ((Far.of_below hbX).trans hf2), kLz.set_ (2048 + gn * 4 + 3) (.bool false), hset', hck2⟩
                case measure => simp [intOf]; omega
          · obtain rfl : k = ol := by omega
            have hlt' : decide ((k : Int) < (k : Int)) = false := by simp
            have hT : ct = ord.take k := by rw [← hct'.out, hck.out, List.drop_of_length_le (by omega), cutH, List.append_nil]
            by_cases hge : hv + idleG (ord.take k) < n
            · as_aux_lemma =>
                have hge' : decide (hv + idleG (ord.take k) < n) = true := by simpa using hge
                have hA3 : Hid (R = ([], 4)) := Lib.hid (by rw [hA2.out, hT, if_pos hge])
                generalize idleG (ord.take k) = ig at *
                clear hck hT hlk hA2 hrg hA4
                subst hvv
                go_wp2_with fail
                go_ret2
                rw [hA3.out]
                exact SpE.err Br
            · as_aux_lemma =>
                have hge' : decide (hv + idleG (ord.take k) < n) = false := by simpa using hge
                have hA3 : Hid (R = (setOf (onesF (firH n C L H (numsF (ord.take k)) 1024)), 0)) := Lib.hid (by rw [hA2.out, hT, if_neg hge])
                generalize hTT : numsF (ord.take k) = T at *
                generalize idleG (ord.take k) = ig at *
                have hlk2 := hlk.out
                have kL5 := kLk
                have B5 := Br
                clear hck hT hTT hlk hA2 hrg hA4
                subst hvv
                obtain ⟨w5, hw5⟩ : ∃ w5, wr = w5 := ⟨_, rfl⟩
                rw [hw5] at kL5 B5 ⊢
                clear hw5
                have hPg := hlk2.pages
                have hra := hlk2.rangeAtP kL5
                have hsz9 := hPg.size
                generalize es.extract 0 2048 = ps at *
                have hidp := Lib.hid (fun k hk W => idx_pg ps _ _ hPg k hk W)
                have hgh := Lib.hid (fun q hq => hlk2.gh q hq)
                clear hPg hlk2
                obtain ⟨j0, hi, hz0, hz1, hz2⟩ := infoSp_parts
                go_wp2_with (refine wpList_load_mid rfl 157 (.tmp 79) rfl b 0 rfl ps.toList _ hra Tryz.underlying157 rfl (by rw [Array.length_toList, hsz9]; kernel_rfl) ?_; rw [Array.toArray_toList])
                clear hra
                go_loopw [1, 14, 81] (fun v1 v14 i wr => ∃ (k : Nat) (l : List Nat), k ≤ 1024 ∧ i = .int .i64 k ∧ Hid (firH n C L H T k = l) ∧ (l.length : Int) ≤ n ∧ l.length ≤ k ∧ v1 = .int .i64 (n - l.length) ∧ wr.ownsRow w5.heap.size 134 2 v14 l.length (spCells (onesF l)) ∧ Below w5.heap.size w5 wr) (fun _ _ i _ => 1024 - (intOf i).toNat)
                case atStart => exact ⟨0, [], by omega, rfl, Lib.hid (by simp [firH]), by simp; omega, by simp, by simp, World.ownsRow_nil _ _ _ _, Below.refl _ _⟩
                case round =>
                  obtain ⟨k, l, hk, rfl, hfl, hln, hlk, rfl, hrow, hB⟩ := hrel
                  by_cases hlt : k < 1024
                  · have hlt' : decide ((k : Int) < 1024) = true := by rw [decide_eq_true_eq]; omega
                    have hix := fun W => hidp.out k hlt W
                    have hsu := Lib.hid (firH_succ n (by omega) C L H T k)
                    rw [hfl.out] at hsu
                    have kLr := kL5.call hB
                    obtain ⟨q, hq⟩ : ∃ q, k / 16 = q := ⟨_, rfl⟩
                    have hq' : ((k : Int) / 16) = (q : Int) := by omega
                    have hq64 : q < 64 := by omega
                    have c5 := (kLr.cell (2048 + q * 4 + 3)).trans (hgh.out q hq64)
                    have hfr : Hid (freeP C L H T k = (mem (k : Int) C && !mem (k : Int) L && !(decide ((q : Int) ∈ H) && !decide ((q : Int) ∈ T)))) := Lib.hid (by rw [freeP, hq'])
                    obtain ⟨c9, hc9⟩ : ∃ c9, mem (k : Int) C = c9 := ⟨_, rfl⟩
                    obtain ⟨l9, hl9⟩ : ∃ l9, mem (k : Int) L = l9 := ⟨_, rfl⟩
                    obtain ⟨g9, hg9⟩ : ∃ g9, (decide ((q : Int) ∈ H) && !decide ((q : Int) ∈ T)) = g9 := ⟨_, rfl⟩
                    rw [hg9] at c5 hfr
                    rw [hc9, hl9] at hfr
                    rw [hc9, hl9] at hix
                    clear hc9 hl9 hg9
                    obtain ⟨ll, hll⟩ : ∃ ll, l.length = ll := ⟨_, rfl⟩
                    rw [hll] at hrow hln hlk hsu ⊢
                    have kX := Blk.new wr 155 #[.bool c9, .bool l9]
                    have cX := kX.cell
                    have hbX : Below wr.heap.size wr (wr.alloc (.cells #[.bool c9, .bool l9] 155)) := (Below.refl _ _).alloc (Nat.le_refl _) _
                    have c5X := ((kLr.call hbX).cell (2048 + q * 4 + 3)).trans ((kLr.cell (2048 + q * 4 + 3)).symm.trans c5)
                    by_cases hpos : (ll : Int) < n
                    case neg =>
                      have hpos' : decide (0 < n - (ll : Int)) = false := by simp; omega
                      have hsu2 : Hid (firH n C L H T (k + 1) = l) := Lib.hid (by rw [hsu.out, decide_eq_false hpos]; rfl)
                      clear hsu hfl hfr hidp hgh
                      go_wp2_with fail
                      go_roundw
                      case rel => exact ⟨k + 1, l, by omega, by go_num, hsu2, by omega, by omega, by rw [hll], by rw [hll]; exact ownsRow_call hrow hbX, hB.trans (hbX.mono hB.size)⟩
                      case measure => simp [intOf]; omega
                    case pos =>
                      have hpos' : decide (0 < n - (ll : Int)) = true := by simp; omega
                      cases c9 with
                      | false =>
                        have hsu2 : Hid (firH n C L H T (k + 1) = l) := Lib.hid (by rw [hsu.out, hfr.out]; simp)
                        clear hsu hfl hfr hidp hgh
                        go_wp2_with fail
                        go_roundw
                        case rel => exact ⟨k + 1, l, by omega, by go_num, hsu2, by omega, by omega, by rw [hll], by rw [hll]; exact ownsRow_call hrow hbX, hB.trans (hbX.mono hB.size)⟩
                        case measure => simp [intOf]; omega
                      | true =>
                        cases l9 with
                        | true =>
                          have hsu2 : Hid (firH n C L H T (k + 1) = l) := Lib.hid (by rw [hsu.out, hfr.out]; simp)
                          clear hsu hfl hfr hidp hgh
                          go_wp2_with fail
                          go_roundw
                          case rel => exact ⟨k + 1, l, by omega, by go_num, hsu2, by omega, by omega, by rw [hll], by rw [hll]; exact ownsRow_call hrow hbX, hB.trans (hbX.mono hB.size)⟩
                          case measure => simp [intOf]; omega
                        | false =>
                          cases g9 with
                          | true =>
                            have hsu2 : Hid (firH n C L H T (k + 1) = l) := Lib.hid (by rw [hsu.out, hfr.out]; simp)
                            clear hsu hfl hfr hidp hgh
                            go_wp2_with fail
                            go_roundw
                            case rel => exact ⟨k + 1, l, by omega, by go_num, hsu2, by omega, by omega, by rw [hll], by rw [hll]; exact ownsRow_call hrow hbX, hB.trans (hbX.mono hB.size)⟩
                            case measure => simp [intOf]; omega
                          | false =>
                            have hsu2 : Hid (firH n C L H T (k + 1) = l ++ [k]) := Lib.hid (by rw [hsu.out, hfr.out, decide_eq_true hpos]; rfl)
                            clear hsu hfl hfr hidp hgh
                            go_upto_region 28 with fail
                            have hrow6 := ownsRow_call hrow hbX
                            have hsX := hbX.size
                            generalize wr.alloc (.cells #[.bool true, .bool false] 155) = w6 at *
                            have kN := Blk.new w6 134 #[.int .i64 (k : Int), .int .i64 1]
                            have hB6 := hB.trans (hbX.mono hB.size)
                            have hbN : Below w6.heap.size w6 (w6.alloc (.cells #[.int .i64 (k : Int), .int .i64 1] 134)) := (Below.refl _ _).alloc (Nat.le_refl _) _
                            go_wp2_with (refine wpList_append_own _ rfl (.tmp 107) (.tmp 110) 42 rfl w5.heap.size 134 j0 (.agg #[.int .i64 0, .int .i64 0]) 2 16 Tryz.underlying42 hi hz0 hz1 hz2 rfl (by decide) _ ll (spCells (onesF l)) rfl (hrow6.alloc _) ⟨w6.heap.size, 0, none⟩ 1 1 [.int .i64 (k : Int), .int .i64 1] rfl rfl (news_two kN) news_one2 (by unfold maxLen; omega) (by omega) (by have := hB6.size; simp; omega) ?_; intro v' w7 hown' hgrow _)
                            go_roundw
                            case rel => exact ⟨k + 1, l ++ [k], by omega, by go_num, hsu2, by rw [List.length_append, List.length_singleton, hll]; omega, by rw [List.length_append, List.length_singleton, hll]; omega, by rw [List.length_append, List.length_singleton, hll]; congr 1; omega, by rw [List.length_append, List.length_singleton, hll, onesF_snoc, spCells_snoc]; exact hown', (hB6.trans (hbN.mono hB6.size)).grown hgrow (by have := hB6.size; simp; omega) (fun g hg => by have := (hrow6.lt g hg).1; omega)⟩
                            case measure => simp [intOf]; omega
                  · obtain rfl : k = 1024 := by omega
                    have hlt' : decide (((1024 : Nat) : Int) < 1024) = false := by decide
                    have hA4 : Hid (R = (setOf (onesF l), 0)) := Lib.hid (by rw [hA3.out, hfl.out])
                    have hok : ofE (onesF l) = 0 := by rw [← hfl.out]; exact ones_ok
                    have hol2 : (onesF l).length = l.length := by simp [onesF]
                    obtain ⟨A7, c7, rfl, hru, _⟩ := own_RU hrow hol2
                    have HOf := Lib.hid (ofTop_any A7 l.length c7 (onesF l) wr hol2 (by unfold maxLen; omega) hru)
                    rw [hok, if_pos rfl] at HOf
                    have B7 := B5.trans (hB.mono (by have := B5.size; omega))
                    clear hfl hA3 hidp hgh hok hrow hru hol2
                    generalize setOf (onesF l) = G at *
                    go_wp2_with fail
                    refine HOf.out.mono ?_
                    rintro e w8 ⟨A8, c8, rfl, hru8, hg1, hg2, _, hb8, _⟩
                    go_wp2_with fail
                    go_ret2
                    rw [hA4.out]
                    exact ⟨A8, c8, rfl, hru8, hg1, hg2, B7.trans (hb8.mono (by have := B7.size; omega))⟩
theorem choose_anyF (S : Value) (C L : List Sp) (H : List Int) (n : Int) (F : Array Gp → Array Gp) (ord : List Gp) (w : World) (hS : StIs w S C L H) (hF : (gsH C L H).filter hugeP ≠ [] → StabC ((gsH C L H).filter hugeP).length F) (hsz : ∀ d, (F d).size = d.size)
    (hord : (F ((gsH C L H).filter hugeP).toArray).toList = ord) (hperm : ord.Perm ((gsH C L H).filter hugeP)) :
    Calls Tryz.prog 28 #[S, .int .i64 n] w (SpE (chooseA C L H n ord) w) :=
  choose_any S C L H n ord w hS (hord ▸ sorts_of_stab F _ hF hsz) hperm
end Go.Proofs.YtefnnfcfigcikaaGreat
namespace Go.Proofs.YtefnnfcfigcikaaGreat
open Go Go.Proofs Go.RowKit Go.Pol Go.Shelf
attribute [local go_sem] Oper.semAt_some Go.Pol.wide_fn Go.Pol.wide_depth Go.Pol.wide_fn' Go.Pol.wide_depth'

set_option maxHeartbeats 800000 in
theorem asked_any (A : Option Addr) (n cap : Nat) (us : List Sp) (p q : Int) (w : World) (hn : us.length = n) (hm : n ≤ maxLen) (hr : RU w w.heap.size A us) :
    Calls Tryz.prog 114 #[.slice A n cap, .agg #[.int .i64 p, .int .i64 q]] w fun e w' => e = .returned (.int .i64 (askS us (p, q))) ∧ Below w.heap.size w w' := by
  have hb0 := (Below.refl w.heap.size w).alloc (Nat.le_refl _) (.cells #[.int .i64 p, .int .i64 q] 134)
  have k0 := Blk.new w 134 #[.int .i64 p, .int .i64 q]
  have HC := Lib.hid (refSpCheck_any A n cap us _ hn hm (hr.on hb0))
  obtain ⟨R, hR⟩ : ∃ R, askS us (p, q) = R := ⟨_, rfl⟩
  rw [hR]
  have hR' := Lib.hid hR
  clear hR hn
  unfold askS at hR'
  by_cases hc : chkS us = 0
  · rw [if_pos hc] at hR'
    rw [hc] at HC
    clear hc
    by_cases hv : vld (p, q) = true
    · rw [if_pos hv] at hR'
      have hv' : (!vld (p, q)) = false := by simp [hv]
      go_enter Tryz.func114, Tryz.ntmps114
      go_wp2_with fail
      refine HC.out.mono ?_
      rintro e w1 ⟨rfl, hb1⟩
      have k1 := k0.call hb1
      have z1 := k1.cell
      have B1 := hb0.trans (hb1.mono hb0.size)
      go_wp2_with fail
      refine (valid_any _ _ _).mono ?_
      rintro e w2 ⟨rfl, hb2⟩
      go_wp2_with fail
      go_ret
      exact ⟨ret_int hR'.out, B1.trans (hb2.mono B1.size)⟩
    · rw [if_neg hv] at hR'
      have hv' : (!vld (p, q)) = true := by simpa using hv
      clear hv
      go_enter Tryz.func114, Tryz.ntmps114
      go_wp2_with fail
      refine HC.out.mono ?_
      rintro e w1 ⟨rfl, hb1⟩
      have k1 := k0.call hb1
      have z1 := k1.cell
      have B1 := hb0.trans (hb1.mono hb0.size)
      go_wp2_with fail
      refine (valid_any _ _ _).mono ?_
      rintro e w2 ⟨rfl, hb2⟩
      go_wp2_with fail
      go_ret
      exact ⟨ret_int hR'.out, B1.trans (hb2.mono B1.size)⟩
  · rw [if_neg hc] at hR'
    generalize chkS us = er at *
    have hc' : (er == 0) = false := by simpa using hc
    clear hc
    go_enter Tryz.func114, Tryz.ntmps114
    go_wp2_with fail
    refine HC.out.mono ?_
    rintro e w1 ⟨rfl, hb1⟩
    go_wp2_with fail
    go_ret
    exact ⟨ret_int hR'.out, hb0.trans (hb1.mono hb0.size)⟩

set_option maxRecDepth 100000 in
set_option maxHeartbeats 1600000 in
theorem rcount_any (A : Option Addr) (n cap : Nat) (us : List Sp) (xa xb : Int) (w : World) (hn : us.length = n) (hm : n ≤ 1000000) (hr : RU w w.heap.size A us) (hv : ∀ x ∈ us, vld x = true) (hx : vld (xa, xb) = true) :
    Calls Tryz.prog 115 #[.slice A n cap, .agg #[.int .i64 xa, .int .i64 xb]] w fun e w' => e = .returned (.int .i64 (cntF us (xa, xb))) ∧ Below w.heap.size w w' := by
  have hb0 := (Below.refl w.heap.size w).alloc (Nat.le_refl _) (.cells #[.int .i64 xa, .int .i64 xb] 134)
  have k0 := Blk.new w 134 #[.int .i64 xa, .int .i64 xb]
  have HM := Lib.hid (marks_any A n cap us _ hn hm (hr.on hb0) hv)
  have hvx := vld_iff.1 hx
  dsimp only at hvx
  obtain ⟨f, hf⟩ : ∃ f : Int → Bool, (fun q => mem q us) = f := ⟨_, rfl⟩
  have hfm : Hid (∀ q, mem q us = f q) := Lib.hid (fun q => by rw [← hf])
  have hC : Hid (cntF us (xa, xb) = cntN f xb.toNat xa) := Lib.hid (by unfold cntF; rw [hf])
  have hsn := Lib.hid (fun k => cntN_snoc f k xa)
  have hbd := Lib.hid (fun k => cntN_bound f k xa)
  obtain ⟨R, hR⟩ : ∃ R, cntF us (xa, xb) = R := ⟨_, rfl⟩
  rw [hR]
  rw [hR] at hC
  have hZ := zeros_are
  have hzs := hZ.size
  clear hf hv hx hn hR hZ
  obtain ⟨s, hs⟩ : ∃ s, w.heap.size = s := ⟨_, rfl⟩
  rw [hs] at hb0 k0
  go_enter Tryz.func115, Tryz.ntmps115
  try simp only [hs]
  go_wp2_with fail
  refine HM.out.mono ?_
  rintro e w1 ⟨cs, rfl, hMA, hb1⟩
  have k1 := k0.call hb1
  have B1 := hb0.trans (hb1.mono (by have := hb0.size; omega))
  have hsz := hMA.size
  have hone := hMA.one
  have kZ := Blk.new w1 152 Tryz.zeroCells152
  have hth := blk_there kZ
  have hs1 := k1.lt
  have hat := hMA.at_
  clear HM
  go_upto_region 2 with (refine wpList_store_mid rfl 152 (.tmp 5) (.tmp 9) rfl w1.heap.size 0 cs rfl rfl (by rw [hsz, ← hzs]; exact hth) (by rw [hsz]; kernel_rfl) hone ?_)
  have hrg := World.rangeAt_setCells_same (w1.alloc (.cells Tryz.zeroCells152 152)) w1.heap.size 0 cs.toList (by rw [Array.length_toList, hsz, ← hzs]; exact hth)
  have hbz := below_setCells w1.heap.size (Nat.le_refl _) cs.toList 0 _ ((Below.refl w1.heap.size w1).alloc (Nat.le_refl _) (.cells Tryz.zeroCells152 152))
  generalize (w1.alloc (.cells Tryz.zeroCells152 152)).setCells w1.heap.size 0 cs.toList = W9 at *
  have k9 := k1.call hbz
  have B9 := B1.trans (hbz.mono (by have := B1.size; omega))
  have c9 := k9.cell
  have hcell : Hid (∀ p : Nat, p < 1024 → W9.cell? ⟨w1.heap.size, p, none⟩ = some (.bool (f p))) := Lib.hid (fun p hp => by
    have h := hrg p (.bool (f p)) (by
      rw [Array.getElem?_toList, hat p hp]
      exact congrArg (fun b => some (Value.bool b)) (hfm.out p))
    rw [Nat.zero_add] at h
    exact h)
  generalize w1.heap.size = g at *
  clear hrg hat hth kZ k1 k9 hone hsz hzs hMA hbz B1 hb1 hb0 k0 hfm
  go_wp2_with fail
  go_loopw [6, 7] (fun nn i wr => ∃ (j : Nat) (z : Int), (j : Int) ≤ xb ∧ i = .int .i64 (xa + j) ∧ nn = .int .i64 z ∧ 0 ≤ z ∧ z ≤ j ∧ Hid (z = cntN f j xa) ∧ wr = W9) (fun _ i _ => (xa + xb - intOf i).toNat)
  case atStart => exact ⟨0, 0, by omega, by simp, rfl, by omega, by omega, Lib.hid rfl, rfl⟩
  case round =>
    obtain ⟨j, z, hj, rfl, rfl, hz0, hz1, hz, hw⟩ := hrel
    have hw' := hw.symm
    clear hw
    subst hw'
    by_cases hlt : (j : Int) < xb
    · have hlt' : decide (xa + (j : Int) < xa + xb) = true := by simp; omega
      have hcj := hcell.out (xa + j).toNat (by omega)
      have hst := Lib.hid (hsn.out j)
      have e : (((xa + (j : Int)).toNat : Nat) : Int) = xa + j := by omega
      rw [e] at hcj
      clear e
      cases hfj : f (xa + j) with
      | true =>
        rw [hfj] at hcj
        have hz2 : Hid (z + 1 = cntN f (j + 1) xa) := Lib.hid (by rw [hst.out, hfj, hz.out, if_pos rfl])
        clear hst hfj
        go_wp2_with fail
        go_roundw
        case rel => exact ⟨j + 1, z + 1, by omega, by go_num, by go_num, by omega, by omega, hz2, trivial⟩
        case measure => simp [intOf]; omega
      | false =>
        rw [hfj] at hcj
        have hz2 : Hid (z = cntN f (j + 1) xa) := Lib.hid (by rw [hst.out, hfj, hz.out, if_neg (by decide)]; omega)
        clear hst hfj
        go_wp2_with fail
        go_roundw
        case rel => exact ⟨j + 1, z, by omega, by go_num, rfl, by omega, by omega, hz2, trivial⟩
        case measure => simp [intOf]; omega
    · have hlt' : decide (xa + (j : Int) < xa + xb) = false := by simp; omega
      have hE : Hid (z = R) := Lib.hid (by rw [hz.out, hC.out, show xb.toNat = j by omega])
      go_wp2_with fail
      go_ret
      exact ⟨ret_int hE.out, B9⟩

theorem askS_zero {us : List Sp} {x : Sp} (h : askS us x = 0) : Go.Pol.Can us ∧ vld x = true := by
  unfold askS at h
  by_cases hz : chkS us = 0
  · rw [if_pos hz] at h
    by_cases hv : vld x = true
    · exact ⟨chkS_zero.1 hz, hv⟩
    · rw [if_neg hv] at h; cases h
  · rw [if_neg hz] at h; exact absurd h hz

set_option maxHeartbeats 800000 in
theorem rHas_any (A : Option Addr) (n cap : Nat) (us : List Sp) (p q : Int) (w : World) (hn : us.length = n) (hm : n ≤ maxLen) (hr : RU w w.heap.size A us) :
    Calls Tryz.prog 60 #[.slice A n cap, .agg #[.int .i64 p, .int .i64 q]] w fun e w' => e = .returned (.tuple #[.bool (decide (askS us (p, q) = 0) && (cntF us (p, q) == q)), .int .i64 (askS us (p, q))]) ∧ Below w.heap.size w w' := by
  have hb0 := (Below.refl w.heap.size w).alloc (Nat.le_refl _) (.cells #[.int .i64 p, .int .i64 q] 134)
  have k0 := Blk.new w 134 #[.int .i64 p, .int .i64 q]
  have z0 := k0.cell
  have hr0 := hr.on hb0
  have HA := Lib.hid (asked_any A n cap us p q _ hn hm hr0)
  by_cases h0 : askS us (p, q) = 0
  · obtain ⟨hu, hv⟩ := askS_zero h0
    have hl := hu.len
    have HK := Lib.hid (fun W h => rcount_any A n cap us p q W hn (by omega) h hu.1 hv)
    rw [h0] at HA ⊢
    generalize cntF us (p, q) = C at *
    clear h0 hu hv hn
    go_enter Tryz.func60, Tryz.ntmps60
    go_wp2_with fail
    refine HA.out.mono ?_
    rintro e w1 ⟨rfl, hb1⟩
    have B1 := hb0.trans (hb1.mono hb0.size)
    have k1 := k0.call hb1
    have r1 := hr0.on hb1
    have q1 := fun z : Ext w1 => (z.blk k1).cell
    have CK : Hid (∀ z : Ext w1, Calls Tryz.prog 115 #[.slice A n cap, .agg #[.int .i64 p, .int .i64 q]] z.w fun e w'' => e = .returned (.int .i64 C) ∧ ∃ t : Ext w1, w'' = t.w) := Lib.hid (fun z => Ext.call (HK.out _ (r1.on z.le)))
    clear HA k0 z0 hr0
    go_upto_region 4 with fail
    refine region_ext (by kernel_rfl) (by kernel_rfl) ?_
    repeat (go_big_quiet_step ((go_at_call 115; exact CK.out _)))
    refine wpQuiet_nil ?_
    rintro w2 ⟨⟨_, hw2⟩, rfl⟩
    go_wp2_with fail
    go_ret2
    exact ⟨rfl, B1.trans (hw2.mono B1.size)⟩
  · obtain ⟨er, her⟩ : ∃ er, askS us (p, q) = er := ⟨_, rfl⟩
    rw [her] at HA h0 ⊢
    have hz' : (er != 0) = true := by simpa using h0
    have hz2 : decide (er = 0) = false := by simpa using h0
    rw [hz2, Bool.false_and]
    clear her h0
    go_enter Tryz.func60, Tryz.ntmps60
    go_wp2_with fail
    refine HA.out.mono ?_
    rintro e w1 ⟨rfl, hb1⟩
    go_wp2_with fail
    go_ret2
    exact ⟨rfl, hb0.trans (hb1.mono hb0.size)⟩

set_option maxHeartbeats 800000 in
theorem rMeets_any (A : Option Addr) (n cap : Nat) (us : List Sp) (p q : Int) (w : World) (hn : us.length = n) (hm : n ≤ maxLen) (hr : RU w w.heap.size A us) :
    Calls Tryz.prog 181 #[.slice A n cap, .agg #[.int .i64 p, .int .i64 q]] w fun e w' => e = .returned (.tuple #[.bool (decide (askS us (p, q) = 0) && decide (0 < cntF us (p, q))), .int .i64 (askS us (p, q))]) ∧ Below w.heap.size w w' := by
  have hb0 := (Below.refl w.heap.size w).alloc (Nat.le_refl _) (.cells #[.int .i64 p, .int .i64 q] 134)
  have k0 := Blk.new w 134 #[.int .i64 p, .int .i64 q]
  have z0 := k0.cell
  have hr0 := hr.on hb0
  have HA := Lib.hid (asked_any A n cap us p q _ hn hm hr0)
  by_cases h0 : askS us (p, q) = 0
  · obtain ⟨hu, hv⟩ := askS_zero h0
    have hl := hu.len
    have HK := Lib.hid (fun W h => rcount_any A n cap us p q W hn (by omega) h hu.1 hv)
    rw [h0] at HA ⊢
    generalize cntF us (p, q) = C at *
    clear h0 hu hv hn
    go_enter Tryz.func181, Tryz.ntmps181
    go_wp2_with fail
    refine HA.out.mono ?_
    rintro e w1 ⟨rfl, hb1⟩
    have B1 := hb0.trans (hb1.mono hb0.size)
    have k1 := k0.call hb1
    have z1 := k1.cell
    have r1 := hr0.on hb1
    clear HA k0 z0 hr0
    go_wp2_with fail
    refine (HK.out _ r1).mono ?_
    rintro e w2 ⟨rfl, hb2⟩
    go_wp2_with fail
    go_ret2
    exact ⟨rfl, B1.trans (hb2.mono B1.size)⟩
  · obtain ⟨er, her⟩ : ∃ er, askS us (p, q) = er := ⟨_, rfl⟩
    rw [her] at HA h0 ⊢
    have hz' : (er != 0) = true := by simpa using h0
    have hz2 : decide (er = 0) = false := by simpa using h0
    rw [hz2, Bool.false_and]
    clear her h0
    go_enter Tryz.func181, Tryz.ntmps181
    go_wp2_with fail
    refine HA.out.mono ?_
    rintro e w1 ⟨rfl, hb1⟩
    go_wp2_with fail
    go_ret2
    exact ⟨rfl, hb0.trans (hb1.mono hb0.size)⟩

set_option maxHeartbeats 800000 in
theorem rCount_any (A : Option Addr) (n cap : Nat) (us : List Sp) (w : World) (hn : us.length = n) (hm : n ≤ maxLen) (hr : RU w w.heap.size A us) :
    Calls Tryz.prog 180 #[.slice A n cap] w fun e w' => e = .returned (.tuple #[.int .i64 (if chkS us = 0 then sumS us else 0), .int .i64 (chkS us)]) ∧ Below w.heap.size w w' := by
  have HC := Lib.hid (refSpCheck_any A n cap us w hn hm hr)
  by_cases hc : chkS us = 0
  case neg =>
    rw [if_neg hc]
    generalize chkS us = er at *
    have hc' : (er != 0) = true := by simpa using hc
    clear hc
    go_enter Tryz.func180, Tryz.ntmps180
    go_wp2_with fail
    refine HC.out.mono ?_
    rintro e w1 ⟨rfl, hb1⟩
    go_wp2_with fail
    go_ret2
    exact ⟨rfl, hb1⟩
  case pos =>
    have hcan := chkS_zero.1 hc
    rw [hc, if_pos rfl]
    rw [hc] at HC
    have hl := hcan.len
    have HK := Lib.hid (fun W h => rcount_any A n cap us 0 1024 W hn (by omega) h hcan.1 (by decide))
    rw [count_law hcan] at HK
    generalize sumS us = C at *
    clear hcan hc hn
    go_enter Tryz.func180, Tryz.ntmps180
    go_wp2_with fail
    refine HC.out.mono ?_
    rintro e w1 ⟨rfl, hb1⟩
    go_wp2_with fail
    refine (HK.out _ (hr.on hb1)).mono ?_
    rintro e w2 ⟨rfl, hb2⟩
    go_wp2_with fail
    go_ret2
    exact ⟨rfl, hb1.trans (hb2.mono hb1.size)⟩
end Go.Proofs.YtefnnfcfigcikaaGreat
namespace Go.Proofs.YtefnnfcfigcikaaGreat
open Go Go.Proofs Go.RowKit Go.Pol

end Go.Proofs.YtefnnfcfigcikaaGreat
namespace Go.Proofs.YtefnnfcfigcikaaGreat
open Go Go.Proofs Go.RowKit Go.Pol

/-- what hands back a slice of spans and an error -/
def SpansL (w : World) (us : List Sp) (er : Int) (e : Ending) (w' : World) : Prop :=
  ∃ (A : Option Addr) (cap : Nat), e = .returned (.tuple #[.slice A us.length cap, .int .i64 er]) ∧ RU w' w'.heap.size A us ∧ us.length ≤ cap ∧ cap ≤ maxLen ∧ Below w.heap.size w w'
theorem SpansR.light {w w' : World} {us : List Sp} {er : Int} {e : Ending} (h : SpansR w us er e w') : SpansL w us er e w' := by
  obtain ⟨A, cap, h1, h2, h3, h4, _, h5⟩ := h
  exact ⟨A, cap, h1, h2, h3, h4, h5⟩
theorem SpansOwn.light {w w' : World} {us : List Sp} {er : Int} {e : Ending} (h : SpansOwn w us er e w') : SpansL w us er e w' := by
  obtain ⟨A, cap, h1, h2, h3, h4, _, h5, _⟩ := h
  exact ⟨A, cap, h1, h2, h3, h4, h5⟩
end Go.Proofs.YtefnnfcfigcikaaGreat
namespace Go.Pol
open Go
/-- how both sets are combined -/
def combG (how : Int) (x y : Bool) : Bool := if how = 1 then x || y else if how = 2 then x && y else x && !y
/-- what is wrong with two sets -/
def chk2 (us vs : List Sp) : Int := if chkS us = 0 then chkS vs else chkS us
def combF (how : Int) (us vs : List Sp) : List Sp := if chk2 us vs = 0 then setA (fun p => combG how (mem (p : Int) us) (mem (p : Int) vs)) else []
theorem chk2_zero {us vs : List Sp} (h : chk2 us vs = 0) : Can us ∧ Can vs := by
  unfold chk2 at h
  by_cases h1 : chkS us = 0
  · rw [if_pos h1] at h
    exact ⟨chkS_zero.1 h1, chkS_zero.1 h⟩
  · rw [if_neg h1] at h
    exact absurd h h1
end Go.Pol
namespace Go.Proofs.YtefnnfcfigcikaaGreat
open Go Go.Proofs Go.RowKit Go.Pol Go.Shelf

set_option maxRecDepth 100000 in
set_option maxHeartbeats 3200000 in
theorem combined_any (A1 A2 : Option Addr) (n1 c1 n2 c2 : Nat) (us vs : List Sp) (how : Int) (hhow : how = 1 ∨ how = 2 ∨ how = 3) (w : World) (hn1 : us.length = n1) (hm1 : n1 ≤ maxLen) (hr1 : RU w w.heap.size A1 us) (hn2 : vs.length = n2) (hm2 : n2 ≤ maxLen) (hr2 : RU w w.heap.size A2 vs) :
    Calls Tryz.prog 97 #[.slice A1 n1 c1, .slice A2 n2 c2, .int .i64 how] w (SpansR w (combF how us vs) (chk2 us vs)) := by
  have H1 := Lib.hid (fun W h => refSpCheck_any A1 n1 c1 us W hn1 hm1 h)
  have H2 := Lib.hid (fun W h => refSpCheck_any A2 n2 c2 vs W hn2 hm2 h)
  by_cases hz : chk2 us vs = 0
  case neg =>
    unfold combF
    rw [if_neg hz]
    unfold chk2 at hz ⊢
    by_cases h1 : chkS us = 0
    · rw [if_pos h1] at hz ⊢
      rw [h1] at H1
      generalize chkS vs = er at *
      have hz' : (er != 0) = true := by simpa using hz
      clear hz h1 hhow
      go_enter Tryz.func97, Tryz.ntmps97
      go_wp2_with fail
      refine (H1.out _ hr1).mono ?_
      rintro e w1 ⟨rfl, hb1⟩
      go_wp2_with fail
      refine (H2.out _ (hr2.on hb1)).mono ?_
      rintro e w2 ⟨rfl, hb2⟩
      go_wp2_with fail
      go_ret2
      exact ⟨none, 0, rfl, RU.nil, by simp, by unfold maxLen; omega, fun b o e => (by cases e), hb1.trans (hb2.mono hb1.size)⟩
    · rw [if_neg h1] at hz ⊢
      generalize chkS us = er at *
      have hz' : (er != 0) = true := by simpa using hz
      have hz2 : (er == 0) = false := by simpa using hz
      clear hz h1 hhow
      go_enter Tryz.func97, Tryz.ntmps97
      go_wp2_with fail
      refine (H1.out _ hr1).mono ?_
      rintro e w1 ⟨rfl, hb1⟩
      go_wp2_with fail
      go_ret2
      exact ⟨none, 0, rfl, RU.nil, by simp, by unfold maxLen; omega, fun b o e => (by cases e), hb1⟩
  case pos =>
    obtain ⟨hU, hV⟩ := chk2_zero hz
    have z1 := chkS_zero.2 hU
    have z2 := chkS_zero.2 hV
    rw [z1] at H1
    rw [z2] at H2
    have hC : Hid (combF how us vs = setA (fun p => combG how (mem (p : Int) us) (mem (p : Int) vs))) := Lib.hid (by unfold combF; rw [if_pos hz])
    rw [hz]
    have l1 := hU.len
    have l2 := hV.len
    have M1 := Lib.hid (fun W h => marks_any A1 n1 c1 us W hn1 (by omega) h hU.1)
    have M2 := Lib.hid (fun W h => marks_any A2 n2 c2 vs W hn2 (by omega) h hV.1)
    obtain ⟨R, hR⟩ : ∃ R, combF how us vs = R := ⟨_, rfl⟩
    rw [hR]
    rw [hR] at hC
    obtain ⟨f1, hf1⟩ : ∃ f1 : Nat → Bool, (fun p : Nat => mem (p : Int) us) = f1 := ⟨_, rfl⟩
    obtain ⟨f2, hf2⟩ : ∃ f2 : Nat → Bool, (fun p : Nat => mem (p : Int) vs) = f2 := ⟨_, rfl⟩
    have hC2 : Hid (R = setA (fun p => combG how (f1 p) (f2 p))) := Lib.hid (by rw [hC.out, ← hf1, ← hf2])
    rw [hf1] at M1
    rw [hf2] at M2
    have HSet := Lib.hid (fun cs f W h => refSet_any cs f W h)
    have hZ := zeros_are
    clear hC hf1 hf2 hR hU hV hz hn1 hn2 z1 z2
    go_enter Tryz.func97, Tryz.ntmps97
    go_wp2_with fail
    refine (H1.out _ hr1).mono ?_
    rintro e w1 ⟨rfl, hb1⟩
    have r1 := hr1.on hb1
    have r2 := hr2.on hb1
    go_wp2_with fail
    refine (H2.out _ r2).mono ?_
    rintro e w2 ⟨rfl, hb2⟩
    have B2 := hb1.trans (hb2.mono hb1.size)
    have r1b := r1.on hb2
    have r2b := r2.on hb2
    clear H1 H2 hb1 hb2 r1 r2 hr1 hr2
    go_wp2_with fail
    refine (M1.out _ r1b).mono ?_
    rintro e w3 ⟨cs1, rfl, hM1, hb3⟩
    have B3 := B2.trans (hb3.mono B2.size)
    have r2c := r2b.on hb3
    clear M1 B2 hb3 r1b r2b
    go_wp2_with fail
    refine (M2.out _ r2c).mono ?_
    rintro e w4 ⟨cs2, rfl, hM2, hb4⟩
    have B4 := B3.trans (hb4.mono B3.size)
    clear M2 B3 hb4 r2c
    obtain ⟨g, hg⟩ : ∃ g, w4.heap.size = g := ⟨_, rfl⟩
    have kA : Blk ((w4.alloc (.cells Tryz.zeroCells152 152)).alloc (.cells Tryz.zeroCells152 152)) g 152 Tryz.zeroCells152 := by rw [← hg]; exact (Blk.new _ _ _).alloc _
    have kB : Blk ((w4.alloc (.cells Tryz.zeroCells152 152)).alloc (.cells Tryz.zeroCells152 152)) (g + 1) 152 Tryz.zeroCells152 := by
      have := Blk.new (w4.alloc (.cells Tryz.zeroCells152 152)) 152 Tryz.zeroCells152
      rw [World.size_alloc, hg] at this; exact this
    have hbA : Below g w4 ((w4.alloc (.cells Tryz.zeroCells152 152)).alloc (.cells Tryz.zeroCells152 152)) := by rw [← hg]; exact ((Below.refl w4.heap.size w4).alloc (Nat.le_refl _) _).alloc (by simp) _
    have hzs := hZ.size
    have hs1 := hM1.size
    have hs2 := hM2.size
    have ho1 := hM1.one
    have ho2 := hM2.one
    have ht1 := blk_there kA
    have ht2 := blk_there kB
    rw [hzs] at ht1 ht2
    have hBg := B4.size
    go_upto_region 7 with (first
      | (refine wpList_store_mid rfl 152 (.tmp 9) (.tmp 23) rfl g 0 cs1 rfl rfl (by rw [hs1]; exact ht1) (by rw [hs1]; kernel_rfl) ho1 ?_)
      | (refine wpList_store_mid rfl 152 (.tmp 10) (.tmp 25) rfl (g + 1) 0 cs2 rfl rfl (by rw [hs2]; exact World.there_setCells ht2 _ _ _) (by rw [hs2]; kernel_rfl) ho2 ?_))
    have hg1 := World.rangeAt_setCells_same ((w4.alloc (.cells Tryz.zeroCells152 152)).alloc (.cells Tryz.zeroCells152 152)) g 0 cs1.toList (by rw [Array.length_toList, hs1]; exact ht1)
    have hg1b := World.rangeAt_setCells_apart hg1 (g + 1) 0 cs2.toList (.inl (by omega))
    have hg2 := World.rangeAt_setCells_same (((w4.alloc (.cells Tryz.zeroCells152 152)).alloc (.cells Tryz.zeroCells152 152)).setCells g 0 cs1.toList) (g + 1) 0 cs2.toList (by rw [Array.length_toList, hs2]; exact World.there_setCells ht2 _ _ _)
    have hb5 := below_setCells (s := g) (g + 1) (by omega) cs2.toList 0 _ (below_setCells g (Nat.le_refl _) cs1.toList 0 _ hbA)
    generalize (((w4.alloc (.cells Tryz.zeroCells152 152)).alloc (.cells Tryz.zeroCells152 152)).setCells g 0 cs1.toList).setCells (g + 1) 0 cs2.toList = W5 at *
    have hc1 : ∀ p : Nat, p < 1024 → W5.cell? ⟨g, p, none⟩ = some (.bool (f1 p)) := fun p hp => by
      have h := hg1b p (.bool (f1 p)) (by rw [Array.getElem?_toList, hM1.at_ p hp])
      rw [Nat.zero_add] at h
      exact h
    have hc2 : ∀ p : Nat, p < 1024 → W5.cell? ⟨g + 1, p, none⟩ = some (.bool (f2 p)) := fun p hp => by
      have h := hg2 p (.bool (f2 p)) (by rw [Array.getElem?_toList, hM2.at_ p hp])
      rw [Nat.zero_add] at h
      exact h
    have hlt5 : g + 1 < W5.heap.size := World.block_lt_of_cell? _ _ (hc2 0 (by omega))
    have B5 := B4.trans (hb5.mono (by omega))
    have hz5 := hb5.size
    clear hg1 hg1b hg2 ht1 ht2 kA kB hbA ho1 ho2 hM1 hM2 hb5 B4
    go_upto_region 8 with fail
    have kO := Blk.new W5 152 Tryz.zeroCells152
    have hb6 := (Below.refl W5.heap.size W5).alloc (Nat.le_refl _) (.cells Tryz.zeroCells152 152)
    generalize W5.alloc (.cells Tryz.zeroCells152 152) = W6 at *
    generalize Tryz.zeroCells152 = Z at *
    obtain ⟨o, ho⟩ : ∃ o, W5.heap.size = o := ⟨_, rfl⟩
    rw [ho] at hb6 kO hlt5
    have hws : w.heap.size ≤ o := by rw [← ho]; exact B5.size
    try simp only [ho]
    go_wp2_with fail
    go_loopw [12] (fun i wr => ∃ (k : Nat) (cs : Array Value), k ≤ 1024 ∧ i = .int .i64 k ∧ Blk wr o 152 cs ∧ MarksAre cs (fun p => decide (p < k) && combG how (f1 p) (f2 p)) ∧ Below o W5 wr) (fun i _ => 1024 - (intOf i).toNat)
    case atStart => exact ⟨0, Z, by omega, rfl, kO, hZ.congr (fun p _ => by simp), hb6⟩
    case round =>
      clear kO hb6
      obtain ⟨k, cs, hk, rfl, kO, hM, hB⟩ := hrel
      by_cases hlt : k < 1024
      · have hlt' : decide ((k : Int) < 1024) = true := by simp; omega
        have x1 := (hB.cell (p := ⟨g, k, none⟩) (by show g < o; omega)).trans (hc1 k hlt)
        have x2 := (hB.cell (p := ⟨g + 1, k, none⟩) hlt5).trans (hc2 k hlt)
        have hold := hM.at_ k hlt
        generalize (decide (k < k) && combG how (f1 k) (f2 k)) = B0 at hold
        have hst := fun b (hb : combG how (f1 k) (f2 k) = b) => hM.set (g := fun p => decide (p < k + 1) && combG how (f1 p) (f2 p)) k hlt b (by
          show (decide (k < k + 1) && combG how (f1 k) (f2 k)) = b
          rw [decide_eq_true (by omega), hb, Bool.true_and]) (fun q hq => by
          congr 1
          exact decide_eq_decide.2 (by omega))
        have hst' := Lib.hid hst
        clear hst
        have fO := kO.frozen
        have cO : wr.cell? ⟨o, k, none⟩ = some (.bool B0) := (kO.cell k).trans hold
        generalize f1 k = u at *
        generalize f2 k = v at *
        rcases hhow with rfl | rfl | rfl <;> cases u <;> cases v
        all_goals (go_wp2_with fail; go_roundw; (case rel => exact ⟨k + 1, _, by omega, by go_num, kO.set_ _ _, hst'.out _ rfl, hB.setCell (p := ⟨o, k, none⟩) (Nat.le_refl _) _⟩); (case measure => simp [intOf]; omega))
      · have hlt' : decide ((k : Int) < 1024) = false := by simp; omega
        obtain rfl : k = 1024 := by omega
        have hMe := hM.congr (g := fun p => combG how (f1 p) (f2 p)) (fun p hp => by rw [decide_eq_true hp, Bool.true_and])
        have hsz := hM.size
        have HS2 := Lib.hid (fun W => HSet.out cs _ W hMe)
        rw [← hC2.out] at HS2
        have B9 := B5.trans (hB.mono hws)
        go_wp2_with (first
          | (refine wpList_load_mid rfl 152 (.tmp 11) rfl o 0 rfl cs.toList _ (rangeAt_blk kO) Tryz.underlying152 rfl (by rw [Array.length_toList, hsz]; kernel_rfl) ?_; rw [Array.toArray_toList])
          | (go_at_call 71; refine (HS2.out _).mono ?_; rintro e w2 ⟨A, cap, rfl, hru, h1, h2, h3, hq2⟩))
        go_ret2
        exact ⟨A, cap, rfl, hru, h1, h2, fun b o e => by have := h3 b o e; have := B9.size; omega, B9.trans (hq2.mono B9.size)⟩

theorem rMeet_any (A1 A2 : Option Addr) (n1 c1 n2 c2 : Nat) (us vs : List Sp) (w : World) (hn1 : us.length = n1) (hm1 : n1 ≤ maxLen) (hr1 : RU w w.heap.size A1 us) (hn2 : vs.length = n2) (hm2 : n2 ≤ maxLen) (hr2 : RU w w.heap.size A2 vs) :
    Calls Tryz.prog 73 #[.slice A1 n1 c1, .slice A2 n2 c2] w (SpansR w (combF 2 us vs) (chk2 us vs)) := by
  have H := Lib.hid (combined_any A1 A2 n1 c1 n2 c2 us vs 2 (by omega) w hn1 hm1 hr1 hn2 hm2 hr2)
  generalize combF 2 us vs = R at *
  generalize chk2 us vs = er at *
  go_enter Tryz.func73, Tryz.ntmps73
  go_wp2_with fail
  refine H.out.mono ?_
  rintro e w1 ⟨A, cap, rfl, h1, h2, h3, h4, h5⟩
  go_wp2_with fail
  go_ret2
  exact ⟨A, cap, rfl, h1, h2, h3, h4, h5⟩
theorem rMinus_any (A1 A2 : Option Addr) (n1 c1 n2 c2 : Nat) (us vs : List Sp) (w : World) (hn1 : us.length = n1) (hm1 : n1 ≤ maxLen) (hr1 : RU w w.heap.size A1 us) (hn2 : vs.length = n2) (hm2 : n2 ≤ maxLen) (hr2 : RU w w.heap.size A2 vs) :
    Calls Tryz.prog 41 #[.slice A1 n1 c1, .slice A2 n2 c2] w (SpansR w (combF 3 us vs) (chk2 us vs)) := by
  have H := Lib.hid (combined_any A1 A2 n1 c1 n2 c2 us vs 3 (by omega) w hn1 hm1 hr1 hn2 hm2 hr2)
  generalize combF 3 us vs = R at *
  generalize chk2 us vs = er at *
  go_enter Tryz.func41, Tryz.ntmps41
  go_wp2_with fail
  refine H.out.mono ?_
  rintro e w1 ⟨A, cap, rfl, h1, h2, h3, h4, h5⟩
  go_wp2_with fail
  go_ret2
  exact ⟨A, cap, rfl, h1, h2, h3, h4, h5⟩

def notF (us : List Sp) (x : Sp) : List Sp := if askS us x = 0 then combF 3 [x] us else []
/-! the program's answers are the reference's -/
theorem chk2_both {us vs : List Sp} : (chkS us = 0 ∧ chkS vs = 0) ↔ chk2 us vs = 0 := by
  unfold chk2
  by_cases h : chkS us = 0
  · rw [if_pos h]; exact ⟨fun h => h.2, fun h2 => ⟨h, h2⟩⟩
  · rw [if_neg h]; exact ⟨fun h2 => absurd h2.1 h, fun h2 => absurd h2 h⟩
theorem union_eq (us vs : List Sp) : (if chkS us = 0 ∧ chkS vs = 0 then setOf (us ++ vs) else []) = combF 1 us vs := by
  unfold combF
  by_cases h : chk2 us vs = 0
  · rw [if_pos (chk2_both.2 h), if_pos h]
    unfold setOf
    congr 1
    funext p
    rw [mem_append]; rfl
  · rw [if_neg (fun h2 => h (chk2_both.1 h2)), if_neg h]
theorem meet_eq (us vs : List Sp) : (if chkS us = 0 ∧ chkS vs = 0 then commonF us vs else []) = combF 2 us vs := by
  unfold combF
  by_cases h : chk2 us vs = 0
  · rw [if_pos (chk2_both.2 h), if_pos h]
    obtain ⟨hU, hV⟩ := chk2_zero h
    refine (hU.common hV).eq_setA _ fun p _ => ?_
    rw [hU.mem_common hV]; rfl
  · rw [if_neg (fun h2 => h (chk2_both.1 h2)), if_neg h]
theorem minus_eq (us vs : List Sp) : (if chkS us = 0 ∧ chkS vs = 0 then commonF us (gapsF vs (0, 1024)) else []) = combF 3 us vs := by
  unfold combF
  by_cases h : chk2 us vs = 0
  · rw [if_pos (chk2_both.2 h), if_pos h]
    obtain ⟨hU, hV⟩ := chk2_zero h
    obtain ⟨hG, hm⟩ := hV.gaps (i := (0, 1024)) (by decide)
    refine (hU.common hG).eq_setA _ fun p hp => ?_
    rw [hU.mem_common hG]
    show (mem p us && !mem p vs) = (mem p us && mem p (gapsF vs (0, 1024)))
    congr 1
    have := hm p
    cases hq : mem (p : Int) vs with
    | true =>
      rw [hq] at this
      cases hg : mem (p : Int) (gapsF vs (0, 1024)) with
      | false => rfl
      | true => have := (this.1 hg).2; cases this
    | false => rw [this.2 ⟨by simp only; omega, hq⟩]; rfl
  · rw [if_neg (fun h2 => h (chk2_both.1 h2)), if_neg h]
theorem not_eq (us : List Sp) (x : Sp) : (if askS us x = 0 then gapsF us x else []) = notF us x := by
  unfold notF
  by_cases h : askS us x = 0
  · rw [if_pos h, if_pos h]
    obtain ⟨hU, hv⟩ := askS_zero h
    have hz : chk2 [x] us = 0 := by
      unfold chk2
      rw [chkS_zero.2 (Go.Pol.Can.one hv), if_pos rfl]
      exact chkS_zero.2 hU
    unfold combF
    rw [if_pos hz]
    obtain ⟨hG, hm⟩ := hU.gaps hv
    refine hG.eq_setA _ fun p hp => ?_
    show (mem p [x] && !mem p us) = mem p (gapsF us x)
    have := hm p
    rw [Bool.eq_iff_iff, this, Bool.and_eq_true, mem_one]
    simp
  · rw [if_neg h, if_neg h]
end Go.Proofs.YtefnnfcfigcikaaGreat
namespace Go.Pol
open Go
theorem spanOk {g : Int} (h : 0 ≤ g ∧ g < 64) : vld (16 * g, 16) = true := by rw [vld_iff]; simp only; omega
theorem askS_span {us : List Sp} (hc : Can us) {g : Int} (h : 0 ≤ g ∧ g < 64) : Go.Proofs.YtefnnfcfigcikaaGreat.askS us (16 * g, 16) = 0 := by
  unfold Go.Proofs.YtefnnfcfigcikaaGreat.askS
  rw [if_pos (chkS_zero.2 hc), if_pos (spanOk h)]
theorem meet_span {L : List Sp} (hL : Can L) {g : Int} (h : 0 ≤ g ∧ g < 64) : chk2 L [(16 * g, 16)] = 0 ∧ Can (combF 2 L [(16 * g, 16)]) ∧ sumS (combF 2 L [(16 * g, 16)]) = grpF L g := by
  have h2 : chk2 L [(16 * g, 16)] = 0 := by
    unfold chk2
    rw [if_pos (chkS_zero.2 hL)]
    exact chkS_zero.2 (Can.one (spanOk h))
  have hE : combF 2 L [(16 * g, 16)] = setA (fun p => mem (p : Int) L && mem (p : Int) [(16 * g, 16)]) := by
    unfold combF; rw [if_pos h2]; rfl
  have hC : Can (combF 2 L [(16 * g, 16)]) := by rw [hE]; exact setA_can _
  refine ⟨h2, hC, ?_⟩
  rw [← count_law hC]
  have hm : ∀ q : Int, mem q (combF 2 L [(16 * g, 16)]) = (mem q L && (decide (16 * g ≤ q) && decide (q < 16 * g + 16))) := fun q => by
    rw [hE, Bool.eq_iff_iff, mem_setA]
    simp only [mem, List.any_cons, List.any_nil, Bool.or_false, Bool.and_eq_true, decide_eq_true_eq]
    constructor
    · rintro ⟨h1, h2, h3, h4⟩
      rw [show ((q.toNat : Nat) : Int) = q by omega] at h2 h3 h4
      exact ⟨h2, h3, h4⟩
    · rintro ⟨h1, h3, h4⟩
      refine ⟨by omega, ?_⟩
      rw [show ((q.toNat : Nat) : Int) = q by omega]
      exact ⟨h1, h3, h4⟩
  show cntN _ 1024 0 = _
  unfold grpF cntF
  obtain ⟨k, hk⟩ : ∃ k : Nat, g = (k : Int) := ⟨g.toNat, by omega⟩
  subst hk
  have hsp : (1024 : Nat) = 16 * k + (16 + (1024 - 16 * k - 16)) := by omega
  rw [hsp, cntN_split, cntN_split]
  rw [cntN_none (f := fun q => mem q (combF 2 L [(16 * (k : Int), 16)])) (16 * k) 0 (fun q h1 h2 => by
    rw [hm, decide_eq_false (show ¬ (16 * (k : Int) ≤ q) by omega)]; simp)]
  rw [cntN_none (f := fun q => mem q (combF 2 L [(16 * (k : Int), 16)])) (1024 - 16 * k - 16) _ (fun q h1 h2 => by
    rw [hm, decide_eq_false (show ¬ (q < 16 * (k : Int) + 16) by omega)]; simp)]
  rw [cntN_congr (f := fun q => mem q (combF 2 L [(16 * (k : Int), 16)])) (g := fun q => mem q L) 16 _ (fun q h1 h2 => by
    rw [hm, decide_eq_true (show 16 * (k : Int) ≤ q by omega), decide_eq_true (show q < 16 * (k : Int) + 16 by omega)]; simp)]
  have e : (0 : Int) + ((16 * k : Nat) : Int) = 16 * (k : Int) := by omega
  rw [e]
  rw [Int.zero_add, Int.add_zero]; rfl
theorem setA_nil {f : Nat → Bool} : setA f = [] ↔ ∀ p, p < 1024 → f p = false := by
  constructor
  · intro h p hp
    cases hf : f p with
    | false => rfl
    | true =>
      have : mem (p : Int) (setA f) = true := (mem_setA f _).2 ⟨by omega, by rwa [show ((p : Nat) : Int).toNat = p by omega]⟩
      rw [h] at this
      cases this
  · intro h
    cases he : setA f with
    | nil => rfl
    | cons x r =>
      have hv := vld_iff.1 ((setA_can f).1 x (by rw [he]; simp))
      have hm : mem x.1 (setA f) = true := by
        rw [he]; unfold mem; rw [List.any_cons, Bool.or_eq_true]; left; simp; omega
      obtain ⟨h1, h2⟩ := (mem_setA f _).1 hm
      rw [h _ (by omega)] at h2
      cases h2
theorem minus_nil {L C : List Sp} (hL : Can L) (hC : Can C) : chk2 L C = 0 ∧ (combF 3 L C = [] ↔ subF L C = true) := by
  have h2 : chk2 L C = 0 := by
    unfold chk2
    rw [if_pos (chkS_zero.2 hL)]
    exact chkS_zero.2 hC
  refine ⟨h2, ?_⟩
  unfold combF
  rw [if_pos h2, setA_nil]
  unfold subF
  simp only [List.all_eq_true, List.mem_range]
  constructor
  · intro h p hp
    have := h p hp
    unfold combG at this
    rw [if_neg (by decide), if_neg (by decide)] at this
    cases h1 : mem (p : Int) L <;> cases h3 : mem (p : Int) C <;> simp_all
  · intro h p hp
    have := h p hp
    unfold combG
    rw [if_neg (by decide), if_neg (by decide)]
    cases h1 : mem (p : Int) L <;> cases h3 : mem (p : Int) C <;> simp_all
end Go.Pol
namespace Go.Pol
open Go Go.RowKit
/-- the huge groups that are met, in the order of the pages -/
def stepS (H : List Int) (o : List Int) (p : Int) : List Int := if decide (p / 16 ∈ H) && !decide (p / 16 ∈ o) then o ++ [p / 16] else o
def splitG (H : List Int) (l : List Int) : List Int := l.foldl (stepS H) []
theorem splitG_snoc (H : List Int) (l : List Int) (p : Int) : splitG H (l ++ [p]) = stepS H (splitG H l) p := by simp [splitG]
theorem splitG_len (H : List Int) (l : List Int) : (splitG H l).length ≤ l.length := by
  suffices h : ∀ (l o : List Int), (l.foldl (stepS H) o).length ≤ o.length + l.length by
    have := h l []
    rwa [List.length_nil, Nat.zero_add] at this
  intro l
  induction l with
  | nil => intro o; simp
  | cons p r ih =>
    intro o
    rw [List.foldl_cons]
    refine Nat.le_trans (ih _) ?_
    unfold stepS
    split
    · simp; omega
    · simp
/-- what Split answers -/
def splitA (C L : List Sp) (H : List Int) (ps : List Sp) : List Int × Int :=
  if chkH C L H ≠ 0 then ([], chkH C L H) else if chkS ps ≠ 0 then ([], chkS ps) else if subF ps C = false then ([], 4) else (splitG H (pagesOf ps), 0)
end Go.Pol
namespace Go.Proofs.YtefnnfcfigcikaaGreat
open Go Go.Proofs Go.RowKit Go.Pol Go.Shelf
attribute [local go_sem] Oper.semAt_some Go.Pol.wide_fn Go.Pol.wide_depth Go.Pol.wide_fn' Go.Pol.wide_depth'

set_option maxRecDepth 100000 in
theorem indexV_any (v : Int) (A : Option Addr) (n cap : Nat) (bs : List Int) (w : World) (hn : bs.length = n) (hm : n ≤ maxLen) (hr : RI w w.heap.size A bs) :
    Calls Tryz.prog 169 #[.slice A n cap, .int .i64 v] w fun e w' => e = .returned (.int .i64 (idxI (fun x => v == x) bs 0)) ∧ w' = w := by
  unfold maxLen at hm
  obtain ⟨R, hR⟩ : ∃ R, idxI (fun x => v == x) bs 0 = R := ⟨_, rfl⟩
  rw [hR]
  have hR' := Lib.hid hR
  have hn' := Lib.hid hn
  clear hR hn
  go_enter Tryz.func169, Tryz.ntmps169
  go_wp2_with fail
  go_loopw [8] (fun i wr => ∃ k : Nat, k ≤ n ∧ i = .int .i64 k ∧ wr = w ∧ Hid (idxI (fun x => v == x) (bs.drop k) k = R)) (fun i _ => n - (intOf i).toNat)
  case atStart => exact ⟨0, by omega, rfl, rfl, by simpa using hR'⟩
  case round =>
    obtain ⟨k, hk, rfl, hw, hH⟩ := hrel
    have hw' := hw.symm
    clear hw
    subst hw'
    by_cases hlt : k < n
    · have hlt' : decide ((k : Int) < (n : Int)) = true := by simpa using hlt
      obtain ⟨b, o, rfl, _, c1⟩ := hr.at_ (k := k) (by have := hn'.out; omega)
      have hst := hH.out
      rw [Go.Pol.drop_cons 0 bs k (by have := hn'.out; omega), idxI] at hst
      generalize bs.getD k 0 = x at *
      cases hpx : (v == x) with
      | true =>
        rw [if_pos hpx] at hst
        have hst' := Lib.hid hst
        clear hst hH
        go_wp2_with fail
        go_ret
        exact ⟨ret_int hst'.out, rfl⟩
      | false =>
        rw [if_neg (by simp [hpx])] at hst
        have hst' := Lib.hid hst
        clear hst hH
        go_wp2_with fail
        go_roundw
        case rel => exact ⟨k + 1, by omega, by go_num, by first | rfl | trivial, hst'⟩
        case measure => simp [intOf]; omega
    · obtain rfl : k = n := by omega
      have hlt' : decide ((k : Int) < (k : Int)) = false := by simp
      have hst := hH.out
      rw [List.drop_of_length_le (by have := hn'.out; omega)] at hst
      have hst' := Lib.hid (show -1 = R from hst)
      clear hst hH
      go_wp2_with fail
      go_ret
      exact ⟨ret_int hst'.out, rfl⟩
theorem containsV_any (v : Int) (A : Option Addr) (n cap : Nat) (bs : List Int) (w : World) (hn : bs.length = n) (hm : n ≤ maxLen) (hr : RI w w.heap.size A bs) :
    Calls Tryz.prog 118 #[.slice A n cap, .int .i64 v] w fun e w' => e = .returned (.bool (decide (v ∈ bs))) ∧ w' = w := by
  have HI := Lib.hid (indexV_any v A n cap bs w hn hm hr)
  have hE := Lib.hid (show decide (0 ≤ idxI (fun x => v == x) bs 0) = decide (v ∈ bs) by
    rw [idxI_any, Bool.eq_iff_iff]; simp)
  generalize idxI (fun x => v == x) bs 0 = R at *
  generalize decide (v ∈ bs) = S at *
  go_enter Tryz.func118, Tryz.ntmps118
  go_wp2_with fail
  refine HI.out.mono ?_
  rintro e w1 ⟨rfl, hw⟩
  have hw' := hw.symm
  clear hw
  subst hw'
  go_wp2_with fail
  go_ret
  exact ⟨ret_bool hE.out, rfl⟩

/-- what the loop of Split keeps -/
structure SplF (w : World) (s D : Nat) (X : Nat → Prop) (Bp b : Nat) (cs : Array Value) (W : World) : Prop where
  kP : Blk W Bp 143 #[.pointer (some ⟨b, 0, none⟩)]
  kL : Blk W b 160 cs
  below : Below s w W
  size : D ≤ W.heap.size
  own : ∀ k, X k → D ≤ k
theorem SplF.not {w W : World} {s D D0 : Nat} {X : Nat → Prop} {Bp b k : Nat} {cs : Array Value} (h : SplF w s D X Bp b cs W) (h0 : D ≤ D0) (hk : k < D) : ¬ (False ∨ X k ∨ k = D0 ∨ k = D0 + 1) := by
  rintro (h' | h' | h' | h')
  · exact h'
  · have := h.own k h'; omega
  · omega
  · omega
theorem SplF.far {w A B : World} {s D D0 : Nat} {X : Nat → Prop} {Bp b Bo : Nat} {cs : Array Value} (h : SplF w s D X Bp b cs A) (hf : Far (fun k => False ∨ X k ∨ k = D0 ∨ k = D0 + 1) A B) (hb : s + 3 ≤ b ∧ b < Bp ∧ Bp < Bo ∧ Bo < D) (h0 : D ≤ D0) : SplF w s D X Bp b cs B :=
  ⟨hf.blk h.kP (h.not h0 (by omega)), hf.blk h.kL (h.not h0 (by omega)), h.below.trans (hf.below (by have := h.size; omega) (fun k hk => h.not h0 (by omega))), Nat.le_trans h.size hf.size, h.own⟩
theorem SplF.new {w W : World} {s D : Nat} {X X' : Nat → Prop} {Bp b : Nat} {cs : Array Value} (h : SplF w s D X Bp b cs W) (hX : ∀ k, X' k → X k ∨ W.heap.size ≤ k) : SplF w s D X' Bp b cs W :=
  ⟨h.kP, h.kL, h.below, h.size, fun k hk => (hX k hk).elim (h.own k) (fun h' => by have := h.size; omega)⟩
set_option maxRecDepth 100000 in
set_option maxHeartbeats 3200000 in
theorem splitN_any (S : Value) (C L : List Sp) (H : List Int) (A : Option Addr) (n cap : Nat) (ps : List Sp) (w : World) (hS : StIs w S C L H) (hn : ps.length = n) (hm : n ≤ maxLen) (hr : RU w w.heap.size A ps) :
    Calls Tryz.prog 63 #[S, .slice A n cap] w (IntsN (splitA C L H ps) w) := by
  obtain ⟨A1, A2, A3, n1, c1, n2, c2, n3, c3, rfl, h1, h2, h3, h4, h5, h6, h7, h8, h9⟩ := hS.ex
  obtain ⟨i0, hi, hz0, hz1, hz2⟩ := info_parts infoIn
  obtain ⟨s, hs⟩ : ∃ s, w.heap.size = s := ⟨_, rfl⟩
  obtain ⟨W0, hW0⟩ : ∃ W0, ((w.alloc (.cells #[.slice A1 n1 c1, .slice A2 n2 c2, .slice A3 n3 c3] 52)).alloc (.cells #[.slice none 0 0] 50)).alloc (.cells #[.int .i64 0] 27) = W0 := ⟨_, rfl⟩
  have hs0 : W0.heap.size = s + 3 := by rw [← hW0, ← hs]; simp
  have hb0 : Below s w W0 := by rw [← hW0, ← hs]; exact (((Below.refl w.heap.size w).alloc (Nat.le_refl _) _).alloc (by simp) _).alloc (by simp; omega) _
  have kH : Blk W0 s 52 #[.slice A1 n1 c1, .slice A2 n2 c2, .slice A3 n3 c3] := by rw [← hW0, ← hs]; exact ((Blk.new _ _ _).alloc _).alloc _
  have kR : Blk W0 (s + 1) 50 #[.slice none 0 0] := by
    rw [← hW0, ← hs]; have := Blk.new (w.alloc (.cells #[.slice A1 n1 c1, .slice A2 n2 c2, .slice A3 n3 c3] 52)) 50 #[.slice none 0 0]
    rw [World.size_alloc] at this; exact this.alloc _
  have kE : Blk W0 (s + 2) 27 #[.int .i64 0] := by
    rw [← hW0, ← hs]; have := Blk.new ((w.alloc (.cells #[.slice A1 n1 c1, .slice A2 n2 c2, .slice A3 n3 c3] 52)).alloc (.cells #[.slice none 0 0] 50)) 27 #[.int .i64 0]
    simp only [World.size_alloc] at this; exact this
  have hbb : Below w.heap.size w W0 := by rw [hs]; exact hb0
  have HO := Lib.hid (open_any A1 A2 A3 n1 c1 n2 c2 n3 c3 C L H W0 h1 h2 (h3.on hbb) h4 h5 (h6.on hbb) h7 h8 (RI.on h9 hbb))
  have HP := Lib.hid (fun W (h : RU W W.heap.size A ps) => spCheck_any A n cap ps W hn hm h)
  have hA := Lib.hid (show splitA C L H ps = if chkH C L H ≠ 0 then ([], chkH C L H) else if chkS ps ≠ 0 then ([], chkS ps) else if subF ps C = false then ([], 4) else (splitG H (pagesOf ps), 0) from rfl)
  generalize splitA C L H ps = R at *
  generalize hER : chkH C L H = er at *
  have hER' := Lib.hid hER
  have cH := kH.cell
  have hW1 := Lib.hid hW0
  clear hW0 h1 h2 h3 h4 h5 h6 h7 h8 h9 hS hbb hER
  refine calls_of_marks Tryz.func63 rfl ?_
  simp only [Tryz.ntmps63, List.size_toArray, List.length_cons, List.length_nil, Nat.reduceAdd, Nat.reduceSub, Array.replicate_succ, Array.replicate_zero, List.push_toArray, List.append_toArray, List.nil_append, List.cons_append]
  go_upto_region 1 with fail
  try simp only [Nat.add_assoc, Nat.reduceAdd]
  rw [hW1.out]
  clear hW1
  go_wp2_with fail
  refine HO.out.mono ?_
  rintro e w1 ⟨hb1, he, hz⟩
  have B1 := hb0.trans (hb1.mono (by omega))
  rw [hER'.out] at he hz
  have kR1 := kR.call hb1
  have kE1 := kE.call hb1
  have hs1 := hb1.size
  by_cases h0 : er = 0
  case neg =>
    obtain rfl := he h0
    have h0' : (er != 0) = true := by simpa using h0
    have hA' : Hid (R = ([], er)) := Lib.hid (by rw [hA.out, if_pos h0])
    have hz2 := Lib.hid h0
    clear hA h0 he hz
    go_upto_region 2 with fail
    have hb2 := (Below.refl w1.heap.size w1).alloc (Nat.le_refl _) (.cells #[.pointer none] 143)
    generalize w1.alloc (.cells #[.pointer none] 143) = w2 at *
    have kRx := kR1.call hb2
    have kEx := kE1.call hb2
    have Bx := B1.trans (hb2.mono (by have := B1.size; omega))
    have z1 := kRx.cell
    have z2 := kEx.cell
    have y1 := kRx.frozen
    have y2 := kEx.frozen
    go_wp2_with fail
    obtain ⟨k4, k5, hf⟩ := two_set (by omega) kRx kEx (.slice none 0 0) (.int .i64 er)
    have x1 := k4.cell
    have x2 := k5.cell
    exact leave_none (v := .tuple #[.slice none 0 0, .int .i64 er]) (by simp [results, Tryz.results63, go_sem, x1, x2]) (by rw [hA'.out]; exact IntsN.err (by rw [hs]; exact Bx.trans (hf.below (by have := Bx.size; omega) (fun k hk => by omega))))
  case pos =>
    obtain ⟨b, cs, rfl, hbs, kL, hcs⟩ := hz h0
    have hA1 : Hid (R = if chkS ps ≠ 0 then ([], chkS ps) else if subF ps C = false then ([], 4) else (splitG H (pagesOf ps), 0)) := Lib.hid (by rw [hA.out, if_neg (by simp [h0])])
    clear hA he hz h0
    have hb2 := (Below.refl w1.heap.size w1).alloc (Nat.le_refl _) (.cells #[.pointer (some ⟨b, 0, none⟩)] 143)
    have kP := Blk.new w1 143 #[.pointer (some ⟨b, 0, none⟩)]
    obtain ⟨Bp, hBp⟩ : ∃ Bp, w1.heap.size = Bp := ⟨_, rfl⟩
    have hbB : b < Bp := by rw [← hBp]; exact kL.lt
    have hs2 : (w1.alloc (.cells #[.pointer (some ⟨b, 0, none⟩)] 143)).heap.size = Bp + 1 := by rw [World.size_alloc, hBp]
    rw [hBp] at kP
    have kR2 := kR1.call hb2
    have kE2 := kE1.call hb2
    have kL2 := kL.call hb2
    have B2 := B1.trans (hb2.mono (by have := B1.size; omega))
    have hpr := hr.on (by rw [hs]; exact B2)
    go_upto_region 4 with fail
    generalize w1.alloc (.cells #[.pointer (some ⟨b, 0, none⟩)] 143) = w2 at *
    try simp only [hBp]
    clear hb1 hb2 kR1 kE1 kL B1 kR kE kH cH HO
    by_cases hc : chkS ps = 0
    · have hcan := chkS_zero.1 hc
      rw [hc] at HP
      have hA2 : Hid (R = if subF ps C = false then ([], 4) else (splitG H (pagesOf ps), 0)) := Lib.hid (by rw [hA1.out, if_neg (by simp [hc])])
      clear hA1 hc
      go_wp2_with fail
      refine (HP.out _ hpr).mono ?_
      rintro e w3 ⟨rfl, hb3⟩
      have kR3 := kR2.call hb3
      have kE3 := kE2.call hb3
      have kL3 := kL2.call hb3
      have kP3 := kP.call hb3
      have B3 := B2.trans (hb3.mono (by have := B2.size; omega))
      have hs3 := hb3.size
      obtain ⟨Bo, hBo⟩ : ∃ Bo, w3.heap.size = Bo := ⟨_, rfl⟩
      have hb4 := (Below.refl w3.heap.size w3).alloc (Nat.le_refl _) (.cells #[.slice none 0 0] 50)
      have kO := Blk.new w3 50 #[.slice none 0 0]
      have hs4 : (w3.alloc (.cells #[.slice none 0 0] 50)).heap.size = Bo + 1 := by rw [World.size_alloc, hBo]
      rw [hBo] at kO
      have kR4 := kR3.call hb4
      have kE4 := kE3.call hb4
      have kL4 := kL3.call hb4
      have kP4 := kP3.call hb4
      have B4 := B3.trans (hb4.mono (by have := B3.size; omega))
      have T := Lib.hid (pagesTop_any A n cap ps _ hn (by have := hcan.len; omega) (hr.on (by rw [hs]; exact B4)))
      rw [show fsts (piecesF ps 1) = pagesOf ps from pieces_one hcan] at T
      go_upto_region 8 with fail
      generalize w3.alloc (.cells #[.slice none 0 0] 50) = w4 at *
      try simp only [hBo]
      clear hb3 hb4 kR3 kE3 kL3 kP3 kR2 kE2 kL2 kP B3 hpr
      go_wp2_with fail
      refine T.out.mono ?_
      rintro e w5 ⟨lb, K5, rfl, hsq, hK5, hb5⟩
      have kR5 := kR4.call hb5
      have kE5 := kE4.call hb5
      have kL5 := kL4.call hb5
      have kP5 := kP4.call hb5
      have kO5 := kO.call hb5
      have B5 := B4.trans (hb5.mono (by have := B4.size; omega))
      have hs5 := hb5.size
      obtain ⟨D, hD⟩ : ∃ D, w5.heap.size = D := ⟨_, rfl⟩
      have hKs : ∀ k, K5 k → Bo + 1 ≤ k ∧ k < D := fun k h => by have := hK5 k h; omega
      have hBP : s + 3 ≤ b ∧ b < Bp ∧ Bp < Bo ∧ Bo < D := ⟨by omega, hbB, by omega, by omega⟩
      clear T hb5 hK5 kR4 kE4 kL4 kP4 kO B4 hs2 hs3 hs4 hs5
      go_wp2_with fail
      refine rangeYI 10 27 (gf := 167) (lb := lb) rfl pages_enters hsq rfl (fun _ h => h.elim) (fun k h => by have := hKs k h; omega)
        (fun X pre W => BoxX X W Bo 50 3 (D + 2) 1 (splitG H pre).length ((splitG H pre).map (Value.int .i64)) ∧ (∀ p ∈ pre, mem p C = true) ∧ SplF w s D X Bp b cs W ∧ Blk W (s + 1) 50 #[.slice none 0 0] ∧ Blk W (s + 2) 27 #[.int .i64 0])
        (fun c X pre W => c = .ret ∧ subF ps C = false ∧ SplF w s D X Bp b cs W ∧ Blk W (s + 1) 50 #[.slice none 0 0] ∧ Blk W (s + 2) 27 #[.int .i64 4])
        (fun X pre A B h hf => ⟨h.1.far hf (by rintro (h | h | h | h) <;> first | exact h | exact h.elim | omega) (fun g hg => by rintro (h | h | h | h) <;> first | exact h | exact h.elim | omega), h.2.1,
          h.2.2.1.far hf hBP (by omega), hf.blk h.2.2.2.1 (h.2.2.1.not (by omega) (by omega)), hf.blk h.2.2.2.2 (h.2.2.1.not (by omega) (by omega))⟩)
        (fun c X pre A B h hf => ⟨h.1, h.2.1, h.2.2.1.far hf hBP (by omega), hf.blk h.2.2.2.1 (h.2.2.1.not (by omega) (by omega)), hf.blk h.2.2.2.2 (h.2.2.1.not (by omega) (by omega))⟩)
        (fun X X' pre A h hX => ⟨h.1.new hX, h.2.1, h.2.2.1.new hX, h.2.2.2⟩)
        ⟨⟨_, kO5, World.ownsRow_nil _ _ _ _, id, fun _ _ => id⟩, fun _ h => (by simp at h), ⟨kP5, kL5, B5, by omega, fun _ h => h.elim⟩, kR5, kE5⟩ ?assign ?body ?done ?stop
      case assign =>
        intro m l x W C hC
        simp only [List.setIfInBounds_toArray, List.set_cons_succ, List.set_cons_zero] at hC ⊢
        gi_wp2
        exact hC
      case body =>
        rintro m l X pre xa Wa W hsz hXlt ⟨hbox, hm2, hF, kR, kE⟩ hpre hBa
        simp only [List.setIfInBounds_toArray, List.set_cons_succ, List.set_cons_zero]
        obtain ⟨x, rfl, hx⟩ := page_nat hcan hpre
        have hxm : (x : Int) ∈ pagesOf ps := hpre.subset (by simp)
        have hpl := pre_len hcan hpre
        have cP := hF.kP.cell
        have c0 := (hF.kL.cell (x * 2)).trans (hcs.cm x hx)
        by_cases hmc : mem (x : Int) C = true
        case neg =>
          have hmc' : mem (x : Int) C = false := by simpa using hmc
          have hsub : subF ps C = false := by
            cases h : subF ps C with
            | false => rfl
            | true => exact absurd ((subF_iff hcan).1 h _ hxm) hmc
          rw [hmc'] at c0
          have cR := kR.cell
          have cE := kE.cell
          have fR := kR.frozen
          have fE := kE.frozen
          clear hmc hmc' hbox
          gi_wp2_with fail
          obtain ⟨k2, k3, hf2⟩ := two_set (by omega) kR kE (.slice none 0 0) (.int .i64 4)
          refine ⟨hf2.mono fun k _ h => ?_, rfl, hsub, ⟨hf2.blk hF.kP (by omega), hf2.blk hF.kL (by omega), hF.below.trans (hf2.below (by have := hF.below.size; omega) (fun k hk => by omega)), Nat.le_trans hF.size hf2.size, hF.own⟩, k2, k3⟩
          rintro (h' | h' | h' | h')
          · have := hKs k h'; omega
          · have := hF.own k h'; omega
          · omega
          · omega
        case pos =>
          rw [hmc] at c0
          have hq1 : x / 16 < 64 := by omega
          obtain ⟨q, hq⟩ : ∃ q, x / 16 = q := ⟨_, rfl⟩
          have hq' : ((x : Int) / 16) = (q : Int) := by omega
          rw [hq] at hq1
          have g0 := (hF.kL.cell (2048 + q * 4)).trans (hcs.nm q hq1)
          have g1 := (hF.kL.cell (2048 + q * 4 + 1)).trans (hcs.gc q hq1)
          have g2 := (hF.kL.cell (2048 + q * 4 + 2)).trans (hcs.gl q hq1)
          have g3 := (hF.kL.cell (2048 + q * 4 + 3)).trans (hcs.gh q hq1)
          generalize grpF C (q : Int) = v1 at g1
          generalize grpF L (q : Int) = v2 at g2
          have hmn : ∀ p ∈ pre ++ [(x : Int)], mem p C = true := by
            intro p hp
            rcases List.mem_append.1 hp with h | h
            · exact hm2 p h
            · rw [List.mem_singleton.1 h]; exact hmc
          have hsn := Lib.hid (show splitG H (pre ++ [(x : Int)]) = if decide ((q : Int) ∈ H) && !decide ((q : Int) ∈ splitG H pre) then splitG H pre ++ [(q : Int)] else splitG H pre by
            rw [splitG_snoc, stepS, hq'])
          have hOl := splitG_len H pre
          obtain ⟨v, hv, hrow, hXB, hXg⟩ := hbox.ex
          obtain ⟨A', cap', rfl, hru⟩ := own_RIx hrow rfl
          generalize hO : splitG H pre = O at *
          have hO' := Lib.hid hO
          obtain ⟨hd, hhd⟩ : ∃ hd, decide ((q : Int) ∈ H) = hd := ⟨_, rfl⟩
          rw [hhd] at g3 hsn
          have hhd' := Lib.hid hhd
          clear hO hbox hmc hhd hm2
          obtain ⟨pl, hpl2⟩ : ∃ pl, O.length = pl := ⟨_, rfl⟩
          have cv := hv.cell
          have fv := hv.frozen
          rw [hpl2] at hrow hv cv hOl hXg
          have kX := Blk.new W 151 #[.int .i64 (q : Int), .int .i64 v1, .int .i64 v2, .bool hd]
          have cX := kX.cell
          have hbX : Below W.heap.size W (W.alloc (.cells #[.int .i64 (q : Int), .int .i64 v1, .int .i64 v2, .bool hd] 151)) := (Below.refl _ _).alloc (Nat.le_refl _) _
          have HC := Lib.hid (containsV_any (q : Int) A' pl cap' O (W.alloc (.cells #[.int .i64 (q : Int), .int .i64 v1, .int .i64 v2, .bool hd] 151)) hpl2 (by unfold maxLen; omega) (RI.on hru hbX))
          have same : splitG H (pre ++ [(x : Int)]) = O → ∀ W', Below W.heap.size W W' → Far (fun k => ¬ (K5 k ∨ X k ∨ k = w5.heap.size ∨ k = w5.heap.size + 1)) W W' ∧ (BoxX X W' Bo 50 3 (D + 2) 1 (splitG H (pre ++ [(x : Int)])).length ((splitG H (pre ++ [(x : Int)])).map (Value.int .i64)) ∧ (∀ p ∈ pre ++ [(x : Int)], mem p C = true) ∧ SplF w s D X Bp b cs W' ∧ Blk W' (s + 1) 50 #[.slice none 0 0] ∧ Blk W' (s + 2) 27 #[.int .i64 0]) := fun hE W' hb => by
            rw [hE, hpl2]
            exact ⟨.of_below hb, ⟨_, hv.call hb, ownsRow_call hrow hb, hXB, hXg⟩, hmn, ⟨hF.kP.call hb, hF.kL.call hb, hF.below.trans (hb.mono (by have := hF.below.size; omega)), Nat.le_trans hF.size hb.size, hF.own⟩, kR.call hb, kE.call hb⟩
          have same' := Lib.hid same
          clear same
          have cvX := (hv.call hbX).cell
          cases hd with
          | false =>
            have hE : Hid (splitG H (pre ++ [(x : Int)]) = O) := Lib.hid (by rw [hsn.out]; rfl)
            clear HC hsn
            gi_wp2_with fail
            exact same'.out hE.out _ hbX
          | true =>
            by_cases hin : (q : Int) ∈ O
            · rw [decide_eq_true hin] at HC hsn
              have hE : Hid (splitG H (pre ++ [(x : Int)]) = O) := Lib.hid (by rw [hsn.out]; rfl)
              clear hsn hin
              gi_wp2_with fail
              refine (CallsIn.inRound l (callsIn_wide.2 HC.out)).mono ?_
              rintro e w7 ⟨rfl, hw7⟩
              subst hw7
              gi_wp2_with fail
              exact same'.out hE.out _ hbX
            · rw [decide_eq_false hin] at HC hsn
              have hE : Hid (splitG H (pre ++ [(x : Int)]) = O ++ [(q : Int)]) := Lib.hid (by rw [hsn.out]; rfl)
              clear hsn hin same'
              gi_wp2_with fail
              refine (CallsIn.inRound l (callsIn_wide.2 HC.out)).mono ?_
              rintro e w7 ⟨rfl, hw7⟩
              subst hw7
              clear HC g0 g1 g2 g3 c0
              have hv7 := hv.call hbX
              have cX7 := cX
              have kR7 := kR.call hbX
              have kE7 := kE.call hbX
              have hF7 : SplF w s D X Bp b cs _ := ⟨hF.kP.call hbX, hF.kL.call hbX, hF.below.trans (hbX.mono (by have := hF.below.size; omega)), Nat.le_trans hF.size hbX.size, hF.own⟩
              have hrow7 := ownsRow_call hrow hbX
              have hlt7 : ∀ k, X k → k < (W.alloc (.cells #[.int .i64 (q : Int), .int .i64 v1, .int .i64 v2, .bool true] 151)).heap.size := fun k hk => by have := (hXlt k hk).1; have := hbX.size; omega
              have F7 : Far (fun k => ¬ (K5 k ∨ X k ∨ k = w5.heap.size ∨ k = w5.heap.size + 1)) W _ := .of_below hbX
              have hsz7 := hbX.size
              generalize W.alloc (.cells #[.int .i64 (q : Int), .int .i64 v1, .int .i64 v2, .bool true] 151) = w7 at *
              have kN := Blk.new w7 3 #[.int .i64 (q : Int)]
              have cv7 := hv7.cell
              have fv7 := hv7.frozen
              clear hv cv fv cX kX hrow hbX cvX
              gi_wp2_with (gi_at_builtin; refine wpListIn_append_x _ rfl (.tmp 52) (.tmp 55) 50 rfl (D + 2) 3 i0 (.int .i64 0) 1 8 Tryz.underlying50 hi hz0 hz1 hz2 rfl (by decide) _ pl (O.map (Value.int .i64)) rfl (hrow7.alloc _) ⟨w7.heap.size, 0, none⟩ 1 1 [.int .i64 (q : Int)] rfl rfl (news_i kN) ints_one (by unfold maxLen; omega) (by omega) (by simp; omega) ?_; intro v' w1 hown' hgrow hblk; rw [show O.map (Value.int .i64) ++ [Value.int .i64 (q : Int)] = (O ++ [(q : Int)]).map (Value.int .i64) by simp] at hown'; obtain ⟨hv1, hb2, hf2⟩ := BoxX.appended hv7 (by decide) hrow7 hXB hXg hown' hgrow hblk hlt7; obtain ⟨A2, cap2, rfl, _⟩ := own_RIx hown' (by simp; omega); have cv1 := hv1.cell; have fv1 := hv1.frozen)
              have hgx : ∀ g, (Value.slice A' pl cap').ownBlock = some g → D + 2 ≤ g ∧ ¬ X g := fun g hg => ⟨(hrow7.lt g hg).1, hXg g hg⟩
              have hf3 := hf2 (fun k => k = Bo ∨ (Value.slice A' pl cap').ownBlock = some k) (.inl rfl) (fun g hg => .inr hg)
              have hfn : ∀ k, k = Bo ∨ (Value.slice A' pl cap').ownBlock = some k → ¬ (K5 k ∨ X k ∨ k = w5.heap.size ∨ k = w5.heap.size + 1) := by
                intro k h
                rintro (h' | h' | h' | h')
                · have := hKs k h'
                  rcases h with h | h
                  · omega
                  · have := hgx k h; omega
                · rcases h with h | h
                  · exact hXB (h ▸ h')
                  · exact (hgx k h).2 h'
                · rcases h with h | h
                  · omega
                  · have := hgx k h; omega
                · rcases h with h | h
                  · omega
                  · have := hgx k h; omega
              have hfk : ∀ k, k < D → k ≠ Bo → ¬ (k = Bo ∨ (Value.slice A' pl cap').ownBlock = some k) := by
                rintro k hk hne (h | h)
                · exact hne h
                · have := hgx k h; omega
              refine ⟨F7.trans (hf3.mono fun k _ h => hfn k h), ?_, hmn, ⟨hf3.blk hF7.kP (hfk _ (by omega) (by omega)), hf3.blk hF7.kL (hfk _ (by omega) (by omega)), hF7.below.trans (hf3.below (by have := hF7.below.size; omega) fun k hk => hfk k (by omega) (by omega)), Nat.le_trans hF7.size hf3.size, hF7.own⟩, hf3.blk kR7 (hfk _ (by omega) (by omega)), hf3.blk kE7 (hfk _ (by omega) (by omega))⟩
              rw [hE.out, List.length_append, List.length_singleton, hpl2]; exact hb2
      case done =>
        rintro X W hsz ⟨hbox, hm2, hF, kR, kE⟩ hd
        have hsub : subF ps C = true := (subF_iff hcan).2 hm2
        have hA' : Hid (R = (splitG H (pagesOf ps), 0)) := Lib.hid (by rw [hA2.out, if_neg (by rw [hsub]; decide)])
        obtain ⟨v, hv, hrow, hXB, hXg⟩ := hbox.ex
        generalize splitG H (pagesOf ps) = G at *
        obtain ⟨A', cap', rfl, hru⟩ := own_RIx hrow rfl
        have cv := hv.cell
        have cR := kR.cell
        have cE := kE.cell
        have fR := kR.frozen
        have fE := kE.frozen
        rw [hD] at hd ⊢
        go_wp2_with fail
        obtain ⟨k2, k3, hf2⟩ := two_set (by omega) kR kE (.slice A' G.length cap') (.int .i64 0)
        have hd2 := hf2.same hd (by omega)
        have hB2 := hF.below.trans (hf2.below (by have := hF.below.size; omega) (fun k hk => by omega))
        have hrow2 := ownsRow_far hrow hf2 (fun g hg h => by have := (hrow.lt g hg).1; omega)
        generalize ((W.setCell ⟨s + 1, 0, none⟩ (.slice A' G.length cap')).setCell ⟨s + 2, 0, none⟩ (.int .i64 0)) = w9 at *
        have hfp : Far (fun k => k = D) w9 (w9.putObj D (.deferred none)) := Far.putObj (T := fun k => k = D) (Far.refl _ _) (fun _ => rfl) _
        have hrow3 := ownsRow_far hrow2 hfp (fun g hg h => by have := (hrow2.lt g hg).1; omega)
        have x1 := (hfp.blk k2 (by omega)).cell
        have x2 := (hfp.blk k3 (by omega)).cell
        obtain ⟨A2, cap2, he, hru, _, _, hfr, _⟩ := own_Rd hrow3
        cases he
        exact leave_mark (v := .tuple #[.slice A' G.length cap', .int .i64 0]) hd2 (by simp [results, Tryz.results63, go_sem, x1, x2]) (by rw [hA'.out]; exact ⟨A', cap', rfl, hru, fun b' o' h' => by have := hfr b' o' h'; have := hF.below.size; omega, by rw [hs]; exact hB2.trans (hfp.below (by have := hB2.size; omega) (fun k hk => by omega))⟩)
      case stop =>
        rintro c X pre W hsz hpre ⟨rfl, hsub, hF, kR, kE⟩ hd
        have hA' : Hid (R = ([], 4)) := Lib.hid (by rw [hA2.out, if_pos hsub])
        have hfp : Far (fun k => k = D) W (W.putObj D (.deferred none)) := Far.putObj (T := fun k => k = D) (Far.refl _ _) (fun _ => rfl) _
        have x1 := (hfp.blk kR (by omega)).cell
        have x2 := (hfp.blk kE (by omega)).cell
        rw [hD] at hd ⊢
        go_wp2_with fail
        exact leave_mark (v := .tuple #[.slice none 0 0, .int .i64 4]) hd (by simp [results, Tryz.results63, go_sem, x1, x2]) (by rw [hA'.out]; exact IntsN.err (by rw [hs]; exact hF.below.trans (hfp.below (by have := hF.below.size; omega) (fun k hk => by omega))))
    · have hc' : (chkS ps != 0) = true := by simpa using hc
      have hA' : Hid (R = ([], chkS ps)) := Lib.hid (by rw [hA1.out, if_pos hc])
      generalize chkS ps = ec at *
      clear hA1 hc
      go_wp2_with fail
      refine (HP.out _ hpr).mono ?_
      rintro e w3 ⟨rfl, hb3⟩
      have kRx := kR2.call hb3
      have kEx := kE2.call hb3
      have Bx := B2.trans (hb3.mono (by have := B2.size; omega))
      have z1 := kRx.cell
      have z2 := kEx.cell
      have y1 := kRx.frozen
      have y2 := kEx.frozen
      go_wp2_with fail
      obtain ⟨k4, k5, hf⟩ := two_set (by omega) kRx kEx (.slice none 0 0) (.int .i64 ec)
      have x1 := k4.cell
      have x2 := k5.cell
      exact leave_none (v := .tuple #[.slice none 0 0, .int .i64 ec]) (by simp [results, Tryz.results63, go_sem, x1, x2]) (by rw [hA'.out]; exact IntsN.err (by rw [hs]; exact Bx.trans (hf.below (by have := Bx.size; omega) (fun k hk => by omega))))
theorem split_any (S : Value) (C L : List Sp) (H : List Int) (A : Option Addr) (n cap : Nat) (ps : List Sp) (w : World) (hS : StIs w S C L H) (hn : ps.length = n) (hm : n ≤ maxLen) (hr : RU w w.heap.size A ps) :
    Calls Tryz.prog 63 #[S, .slice A n cap] w (IntsE (splitA C L H ps) w) :=
  (splitN_any S C L H A n cap ps w hS hn hm hr).mono fun _ _ h => h.e
end Go.Proofs.YtefnnfcfigcikaaGreat
