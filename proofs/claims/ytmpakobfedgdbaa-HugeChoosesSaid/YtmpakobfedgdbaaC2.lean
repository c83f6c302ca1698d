/- Merged texts. A region that draws its order: what reads cells that nobody writes ahead of it is taken first, however the others change the world; a condition on the world is asked only behind operations that may come ahead of it. Walks: the gaps of a set of spans in a span, Not. Plain laws on plans of guards: the runs of usable pages are a set; which pages they have; numbers of usable pages. Walks: Guards, Count, Nth, Index of layer 11. Walks: Hit and Least of layer 11. Walks: bits.Len of small numbers, Least of layer 11. Walks: the examples of the document for layer 11. Walks: the program's Has, the check of two sets, and Meet. Walks: the reference's set of marked pages. Walks: cmp.Compare[int], the order by the first page, join of a span to the last one. Walks: the reference's list of the pages of a set. Walks: of: spans sorted by their first pages and joined. Plain law: spans sorted by their first pages and joined are the set of their pages. Plain law: the set of any valid spans is the set of their pages. Walks: the reference's usable pages and guards as sets. Plain laws on plans of guards: the reference's sets are the program's; numbers of usable pages; what is hit. Plain law: the guards and the usable pages of a plan are disjoint, and together the range. Plain law: the usable pages of a plan by number: they ascend, lead back, and there are as many as their sum says; no run is longer than Every. Plain laws: how many pages of a span are in a set. Plain words for layer 13 (huge): what 'open' learns of a state, and when it does not. The kit's contracts for slices.SortFunc and slices.Grow, laid at this program in plain words (written by the kit's lay-plain; numbers of this seat). slices.SortFunc over spans, by their first pages: the kit's contract at this program, and what the slice owns behind it. The sort of spans at whatever length; of of whatever valid spans of the call's own. Walks: slices.Grow of nil, slices.Concat of two sets, Union. -/
import Derived.OrdersHeld
import Derived.Lib.BitFns
import Derived.Lib.Strings
import Derived.Lib.Small
import Derived.Lib.Walk
import Derived.Deep.MidRow
import Derived.Shelf.SlSortCmp.WholeK
import Derived.Shelf.SlSortCmp.NoneTotal
import Derived.Ground.SlsfProg
import Derived.Shelf.Spec.SlicesGrow
import Derived.Ground.Names8Prog
import Derived.Test.YtmpakobfedgdbaaProg
import Derived.Sort.OwnSortedInts
import Derived.Laws.AppendOwnNone
import Derived.Test.YtmpakobfedgdbaaC1
namespace Go.Pol
open Go Go.RowKit
section
variable {P : Program} {ops : Array Oper} {Q : Exit → Act → World → Prop} {md : Region.Mode} {S : World → Prop} {tl : List Nat}
def wpAnyT (P : Program) (md : Region.Mode) (ops : Array Oper) (Q : Exit → Act → World → Prop) (S : World → Prop) (tl : List Nat) : Nat → Array Bool → Act → World → Prop
  | 0, listed, a, w => Region.ready md ops listed = [] ∧ Q .normal a w
  | fuel + 1, listed, a, w =>
    (Region.ready md ops listed = [] → Q .normal a w) ∧
    ∀ i ∈ Region.ready md ops listed, wpOp P ops Q i (fun a' w' => (tl.contains i = false → S w') ∧ wpAnyT P md ops Q S tl fuel (listed.setIfInBounds i true) a' w') a w
theorem wpAny_of_T : ∀ (fuel : Nat) (listed : Array Bool) (a : Act) (w : World), wpAnyT P md ops Q S tl fuel listed a w → wpAny P md ops Q fuel listed a w
  | 0, _, _, _, h => h
  | fuel + 1, _, _, _, h => ⟨h.1, fun i hi => wpOp_mono (fun a' w' h' => wpAny_of_T fuel _ a' w' h'.2) (h.2 i hi)⟩
/-- the operations below number n that wait for number i, at first or at second hand -/
def waitB (md : Region.Mode) (ops : Array Oper) (i n : Nat) (l : List Nat) : Bool :=
  match ops[n]? with
  | some o => o.after.any (fun e => Region.binds md e && (e.on == i || l.contains e.on))
  | none => false
def waitsL (md : Region.Mode) (ops : Array Oper) (i : Nat) : Nat → List Nat
  | 0 => []
  | n + 1 => if waitB md ops i n (waitsL md ops i n) = true then n :: waitsL md ops i n else waitsL md ops i n
def Closed (md : Region.Mode) (ops : Array Oper) (listed : Array Bool) : Prop :=
  ∀ j oj, ops[j]? = some oj → listed.getD j false = true → ∀ e ∈ oj.after, Region.binds md e = true → listed.getD e.on false = true
def closedB (md : Region.Mode) (ops : Array Oper) (listed : Array Bool) : Bool :=
  (List.range ops.size).all fun j => !listed.getD j false || (match ops[j]? with | some oj => oj.after.all (fun e => !Region.binds md e || listed.getD e.on false) | none => true)
theorem closed_of {listed : Array Bool} (h : closedB md ops listed = true) : Closed md ops listed := by
  intro j oj hj hl e he hb
  have hjs := (Array.getElem?_eq_some_iff.1 hj).1
  have h1 := List.all_eq_true.1 h j (List.mem_range.2 hjs)
  simp only [hl, Bool.not_true, Bool.false_or, hj] at h1
  have h2 := Array.all_eq_true'.1 h1 e he
  simpa [hb] using h2
theorem Closed.set {listed : Array Bool} {i : Nat} (h : Closed md ops listed) (hi : i ∈ Region.ready md ops listed) : Closed md ops (listed.setIfInBounds i true) := by
  obtain ⟨_, oi, hoi, hall⟩ := mem_ready.1 hi
  intro j oj hj hl e he hb
  by_cases hij : i = j
  · subst hij
    have : oj = oi := Option.some.inj (hj.symm.trans hoi)
    subst this
    exact getD_set_true (hall e he hb)
  · rw [getD_set_ne false hij] at hl
    exact getD_set_true (h j oj hj hl e he hb)
theorem waits_not {listed : Array Bool} {i : Nat} (hc : Closed md ops listed) (hun : listed.getD i false = false) : ∀ n, ∀ t ∈ waitsL md ops i n, listed.getD t false = false ∧ t ∉ Region.ready md ops listed
  | 0, t, ht => by simp [waitsL] at ht
  | n + 1, t, ht => by
    unfold waitsL at ht
    split at ht
    · rename_i hw
      rcases List.mem_cons.1 ht with e | e
      · subst e
        unfold waitB at hw
        split at hw
        · rename_i o ho
          obtain ⟨e, he, hb⟩ := Array.any_eq_true'.1 hw
          simp only [Bool.and_eq_true, Bool.or_eq_true, beq_iff_eq] at hb
          have hno : listed.getD e.on false = false := by
            rcases hb.2 with h | h
            · rw [h]; exact hun
            · exact (waits_not hc hun t e.on (by simpa using h)).1
          refine ⟨?_, fun hr => ?_⟩
          · cases hl : listed.getD t false with
            | false => rfl
            | true => have := hc t o ho hl e he hb.1; rw [hno] at this; cases this
          · obtain ⟨_, o', ho', hall⟩ := mem_ready.1 hr
            have : o' = o := Option.some.inj (ho'.symm.trans ho)
            subst this
            have := hall e he hb.1
            rw [hno] at this; cases this
        · cases hw
      · exact waits_not hc hun n t e
    · exact waits_not hc hun n t ht
theorem wpAnyT_first {i : Nat} {oi : Oper} {v : Value} (hi : ops[i]? = some oi) (hsel : ∀ (j : Nat) (o : Oper) cs b, ops[j]? = some o → o.op ≠ .select cs b)
    (hQ : ∀ c a w, Q (.panic c) (a.put oi.dst v) w → Q (.panic c) a w) (htl : ∀ t ∈ tl, t ∈ waitsL md ops i ops.size) :
    ∀ (fuel : Nat) (listed : Array Bool) (a : Act) (w : World), Closed md ops listed →
      (∀ j oj, ops[j]? = some oj → j ≠ i → listed.getD j true = false → (∀ e ∈ oj.after, Region.binds md e = true → e.on ≠ i) → oi.apart ops oj = true) →
      i ∈ Region.ready md ops listed → YieldsIf P ops S oi v a → S w →
      wpAnyT P md ops Q S tl fuel (listed.setIfInBounds i true) (a.put oi.dst v) w → wpAnyT P md ops Q S tl (fuel + 1) listed a w := by
  intro fuel
  induction fuel with
  | zero =>
    intro listed a w hcl _ hr hy hS H
    refine ⟨fun h => (by rw [h] at hr; cases hr), fun j hj => ?_⟩
    by_cases hji : j = i
    · subst hji; exact hy.wpOp hi hS ⟨fun _ => hS, H⟩
    · have := ready_mono hj hji
      rw [H.1] at this
      cases this
  | succ fuel ih =>
    intro listed a w hcl hfree hr hy hS H
    refine ⟨fun h => (by rw [h] at hr; cases hr), fun j hj => ?_⟩
    by_cases hji : j = i
    · subst hji; exact hy.wpOp hi hS ⟨fun _ => hS, H⟩
    · have h1 := H.2 j (ready_mono hj hji)
      obtain ⟨hjun, oj, hoj, hall⟩ := mem_ready.1 hj
      have hun : listed.getD i false = false := getD_both (mem_ready.1 hr).1
      have hntl : tl.contains j = false := by
        cases h : tl.contains j with
        | false => rfl
        | true => exact absurd hj (waits_not hcl hun _ j (htl j (by simpa using h))).2
      have hnot : ∀ e ∈ oj.after, Region.binds md e = true → e.on ≠ i := fun e he hb heq => by
        have h1 := hall e he hb
        rw [heq, hun] at h1
        cases h1
      have h2 := wpOp_putIf hoj (hfree j oj hoj hji hjun hnot) (fun cs b => hsel i oi cs b hi) (fun cs b => hsel j oj cs b hoj) hQ hy h1
      have hfree' : ∀ k ok, ops[k]? = some ok → k ≠ i → (listed.setIfInBounds j true).getD k true = false →
          (∀ e ∈ ok.after, Region.binds md e = true → e.on ≠ i) → oi.apart ops ok = true := fun k ok hk hki hun hno => by
        refine hfree k ok hk hki ?_ hno
        by_cases hjk : j = k
        · subst hjk; exact hjun
        · rw [getD_set_ne true hjk] at hun; exact hun
      refine wpOp_mono (fun a' w' h3 => ⟨h3.2.1, ih (listed.setIfInBounds j true) a' w' (hcl.set hj) hfree' (ready_mono hr (Ne.symm hji)) h3.1 (h3.2.1 hntl) ?_⟩) h2
      rw [Array.setIfInBounds_comm _ _ hji]
      exact h3.2.2
/-- number 'i' first -/
theorem wpAnyT_take {i : Nat} {oi : Oper} {v : Value} {fuel : Nat} {listed : Array Bool} {a : Act} {w : World} (hi : ops[i]? = some oi)
    (hB : (Region.noSelect ops && Region.free md ops listed i && (Region.ready md ops listed).contains i && closedB md ops listed && tl.all (fun t => (waitsL md ops i ops.size).contains t)) = true)
    (hQ : ∀ c a w, Q (.panic c) (a.put oi.dst v) w → Q (.panic c) a w) (hy : YieldsIf P ops S oi v a) (hS : S w)
    (h : wpAnyT P md ops Q S tl fuel (listed.setIfInBounds i true) (a.put oi.dst v) w) : wpAnyT P md ops Q S tl (fuel + 1) listed a w := by
  simp only [Bool.and_eq_true] at hB
  obtain ⟨⟨⟨⟨h1, h2⟩, h3⟩, h4⟩, h5⟩ := hB
  exact wpAnyT_first hi (Region.noSelect_spec h1) hQ (fun t ht => by simpa using List.all_eq_true.1 h5 t ht) fuel listed a w (closed_of h4) (Region.free_spec hi h2) (by simpa using h3) hy hS h
def AllReadyT (P : Program) (md : Region.Mode) (ops : Array Oper) (Q : Exit → Act → World → Prop) (S : World → Prop) (tl : List Nat) (fuel : Nat) (listed : Array Bool) (a : Act) (w : World) (rs : List Nat) : Prop :=
  ∀ i ∈ rs, wpOp P ops Q i (fun a' w' => (tl.contains i = false → S w') ∧ wpAnyT P md ops Q S tl fuel (listed.setIfInBounds i true) a' w') a w
theorem AllReadyT.nil {fuel : Nat} {listed : Array Bool} {a : Act} {w : World} : AllReadyT P md ops Q S tl fuel listed a w [] := fun _ h => by cases h
theorem AllReadyT.cons {fuel : Nat} {listed : Array Bool} {a : Act} {w : World} {i : Nat} {o : Oper} {rs : List Nat} (ho : ops[i]? = some o)
    (h : ∀ K' : Act → World → Prop, Hid (∀ a w, (tl.contains i = false → S w) → ((tl.contains i = false → S w) → wpAnyT P md ops Q S tl fuel (listed.setIfInBounds i true) a w) → K' a w) → if Region.wanted o (yielded ops a.tmps) = true then Oper.wp P o a w K' Q else K' (a.put o.dst undef) w)
    (hs : AllReadyT P md ops Q S tl fuel listed a w rs) : AllReadyT P md ops Q S tl fuel listed a w (i :: rs) := fun j hj => by
  rcases List.mem_cons.1 hj with rfl | hj
  · exact wpOp_step ho (fun K' hK => h K' (fun a w hS hW => hK a w ⟨hS, hW hS⟩))
  · exact hs j hj
theorem wpAnyT_ready {rs : List Nat} {fuel : Nat} {listed : Array Bool} {a : Act} {w : World} (hr : Region.ready md ops listed = rs) (hne : rs ≠ [])
    (h : AllReadyT P md ops Q S tl fuel listed a w rs) : wpAnyT P md ops Q S tl (fuel + 1) listed a w :=
  ⟨fun h0 => absurd (hr ▸ h0) hne, hr ▸ h⟩
theorem wpAnyT_done {listed : Array Bool} {a : Act} {w : World} (hr : Region.ready md ops listed = []) (h : Q .normal a w) : ∀ fuel, wpAnyT P md ops Q S tl fuel listed a w
  | 0 => ⟨hr, h⟩
  | _ + 1 => ⟨fun _ => h, by rw [hr]; simp⟩
theorem wp_region_T {id : Nat} {a : Act} {w : World} (S : World → Prop) (tl : List Nat) (hm : P.follows .mixedOrders = true) (h : wpAnyT P .any ops Q S tl ops.size (Array.replicate ops.size false) a w.drew) : (Code.region id ops true).wp P Q a w :=
  wp_region_any hm (wpAny_of_T _ _ _ _ h)
end
end Go.Pol
namespace Go.Pol
open Go Go.RowKit
/-- one round of 'gaps': what is out, and the next page -/
def gst (s : List Sp × Int) (x : Sp) : List Sp × Int := (if s.2 < x.1 then s.1 ++ [(s.2, x.1 - s.2)] else s.1, x.1 + x.2)
def gfold (n : Int) (l : List Sp) : List Sp × Int := l.foldl gst ([], n)
theorem gfold_snoc (n : Int) (l : List Sp) (x : Sp) : gfold n (l ++ [x]) = gst (gfold n l) x := by simp [gfold]
def gfin (s : List Sp × Int) (e : Int) : List Sp := s.1 ++ (if s.2 < e then [(s.2, e - s.2)] else [])
theorem gst_fold : ∀ (l : List Sp) (acc : List Sp) (n e : Int), gfin (l.foldl gst (acc, n)) e = acc ++ gapsL n e l
  | [], acc, n, e => rfl
  | x :: r, acc, n, e => by
    rw [List.foldl_cons, show gst (acc, n) x = (if n < x.1 then acc ++ [(n, x.1 - n)] else acc, x.1 + x.2) from rfl, gst_fold r, gapsL]
    split <;> simp
theorem gfold_gaps (l : List Sp) (n e : Int) : gfin (gfold n l) e = gapsL n e l := by
  rw [gfold, gst_fold, List.nil_append]
theorem gfold_next : ∀ (l : List Sp) (n : Int), 0 ≤ n ∧ n ≤ 1024 → (∀ x ∈ l, vld x = true) → 0 ≤ (gfold n l).2 ∧ (gfold n l).2 ≤ 1024 := by
  intro l n hn hv
  rcases List.eq_nil_or_concat l with rfl | ⟨r, x, rfl⟩
  · exact hn
  · rw [List.concat_eq_append, gfold_snoc]
    have := vld_iff.1 (hv x (by simp [List.concat_eq_append]))
    simp only [gst]; omega
theorem gfold_len : ∀ (l : List Sp) (acc : List Sp) (n : Int), (l.foldl gst (acc, n)).1.length ≤ acc.length + l.length
  | [], acc, n => by simp
  | x :: r, acc, n => by
    simp only [List.foldl_cons]
    refine Nat.le_trans (gfold_len r _ _) ?_
    show (if n < x.1 then acc ++ [(n, x.1 - n)] else acc).length + r.length ≤ _
    split <;> simp <;> omega
/-- a walk that cannot panic -/
def noPanic (Q : Exit → Act → World → Prop) (e : Exit) (a : Act) (w : World) : Prop := match e with | .panic _ => False | e => Q e a w
theorem noPanic_normal {Q : Exit → Act → World → Prop} {a : Act} {w : World} (h : Q .normal a w) : noPanic Q .normal a w := h
theorem wp_noPanic {P : Program} {c : Code} {Q : Exit → Act → World → Prop} {a : Act} {w : World} (h : c.wp P (noPanic Q) a w) : c.wp P Q a w :=
  (wpIn_wide (n := 0)).1 (wpIn_mono (wpIn_wide.2 h) fun e a w hq => by
    cases e with
    | panic c => exact hq.elim
    | _ => exact hq)
/-- what the region behind the loop of 'gaps' reads -/
def GapS (s : Nat) (p q nx : Int) (v : Value) (w : Go.World) : Prop :=
  w.cell? ⟨s, 0, none⟩ = some (.int .i64 p) ∧ w.cell? ⟨s, 1, none⟩ = some (.int .i64 q) ∧ w.cell? ⟨s + 2, 0, none⟩ = some (.int .i64 nx) ∧ w.cell? ⟨s + 1, 0, none⟩ = some v
theorem GapS.later {s : Nat} {p q nx : Int} {v : Value} {w w' : Go.World} {B : Nat} (h : GapS s p q nx v w) (hb : Below B w w') (hB : s + 2 < B) : GapS s p q nx v w' :=
  ⟨(hb.cell (p := ⟨s, 0, none⟩) (by show s < B; omega)).trans h.1, (hb.cell (p := ⟨s, 1, none⟩) (by show s < B; omega)).trans h.2.1, (hb.cell (p := ⟨s + 2, 0, none⟩) hB).trans h.2.2.1, (hb.cell (p := ⟨s + 1, 0, none⟩) (by show s + 1 < B; omega)).trans h.2.2.2⟩
theorem prefix_mem {α : Type} {pre xs : List α} (h : pre <+: xs) {x : α} (hx : x ∈ pre) : x ∈ xs := h.subset hx
end Go.Pol
namespace Go.Proofs.Ytmpakobfedgdbaa
open Go Go.Proofs Go.RowKit Go.Pol Go.Shelf
attribute [local go_sem] Oper.semAt_some Go.Pol.wide_fn Go.Pol.wide_depth Go.Pol.wide_fn' Go.Pol.wide_depth'

/-- what hands back a slice of spans of its own and an error -/
def SpansOwn (w : World) (us : List Sp) (er : Int) (e : Ending) (w' : World) : Prop :=
  ∃ (A : Option Addr) (cap : Nat), e = .returned (.tuple #[.slice A us.length cap, .int .i64 er]) ∧ RU w' w'.heap.size A us ∧ us.length ≤ cap ∧ cap ≤ maxLen ∧ (∀ b o, A = some ⟨b, o, none⟩ → w.heap.size ≤ b) ∧ Below w.heap.size w w' ∧ (A = none → cap = 0)
end Go.Proofs.Ytmpakobfedgdbaa
namespace Go.Pol
open Go
theorem runsF_ok (sz en : Int) (hsz : 1 ≤ sz) : ∀ (k : Nat) (a : Int), en - a < k →
    (∀ x ∈ runsF sz en k a, a ≤ x.1 ∧ 1 ≤ x.2 ∧ x.1 + x.2 ≤ en) ∧ formOk (a - 1) (runsF sz en k a) = true ∧ (∀ q : Int, mem q (runsF sz en k a) = true ↔ (a ≤ q ∧ q < en) ∧ (q - a + 1) % (sz + 1) ≠ 0)
  | 0, a, h => ⟨by simp [runsF], rfl, fun q => by simp [runsF, mem_nil]; omega⟩
  | k + 1, a, h => by
    rw [runsF]
    by_cases hlt : a < en
    · rw [if_pos hlt]
      obtain ⟨h1, h2, h3⟩ := runsF_ok sz en hsz k (a + sz + 1) (by omega)
      refine ⟨fun x hx => ?_, ?_, fun q => ?_⟩
      · rcases List.mem_cons.1 hx with rfl | hx
        · simp only; omega
        · have := h1 x hx; omega
      · rw [formOk_cons]
        exact ⟨by simp only; omega, formOk_le h2 (by simp only; omega)⟩
      · rw [mem_cons', h3 q]
        simp only
        have e : (q - (a + sz + 1) + 1) % (sz + 1) = (q - a + 1) % (sz + 1) := by
          rw [show q - a + 1 = (q - (a + sz + 1) + 1) + (sz + 1) by omega, Int.add_emod_right]
        rw [e]
        by_cases hq : q < a
        · constructor
          · rintro (h | ⟨h, _⟩) <;> omega
          · rintro ⟨h, _⟩; omega
        by_cases hq2 : q < a + sz
        · have em : (q - a + 1) % (sz + 1) = q - a + 1 := Int.emod_eq_of_lt (by omega) (by omega)
          rw [em]; omega
        by_cases hq3 : q = a + sz
        · have em : (q - a + 1) % (sz + 1) = 0 := by rw [hq3, show a + sz - a + 1 = sz + 1 by omega, Int.emod_self]
          rw [em]; omega
        · constructor
          · rintro (h | ⟨h, h'⟩)
            · omega
            · exact ⟨by omega, h'⟩
          · rintro ⟨h, h'⟩; exact .inr ⟨by omega, h'⟩
    · rw [if_neg hlt]
      exact ⟨by simp, rfl, fun q => by simp [mem_nil]; omega⟩
section
variable {pg n f b ev : Int}
theorem runsL_ok (hp : PlanOk pg n f b ev) : (∀ x ∈ runsL pg n f b ev, pg + f ≤ x.1 ∧ 1 ≤ x.2 ∧ x.1 + x.2 ≤ pg + n - b) ∧ formOk (pg + f - 1) (runsL pg n f b ev) = true ∧
    (∀ q : Int, mem q (runsL pg n f b ev) = true ↔ (pg + f ≤ q ∧ q < pg + n - b) ∧ (q - (pg + f) + 1) % ((if ev = 0 then 1024 else ev) + 1) ≠ 0) := by
  have h := runsF_ok (if ev = 0 then 1024 else ev) (pg + n - b) (by have := hp.e0; split <;> omega) 1025 (pg + f) (by have := hp.n1; have := hp.pg0; have := hp.f0; have := hp.b0; omega)
  exact h
theorem runsL_can (hp : PlanOk pg n f b ev) : Go.Pol.Can (runsL pg n f b ev) := by
  obtain ⟨h1, h2, _⟩ := runsL_ok hp
  have a1 := hp.pg0; have a2 := hp.n1; have a3 := hp.f0; have a4 := hp.b0
  refine ⟨fun x hx => ?_, formOk_le h2 (by omega)⟩
  have := h1 x hx
  rw [vld_iff]; omega
theorem kindG_zero (hp : PlanOk pg n f b ev) (q : Int) : kindG pg n f b ev q = 0 ↔ mem q (runsL pg n f b ev) = true := by
  obtain ⟨a1, a2, a3, a4, a5, a6, a7, a8, a9, a10, a11⟩ := hp
  rw [(runsL_ok ⟨a1, a2, a3, a4, a5, a6, a7, a8, a9, a10, a11⟩).2.2 q]
  unfold kindG
  by_cases h1 : q - pg < 0 ∨ n ≤ q - pg
  · rw [if_pos h1]; constructor
    · intro h; cases h
    · rintro ⟨h, _⟩; omega
  rw [if_neg h1]
  by_cases h2 : q - pg < f
  · rw [if_pos h2]; constructor
    · intro h; cases h
    · rintro ⟨h, _⟩; omega
  rw [if_neg h2]
  by_cases h3 : n - b ≤ q - pg
  · rw [if_pos h3]; constructor
    · intro h; cases h
    · rintro ⟨h, _⟩; omega
  rw [if_neg h3, show q - (pg + f) + 1 = q - pg - f + 1 by omega]
  by_cases h0 : ev = 0
  · subst h0
    rw [if_neg (by omega), if_pos rfl]
    have : (q - pg - f + 1) % (1024 + 1) = q - pg - f + 1 := Int.emod_eq_of_lt (by omega) (by omega)
    rw [this]; omega
  · rw [if_neg h0]
    by_cases h4 : (q - pg - f + 1) % (ev + 1) = 0
    · rw [if_pos ⟨by omega, h4⟩]; constructor
      · intro h; cases h
      · rintro ⟨_, h⟩; exact absurd h4 h
    · rw [if_neg (fun h => h4 h.2)]
      exact ⟨fun _ => ⟨by omega, h4⟩, fun _ => rfl⟩
end

def sumS (l : List Sp) : Int := (l.map (·.2)).sum
theorem sumS_snoc (l : List Sp) (x : Sp) : sumS (l ++ [x]) = sumS l + x.2 := by simp [sumS]
theorem sumS_bound : ∀ (l : List Sp), (∀ x ∈ l, vld x = true) → 0 ≤ sumS l ∧ sumS l ≤ 1024 * l.length
  | [], _ => by simp [sumS]
  | x :: r, h => by
    have := sumS_bound r (fun y hy => h y (by simp [hy]))
    have hx := vld_iff.1 (h x (by simp))
    simp only [sumS, List.map_cons, List.sum_cons, List.length_cons] at this ⊢
    omega
/-- the usable page with a number -/
def nthF : List Sp → Int → Int × Int
  | [], _ => (0, 7)
  | x :: r, i => if i < 0 then (0, 7) else if i < x.2 then (x.1 + i, 0) else nthF r (i - x.2)
/-- the number of a usable page -/
def idxF (page : Int) : Int → List Sp → Int × Int
  | _, [] => (0, 4)
  | n, x :: r => if x.1 ≤ page ∧ page < x.1 + x.2 then (n + page - x.1, 0) else idxF page (n + x.2) r
/-- where the run with a page ends; the page itself if it is in none -/
def skipF (page : Int) : List Sp → Int
  | [] => page
  | x :: r => if x.1 ≤ page ∧ page < x.1 + x.2 then x.1 + x.2 else skipF page r
def pagesOf (l : List Sp) : List Int := l.flatMap fun x => (List.range x.2.toNat).map fun (k : Nat) => x.1 + (k : Int)
theorem nthF_step {L pre rest : List Sp} {i : Int} {x : Sp} (h : nthF L i = nthF (x :: rest) (i - sumS pre)) (h1 : ¬ i - sumS pre < 0) (h2 : ¬ i - sumS pre < x.2) : nthF L i = nthF rest (i - sumS (pre ++ [x])) := by
  rw [h, nthF, if_neg h1, if_neg h2, sumS_snoc]
  congr 1; omega
theorem idxF_step {L pre rest : List Sp} {page : Int} {x : Sp} (h : idxF page 0 L = idxF page (sumS pre) (x :: rest)) (h1 : ¬ (x.1 ≤ page ∧ page < x.1 + x.2)) : idxF page 0 L = idxF page (sumS (pre ++ [x])) rest := by
  rw [h, idxF, if_neg h1, sumS_snoc]
theorem skipF_step {L rest : List Sp} {page : Int} {x : Sp} (h : skipF page L = skipF page (x :: rest)) (h1 : ¬ (x.1 ≤ page ∧ page < x.1 + x.2)) : skipF page L = skipF page rest := by
  rw [h, skipF, if_neg h1]
theorem prefix_cons {α : Type} {pre xs : List α} {x : α} (h : pre ++ [x] <+: xs) : ∃ rest, xs = pre ++ x :: rest := by
  obtain ⟨rest, h⟩ := h
  exact ⟨rest, by rw [← h]; simp⟩
end Go.Pol
namespace Go.Proofs.Ytmpakobfedgdbaa
open Go Go.Proofs Go.RowKit Go.Pol Go.Shelf
attribute [local go_sem] Oper.semAt_some Go.Pol.wide_fn Go.Pol.wide_depth Go.Pol.wide_fn' Go.Pol.wide_depth'

/-- what Guards answers -/
def guardsF (pg n f b ev : Int) : List Sp := if chkG pg n f b ev = 0 then gapsF (runsL pg n f b ev) (pg, n) else []
theorem ask_runs {pg n f b ev : Int} (hp : PlanOk pg n f b ev) : askS (runsL pg n f b ev) (pg, n) = 0 := by
  rw [askS, if_pos (chkS_zero.2 (runsL_can hp)), if_pos (vld_iff.2 ⟨hp.pg0, hp.pg1, hp.n0, hp.n1⟩)]

/-- what the region behind the loop of Count reads -/
def CntS (s : Nat) (n sm : Int) (w : World) : Prop := w.cell? ⟨s + 1, 0, none⟩ = some (.int .i64 sm) ∧ w.cell? ⟨s, 1, none⟩ = some (.int .i64 n)
def countF (pg n f b ev : Int) : Int × Int := if chkG pg n f b ev = 0 then (sumS (runsL pg n f b ev), n - sumS (runsL pg n f b ev)) else (0, 0)

end Go.Proofs.Ytmpakobfedgdbaa
namespace Go.Pol
/-- what is hit at a page that is not usable -/
def hitK (pg n f b q : Int) : Int := if q < pg ∨ pg + n ≤ q then 4 else if q < pg + f then 1 else if pg + n - b ≤ q then 2 else 3
def badHit (a m : Int) : Prop := a < 0 ∨ 65536 < a ∨ m < 1 ∨ 65536 - a < m
instance badHitDec (a m : Int) : Decidable (badHit a m) := by unfold badHit; infer_instance
def hitF (pg n f b ev a m : Int) : Int × Int × Int :=
  if chkG pg n f b ev = 0 then
    if badHit a m then (0, 0, 2)
    else if (a + m - 1) / 64 < skipF (a / 64) (runsL pg n f b ev) then (0, -1, 0)
    else (hitK pg n f b (skipF (a / 64) (runsL pg n f b ev)), skipF (a / 64) (runsL pg n f b ev), 0)
  else (0, 0, chkG pg n f b ev)
theorem skipF_bound : ∀ (l : List Sp) (p : Int), (∀ x ∈ l, vld x = true) → 0 ≤ p ∧ p ≤ 1024 → 0 ≤ skipF p l ∧ skipF p l ≤ 1024
  | [], p, _, h => h
  | x :: r, p, hv, h => by
    have := vld_iff.1 (hv x (by simp))
    rw [skipF]; split
    · omega
    · exact skipF_bound r p (fun y hy => hv y (by simp [hy])) h
end Go.Pol
namespace Go.Proofs.Ytmpakobfedgdbaa
open Go Go.Proofs Go.RowKit Go.Pol Go.Shelf
attribute [local go_sem] Oper.semAt_some Go.Pol.wide_fn Go.Pol.wide_depth Go.Pol.wide_fn' Go.Pol.wide_depth'

end Go.Proofs.Ytmpakobfedgdbaa
namespace Go.Pol
def badLeast (u f b ev : Int) : Prop := u < 1 ∨ 1024 < u ∨ wrongG f b ev = true
instance badLeastDec (u f b ev : Int) : Decidable (badLeast u f b ev) := by unfold badLeast; infer_instance
def leastP (u f b ev : Int) : Int := u + f + b + (if 0 < ev then (u - 1) / ev else 0)
def leastF (u f b ev : Int) : Int × Int × Int :=
  if badLeast u f b ev then (0, 0, 7) else if 1024 < leastP u f b ev then (0, 0, 7) else (leastP u f b ev, (Lib.bitLen (leastP u f b ev - 1).toNat : Int), 0)
theorem tab_size : Lib.len8tab.size = 256 := by decide +kernel
theorem tab_fin : ∀ i : Fin 256, ((Lib.len8tab[i.val]?).map UInt8.toNat).getD 0 = Lib.bitLen i.val := by decide +kernel
theorem tab_get (i : Nat) (h : i < Lib.len8tab.size) : (Lib.len8tab[i]'h).toNat = Lib.bitLen i := by
  have h2 : i < 256 := by rw [← tab_size]; exact h
  have := tab_fin ⟨i, h2⟩
  simpa [getElem?_pos Lib.len8tab i h] using this
end Go.Pol
namespace Go.Proofs.Ytmpakobfedgdbaa
open Go Go.Proofs Go.RowKit Go.Pol

set_option maxHeartbeats 4000000 in
set_option maxRecDepth 100000 in
theorem len64_any (x : Int) (w : World) (h0 : 0 ≤ x) (h1 : x ≤ 4000) :
    Calls Try.prog 90 #[.int .u64 x] w fun e w' => e = .returned (.int .i64 (Lib.bitLen x.toNat : Nat)) ∧ w = w' := by
  have q1 : decide (4294967296 ≤ x) = false := by simp; omega
  have q2 : decide (65536 ≤ x) = false := by simp; omega
  obtain ⟨L, hL⟩ : ∃ L : Int, ((Lib.bitLen x.toNat : Nat) : Int) = L := ⟨_, rfl⟩
  rw [hL]
  have hL' := Lib.hid hL
  clear hL
  by_cases hx : 256 ≤ x
  · have q3 : decide (256 ≤ x) = true := by simpa using hx
    have hsz : (x / 256).toNat < Lib.len8tab.size := by rw [tab_size]; omega
    have hb := Lib.bitLen_le8' (x / 256) (by omega) (by omega)
    have hs := Lib.hid (Lib.bitLen_shift8 x.toNat (by omega) (by omega))
    have ht := Lib.hid (show (x / 256).toNat = x.toNat / 256 by omega)
    have hg := Lib.hid (tab_get (x / 256).toNat hsz)
    go_enter Try.func90, Try.ntmps90
    go_wp2
    go_ret
    simp only [Array.getD, List.size_toArray, List.length_cons, List.length_nil]
    refine ⟨?_, by first | trivial | rfl⟩
    simp
    rw [hg.out, ← hL'.out, hs.out, ← ht.out]
    simp only [wrap64]
    omega
  · have q3 : decide (256 ≤ x) = false := by simpa using hx
    have hsz : x.toNat < Lib.len8tab.size := by rw [tab_size]; omega
    have hb := Lib.bitLen_le8' x (by omega) (by omega)
    have hg := Lib.hid (tab_get x.toNat hsz)
    go_enter Try.func90, Try.ntmps90
    go_wp2
    go_ret
    refine ⟨?_, by first | trivial | rfl⟩
    simp
    rw [hg.out, ← hL'.out]
    simp only [wrap64]
    omega

theorem len_any (x : Int) (w : World) (h0 : 0 ≤ x) (h1 : x ≤ 4000) :
    Calls Try.prog 79 #[.int .u64 x] w fun e w' => e = .returned (.int .i64 (Lib.bitLen x.toNat : Nat)) ∧ w = w' := by
  have HL := Lib.hid (fun W => len64_any x W h0 h1)
  generalize (Lib.bitLen x.toNat : Nat) = L at *
  go_enter Try.func79, Try.ntmps79
  go_wp2_with (go_at_call 90; refine (HL.out _).mono ?_; rintro e w' ⟨rfl, rfl⟩)
  go_ret
  exact ⟨rfl, rfl⟩

end Go.Proofs.Ytmpakobfedgdbaa
namespace Go.Pol
open Go Go.RowKit
theorem ru_blkL {w : World} {B : Nat} {t : TypeId} {us : List Sp} {cs : Array Value} (h : Blk w B t cs) (hc : cs = (spCells us).toArray) : RU w w.heap.size (some ⟨B, 0, none⟩) us := fun k hk => by
  subst hc
  obtain ⟨h1, h2⟩ := spCells_at us k hk
  refine ⟨B, 0, rfl, h.lt, ?_, ?_⟩
  · rw [Nat.zero_add, h.cell]; simpa using h1
  · rw [Nat.zero_add, h.cell]; simpa using h2
theorem RU.on {w w' : World} {A : Option Addr} {us : List Sp} (h : RU w w.heap.size A us) (hb : Below w.heap.size w w') : RU w' w'.heap.size A us := (h.below hb).more hb.size
end Go.Pol
namespace Go.Proofs.Ytmpakobfedgdbaa
open Go Go.Proofs Go.RowKit Go.Pol
theorem ex_chk : chkG 8 12 1 2 3 = 0 := by decide +kernel
theorem ex_runs : runsL 8 12 1 2 3 = [(9, 3), (13, 3), (17, 1)] := by decide +kernel
theorem ex_guards : guardsF 8 12 1 2 3 = [(8, 1), (12, 1), (16, 1), (18, 2)] := by decide +kernel
theorem ex_nth : (if chkG 8 12 1 2 3 = 0 then nthF (runsL 8 12 1 2 3) 3 else (0, chkG 8 12 1 2 3)) = (13, 0) := by decide +kernel
theorem ex_idx : (if chkG 8 12 1 2 3 = 0 then idxF 17 0 (runsL 8 12 1 2 3) else (0, chkG 8 12 1 2 3)) = (6, 0) := by decide +kernel
theorem ex_hit : hitF 8 12 1 2 3 576 193 = (3, 12, 0) := by decide +kernel
theorem ex_least : leastF 7 1 2 3 = (12, 4, 0) := by decide +kernel
def GR (w : World) (us : List Sp) (e : Ending) (w' : World) : Prop := ∃ (A : Option Addr) (cap : Nat), e = .returned (.tuple #[.slice A us.length cap, .int .i64 0]) ∧ RU w' w'.heap.size A us ∧ Below w.heap.size w w'
theorem sameT_any (A B : Option Addr) (n cap cap' : Nat) (xs ys : List Sp) (w : World) (hn : xs.length = n) (hm : n ≤ maxLen) (he : ys = xs) (hr : RU w w.heap.size A xs) (hs : RU w w.heap.size B ys) :
    Calls Try.prog 15 #[.slice A n cap, .slice B n cap'] w fun e w' => e = .returned (.bool true) ∧ Below w.heap.size w w' := by
  have h := same_any A B n n cap cap' xs ys w hn hm (by rw [he]; exact hn) hm hr hs
  rw [decide_eq_true he.symm] at h
  exact h
end Go.Proofs.Ytmpakobfedgdbaa
namespace Go.Proofs.Ytmpakobfedgdbaa
open Go Go.Proofs Go.RowKit Go.Pol

theorem commonN_len : ∀ (k : Nat) (a b : List Sp), (commonN k a b).length ≤ k
  | 0, a, b => by simp [commonN]
  | k + 1, a, b => by
    cases a with
    | nil => rw [commonN_nil]; simp
    | cons x a =>
      cases b with
      | nil => rw [commonN_nil']; simp
      | cons y b =>
        have h1 := commonN_len k a (y :: b)
        have h2 := commonN_len k (x :: a) b
        rw [commonN, List.length_append]
        split <;> split <;> simp only [List.length_cons, List.length_nil] <;> omega
theorem commonF_len (a b : List Sp) : (commonF a b).length ≤ a.length + b.length := commonN_len _ a b
theorem ru_lt {w : World} {B : Nat} {A : Option Addr} {us : List Sp} (h : RU w B A us) (h0 : us ≠ []) {b o : Nat} (e : A = some ⟨b, o, none⟩) : b < B := by
  obtain ⟨b', o', e', hb, _⟩ := RU.at_' h (k := 0) (by cases us with | nil => exact absurd rfl h0 | cons => simp)
  rw [e] at e'
  cases e'
  exact hb

end Go.Proofs.Ytmpakobfedgdbaa
namespace Go.Pol
open Go Go.RowKit
/-- an array of marks reads as a function -/
structure MarksAre (cs : Array Value) (f : Nat → Bool) : Prop where
  size : cs.size = 1024
  at_ : ∀ k, k < 1024 → cs[k]? = some (.bool (f k))
theorem form_len2 : ∀ (s : List Sp) (e : Int) (m : Int), (∀ x ∈ s, 1 ≤ x.2 ∧ x.1 + x.2 ≤ m) → formOk e s = true → e ≤ m → (s.length : Int) ≤ m - e
  | [], e, m, _, _, h => by simp; omega
  | x :: r, e, m, hw, hf, _ => by
    have hf' := formOk_cons.1 hf
    have hx := hw x (by simp)
    have := form_len2 r (x.1 + x.2) m (fun y hy => hw y (by simp [hy])) hf'.2 hx.2
    simp only [List.length_cons]
    omega
theorem spCells_set (r : List Sp) (x : Sp) (y : Int) : (spCells (r ++ [x])).set (r.length * 2 + 1) (.int .i64 y) = spCells (r ++ [(x.1, y)]) := by
  rw [spCells_snoc, spCells_snoc]
  have : r.length * 2 + 1 = (spCells r).length + 1 := by rw [spCells_len]
  rw [this, List.set_append_right _ _ (by omega)]
  simp
end Go.Pol
namespace Go.Proofs.Ytmpakobfedgdbaa
open Go Go.Proofs Go.RowKit Go.Pol

/-- what hands back a slice of spans -/
def SpansO (w : World) (us : List Sp) (e : Ending) (w' : World) : Prop :=
  ∃ (A : Option Addr) (cap : Nat), e = .returned (.slice A us.length cap) ∧ RU w' w'.heap.size A us ∧ us.length ≤ cap ∧ cap ≤ maxLen ∧ (∀ b o, A = some ⟨b, o, none⟩ → w.heap.size ≤ b) ∧ Below w.heap.size w w'

set_option maxRecDepth 100000 in
set_option maxHeartbeats 1600000 in
theorem refSet_any (cs : Array Value) (f : Nat → Bool) (w : World) (hm : MarksAre cs f) :
    Calls Try.prog 20 #[.agg cs] w (SpansO w (setA f)) := by
  obtain ⟨i0, hi, hz0, hz1, hz2⟩ := infoSp_parts
  have hb0 := (Below.refl w.heap.size w).alloc (Nat.le_refl _) (.cells cs 39)
  have kM := Blk.new w 39 cs
  have hcs := Lib.hid hm.at_
  have hcz := hm.size
  have hok := Lib.hid (fun p => setF_ok f p)
  have hA : Hid (setA f = setF f 1024) := Lib.hid rfl
  obtain ⟨SA, hSA⟩ : ∃ S, setA f = S := ⟨_, rfl⟩
  rw [hSA]
  have hSA' := Lib.hid hSA
  clear hSA hm
  go_enter Try.func20, Try.ntmps20
  go_wp2_with fail
  go_loopw [3, 4] (fun v i wr => ∃ k : Nat, k ≤ 1024 ∧ i = .int .i64 k ∧ wr.ownsRow (w.heap.size + 1) 53 2 v (setF f k).length (spCells (setF f k)) ∧ Blk wr w.heap.size 39 cs ∧ Below w.heap.size w wr) (fun _ i _ => 1024 - (intOf i).toNat)
  case atStart => exact ⟨0, by omega, rfl, World.ownsRow_nil _ _ _ _, kM, hb0⟩
  case round =>
    obtain ⟨k, hk, rfl, hrow, kW, hB⟩ := hrel
    have hBs := hB.size
    have hwl := kW.lt
    by_cases hlt : k < 1024
    · have hlt' : decide ((k : Int) < 1024) = true := by simp; omega
      have hck : wr.cell? ⟨w.heap.size, k, none⟩ = some (.bool (f k)) := by rw [kW.cell]; exact hcs.out k hlt
      have hstep := Lib.hid (show setF f (k + 1) = _ from rfl)
      have hl512 : (setF f k).length ≤ 1024 := by
        have := (hok.out k)
        have h := form_len2 (setF f k) (-1) k (fun x hx => ⟨(this.wid x hx).2.1, (this.wid x hx).2.2⟩) this.form (by omega)
        omega
      cases hfk : f k with
      | false =>
        rw [hfk] at hck
        have hS : Hid (setF f (k + 1) = setF f k) := Lib.hid (by rw [setF, if_neg (by simp [hfk])])
        go_wp2_with fail
        go_roundw
        case rel => exact ⟨k + 1, by omega, by simp, by rw [hS.out]; exact hrow, kW, hB⟩
        case measure => simp [intOf]; omega
      | true =>
        rw [hfk] at hck
        by_cases hk0 : 0 < k
        case neg =>
          have hk0' : decide (0 < (k : Int)) = false := by simp; omega
          have hk0n : decide (0 < k) = false := by simp; omega
          have hS : Hid (setF f (k + 1) = setF f k ++ [((k : Int), 1)]) := Lib.hid (by rw [setF, if_pos hfk, if_neg (by simp; omega)])
          have kN := Blk.new wr 53 #[.int .i64 (k : Int), .int .i64 1]
          go_wp2_with (refine wpList_append_own _ rfl (.tmp 9) (.tmp 12) 22 rfl (w.heap.size + 1) 53 i0 (.agg #[.int .i64 0, .int .i64 0]) 2 16 Try.underlying22 hi hz0 hz1 hz2 rfl (by decide) _ (setF f k).length (spCells (setF f k)) rfl (hrow.alloc _) ⟨wr.heap.size, 0, none⟩ 1 1 [.int .i64 (k : Int), .int .i64 1] rfl rfl (news_two kN) news_one2 (by unfold maxLen; omega) (by omega) (by simp; omega) ?_; intro v' w1 hown' hgrow _; rw [← spCells_snoc (setF f k) ((k : Int), 1), ← hS.out] at hown')
          have hne1 := (hrow.alloc (.cells #[.int .i64 (k : Int), .int .i64 1] 53)).lt
          go_roundw
          case rel => exact ⟨k + 1, by omega, by simp, by rw [show (setF f (k + 1)).length = (setF f k).length + 1 by rw [hS.out]; simp]; exact hown', (kW.alloc _).grown hgrow (fun e => by have := (hrow.lt _ e.symm).1; omega), (hB.alloc hBs _).grown hgrow (by simp; omega) (fun j hj => by have := (hrow.lt j hj).1; omega)⟩
          case measure => simp [intOf]; omega
        case pos =>
          have hk0' : decide (0 < (k : Int)) = true := by simp; omega
          have hk0n : decide (0 < k) = true := by simp; omega
          have hkp : wr.cell? ⟨w.heap.size, k - 1, none⟩ = some (.bool (f (k - 1))) := by rw [kW.cell]; exact hcs.out (k - 1) (by omega)
          cases hfp : f (k - 1) with
          | false =>
            rw [hfp] at hkp
            have hS : Hid (setF f (k + 1) = setF f k ++ [((k : Int), 1)]) := Lib.hid (by rw [setF, if_pos hfk, if_neg (by simp [hfp])])
            have kN := Blk.new wr 53 #[.int .i64 (k : Int), .int .i64 1]
            go_wp2_with (refine wpList_append_own _ rfl (.tmp 9) (.tmp 12) 22 rfl (w.heap.size + 1) 53 i0 (.agg #[.int .i64 0, .int .i64 0]) 2 16 Try.underlying22 hi hz0 hz1 hz2 rfl (by decide) _ (setF f k).length (spCells (setF f k)) rfl (hrow.alloc _) ⟨wr.heap.size, 0, none⟩ 1 1 [.int .i64 (k : Int), .int .i64 1] rfl rfl (news_two kN) news_one2 (by unfold maxLen; omega) (by omega) (by simp; omega) ?_; intro v' w1 hown' hgrow _; rw [← spCells_snoc (setF f k) ((k : Int), 1), ← hS.out] at hown')
            have hne1 := (hrow.alloc (.cells #[.int .i64 (k : Int), .int .i64 1] 53)).lt
            go_roundw
            case rel => exact ⟨k + 1, by omega, by simp, by rw [show (setF f (k + 1)).length = (setF f k).length + 1 by rw [hS.out]; simp]; exact hown', (kW.alloc _).grown hgrow (fun e => by have := (hrow.lt _ e.symm).1; omega), (hB.alloc hBs _).grown hgrow (by simp; omega) (fun j hj => by have := (hrow.lt j hj).1; omega)⟩
            case measure => simp [intOf]; omega
          | true =>
            rw [hfp] at hkp
            obtain ⟨r, x, hrx, hxe⟩ := (hok.out k).last hk0 hfp
            have hwx := (hok.out k).wid x (by rw [hrx]; simp)
            have hS : Hid (setF f (k + 1) = r ++ [(x.1, x.2 + 1)]) := Lib.hid (by rw [setF, if_pos hfk, if_pos (by simp [hfp]; omega), hrx, bump_snoc])
            rw [hrx] at hrow hl512
            clear hrx hstep
            obtain ⟨xa, xb⟩ := x
            dsimp only at hwx hxe
            rw [List.length_append, List.length_singleton] at hrow hl512
            obtain ⟨g, cap, rfl⟩ := ownsRow_succ hrow
            have hgb := (hrow.lt g rfl).1
            have hcx : wr.cell? ⟨g, r.length * 2 + 1, none⟩ = some (.int .i64 xb) := by
              rw [hrow.cellAt _ (by omega), spCells_snoc, List.getElem?_append_right (by rw [spCells_len]; omega), spCells_len]
              simp
            have hfx := hrow.frozenAt (r.length * 2 + 1)
            obtain ⟨hst, hgr⟩ := hrow.stored (r.length * 2 + 1) (.int .i64 (xb + 1))
            rw [spCells_set] at hst
            obtain ⟨rl, hrl⟩ : ∃ rl, r.length = rl := ⟨_, rfl⟩
            rw [hrl] at hcx hfx hst hgr hl512 ⊢
            have hrl' := Lib.hid hrl
            clear hrl hrow
            go_wp2_with fail
            go_roundw
            case rel => exact ⟨k + 1, by omega, by simp, by rw [hS.out]; simpa [hrl'.out] using hst, kW.grown hgr (fun e => by cases e; omega), hB.grown hgr hBs (fun j hj => by cases hj; omega)⟩
            case measure => simp [intOf]; omega
    · obtain rfl : k = 1024 := by omega
      obtain ⟨A, cap, rfl, hru, h1, h2, h3, _⟩ := own_RU hrow rfl
      have hE : Hid (SA = setF f 1024) := Lib.hid (by rw [← hSA'.out]; rfl)
      go_wp2_with fail
      go_ret
      rw [hE.out]
      exact ⟨A, cap, rfl, hru, h1, h2, fun b o e => by have := h3 b o e; omega, hB⟩
end Go.Proofs.Ytmpakobfedgdbaa
namespace Go.Proofs.Ytmpakobfedgdbaa
open Go Go.Proofs Go.RowKit Go.Pol

theorem isNaN_any (x : Int) (w : World) : Calls Try.prog 65 #[.int .i64 x] w fun e w' => e = .returned (.bool false) ∧ w' = w := by
  go_enter Try.func65, Try.ntmps65
  go_wp2
  go_ret
  exact ⟨by simp, rfl⟩

def cmpI (x y : Int) : Int := if x < y then -1 else if y < x then 1 else 0
theorem compare_any (x y : Int) (w : World) : Calls Try.prog 39 #[.int .i64 x, .int .i64 y] w fun e w' => e = .returned (.int .i64 (cmpI x y)) ∧ w' = w := by
  obtain ⟨R, hR0⟩ : ∃ R, cmpI x y = R := ⟨_, rfl⟩
  rw [hR0]
  have hR := Lib.hid hR0
  clear hR0
  by_cases h1 : x < y
  · have h1' : decide (x < y) = true := by simpa using h1
    have hE : Hid (R = -1) := Lib.hid (by rw [← hR.out, cmpI, if_pos h1])
    clear h1
    go_enter Try.func39, Try.ntmps39
    go_wp2_with (go_at_call 65; refine (isNaN_any _ _).mono ?_; rintro e w' ⟨rfl, rfl⟩)
    go_ret
    exact ⟨ret_int hE.out.symm, rfl⟩
  · have h1' : decide (x < y) = false := by simpa using h1
    by_cases h2 : y < x
    · have h2' : decide (y < x) = true := by simpa using h2
      have hE : Hid (R = 1) := Lib.hid (by rw [← hR.out, cmpI, if_neg h1, if_pos h2])
      clear h1 h2
      go_enter Try.func39, Try.ntmps39
      go_wp2_with (go_at_call 65; refine (isNaN_any _ _).mono ?_; rintro e w' ⟨rfl, rfl⟩)
      go_ret
      exact ⟨ret_int hE.out.symm, rfl⟩
    · have h2' : decide (y < x) = false := by simpa using h2
      have hE : Hid (R = 0) := Lib.hid (by rw [← hR.out, cmpI, if_neg h1, if_neg h2])
      clear h1 h2
      go_enter Try.func39, Try.ntmps39
      go_wp2_with (go_at_call 65; refine (isNaN_any _ _).mono ?_; rintro e w' ⟨rfl, rfl⟩)
      go_ret
      exact ⟨ret_int hE.out.symm, rfl⟩

theorem of1_any (x y : Sp) (w : World) : Calls Try.prog 74 #[.agg #[.int .i64 x.1, .int .i64 x.2], .agg #[.int .i64 y.1, .int .i64 y.2]] w fun e w' => e = .returned (.int .i64 (cmpI x.1 y.1)) ∧
    w' = (w.alloc (.cells #[.int .i64 x.1, .int .i64 x.2] 53)).alloc (.cells #[.int .i64 y.1, .int .i64 y.2] 53) := by
  have HC := Lib.hid (fun W => compare_any x.1 y.1 W)
  generalize cmpI x.1 y.1 = R at *
  go_enter Try.func74, Try.ntmps74
  go_wp2_with (go_at_call 39; refine (HC.out _).mono ?_; rintro e w' ⟨rfl, rfl⟩)
  go_ret
  exact ⟨rfl, rfl⟩

/-- a span behind sorted ones: joined to the last one where they touch -/
def joinF (xs : List Sp) (x : Sp) : List Sp :=
  match xs.getLast? with
  | none => [x]
  | some l => if x.1 ≤ l.1 + l.2 then xs.dropLast ++ [(l.1, max (l.1 + l.2) (x.1 + x.2) - l.1)] else xs ++ [x]
theorem joinF_nil (x : Sp) : joinF [] x = [x] := rfl
theorem joinF_snoc (pre : List Sp) (l x : Sp) : joinF (pre ++ [l]) x = if x.1 ≤ l.1 + l.2 then pre ++ [(l.1, max (l.1 + l.2) (x.1 + x.2) - l.1)] else pre ++ [l] ++ [x] := by simp [joinF]
set_option maxRecDepth 100000 in
set_option maxHeartbeats 1600000 in
theorem join_any (base : Nat) (v : Value) (xs : List Sp) (x : Sp) (w : World) (hx : (-100000 ≤ x.1 ∧ x.1 ≤ 50000) ∧ -100000 ≤ x.2 ∧ x.2 ≤ 50000) (hxs : ∀ y ∈ xs, (-100000 ≤ y.1 ∧ y.1 ≤ 50000) ∧ -100000 ≤ y.2 ∧ y.2 ≤ 50000) (hlen : xs.length ≤ 100000) (hbase : base ≤ w.heap.size)
    (hrow : w.ownsRow base 53 2 v xs.length (spCells xs)) :
    Calls Try.prog 75 #[v, .agg #[.int .i64 x.1, .int .i64 x.2]] w fun e w' => ∃ v', e = .returned v' ∧ w'.ownsRow base 53 2 v' (joinF xs x).length (spCells (joinF xs x)) ∧ Below base w w' := by
  obtain ⟨i0, hi, hz0, hz1, hz2⟩ := infoSp_parts
  obtain ⟨xa, xb⟩ := x
  simp only at hx ⊢
  have hb0 := (Below.refl w.heap.size w).alloc (Nat.le_refl _) (.cells #[.int .i64 xa, .int .i64 xb] 53)
  have k0 := Blk.new w 53 #[.int .i64 xa, .int .i64 xb]
  have c0 := k0.cell
  rcases List.eq_nil_or_concat xs with rfl | ⟨pre, l, rfl⟩
  · obtain ⟨A, cap, rfl⟩ := own_nil_iff hrow rfl
    rw [joinF_nil]
    go_enter Try.func75, Try.ntmps75
    go_upto_region 2 with fail
    refine region_ext (by kernel_rfl) (by kernel_rfl) ?_
    repeat (go_big_quiet_step (fail))
    refine wpQuiet_nil ?_
    rintro w1 ⟨⟨_, hw1⟩, rfl⟩
    have B1 := hb0.trans (hw1.mono hb0.size)
    have k1 := k0.call hw1
    have c1 := k1.cell
    have kN := Blk.new w1 53 #[.int .i64 xa, .int .i64 xb]
    have hrow1 : w1.ownsRow base 53 2 (.slice A 0 cap) ([] : List Sp).length (spCells ([] : List Sp)) := ownsRow_call hrow B1
    go_wp2_with (refine wpList_append_own _ rfl (.tmp 43) (.tmp 45) 22 rfl base 53 i0 (.agg #[.int .i64 0, .int .i64 0]) 2 16 Try.underlying22 hi hz0 hz1 hz2 rfl (by decide) _ 0 (spCells ([] : List Sp)) rfl (hrow1.alloc _) ⟨w1.heap.size, 0, none⟩ 1 1 [.int .i64 xa, .int .i64 xb] rfl rfl (news_two kN) news_one2 (by unfold maxLen; omega) (by omega) (by have := B1.size; simp; omega) ?_; intro v' w3 hown' hgrow _)
    go_ret
    exact ⟨v', rfl, by simpa [spCells] using hown', ((B1.mono hbase).alloc (by have := B1.size; omega) _).grown hgrow (by have := B1.size; simp; omega) (fun j hj => (hrow1.lt j hj).1)⟩
  · rw [List.concat_eq_append] at *
    rw [joinF_snoc]
    have hlx := hxs l (by simp)
    clear hxs
    obtain ⟨la, lb⟩ := l
    simp only at hlx ⊢
    rw [List.length_append, List.length_singleton] at hrow hlen
    have hrow0 := ownsRow_call hrow hb0
    obtain ⟨g, cap, rfl⟩ := ownsRow_succ hrow
    have hgb := hrow0.lt g rfl
    have hca : (w.alloc (.cells #[.int .i64 xa, .int .i64 xb] 53)).cell? ⟨g, pre.length * 2, none⟩ = some (.int .i64 la) := by
      rw [hrow0.cellAt _ (by omega), spCells_snoc, List.getElem?_append_right (by rw [spCells_len]; exact Nat.le_refl _), spCells_len]
      simp
    have hcb : (w.alloc (.cells #[.int .i64 xa, .int .i64 xb] 53)).cell? ⟨g, pre.length * 2 + 1, none⟩ = some (.int .i64 lb) := by
      rw [hrow0.cellAt _ (by omega), spCells_snoc, List.getElem?_append_right (by rw [spCells_len]; omega), spCells_len]
      simp
    obtain ⟨k, hk⟩ : ∃ k, pre.length = k := ⟨_, rfl⟩
    rw [hk] at hca hcb hlen ⊢
    have hk' := Lib.hid hk
    have hrow' := Lib.hid hrow
    clear hk hrow
    have q1 := fun z : Ext (w.alloc (.cells #[.int .i64 xa, .int .i64 xb] 53)) => z.cell hca
    have q2 := fun z : Ext (w.alloc (.cells #[.int .i64 xa, .int .i64 xb] 53)) => z.cell hcb
    have q3 := fun z : Ext (w.alloc (.cells #[.int .i64 xa, .int .i64 xb] 53)) => (z.blk k0).cell
    have C1 : Hid (∀ z : Ext (w.alloc (.cells #[.int .i64 xa, .int .i64 xb] 53)), Calls Try.prog 54 #[.agg #[.int .i64 la, .int .i64 lb]] z.w fun e w'' => e = .returned (.int .i64 (la + lb)) ∧ ∃ y : Ext (w.alloc (.cells #[.int .i64 xa, .int .i64 xb] 53)), w'' = y.w) := Lib.hid (fun z => Ext.call (end_any la lb _ (by omega) (by omega)))
    by_cases hle : xa ≤ la + lb
    · have hle' : decide (xa ≤ la + lb) = true := by simpa using hle
      rw [if_pos hle]
      go_enter Try.func75, Try.ntmps75
      go_upto_region 2 with fail
      refine region_ext (by kernel_rfl) (by kernel_rfl) ?_
      repeat (go_big_quiet_step ((go_at_call 54; exact C1.out _)))
      refine wpQuiet_nil ?_
      rintro w1 ⟨⟨_, hw1⟩, rfl⟩
      have B1 := hb0.trans (hw1.mono hb0.size)
      have k1 := k0.call hw1
      have hg0 : g < (w.alloc (.cells #[.int .i64 xa, .int .i64 xb] 53)).heap.size := hgb.2
      have hca1 := (hw1.cell (p := ⟨g, k * 2, none⟩) hg0).trans hca
      have hcb1 := (hw1.cell (p := ⟨g, k * 2 + 1, none⟩) hg0).trans hcb
      clear q1 q2 q3 C1
      have q1 := fun z : Ext w1 => z.cell hca1
      have q2 := fun z : Ext w1 => z.cell hcb1
      have q3 := fun z : Ext w1 => (z.blk k1).cell
      have C1 : Hid (∀ z : Ext w1, Calls Try.prog 54 #[.agg #[.int .i64 la, .int .i64 lb]] z.w fun e w'' => e = .returned (.int .i64 (la + lb)) ∧ ∃ y : Ext w1, w'' = y.w) := Lib.hid (fun z => Ext.call (end_any la lb _ (by omega) (by omega)))
      have C2 : Hid (∀ z : Ext w1, Calls Try.prog 54 #[.agg #[.int .i64 xa, .int .i64 xb]] z.w fun e w'' => e = .returned (.int .i64 (xa + xb)) ∧ ∃ y : Ext w1, w'' = y.w) := Lib.hid (fun z => Ext.call (end_any xa xb _ (by omega) (by omega)))
      have hmx : -200000 ≤ max (la + lb) (xa + xb) ∧ max (la + lb) (xa + xb) ≤ 200000 := by omega
      go_upto_region 3 with fail
      refine region_ext_tail 19 (by kernel_rfl) (by kernel_rfl) ?_
      simp only [List.take_succ_cons, List.take_zero, List.drop_succ_cons, List.drop_zero]
      iterate 9 go_big_quiet_step ((go_at_call 54; exact C1.out _))
      repeat (go_big_quiet_step ((go_at_call 54; exact C2.out _)))
      refine wpQuiet_nil ?_
      intro z
      have hrz := ownsRow_call hrow'.out (B1.trans (z.le.mono B1.size))
      have hfz := hrz.frozenAt (k * 2 + 1)
      have hcz := z.cell hcb1
      obtain ⟨hst, hgr⟩ := hrz.stored (k * 2 + 1) (.int .i64 (max (la + lb) (xa + xb) - la))
      rw [← hk'.out, spCells_set, hk'.out] at hst
      go_wp2_with fail
      go_ret
      exact ⟨_, rfl, by simpa [hk'.out] using hst, ((B1.trans (z.le.mono B1.size)).mono hbase).grown hgr (by have := B1.size; have := z.le.size; omega) (fun j hj => by cases hj; exact hgb.1)⟩
    · have hle' : decide (xa ≤ la + lb) = false := by simpa using hle
      rw [if_neg hle]
      go_enter Try.func75, Try.ntmps75
      go_upto_region 2 with fail
      refine region_ext (by kernel_rfl) (by kernel_rfl) ?_
      repeat (go_big_quiet_step ((go_at_call 54; exact C1.out _)))
      refine wpQuiet_nil ?_
      rintro w1 ⟨⟨_, hw1⟩, rfl⟩
      have B1 := hb0.trans (hw1.mono hb0.size)
      have k1 := k0.call hw1
      have c1 := k1.cell
      have kN := Blk.new w1 53 #[.int .i64 xa, .int .i64 xb]
      have hrow1 := ownsRow_call hrow'.out B1
      clear q1 q2 q3 C1
      go_wp2_with (refine wpList_append_own _ rfl (.tmp 43) (.tmp 45) 22 rfl base 53 i0 (.agg #[.int .i64 0, .int .i64 0]) 2 16 Try.underlying22 hi hz0 hz1 hz2 rfl (by decide) _ (k + 1) (spCells (pre ++ [(la, lb)])) rfl (by rw [← hk'.out]; exact hrow1.alloc _) ⟨w1.heap.size, 0, none⟩ 1 1 [.int .i64 xa, .int .i64 xb] rfl rfl (news_two kN) news_one2 (by unfold maxLen; omega) (by omega) (by have := B1.size; simp; omega) ?_; intro v' w3 hown' hgrow _)
      go_ret
      rw [← spCells_snoc (pre ++ [(la, lb)]) (xa, xb)] at hown'
      exact ⟨v', rfl, by simpa [hk'.out] using hown', ((B1.mono hbase).alloc (by have := B1.size; omega) _).grown hgrow (by have := B1.size; simp; omega) (fun j hj => (hrow1.lt j hj).1)⟩
end Go.Proofs.Ytmpakobfedgdbaa
namespace Go.Pol
open Go Go.RowKit
def pagesX (x : Sp) (j : Nat) : List Int := (List.range j).map fun (k : Nat) => x.1 + (k : Int)
theorem pagesX_succ (x : Sp) (j : Nat) : pagesX x (j + 1) = pagesX x j ++ [x.1 + (j : Int)] := by simp [pagesX, List.range_succ]
theorem pagesOf_nil : pagesOf [] = [] := rfl
theorem pagesOf_cons (x : Sp) (r : List Sp) : pagesOf (x :: r) = pagesX x x.2.toNat ++ pagesOf r := by simp [pagesOf, pagesX]
theorem pagesOf_append (l r : List Sp) : pagesOf (l ++ r) = pagesOf l ++ pagesOf r := by simp [pagesOf]
theorem pagesOf_len : ∀ (l : List Sp), (∀ x ∈ l, 0 ≤ x.2) → ((pagesOf l).length : Int) = sumS l
  | [], _ => by simp [pagesOf, sumS]
  | x :: r, h => by
    have ih := pagesOf_len r (fun y hy => h y (by simp [hy]))
    have hx := h x (by simp)
    rw [pagesOf_cons, List.length_append, show (pagesX x x.2.toNat).length = x.2.toNat by simp [pagesX]]
    simp only [sumS, List.map_cons, List.sum_cons] at ih ⊢
    omega
theorem take_snoc (us : List Sp) (k : Nat) (hk : k < us.length) : us.take (k + 1) = us.take k ++ [us.getD k (0,0)] := by
  rw [List.take_add_one, List.getElem?_eq_getElem hk]
  simp [List.getD_eq_getElem?_getD, hk]
theorem ints_one {a : Int} : ∀ u ∈ [Value.int .i64 a], u.oneCell' = true := by
  intro u hu; simp only [List.mem_cons, List.not_mem_nil, or_false] at hu; subst hu; rfl
theorem news_i {w : World} {g : Nat} {t : TypeId} {a : Int} (h : Blk w g t #[.int .i64 a]) : ∀ (j : Nat) (u : Value), [Value.int .i64 a][j]? = some u → w.cell? ((⟨g, 0, none⟩ : Addr).add j) = some u := by
  intro j u hu
  rw [addr_add0, Nat.zero_add, h.cell]
  simpa using hu
/-- what a call of the own made reads as a list -/
theorem own_RIx {w : World} {base : Nat} {e : TypeId} {v : Value} {n : Nat} {xs : List Int} (h : w.ownsRow base e 1 v n (xs.map (Value.int .i64))) (hn : xs.length = n) : ∃ (A : Option Addr) (cap : Nat), v = .slice A n cap ∧ RI w w.heap.size A xs := by
  have hv := h
  rcases h.2 with ⟨rfl, h0⟩ | ⟨g, cap, cur, rfl, hg, hk, _⟩
  · subst h0
    obtain rfl : xs = [] := List.eq_nil_of_length_eq_zero hn
    exact ⟨none, 0, rfl, RI.nil⟩
  · refine ⟨_, cap, rfl, fun k hk' => ?_⟩
    have hk2 : k < xs.length := by simpa using hk'
    have hc := hv.cellAt k (by omega)
    refine ⟨g, 0, rfl, Blk.lt hk, ?_⟩
    rw [Nat.zero_add, hc]
    exact List.getElem?_eq_getElem hk'
end Go.Pol
namespace Go.Proofs.Ytmpakobfedgdbaa
open Go Go.Proofs Go.RowKit Go.Pol
theorem infoIn : (Try.prog.info? 3).map (fun i => (i.zero, i.size, i.bytes)) = some (some (.int .i64 0), 1, 8) := by kernel_rfl

set_option maxRecDepth 100000 in
set_option maxHeartbeats 1600000 in
theorem refPages_any (A : Option Addr) (n cap : Nat) (us : List Sp) (w : World) (hn : us.length = n) (hm : n ≤ maxLen) (hr : RU w w.heap.size A us) (hu : Go.Pol.Can us) (L : List Int) (hL : pagesOf us = L) :
    Calls Try.prog 42 #[.slice A n cap] w fun e w' => ∃ (A' : Option Addr) (cap' : Nat), e = .returned (.slice A' L.length cap') ∧ RI w' w'.heap.size A' L ∧ Below w.heap.size w w' := by
  obtain ⟨i0, hi, hz0, hz1, hz2⟩ := info_parts infoIn
  have hc := refSpCheck_any A n cap us w hn hm hr
  rw [chkS_zero.2 hu] at hc
  have HC := Lib.hid hc
  clear hc
  have hlen := hu.len
  have hvl := Lib.hid hu.1
  have hn' := Lib.hid hn
  have hL' := Lib.hid hL
  clear hL
  have hn512 : n ≤ 512 := by omega
  clear hn hu
  go_enter Try.func42, Try.ntmps42
  go_wp2_with (go_at_call 31; refine (HC.out).mono ?_; rintro e w1 ⟨rfl, hq⟩)
  go_loopw [3, 4] (fun v i wr => ∃ (k : Nat) (xs : List Int), k ≤ n ∧ i = .int .i64 k ∧ Hid (xs = pagesOf (us.take k)) ∧ xs.length ≤ 1024 * k ∧ wr.ownsRow w.heap.size 3 1 v xs.length (xs.map (Value.int .i64)) ∧ Below w.heap.size w wr) (fun _ i _ => n - (intOf i).toNat)
  case atStart => exact ⟨0, [], by omega, rfl, Lib.hid (by simp [pagesOf]), by simp, World.ownsRow_nil _ _ _ _, hq⟩
  case round =>
    obtain ⟨k, xs, hk, rfl, hX, hxl, hrow, hB⟩ := hrel
    have hBs := hB.size
    by_cases hlt : k < n
    · have hlt' : decide ((k : Int) < (n : Int)) = true := by simp; omega
      obtain ⟨b, o, rfl, hbl, hcw, hdw⟩ := RU.at_' hr (k := k) (by have := hn'.out; omega)
      have hvx := vld_iff.1 (hvl.out (us.getD k (0,0)) (by rw [List.getD_eq_getElem?_getD, List.getElem?_eq_getElem (by have := hn'.out; omega)]; simp))
      have htk := Lib.hid (take_snoc us k (by have := hn'.out; omega))
      generalize us.getD k (0,0) = x at *
      obtain ⟨xa, xb⟩ := x
      dsimp only at hcw hdw hvx
      have hc := (hB.cell (p := ⟨b, o + k * 2, none⟩) hbl).trans hcw
      have hd := (hB.cell (p := ⟨b, o + k * 2 + 1, none⟩) hbl).trans hdw
      go_wp2_with fail
      go_loopw [3, 5] (fun v p wr => ∃ (j : Nat) (ys : List Int), (j : Int) ≤ xb ∧ p = .int .i64 (xa + j) ∧ Hid (ys = xs ++ pagesX (xa, xb) j) ∧ ys.length ≤ 1024 * k + j ∧ wr.ownsRow w.heap.size 3 1 v ys.length (ys.map (Value.int .i64)) ∧ Below w.heap.size w wr) (fun _ p _ => (xa + xb - intOf p).toNat)
      case atStart => exact ⟨0, xs, by omega, by simp, Lib.hid (by simp [pagesX]), by omega, hrow, hB⟩
      case round =>
        obtain ⟨j, ys, hj, rfl, hY, hyl, hrow, hB⟩ := hrel
        have hBs := hB.size
        have hc := (hB.cell (p := ⟨b, o + k * 2, none⟩) hbl).trans hcw
        have hd := (hB.cell (p := ⟨b, o + k * 2 + 1, none⟩) hbl).trans hdw
        have e1 := fun z : Ext wr => z.cell hc
        have e2 := fun z : Ext wr => z.cell hd
        by_cases hjx : (j : Int) < xb
        · have hj' : decide (xa + (j : Int) < xa + xb) = true := by simp; omega
          have hY2 : Hid (ys ++ [xa + (j : Int)] = xs ++ pagesX (xa, xb) (j + 1)) := Lib.hid (by rw [hY.out, pagesX_succ, List.append_assoc])
          go_upto_region 8 with fail
          refine region_ext (by kernel_rfl) (by kernel_rfl) ?_
          repeat (go_big_quiet_step (fail))
          refine wpQuiet_nil ?_
          rintro w2 ⟨⟨_, hw2⟩, rfl⟩
          have hrow2 := ownsRow_call hrow hw2
          have hB2 := hB.trans (hw2.mono hBs)
          have hBs2 := hB2.size
          have kN := Blk.new w2 3 #[.int .i64 (xa + (j : Int))]
          go_wp2_with (refine wpList_append_own _ rfl (.tmp 35) (.tmp 37) 23 rfl w.heap.size 3 i0 (.int .i64 0) 1 8 Try.underlying23 hi hz0 hz1 hz2 rfl (by decide) _ ys.length (ys.map (Value.int .i64)) rfl (hrow2.alloc _) ⟨w2.heap.size, 0, none⟩ 1 1 [.int .i64 (xa + (j : Int))] rfl rfl (news_i kN) ints_one (by unfold maxLen; omega) (by omega) (by simp; omega) ?_; intro v' w3 hown' hgrow _)
          go_roundw
          case rel => exact ⟨j + 1, ys ++ [xa + (j : Int)], by omega, by go_num, hY2, by simp; omega, by simpa using hown', (hB2.alloc hBs2 _).grown hgrow (by simp; omega) (fun i hi => (hrow2.lt i hi).1)⟩
          case measure => simp [intOf]; omega
        · have hj' : decide (xa + (j : Int) < xa + xb) = false := by simp; omega
          have hjx2 : xb.toNat = j := by omega
          have hX2 : Hid (ys = pagesOf (us.take (k + 1))) := Lib.hid (by rw [hY.out, hX.out, htk.out, pagesOf_append, pagesOf_cons, pagesOf_nil, List.append_nil]; rw [← hjx2])
          go_upto_region 8 with fail
          refine region_ext (by kernel_rfl) (by kernel_rfl) ?_
          repeat (go_big_quiet_step (fail))
          refine wpQuiet_nil ?_
          rintro w2 ⟨⟨_, hw2⟩, rfl⟩
          have hrow2 := ownsRow_call hrow hw2
          have hB2 := hB.trans (hw2.mono hBs)
          go_wp2_with fail
          go_roundw
          case rel => exact ⟨k + 1, ys, by omega, by simp, hX2, by omega, hrow2, hB2⟩
          case measure => simp [intOf]; omega
    · have hlt' : decide ((k : Int) < (n : Int)) = false := by simp; omega
      have hE : Hid (xs = L) := Lib.hid (by rw [hX.out, List.take_of_length_le (by have := hn'.out; omega)]; exact hL'.out)
      rw [hE.out] at hrow
      obtain ⟨A', cap', rfl, hri⟩ := own_RIx hrow rfl
      clear hX hxl hE
      go_wp2_with fail
      go_ret
      exact ⟨A', cap', rfl, hri, hB⟩
end Go.Proofs.Ytmpakobfedgdbaa
namespace Go.Proofs.Ytmpakobfedgdbaa
open Go Go.Proofs Go.RowKit Go.Pol

def ofF (us : List Sp) : List Sp := us.foldl joinF []
theorem joinF_vld {xs : List Sp} {x : Sp} (hxs : ∀ y ∈ xs, vld y = true) (hx : vld x = true) : ∀ y ∈ joinF xs x, vld y = true := by
  rcases List.eq_nil_or_concat xs with rfl | ⟨pre, l, rfl⟩
  · rw [joinF_nil]; simpa using hx
  · rw [List.concat_eq_append] at *
    rw [joinF_snoc]
    have hl := vld_iff.1 (hxs l (by simp))
    have hx' := vld_iff.1 hx
    split
    · intro y hy
      rcases List.mem_append.1 hy with h | h
      · exact hxs y (by simp [h])
      · simp only [List.mem_singleton] at h
        subst h
        exact vld_iff.2 (by simp only; omega)
    · intro y hy
      rcases List.mem_append.1 hy with h | h
      · exact hxs y h
      · simp only [List.mem_singleton] at h
        subst h
        exact hx
theorem joinF_len (xs : List Sp) (x : Sp) : (joinF xs x).length ≤ xs.length + 1 := by
  rcases List.eq_nil_or_concat xs with rfl | ⟨pre, l, rfl⟩
  · simp [joinF_nil]
  · rw [List.concat_eq_append, joinF_snoc]
    split <;> simp
theorem ofF_snoc (us : List Sp) (x : Sp) : ofF (us ++ [x]) = joinF (ofF us) x := by simp [ofF]

set_option maxRecDepth 100000 in
set_option maxHeartbeats 1600000 in
theorem of_any (base : Nat) (v : Value) (us : List Sp) (w : World) (hv : ∀ y ∈ us, vld y = true) (hlen : us.length ≤ 100000) (hbase : base ≤ w.heap.size)
    (HS : Calls Try.prog 73 #[v, .func (.func 74) #[] #[]] w fun e w' => e = .returned (.tuple #[]) ∧ ∃ us' : List Sp, us'.Perm us ∧ us'.Pairwise (fun a b => a.1 ≤ b.1) ∧ w'.ownsRow base 53 2 v us.length (spCells us') ∧ Below base w w') 
    (hrow : w.ownsRow base 53 2 v us.length (spCells us)) :
    Calls Try.prog 66 #[v] w fun e w' => ∃ (us' : List Sp) (v' : Value), us'.Perm us ∧ us'.Pairwise (fun a b => a.1 ≤ b.1) ∧ e = .returned v' ∧ w'.ownsRow w.heap.size 53 2 v' (ofF us').length (spCells (ofF us')) ∧ Below base w w' := by
  obtain ⟨A, cap, rfl⟩ := own_nil_iff hrow rfl
  go_enter Try.func66, Try.ntmps66
  go_wp2_with fail
  refine HS.mono ?_
  rintro e w1 ⟨rfl, us', hp, hs, hrow1, hb1⟩
  have hv' : ∀ y ∈ us', vld y = true := fun y hy => hv y (hp.mem_iff.1 hy)
  have hn := hp.length_eq
  obtain ⟨n, hn0⟩ : ∃ n, us.length = n := ⟨_, rfl⟩
  rw [hn0] at hrow1 hn hlen ⊢
  have hn' := Lib.hid hn
  clear hn hn0 HS hrow hv
  have hws := hb1.size
  have hb1s := hb1.size
  go_wp2_with fail
  go_loopw [3, 10] (fun v i wr => ∃ k : Nat, k ≤ n ∧ i = .int .i64 k ∧ wr.ownsRow w1.heap.size 53 2 v (ofF (us'.take k)).length (spCells (ofF (us'.take k))) ∧ Below w1.heap.size w1 wr ∧ Hid ((∀ y ∈ ofF (us'.take k), vld y = true) ∧ (ofF (us'.take k)).length ≤ k)) (fun _ i _ => n - (intOf i).toNat)
  case atStart => exact ⟨0, by omega, rfl, by simpa [ofF, spCells] using World.ownsRow_nil _ _ _ _, Below.refl _ _, Lib.hid ⟨by simp [ofF], by simp [ofF]⟩⟩
  case round =>
    obtain ⟨k, hk, rfl, hrow2, hB, hH⟩ := hrel
    by_cases hlt : k < n
    · have hlt' : decide ((k : Int) < (n : Int)) = true := by simpa using hlt
      have hr := ownsRow_call hrow1 hB
      obtain ⟨g, cap', e, _⟩ := hr.form (by omega)
      cases e
      have hg := hrow1.lt g rfl
      have hca := hr.cellAt (k * 2) (by omega)
      have hcb := hr.cellAt (k * 2 + 1) (by omega)
      have hat := spCells_at us' k (by have := hn'.out; omega)
      rw [hat.1] at hca
      rw [hat.2] at hcb
      have hvx := hv' (us'.getD k (0,0)) (by rw [List.getD_eq_getElem?_getD, List.getElem?_eq_getElem (by have := hn'.out; omega)]; simp)
      have htk := Lib.hid (take_snoc us' k (by have := hn'.out; omega))
      clear hat hr
      generalize us'.getD k (0,0) = x at *
      have hxb := vld_iff.1 hvx
      have hstep : Hid (ofF (us'.take (k + 1)) = joinF (ofF (us'.take k)) x) := Lib.hid (by rw [htk.out, ofF_snoc])
      have hH2 : Hid ((∀ y ∈ joinF (ofF (us'.take k)) x, vld y = true) ∧ (joinF (ofF (us'.take k)) x).length ≤ k + 1) := Lib.hid ⟨joinF_vld hH.out.1 hvx, by have := joinF_len (ofF (us'.take k)) x; have := hH.out.2; omega⟩
      have HJ := Lib.hid (fun (W : World) (v : Value) (hW : w1.heap.size ≤ W.heap.size) (h : W.ownsRow w1.heap.size 53 2 v (ofF (us'.take k)).length (spCells (ofF (us'.take k)))) => join_any w1.heap.size v (ofF (us'.take k)) x W (by omega) (fun y hy => by have := vld_iff.1 (hH.out.1 y hy); omega) (by have := hH.out.2; omega) hW h)
      generalize ofF (us'.take k) = L at *
      obtain ⟨xa, xb⟩ := x
      dsimp only at hca hcb HJ
      clear htk hvx hxb hH
      have hBs := hB.size
      go_wp2_with fail
      refine (HJ.out _ _ (by simp; omega) (hrow2.alloc _)).mono ?_
      rintro e w2 ⟨v', rfl, hrow3, hb3⟩
      go_wp2_with fail
      go_roundw
      case rel => exact ⟨k + 1, by omega, by go_num, by rw [hstep.out]; exact hrow3, (hB.alloc hBs _).trans hb3, by rw [hstep.out]; exact hH2⟩
      case measure => simp [intOf]; omega
    · obtain rfl : k = n := by omega
      have hlt' : decide ((k : Int) < (k : Int)) = false := by simp
      have hT : us'.take k = us' := List.take_of_length_le (by have := hn'.out; omega)
      rw [hT] at hrow2
      obtain ⟨A', cap', rfl⟩ := own_nil_iff hrow2 rfl
      go_wp2_with fail
      go_ret
      exact ⟨us', _, hp, hs, rfl, ownsRow_base hrow2 hws, hb1.trans (hB.mono (Nat.le_trans hbase hws))⟩
end Go.Proofs.Ytmpakobfedgdbaa
namespace Go.Proofs.Ytmpakobfedgdbaa
open Go Go.Proofs Go.RowKit Go.Pol

theorem joinF_law {L us : List Sp} {x : Sp} (hC : Go.Pol.Can L) (hm : ∀ q, mem q L = true ↔ mem q us = true) (hf : ∀ y ∈ L, ∃ u ∈ us, y.1 = u.1) (hx : vld x = true) (hle : ∀ u ∈ us, u.1 ≤ x.1) :
    Go.Pol.Can (joinF L x) ∧ (∀ q, mem q (joinF L x) = true ↔ mem q (us ++ [x]) = true) ∧ (∀ y ∈ joinF L x, ∃ u ∈ us ++ [x], y.1 = u.1) := by
  have hvx := vld_iff.1 hx
  rcases List.eq_nil_or_concat L with rfl | ⟨pre, l, rfl⟩
  · rw [joinF_nil]
    refine ⟨Go.Pol.Can.one hx, fun q => ?_, fun y hy => ⟨x, by simp, by simp only [List.mem_singleton] at hy; rw [hy]⟩⟩
    rw [mem_one, mem_snoc, ← hm q, mem_nil]; simp
  · rw [List.concat_eq_append] at *
    rw [joinF_snoc]
    obtain ⟨u, hu, hlu⟩ := hf l (by simp)
    have hlx := hle u hu
    have hvl := vld_iff.1 (hC.1 l (by simp))
    have hfo := (formOk_snoc _ _ _).1 hC.2
    by_cases h : x.1 ≤ l.1 + l.2
    · rw [if_pos h]
      refine ⟨⟨?_, (formOk_snoc _ _ _).2 hfo⟩, fun q => ?_, fun y hy => ?_⟩
      · intro y hy
        rcases List.mem_append.1 hy with h1 | h1
        · exact hC.1 y (by simp [h1])
        · simp only [List.mem_singleton] at h1
          subst h1
          exact vld_iff.2 (by simp only; omega)
      · rw [mem_snoc, mem_snoc, ← hm q, mem_snoc]
        simp only
        constructor
        · rintro (h1 | h1)
          · exact .inl (.inl h1)
          · by_cases h2 : q < l.1 + l.2
            · exact .inl (.inr (by omega))
            · exact .inr (by omega)
        · rintro ((h1 | h1) | h1)
          · exact .inl h1
          · exact .inr (by omega)
          · exact .inr (by omega)
      · rcases List.mem_append.1 hy with h1 | h1
        · obtain ⟨u', hu', e⟩ := hf y (by simp [h1])
          exact ⟨u', by simp [hu'], e⟩
        · simp only [List.mem_singleton] at h1
          subst h1
          exact ⟨u, by simp [hu], hlu⟩
    · rw [if_neg h]
      refine ⟨⟨?_, (formOk_snoc _ _ _).2 ⟨hC.2, ?_⟩⟩, fun q => ?_, fun y hy => ?_⟩
      · intro y hy
        rcases List.mem_append.1 hy with h1 | h1
        · exact hC.1 y h1
        · simp only [List.mem_singleton] at h1
          subst h1; exact hx
      · rw [lastE_snoc]; omega
      · rw [mem_snoc, mem_snoc (l := us), ← hm q]
      · rcases List.mem_append.1 hy with h1 | h1
        · obtain ⟨u', hu', e⟩ := hf y h1
          exact ⟨u', by simp [hu'], e⟩
        · simp only [List.mem_singleton] at h1
          subst h1
          exact ⟨y, by simp, rfl⟩
theorem foldl_law : ∀ (us L done : List Sp), Go.Pol.Can L → (∀ q, mem q L = true ↔ mem q done = true) → (∀ y ∈ L, ∃ u ∈ done, y.1 = u.1) → (∀ y ∈ us, vld y = true) → (∀ a ∈ done, ∀ b ∈ us, a.1 ≤ b.1) → us.Pairwise (fun a b => a.1 ≤ b.1) →
    Go.Pol.Can (us.foldl joinF L) ∧ ∀ q, mem q (us.foldl joinF L) = true ↔ mem q (done ++ us) = true
  | [], L, done, hC, hm, _, _, _, _ => ⟨hC, fun q => by simpa using hm q⟩
  | x :: us, L, done, hC, hm, hf, hv, hle, hp => by
    obtain ⟨h1, h2, h3⟩ := joinF_law hC hm hf (hv x (by simp)) (fun u hu => hle u hu x (by simp))
    have hp' := List.pairwise_cons.1 hp
    have h := foldl_law us (joinF L x) (done ++ [x]) h1 h2 h3 (fun y hy => hv y (by simp [hy])) (fun a ha b hb => by
      rcases List.mem_append.1 ha with h | h
      · exact hle a h b (by simp [hb])
      · simp only [List.mem_singleton] at h
        subst h; exact hp'.1 b hb) hp'.2
    refine ⟨h.1, fun q => ?_⟩
    rw [List.foldl_cons, h.2 q, List.append_assoc]; rfl
/-- of spans sorted by their first pages: the set of their pages -/
theorem ofF_law {us : List Sp} (hv : ∀ y ∈ us, vld y = true) (hp : us.Pairwise (fun a b => a.1 ≤ b.1)) : Go.Pol.Can (ofF us) ∧ ∀ q, mem q (ofF us) = true ↔ mem q us = true := by
  have h := foldl_law us [] [] ⟨by simp, rfl⟩ (fun q => Iff.rfl) (by simp) hv (by simp) hp
  exact ⟨h.1, fun q => by have := h.2 q; simpa [ofF] using this⟩
theorem mem_perm {us vs : List Sp} (h : us.Perm vs) (q : Int) : mem q us = mem q vs := by
  rw [Bool.eq_iff_iff]; simp only [mem, List.any_eq_true]
  exact ⟨fun ⟨x, hx, e⟩ => ⟨x, h.mem_iff.1 hx, e⟩, fun ⟨x, hx, e⟩ => ⟨x, h.mem_iff.2 hx, e⟩⟩
/-- which permutation it was that the sort laid makes no difference -/
theorem ofF_set {us us' s : List Sp} (hv : ∀ y ∈ us, vld y = true) (hp : us'.Perm us) (hs : us'.Pairwise (fun a b => a.1 ≤ b.1)) (hC : Go.Pol.Can s) (hm : ∀ q, mem q s = true ↔ mem q us = true) : ofF us' = s := by
  have h := ofF_law (fun y hy => hv y (hp.mem_iff.1 hy)) hs
  exact h.1.eq hC fun q => by rw [Bool.eq_iff_iff, h.2 q, hm q, mem_perm hp]
end Go.Proofs.Ytmpakobfedgdbaa
namespace Go.Pol
open Go
/-- what is wrong with a list of spans -/
def ofE (us : List Sp) : Int := if 2000 < us.length then 3 else if us.all vld = true then 0 else 7
/-- the set of the pages of some spans -/
def setOf (us : List Sp) : List Sp := setA fun k => mem (k : Int) us
theorem setOf_can (us : List Sp) : Can (setOf us) := setA_can _
theorem vld_mem {us : List Sp} (hv : ∀ x ∈ us, vld x = true) {q : Int} (h : mem q us = true) : 0 ≤ q ∧ q < 1024 := by
  obtain ⟨x, hx, hh⟩ := List.any_eq_true.1 h
  have := vld_iff.1 (hv x hx)
  simp at hh
  omega
theorem mem_setOf {us : List Sp} (hv : ∀ x ∈ us, vld x = true) (q : Int) : mem q (setOf us) = true ↔ mem q us = true := by
  unfold setOf
  rw [mem_setA]
  constructor
  · rintro ⟨h1, h2⟩
    rwa [show ((q.toNat : Nat) : Int) = q by omega] at h2
  · intro h
    have := vld_mem hv h
    exact ⟨this, by rwa [show ((q.toNat : Nat) : Int) = q by omega]⟩
theorem setOf_self {us : List Sp} (h : Can us) : setOf us = us := (h.eq_setA _ (fun _ _ => rfl)).symm
theorem ofE_zero {us : List Sp} (h : ofE us = 0) : us.length ≤ 2000 ∧ ∀ x ∈ us, vld x = true := by
  unfold ofE at h
  split at h
  · cases h
  · split at h
    · rename_i h1 h2
      exact ⟨by omega, List.all_eq_true.1 h2⟩
    · cases h
end Go.Pol
namespace Go.Proofs.Ytmpakobfedgdbaa
open Go Go.Proofs Go.RowKit Go.Pol
theorem ofF_setOf {us us' : List Sp} (hv : ∀ y ∈ us, vld y = true) (h : us'.Perm us) (hs : us'.Pairwise (fun a b => a.1 ≤ b.1)) : ofF us' = setOf us :=
  ofF_set hv h hs (setOf_can us) (fun q => mem_setOf hv q)
end Go.Proofs.Ytmpakobfedgdbaa
namespace Go.Pol
open Go Go.RowKit
theorem MarksAre.set {cs : Array Value} {f g : Nat → Bool} (h : MarksAre cs f) (k : Nat) (hk : k < 1024) (b : Bool) (hb : g k = b) (hg : ∀ j, j ≠ k → g j = f j) : MarksAre (cs.setIfInBounds k (.bool b)) g :=
  ⟨by simp [h.size], fun j hj => by
    by_cases hjk : j = k
    · subst hjk
      rw [Array.getElem?_setIfInBounds_self_of_lt (by rw [h.size]; exact hk), hb]
    · rw [Array.getElem?_setIfInBounds_ne (Ne.symm hjk), hg j hjk]; exact h.at_ j hj⟩
theorem rangeAt_blk {w : World} {g : Nat} {t : TypeId} {cs : Array Value} (h : Blk w g t cs) : w.rangeAt g 0 cs.toList := fun j v hj => by
  rw [Nat.zero_add, h.cell]; simpa using hj
/-- the marks of the first pages of a plan -/
def setM (pg n f b ev : Int) (us : Bool) (j : Nat) (q : Nat) : Bool := decide (pg ≤ (q : Int) ∧ (q : Int) < pg + j) && ((kindG pg n f b ev q == 0) == us)
end Go.Pol
namespace Go.Proofs.Ytmpakobfedgdbaa
open Go Go.Proofs Go.RowKit Go.Pol
theorem zeros_are : MarksAre Try.zeroCells39 (fun _ => false) := by
  have e : Try.zeroCells39 = Array.replicate 1024 (.bool false) := by kernel_rfl
  rw [e]
  exact ⟨by simp, fun k hk => by simp [hk]⟩

end Go.Proofs.Ytmpakobfedgdbaa
namespace Go.Pol
open Go
section
variable {pg n f b ev : Int}
theorem setM_true (hp : PlanOk pg n f b ev) : setA (setM pg n f b ev true n.toNat) = runsL pg n f b ev := by
  refine ((runsL_can hp).eq_setA _ fun p hp2 => ?_).symm
  have h := kindG_zero hp (p : Int)
  have hr := (runsL_ok hp).2.2 (p : Int)
  have a1 := hp.f0; have a2 := hp.b0; have a3 := hp.n0
  rw [Bool.eq_iff_iff]
  simp only [setM, Bool.and_eq_true, decide_eq_true_eq, beq_iff_eq]
  rw [← h]
  constructor
  · rintro ⟨_, h2⟩; simpa using h2
  · intro h2
    have := hr.1 (h.1 h2)
    refine ⟨by omega, by simpa using h2⟩
theorem setM_false (hp : PlanOk pg n f b ev) : setA (setM pg n f b ev false n.toNat) = gapsF (runsL pg n f b ev) (pg, n) := by
  have hv : vld (pg, n) = true := vld_iff.2 ⟨hp.pg0, hp.pg1, hp.n0, hp.n1⟩
  obtain ⟨hc, hm⟩ := (runsL_can hp).gaps hv
  refine (hc.eq_setA _ fun p hp2 => ?_).symm
  have h := kindG_zero hp (p : Int)
  have a3 := hp.n0
  rw [Bool.eq_iff_iff, hm]
  simp only [setM, Bool.and_eq_true, decide_eq_true_eq, beq_iff_eq]
  have e : (((n.toNat : Nat) : Int)) = n := by omega
  rw [e]
  constructor
  · rintro ⟨h1, h2⟩
    refine ⟨by omega, ?_⟩
    rw [Bool.eq_false_iff]; intro hh
    have := h.2 hh
    rw [this] at h2; simp at h2
  · rintro ⟨h1, h2⟩
    refine ⟨by omega, ?_⟩
    rw [beq_eq_false_iff_ne]
    intro hh
    have := h.1 hh
    rw [h2] at this; cases this
end
/-! numbers -/
theorem pagesX_cons (a c : Int) : ∀ (j : Nat), pagesX (a, c) (j + 1) = a :: pagesX (a + 1, c) j
  | j => by
    simp only [pagesX, List.range_succ_eq_map, List.map_cons, List.map_map]
    congr 1
    · simp
    · apply List.map_congr_left
      intro k _
      simp only [Function.comp]
      omega
theorem pagesX_get (x : Sp) (j i : Nat) (h : i < j) : (pagesX x j).getD i 0 = x.1 + (i : Int) := by
  simp [pagesX, List.getD_eq_getElem?_getD, h]
theorem pagesX_len (x : Sp) (j : Nat) : (pagesX x j).length = j := by simp [pagesX]
theorem getD_app_l (l r : List Int) (i : Nat) (h : i < l.length) : (l ++ r).getD i 0 = l.getD i 0 := by simp [List.getD_eq_getElem?_getD, List.getElem?_append_left h]
theorem getD_app_r (l r : List Int) (i : Nat) (h : l.length ≤ i) : (l ++ r).getD i 0 = r.getD (i - l.length) 0 := by simp [List.getD_eq_getElem?_getD, List.getElem?_append_right h]
def nthP (l : List Int) (i : Int) : Int × Int := if i < 0 ∨ (l.length : Int) ≤ i then (0, 7) else (l.getD i.toNat 0, 0)
theorem nthF_pages : ∀ (L : List Sp) (i : Int), (∀ x ∈ L, 1 ≤ x.2) → nthF L i = nthP (pagesOf L) i
  | [], i, _ => by simp [nthF, nthP, pagesOf]
  | x :: r, i, h => by
    have hx := h x (by simp)
    have ih := nthF_pages r (i - x.2) (fun y hy => h y (by simp [hy]))
    rw [nthF]
    by_cases h0 : i < 0
    · rw [if_pos h0, nthP, if_pos (.inl h0)]
    rw [if_neg h0]
    have hl : (pagesOf (x :: r)).length = x.2.toNat + (pagesOf r).length := by rw [pagesOf_cons, List.length_append, pagesX_len]
    by_cases h1 : i < x.2
    · rw [if_pos h1, nthP, if_neg (by rw [hl]; omega), pagesOf_cons, getD_app_l _ _ _ (by rw [pagesX_len]; omega), pagesX_get _ _ _ (by omega)]
      congr 1; omega
    · rw [if_neg h1, ih, nthP, nthP]
      by_cases h2 : i - x.2 < 0 ∨ ((pagesOf r).length : Int) ≤ i - x.2
      · rw [if_pos h2, if_pos (by rw [hl]; omega)]
      · rw [if_neg h2, if_neg (by rw [hl]; omega), pagesOf_cons, getD_app_r _ _ _ (by rw [pagesX_len]; omega), pagesX_len]
        congr 2; omega
def idxL (page : Int) : Int → List Int → Int × Int
  | _, [] => (0, 4)
  | k, y :: r => if y = page then (k, 0) else idxL page (k + 1) r
theorem idxL_pagesX (page c : Int) (r : List Int) : ∀ (j : Nat) (a k : Int), idxL page k (pagesX (a, c) j ++ r) = if a ≤ page ∧ page < a + j then (k + (page - a), 0) else idxL page (k + j) r
  | 0, a, k => by rw [if_neg (by omega)]; simp [pagesX]
  | j + 1, a, k => by
    rw [pagesX_cons, List.cons_append, idxL, idxL_pagesX page c r j (a + 1) (k + 1)]
    by_cases h : a = page
    · rw [if_pos h, if_pos (by omega)]; congr 1; omega
    · rw [if_neg h]
      by_cases h2 : a + 1 ≤ page ∧ page < a + 1 + j
      · rw [if_pos h2, if_pos (by omega)]; congr 1; omega
      · rw [if_neg h2, if_neg (by omega)]; congr 1; omega
theorem idxF_pages (page : Int) : ∀ (L : List Sp) (k : Int), (∀ x ∈ L, 1 ≤ x.2) → idxF page k L = idxL page k (pagesOf L)
  | [], k, _ => rfl
  | x :: r, k, h => by
    obtain ⟨xa, xb⟩ := x
    have hx := h (xa, xb) (by simp)
    have ih := idxF_pages page r (k + xb) (fun y hy => h y (by simp [hy]))
    simp only at hx
    rw [idxF, pagesOf_cons]
    simp only
    rw [idxL_pagesX]
    by_cases h1 : xa ≤ page ∧ page < xa + xb
    · rw [if_pos h1, if_pos (by omega)]; congr 1; omega
    · rw [if_neg h1, if_neg (by omega), ih]; congr 1; omega
/-! what is hit -/
theorem skipF_ok : ∀ (L : List Sp) (p e : Int), (∀ x ∈ L, 1 ≤ x.2) → formOk e L = true → p ≤ skipF p L ∧ (∀ q, p ≤ q → q < skipF p L → mem q L = true) ∧ mem (skipF p L) L = false
  | [], p, e, _, _ => ⟨Int.le_refl _, fun q h1 h2 => by simp only [skipF] at h2; omega, rfl⟩
  | x :: r, p, e, h, hf => by
    have hf' := formOk_cons.1 hf
    have hx := h x (by simp)
    have hr : ∀ y ∈ r, 1 ≤ y.2 := fun y hy => h y (by simp [hy])
    have low : ∀ q, mem q r = true → x.1 + x.2 < q := fun q hq => mem_lt hf'.2 (fun y hy => by have := hr y hy; omega) hq
    rw [skipF]
    by_cases h1 : x.1 ≤ p ∧ p < x.1 + x.2
    · rw [if_pos h1]
      refine ⟨by omega, fun q h2 h3 => mem_cons'.2 (.inl (by omega)), ?_⟩
      rw [Bool.eq_false_iff]; intro hh
      rcases mem_cons'.1 hh with h2 | h2
      · omega
      · have := low _ h2; omega
    · rw [if_neg h1]
      obtain ⟨a1, a2, a3⟩ := skipF_ok r p (x.1 + x.2) hr hf'.2
      refine ⟨a1, fun q h2 h3 => mem_cons'.2 (.inr (a2 q h2 h3)), ?_⟩
      rw [Bool.eq_false_iff]; intro hh
      rcases mem_cons'.1 hh with h2 | h2
      · by_cases hpq : skipF p r = p
        · rw [hpq] at h2; exact h1 h2
        · have h4 := a2 (skipF p r - 1) (by omega) (by omega)
          have := low _ h4; omega
      · rw [a3] at h2; cases h2
def hitS (K : Int → Int) (la : Int) : Nat → Int → Int × Int × Int
  | 0, _ => (0, -1, 0)
  | k + 1, p => if la < p then (0, -1, 0) else if K p ≠ 0 then (K p, p, 0) else hitS K la k (p + 1)
theorem hitS_skip (K : Int → Int) (la s : Int) (hs : K s ≠ 0) : ∀ (k : Nat) (p : Int), la - p < k → p ≤ s → (∀ q, p ≤ q → q < s → K q = 0) → hitS K la k p = if la < s then (0, -1, 0) else (K s, s, 0)
  | 0, p, h, hps, _ => by rw [hitS, if_pos (by omega)]
  | k + 1, p, h, hps, hq => by
    rw [hitS]
    by_cases h1 : la < p
    · rw [if_pos h1, if_pos (by omega)]
    rw [if_neg h1]
    by_cases h2 : p = s
    · subst h2; rw [if_pos hs, if_neg h1]
    · rw [if_neg (by rw [hq p (Int.le_refl _) (by omega)]; simp), hitS_skip K la s hs k (p + 1) (by omega) (by omega) (fun q h3 h4 => hq q (by omega) h4)]
theorem hitK_kind {pg n f b ev q : Int} (hp : PlanOk pg n f b ev) (h : kindG pg n f b ev q ≠ 0) : kindG pg n f b ev q = hitK pg n f b q := by
  have a1 := hp.f0; have a2 := hp.b0
  unfold kindG at h ⊢
  unfold hitK
  by_cases h1 : q - pg < 0 ∨ n ≤ q - pg
  · rw [if_pos h1, if_pos (show q < pg ∨ pg + n ≤ q by omega)]
  rw [if_neg h1] at h ⊢
  rw [if_neg (show ¬ (q < pg ∨ pg + n ≤ q) by omega)]
  by_cases h2 : q - pg < f
  · rw [if_pos h2, if_pos (show q < pg + f by omega)]
  rw [if_neg h2] at h ⊢
  rw [if_neg (show ¬ q < pg + f by omega)]
  by_cases h3 : n - b ≤ q - pg
  · rw [if_pos h3, if_pos (show pg + n - b ≤ q by omega)]
  rw [if_neg h3] at h ⊢
  rw [if_neg (show ¬ pg + n - b ≤ q by omega)]
  split at h
  · rename_i h4; rw [if_pos h4]
  · exact absurd rfl h
/-- what the reference's Hit answers -/
def hitR (pg n f b ev a m : Int) : Int × Int × Int :=
  if chkG pg n f b ev = 0 then (if badHit a m then (0, 0, 2) else hitS (kindG pg n f b ev) ((a + m - 1) / 64) 1100 (a / 64)) else (0, 0, chkG pg n f b ev)
theorem hit_law (pg n f b ev a m : Int) : hitR pg n f b ev a m = hitF pg n f b ev a m := by
  unfold hitR hitF
  by_cases hc : chkG pg n f b ev = 0
  · rw [if_pos hc, if_pos hc]
    have hp := chkG_zero.1 hc
    by_cases hb : badHit a m
    · rw [if_pos hb, if_pos hb]
    · rw [if_neg hb, if_neg hb]
      unfold badHit at hb
      have hcan := runsL_can hp
      obtain ⟨s1, s2, s3⟩ := skipF_ok (runsL pg n f b ev) (a / 64) (-1) (fun x hx => (vld_iff.1 (hcan.1 x hx)).2.2.1) hcan.2
      have hk : kindG pg n f b ev (skipF (a / 64) (runsL pg n f b ev)) ≠ 0 := fun h => by
        have := (kindG_zero hp _).1 h
        rw [s3] at this; cases this
      rw [hitS_skip (kindG pg n f b ev) ((a + m - 1) / 64) _ hk 1100 (a / 64) (by omega) s1 (fun q h1 h2 => (kindG_zero hp q).2 (s2 q h1 h2)), hitK_kind hp hk]
  · rw [if_neg hc, if_neg hc]
end Go.Pol
namespace Go.Proofs.Ytmpakobfedgdbaa
open Go Go.Proofs Go.RowKit Go.Pol
section
variable {pg n f b ev : Int}
theorem plan_vld (hp : PlanOk pg n f b ev) : vld (pg, n) = true := vld_iff.2 ⟨hp.pg0, hp.pg1, hp.n0, hp.n1⟩
theorem guards_set (hp : PlanOk pg n f b ev) : Go.Pol.Can (guardsF pg n f b ev) ∧ ∀ q, mem q (guardsF pg n f b ev) = true ↔ (pg ≤ q ∧ q < pg + n) ∧ mem q (runsL pg n f b ev) = false := by
  unfold guardsF
  rw [if_pos (chkG_zero.2 hp)]
  exact (runsL_can hp).gaps (plan_vld hp)
theorem runs_in (hp : PlanOk pg n f b ev) {q : Int} (h : mem q (runsL pg n f b ev) = true) : pg ≤ q ∧ q < pg + n := by
  have := ((runsL_ok hp).2.2 q).1 h
  have := hp.f0; have := hp.b0
  omega
theorem parts_common (hp : PlanOk pg n f b ev) : commonF (guardsF pg n f b ev) (runsL pg n f b ev) = [] := by
  have hg := guards_set hp
  have hr := runsL_can hp
  refine (hg.1.common hr).eq ⟨by simp, rfl⟩ fun q => ?_
  rw [hg.1.mem_common hr, mem_nil, Bool.and_eq_false_iff]
  by_cases h : mem q (runsL pg n f b ev) = true
  · left
    cases hq : mem q (guardsF pg n f b ev) with
    | false => rfl
    | true => rw [((hg.2 q).1 hq).2] at h; cases h
  · right; simpa using h
theorem parts_all (hp : PlanOk pg n f b ev) (q : Int) : mem q [(pg, n)] = true ↔ mem q (guardsF pg n f b ev ++ runsL pg n f b ev) = true := by
  have hg := guards_set hp
  rw [mem_one, mem_append, Bool.or_eq_true, hg.2 q]
  simp only
  constructor
  · intro h
    cases hq : mem q (runsL pg n f b ev) with
    | true => exact .inr rfl
    | false => exact .inl ⟨h, rfl⟩
  · rintro (h | h)
    · exact h.1
    · exact runs_in hp h
/-- whatever sorted permutation it was: joined, the guards and the usable pages are the range -/
theorem parts_of (hp : PlanOk pg n f b ev) {us' : List Sp} (h : us'.Perm (guardsF pg n f b ev ++ runsL pg n f b ev)) (hs : us'.Pairwise (fun a b => a.1 ≤ b.1)) : ofF us' = [(pg, n)] :=
  ofF_set (fun y hy => by
    rcases List.mem_append.1 hy with h1 | h1
    · exact (guards_set hp).1.1 y h1
    · exact (runsL_can hp).1 y h1) h hs (Go.Pol.Can.one (plan_vld hp)) (parts_all hp)
/-- the program's Has of one page says whether it is in the set -/
theorem has_one {s : List Sp} (hs : Go.Pol.Can s) {p : Int} (hv : vld (p, 1) = true) : (gapsF s (p, 1)).isEmpty = mem p s := by
  obtain ⟨hg, hm⟩ := hs.gaps hv
  cases hp : mem p s with
  | true =>
    have h0 : gapsF s (p, 1) = [] := hg.eq ⟨by simp, rfl⟩ fun q => by
      rw [mem_nil]
      cases hq : mem q (gapsF s (p, 1)) with
      | false => rfl
      | true =>
        have h := (hm q).1 hq
        simp only at h
        have e : q = p := by omega
        rw [e, hp] at h; cases h.2
    rw [h0]; rfl
  | false =>
    have h1 : mem p (gapsF s (p, 1)) = true := (hm p).2 ⟨by simp only; omega, hp⟩
    cases hG : gapsF s (p, 1) with
    | nil => rw [hG, mem_nil] at h1; cases h1
    | cons => rfl
end
end Go.Proofs.Ytmpakobfedgdbaa
namespace Go.Pol
open Go
theorem pages_sorted : ∀ (L : List Sp) (e : Int), (∀ x ∈ L, 1 ≤ x.2) → formOk e L = true → (pagesOf L).Pairwise (· < ·) ∧ ∀ p ∈ pagesOf L, e < p ∧ mem p L = true
  | [], _, _, _ => ⟨by simp [pagesOf], fun p hp => by simp [pagesOf] at hp⟩
  | x :: r, e, h, hf => by
    have hf' := formOk_cons.1 hf
    have hx := h x (by simp)
    obtain ⟨h1, h2⟩ := pages_sorted r (x.1 + x.2) (fun y hy => h y (by simp [hy])) hf'.2
    have hX : ∀ p ∈ pagesX x x.2.toNat, x.1 ≤ p ∧ p < x.1 + x.2 := by
      intro p hp
      simp only [pagesX, List.mem_map, List.mem_range] at hp
      obtain ⟨k, hk, rfl⟩ := hp
      omega
    rw [pagesOf_cons]
    constructor
    · rw [List.pairwise_append]
      refine ⟨?_, h1, fun a ha b hb => by have := hX a ha; have := (h2 b hb).1; omega⟩
      unfold pagesX
      rw [List.pairwise_map]
      exact List.pairwise_lt_range.imp (fun {a b} h => by omega)
    · intro p hp
      rcases List.mem_append.1 hp with h3 | h3
      · have := hX p h3
        exact ⟨by omega, mem_cons'.2 (.inl this)⟩
      · exact ⟨by have := (h2 p h3).1; omega, mem_cons'.2 (.inr (h2 p h3).2)⟩
theorem idxL_get : ∀ (P : List Int) (k : Int) (i : Nat), P.Pairwise (· < ·) → i < P.length → idxL (P.getD i 0) k P = (k + i, 0)
  | [], _, _, _, h => by simp at h
  | y :: r, k, 0, _, _ => by simp [idxL]
  | y :: r, k, i + 1, hp, h => by
    have hp' := List.pairwise_cons.1 hp
    have hi : i < r.length := by simpa using h
    have e : (y :: r).getD (i + 1) 0 = r.getD i 0 := by simp [List.getD_eq_getElem?_getD]
    have hm : r.getD i 0 ∈ r := by rw [List.getD_eq_getElem?_getD, List.getElem?_eq_getElem hi]; simp
    have hne : y ≠ r.getD i 0 := by have := hp'.1 _ hm; omega
    rw [e, idxL, if_neg hne, idxL_get r (k + 1) i hp'.2 hi]
    congr 1
    omega
theorem sum_form : ∀ (s : List Sp) (e : Int), e < 1024 → (∀ x ∈ s, vld x = true) → formOk e s = true → sumS s ≤ 1023 - e
  | [], e, he, _, _ => by simp [sumS]; omega
  | x :: s, e, he, hv, hf => by
    rw [formOk_cons] at hf
    have hx := vld_iff.1 (hv x (by simp))
    have e1 : sumS (x :: s) = x.2 + sumS s := by simp [sumS]
    rw [e1]
    cases s with
    | nil => simp [sumS]; omega
    | cons y r =>
      have hf2 := formOk_cons.1 hf.2
      have hy := vld_iff.1 (hv y (by simp))
      have := sum_form (y :: r) (x.1 + x.2) (by omega) (fun z hz => hv z (List.mem_cons_of_mem _ hz)) hf.2
      omega
theorem runs_size (sz en : Int) : ∀ (k : Nat) (a : Int), ∀ x ∈ runsF sz en k a, x.2 ≤ sz
  | 0, _ => by simp [runsF]
  | k + 1, a => by
    intro x hx
    rw [runsF] at hx
    split at hx
    · rcases List.mem_cons.1 hx with rfl | h
      · simp only; omega
      · exact runs_size sz en k _ x h
    · simp at hx
/-- the usable page with a number -/
def pageAt (L : List Sp) (k : Nat) : Int := (pagesOf L).getD k 0
/-- the one before it -/
def lastAt (L : List Sp) (k : Nat) : Int := if k = 0 then -1 else pageAt L (k - 1)
section
variable {pg n f b ev : Int}
theorem runs_every (_hp : PlanOk pg n f b ev) (he : 0 < ev) : ∀ x ∈ runsL pg n f b ev, x.2 ≤ ev := by
  intro x hx
  unfold runsL at hx
  have := runs_size _ _ _ _ x hx
  rw [if_neg (by omega)] at this
  exact this
theorem runs_pos (hp : PlanOk pg n f b ev) : ∀ x ∈ runsL pg n f b ev, 1 ≤ x.2 := fun x hx => ((runsL_ok hp).1 x hx).2.1
theorem runs_ne (hp : PlanOk pg n f b ev) : runsL pg n f b ev ≠ [] := by
  have h := hp.fb
  unfold runsL
  rw [show (1025 : Nat) = 1024 + 1 from rfl, runsF, if_pos (by omega)]
  simp
theorem runs_sum (hp : PlanOk pg n f b ev) : 1 ≤ sumS (runsL pg n f b ev) ∧ sumS (runsL pg n f b ev) ≤ 1024 := by
  have hc := runsL_can hp
  have h1 := sum_form _ (-1) (by omega) hc.1 hc.2
  refine ⟨?_, by omega⟩
  have h2 := runs_pos hp
  cases hL : runsL pg n f b ev with
  | nil => exact absurd hL (runs_ne hp)
  | cons x r =>
    rw [hL] at h2 hc
    have h3 := h2 x (by simp)
    have h4 := (sumS_bound r (fun y hy => hc.1 y (by simp [hy]))).1
    have e1 : sumS (x :: r) = x.2 + sumS r := by simp [sumS]
    omega
theorem parts_nth (hp : PlanOk pg n f b ev) (k : Nat) (hk : (k : Int) < sumS (runsL pg n f b ev)) :
    nthF (runsL pg n f b ev) k = (pageAt (runsL pg n f b ev) k, 0) ∧ idxF (pageAt (runsL pg n f b ev) k) 0 (runsL pg n f b ev) = ((k : Int), 0) ∧
    mem (pageAt (runsL pg n f b ev) k) (runsL pg n f b ev) = true ∧ 0 ≤ pageAt (runsL pg n f b ev) k ∧ pageAt (runsL pg n f b ev) k < 1024 ∧
    lastAt (runsL pg n f b ev) k < pageAt (runsL pg n f b ev) k := by
  have hpos := runs_pos hp
  have hc := runsL_can hp
  have hin : ∀ {q : Int}, mem q (runsL pg n f b ev) = true → pg ≤ q ∧ q < pg + n := fun h => by
    have := ((runsL_ok hp).2.2 _).1 h
    have := hp.f0; have := hp.b0
    omega
  have b1 := hp.pg0; have b2 := hp.n1
  generalize runsL pg n f b ev = L at *
  have hl := pagesOf_len L (fun x hx => by have := hpos x hx; omega)
  have hk' : k < (pagesOf L).length := by omega
  obtain ⟨hs, hm⟩ := pages_sorted L (-1) hpos hc.2
  have hmem : pageAt L k ∈ pagesOf L := by
    unfold pageAt
    rw [List.getD_eq_getElem?_getD, List.getElem?_eq_getElem hk']; simp
  have hmm := (hm _ hmem).2
  have := hin hmm
  refine ⟨?_, ?_, hmm, by omega, by omega, ?_⟩
  · rw [nthF_pages L _ hpos, nthP, if_neg (by omega)]; rfl
  · rw [idxF_pages _ _ _ hpos]
    have := idxL_get (pagesOf L) 0 k hs hk'
    rw [Int.zero_add] at this
    exact this
  · unfold lastAt
    by_cases h0 : k = 0
    · rw [if_pos h0]; omega
    · rw [if_neg h0]
      have h1 : k - 1 < (pagesOf L).length := by omega
      have := List.pairwise_iff_getElem.1 hs (k - 1) k h1 hk' (by omega)
      unfold pageAt
      have e1 : (pagesOf L).getD k 0 = (pagesOf L)[k] := by rw [List.getD_eq_getElem?_getD, List.getElem?_eq_getElem hk']; rfl
      have e2 : (pagesOf L).getD (k - 1) 0 = (pagesOf L)[k - 1] := by rw [List.getD_eq_getElem?_getD, List.getElem?_eq_getElem h1]; rfl
      rw [e1, e2]
      exact this
theorem parts_end (hp : PlanOk pg n f b ev) : nthF (runsL pg n f b ev) (sumS (runsL pg n f b ev)) = (0, 7) := by
  have hpos := runs_pos hp
  rw [nthF_pages _ _ hpos, nthP, if_pos]
  right
  rw [pagesOf_len _ (fun x hx => by have := hpos x hx; omega)]
  exact Int.le_refl _
theorem lastAt_succ (L : List Sp) (k : Nat) : lastAt L (k + 1) = pageAt L k := by unfold lastAt; rw [if_neg (by omega)]; rfl
end
end Go.Pol
namespace Go.Pol
open Go
def cntN (f : Int → Bool) : Nat → Int → Int
  | 0, _ => 0
  | k + 1, a => (if f a = true then 1 else 0) + cntN f k (a + 1)
/-- how many pages of a span are in some spans -/
def cntF (us : List Sp) (x : Sp) : Int := cntN (fun q => mem q us) x.2.toNat x.1
theorem cntN_snoc (f : Int → Bool) : ∀ (k : Nat) (a : Int), cntN f (k + 1) a = cntN f k a + if f (a + k) = true then 1 else 0
  | 0, a => by simp [cntN]
  | k + 1, a => by
    rw [cntN, cntN_snoc f k (a + 1), cntN, show a + 1 + (k : Int) = a + (k + 1 : Nat) by omega]
    omega
theorem cntN_split (f : Int → Bool) : ∀ (j k : Nat) (a : Int), cntN f (j + k) a = cntN f j a + cntN f k (a + j)
  | 0, k, a => by simp [cntN]
  | j + 1, k, a => by
    rw [show j + 1 + k = (j + k) + 1 by omega, cntN, cntN_split f j k (a + 1), cntN, show a + 1 + (j : Int) = a + (j + 1 : Nat) by omega]
    omega
theorem cntN_congr {f g : Int → Bool} : ∀ (k : Nat) (a : Int), (∀ q, a ≤ q → q < a + k → f q = g q) → cntN f k a = cntN g k a
  | 0, a, _ => rfl
  | k + 1, a, h => by
    rw [cntN, cntN, h a (by omega) (by omega), cntN_congr k (a + 1) (fun q h1 h2 => h q (by omega) (by omega))]
theorem cntN_bound (f : Int → Bool) : ∀ (k : Nat) (a : Int), 0 ≤ cntN f k a ∧ cntN f k a ≤ k
  | 0, a => by simp [cntN]
  | k + 1, a => by
    have := cntN_bound f k (a + 1)
    rw [cntN]
    split <;> omega
theorem cntN_all {f : Int → Bool} : ∀ (k : Nat) (a : Int), (∀ q, a ≤ q → q < a + k → f q = true) → cntN f k a = k
  | 0, a, _ => rfl
  | k + 1, a, h => by
    rw [cntN, h a (by omega) (by omega), if_pos rfl, cntN_all k (a + 1) (fun q h1 h2 => h q (by omega) (by omega))]
    omega
theorem cntN_none {f : Int → Bool} : ∀ (k : Nat) (a : Int), (∀ q, a ≤ q → q < a + k → f q = false) → cntN f k a = 0
  | 0, a, _ => rfl
  | k + 1, a, h => by
    rw [cntN, h a (by omega) (by omega), if_neg (by decide), cntN_none k (a + 1) (fun q h1 h2 => h q (by omega) (by omega))]
    omega
theorem cntN_full {f : Int → Bool} : ∀ (k : Nat) (a : Int), cntN f k a = k → ∀ q, a ≤ q → q < a + k → f q = true
  | 0, a, _, q, h1, h2 => by omega
  | k + 1, a, h, q, h1, h2 => by
    have hb := cntN_bound f k (a + 1)
    rw [cntN] at h
    by_cases hfa : f a = true
    · rw [if_pos hfa] at h
      by_cases hqa : q = a
      · rw [hqa]; exact hfa
      · exact cntN_full k (a + 1) (by omega) q (by omega) (by omega)
    · rw [if_neg hfa] at h; omega
theorem cntN_zero {f : Int → Bool} : ∀ (k : Nat) (a : Int), cntN f k a = 0 → ∀ q, a ≤ q → q < a + k → f q = false
  | 0, a, _, q, h1, h2 => by omega
  | k + 1, a, h, q, h1, h2 => by
    have hb := cntN_bound f k (a + 1)
    rw [cntN] at h
    by_cases hfa : f a = true
    · rw [if_pos hfa] at h; omega
    · rw [if_neg hfa] at h
      by_cases hqa : q = a
      · rw [hqa]; simpa using hfa
      · exact cntN_zero k (a + 1) (by omega) q (by omega) (by omega)
theorem cnt_sum : ∀ (us : List Sp) (e a : Int), formOk e us = true → (∀ x ∈ us, vld x = true) → (∀ x ∈ us, a ≤ x.1) → a ≤ 1024 → cntN (fun q => mem q us) (1024 - a).toNat a = sumS us
  | [], _, a, _, _, _, _ => by rw [cntN_none (f := fun q => mem q []) _ _ (fun q _ _ => rfl)]; simp [sumS]
  | x :: r, e, a, hf, hv, ha, hle => by
    have hf' := formOk_cons.1 hf
    have hx := vld_iff.1 (hv x (by simp))
    have hax := ha x (by simp)
    have hrv : ∀ y ∈ r, vld y = true := fun y hy => hv y (by simp [hy])
    have low : ∀ q, mem q r = true → x.1 + x.2 < q := fun q hq => mem_lt hf'.2 (fun y hy => by have := vld_iff.1 (hrv y hy); omega) hq
    have hr : ∀ y ∈ r, x.1 + x.2 ≤ y.1 := fun y hy => by
      have := vld_iff.1 (hrv y hy)
      have := low y.1 (List.any_eq_true.2 ⟨y, hy, by simp; omega⟩)
      omega
    have ih := cnt_sum r (x.1 + x.2) (x.1 + x.2) hf'.2 hrv hr (by omega)
    have e1 : (1024 - a).toNat = (x.1 - a).toNat + (x.2.toNat + (1024 - (x.1 + x.2)).toNat) := by omega
    rw [e1, cntN_split, cntN_split, show a + ((x.1 - a).toNat : Int) = x.1 by omega, show x.1 + (x.2.toNat : Int) = x.1 + x.2 by omega]
    rw [cntN_none (x.1 - a).toNat a (fun q h1 h2 => by
      rw [Bool.eq_false_iff]; intro hh
      rcases mem_cons'.1 hh with h | h
      · omega
      · have := low q h; omega)]
    rw [cntN_all x.2.toNat x.1 (fun q h1 h2 => mem_cons'.2 (.inl (by omega)))]
    rw [cntN_congr (g := fun q => mem q r) _ _ (fun q h1 h2 => by
      show mem q (x :: r) = mem q r
      rw [mem_cons, Bool.eq_iff_iff]
      simp
      omega), ih]
    have : sumS (x :: r) = x.2 + sumS r := by simp [sumS]
    omega
theorem count_law {us : List Sp} (h : Can us) : cntF us (0, 1024) = sumS us := by
  have := cnt_sum us (-1) 0 h.2 h.1 (fun x hx => (vld_iff.1 (h.1 x hx)).1) (by omega)
  exact this
theorem has_law {us : List Sp} {x : Sp} (h : Can us) (hv : vld x = true) : (gapsF us x).isEmpty = (cntF us x == x.2) := by
  obtain ⟨hg, hm⟩ := h.gaps hv
  have hx := vld_iff.1 hv
  have e : ((x.2.toNat : Nat) : Int) = x.2 := by omega
  cases hG : gapsF us x with
  | nil =>
    have : cntF us x = x.2 := by
      unfold cntF
      rw [cntN_all, e]
      intro q h1 h2
      show mem q us = true
      cases hq : mem q us with
      | true => rfl
      | false =>
        have := (hm q).2 ⟨by omega, hq⟩
        rw [hG] at this; cases this
    rw [this]; simp
  | cons y r =>
    have hy : mem y.1 (gapsF us x) = true := by
      rw [hG]
      have := vld_iff.1 (hg.1 y (by rw [hG]; simp))
      exact mem_cons'.2 (.inl (by omega))
    have h1 := (hm y.1).1 hy
    have : cntF us x ≠ x.2 := fun hc => by
      unfold cntF at hc
      have := cntN_full _ _ (hc.trans e.symm) y.1 (by omega) (by omega)
      rw [show mem y.1 us = true from this] at h1
      cases h1.2
    simp [this]
theorem meets_law {us : List Sp} {x : Sp} (h : Can us) (hv : vld x = true) : (commonF us [x]).isEmpty = (cntF us x == 0) := by
  have hc1 := Can.one hv
  have hm := fun q => h.mem_common hc1 (p := q)
  have hcc := h.common hc1
  cases hG : commonF us [x] with
  | nil =>
    have : cntF us x = 0 := by
      unfold cntF
      apply cntN_none
      intro q h1 h2
      have hx := vld_iff.1 hv
      have h3 := hm q
      rw [hG, mem_nil] at h3
      have h4 : mem q [x] = true := mem_cons'.2 (.inl (by omega))
      rw [h4, Bool.and_true] at h3
      exact h3.symm
    rw [this]; simp
  | cons y r =>
    have hy : mem y.1 (commonF us [x]) = true := by
      rw [hG]
      have := vld_iff.1 (hcc.1 y (by rw [hG]; simp))
      exact mem_cons'.2 (.inl (by omega))
    have h1 := hm y.1
    rw [hy] at h1
    have h2 := Bool.and_eq_true_iff.1 h1.symm
    have h3 : x.1 ≤ y.1 ∧ y.1 < x.1 + x.2 := by
      rcases mem_cons'.1 h2.2 with h | h
      · exact h
      · cases h
    have : cntF us x ≠ 0 := fun hc => by
      unfold cntF at hc
      have := cntN_zero _ _ hc y.1 (by omega) (by omega)
      rw [show mem y.1 us = false from this] at h2
      cases h2.1
    simp [this]
end Go.Pol
namespace Go.Pol

/-- how many pages of group g lie in a set -/
def grpF (us : List Sp) (g : Int) : Int := cntF us (16 * g, 16)
def hugOk (C : List Sp) : Int → List Int → Bool
  | _, [] => true
  | e, g :: r => decide (16 ≤ grpF C g) && decide (e < g) && hugOk C g r
def inG (g : Int) : Bool := decide (0 ≤ g) && decide (g < 64)
/-- does a set lie in another one? -/
def subF (L C : List Sp) : Bool := (List.range 1024).all fun p => !mem (p : Int) L || mem (p : Int) C
def chkH (C L : List Sp) (H : List Int) : Int :=
  if chkS C ≠ 0 then chkS C else if chkS L ≠ 0 then chkS L else if H.all inG = false then 7
  else if subF L C = false then 6 else if hugOk C (-1) H = false then 6 else 0

theorem inG_iff {g : Int} : inG g = true ↔ 0 ≤ g ∧ g < 64 := by simp [inG]
theorem grpF_bound (us : List Sp) (g : Int) : 0 ≤ grpF us g ∧ grpF us g ≤ 16 := by
  have := cntN_bound (fun q => mem q us) 16 (16 * g)
  exact this
theorem hugOk_cons {C : List Sp} {e g : Int} {r : List Int} : hugOk C e (g :: r) = true ↔ 16 ≤ grpF C g ∧ e < g ∧ hugOk C g r = true := by simp [hugOk, and_assoc]
theorem hugOk_mem {C : List Sp} : ∀ {H : List Int} {e : Int}, hugOk C e H = true → ∀ g ∈ H, e < g ∧ grpF C g = 16
  | [], _, _ => by simp
  | x :: r, e, h => by
    obtain ⟨h1, h2, h3⟩ := hugOk_cons.1 h
    intro g hg
    rcases List.mem_cons.1 hg with rfl | hg
    · exact ⟨h2, by have := (grpF_bound C g).2; omega⟩
    · obtain ⟨a, b⟩ := hugOk_mem h3 g hg
      exact ⟨by omega, b⟩
theorem chkH_zero {C L : List Sp} {H : List Int} : chkH C L H = 0 ↔ Can C ∧ Can L ∧ (∀ g ∈ H, inG g = true) ∧ subF L C = true ∧ hugOk C (-1) H = true := by
  rw [← chkS_zero, ← chkS_zero]
  unfold chkH
  by_cases h1 : chkS C = 0
  · rw [if_neg (by simp [h1])]
    by_cases h2 : chkS L = 0
    · rw [if_neg (by simp [h2])]
      by_cases h3 : H.all inG = true
      · rw [if_neg (by simp [h3])]
        rw [List.all_eq_true] at h3
        by_cases h4 : subF L C = true
        · rw [if_neg (by simp [h4])]
          by_cases h5 : hugOk C (-1) H = true
          · rw [if_neg (by simp [h5])]
            exact ⟨fun _ => ⟨h1, h2, h3, h4, h5⟩, fun _ => rfl⟩
          · rw [if_pos (by simpa using h5)]
            exact ⟨fun h => absurd h (by decide), fun h => absurd h.2.2.2.2 h5⟩
        · rw [if_pos (by simpa using h4)]
          exact ⟨fun h => absurd h (by decide), fun h => absurd h.2.2.2.1 h4⟩
      · rw [if_pos (by simpa using h3)]
        exact ⟨fun h => absurd h (by decide), fun h => absurd (List.all_eq_true.2 h.2.2.1) h3⟩
    · rw [if_pos h2]
      exact ⟨fun h => absurd h h2, fun h => absurd h.2.1 h2⟩
  · rw [if_pos h1]
    exact ⟨fun h => absurd h h1, fun h => absurd h.1 h1⟩
end Go.Pol
namespace Go.Proofs.Ytmpakobfedgdbaa
open Go Go.Proofs Go.Shelf
def sortSp_ren : Go.Shelf.Ren := ⟨fun | 6 => 73 | 15 => 79 | 14 => 78 | 28 => 89 | 29 => 90 | 20 => 81 | 21 => 82 | 22 => 83 | 23 => 84 | 24 => 85 | 25 => 86 | 26 => 87 | 27 => 88 | 46 => 92 | 47 => 93 | 48 => 94 | 49 => 95 | 50 => 96 | 57 => 97 | n => n, fun | 22 => 22 | 24 => 53 | 25 => 110 | 3 => 3 | 39 => 116 | 0 => 0 | 53 => 126 | 55 => 128 | 4 => 4 | 46 => 119 | 45 => 118 | 50 => 123 | 5 => 5 | 9 => 9 | 66 => 129 | 70 => 133 | 76 => 135 | 77 => 44 | n => n, fun | n => n⟩
theorem sortSp : Go.Proofs.SlLaysF0.n6 Try.prog sortSp_ren := {
  mixed := by kernel_rfl
  f6 := ⟨Try.f73.name, by decide, Try.func73.trans (congrArg some (by kernel_rfl))⟩
  f14 := ⟨Try.f78.name, by decide, Try.func78.trans (congrArg some (by kernel_rfl))⟩
  f15 := Try.func79.trans (congrArg some (by kernel_rfl))
  f20 := ⟨Try.f81.name, by decide, Try.func81.trans (congrArg some (by kernel_rfl))⟩
  f21 := ⟨Try.f82.name, by decide, Try.func82.trans (congrArg some (by kernel_rfl))⟩
  f22 := ⟨Try.f83.name, by decide, Try.func83.trans (congrArg some (by kernel_rfl))⟩
  f23 := ⟨Try.f84.name, by decide, Try.func84.trans (congrArg some (by kernel_rfl))⟩
  f24 := ⟨Try.f85.name, by decide, Try.func85.trans (congrArg some (by kernel_rfl))⟩
  f25 := ⟨Try.f86.name, by decide, Try.func86.trans (congrArg some (by kernel_rfl))⟩
  f26 := ⟨Try.f87.name, by decide, Try.func87.trans (congrArg some (by kernel_rfl))⟩
  f27 := ⟨Try.f88.name, by decide, Try.func88.trans (congrArg some (by kernel_rfl))⟩
  f28 := Try.func89.trans (congrArg some (by kernel_rfl))
  f29 := Try.func90.trans (congrArg some (by kernel_rfl))
  f46 := ⟨Try.f92.name, by decide, Try.func92.trans (congrArg some (by kernel_rfl))⟩
  f47 := Try.func93.trans (congrArg some (by kernel_rfl))
  f48 := Try.func94.trans (congrArg some (by kernel_rfl))
  f49 := ⟨Try.f95.name, by decide, Try.func95.trans (congrArg some (by kernel_rfl))⟩
  f50 := ⟨Try.f96.name, by decide, Try.func96.trans (congrArg some (by kernel_rfl))⟩
  f57 := ⟨Try.f97.name, by decide, Try.func97.trans (congrArg some (by kernel_rfl))⟩
  t0 := Try.underlying0
  a0 := Try.isAgg0
  z0 := Try.sizeOf0
  v0 := Try.zeroValue0
  t3 := Try.underlying3
  a3 := Try.isAgg3
  z3 := Try.sizeOf3
  v3 := Try.zeroValue3
  t4 := Try.underlying4
  a4 := Try.isAgg4
  z4 := Try.sizeOf4
  v4 := Try.zeroValue4
  t5 := Try.underlying5
  a5 := Try.isAgg5
  z5 := Try.sizeOf5
  v5 := Try.zeroValue5
  t9 := Try.underlying9
  a9 := Try.isAgg9
  z9 := Try.sizeOf9
  v9 := Try.zeroValue9
  t22 := Try.underlying22
  a22 := Try.isAgg22
  z22 := Try.sizeOf22
  v22 := Try.zeroValue22
  t25 := Try.underlying110
  a25 := Try.isAgg110
  z25 := Try.sizeOf110
  v25 := Try.zeroValue110
  t39 := Try.underlying116
  a39 := Try.isAgg116
  z39 := Try.sizeOf116
  v39 := Try.zeroValue116
  t45 := Try.underlying118
  a45 := Try.isAgg118
  z45 := Try.sizeOf118
  v45 := Try.zeroValue118
  t46 := Try.underlying119
  a46 := Try.isAgg119
  z46 := Try.sizeOf119
  v46 := Try.zeroValue119
  t50 := Try.underlying123
  a50 := Try.isAgg123
  z50 := Try.sizeOf123
  v50 := Try.zeroValue123
  t53 := Try.underlying126
  a53 := Try.isAgg126
  z53 := Try.sizeOf126
  v53 := Try.zeroValue126
  t55 := Try.underlying128
  a55 := Try.isAgg128
  z55 := Try.sizeOf128
  v55 := Try.zeroValue128
  t66 := Try.underlying129
  a66 := Try.isAgg129
  z66 := Try.sizeOf129
  v66 := Try.zeroValue129
  t70 := Try.underlying133
  a70 := Try.isAgg133
  z70 := Try.sizeOf133
  v70 := Try.zeroValue133
  t76 := Try.underlying135
  a76 := Try.isAgg135
  z76 := Try.sizeOf135
  v76 := Try.zeroValue135
  t77 := Try.underlying44
  a77 := Try.isAgg44
  z77 := Try.sizeOf44
  v77 := Try.zeroValue44 }
end Go.Proofs.Ytmpakobfedgdbaa
namespace Go.Proofs.Ytmpakobfedgdbaa
open Go Go.Proofs Go.RowKit Go.Pol Go.Shelf Go.Sort

def encSp (x : Sp) : List Value := [.int .i64 x.1, .int .i64 x.2]
theorem flat_cells (us : List Sp) : (flatK encSp 2 us.toArray).toList = spCells us := by
  apply List.ext_getElem?
  intro t
  have hl := spCells_len us
  by_cases ht : t < us.length * 2
  · have h1 : (flatK encSp 2 us.toArray).toList[t]? = some ((encSp us.toArray[t / 2]!)[t % 2]!) := by
      rw [← get_flatK encSp 2 us.toArray t (by simpa using ht)]
      rw [Array.getElem?_toList, getElem!_pos _ t (by simpa using ht), Array.getElem?_eq_getElem (by simpa using ht)]
    rw [h1]
    have hk : t / 2 < us.length := by omega
    have hat := spCells_at us (t / 2) hk
    have hg : us.toArray[t / 2]! = us.getD (t / 2) (0,0) := by
      rw [List.getD_eq_getElem?_getD, List.getElem?_eq_getElem hk, getElem!_pos _ _ (by simpa using hk)]; simp
    rw [hg]
    rcases Nat.mod_two_eq_zero_or_one t with h | h
    · rw [h, show t = t / 2 * 2 by omega, hat.1]; simp [encSp]
    · rw [h]
      have e : t = t / 2 * 2 + 1 := by omega
      generalize t / 2 = k at *
      subst e
      rw [hat.2]; simp [encSp]
  · rw [List.getElem?_eq_none (by simp; omega), List.getElem?_eq_none (by omega)]
theorem heap_putF {w : World} {g m : Nat} {os : Array Obj} {cur : Array Value} {e : TypeId} {fr : Nat × Nat} (F : Array Value) (hb : w.heap[g]? = some (.cells cur e fr)) :
    (grow (putRow id (Sort.ahead w m) g 0 F) os).heap[g]? = some (.cells (putCells id 0 F cur) e fr) := by
  have hg : g < w.heap.size := (Array.getElem?_eq_some_iff.1 hb).1
  rw [heap_grow_old _ _ (by simpa using hg)]
  simp [putRow, mapBlock, Sort.ahead, Array.getElem?_modify, hb, onCells]
theorem grownBy_putF {w : World} {g m : Nat} {os : Array Obj} (F : Array Value) : w.grownBy (grow (putRow id (Sort.ahead w m) g 0 F) os) (some g) := by
  refine ⟨rfl, rfl, rfl, by simp, fun k hk hne => ?_⟩
  rw [heap_grow_old _ _ (by simpa using hk)]
  have : g ≠ k := fun e => hne (by rw [e])
  simp [putRow, mapBlock, Sort.ahead, Array.getElem?_modify, this]
theorem take_putF (cur F : Array Value) (h : F.size ≤ cur.size) : (putCells id 0 F cur).toList.take F.size = F.toList := by
  apply List.ext_getElem?
  intro j
  by_cases hj : j < F.size
  · rw [List.getElem?_take_of_lt hj, Array.getElem?_toList]
    simp [putCells, hj, show j < cur.size by omega]
  · rw [List.getElem?_take_eq_none (by omega), List.getElem?_eq_none (by simp; omega)]
theorem owns_putF {w : World} {base g n cap m : Nat} {e : TypeId} {os : Array Obj} {xs : List Value} (F : Array Value) (hF : F.size = n * 2) (h : w.ownsRow base e 2 (.slice (some ⟨g, 0, none⟩) n cap) n xs) :
    (grow (putRow id (Sort.ahead w m) g 0 F) os).ownsRow base e 2 (.slice (some ⟨g, 0, none⟩) n cap) n F.toList := by
  rcases h.2 with ⟨h0, _⟩ | ⟨g', cap', cur, hv, hbase, hb, h1, h2, h3, _⟩
  · cases h0
  cases hv
  exact ⟨by simpa using hF, .inr ⟨g, cap, _, rfl, hbase, heap_putF _ hb, h1, h2, by simp [putCells, h3], by rw [← hF]; exact take_putF cur F (by rw [hF, h3]; exact Nat.mul_le_mul_right 2 h1)⟩⟩
theorem holds_own {w : World} {base g n cap : Nat} {e : TypeId} {us : List Sp} (hn : us.length = n) (h : w.ownsRow base e 2 (.slice (some ⟨g, 0, none⟩) n cap) n (spCells us)) : HoldsK encSp 2 w g 0 us.toArray := by
  intro j hj
  have hj' : j < us.length * 2 := by simpa using hj
  rw [Nat.zero_add]
  refine ⟨?_, h.frozenAt j⟩
  rw [h.cellAt j (by omega), ← flat_cells, Array.getElem?_toList, getElem!_pos _ j hj, Array.getElem?_eq_getElem hj]
  rfl


theorem cmpLays (blk off size : Nat) (w : World) : CmpLays Try.prog 74 #[] encSp 2 (fun x y => cmpI x.1 y.1) blk off size w :=
  fun m os dk _ x y => (of1_any x y _).mono (by rintro e w' ⟨he, rfl⟩; exact ⟨he, 0, _, by rw [alloc_eq_grow, alloc_eq_grow, grow_grow]; rfl⟩)
theorem ltSp (x y : Sp) : ltOf (fun x y : Sp => cmpI x.1 y.1) x y = decide (x.1 < y.1) := by
  unfold ltOf cmpI
  by_cases h1 : x.1 < y.1
  · simp [h1]
  · by_cases h2 : y.1 < x.1 <;> simp [h1, h2]
theorem swoSp : SWO (ltOf fun x y : Sp => cmpI x.1 y.1) where
  irrefl x := by rw [ltSp]; simp
  trans x y z h1 h2 := by rw [ltSp] at *; simp at *; omega
  ntrans x y z h1 h2 := by rw [ltSp] at *; simp at *; omega
theorem of1_enters : ∀ args w, (callFunc 74 args).run Try.prog w = .ok (.enter 74 args) w := enters_of Try.func74 (by kernel_rfl) rfl

set_option maxHeartbeats 1000000 in
/-- the sort of a slice of spans of the call's own that holds some -/
theorem sortSome_any (base : Nat) (v : Value) (us : List Sp) (w : World) (hlen : us.length ≤ 100000) (hbase : base ≤ w.heap.size) (hne : us ≠ []) (hrow : w.ownsRow base 53 2 v us.length (spCells us)) :
    Calls Try.prog 73 #[v, .func (.func 74) #[] #[]] w fun e w' => e = .returned (.tuple #[]) ∧ ∃ us' : List Sp, us'.Perm us ∧ us'.Pairwise (fun a b => a.1 ≤ b.1) ∧ w'.ownsRow base 53 2 v us.length (spCells us') ∧ Go.RowKit.Below base w w' := by
  have hpos : 0 < us.length := List.length_pos_iff.2 hne
  obtain ⟨g, cap, rfl, hg1, hg2⟩ := hrow.form hpos
  have hcon := AnyQ.slices_SortFunc sortSp 2 Try.isAgg53 Try.sizeOf53 encSp (fun _ => rfl) (fun x v hv => by simp [encSp] at hv; rcases hv with rfl | rfl <;> rfl) (fun x y => cmpI x.1 y.1) swoSp 74 #[] g 0 cap us.toArray w of1_enters (cmpLays g 0 us.toArray.size w) (holds_own rfl hrow) hg2 (by simp; omega)
  change Calls Try.prog 73 _ _ _ at hcon
  rw [List.size_toArray] at hcon
  refine hcon.mono ?_
  rintro e w' ⟨rfl, d', n, os, hp, hs, rfl⟩
  obtain ⟨us'⟩ := d'
  obtain ⟨hp1, _, hp2⟩ := hp
  simp only [List.size_toArray] at hp1 hp2
  refine ⟨rfl, us', by
    have h1 : (Array.extract us'.toArray 0 us.length).toList = us' := by simp [← hp1]
    have h2 : (Array.extract us.toArray 0 us.length).toList = us := by simp
    rw [h1, h2] at hp2; exact hp2, ?_, ?_, ?_⟩
  · rw [List.pairwise_iff_getElem]
    intro i j hi hj hij
    have := hs i j (Nat.zero_le _) hij (by omega)
    rw [ltSp, getElem!_pos _ j (by simpa using hj), getElem!_pos _ i (by simpa using hi)] at this
    simpa using this
  · have := owns_putF (m := n) (os := os) (flatK encSp 2 us'.toArray) (by simp [hp1]) hrow
    rw [flat_cells] at this
    exact this
  · exact (Go.RowKit.Below.refl base w).grown (grownBy_putF _) hbase (fun j hj => by cases hj; exact hg1)
end Go.Proofs.Ytmpakobfedgdbaa
namespace Go.Proofs.Ytmpakobfedgdbaa
open Go Go.Proofs Go.RowKit Go.Pol Go.Shelf

theorem sort_any (base : Nat) (v : Value) (us : List Sp) (w : World) (hlen : us.length ≤ 100000) (hbase : base ≤ w.heap.size) (hrow : w.ownsRow base 53 2 v us.length (spCells us)) :
    Calls Try.prog 73 #[v, .func (.func 74) #[] #[]] w fun e w' => e = .returned (.tuple #[]) ∧ ∃ us' : List Sp, us'.Perm us ∧ us'.Pairwise (fun a b => a.1 ≤ b.1) ∧ w'.ownsRow base 53 2 v us.length (spCells us') ∧ Below base w w' := by
  by_cases hne : us = []
  · subst hne
    obtain ⟨A, cap, rfl⟩ := own_nil_iff hrow rfl
    have h := AnyF.slices_SortFunc_none sortSp A cap (.func (.func 74) #[] #[]) w
    change Calls Try.prog 73 _ _ _ at h
    refine h.mono ?_
    rintro e w' ⟨rfl, rfl⟩
    exact ⟨rfl, [], List.Perm.refl _, List.Pairwise.nil, hrow, Below.refl _ _⟩
  · exact sortSome_any base v us w hlen hbase hne hrow
/-- of: of valid spans in a slice of the call's own -/
theorem of'_any (base : Nat) (v : Value) (us : List Sp) (w : World) (hv : ∀ y ∈ us, vld y = true) (hlen : us.length ≤ 100000) (hbase : base ≤ w.heap.size) (hrow : w.ownsRow base 53 2 v us.length (spCells us)) :
    Calls Try.prog 66 #[v] w fun e w' => ∃ (us' : List Sp) (v' : Value), us'.Perm us ∧ us'.Pairwise (fun a b => a.1 ≤ b.1) ∧ e = .returned v' ∧ w'.ownsRow w.heap.size 53 2 v' (ofF us').length (spCells (ofF us')) ∧ Below base w w' :=
  of_any base v us w hv hlen hbase (sort_any base v us w hlen hbase hrow) hrow
end Go.Proofs.Ytmpakobfedgdbaa
namespace Go.Proofs.Ytmpakobfedgdbaa
open Go Go.Proofs Go.RowKit Go.Pol Go.Shelf


theorem ru_src {w : World} {A : Option Addr} {us : List Sp} (h : RU w w.heap.size A us) : (A = none ∧ us = []) ∨ ∃ ad, A = some ad ∧ ∀ (j : Nat) (u : Value), (spCells us)[j]? = some u → w.cell? (ad.add j) = some u := by
  by_cases h0 : us = []
  · subst h0
    cases A with
    | none => exact .inl ⟨rfl, rfl⟩
    | some ad => exact .inr ⟨ad, rfl, fun j u hu => by simp [spCells] at hu⟩
  · obtain ⟨b, o, rfl, _⟩ := RU.at_' h (k := 0) (List.length_pos_iff.2 h0)
    refine .inr ⟨⟨b, o, none⟩, rfl, fun j u hu => ?_⟩
    have hl := spCells_len us
    have hj : j < us.length * 2 := by
      rw [← hl]; exact (List.getElem?_eq_some_iff.1 hu).1
    obtain ⟨k, hk⟩ : ∃ k, j = k * 2 ∨ j = k * 2 + 1 := ⟨j / 2, by omega⟩
    obtain ⟨b', o', e, _, h1, h2⟩ := RU.at_' h (k := k) (by omega)
    cases e
    have hat := spCells_at us k (by omega)
    rw [Addr.add_lit]
    rcases hk with rfl | rfl
    · rw [hat.1] at hu
      rw [← hu]; exact h1
    · rw [hat.2] at hu
      rw [← hu]; exact h2
theorem spCells_one (us : List Sp) : ∀ u ∈ spCells us, u.oneCell' = true := by
  intro u hu
  simp only [spCells, List.mem_flatMap, List.mem_cons, List.not_mem_nil, or_false] at hu
  obtain ⟨x, _, rfl | rfl⟩ := hu <;> rfl
theorem spCells_append (us vs : List Sp) : spCells (us ++ vs) = spCells us ++ spCells vs := by simp [spCells]

end Go.Proofs.Ytmpakobfedgdbaa
