/- Merged texts. Walks: slices.Clone of spans, Of; the reference's Marks and Of. Plain functions: the pieces of spans between multiples of a size. A range over a function value whose function keeps cells of its own that it makes while it runs (X: what of all blocks is the function's); a region of such a function whose last operations hand a value to the loop. Walks: Count; Pieces as a function value that is ranged over. A slice of its own that a loop over a function value appends to, while the function makes blocks of its own: the slice's block is none of those. Walks: what Pieces hands back; the law's list of what such a function value goes through. Plain laws: pieces of one page are the pages; how many pieces there are. A range over a function value whose function ranges over another one: what the body must leave, it must leave too where it ends the loop. Walks: Pages as a function value that is ranged over: it ranges over the pieces of one page, and hands each to the loop. Walks: what Pages hands back; the law's list of what such a function value goes through. Walks: slices.IndexFunc and slices.ContainsFunc over ints; open$1. What the struct 'look' of layer 13 holds, as cells; what a store into it makes of that. Plain laws for layer 13: what the loops over pages count. Plain functions: places of some pages in spans, at multiples of a power of two. Walks: bits.OnesCount; what is wrong with what is looked for; the function value that goes through places. Walks: places; First. Walks: Best. -/
import Derived.OrdersIn
import Derived.Laws.AppendOwn
import Derived.Test.YtmpakobfedgdbaaC2
namespace Go.Pol
open Go Go.RowKit
theorem MarksAre.congr {cs : Array Value} {f g : Nat → Bool} (h : MarksAre cs f) (hg : ∀ k, k < 1024 → f k = g k) : MarksAre cs g :=
  ⟨h.size, fun k hk => by rw [← hg k hk]; exact h.at_ k hk⟩
theorem MarksAre.one {cs : Array Value} {f : Nat → Bool} (h : MarksAre cs f) : cs.all (·.oneCell') = true := by
  rw [Array.all_eq_true]
  intro i hi
  have := h.at_ i (by rw [← h.size]; exact hi)
  rw [Array.getElem?_eq_getElem hi] at this
  cases this' : cs[i] <;> simp_all [Value.oneCell']
theorem below_setCells {s : Nat} {w : World} (b : Nat) (hb : s ≤ b) : ∀ (vs : List Value) (o : Nat) (W : World), Below s w W → Below s w (W.setCells b o vs)
  | [], _, _, h => h
  | v :: vs, o, _, h => below_setCells b hb vs (o + 1) _ (h.setCell (p := ⟨b, o, none⟩) hb v)
theorem results_cell {P : Program} {fn : Func} {a : Tmp} {t : TypeId} {tmps : Array Value} {w : World} {v : Value} {p : Addr} (h : fn.results = #[.cell a t]) (ha : tmps.getD a undef = .pointer (some p)) (hl : (loadVar t p).run P w = .ok v w) :
    (results fn tmps).run P w = .ok v w := by
  have ha' : tmps[a]?.getD undef = .pointer (some p) := by rw [← ha, Array.getD_eq_getD_getElem?]
  simp [results, h, ha', asAddr, hl]
theorem blk_there {w : World} {g : Nat} {t : TypeId} {cs : Array Value} (h : Blk w g t cs) : w.there g 0 cs.size := fun j hj => by
  rw [Nat.zero_add]
  exact ⟨by rw [h.cell]; simp [hj], h.frozen j⟩
end Go.Pol
namespace Go.Proofs.Ytmpakobfedgdbaa
open Go Go.Proofs Go.RowKit Go.Pol Go.Shelf

set_option maxHeartbeats 800000 in
theorem clone_any (A : Option Addr) (n cap : Nat) (us : List Sp) (w : World) (hn : us.length = n) (hm : n ≤ 1000000) (hr : RU w w.heap.size A us) :
    Calls Try.prog 55 #[.slice A n cap] w fun e w' => ∃ v, e = .returned v ∧ w'.ownsRow w.heap.size 53 2 v n (spCells us) ∧ Below w.heap.size w w' := by
  obtain ⟨i0, hi, hy0, hy1, hy2⟩ := infoSp_parts
  have h1 := Lib.hid hn
  clear hn
  have q36 : ∀ (w : World) (a : Option Addr) (n c n' c' : Nat), (binOp .eql 22 (.slice a n c) (.slice none n' c')).run Try.prog w = .ok (.bool a.isNone) w := fun w a n c n' c' => Lib.run_eql_slice_nil w _ _ a n c n' c' Try.underlying22
  have hb0 := (Below.refl w.heap.size w).alloc (Nat.le_refl _) (.cells #[] 53)
  have hsrc := ru_src (hr.on ((Below.refl w.heap.size w).alloc (Nat.le_refl _) (.cells #[] 53)))
  have hown : (w.alloc (.cells #[] 53)).ownsRow w.heap.size 53 2 (.slice (some ⟨w.heap.size, 0, none⟩) 0 0) 0 [] := World.ownsRow_made w #[] 0 (Nat.le_refl _) (Nat.zero_le _) (by simp)
  rcases hsrc with ⟨rfl, rfl⟩ | ⟨ad, rfl, hnews⟩
  · have hn0 : n = 0 := h1.out.symm
    subst hn0
    go_enter Try.func55, Try.ntmps55
    go_wp2_with fail
    go_ret
    exact ⟨_, rfl, World.ownsRow_nil _ _ _ _, Below.refl _ _⟩
  · go_enter Try.func55, Try.ntmps55
    go_wp2_with (refine wpList_append_own _ rfl (.tmp 5) (.tmp 6) 22 rfl w.heap.size 53 i0 (.agg #[.int .i64 0, .int .i64 0]) 2 16 Try.underlying22 hi hy0 hy1 hy2 rfl (by decide) _ 0 [] rfl hown ad n cap (spCells us) rfl (by rw [spCells_len, h1.out]) hnews (spCells_one us) (by unfold maxLen; omega) (by omega) (by simp) ?_; intro v' w3 hown' hgrow _)
    go_ret
    rw [Nat.zero_add, List.nil_append] at hown'
    exact ⟨_, rfl, hown', hb0.grown hgrow (by simp) (fun j hj => (hown.lt j hj).1)⟩

set_option maxHeartbeats 800000 in
theorem ofTop_any (A : Option Addr) (n cap : Nat) (us : List Sp) (w : World) (hn : us.length = n) (hm : n ≤ maxLen) (hr : RU w w.heap.size A us) :
    Calls Try.prog 40 #[.slice A n cap] w (SpansOwn w (if ofE us = 0 then setOf us else []) (ofE us)) := by
  have HC := Lib.hid (containsFunc_any A n cap us w hn hm hr)
  by_cases hlen : 2000 < n
  · have hlen' : decide (2000 < (n : Int)) = true := by simp; omega
    have hE : ofE us = 3 := by unfold ofE; rw [if_pos (by omega)]
    rw [hE, if_neg (by decide)]
    clear hE
    go_enter Try.func40, Try.ntmps40
    go_wp2_with fail
    go_ret2
    exact ⟨none, 0, rfl, RU.nil, by simp, by unfold maxLen; omega, fun b o e => (by cases e), Below.refl _ _, fun _ => rfl⟩
  have hlen' : decide (2000 < (n : Int)) = false := by simp; omega
  by_cases hall : us.all vld = true
  · have hE : ofE us = 0 := by unfold ofE; rw [if_neg (by omega), if_pos hall]
    have hv := (ofE_zero hE).2
    rw [hE, if_pos rfl]
    rw [hall] at HC
    have HK := Lib.hid (fun W h => clone_any A n cap us W hn (by omega) h)
    have HO := Lib.hid (fun base v W (h1 : base ≤ W.heap.size) (h2 : W.ownsRow base 53 2 v us.length (spCells us)) => of'_any base v us W hv (by omega) h1 h2)
    have hS := Lib.hid (fun (us' : List Sp) (h1 : us'.Perm us) h2 => ofF_setOf hv h1 h2)
    rw [hn] at HO
    clear hE hall hv hn
    go_enter Try.func40, Try.ntmps40
    go_wp2_with fail
    refine HC.out.mono ?_
    rintro e w1 ⟨rfl, hb1⟩
    go_wp2_with fail
    refine (HK.out _ (hr.on hb1)).mono ?_
    rintro e w2 ⟨v, rfl, hrow, hb2⟩
    have B2 := hb1.trans (hb2.mono hb1.size)
    go_wp2_with fail
    refine (HO.out _ _ _ hb2.size hrow).mono ?_
    rintro e w3 ⟨us', v', hp, hs, rfl, hrow3, hb3⟩
    rw [hS.out us' hp hs] at hrow3
    obtain ⟨A3, cap3, rfl, hru, h1, h2, h3, _⟩ := own_RU hrow3 rfl
    go_wp2_with fail
    go_ret2
    exact ⟨A3, cap3, rfl, hru, h1, h2, fun b o e => by have := h3 b o e; have := B2.size; omega, B2.trans (hb3.mono hb1.size), own_cap hrow3⟩
  · have hE : ofE us = 7 := by unfold ofE; rw [if_neg (by omega), if_neg hall]
    have hall' : us.all vld = false := by simpa using hall
    rw [hE, if_neg (by decide)]
    rw [hall'] at HC
    clear hE hall hall'
    go_enter Try.func40, Try.ntmps40
    go_wp2_with fail
    refine HC.out.mono ?_
    rintro e w1 ⟨rfl, hb1⟩
    go_wp2_with fail
    go_ret2
    exact ⟨none, 0, rfl, RU.nil, by simp, by unfold maxLen; omega, fun b o e => (by cases e), hb1, fun _ => rfl⟩

theorem marks_step (us : List Sp) (k : Nat) (hk : k < us.length) (p : Int) : mem p (us.take (k + 1)) = (mem p (us.take k) || decide ((us.getD k (0,0)).1 ≤ p ∧ p < (us.getD k (0,0)).1 + (us.getD k (0,0)).2)) := by
  rw [take_snoc us k hk, mem_append, mem_cons, mem_nil, Bool.or_false]
  congr 1
  rw [Bool.eq_iff_iff]; simp

set_option maxRecDepth 100000 in
set_option maxHeartbeats 1600000 in
theorem marks_any (A : Option Addr) (n cap : Nat) (us : List Sp) (w : World) (hn : us.length = n) (hm : n ≤ 1000000) (hr : RU w w.heap.size A us) (hv : ∀ x ∈ us, vld x = true) :
    Calls Try.prog 17 #[.slice A n cap] w fun e w' => ∃ cs, e = .returned (.agg cs) ∧ MarksAre cs (fun k => mem (k : Int) us) ∧ Below w.heap.size w w' := by
  obtain ⟨s, hs⟩ : ∃ s, w.heap.size = s := ⟨_, rfl⟩
  obtain ⟨W0, hW0⟩ : ∃ W0, (w.alloc (.cells Try.zeroCells39 39)).alloc (.cells Try.zeroCells39 39) = W0 := ⟨_, rfl⟩
  have hb0 : Below s w W0 := by rw [← hW0, ← hs]; exact ((Below.refl w.heap.size w).alloc (Nat.le_refl _) _).alloc (by simp) _
  have kR : Blk W0 s 39 Try.zeroCells39 := by rw [← hW0, ← hs]; exact (Blk.new _ _ _).alloc _
  have kM : Blk W0 (s + 1) 39 Try.zeroCells39 := by
    have := Blk.new (w.alloc (.cells Try.zeroCells39 39)) 39 Try.zeroCells39
    rw [World.size_alloc, hs, hW0] at this; exact this
  have hZ := zeros_are
  have hW1 := Lib.hid hW0
  have hn' := Lib.hid hn
  have hv' := Lib.hid hv
  rw [hs] at hr
  clear hW0 hn hv
  go_enter Try.func17, Try.ntmps17
  go_upto_region 2 with fail
  try simp only [Nat.add_assoc, Nat.reduceAdd]
  try rw [hs]
  rw [hW1.out]
  generalize Try.zeroCells39 = Z at *
  clear hW1
  go_wp2_with fail
  go_loopw [4] (fun i wr => ∃ (k : Nat) (cs : Array Value), k ≤ n ∧ i = .int .i64 k ∧ Blk wr s 39 Z ∧ Blk wr (s + 1) 39 cs ∧ MarksAre cs (fun p => mem (p : Int) (us.take k)) ∧ Below s w wr) (fun i _ => n - (intOf i).toNat)
  case atStart => exact ⟨0, Z, by omega, rfl, kR, kM, hZ.congr (fun k _ => by simp [mem_nil]), hb0⟩
  case round =>
    obtain ⟨k, cs, hk, rfl, kR, kM, hM, hB⟩ := hrel
    by_cases hlt : k < n
    · have hlt' : decide ((k : Int) < (n : Int)) = true := by simpa using hlt
      obtain ⟨b, o, rfl, hbl, hcw, hdw⟩ := RU.at_' hr (k := k) (by have := hn'.out; omega)
      have hvx := vld_iff.1 (hv'.out (us.getD k (0,0)) (by rw [List.getD_eq_getElem?_getD, List.getElem?_eq_getElem (by have := hn'.out; omega)]; simp))
      have hst := Lib.hid (marks_step us k (by have := hn'.out; omega))
      generalize us.getD k (0,0) = x at *
      obtain ⟨xa, xb⟩ := x
      dsimp only at hcw hdw hvx hst
      have hc := (hB.cell (p := ⟨b, o + k * 2, none⟩) hbl).trans hcw
      go_wp2_with fail
      go_loopw [5] (fun p wr => ∃ (j : Nat) (cs : Array Value), (j : Int) ≤ xb ∧ p = .int .i64 (xa + j) ∧ Blk wr s 39 Z ∧ Blk wr (s + 1) 39 cs ∧ MarksAre cs (fun q => mem (q : Int) (us.take k) || decide (xa ≤ (q : Int) ∧ (q : Int) < xa + j)) ∧ Below s w wr) (fun p _ => (xa + xb - intOf p).toNat)
      case atStart => exact ⟨0, cs, by omega, by simp, kR, kM, hM.congr (fun p _ => by rw [decide_eq_false (by omega), Bool.or_false]), hB⟩
      case round =>
        clear hM kM kR hc hB
        obtain ⟨j, cs, hj, rfl, kR, kM, hM, hB⟩ := hrel
        have hBs := hB.size
        have hc := (hB.cell (p := ⟨b, o + k * 2, none⟩) hbl).trans hcw
        have hd := (hB.cell (p := ⟨b, o + k * 2 + 1, none⟩) hbl).trans hdw
        have e1 := fun z : Ext wr => z.cell hc
        have e2 := fun z : Ext wr => z.cell hd
        by_cases hjx : (j : Int) < xb
        · have hj' : decide (xa + (j : Int) < xa + xb) = true := by simp; omega
          have hmm := Lib.hid (hM.set (g := fun q => mem (q : Int) (us.take k) || decide (xa ≤ (q : Int) ∧ (q : Int) < xa + (j + 1 : Nat))) (xa + j).toNat (by omega) true (by
            have e : (((xa + (j : Int)).toNat : Nat) : Int) = xa + j := by omega
            simp only [e]
            rw [decide_eq_true (by omega), Bool.or_true]) (fun q hq => by
            congr 1
            exact decide_eq_decide.2 (by omega)))
          have hold := hM.at_ (xa + j).toNat (by omega)
          generalize (mem (((xa + (j : Int)).toNat : Nat) : Int) (us.take k) || decide (xa ≤ (((xa + (j : Int)).toNat : Nat) : Int) ∧ (((xa + (j : Int)).toNat : Nat) : Int) < xa + j)) = B0 at hold
          go_upto_region 6 with fail
          refine region_ext (by kernel_rfl) (by kernel_rfl) ?_
          repeat (go_big_quiet_step (fail))
          refine wpQuiet_nil ?_
          rintro w2 ⟨⟨_, hw2⟩, rfl⟩
          have kM2 := kM.call hw2
          have kR2 := kR.call hw2
          have hB2 := hB.trans (hw2.mono (by omega))
          have fM2 := kM2.frozen
          have cM2 : w2.cell? ⟨s + 1, (xa + (j : Int)).toNat, none⟩ = some (.bool B0) := (kM2.cell _).trans hold
          have hf4 : Far (fun k => k = s + 1) w2 (w2.setCell ⟨s + 1, (xa + (j : Int)).toNat, none⟩ (.bool true)) := Far.setCell (T := fun k => k = s + 1) (p := ⟨s + 1, (xa + (j : Int)).toNat, none⟩) (Far.refl _ _) (fun _ => rfl) _
          go_wp2_with fail
          go_roundw
          case rel => exact ⟨j + 1, _, by omega, by go_num, hf4.blk kR2 (by omega), kM2.set_ _ _, hmm.out, hB2.trans (hf4.below (by have := hB2.size; omega) (fun k hk => by omega))⟩
          case measure => simp [intOf]; omega
        · have hj' : decide (xa + (j : Int) < xa + xb) = false := by simp; omega
          have hjx2 : (j : Int) = xb := by omega
          have hM2 := hM.congr (g := fun p => mem (p : Int) (us.take (k + 1))) (fun p _ => by rw [hst.out, hjx2])
          go_upto_region 6 with fail
          refine region_ext (by kernel_rfl) (by kernel_rfl) ?_
          repeat (go_big_quiet_step (fail))
          refine wpQuiet_nil ?_
          rintro w2 ⟨⟨_, hw2⟩, rfl⟩
          have kM2 := kM.call hw2
          have kR2 := kR.call hw2
          have hB2 := hB.trans (hw2.mono (by omega))
          go_wp2_with fail
          go_roundw
          case rel => exact ⟨k + 1, cs, by omega, by go_num, kR2, kM2, hM2, hB2⟩
          case measure => simp [intOf]; omega
    · have hlt' : decide ((k : Int) < (n : Int)) = false := by simp; omega
      have hkn : k = us.length := by have := hn'.out; omega
      have hMe := hM.congr (g := fun p => mem (p : Int) us) (fun p _ => by rw [hkn, List.take_length])
      have hsz := hM.size
      have hth := blk_there kR
      have hzs := hZ.size
      have hone := hM.one
      go_wp2_with (first
        | (refine wpList_load_mid rfl 39 (.tmp 3) rfl (s + 1) 0 rfl cs.toList _ (rangeAt_blk kM) Try.underlying39 rfl (by rw [Array.length_toList, hsz]; kernel_rfl) ?_; rw [Array.toArray_toList])
        | (refine wpList_store_mid rfl 39 (.tmp 2) (.tmp 34) rfl s 0 cs rfl rfl (by rw [hsz, ← hzs]; exact hth) (by rw [hsz]; kernel_rfl) hone ?_))
      have hrg := World.rangeAt_setCells_same wr s 0 cs.toList (by rw [Array.length_toList, hsz, ← hzs]; exact hth)
      have hB9 := below_setCells s (Nat.le_refl _) cs.toList 0 wr hB
      generalize wr.setCells s 0 cs.toList = w9 at *
      have hld := run_loadVar_mid (P := Try.prog) w9 s 0 39 cs.toList _ hrg Try.underlying39 rfl (by rw [Array.length_toList, hsz]; kernel_rfl)
      rw [Array.toArray_toList] at hld
      exact bodyPost_ret (v := .agg cs) (results_cell rfl rfl hld) rfl ⟨cs, rfl, hMe, by rw [hs]; exact hB9⟩

end Go.Proofs.Ytmpakobfedgdbaa
namespace Go.Pol
open Go
/-- the first page behind 'a' that is a multiple of the size -/
def nextM (size a : Int) : Int := (a / size + 1) * size
def cutN (size en : Int) : Nat → Int → List Sp
  | 0, _ => []
  | k + 1, a => if a < en then (a, min (nextM size a) en - a) :: cutN size en k (min (nextM size a) en) else []
def cutF (size : Int) (x : Sp) : List Sp := cutN size (x.1 + x.2) 1024 x.1
def piecesF (us : List Sp) (size : Int) : List Sp := if chkS us = 0 ∧ 1 ≤ size ∧ size ≤ 1024 then us.flatMap (cutF size) else []
theorem nextM_gt {size a : Int} (hs : 1 ≤ size) : a < nextM size a ∧ nextM size a ≤ a + size := by
  unfold nextM
  have h := Int.emod_add_mul_ediv a size
  have h1 := Int.emod_nonneg a (show size ≠ 0 by omega)
  have h2 := Int.emod_lt_of_pos a (show 0 < size by omega)
  rw [Int.add_mul, Int.one_mul, Int.mul_comm (a / size) size]
  omega
theorem cutN_step {size en a : Int} {k : Nat} (h : a < en) : cutN size en (k + 1) a = (a, min (nextM size a) en - a) :: cutN size en k (min (nextM size a) en) := by rw [cutN, if_pos h]
theorem cutN_end {size en a : Int} {k : Nat} (h : ¬ a < en) : cutN size en k a = [] := by
  cases k with
  | zero => rfl
  | succ k => rw [cutN, if_neg h]
theorem flat_take (us : List Sp) (size : Int) (k : Nat) (hk : k < us.length) : (us.take (k + 1)).flatMap (cutF size) = (us.take k).flatMap (cutF size) ++ cutF size (us.getD k (0,0)) := by
  have e : us.take (k + 1) = us.take k ++ [us.getD k (0,0)] := by
    rw [List.take_add_one, List.getElem?_eq_getElem hk, List.getD_eq_getElem?_getD, List.getElem?_eq_getElem hk]; rfl
  rw [e, List.flatMap_append]; simp
theorem flat_pre (us : List Sp) (size : Int) (k : Nat) : (us.take k).flatMap (cutF size) <+: us.flatMap (cutF size) := by
  refine ⟨(us.drop k).flatMap (cutF size), ?_⟩
  rw [← List.flatMap_append, List.take_append_drop]
end Go.Pol
namespace Go.Pol
open Go Go.RowKit

/-- the contract of a function value that is ranged over, and that makes blocks of its own (X): it goes through just 'xs' -/
def SeqX {α : Type} (P : Program) (g : Nat) (lb : Array Value) (encs : α → Array Value) (T K : Nat → Prop) (xs : List α) (w : World) : Prop :=
  ∀ (n l : Nat) (J Jx : (Nat → Prop) → List α → World → Prop) (W : World), Far (fun k => ¬ K k) w W →
    (∀ X pre A B, J X pre A → Far (fun k => T k ∨ X k) A B → J X pre B) → (∀ X pre A B, Jx X pre A → Far (fun k => T k ∨ X k) A B → Jx X pre B) →
    (∀ X X' pre A, J X pre A → (∀ k, X' k → X k ∨ A.heap.size ≤ k) → J X' pre A) →
    (∀ m X pre x W1, J X pre W1 → (∀ k, X k → k < W1.heap.size) → pre ++ [x] <+: xs → YieldAt Fence.wide m P l (encs x) W1 fun e W' =>
      (e = .returned (.bool true) ∧ J X (pre ++ [x]) W' ∧ Far (fun k => ¬ (K k ∨ X k)) W1 W') ∨ (e = .returned (.bool false) ∧ Jx X (pre ++ [x]) W')) →
    J (fun _ => False) [] W →
    CallsIn Fence.wide n P g (#[.func (.yield l) #[] #[]] ++ lb) W fun e W' => (∃ v, e = .returned v) ∧ ((∃ X, J X xs W') ∨ ∃ X pre, pre <+: xs ∧ Jx X pre W')

theorem SeqX.later {α : Type} {P : Program} {g : Nat} {lb : Array Value} {encs : α → Array Value} {T K : Nat → Prop} {xs : List α} {w w' : World}
    (h : SeqX P g lb encs T K xs w) (hw : Far (fun k => ¬ K k) w w') : SeqX P g lb encs T K xs w' :=
  fun n l J Jx W hW => h n l J Jx W (hw.trans hW)
/-- one that makes none -/
theorem SeqF.toX {α : Type} {P : Program} {g : Nat} {lb : Array Value} {encs : α → Array Value} {T K : Nat → Prop} {xs : List α} {w : World}
    (h : SeqF P g lb encs T K xs w) : SeqX P g lb encs T K xs w := by
  intro n l J Jx W hW hJ hJx _ hY h0
  refine (h n l (J (fun _ => False)) (Jx (fun _ => False)) W hW (fun pre A B a b => hJ _ pre A B a (b.mono fun _ _ h => .inl h)) (fun pre A B a b => hJx _ pre A B a (b.mono fun _ _ h => .inl h))
    (fun m pre x W1 a b => ?_) h0).mono ?_
  · obtain ⟨fn, tmps, assign, body, hy, hR⟩ := hY m (fun _ => False) pre x W1 a (fun _ h => h.elim) b
    refine ⟨fn, tmps, assign, body, hy, hR.mono ?_⟩
    rintro e W' (⟨h1, h2, h3⟩ | h1)
    · exact .inl ⟨h1, h2, h3.mono fun k _ h hk => h (.inl hk)⟩
    · exact .inr h1
  · rintro e W' ⟨h1, h2 | ⟨pre, h3, h4⟩⟩
    · exact ⟨h1, .inl ⟨_, h2⟩⟩
    · exact ⟨h1, .inr ⟨_, pre, h3, h4⟩⟩

/-- how a round's body may be left -/
def xPost {α : Type} (D : Nat) (K X : Nat → Prop) (I : (Nat → Prop) → List α → World → Prop) (Ix : Code → (Nat → Prop) → List α → World → Prop) (xs : List α) (W : World) : Exit → Act → World → Prop
  | .normal, _, W' => Far (fun k => ¬ (K k ∨ X k ∨ k = D ∨ k = D + 1)) W W' ∧ I X xs W'
  | .ret, _, W' => Far (fun k => ¬ (k = D ∨ k = D + 1)) W W' ∧ Ix .ret X xs W'
  | .exit id, _, W' => Far (fun k => ¬ (k = D ∨ k = D + 1)) W W' ∧ Ix (.exit id) X xs W'
  | .goto t, _, W' => Far (fun k => ¬ (k = D ∨ k = D + 1)) W W' ∧ Ix (.goto t) X xs W'
  | .panic _, _, _ => False
  | .outgrown, _, _ => False

theorem rangeX {α : Type} {P : Program} {g : Operand} {ps : Array Tmp} {assign body : Code} {Q : Exit → Act → World → Prop} {a : Act} {w : World}
    {gf : Nat} {lb : Array Value} (hg : a.eval g = .func (.func gf) #[] lb) (eg : ∀ args w, (callFunc gf args).run P w = .ok (.enter gf args) w)
    {encs : α → Array Value} {T K : Nat → Prop} {xs : List α} (hseq : SeqX P gf lb encs T K xs w) (hps : ∀ x, (encs x).size = ps.size)
    (hT : ∀ k, T k → k < w.heap.size) (hK : ∀ k, K k → k < w.heap.size)
    (I : (Nat → Prop) → List α → World → Prop) (Ix : Code → (Nat → Prop) → List α → World → Prop)
    (hI : ∀ X pre A B, I X pre A → Far (fun k => T k ∨ X k ∨ k = w.heap.size ∨ k = w.heap.size + 1) A B → I X pre B)
    (hIx : ∀ c X pre A B, Ix c X pre A → Far (fun k => T k ∨ X k ∨ k = w.heap.size ∨ k = w.heap.size + 1) A B → Ix c X pre B)
    (hnew : ∀ X X' pre A, I X pre A → (∀ k, X' k → X k ∨ A.heap.size ≤ k) → I X' pre A)
    (h0 : I (fun _ => False) [] w) (Ax : Nat → α → Act → World → Prop) (hAx : ∀ N x a' A B, Ax N x a' A → Far (fun k => k = w.heap.size + 1) A B → Ax N x a' B)
    (hassign : ∀ (m l : Nat) (x : α) (W : World) (C : Act → World → Prop), w.heap.size + 2 ≤ W.heap.size → (∀ a' W', Far (fun _ => False) W W' → Ax W.heap.size x a' W' → C a' W') →
      assign.wpIn (Fence.wide.inRound l) m P (Exit.then C (fun _ _ _ => False)) { tmps := (ps.zip (encs x)).foldl (fun t (p, v) => t.setIfInBounds p v) a.tmps, defers := [] } W)
    (hbody : ∀ (m l : Nat) (X : Nat → Prop) (pre : List α) (x : α) (a' : Act) (Wa W : World), w.heap.size + 2 ≤ W.heap.size → (∀ k, X k → k < Wa.heap.size ∧ k ≠ w.heap.size ∧ k ≠ w.heap.size + 1) → I X pre W → Ax Wa.heap.size x a' W → pre ++ [x] <+: xs → I X pre Wa → Far (fun k => k = w.heap.size + 1) Wa W →
      body.wpIn (Fence.wide.inRound l) m P (xPost w.heap.size K X I Ix (pre ++ [x]) W) a' W)
    (hdone : ∀ (X : Nat → Prop) (W : World), w.heap.size + 2 ≤ W.heap.size → I X xs W → W.heap[w.heap.size]? = some (.deferred (some [])) → Q .normal { a with defers := markOf w.heap.size :: a.defers } W)
    (hstop : ∀ (c : Code) (X : Nat → Prop) (pre : List α) (W : World), w.heap.size + 2 ≤ W.heap.size → pre <+: xs → Ix c X pre W → W.heap[w.heap.size]? = some (.deferred (some [])) → c.wp P Q { a with defers := markOf w.heap.size :: a.defers } W) :
    (Code.rangeFunc g ps assign body).wp P Q a w := by
  refine (wpIn_wide (n := 0)).1 (wpIn_rangeFunc fun fn _ => ?_)
  obtain ⟨D, hD⟩ : ∃ D, w.heap.size = D := ⟨_, rfl⟩
  -- the loop's record, in its three states
  obtain ⟨rec, hrec⟩ : ∃ rec : LoopState → Option Code → Loop, rec = fun s p => { state := s, pending := p, fn, tmps := a.tmps, params := ps, assign, body, defers := D } := ⟨_, rfl⟩
  obtain ⟨W1, hW1⟩ : ∃ W1, (w.alloc (.deferred (some []))).alloc (.loop (rec .ready none)) = W1 := ⟨_, rfl⟩
  have hent : (Instr.enterLoop fn a.tmps ps assign body none).run P w = .ok (D + 1, [markOf D]) W1 := by
    rw [← hW1, hrec, ← hD]; exact run_enterLoop_outer _ _ _ _ _
  have hfar : Far (fun _ => False) w W1 := by rw [← hW1]; exact ((Far.refl _ w).alloc _).alloc _
  have hl1 : W1.heap[D + 1]? = some (.loop (rec .ready none)) := by
    rw [← hW1, ← hD]
    have := World.alloc_heap_new (w.alloc (.deferred (some []))) (.loop (rec .ready none))
    rwa [World.size_alloc] at this
  have hd1 : W1.heap[D]? = some (.deferred (some [])) := by
    rw [← hW1, ← hD]; exact (Below.heap_alloc _ _ _ (by simp)).trans (World.alloc_heap_new w _)
  rw [hD] at hT hK hI hIx hAx hassign hbody hdone hstop
  refine ⟨D + 1, [markOf D], W1, { target := .fn (.func gf) lb, args := #[.func (.yield (D + 1)) #[] #[]] }, W1, gf, #[.func (.yield (D + 1)) #[] #[]] ++ lb, W1, hent, ?_, fun _ _ => trivial, ?_, fun h => (by cases h), ?_⟩
  · simp only [resolve, hg]
    simp [go_sem]
  · simp [invoke, go_sem, eg]
  -- what the iterator carries: the loop's invariant, the record, the block for deferred calls
  let J : (Nat → Prop) → List α → World → Prop := fun X pre W => I X pre W ∧ W.heap[D + 1]? = some (.loop (rec .ready none)) ∧ W.heap[D]? = some (.deferred (some [])) ∧ ¬ X D ∧ ¬ X (D + 1)
  let Jx : (Nat → Prop) → List α → World → Prop := fun X pre W => ∃ c, Ix c X pre W ∧ W.heap[D + 1]? = some (.loop (rec .done (some c))) ∧ W.heap[D]? = some (.deferred (some [])) ∧ ¬ X D ∧ ¬ X (D + 1)
  have hnT : ∀ k, T k → k ≠ D ∧ k ≠ D + 1 := fun k hk => by have := hT k hk; omega
  have hnK : ∀ k, K k → k ≠ D ∧ k ≠ D + 1 := fun k hk => by have := hK k hk; omega
  have up : ∀ {X : Nat → Prop} {k : Nat}, T k ∨ X k → T k ∨ X k ∨ k = D ∨ k = D + 1 := fun h => h.elim .inl (fun h => .inr (.inl h))
  refine (hseq _ (D + 1) J Jx W1 (hfar.mono (fun _ _ h => h.elim))
    (fun X pre A B h hf => ⟨hI X pre A B h.1 (hf.mono fun _ _ ht => up ht), hf.same h.2.1 (fun h' => h'.elim (fun h => (hnT _ h).2 rfl) h.2.2.2.2), hf.same h.2.2.1 (fun h' => h'.elim (fun h => (hnT _ h).1 rfl) h.2.2.2.1), h.2.2.2⟩)
    (fun X pre A B h hf => by
      obtain ⟨c, h1, h2, h3, h4, h5⟩ := h
      exact ⟨c, hIx c X pre A B h1 (hf.mono fun _ _ ht => up ht), hf.same h2 (fun h' => h'.elim (fun h => (hnT _ h).2 rfl) h5), hf.same h3 (fun h' => h'.elim (fun h => (hnT _ h).1 rfl) h4), h4, h5⟩)
    (fun X X' pre A h hX => by
      have l1 : D < A.heap.size := (Array.getElem?_eq_some_iff.1 h.2.2.1).1
      have l2 : D + 1 < A.heap.size := (Array.getElem?_eq_some_iff.1 h.2.1).1
      exact ⟨hnew X X' pre A h.1 hX, h.2.1, h.2.2.1, fun hd => (hX _ hd).elim h.2.2.2.1 (fun h => by omega), fun hd => (hX _ hd).elim h.2.2.2.2 (fun h => by omega)⟩)
    ?_ ⟨hI _ [] w W1 h0 (hfar.mono fun _ _ h => h.elim), hl1, hd1, id, id⟩).mono ?_
  · -- a round
    rintro m X pre x Wa ⟨hi, hl, hd, hXD, hXE⟩ hXlt hpre
    have hlt : D + 1 < Wa.heap.size := (Array.getElem?_eq_some_iff.1 hl).1
    have hy := run_yield (P := P) (args := encs x) hl (by rw [hrec]; exact hps x)
    rw [hrec] at hy
    refine ⟨fn, _, assign, body, hy, roundIn_of_wpIn trivial (hassign m (D + 1) x Wa _ (by omega) fun a' Wb hab hax => ?_)⟩
    have hlb := hab.same hl id
    have hdb := hab.same hd id
    have hib := hI X pre Wa Wb hi (hab.mono fun _ _ h => h.elim)
    have hltb : D + 1 < Wb.heap.size := (Array.getElem?_eq_some_iff.1 hlb).1
    refine ⟨_, run_beginRound hlb (by rw [hrec]), ?_⟩
    obtain ⟨Wc, hWc⟩ : ∃ Wc, Wb.putObj (D + 1) (.loop { rec .ready none with state := .busy }) = Wc := ⟨_, rfl⟩
    rw [hWc]
    have hbc : Far (fun k => k = D + 1) Wb Wc := by rw [← hWc]; exact Far.putObj (T := fun k => k = D + 1) (Far.refl _ Wb) (fun _ => rfl) _
    have hlc : Wc.heap[D + 1]? = some (.loop { rec .ready none with state := .busy }) := by rw [← hWc]; exact World.putObj_heap_same hltb
    have hdc : Wc.heap[D]? = some (.deferred (some [])) := hbc.same hdb (by omega)
    have hltc : D + 1 < Wc.heap.size := (Array.getElem?_eq_some_iff.1 hlc).1
    refine wpIn_mono (hbody m (D + 1) X pre x a' Wa Wc (by omega) (fun k hk => ⟨hXlt k hk, fun h => hXD (h ▸ hk), fun h => hXE (h ▸ hk)⟩) (hI X pre Wb Wc hib (hbc.mono fun _ _ h => .inr (.inr (.inr h)))) (hAx _ x a' Wb Wc hax hbc) hpre hi ((hab.mono fun _ _ h => h.elim : Far (fun k => k = D + 1) Wa Wb).trans hbc)) ?_
    -- what 'endRound' makes of it
    have fin : ∀ (j : Option Code) (Wd : World), Far (fun k => ¬ (k = D ∨ k = D + 1)) Wc Wd →
        (Instr.endRound (D + 1) j).run P Wd = .ok (.bool j.isNone) (Wd.putObj (D + 1) (.loop (rec (if j.isNone then .ready else .done) j))) ∧
        (Wd.putObj (D + 1) (.loop (rec (if j.isNone then .ready else .done) j))).heap[D + 1]? = some (.loop (rec (if j.isNone then .ready else .done) j)) ∧
        (Wd.putObj (D + 1) (.loop (rec (if j.isNone then .ready else .done) j))).heap[D]? = some (.deferred (some [])) := fun j Wd hcd => by
      have hld := hcd.same hlc (fun h => h (.inr rfl))
      have he := run_endRound (P := P) j hld
      rw [hrec] at he ⊢
      exact ⟨he, World.putObj_heap_same (Array.getElem?_eq_some_iff.1 hld).1, (World.putObj_heap_other (by omega)).trans (hcd.same hdc (fun h => h (.inl rfl)))⟩
    have back : ∀ (Y : Nat → Prop) (o : Obj) (Wd : World), Far (fun k => T k ∨ Y k ∨ k = D ∨ k = D + 1) Wd (Wd.putObj (D + 1) o) := fun Y o Wd => (Far.refl _ Wd).putObj (fun _ => .inr (.inr (.inr rfl))) o
    intro e a3 Wd hp
    cases e with
    | normal =>
      obtain ⟨hcd, hid⟩ := hp
      obtain ⟨h1, h2, h3⟩ := fin none Wd (hcd.mono fun k _ h h' => h (.inr (.inr h')))
      refine ⟨_, _, h1, .inl ⟨rfl, ⟨hI _ _ _ _ hid (back _ _ Wd), h2, h3, hXD, hXE⟩, ?_⟩⟩
      refine (((hab.mono fun _ _ h => h.elim : Far (fun k => ¬ (K k ∨ X k)) Wa Wb).trans (hbc.mono fun k _ h hk => hk.elim (fun hk => (hnK k hk).2 h) (fun hk => hXE (h ▸ hk)))).trans (hcd.mono fun k _ h hk => h (hk.elim .inl (fun h => .inr (.inl h))))).putObj (fun _ hk => hk.elim (fun hk => (hnK _ hk).2 rfl) hXE) _
    | ret =>
      obtain ⟨hcd, hid⟩ := hp
      obtain ⟨h1, h2, h3⟩ := fin (some .ret) Wd hcd
      exact ⟨_, _, h1, .inr ⟨rfl, .ret, hIx _ _ _ _ _ hid (back _ _ Wd), h2, h3, hXD, hXE⟩⟩
    | exit id =>
      obtain ⟨hcd, hid⟩ := hp
      obtain ⟨h1, h2, h3⟩ := fin (some (.exit id)) Wd hcd
      exact ⟨_, _, h1, .inr ⟨rfl, .exit id, hIx _ _ _ _ _ hid (back _ _ Wd), h2, h3, hXD, hXE⟩⟩
    | goto t =>
      obtain ⟨hcd, hid⟩ := hp
      obtain ⟨h1, h2, h3⟩ := fin (some (.goto t)) Wd hcd
      exact ⟨_, _, h1, .inr ⟨rfl, .goto t, hIx _ _ _ _ _ hid (back _ _ Wd), h2, h3, hXD, hXE⟩⟩
    | panic ch => exact hp.elim
    | outgrown => exact hp.elim
  · -- behind the iterator
    have back : ∀ (Y : Nat → Prop) (o : Obj) (Wd : World), Far (fun k => T k ∨ Y k ∨ k = D ∨ k = D + 1) Wd (Wd.putObj (D + 1) o) := fun Y o Wd => (Far.refl _ Wd).putObj (fun _ => .inr (.inr (.inr rfl))) o
    rintro e W2 ⟨⟨v, rfl⟩, h2⟩
    rcases h2 with ⟨X, hi, hl, hd, _⟩ | ⟨X, pre, hpre, c, hi, hl, hd, _⟩
    · have he := run_endLoop (P := P) hl (by rw [hrec]; simp)
      rw [hrec] at he
      have hlt : D + 1 < W2.heap.size := (Array.getElem?_eq_some_iff.1 hl).1
      exact ⟨none, _, he, hdone _ _ (by rw [World.putObj_size]; omega) (hI _ _ _ _ hi (back _ _ W2)) ((World.putObj_heap_other (by omega)).trans hd)⟩
    · have he := run_endLoop (P := P) hl (by rw [hrec]; simp)
      rw [hrec] at he
      have hlt : D + 1 < W2.heap.size := (Array.getElem?_eq_some_iff.1 hl).1
      exact ⟨some c, _, he, (wpIn_wide (n := 0)).2 (hstop c _ pre _ (by rw [World.putObj_size]; omega) hpre (hIx _ _ _ _ _ hi (back _ _ W2)) ((World.putObj_heap_other (by omega)).trans hd))⟩


/-! a region of the function itself whose last operations come one behind the other, behind all others -/
section
variable {P : Program} {ops : Array Oper} {md : Region.Mode} {C : World → Prop} {m : Nat}
theorem Oper.wpIn_of_quiet {o : Oper} {a : Act} {K : Act → Prop} {K' : Act → World → Prop} {Q' : Exit → Act → World → Prop} {w : World} (hw : C w) (h : ∀ a w', C w' → K a → K' a w') (hh : o.quiet P a C K) : o.wpIn Fence.wide m P a w K' Q' := by
  obtain ⟨v, h1, h2⟩ := hh
  have h3 := h1 w hw
  unfold Oper.quietAt at h3
  unfold Oper.wpIn
  refine ⟨fun _ _ => trivial, ?_⟩
  rw [show Fence.wide.round = none from rfl, Oper.semAt_none]
  generalize (execOp a.eval o).run P w = r at *
  cases r with
  | ok n w' =>
    cases n <;> simp only [Oper.quietUpon] at h3 <;> simp only [Oper.uponIn]
    case value u =>
      obtain ⟨e1, e2⟩ := h3
      rw [e1, e2]
      exact h _ _ hw h2
    case skip =>
      obtain ⟨rfl, rfl⟩ := h3
      exact h _ _ hw h2
    case enter f args =>
      obtain ⟨e1, e2⟩ := h3
      rw [e1]
      refine ⟨fun h0 => (by cases h0), (callsIn_wide.2 e2).mono ?_⟩
      rintro e w'' ⟨rfl, hc⟩
      exact h _ _ hc h2
  | halt x w' => cases x <;> simp only [Oper.quietUpon] at h3
theorem wpOpIn_of_qOp {i : Nat} {a : Act} {K : Act → Prop} {K' : Act → World → Prop} {Q' : Exit → Act → World → Prop} {w : World} (hC : C w) (h : ∀ a w', C w' → K a → K' a w') (hh : qOp P ops C i K a) : wpOpIn Fence.wide m P ops Q' i K' a w := by
  unfold qOp at hh
  unfold wpOpIn
  split
  · rename_i ho; simp only [ho] at hh; exact h _ _ hC hh
  · rename_i o ho
    simp only [ho] at hh
    split
    · rename_i hw; simp only [hw, if_true] at hh; exact Oper.wpIn_of_quiet hC h hh
    · rename_i hw; simp only [hw] at hh; exact ⟨fun _ _ => trivial, h _ _ hC hh⟩
theorem wpAnyIn_of_headQ {n g : Nat} {L : Array Bool → Act → Prop} {Q' : Exit → Act → World → Prop} (hL : ∀ listed a w, C w → L listed a → wpAnyIn Fence.wide m P md ops Q' g listed a w) :
    ∀ (f : Nat) (listed : Array Bool) (a : Act) (w : World), C w → headQ P md ops C n L f listed a → wpAnyIn Fence.wide m P md ops Q' (f + g) listed a w
  | 0, listed, a, w, hw, h => by rw [Nat.zero_add]; exact hL _ _ _ hw h
  | f + 1, listed, a, w, hw, h => by
    rw [show f + 1 + g = (f + g) + 1 by omega]
    exact ⟨fun h0 => absurd h0 h.1, fun i hi => wpOpIn_of_qOp hw (fun a' w' hw' h' => wpAnyIn_of_headQ hL f _ a' w' hw' h') (h.2 i hi).2⟩
theorem wpAnyIn_of_seq {F : Fence} {Q' : Exit → Act → World → Prop} : ∀ (l : List Oper) (k : Nat) (listed : Array Bool) (a : Act) (w : World), (∀ j, l[j]? = ops[k + j]?) →
    Region.seqB md ops l.length k listed = true → wpListIn F m P ops Q' l a w → wpAnyIn F m P md ops Q' l.length listed a w
  | [], _, _, _, _, _, hB, h => ⟨by simpa [Region.seqB] using hB, h⟩
  | o :: l, k, listed, a, w, hl, hB, h => by
    have h0 : ops[k]? = some o := by simpa using (hl 0).symm
    simp only [List.length_cons, Region.seqB, Bool.and_eq_true, decide_eq_true_eq] at hB
    refine ⟨fun h1 => (by rw [hB.1] at h1; cases h1), fun i hi => ?_⟩
    rw [hB.1] at hi
    have hik : i = k := by simpa using hi
    subst hik
    have hw : wpOpIn F m P ops Q' i (wpListIn F m P ops Q' l) a w := by unfold wpOpIn; simp only [h0]; exact h
    exact wpOpIn_mono (fun a' w' h' => wpAnyIn_of_seq l (i + 1) _ a' w' (fun j => by have := hl (j + 1); simpa [Nat.add_assoc, Nat.add_comm 1 j] using this) hB.2 h') hw
theorem region_tail_in {id : Nat} {Q : Exit → Act → World → Prop} {a : Act} {w : World} {l : List Oper} (n : Nat) (hm : P.follows .mixedOrders = true) (hB : Region.lexTailB .any l.toArray n = true)
    (h : wpQuiet P l.toArray (fun w' => ∃ x : Ext w, w' = x.w) (fun a' => ∀ x : Ext w, wpListIn Fence.wide m P l.toArray Q (l.drop n) a' x.w) (l.take n) a) : (Code.region id l.toArray true).wpIn Fence.wide m P Q a w := by
  simp only [Region.lexTailB, Bool.and_eq_true, decide_eq_true_eq] at hB
  obtain ⟨⟨⟨⟨hsel, hn⟩, hs⟩, hc⟩, hlex⟩ := hB
  have hn' : n < l.length := by simpa using hn
  have htl : (l.take n).length = n := by simp; omega
  have hdl : (l.drop n).length = l.toArray.size - n := by simp
  have inv0 : HeadInv .any l.toArray n (Array.replicate l.toArray.size false) :=
    ⟨by simp, fun j oj _ hl => (by rw [getD_replicate_false] at hl; cases hl), fun t _ ht => getD_in (by simpa using ht) (getD_replicate_false _ _)⟩
  have H := headQ_lex (md := .any) (g := l.toArray.size - n) hsel hs hc hn (l.take n) 0 _ a (fun j hj => by
    have hj' : j < n := by rw [htl] at hj; exact hj
    simp [hj']) (by simpa using htl) inv0 (by rw [htl]; exact hlex) h
  refine wpIn_region_any hm ?_
  have := wpAnyIn_of_headQ (m := m) (Q' := Q) (g := l.toArray.size - n) (fun listed a' w' hw' hL => by
    obtain ⟨x, rfl⟩ := hw'
    have := wpAnyIn_of_seq (F := Fence.wide) (m := m) (md := .any) (Q' := Q) (l.drop n) n listed a' x.w (fun j => by simp [List.getElem?_drop]) (by rw [hdl]; exact hL.1) (hL.2 x)
    rwa [hdl] at this) _ _ _ _ (⟨⟨_, (Below.refl _ w).drew⟩, rfl⟩ : ∃ x : Ext w, ({ w with drawn := w.drawn + 1 } : World) = x.w) H
  rw [htl, show n + (l.toArray.size - n) = l.toArray.size by omega] at this
  exact this
end
end Go.Pol
namespace Go.Proofs.Ytmpakobfedgdbaa
open Go Go.Proofs Go.RowKit Go.Pol Go.Shelf
attribute [local go_sem] Oper.semAt_some Go.Pol.wide_fn Go.Pol.wide_depth Go.Pol.wide_fn' Go.Pol.wide_depth'

set_option maxRecDepth 100000 in
set_option maxHeartbeats 1600000 in
theorem pieces1_seq (A : Option Addr) (n cap : Nat) (us : List Sp) (size : Int) (B1 B2 : Nat) (K : Nat → Prop) (w : World) (hK1 : K B1) (hK2 : K B2)
    (k1 : Blk w B1 22 #[.slice A n cap]) (k2 : Blk w B2 3 #[.int .i64 size]) (hn : us.length = n) (hm : n ≤ maxLen) (hr : RU w w.heap.size A us) (hown : us ≠ [] → ∀ b o, A = some ⟨b, o, none⟩ → K b) :
    SeqX Try.prog 70 #[.pointer (some ⟨B1, 0, none⟩), .pointer (some ⟨B2, 0, none⟩)] spV (fun _ => False) K (piecesF us size) w := by
  intro m l J Jx W hW hJ hJx hnew hY h0
  have kB1 := hW.blk k1 (by simpa using hK1)
  have kB2 := hW.blk k2 (by simpa using hK2)
  have far_ru : ∀ {W1 W2 : World} {N : Nat} {T : Nat → Prop}, RU W1 N A us → Far T W1 W2 → (∀ k, K k → ¬ T k) → RU W2 N A us := fun h hf hT => by
    by_cases h0 : us = []
    · subst h0; exact RU.nil
    · exact hf.ru h (fun b o e => hT b (hown h0 b o e))
  have hrW : RU W W.heap.size A us := (far_ru hr hW (fun k hk h => h hk)).more hW.size
  have HC := Lib.hid (spCheck_any A n cap us W hn hm hrW)
  refine callsIn_of_wp Try.func70 rfl trivial ?_ rfl
  simp only [Try.ntmps70, List.size_toArray, List.length_cons, List.length_nil, Nat.reduceAdd, Nat.reduceSub, Array.replicate_succ, Array.replicate_zero, List.push_toArray, List.append_toArray, List.nil_append, List.cons_append]
  have c1 := kB1.cell
  by_cases hc : chkS us = 0
  case neg =>
    have hE : Hid (piecesF us size = []) := Lib.hid (by unfold piecesF; rw [if_neg (fun h => hc h.1)])
    generalize chkS us = er at *
    have hc' : (er != 0) = true := by simpa using hc
    gi_wp2_with (gi_at_call 28; refine (callsIn_wide.2 HC.out).mono ?_; rintro e w1 ⟨rfl, hq⟩; have hJ1 := hJ _ [] W w1 h0 (.of_below hq))
    refine bodyPost_ret (results_none rfl _ _ _) rfl ?_
    exact ⟨⟨_, rfl⟩, .inl ⟨_, by rw [hE.out]; exact hJ1⟩⟩
  rw [hc] at HC
  by_cases hs1 : size < 1
  case pos =>
    have hE : Hid (piecesF us size = []) := Lib.hid (by unfold piecesF; rw [if_neg (fun h => by omega)])
    have hs1' : decide (size < 1) = true := by simpa using hs1
    gi_wp2_with (gi_at_call 28; refine (callsIn_wide.2 HC.out).mono ?_; rintro e w1 ⟨rfl, hq⟩; have hJ1 := hJ _ [] W w1 h0 (.of_below hq); have c2 := (kB2.call hq).cell)
    refine bodyPost_ret (results_none rfl _ _ _) rfl ?_
    exact ⟨⟨_, rfl⟩, .inl ⟨_, by rw [hE.out]; exact hJ1⟩⟩
  have hs1' : decide (size < 1) = false := by simpa using hs1
  by_cases hs2 : 1024 < size
  case pos =>
    have hE : Hid (piecesF us size = []) := Lib.hid (by unfold piecesF; rw [if_neg (fun h => by omega)])
    have hs2' : decide (1024 < size) = true := by simpa using hs2
    gi_wp2_with (gi_at_call 28; refine (callsIn_wide.2 HC.out).mono ?_; rintro e w1 ⟨rfl, hq⟩; have hJ1 := hJ _ [] W w1 h0 (.of_below hq); have c2 := (kB2.call hq).cell)
    refine bodyPost_ret (results_none rfl _ _ _) rfl ?_
    exact ⟨⟨_, rfl⟩, .inl ⟨_, by rw [hE.out]; exact hJ1⟩⟩
  have hs2' : decide (1024 < size) = false := by simpa using hs2
  have hP : Hid (piecesF us size = us.flatMap (cutF size)) := Lib.hid (by unfold piecesF; rw [if_pos ⟨hc, by omega, by omega⟩])
  have hcan := chkS_zero.1 hc
  have hlen := hcan.len
  have hvl := Lib.hid hcan.1
  have hn' := Lib.hid hn
  have hn512 : n ≤ 512 := by omega
  clear hcan hc hn
  gi_wp2_with (gi_at_call 28; refine (callsIn_wide.2 HC.out).mono ?_; rintro e w1 ⟨rfl, hq⟩; have kB1a := kB1.call hq; have kB2a := kB2.call hq; have c1a := kB1a.cell; have c2a := kB2a.cell)
  have hJ1 := hJ _ [] W w1 h0 (.of_below hq)
  have hr1 : RU w1 W.heap.size A us := hrW.below hq
  clear hr hrW HC h0 kB1 kB2 c1
  have hwz : W.heap.size ≤ w1.heap.size := hq.size
  gi_loopw [21] (fun i wr => ∃ k : Nat, k ≤ n ∧ i = .int .i64 k ∧ W.heap.size ≤ wr.heap.size ∧ J (fun _ => False) ((us.take k).flatMap (cutF size)) wr ∧ Blk wr B1 22 #[.slice A n cap] ∧ Blk wr B2 3 #[.int .i64 size] ∧ RU wr W.heap.size A us) (fun i _ => n - (intOf i).toNat)
  case atStart => exact ⟨0, by omega, rfl, hwz, hJ1, kB1a, kB2a, hr1⟩
  case round =>
    clear hJ1 kB1a kB2a hr1 c1a c2a hwz hq
    obtain ⟨k, hk, rfl, hwz, hJs, kB1, kB2, hru⟩ := hrel
    by_cases hlt : k < n
    · have hlt' : decide ((k : Int) < (n : Int)) = true := by simpa using hlt
      obtain ⟨b, o, rfl, hbl, hc, hd⟩ := RU.at_' hru (k := k) (by have := hn'.out; omega)
      have hvx := vld_iff.1 (hvl.out (us.getD k (0,0)) (by rw [List.getD_eq_getElem?_getD, List.getElem?_eq_getElem (by have := hn'.out; omega)]; simp))
      have hft := Lib.hid (flat_take us size k (by have := hn'.out; omega))
      have hfp := Lib.hid (flat_pre us size (k + 1))
      generalize us.getD k (0,0) = x at *
      obtain ⟨xa, xb⟩ := x
      dsimp only at hc hd hvx
      have kX := Blk.new wr 53 #[.int .i64 xa, .int .i64 xb]
      have hfa : Far (fun _ => False) wr (wr.alloc (.cells #[.int .i64 xa, .int .i64 xb] 53)) := (Far.refl _ wr).alloc _
      have hJ2 := hJ _ _ _ _ (hnew _ (fun k => k = wr.heap.size) _ wr hJs (fun j hj => .inr (by omega))) (hfa.mono fun _ _ h => h.elim)
      have kB1b := kB1.alloc (.cells #[.int .i64 xa, .int .i64 xb] 53)
      have kB2b := kB2.alloc (.cells #[.int .i64 xa, .int .i64 xb] 53)
      have hrub := far_ru hru hfa (fun _ _ h => h)
      have hszb : W.heap.size ≤ (wr.alloc (.cells #[.int .i64 xa, .int .i64 xb] 53)).heap.size := by simp; omega
      have hbx0 : wr.heap.size < (wr.alloc (.cells #[.int .i64 xa, .int .i64 xb] 53)).heap.size := by simp
      obtain ⟨L0, hL0⟩ : ∃ L0, (us.take k).flatMap (cutF size) = L0 := ⟨_, rfl⟩
      have hft' : Hid ((us.take (k + 1)).flatMap (cutF size) = L0 ++ cutF size (xa, xb)) := Lib.hid (by rw [hft.out, hL0])
      rw [hL0] at hJ2
      clear hft hL0
      gi_wp2_with fail
      generalize wr.alloc (.cells #[.int .i64 xa, .int .i64 xb] 53) = wa at *
      generalize wr.heap.size = bx at *
      clear hJs kB1 kB2 hru hfa hc hd hbl hwz
      gi_loopw [6] (fun at_ wr => ∃ (a : Int) (f : Nat) (don : List Sp), at_ = .int .i64 a ∧ xa ≤ a ∧ a ≤ 1024 ∧ xa + xb - a ≤ f ∧ W.heap.size ≤ wr.heap.size ∧ bx < wr.heap.size ∧ J (fun k => k = bx) (L0 ++ don) wr ∧ Blk wr B1 22 #[.slice (some ⟨b, o, none⟩) n cap] ∧ Blk wr B2 3 #[.int .i64 size] ∧ RU wr W.heap.size (some ⟨b, o, none⟩) us ∧ Blk wr bx 53 #[.int .i64 xa, .int .i64 xb] ∧ Hid (cutF size (xa, xb) = don ++ cutN size (xa + xb) f a)) (fun at_ _ => (xa + xb - intOf at_).toNat)
      case atStart => exact ⟨xa, 1024, [], rfl, by omega, by omega, by omega, hszb, hbx0, by rw [List.append_nil]; exact hJ2, kB1b, kB2b, hrub, kX, Lib.hid rfl⟩
      case round =>
        clear hJ2 kB1b kB2b hrub kX hszb hbx0
        obtain ⟨a, f, don, rfl, ha0, ha1, haf, hwz, hbx, hJs, kB1, kB2, hru, kX, hcut⟩ := hrel
        have cX := kX.cell
        by_cases hlt2 : a < xa + xb
        · have hlt2' : decide (a < xa + xb) = true := by simpa using hlt2
          obtain ⟨f', rfl⟩ : ∃ f', f = f' + 1 := ⟨f - 1, by omega⟩
          obtain ⟨q, hq⟩ : ∃ q, a / size = q := ⟨_, rfl⟩
          have hdiv : Int.tdiv a size = q := by rw [← hq]; exact Int.tdiv_eq_ediv_of_nonneg (by omega)
          have hq0 : 0 ≤ q := by rw [← hq]; exact Int.ediv_nonneg (by omega) (by omega)
          have hq1 : q ≤ a := by rw [← hq]; exact Int.ediv_le_self _ (by omega)
          obtain ⟨M, hM⟩ : ∃ M, nextM size a = M := ⟨_, rfl⟩
          have hMg := nextM_gt (size := size) (a := a) (by omega)
          rw [hM] at hMg
          have hmul : wrap64 ((q + 1) * size) = M := by rw [mul_wrap64 _ _ (by omega) (by omega), ← hM, nextM, hq]
          have hcs : Hid (cutF size (xa, xb) = (don ++ [(a, min M (xa + xb) - a)]) ++ cutN size (xa + xb) f' (min M (xa + xb))) := Lib.hid (by rw [hcut.out, cutN_step hlt2, hM]; simp)
          have hs0 : (size == 0) = false := by simp; omega
          clear hcut hq hM
          gi_upto_region 6 with (gi_at_call 54; refine (callsIn_wide.2 (end_any xa xb _ (by omega) (by omega))).mono ?_; rintro e w2 ⟨rfl, hq2⟩)
          have kX2 := kX.call hq2
          have kB12 := kB1.call hq2
          have kB22 := kB2.call hq2
          have hru2 := hru.below (hq2.mono hwz)
          have hJ2 := hJ _ _ wr w2 hJs (.of_below hq2)
          have hwz2 := Nat.le_trans hwz hq2.size
          have hbx2 := Nat.lt_of_lt_of_le hbx hq2.size
          clear kX kB1 kB2 hru hJs hwz hbx hq2 cX
          have e1 := fun z : Ext w2 => (z.blk kX2).cell
          have e2 := fun z : Ext w2 => (z.blk kB22).cell
          have HE : Hid (∀ z : Ext w2, Calls Try.prog 54 #[.agg #[.int .i64 xa, .int .i64 xb]] z.w fun e w'' => e = .returned (.int .i64 (xa + xb)) ∧ ∃ t : Ext w2, w'' = t.w) := Lib.hid (fun z => Ext.call (end_any xa xb _ (by omega) (by omega)))
          refine wpIn_wide.2 ?_
          refine region_ext (by kernel_rfl) (by kernel_rfl) ?_
          repeat (go_big_quiet_step ((go_at_call 54; exact HE.out _)))
          refine wpQuiet_nil ?_
          rintro w3 ⟨⟨_, hw3⟩, rfl⟩
          have hM2 : a < min M (xa + xb) ∧ min M (xa + xb) ≤ xa + xb := by omega
          generalize min M (xa + xb) = c at *
          have kX3 := kX2.call hw3
          have kB13 := kB12.call hw3
          have kB23 := kB22.call hw3
          have hru3 := hru2.below (hw3.mono hwz2)
          have hJ3 := hJ _ _ w2 w3 hJ2 (.of_below hw3)
          have hwz3 := Nat.le_trans hwz2 hw3.size
          have hbx3 := Nat.lt_of_lt_of_le hbx2 hw3.size
          clear kX2 kB12 kB22 hru2 hJ2 hwz2 hbx2 hw3 e1 e2 HE hmul hdiv hMg
          have hpre : Hid ((L0 ++ don) ++ [(a, c - a)] <+: piecesF us size) := Lib.hid (by
            rw [hP.out]
            refine List.IsPrefix.trans ?_ hfp.out
            rw [hft'.out, hcs.out]
            exact ⟨cutN size (xa + xb) f' c, by simp⟩)
          obtain ⟨fn, tmps, assign, body, hy, hRd⟩ := hY (m - 1) (fun k => k = bx) (L0 ++ don) (a, c - a) w3 hJ3 (fun k hk => by rw [hk]; exact hbx3) hpre.out
          clear hY
          gi_wp2_with fail
          refine hRd.mono ?_
          rintro e W4 (⟨rfl, hJ4, hF4⟩ | ⟨rfl, hJx4⟩)
          · gi_wp2_with fail
            go_roundw
            case rel => exact ⟨c, f', don ++ [(a, c - a)], by go_num, by omega, by omega, by omega, Nat.le_trans hwz3 hF4.size, Nat.lt_of_lt_of_le hbx3 hF4.size, by rw [← List.append_assoc]; exact hJ4, hF4.blk kB13 (fun h => h (.inl hK1)), hF4.blk kB23 (fun h => h (.inl hK2)), far_ru hru3 hF4 (fun k hk h => h (.inl hk)), hF4.blk kX3 (fun h => h (.inr rfl)), hcs⟩
            case measure => simp [intOf]; omega
          · gi_wp2_with fail
            refine bodyPost_ret (results_none rfl _ _ _) rfl ?_
            exact ⟨⟨_, rfl⟩, .inr ⟨_, (L0 ++ don) ++ [(a, c - a)], hpre.out, hJx4⟩⟩
        · have hlt2' : decide (a < xa + xb) = false := by simpa using hlt2
          have hend : Hid (L0 ++ don = (us.take (k + 1)).flatMap (cutF size)) := Lib.hid (by rw [hft'.out, hcut.out, cutN_end hlt2, List.append_nil])
          gi_wp2_with (gi_at_call 54; refine (callsIn_wide.2 (end_any xa xb _ (by omega) (by omega))).mono ?_; rintro e w2 ⟨rfl, hq2⟩)
          have hJ2 := hnew _ (fun _ => False) _ _ (hJ _ _ wr w2 hJs (.of_below hq2)) (fun _ h => h.elim)
          go_roundw
          case rel => exact ⟨k + 1, by omega, by go_num, Nat.le_trans hwz hq2.size, by rw [← hend.out]; exact hJ2, kB1.call hq2, kB2.call hq2, hru.below (hq2.mono hwz)⟩
          case measure => simp [intOf]; omega
    · have hlt' : decide ((k : Int) < (n : Int)) = false := by simp; omega
      have hE : Hid ((us.take k).flatMap (cutF size) = piecesF us size) := Lib.hid (by rw [hP.out, List.take_of_length_le (by have := hn'.out; omega)])
      gi_wp2_with fail
      go_end0
      exact ⟨⟨_, rfl⟩, .inl ⟨_, by rw [← hE.out]; exact hJs⟩⟩
end Go.Proofs.Ytmpakobfedgdbaa
namespace Go.Pol
open Go Go.RowKit

section
variable {P : Program} (w : World)
theorem append_block (base : Nat) (t ty e : TypeId) (i : TypeInfo) (z : Value) (size bytes : Nat) (ht : P.underlying t = some (.slice e)) (hi : P.info? e = some i) (hz : i.zero = some z)
    (hsize : i.size = size) (hby : i.bytes = bytes) (hzs : z.cells.size = size) (hsz : 0 < size)
    (v : Value) (n : Nat) (xs : List Value) (hown : w.ownsRow base e size v n xs)
    (a : Addr) (m c : Nat) (news : List Value) (hl : news.length = m * size) (hnews : ∀ j u, news[j]? = some u → w.cell? (a.add j) = some u) (h1 : ∀ u ∈ news, u.oneCell' = true)
    (h63 : n + m ≤ maxLen) (hbytes : (n + m) * bytes ≤ 140737488355328) (hbase : base ≤ w.heap.size) :
    ∃ v' w', (Builtin.append_ #[t, t] ty #[v, .slice (some a) m c]).run P w = .ok v' w' ∧ w'.ownsRow base e size v' (n + m) (xs ++ news) ∧ w.grownBy w' v.ownBlock ∧
      ∀ g, v'.ownBlock = some g → v.ownBlock = some g ∨ w.heap.size ≤ g := by
  obtain ⟨v', w', hr, r1, r2, _⟩ := run_append_own (P := P) w base t ty e i z size bytes ht hi hz hsize hby hzs hsz v n xs hown a m c news hl hnews h1 h63 hbytes hbase
  refine ⟨v', w', hr, r1, r2, fun g' hg' => ?_⟩
  have hsmall : n + m ≤ 9223372036854775807 := by simp only [maxLen] at h63; omega
  rcases hown.2 with ⟨hv, h0⟩ | ⟨g, cap, cur, hv, hbg, hg, hnc, hcm, hcs, htake⟩
  · subst h0
    have hx : xs = [] := List.eq_nil_of_length_eq_zero (by simpa using hown.1)
    have hown2 : w.ownsRow w.heap.size e size v 0 xs := by rw [hv, hx]; exact World.ownsRow_nil _ _ _ _
    obtain ⟨v2, w2, hr2, s1, _, _⟩ := run_append_own (P := P) w w.heap.size t ty e i z size bytes ht hi hz hsize hby hzs hsz v 0 xs hown2 a m c news hl hnews h1 h63 hbytes (Nat.le_refl _)
    rw [hr] at hr2
    injection hr2 with e1 e2
    subst e1; subst e2
    exact .inr (s1.lt g' hg').1
  · subst hsize
    subst hby
    subst hv
    by_cases hroom : n + m ≤ cap
    · have hfit : n * i.size + news.length ≤ cur.size := by rw [hl, hcs, ← Nat.add_mul]; exact Nat.mul_le_mul_right _ hroom
      have hr2 := run_append_room (P := P) w t ty e i ht hi g n cap cur hg a m c news hl hnews h1 hroom hfit
      rw [hr] at hr2
      injection hr2 with e1 e2
      subst e1
      exact .inl hg'
    · have holds : ∀ j u, xs[j]? = some u → w.cell? ((⟨g, 0, none⟩ : Addr).add j) = some u := hown.cells (g := g) rfl
      have hr2 := run_append_grow (P := P) w t ty e i z ht hi hz ⟨g, 0, none⟩ n cap xs hown.1 holds a m c news hl hnews (by omega) (by omega) (growslice_fits (by omega) hbytes)
      rw [hr] at hr2
      injection hr2 with e1 e2
      subst e1
      simp only [Value.ownBlock, Option.some.injEq] at hg'
      exact .inr (by omega)
end

theorem wpListIn_append_x {F : Fence} {n : Nat} {P : Program} (w : World) {ops : Array Oper} {rest : List Oper} {o : Oper} {a : Act} {Q : Exit → Act → World → Prop}
    (hg : o.guard = none) (s x : Operand) (t : TypeId) (hop : o.op = Op.call { callee := Callee.builtin Builtin.append, args := #[s, x], argTypes := #[t, t] })
    (base : Nat) (e : TypeId) (i : TypeInfo) (z : Value) (size bytes : Nat) (h1 : P.underlying t = some (.slice e)) (h2 : P.info? e = some i) (h3 : i.zero = some z) (h4 : i.size = size) (h5 : i.bytes = bytes) (h6 : z.cells.size = size) (h7 : 0 < size)
    (v : Value) (k : Nat) (xs : List Value) (hs : a.eval s = v) (hown : w.ownsRow base e size v k xs) (ad : Addr) (m c : Nat) (news : List Value) (hx : a.eval x = .slice (some ad) m c) (hn : news.length = m * size)
    (hc : ∀ j u, news[j]? = some u → w.cell? (ad.add j) = some u) (h1c : ∀ u ∈ news, u.oneCell' = true) (b1 : k + m ≤ maxLen) (b2 : (k + m) * bytes ≤ 140737488355328) (b3 : base ≤ w.heap.size)
    (hK : ∀ v' w', w'.ownsRow base e size v' (k + m) (xs ++ news) → w.grownBy w' v.ownBlock → (∀ g, v'.ownBlock = some g → v.ownBlock = some g ∨ w.heap.size ≤ g) → wpListIn F n P ops Q rest (a.put o.dst v') w') :
    wpListIn F n P ops Q (o :: rest) a w := by
  refine wpListIn_plain hg fun K hK' => ?_
  obtain ⟨v', w', hrun, r1, r2, r3⟩ := append_block (P := P) w base t o.type e i z size bytes h1 h2 h3 h4 h5 h6 h7 v k xs hown ad m c news hn hc h1c b1 b2 b3
  unfold Oper.wpIn
  refine ⟨?_, ?_⟩
  · simp [Oper.about, hop, resolve, Target.leads, Sem.run_pure]
  · rw [Oper.semAt_plain F _ _ (by rw [hop]; intro c hc'; cases hc')]
    simp [execOp, hop, resolve, invoke, builtin, hs, hx, hrun, Result.andThen]
    exact hK' _ _ (hK v' w' r1 r2 r3)

/-- the box of a slice, and the row that the slice owns beyond 'base'; neither is a block of X -/
structure BoxX (X : Nat → Prop) (w : World) (B : Nat) (tb te : TypeId) (base size n : Nat) (cs : List Value) : Prop where
  ex : ∃ v, Blk w B tb #[v] ∧ w.ownsRow base te size v n cs ∧ ¬ X B ∧ ∀ g, v.ownBlock = some g → ¬ X g
section
variable {X X' T : Nat → Prop} {w w' w1 : World} {B : Nat} {tb te : TypeId} {base size n : Nat} {cs cs' : List Value} {v v' : Value}
theorem BoxX.far (h : BoxX X w B tb te base size n cs) (hf : Far T w w') (hB : T B → X B) (hT : ∀ g, base ≤ g → T g → X g) : BoxX X w' B tb te base size n cs := by
  obtain ⟨v, h1, h2, h3, h4⟩ := h.ex
  exact ⟨v, hf.blk h1 (fun h => h3 (hB h)), ownsRow_far h2 hf (fun g hg h => h4 g hg (hT g (h2.lt g hg).1 h)), h3, h4⟩
theorem BoxX.new (h : BoxX X w B tb te base size n cs) (hX : ∀ k, X' k → X k ∨ w.heap.size ≤ k) : BoxX X' w B tb te base size n cs := by
  obtain ⟨v, h1, h2, h3, h4⟩ := h.ex
  refine ⟨v, h1, h2, fun h => (hX _ h).elim h3 (fun h => by have := h1.lt; omega), fun g hg h => (hX _ h).elim (h4 g hg) (fun h => by have := (h2.lt g hg).2; omega)⟩
/-- 'out = append(out, x)': what lies behind it -/
theorem BoxX.appended {tmp : Obj} {m : Nat} (hv : Blk w B tb #[v]) (hte : tb ≠ te) (hrow : w.ownsRow base te size v n cs) (hXB : ¬ X B) (hXg : ∀ g, v.ownBlock = some g → ¬ X g)
    (hown : w1.ownsRow base te size v' m cs') (hg : (w.alloc tmp).grownBy w1 v.ownBlock) (hblk : ∀ g, v'.ownBlock = some g → v.ownBlock = some g ∨ (w.alloc tmp).heap.size ≤ g) (hXlt : ∀ k, X k → k < w.heap.size) :
    Blk w1 B tb #[v] ∧ BoxX X (w1.setCell ⟨B, 0, none⟩ v') B tb te base size m cs' ∧ ∀ (T : Nat → Prop), T B → (∀ g, v.ownBlock = some g → T g) → Far T w (w1.setCell ⟨B, 0, none⟩ v') := by
  have hv1 : Blk w1 B tb #[v] := (hv.alloc tmp).grown hg (fun e => hv.not_row hrow hte e.symm)
  refine ⟨hv1, ⟨v', by simpa using hv1.set_ 0 v', ?_, hXB, fun g hg' hx => ?_⟩, fun T hTB hT => ?_⟩
  · have hfar : Far (fun k => k = B) w1 (w1.setCell ⟨B, 0, none⟩ v') := Far.setCell (T := fun k => k = B) (p := ⟨B, 0, none⟩) (Far.refl _ _) (fun _ => rfl) v'
    exact ownsRow_far hown hfar (fun g hg' e => by subst e; exact hv1.not_row hown hte hg')
  · rcases hblk g hg' with h | h
    · exact hXg g h hx
    · have := hXlt g hx
      simp at h; omega
  · have h1 : Far T w (w.alloc tmp) := (Far.refl T w).alloc tmp
    refine (h1.grown hg (fun r e hr => ?_)).setCell (p := ⟨B, 0, none⟩) (fun _ => hTB) v'
    exact hT r e
end

/-- a loop over values of one parameter whose variable lies in a box -/
theorem rangeXB {P : Program} {g : Operand} {ps : Array Tmp} {assign body : Code} {Q : Exit → Act → World → Prop} {a : Act} {w : World} (ib pb : Nat) (tE : TypeId)
    {gf : Nat} {lb : Array Value} (hg : a.eval g = .func (.func gf) #[] lb) (eg : ∀ args w, (callFunc gf args).run P w = .ok (.enter gf args) w)
    {T K : Nat → Prop} {xs : List Sp} (hseq : SeqX P gf lb spA T K xs w) (hps : ps = #[pb])
    (hT : ∀ k, T k → k < w.heap.size) (hK : ∀ k, K k → k < w.heap.size)
    (I : (Nat → Prop) → List Sp → World → Prop) (Ix : Code → (Nat → Prop) → List Sp → World → Prop)
    (hI : ∀ X pre A B, I X pre A → Far (fun k => T k ∨ X k ∨ k = w.heap.size ∨ k = w.heap.size + 1) A B → I X pre B)
    (hIx : ∀ c X pre A B, Ix c X pre A → Far (fun k => T k ∨ X k ∨ k = w.heap.size ∨ k = w.heap.size + 1) A B → Ix c X pre B)
    (hnew : ∀ X X' pre A, I X pre A → (∀ k, X' k → X k ∨ A.heap.size ≤ k) → I X' pre A)
    (h0 : I (fun _ => False) [] w)
    (hassign : ∀ (m l : Nat) (x : Sp) (W : World) (C : Act → World → Prop),
      C { tmps := (a.tmps.setIfInBounds pb (.agg #[.int .i64 x.1, .int .i64 x.2])).setIfInBounds ib (.pointer (some ⟨W.heap.size, 0, none⟩)), defers := [] } (W.alloc (.cells #[.int .i64 x.1, .int .i64 x.2] tE)) →
      assign.wpIn (Fence.wide.inRound l) m P (Exit.then C (fun _ _ _ => False)) { tmps := a.tmps.setIfInBounds pb (.agg #[.int .i64 x.1, .int .i64 x.2]), defers := [] } W)
    (hbody : ∀ (m l : Nat) (X : Nat → Prop) (pre : List Sp) (x : Sp) (Bx : Nat) (Wa W : World), w.heap.size + 2 ≤ W.heap.size → (∀ k, X k → k < Wa.heap.size ∧ k ≠ w.heap.size ∧ k ≠ w.heap.size + 1) → I X pre W → pre ++ [x] <+: xs → w.heap.size + 2 ≤ Bx → Blk W Bx tE #[.int .i64 x.1, .int .i64 x.2] → Wa.heap.size ≤ Bx →
      body.wpIn (Fence.wide.inRound l) m P (xPost w.heap.size K X I Ix (pre ++ [x]) W) { tmps := (a.tmps.setIfInBounds pb (.agg #[.int .i64 x.1, .int .i64 x.2])).setIfInBounds ib (.pointer (some ⟨Bx, 0, none⟩)), defers := [] } W)
    (hdone : ∀ (X : Nat → Prop) (W : World), w.heap.size + 2 ≤ W.heap.size → I X xs W → W.heap[w.heap.size]? = some (.deferred (some [])) → Q .normal { a with defers := markOf w.heap.size :: a.defers } W)
    (hstop : ∀ (c : Code) (X : Nat → Prop) (pre : List Sp) (W : World), w.heap.size + 2 ≤ W.heap.size → pre <+: xs → Ix c X pre W → W.heap[w.heap.size]? = some (.deferred (some [])) → c.wp P Q { a with defers := markOf w.heap.size :: a.defers } W) :
    (Code.rangeFunc g ps assign body).wp P Q a w := by
  subst hps
  refine rangeX hg eg hseq (fun _ => rfl) hT hK I Ix hI hIx hnew h0
    (fun N x a' W => ∃ Bx, N ≤ Bx ∧ w.heap.size + 2 ≤ Bx ∧ Blk W Bx tE #[.int .i64 x.1, .int .i64 x.2] ∧ a' = { tmps := (a.tmps.setIfInBounds pb (.agg #[.int .i64 x.1, .int .i64 x.2])).setIfInBounds ib (.pointer (some ⟨Bx, 0, none⟩)), defers := [] })
    (fun N x a' A B ⟨Bx, h0, h1, h2, h3⟩ hf => ⟨Bx, h0, h1, hf.blk h2 (by omega), h3⟩) ?_ ?_ hdone hstop
  · intro m l x W C hs hC
    have e : (#[pb].zip (spA x)).foldl (fun t (p, v) => t.setIfInBounds p v) a.tmps = a.tmps.setIfInBounds pb (.agg #[.int .i64 x.1, .int .i64 x.2]) := by simp [spA]
    rw [e]
    exact hassign m l x W C (hC _ _ ((Far.refl _ W).alloc _) ⟨W.heap.size, Nat.le_refl _, hs, Blk.new _ _ _, rfl⟩)
  · rintro m l X pre x a' Wa W hs hX hi ⟨Bx, h0, h1, h2, rfl⟩ hpre _ _
    exact hbody m l X pre x Bx Wa W hs hX hi hpre h1 h2 h0
end Go.Pol
namespace Go.Proofs.Ytmpakobfedgdbaa
open Go Go.Proofs Go.RowKit Go.Pol Go.Shelf
attribute [local go_sem] Oper.semAt_some Go.Pol.wide_fn Go.Pol.wide_depth Go.Pol.wide_fn' Go.Pol.wide_depth'

theorem pieces_enters : ∀ args w, (callFunc 70 args).run Try.prog w = .ok (.enter 70 args) w := enters_of Try.func70 (by kernel_rfl) rfl

set_option maxHeartbeats 800000 in
theorem piecesTop_own (A : Option Addr) (n cap : Nat) (us : List Sp) (size : Int) (w : World) (hn : us.length = n) (hm : n ≤ 1000000) (hr : RU w w.heap.size A us) :
    Calls Try.prog 57 #[.slice A n cap, .int .i64 size] w fun e w' => ∃ (lb : Array Value) (K : Nat → Prop), e = .returned (.func (.func 70) #[] lb) ∧
      SeqX Try.prog 70 lb spA (fun _ => False) K (piecesF us size) w' ∧ (∀ k, K k → w.heap.size ≤ k ∧ k < w'.heap.size) ∧ Below w.heap.size w w' := by
  have hb0 := ((Below.refl w.heap.size w).alloc (Nat.le_refl _) (.cells #[.slice A n cap] 22)).alloc (by simp) (.cells #[.int .i64 size] 3)
  have k1 := (Blk.new w 22 #[.slice A n cap]).alloc (.cells #[.int .i64 size] 3)
  have k2 := Blk.new (w.alloc (.cells #[.slice A n cap] 22)) 3 #[.int .i64 size]
  rw [World.size_alloc] at k2
  have r0 : RU ((w.alloc (.cells #[.slice A n cap] 22)).alloc (.cells #[.int .i64 size] 3)) _ A us := hr.on hb0
  have HK := Lib.hid (clone_any A n cap us _ hn hm r0)
  have z1 := k1.cell
  have hsz : ((w.alloc (.cells #[.slice A n cap] 22)).alloc (.cells #[.int .i64 size] 3)).heap.size = w.heap.size + 2 := by simp
  go_enter Try.func57, Try.ntmps57
  go_wp2_with fail
  refine HK.out.mono ?_
  rintro e w1 ⟨v, rfl, hrow, hb1⟩
  have B1 := hb0.trans (hb1.mono hb0.size)
  have k1b := k1.call hb1
  have k2b := k2.call hb1
  have f1 := k1b.frozen
  have z1b := k1b.cell
  have hs1 := B1.size
  clear HK
  obtain ⟨A2, cap2, rfl⟩ := own_nil_iff hrow hn
  go_wp2_with fail
  go_ret
  have k1c := k1b.set_ 0 (.slice A2 n cap2)
  have k2c := k2b.far (p := ⟨w.heap.size, 0, none⟩) (by show w.heap.size + 1 ≠ w.heap.size; omega) (.slice A2 n cap2)
  have hfar : Far (fun k => k = w.heap.size) w1 (w1.setCell ⟨w.heap.size, 0, none⟩ (.slice A2 n cap2)) := Far.setCell (T := fun k => k = w.heap.size) (p := ⟨w.heap.size, 0, none⟩) (Far.refl _ _) (fun _ => rfl) _
  have hrow2 := ownsRow_far hrow hfar (fun g hg e => by have := (hrow.lt g hg).1; omega)
  have B2 := B1.trans (hfar.below hs1 (fun k hk h => by omega))
  generalize w1.setCell ⟨w.heap.size, 0, none⟩ (.slice A2 n cap2) = w2 at *
  obtain ⟨A3, cap3, he, hru, h1, h2, h3, _⟩ := own_RU hrow2 hn
  cases he
  refine ⟨_, fun k => k = w.heap.size ∨ k = w.heap.size + 1 ∨ (us ≠ [] ∧ ∃ o, A2 = some ⟨k, o, none⟩), rfl, pieces1_seq A2 n cap2 us size w.heap.size (w.heap.size + 1) _ w2 (.inl rfl) (.inr (.inl rfl)) (by simpa using k1c) k2c hn (by unfold maxLen; omega) hru (fun h b o e => .inr (.inr ⟨h, o, e⟩)), ?_, B2⟩
  rintro k (rfl | rfl | ⟨h, o, e⟩)
  · exact ⟨Nat.le_refl _, k1c.lt⟩
  · exact ⟨by omega, k2c.lt⟩
  · exact ⟨by have := h3 k o e; omega, ru_lt hru h e⟩

theorem piecesTop_any (A : Option Addr) (n cap : Nat) (us : List Sp) (size : Int) (w : World) (hn : us.length = n) (hm : n ≤ 1000000) (hr : RU w w.heap.size A us) :
    Calls Try.prog 57 #[.slice A n cap, .int .i64 size] w fun e w' => ∃ (lb : Array Value) (K : Nat → Prop), e = .returned (.func (.func 70) #[] lb) ∧
      SeqX Try.prog 70 lb spA (fun _ => False) K (piecesF us size) w' ∧ (∀ k, K k → k < w'.heap.size) ∧ Below w.heap.size w w' := by
  refine (piecesTop_own A n cap us size w hn hm hr).mono ?_
  rintro e w' ⟨lb, K, h1, h2, h3, h4⟩
  exact ⟨lb, K, h1, h2, fun k hk => (h3 k hk).2, h4⟩

theorem run_equalIn_func_nil {P : Program} (w : World) (d : Nat) (t : TypeId) {a b : Array TypeId} {c : Bool} (f : Fn) (x y : Array Value) (h : P.underlying t = some (.func a b c)) :
    (Op.equalIn (d + 1) t (.func f x y) .nilFunc).run P w = .ok false w := by
  simp [Op.equalIn, run_underlying h]
theorem eql_seq (f : Fn) (c lb : Array Value) (w : World) : (binOp .eql 98 (.func f c lb) .nilFunc).run Try.prog w = .ok (.bool false) w := by
  simp only [binOp]
  simp [Op.equal, Op.maxDepth, run_equalIn_func_nil w 9999 _ f c lb Try.underlying98]

end Go.Proofs.Ytmpakobfedgdbaa
namespace Go.Pol
open Go
theorem nextM_one (a : Int) : nextM 1 a = a + 1 := by unfold nextM; rw [Int.ediv_one]; omega
theorem cutN_one (en : Int) : ∀ (k : Nat) (a : Int), en - a ≤ k → (cutN 1 en k a).map (·.1) = pagesX (a, 0) (en - a).toNat
  | 0, a, h => by rw [show (en - a).toNat = 0 by omega]; simp [cutN, pagesX]
  | k + 1, a, h => by
    by_cases hlt : a < en
    · rw [cutN_step hlt, nextM_one, List.map_cons, show min (a + 1) en = a + 1 by omega, cutN_one en k (a + 1) (by omega), show (en - a).toNat = (en - (a + 1)).toNat + 1 by omega, pagesX_cons]
    · rw [cutN_end hlt, show (en - a).toNat = 0 by omega]; simp [pagesX]
theorem pieces_one {us : List Sp} (h : Can us) : (piecesF us 1).map (·.1) = pagesOf us := by
  unfold piecesF
  rw [if_pos ⟨chkS_zero.2 h, by omega, by omega⟩]
  have hv := h.1
  clear h
  induction us with
  | nil => rfl
  | cons x r ih =>
    have hx := vld_iff.1 (hv x (by simp))
    rw [List.flatMap_cons, List.map_append, ih (fun y hy => hv y (by simp [hy])), pagesOf_cons, cutF, cutN_one _ _ _ (by omega)]
    congr 1
    rw [show (x.1 + x.2 - x.1).toNat = x.2.toNat by omega]
    rfl
theorem pieces_bad {us : List Sp} {size : Int} (h : ¬ (chkS us = 0 ∧ 1 ≤ size ∧ size ≤ 1024)) : piecesF us size = [] := by unfold piecesF; rw [if_neg h]
/-- each piece has a page of its own -/
theorem cutN_len {size en : Int} (hs : 1 ≤ size) : ∀ (k : Nat) (a : Int), ((cutN size en k a).length : Int) ≤ (if a < en then en - a else 0)
  | 0, a => by simp [cutN]; split <;> omega
  | k + 1, a => by
    by_cases hlt : a < en
    · have ih := cutN_len (en := en) hs k (min (nextM size a) en)
      have hn := nextM_gt (size := size) (a := a) hs
      rw [cutN_step hlt, if_pos hlt, List.length_cons]
      split at ih <;> omega
    · rw [cutN_end hlt, if_neg hlt]; simp
theorem pieces_len {us : List Sp} {size : Int} (h : Can us) (hs : 1 ≤ size) : ((us.flatMap (cutF size)).length : Int) ≤ sumS us := by
  have hv := h.1
  clear h
  induction us with
  | nil => simp [sumS]
  | cons x r ih =>
    have hx := vld_iff.1 (hv x (by simp))
    have h1 := cutN_len (en := x.1 + x.2) hs 1024 x.1
    rw [if_pos (by omega)] at h1
    have h2 := ih (fun y hy => hv y (by simp [hy]))
    rw [List.flatMap_cons, List.length_append]
    have e1 : sumS (x :: r) = x.2 + sumS r := by simp [sumS]
    rw [e1]
    unfold cutF at h2 ⊢
    omega
theorem pieces_most {us : List Sp} {size : Int} : (piecesF us size).length ≤ 1024 := by
  by_cases h : chkS us = 0 ∧ 1 ≤ size ∧ size ≤ 1024
  · have hc := chkS_zero.1 h.1
    have h1 := pieces_len hc h.2.1
    have h2 := sum_form us (-1) (by omega) hc.1 hc.2
    unfold piecesF
    rw [if_pos h]
    omega
  · rw [pieces_bad h]; simp
end Go.Pol
namespace Go.Pol
open Go Go.RowKit

/-- the contract of a function value that is ranged over, and that makes blocks of its own (X): it goes through just 'xs' -/
def SeqY {α : Type} (P : Program) (g : Nat) (lb : Array Value) (encs : α → Array Value) (T K : Nat → Prop) (xs : List α) (w : World) : Prop :=
  ∀ (n l : Nat) (J Jx : (Nat → Prop) → List α → World → Prop) (W : World), Far (fun k => ¬ K k) w W →
    (∀ X pre A B, J X pre A → Far (fun k => T k ∨ X k) A B → J X pre B) → (∀ X pre A B, Jx X pre A → Far (fun k => T k ∨ X k) A B → Jx X pre B) →
    (∀ X X' pre A, J X pre A → (∀ k, X' k → X k ∨ A.heap.size ≤ k) → J X' pre A) →
    (∀ m X pre x W1, J X pre W1 → (∀ k, X k → k < W1.heap.size) → pre ++ [x] <+: xs → YieldAt Fence.wide m P l (encs x) W1 fun e W' =>
      (e = .returned (.bool true) ∧ J X (pre ++ [x]) W' ∧ Far (fun k => ¬ (K k ∨ X k)) W1 W') ∨ (e = .returned (.bool false) ∧ Jx X (pre ++ [x]) W' ∧ Far (fun k => ¬ (K k ∨ X k)) W1 W')) →
    J (fun _ => False) [] W →
    CallsIn Fence.wide n P g (#[.func (.yield l) #[] #[]] ++ lb) W fun e W' => (∃ v, e = .returned v) ∧ ((∃ X, J X xs W') ∨ ∃ X pre, pre <+: xs ∧ Jx X pre W')

theorem SeqY.later {α : Type} {P : Program} {g : Nat} {lb : Array Value} {encs : α → Array Value} {T K : Nat → Prop} {xs : List α} {w w' : World}
    (h : SeqY P g lb encs T K xs w) (hw : Far (fun k => ¬ K k) w w') : SeqY P g lb encs T K xs w' :=
  fun n l J Jx W hW => h n l J Jx W (hw.trans hW)
/-- how a round's body may be left -/
def yPost {α : Type} (D : Nat) (K X : Nat → Prop) (I : (Nat → Prop) → List α → World → Prop) (Ix : Code → (Nat → Prop) → List α → World → Prop) (xs : List α) (W : World) : Exit → Act → World → Prop
  | .normal, _, W' => Far (fun k => ¬ (K k ∨ X k ∨ k = D ∨ k = D + 1)) W W' ∧ I X xs W'
  | .ret, _, W' => Far (fun k => ¬ (K k ∨ X k ∨ k = D ∨ k = D + 1)) W W' ∧ Ix .ret X xs W'
  | .exit id, _, W' => Far (fun k => ¬ (K k ∨ X k ∨ k = D ∨ k = D + 1)) W W' ∧ Ix (.exit id) X xs W'
  | .goto t, _, W' => Far (fun k => ¬ (K k ∨ X k ∨ k = D ∨ k = D + 1)) W W' ∧ Ix (.goto t) X xs W'
  | .panic _, _, _ => False
  | .outgrown, _, _ => False

theorem rangeY {α : Type} {P : Program} {g : Operand} {ps : Array Tmp} {assign body : Code} {Q : Exit → Act → World → Prop} {a : Act} {w : World}
    {gf : Nat} {lb : Array Value} (hg : a.eval g = .func (.func gf) #[] lb) (eg : ∀ args w, (callFunc gf args).run P w = .ok (.enter gf args) w)
    {encs : α → Array Value} {T K : Nat → Prop} {xs : List α} (hseq : SeqY P gf lb encs T K xs w) (hps : ∀ x, (encs x).size = ps.size)
    (hT : ∀ k, T k → k < w.heap.size) (hK : ∀ k, K k → k < w.heap.size)
    (I : (Nat → Prop) → List α → World → Prop) (Ix : Code → (Nat → Prop) → List α → World → Prop)
    (hI : ∀ X pre A B, I X pre A → Far (fun k => T k ∨ X k ∨ k = w.heap.size ∨ k = w.heap.size + 1) A B → I X pre B)
    (hIx : ∀ c X pre A B, Ix c X pre A → Far (fun k => T k ∨ X k ∨ k = w.heap.size ∨ k = w.heap.size + 1) A B → Ix c X pre B)
    (hnew : ∀ X X' pre A, I X pre A → (∀ k, X' k → X k ∨ A.heap.size ≤ k) → I X' pre A)
    (h0 : I (fun _ => False) [] w) (Ax : Nat → α → Act → World → Prop) (hAx : ∀ N x a' A B, Ax N x a' A → Far (fun k => k = w.heap.size + 1) A B → Ax N x a' B)
    (hassign : ∀ (m l : Nat) (x : α) (W : World) (C : Act → World → Prop), w.heap.size + 2 ≤ W.heap.size → (∀ a' W', Far (fun _ => False) W W' → Ax W.heap.size x a' W' → C a' W') →
      assign.wpIn (Fence.wide.inRound l) m P (Exit.then C (fun _ _ _ => False)) { tmps := (ps.zip (encs x)).foldl (fun t (p, v) => t.setIfInBounds p v) a.tmps, defers := [] } W)
    (hbody : ∀ (m l : Nat) (X : Nat → Prop) (pre : List α) (x : α) (a' : Act) (Wa W : World), w.heap.size + 2 ≤ W.heap.size → (∀ k, X k → k < Wa.heap.size ∧ k ≠ w.heap.size ∧ k ≠ w.heap.size + 1) → I X pre W → Ax Wa.heap.size x a' W → pre ++ [x] <+: xs → I X pre Wa → Far (fun k => k = w.heap.size + 1) Wa W →
      body.wpIn (Fence.wide.inRound l) m P (yPost w.heap.size K X I Ix (pre ++ [x]) W) a' W)
    (hdone : ∀ (X : Nat → Prop) (W : World), w.heap.size + 2 ≤ W.heap.size → I X xs W → W.heap[w.heap.size]? = some (.deferred (some [])) → Q .normal { a with defers := markOf w.heap.size :: a.defers } W)
    (hstop : ∀ (c : Code) (X : Nat → Prop) (pre : List α) (W : World), w.heap.size + 2 ≤ W.heap.size → pre <+: xs → Ix c X pre W → W.heap[w.heap.size]? = some (.deferred (some [])) → c.wp P Q { a with defers := markOf w.heap.size :: a.defers } W) :
    (Code.rangeFunc g ps assign body).wp P Q a w := by
  refine (wpIn_wide (n := 0)).1 (wpIn_rangeFunc fun fn _ => ?_)
  obtain ⟨D, hD⟩ : ∃ D, w.heap.size = D := ⟨_, rfl⟩
  -- the loop's record, in its three states
  obtain ⟨rec, hrec⟩ : ∃ rec : LoopState → Option Code → Loop, rec = fun s p => { state := s, pending := p, fn, tmps := a.tmps, params := ps, assign, body, defers := D } := ⟨_, rfl⟩
  obtain ⟨W1, hW1⟩ : ∃ W1, (w.alloc (.deferred (some []))).alloc (.loop (rec .ready none)) = W1 := ⟨_, rfl⟩
  have hent : (Instr.enterLoop fn a.tmps ps assign body none).run P w = .ok (D + 1, [markOf D]) W1 := by
    rw [← hW1, hrec, ← hD]; exact run_enterLoop_outer _ _ _ _ _
  have hfar : Far (fun _ => False) w W1 := by rw [← hW1]; exact ((Far.refl _ w).alloc _).alloc _
  have hl1 : W1.heap[D + 1]? = some (.loop (rec .ready none)) := by
    rw [← hW1, ← hD]
    have := World.alloc_heap_new (w.alloc (.deferred (some []))) (.loop (rec .ready none))
    rwa [World.size_alloc] at this
  have hd1 : W1.heap[D]? = some (.deferred (some [])) := by
    rw [← hW1, ← hD]; exact (Below.heap_alloc _ _ _ (by simp)).trans (World.alloc_heap_new w _)
  rw [hD] at hT hK hI hIx hAx hassign hbody hdone hstop
  refine ⟨D + 1, [markOf D], W1, { target := .fn (.func gf) lb, args := #[.func (.yield (D + 1)) #[] #[]] }, W1, gf, #[.func (.yield (D + 1)) #[] #[]] ++ lb, W1, hent, ?_, fun _ _ => trivial, ?_, fun h => (by cases h), ?_⟩
  · simp only [resolve, hg]
    simp [go_sem]
  · simp [invoke, go_sem, eg]
  -- what the iterator carries: the loop's invariant, the record, the block for deferred calls
  let J : (Nat → Prop) → List α → World → Prop := fun X pre W => I X pre W ∧ W.heap[D + 1]? = some (.loop (rec .ready none)) ∧ W.heap[D]? = some (.deferred (some [])) ∧ ¬ X D ∧ ¬ X (D + 1)
  let Jx : (Nat → Prop) → List α → World → Prop := fun X pre W => ∃ c, Ix c X pre W ∧ W.heap[D + 1]? = some (.loop (rec .done (some c))) ∧ W.heap[D]? = some (.deferred (some [])) ∧ ¬ X D ∧ ¬ X (D + 1)
  have hnT : ∀ k, T k → k ≠ D ∧ k ≠ D + 1 := fun k hk => by have := hT k hk; omega
  have hnK : ∀ k, K k → k ≠ D ∧ k ≠ D + 1 := fun k hk => by have := hK k hk; omega
  have up : ∀ {X : Nat → Prop} {k : Nat}, T k ∨ X k → T k ∨ X k ∨ k = D ∨ k = D + 1 := fun h => h.elim .inl (fun h => .inr (.inl h))
  refine (hseq _ (D + 1) J Jx W1 (hfar.mono (fun _ _ h => h.elim))
    (fun X pre A B h hf => ⟨hI X pre A B h.1 (hf.mono fun _ _ ht => up ht), hf.same h.2.1 (fun h' => h'.elim (fun h => (hnT _ h).2 rfl) h.2.2.2.2), hf.same h.2.2.1 (fun h' => h'.elim (fun h => (hnT _ h).1 rfl) h.2.2.2.1), h.2.2.2⟩)
    (fun X pre A B h hf => by
      obtain ⟨c, h1, h2, h3, h4, h5⟩ := h
      exact ⟨c, hIx c X pre A B h1 (hf.mono fun _ _ ht => up ht), hf.same h2 (fun h' => h'.elim (fun h => (hnT _ h).2 rfl) h5), hf.same h3 (fun h' => h'.elim (fun h => (hnT _ h).1 rfl) h4), h4, h5⟩)
    (fun X X' pre A h hX => by
      have l1 : D < A.heap.size := (Array.getElem?_eq_some_iff.1 h.2.2.1).1
      have l2 : D + 1 < A.heap.size := (Array.getElem?_eq_some_iff.1 h.2.1).1
      exact ⟨hnew X X' pre A h.1 hX, h.2.1, h.2.2.1, fun hd => (hX _ hd).elim h.2.2.2.1 (fun h => by omega), fun hd => (hX _ hd).elim h.2.2.2.2 (fun h => by omega)⟩)
    ?_ ⟨hI _ [] w W1 h0 (hfar.mono fun _ _ h => h.elim), hl1, hd1, id, id⟩).mono ?_
  · -- a round
    rintro m X pre x Wa ⟨hi, hl, hd, hXD, hXE⟩ hXlt hpre
    have hlt : D + 1 < Wa.heap.size := (Array.getElem?_eq_some_iff.1 hl).1
    have hy := run_yield (P := P) (args := encs x) hl (by rw [hrec]; exact hps x)
    rw [hrec] at hy
    refine ⟨fn, _, assign, body, hy, roundIn_of_wpIn trivial (hassign m (D + 1) x Wa _ (by omega) fun a' Wb hab hax => ?_)⟩
    have hlb := hab.same hl id
    have hdb := hab.same hd id
    have hib := hI X pre Wa Wb hi (hab.mono fun _ _ h => h.elim)
    have hltb : D + 1 < Wb.heap.size := (Array.getElem?_eq_some_iff.1 hlb).1
    refine ⟨_, run_beginRound hlb (by rw [hrec]), ?_⟩
    obtain ⟨Wc, hWc⟩ : ∃ Wc, Wb.putObj (D + 1) (.loop { rec .ready none with state := .busy }) = Wc := ⟨_, rfl⟩
    rw [hWc]
    have hbc : Far (fun k => k = D + 1) Wb Wc := by rw [← hWc]; exact Far.putObj (T := fun k => k = D + 1) (Far.refl _ Wb) (fun _ => rfl) _
    have hlc : Wc.heap[D + 1]? = some (.loop { rec .ready none with state := .busy }) := by rw [← hWc]; exact World.putObj_heap_same hltb
    have hdc : Wc.heap[D]? = some (.deferred (some [])) := hbc.same hdb (by omega)
    have hltc : D + 1 < Wc.heap.size := (Array.getElem?_eq_some_iff.1 hlc).1
    refine wpIn_mono (hbody m (D + 1) X pre x a' Wa Wc (by omega) (fun k hk => ⟨hXlt k hk, fun h => hXD (h ▸ hk), fun h => hXE (h ▸ hk)⟩) (hI X pre Wb Wc hib (hbc.mono fun _ _ h => .inr (.inr (.inr h)))) (hAx _ x a' Wb Wc hax hbc) hpre hi ((hab.mono fun _ _ h => h.elim : Far (fun k => k = D + 1) Wa Wb).trans hbc)) ?_
    -- what 'endRound' makes of it
    have fin : ∀ (j : Option Code) (Wd : World), Far (fun k => ¬ (k = D ∨ k = D + 1)) Wc Wd →
        (Instr.endRound (D + 1) j).run P Wd = .ok (.bool j.isNone) (Wd.putObj (D + 1) (.loop (rec (if j.isNone then .ready else .done) j))) ∧
        (Wd.putObj (D + 1) (.loop (rec (if j.isNone then .ready else .done) j))).heap[D + 1]? = some (.loop (rec (if j.isNone then .ready else .done) j)) ∧
        (Wd.putObj (D + 1) (.loop (rec (if j.isNone then .ready else .done) j))).heap[D]? = some (.deferred (some [])) := fun j Wd hcd => by
      have hld := hcd.same hlc (fun h => h (.inr rfl))
      have he := run_endRound (P := P) j hld
      rw [hrec] at he ⊢
      exact ⟨he, World.putObj_heap_same (Array.getElem?_eq_some_iff.1 hld).1, (World.putObj_heap_other (by omega)).trans (hcd.same hdc (fun h => h (.inl rfl)))⟩
    have back : ∀ (Y : Nat → Prop) (o : Obj) (Wd : World), Far (fun k => T k ∨ Y k ∨ k = D ∨ k = D + 1) Wd (Wd.putObj (D + 1) o) := fun Y o Wd => (Far.refl _ Wd).putObj (fun _ => .inr (.inr (.inr rfl))) o
    intro e a3 Wd hp
    cases e with
    | normal =>
      obtain ⟨hcd, hid⟩ := hp
      obtain ⟨h1, h2, h3⟩ := fin none Wd (hcd.mono fun k _ h h' => h (.inr (.inr h')))
      refine ⟨_, _, h1, .inl ⟨rfl, ⟨hI _ _ _ _ hid (back _ _ Wd), h2, h3, hXD, hXE⟩, ?_⟩⟩
      refine (((hab.mono fun _ _ h => h.elim : Far (fun k => ¬ (K k ∨ X k)) Wa Wb).trans (hbc.mono fun k _ h hk => hk.elim (fun hk => (hnK k hk).2 h) (fun hk => hXE (h ▸ hk)))).trans (hcd.mono fun k _ h hk => h (hk.elim .inl (fun h => .inr (.inl h))))).putObj (fun _ hk => hk.elim (fun hk => (hnK _ hk).2 rfl) hXE) _
    | ret =>
      obtain ⟨hcd, hid⟩ := hp
      obtain ⟨h1, h2, h3⟩ := fin (some .ret) Wd (hcd.mono fun k _ h h' => h (.inr (.inr h')))
      exact ⟨_, _, h1, .inr ⟨rfl, ⟨.ret, hIx _ _ _ _ _ hid (back _ _ Wd), h2, h3, hXD, hXE⟩, (((hab.mono fun _ _ h => h.elim : Far (fun k => ¬ (K k ∨ X k)) Wa Wb).trans (hbc.mono fun k _ h hk => hk.elim (fun hk => (hnK k hk).2 h) (fun hk => hXE (h ▸ hk)))).trans (hcd.mono fun k _ h hk => h (hk.elim .inl (fun h => .inr (.inl h))))).putObj (fun _ hk => hk.elim (fun hk => (hnK _ hk).2 rfl) hXE) _⟩⟩
    | exit id =>
      obtain ⟨hcd, hid⟩ := hp
      obtain ⟨h1, h2, h3⟩ := fin (some (.exit id)) Wd (hcd.mono fun k _ h h' => h (.inr (.inr h')))
      exact ⟨_, _, h1, .inr ⟨rfl, ⟨.exit id, hIx _ _ _ _ _ hid (back _ _ Wd), h2, h3, hXD, hXE⟩, (((hab.mono fun _ _ h => h.elim : Far (fun k => ¬ (K k ∨ X k)) Wa Wb).trans (hbc.mono fun k _ h hk => hk.elim (fun hk => (hnK k hk).2 h) (fun hk => hXE (h ▸ hk)))).trans (hcd.mono fun k _ h hk => h (hk.elim .inl (fun h => .inr (.inl h))))).putObj (fun _ hk => hk.elim (fun hk => (hnK _ hk).2 rfl) hXE) _⟩⟩
    | goto t =>
      obtain ⟨hcd, hid⟩ := hp
      obtain ⟨h1, h2, h3⟩ := fin (some (.goto t)) Wd (hcd.mono fun k _ h h' => h (.inr (.inr h')))
      exact ⟨_, _, h1, .inr ⟨rfl, ⟨.goto t, hIx _ _ _ _ _ hid (back _ _ Wd), h2, h3, hXD, hXE⟩, (((hab.mono fun _ _ h => h.elim : Far (fun k => ¬ (K k ∨ X k)) Wa Wb).trans (hbc.mono fun k _ h hk => hk.elim (fun hk => (hnK k hk).2 h) (fun hk => hXE (h ▸ hk)))).trans (hcd.mono fun k _ h hk => h (hk.elim .inl (fun h => .inr (.inl h))))).putObj (fun _ hk => hk.elim (fun hk => (hnK _ hk).2 rfl) hXE) _⟩⟩
    | panic ch => exact hp.elim
    | outgrown => exact hp.elim
  · -- behind the iterator
    have back : ∀ (Y : Nat → Prop) (o : Obj) (Wd : World), Far (fun k => T k ∨ Y k ∨ k = D ∨ k = D + 1) Wd (Wd.putObj (D + 1) o) := fun Y o Wd => (Far.refl _ Wd).putObj (fun _ => .inr (.inr (.inr rfl))) o
    rintro e W2 ⟨⟨v, rfl⟩, h2⟩
    rcases h2 with ⟨X, hi, hl, hd, _⟩ | ⟨X, pre, hpre, c, hi, hl, hd, _⟩
    · have he := run_endLoop (P := P) hl (by rw [hrec]; simp)
      rw [hrec] at he
      have hlt : D + 1 < W2.heap.size := (Array.getElem?_eq_some_iff.1 hl).1
      exact ⟨none, _, he, hdone _ _ (by rw [World.putObj_size]; omega) (hI _ _ _ _ hi (back _ _ W2)) ((World.putObj_heap_other (by omega)).trans hd)⟩
    · have he := run_endLoop (P := P) hl (by rw [hrec]; simp)
      rw [hrec] at he
      have hlt : D + 1 < W2.heap.size := (Array.getElem?_eq_some_iff.1 hl).1
      exact ⟨some c, _, he, (wpIn_wide (n := 0)).2 (hstop c _ pre _ (by rw [World.putObj_size]; omega) hpre (hIx _ _ _ _ _ hi (back _ _ W2)) ((World.putObj_heap_other (by omega)).trans hd))⟩


end Go.Pol
namespace Go.Pol
open Go Go.RowKit
theorem roundIn_in {F : Fence} {n : Nat} {P : Program} {l l' : Nat} {f : FuncId} {tmps : Array Value} {assign body : Code} {w : World} {R : Ending → World → Prop} (h : RoundIn F n P l f tmps assign body w R) : RoundIn (F.inRound l') n P l f tmps assign body w R := h
def fsts (l : List Sp) : List Int := l.map (·.1)
theorem fsts_snoc (l : List Sp) (x : Sp) : fsts (l ++ [x]) = fsts l ++ [x.1] := by simp [fsts]
theorem fsts_pre {a b : List Sp} (h : a <+: b) : fsts a <+: fsts b := by
  obtain ⟨r, rfl⟩ := h
  exact ⟨fsts r, by simp [fsts]⟩
abbrev inA (p : Int) : Array Value := #[.int .i64 p]
end Go.Pol
namespace Go.Proofs.Ytmpakobfedgdbaa
open Go Go.Proofs Go.RowKit Go.Pol Go.Shelf
attribute [local go_sem] Oper.semAt_some Go.Pol.wide_fn Go.Pol.wide_depth Go.Pol.wide_fn' Go.Pol.wide_depth'

set_option maxRecDepth 100000 in
set_option maxHeartbeats 1600000 in
theorem pages1_seq (A : Option Addr) (n cap : Nat) (us : List Sp) (B1 : Nat) (K : Nat → Prop) (w : World) (hK1 : K B1)
    (k1 : Blk w B1 22 #[.slice A n cap]) (hn : us.length = n) (hm : n ≤ 1000000) (hr : RU w w.heap.size A us) (hown : us ≠ [] → ∀ b o, A = some ⟨b, o, none⟩ → K b) :
    SeqY Try.prog 56 #[.pointer (some ⟨B1, 0, none⟩)] inA (fun _ => False) K (fsts (piecesF us 1)) w := by
  intro n0 l0 J Jx W hW hJ hJx hnew hY h0
  have kB1 := hW.blk k1 (by simpa using hK1)
  have hrW : RU W W.heap.size A us := by
    by_cases h : us = []
    · subst h; exact RU.nil
    · exact (hW.ru hr (fun b o e h' => h' (hown h b o e))).more hW.size
  obtain ⟨s, hs⟩ : ∃ s, W.heap.size = s := ⟨_, rfl⟩
  obtain ⟨Wb, hWb⟩ : ∃ Wb, W.alloc (.cells #[.func (.yield l0) #[] #[]] 92) = Wb := ⟨_, rfl⟩
  refine callsIn_wide.2 ?_
  refine calls_of_marks Try.func56 rfl ?_
  simp only [Try.ntmps56, List.size_toArray, List.length_cons, List.length_nil, Nat.reduceAdd, Nat.reduceSub, Array.replicate_succ, Array.replicate_zero, List.push_toArray, List.append_toArray, List.nil_append, List.cons_append]
  go_upto_region 1 with fail
  have hFb : Far (fun _ => False) W Wb := by rw [← hWb]; exact (Far.refl _ W).alloc _
  have hszb : Wb.heap.size = s + 1 := by rw [← hWb, ← hs]; simp
  have kY : Blk Wb s 92 #[.func (.yield l0) #[] #[]] := by rw [← hWb, ← hs]; exact Blk.new _ _ _
  have kB1b := hFb.blk kB1 id
  have hrb : RU Wb Wb.heap.size A us := hrW.on (by rw [← hWb]; exact (Below.refl W.heap.size W).alloc (Nat.le_refl _) _)
  have zB := kB1b.cell
  clear hWb kB1 hrW
  have HT := Lib.hid (piecesTop_own A n cap us 1 Wb hn hm hrb)
  go_wp2_with fail
  refine HT.out.mono ?_
  rintro e w2 ⟨lb, Kin, rfl, hseq, hK, hq2⟩
  have kY2 := kY.call hq2
  have hF2 : Far (fun _ => False) W w2 := hFb.trans (.of_below hq2)
  have hs2 : s + 1 ≤ w2.heap.size := by rw [← hszb]; exact hq2.size
  clear HT hrb hq2 hn hr
  have HJ0 : J (fun k => Kin k ∨ False ∨ k = s ∨ k = w2.heap.size ∨ k = w2.heap.size + 1) [] w2 :=
    hJ _ _ W w2 (hnew _ _ _ W h0 (fun k hk => by
      right
      rcases hk with h | h | h | h | h
      · have := (hK k h).1; omega
      · exact h.elim
      · omega
      · omega
      · omega)) (hF2.mono fun _ _ h => h.elim)
  go_wp2_with fail
  refine rangeXB 3 6 53 (gf := 70) (lb := lb) rfl pieces_enters hseq rfl (fun _ h => h.elim) (fun k h => (hK k h).2)
    (fun X pre W => J (fun k => Kin k ∨ X k ∨ k = s ∨ k = w2.heap.size ∨ k = w2.heap.size + 1) (fsts pre) W ∧ Blk W s 92 #[.func (.yield l0) #[] #[]] ∧ ¬ X s ∧ w2.heap.size ≤ W.heap.size)
    (fun c X pre W => c = .ret ∧ pre <+: piecesF us 1 ∧ Jx (fun k => Kin k ∨ X k ∨ k = s ∨ k = w2.heap.size ∨ k = w2.heap.size + 1) (fsts pre) W)
    (fun X pre A B h hf => ⟨hJ _ _ A B h.1 (hf.mono fun k _ h => by
        rcases h with h | h | h | h
        · exact h.elim
        · exact .inr (.inr (.inl h))
        · exact .inr (.inr (.inr (.inr (.inl h))))
        · exact .inr (.inr (.inr (.inr (.inr h))))), hf.blk h.2.1 (by rintro (h' | h' | h' | h'); exact h'; exact h.2.2.1 h'; omega; omega), h.2.2.1, Nat.le_trans h.2.2.2 hf.size⟩)
    (fun c X pre A B h hf => ⟨h.1, h.2.1, hJx _ _ A B h.2.2 (hf.mono fun k _ h => by
        rcases h with h | h | h | h
        · exact h.elim
        · exact .inr (.inr (.inl h))
        · exact .inr (.inr (.inr (.inr (.inl h))))
        · exact .inr (.inr (.inr (.inr (.inr h)))))⟩)
    (fun X X' pre A h hX => ⟨hnew _ _ _ A h.1 (fun k hk => by
        rcases hk with h' | h' | h'
        · exact .inl (.inl h')
        · exact (hX k h').elim (fun h' => .inl (.inr (.inl h'))) .inr
        · exact .inl (.inr (.inr h'))), h.2.1, fun h' => (hX _ h').elim h.2.2.1 (fun h' => by have := h.2.1.lt; omega), h.2.2.2⟩)
    ⟨HJ0, kY2, id, Nat.le_refl _⟩ ?assign ?body ?done ?stop
  case assign =>
    intro m l x W C hC
    simp only [List.setIfInBounds_toArray, List.set_cons_succ, List.set_cons_zero] at hC ⊢
    gi_wp2
    exact hC
  case body =>
    rintro m l X pre x Bx Wa W hsz hXlt ⟨hJs, kY, nY, hwz⟩ hpre hBx kx hBa
    simp only [List.setIfInBounds_toArray, List.set_cons_succ, List.set_cons_zero]
    obtain ⟨xa, xb⟩ := x
    dsimp only at kx
    have cx := kx.cell
    have cY := kY.cell
    have hmap : Hid (fsts (pre ++ [(xa, xb)]) = fsts pre ++ [xa]) := Lib.hid (fsts_snoc _ _)
    have hpre2 : fsts pre ++ [xa] <+: fsts (piecesF us 1) := by
      rw [← hmap.out]
      exact fsts_pre hpre
    have hall : ∀ k, (Kin k ∨ X k ∨ k = s ∨ k = w2.heap.size ∨ k = w2.heap.size + 1) → k < W.heap.size := fun k hk => by
      rcases hk with h | h | h | h | h
      · have := (hK k h).2; omega
      · have := (hXlt k h).1; have := kx.lt; omega
      · omega
      · omega
      · omega
    obtain ⟨fn, tmps, assign, body, hy, hRd⟩ := hY (m - 1) _ (fsts pre) xa W hJs hall hpre2
    clear hY
    gi_wp2_with fail
    refine (roundIn_in hRd).mono ?_
    rintro e W4 (⟨rfl, hJ4, hF4⟩ | ⟨rfl, hJx4, hF4⟩)
    · gi_wp2_with fail
      exact ⟨hF4.mono fun k _ h h' => h (.inr (by
        rcases h' with h' | h' | h' | h'
        · exact .inl h'
        · exact .inr (.inl h')
        · exact .inr (.inr (.inr (.inl h')))
        · exact .inr (.inr (.inr (.inr h'))))), by rw [hmap.out]; exact hJ4, hF4.blk kY (fun h => h (.inr (.inr (.inr (.inl rfl))))), nY, Nat.le_trans hwz hF4.size⟩
    · gi_wp2_with fail
      exact ⟨hF4.mono fun k _ h h' => h (.inr (h'.elim (fun h' => .inr (.inr (.inr (.inl h')))) (fun h' => .inr (.inr (.inr (.inr h')))))), rfl, hpre, by rw [hmap.out]; exact hJx4⟩
  case done =>
    rintro X W5 hsz ⟨hJs, _, _, _⟩ hd
    have hfin := hJ _ _ W5 (W5.putObj w2.heap.size (.deferred none)) hJs (Far.putObj (Far.refl _ _) (fun _ => .inr (.inr (.inr (.inr (.inl rfl))))) _)
    go_wp2_with fail
    exact leave_mark (v := .tuple #[]) hd (results_none rfl _ _ _) ⟨⟨_, rfl⟩, .inl ⟨_, hfin⟩⟩
  case stop =>
    rintro c X pre W5 hsz hpre ⟨rfl, _, hJs⟩ hd
    have hfin := hJx _ _ W5 (W5.putObj w2.heap.size (.deferred none)) hJs (Far.putObj (Far.refl _ _) (fun _ => .inr (.inr (.inr (.inr (.inl rfl))))) _)
    go_wp2_with fail
    exact leave_mark (v := .tuple #[]) hd (results_none rfl _ _ _) ⟨⟨_, rfl⟩, .inr ⟨_, _, fsts_pre hpre, hfin⟩⟩
end Go.Proofs.Ytmpakobfedgdbaa
namespace Go.Pol
open Go Go.RowKit
/-- a loop over numbers whose variable is a temporary -/
theorem rangeYI {P : Program} {g : Operand} {ps : Array Tmp} {assign body : Code} {Q : Exit → Act → World → Prop} {a : Act} {w : World} (ia pb : Nat)
    {gf : Nat} {lb : Array Value} (hg : a.eval g = .func (.func gf) #[] lb) (eg : ∀ args w, (callFunc gf args).run P w = .ok (.enter gf args) w)
    {T K : Nat → Prop} {xs : List Int} (hseq : SeqY P gf lb inA T K xs w) (hps : ps = #[pb])
    (hT : ∀ k, T k → k < w.heap.size) (hK : ∀ k, K k → k < w.heap.size)
    (I : (Nat → Prop) → List Int → World → Prop) (Ix : Code → (Nat → Prop) → List Int → World → Prop)
    (hI : ∀ X pre A B, I X pre A → Far (fun k => T k ∨ X k ∨ k = w.heap.size ∨ k = w.heap.size + 1) A B → I X pre B)
    (hIx : ∀ c X pre A B, Ix c X pre A → Far (fun k => T k ∨ X k ∨ k = w.heap.size ∨ k = w.heap.size + 1) A B → Ix c X pre B)
    (hnew : ∀ X X' pre A, I X pre A → (∀ k, X' k → X k ∨ A.heap.size ≤ k) → I X' pre A)
    (h0 : I (fun _ => False) [] w)
    (hassign : ∀ (m l : Nat) (x : Int) (W : World) (C : Act → World → Prop),
      C { tmps := (a.tmps.setIfInBounds pb (.int .i64 x)).setIfInBounds ia (.int .i64 x), defers := [] } W →
      assign.wpIn (Fence.wide.inRound l) m P (Exit.then C (fun _ _ _ => False)) { tmps := a.tmps.setIfInBounds pb (.int .i64 x), defers := [] } W)
    (hbody : ∀ (m l : Nat) (X : Nat → Prop) (pre : List Int) (x : Int) (Wa W : World), w.heap.size + 2 ≤ W.heap.size → (∀ k, X k → k < Wa.heap.size ∧ k ≠ w.heap.size ∧ k ≠ w.heap.size + 1) → I X pre W → pre ++ [x] <+: xs → Wa.heap.size ≤ W.heap.size →
      body.wpIn (Fence.wide.inRound l) m P (yPost w.heap.size K X I Ix (pre ++ [x]) W) { tmps := (a.tmps.setIfInBounds pb (.int .i64 x)).setIfInBounds ia (.int .i64 x), defers := [] } W)
    (hdone : ∀ (X : Nat → Prop) (W : World), w.heap.size + 2 ≤ W.heap.size → I X xs W → W.heap[w.heap.size]? = some (.deferred (some [])) → Q .normal { a with defers := markOf w.heap.size :: a.defers } W)
    (hstop : ∀ (c : Code) (X : Nat → Prop) (pre : List Int) (W : World), w.heap.size + 2 ≤ W.heap.size → pre <+: xs → Ix c X pre W → W.heap[w.heap.size]? = some (.deferred (some [])) → c.wp P Q { a with defers := markOf w.heap.size :: a.defers } W) :
    (Code.rangeFunc g ps assign body).wp P Q a w := by
  subst hps
  refine rangeY hg eg hseq (fun _ => rfl) hT hK I Ix hI hIx hnew h0
    (fun _ x a' _ => a' = { tmps := (a.tmps.setIfInBounds pb (.int .i64 x)).setIfInBounds ia (.int .i64 x), defers := [] })
    (fun _ _ _ _ _ h _ => h) ?_ ?_ hdone hstop
  · intro m l x W C hs hC
    have e : (#[pb].zip (inA x)).foldl (fun t (p, v) => t.setIfInBounds p v) a.tmps = a.tmps.setIfInBounds pb (.int .i64 x) := by simp [inA]
    rw [e]
    exact hassign m l x W C (hC _ _ (Far.refl _ W) rfl)
  · rintro m l X pre x a' Wa W hs hX hi rfl hpre _ hfa
    exact hbody m l X pre x Wa W hs hX hi hpre hfa.size
end Go.Pol
namespace Go.Proofs.Ytmpakobfedgdbaa
open Go Go.Proofs Go.RowKit Go.Pol Go.Shelf
attribute [local go_sem] Oper.semAt_some Go.Pol.wide_fn Go.Pol.wide_depth Go.Pol.wide_fn' Go.Pol.wide_depth'

theorem pages_enters : ∀ args w, (callFunc 56 args).run Try.prog w = .ok (.enter 56 args) w := enters_of Try.func56 (by kernel_rfl) rfl

set_option maxHeartbeats 800000 in
theorem pagesTop_any (A : Option Addr) (n cap : Nat) (us : List Sp) (w : World) (hn : us.length = n) (hm : n ≤ 1000000) (hr : RU w w.heap.size A us) :
    Calls Try.prog 29 #[.slice A n cap] w fun e w' => ∃ (lb : Array Value) (K : Nat → Prop), e = .returned (.func (.func 56) #[] lb) ∧
      SeqY Try.prog 56 lb inA (fun _ => False) K (fsts (piecesF us 1)) w' ∧ (∀ k, K k → w.heap.size ≤ k ∧ k < w'.heap.size) ∧ Below w.heap.size w w' := by
  have hb0 := (Below.refl w.heap.size w).alloc (Nat.le_refl _) (.cells #[.slice A n cap] 22)
  have k1 := Blk.new w 22 #[.slice A n cap]
  have r0 : RU (w.alloc (.cells #[.slice A n cap] 22)) _ A us := hr.on hb0
  have HK := Lib.hid (clone_any A n cap us _ hn hm r0)
  have z1 := k1.cell
  have hsz : (w.alloc (.cells #[.slice A n cap] 22)).heap.size = w.heap.size + 1 := by simp
  go_enter Try.func29, Try.ntmps29
  go_wp2_with fail
  refine HK.out.mono ?_
  rintro e w1 ⟨v, rfl, hrow, hb1⟩
  have B1 := hb0.trans (hb1.mono hb0.size)
  have k1b := k1.call hb1
  have f1 := k1b.frozen
  have z1b := k1b.cell
  have hs1 := B1.size
  clear HK
  obtain ⟨A2, cap2, rfl⟩ := own_nil_iff hrow hn
  go_wp2_with fail
  go_ret
  have k1c := k1b.set_ 0 (.slice A2 n cap2)
  have hfar : Far (fun k => k = w.heap.size) w1 (w1.setCell ⟨w.heap.size, 0, none⟩ (.slice A2 n cap2)) := Far.setCell (T := fun k => k = w.heap.size) (p := ⟨w.heap.size, 0, none⟩) (Far.refl _ _) (fun _ => rfl) _
  have hrow2 := ownsRow_far hrow hfar (fun g hg e => by have := (hrow.lt g hg).1; omega)
  have B2 := B1.trans (hfar.below hs1 (fun k hk h => by omega))
  generalize w1.setCell ⟨w.heap.size, 0, none⟩ (.slice A2 n cap2) = w2 at *
  obtain ⟨A3, cap3, he, hru, h1, h2, h3, _⟩ := own_RU hrow2 hn
  cases he
  refine ⟨_, fun k => k = w.heap.size ∨ (us ≠ [] ∧ ∃ o, A2 = some ⟨k, o, none⟩), rfl, pages1_seq A2 n cap2 us w.heap.size _ w2 (.inl rfl) (by simpa using k1c) hn hm hru (fun h b o e => .inr ⟨h, o, e⟩), ?_, B2⟩
  rintro k (rfl | ⟨h, o, e⟩)
  · exact ⟨Nat.le_refl _, k1c.lt⟩
  · exact ⟨by have := h3 k o e; omega, ru_lt hru h e⟩

theorem eql_seqI (f : Fn) (c lb : Array Value) (w : World) : (binOp .eql 59 (.func f c lb) .nilFunc).run Try.prog w = .ok (.bool false) w := by
  simp only [binOp]
  simp [Op.equal, Op.maxDepth, run_equalIn_func_nil w 9999 _ f c lb Try.underlying59]

end Go.Proofs.Ytmpakobfedgdbaa
namespace Go.Proofs.Ytmpakobfedgdbaa
open Go Go.Proofs Go.RowKit Go.Pol Go.Shelf
attribute [local go_sem] Oper.semAt_some Go.Pol.wide_fn Go.Pol.wide_depth Go.Pol.wide_fn' Go.Pol.wide_depth'
theorem getD_memI {bs : List Int} {k : Nat} (h : k < bs.length) : bs.getD k 0 ∈ bs := by
  rw [List.getD_eq_getElem?_getD, List.getElem?_eq_getElem h]; exact List.getElem_mem h

/-- where the first entry is that a test holds of -/
def idxI (p : Int → Bool) : List Int → Nat → Int
  | [], _ => -1
  | x :: r, k => if p x = true then (k : Int) else idxI p r (k + 1)
theorem idxI_any (p : Int → Bool) : ∀ (bs : List Int) (k : Nat), decide (0 ≤ idxI p bs k) = bs.any p
  | [], k => by simp [idxI]
  | x :: r, k => by
    rw [idxI]
    cases h : p x with
    | true => simp [h]
    | false => simp [h, idxI_any p r (k + 1)]
theorem idxI_bound (p : Int → Bool) : ∀ (bs : List Int) (k : Nat), -1 ≤ idxI p bs k ∧ idxI p bs k < (bs.length : Int) + k
  | [], k => by simp [idxI]; omega
  | x :: r, k => by
    have := idxI_bound p r (k + 1)
    rw [idxI]
    split
    · simp only [List.length_cons]; omega
    · simp only [List.length_cons]; omega
set_option maxRecDepth 100000 in
theorem indexI_any (p : Int → Bool) (g : Nat) (lb : Array Value) (A : Option Addr) (n cap : Nat) (bs : List Int) (w : World) (hn : bs.length = n) (hm : n ≤ maxLen) (hr : RI w w.heap.size A bs)
    (eg : ∀ args w, (callFunc g args).run Try.prog w = .ok (.enter g args) w)
    (hp : ∀ x ∈ bs, ∀ W, Below w.heap.size w W → Calls Try.prog g (#[.int .i64 x] ++ lb) W fun e W' => e = .returned (.bool (p x)) ∧ Below W.heap.size W W') :
    Calls Try.prog 68 #[.slice A n cap, .func (.func g) #[] lb] w fun e w' => e = .returned (.int .i64 (idxI p bs 0)) ∧ Below w.heap.size w w' := by
  unfold maxLen at hm
  obtain ⟨R, hR⟩ : ∃ R, idxI p bs 0 = R := ⟨_, rfl⟩
  rw [hR]
  have hR' := Lib.hid hR
  have hn' := Lib.hid hn
  have hp' := Lib.hid hp
  clear hR hn hp
  go_enter Try.func68, Try.ntmps68
  go_wp2_with fail
  go_loopw [8] (fun i wr => ∃ k : Nat, k ≤ n ∧ i = .int .i64 k ∧ Below w.heap.size w wr ∧ Hid (idxI p (bs.drop k) k = R)) (fun i _ => n - (intOf i).toNat)
  case atStart => exact ⟨0, by omega, rfl, Below.refl _ _, by simpa using hR'⟩
  case round =>
    obtain ⟨k, hk, rfl, hB, hH⟩ := hrel
    by_cases hlt : k < n
    · have hlt' : decide ((k : Int) < (n : Int)) = true := by simpa using hlt
      obtain ⟨b, o, rfl, _, c1⟩ := ((hr.below hB).more hB.size).at_ (k := k) (by have := hn'.out; omega)
      have HP := Lib.hid (hp'.out (bs.getD k 0) (getD_memI (by have := hn'.out; omega)) wr hB)
      have hst := hH.out
      rw [Go.Pol.drop_cons 0 bs k (by have := hn'.out; omega), idxI] at hst
      generalize bs.getD k 0 = x at *
      cases hpx : p x with
      | true =>
        rw [hpx] at HP
        rw [if_pos hpx] at hst
        have hst' := Lib.hid hst
        clear hst hH hpx
        go_wp2_with fail
        refine HP.out.mono ?_
        rintro e w1 ⟨rfl, hb1⟩
        go_wp2_with fail
        go_ret
        exact ⟨ret_int hst'.out, hB.trans (hb1.mono hB.size)⟩
      | false =>
        rw [hpx] at HP
        rw [if_neg (by simp [hpx])] at hst
        have hst' := Lib.hid hst
        clear hst hH hpx
        go_wp2_with fail
        refine HP.out.mono ?_
        rintro e w1 ⟨rfl, hb1⟩
        go_wp2_with fail
        go_roundw
        case rel => exact ⟨k + 1, by omega, by go_num, hB.trans (hb1.mono hB.size), hst'⟩
        case measure => simp [intOf]; omega
    · obtain rfl : k = n := by omega
      have hlt' : decide ((k : Int) < (k : Int)) = false := by simp
      have hst := hH.out
      rw [List.drop_of_length_le (by have := hn'.out; omega)] at hst
      have hst' := Lib.hid (show -1 = R from hst)
      clear hst hH
      go_wp2_with fail
      go_ret
      exact ⟨ret_int hst'.out, hB⟩
theorem containsI_any (p : Int → Bool) (g : Nat) (lb : Array Value) (A : Option Addr) (n cap : Nat) (bs : List Int) (w : World) (hn : bs.length = n) (hm : n ≤ maxLen) (hr : RI w w.heap.size A bs)
    (eg : ∀ args w, (callFunc g args).run Try.prog w = .ok (.enter g args) w)
    (hp : ∀ x ∈ bs, ∀ W, Below w.heap.size w W → Calls Try.prog g (#[.int .i64 x] ++ lb) W fun e W' => e = .returned (.bool (p x)) ∧ Below W.heap.size W W') :
    Calls Try.prog 50 #[.slice A n cap, .func (.func g) #[] lb] w fun e w' => e = .returned (.bool (bs.any p)) ∧ Below w.heap.size w w' := by
  have HI := Lib.hid (indexI_any p g lb A n cap bs w hn hm hr eg hp)
  have hE := Lib.hid (idxI_any p bs 0)
  generalize idxI p bs 0 = R at *
  generalize bs.any p = S at *
  go_enter Try.func50, Try.ntmps50
  go_wp2_with fail
  refine HI.out.mono ?_
  rintro e w1 ⟨rfl, hb1⟩
  go_wp2_with fail
  go_ret
  exact ⟨ret_bool hE.out, hb1⟩
theorem open1_any (x : Int) (w : World) : Calls Try.prog 51 #[.int .i64 x] w fun e w' => e = .returned (.bool (!inG x)) ∧ w' = w := by
  have hR : (decide (x < 0) || decide (64 ≤ x)) = !inG x := by
    unfold inG
    by_cases h1 : x < 0 <;> by_cases h2 : 64 ≤ x <;> simp [h1, h2] <;> omega
  have hR' := Lib.hid hR
  generalize (!inG x) = R at *
  clear hR
  by_cases h1 : x < 0
  · go_enter Try.func51, Try.ntmps51
    go_wp2_with fail
    go_ret
    exact ⟨ret_bool (by have := hR'.out; simpa [h1] using this), rfl⟩
  · go_enter Try.func51, Try.ntmps51
    go_wp2_with fail
    go_ret
    exact ⟨ret_bool (by have := hR'.out; rw [decide_eq_false (show ¬ x < 0 by omega), Bool.false_or] at this; exact this), rfl⟩
end Go.Proofs.Ytmpakobfedgdbaa
namespace Go.Pol
open Go
def upd {β : Type} (f : Nat → β) (p : Nat) (u : β) (q : Nat) : β := if q = p then u else f q
/-- page q: committed, live; group q: number, committed, live, huge -/
structure LookIs (cs : Array Value) (cm lv : Nat → Bool) (nm gc gl : Nat → Int) (gh : Nat → Bool) : Prop where
  size : cs.size = 2304
  cm : ∀ q, q < 1024 → cs[q * 2]? = some (.bool (cm q))
  lv : ∀ q, q < 1024 → cs[q * 2 + 1]? = some (.bool (lv q))
  nm : ∀ q, q < 64 → cs[2048 + q * 4]? = some (.int .i64 (nm q))
  gc : ∀ q, q < 64 → cs[2048 + q * 4 + 1]? = some (.int .i64 (gc q))
  gl : ∀ q, q < 64 → cs[2048 + q * 4 + 2]? = some (.int .i64 (gl q))
  gh : ∀ q, q < 64 → cs[2048 + q * 4 + 3]? = some (.bool (gh q))
section
variable {cs : Array Value} {cm lv : Nat → Bool} {nm gc gl : Nat → Int} {gh : Nat → Bool}
theorem LookIs.cm_ (h : LookIs cs cm lv nm gc gl gh) {p : Nat} (hp : p < 1024) (u : Bool) : LookIs (cs.setIfInBounds (p * 2) (.bool u)) (upd cm p u) lv nm gc gl gh := by
  refine ⟨by rw [Array.size_setIfInBounds]; exact h.size, ?_, ?_, ?_, ?_, ?_, ?_⟩ <;> intro q hq <;> rw [Array.getElem?_setIfInBounds]
  · by_cases e : p = q
    · subst e; rw [if_pos rfl, if_pos (by rw [h.size]; omega), upd, if_pos rfl]
    · rw [if_neg (by omega), upd, if_neg (fun h => e h.symm)]; exact h.cm q hq
  · rw [if_neg (by omega)]; exact h.lv q hq
  · rw [if_neg (by omega)]; exact h.nm q hq
  · rw [if_neg (by omega)]; exact h.gc q hq
  · rw [if_neg (by omega)]; exact h.gl q hq
  · rw [if_neg (by omega)]; exact h.gh q hq
theorem LookIs.lv_ (h : LookIs cs cm lv nm gc gl gh) {p : Nat} (hp : p < 1024) (u : Bool) : LookIs (cs.setIfInBounds (p * 2 + 1) (.bool u)) cm (upd lv p u) nm gc gl gh := by
  refine ⟨by rw [Array.size_setIfInBounds]; exact h.size, ?_, ?_, ?_, ?_, ?_, ?_⟩ <;> intro q hq <;> rw [Array.getElem?_setIfInBounds]
  · rw [if_neg (by omega)]; exact h.cm q hq
  · by_cases e : p = q
    · subst e; rw [if_pos rfl, if_pos (by rw [h.size]; omega), upd, if_pos rfl]
    · rw [if_neg (by omega), upd, if_neg (fun h => e h.symm)]; exact h.lv q hq
  · rw [if_neg (by omega)]; exact h.nm q hq
  · rw [if_neg (by omega)]; exact h.gc q hq
  · rw [if_neg (by omega)]; exact h.gl q hq
  · rw [if_neg (by omega)]; exact h.gh q hq
theorem LookIs.nm_ (h : LookIs cs cm lv nm gc gl gh) {p : Nat} (hp : p < 64) (u : Int) : LookIs (cs.setIfInBounds (2048 + p * 4) (.int .i64 u)) cm lv (upd nm p u) gc gl gh := by
  refine ⟨by rw [Array.size_setIfInBounds]; exact h.size, ?_, ?_, ?_, ?_, ?_, ?_⟩ <;> intro q hq <;> rw [Array.getElem?_setIfInBounds]
  · rw [if_neg (by omega)]; exact h.cm q hq
  · rw [if_neg (by omega)]; exact h.lv q hq
  · by_cases e : p = q
    · subst e; rw [if_pos rfl, if_pos (by rw [h.size]; omega), upd, if_pos rfl]
    · rw [if_neg (by omega), upd, if_neg (fun h => e h.symm)]; exact h.nm q hq
  · rw [if_neg (by omega)]; exact h.gc q hq
  · rw [if_neg (by omega)]; exact h.gl q hq
  · rw [if_neg (by omega)]; exact h.gh q hq
theorem LookIs.gc_ (h : LookIs cs cm lv nm gc gl gh) {p : Nat} (hp : p < 64) (u : Int) : LookIs (cs.setIfInBounds (2048 + p * 4 + 1) (.int .i64 u)) cm lv nm (upd gc p u) gl gh := by
  refine ⟨by rw [Array.size_setIfInBounds]; exact h.size, ?_, ?_, ?_, ?_, ?_, ?_⟩ <;> intro q hq <;> rw [Array.getElem?_setIfInBounds]
  · rw [if_neg (by omega)]; exact h.cm q hq
  · rw [if_neg (by omega)]; exact h.lv q hq
  · rw [if_neg (by omega)]; exact h.nm q hq
  · by_cases e : p = q
    · subst e; rw [if_pos rfl, if_pos (by rw [h.size]; omega), upd, if_pos rfl]
    · rw [if_neg (by omega), upd, if_neg (fun h => e h.symm)]; exact h.gc q hq
  · rw [if_neg (by omega)]; exact h.gl q hq
  · rw [if_neg (by omega)]; exact h.gh q hq
theorem LookIs.gl_ (h : LookIs cs cm lv nm gc gl gh) {p : Nat} (hp : p < 64) (u : Int) : LookIs (cs.setIfInBounds (2048 + p * 4 + 2) (.int .i64 u)) cm lv nm gc (upd gl p u) gh := by
  refine ⟨by rw [Array.size_setIfInBounds]; exact h.size, ?_, ?_, ?_, ?_, ?_, ?_⟩ <;> intro q hq <;> rw [Array.getElem?_setIfInBounds]
  · rw [if_neg (by omega)]; exact h.cm q hq
  · rw [if_neg (by omega)]; exact h.lv q hq
  · rw [if_neg (by omega)]; exact h.nm q hq
  · rw [if_neg (by omega)]; exact h.gc q hq
  · by_cases e : p = q
    · subst e; rw [if_pos rfl, if_pos (by rw [h.size]; omega), upd, if_pos rfl]
    · rw [if_neg (by omega), upd, if_neg (fun h => e h.symm)]; exact h.gl q hq
  · rw [if_neg (by omega)]; exact h.gh q hq
theorem LookIs.gh_ (h : LookIs cs cm lv nm gc gl gh) {p : Nat} (hp : p < 64) (u : Bool) : LookIs (cs.setIfInBounds (2048 + p * 4 + 3) (.bool u)) cm lv nm gc gl (upd gh p u) := by
  refine ⟨by rw [Array.size_setIfInBounds]; exact h.size, ?_, ?_, ?_, ?_, ?_, ?_⟩ <;> intro q hq <;> rw [Array.getElem?_setIfInBounds]
  · rw [if_neg (by omega)]; exact h.cm q hq
  · rw [if_neg (by omega)]; exact h.lv q hq
  · rw [if_neg (by omega)]; exact h.nm q hq
  · rw [if_neg (by omega)]; exact h.gc q hq
  · rw [if_neg (by omega)]; exact h.gl q hq
  · by_cases e : p = q
    · subst e; rw [if_pos rfl, if_pos (by rw [h.size]; omega), upd, if_pos rfl]
    · rw [if_neg (by omega), upd, if_neg (fun h => e h.symm)]; exact h.gh q hq
end
end Go.Pol
namespace Go.Pol

/-- how many of some pages are in group g -/
def cntP (pre : List Int) (g : Int) : Int := (pre.countP fun p => p / 16 == g : Nat)
theorem cntP_snoc (pre : List Int) (x g : Int) : cntP (pre ++ [x]) g = cntP pre g + if x / 16 = g then 1 else 0 := by
  unfold cntP
  rw [List.countP_append]
  by_cases h : x / 16 = g
  · simp [h]
  · simp [h]
theorem cntN_eq (x : Int) : ∀ (k : Nat) (a : Int), cntN (fun q => decide (q = x)) k a = if a ≤ x ∧ x < a + k then 1 else 0
  | 0, a => by rw [cntN, if_neg (by omega)]
  | k + 1, a => by
    rw [cntN, cntN_eq x k (a + 1)]
    by_cases h : a = x
    · rw [if_pos (by simpa using h), if_neg (by omega), if_pos (by omega)]; rfl
    · rw [if_neg (by simpa using h)]
      by_cases h2 : a + 1 ≤ x ∧ x < a + 1 + k
      · rw [if_pos h2, if_pos (by omega)]; rfl
      · rw [if_neg h2, if_neg (by omega)]; rfl
theorem cntN_or {f g : Int → Bool} : ∀ (k : Nat) (a : Int), (∀ q, f q = true → g q = true → False) → cntN (fun q => f q || g q) k a = cntN f k a + cntN g k a
  | 0, _, _ => rfl
  | k + 1, a, h => by
    rw [cntN, cntN, cntN, cntN_or k (a + 1) h]
    cases hf : f a with
    | true =>
      cases hg : g a with
      | true => exact (h a hf hg).elim
      | false => simp; omega
    | false =>
      cases hg : g a with
      | true => simp; omega
      | false => simp
theorem cntP_mem (g : Int) : ∀ (l : List Int), l.Nodup → cntP l g = cntN (fun q => decide (q ∈ l)) 16 (16 * g)
  | [], _ => by rw [cntN_none]; · rfl
                · intro q _ _; simp
  | x :: r, h => by
    obtain ⟨h1, h2⟩ := List.nodup_cons.1 h
    have e : (fun q => decide (q ∈ x :: r)) = fun q => decide (q = x) || decide (q ∈ r) := by
      funext q; simp
    rw [e, cntN_or _ _ (fun q a b => h1 (by simp only [decide_eq_true_eq] at a b; exact a ▸ b)), cntN_eq, ← cntP_mem g r h2]
    unfold cntP
    rw [List.countP_cons]
    by_cases hx : x / 16 = g
    · rw [if_pos (by simpa using hx), if_pos (by omega)]; omega
    · rw [if_neg (by simpa using hx), if_neg (by omega)]; omega
theorem mem_pagesOf {p : Int} {us : List Sp} : p ∈ pagesOf us ↔ mem p us = true := by
  unfold pagesOf mem
  simp only [List.mem_flatMap, List.mem_map, List.mem_range, List.any_eq_true, Bool.and_eq_true, decide_eq_true_eq]
  constructor
  · rintro ⟨x, hx, k, hk, rfl⟩
    exact ⟨x, hx, by omega, by omega⟩
  · rintro ⟨x, hx, h1, h2⟩
    exact ⟨x, hx, (p - x.1).toNat, by omega, by omega⟩
theorem pages_lt {us : List Sp} (h : Can us) : (pagesOf us).Pairwise (· < ·) :=
  (pages_sorted us (-1) (fun x hx => (vld_iff.1 (h.1 x hx)).2.2.1) h.2).1
theorem pages_nodup {us : List Sp} (h : Can us) : (pagesOf us).Nodup := (pages_lt h).imp (fun h => by omega)
theorem cntP_pages {us : List Sp} (h : Can us) (g : Int) : cntP (pagesOf us) g = grpF us g := by
  rw [cntP_mem g _ (pages_nodup h)]
  unfold grpF cntF
  refine cntN_congr _ _ fun q _ _ => ?_
  rw [Bool.eq_iff_iff]; simp [mem_pagesOf]
theorem subF_iff {L C : List Sp} (h : Can L) : subF L C = true ↔ ∀ p ∈ pagesOf L, mem p C = true := by
  unfold subF
  simp only [List.all_eq_true, List.mem_range, Bool.or_eq_true, Bool.not_eq_true']
  constructor
  · intro hs p hp
    have hm := mem_pagesOf.1 hp
    obtain ⟨h0, h1⟩ := h.range hm
    have := hs p.toNat (by omega)
    rw [show ((p.toNat : Nat) : Int) = p by omega] at this
    rcases this with h' | h'
    · rw [hm] at h'; cases h'
    · exact h'
  · intro hs p hp
    cases hm : mem (p : Int) L with
    | false => exact .inl rfl
    | true => exact .inr (hs _ (mem_pagesOf.2 hm))
end Go.Pol
namespace Go.Pol
open Go
/-- a power of two from 1 to 1024 -/
def isPow (x : Nat) : Bool := List.elem x [1, 2, 4, 8, 16, 32, 64, 128, 256, 512, 1024]
theorem isPow_le {x : Nat} (h : isPow x = true) : 1 ≤ x ∧ x ≤ 1024 := by
  simp [isPow] at h
  omega
def badPlace (pages align : Int) : Bool := !(decide (1 ≤ pages) && decide (pages ≤ 1024) && isPow align.toNat)
def placeE (us : List Sp) (pages align : Int) : Int := if chkS us = 0 then (if badPlace pages align = true then 2 else 0) else chkS us
/-- the least multiple that is not below a page -/
def upP (align a : Int) : Int := (a + align - 1) / align * align
def placeX (pages align : Int) (x : Sp) : Option (Int × Sp) := if upP align x.1 + pages ≤ x.1 + x.2 then some (upP align x.1, x) else none
def placesF (us : List Sp) (pages align : Int) : List (Int × Sp) := us.filterMap (placeX pages align)
theorem upP_ok {align a : Int} (h : 1 ≤ align) : a ≤ upP align a ∧ upP align a ≤ a + align - 1 := by
  unfold upP
  have h1 := Int.emod_add_mul_ediv (a + align - 1) align
  have h2 := Int.emod_nonneg (a + align - 1) (show align ≠ 0 by omega)
  have h3 := Int.emod_lt_of_pos (a + align - 1) (show 0 < align by omega)
  rw [Int.mul_comm ((a + align - 1) / align) align]
  omega
theorem placeE_zero {us : List Sp} {pages align : Int} (h : placeE us pages align = 0) : Can us ∧ 1 ≤ pages ∧ pages ≤ 1024 ∧ 1 ≤ align ∧ align ≤ 1024 ∧ isPow align.toNat = true := by
  unfold placeE at h
  split at h
  · rename_i h1
    split at h
    · cases h
    · rename_i h2
      simp only [badPlace, Bool.not_eq_true', Bool.not_eq_false, Bool.and_eq_true, decide_eq_true_eq] at h2
      have := isPow_le h2.2
      exact ⟨chkS_zero.1 h1, h2.1.1, h2.1.2, by omega, by omega, h2.2⟩
  · rename_i h1; exact absurd h h1
theorem places_take (us : List Sp) (pages align : Int) (k : Nat) (hk : k < us.length) : placesF (us.take (k + 1)) pages align = placesF (us.take k) pages align ++ (placeX pages align (us.getD k (0,0))).toList := by
  have e : us.take (k + 1) = us.take k ++ [us.getD k (0,0)] := by
    rw [List.take_add_one, List.getElem?_eq_getElem hk, List.getD_eq_getElem?_getD, List.getElem?_eq_getElem hk]; rfl
  unfold placesF
  rw [e, List.filterMap_append]
  congr 1
theorem places_pre (us : List Sp) (pages align : Int) (k : Nat) : placesF (us.take k) pages align <+: placesF us pages align := by
  refine ⟨placesF (us.drop k) pages align, ?_⟩
  unfold placesF
  rw [← List.filterMap_append, List.take_append_drop]
end Go.Pol
namespace Go.Proofs.Ytmpakobfedgdbaa
open Go Go.Proofs Go.RowKit Go.Pol Go.Shelf
attribute [local go_sem] Oper.semAt_some Go.Pol.wide_fn Go.Pol.wide_depth Go.Pol.wide_fn' Go.Pol.wide_depth'

abbrev plV (x : Int × Sp) : Array Value := #[.int .i64 x.1, .agg #[.int .i64 x.2.1, .int .i64 x.2.2]]
end Go.Proofs.Ytmpakobfedgdbaa
namespace Go.Pol
open Go Go.RowKit
/-- what First answers -/
def headP (l : List (Int × Sp)) : Int × Int := match l with
  | [] => (0, 4)
  | x :: _ => (x.1, 0)
def firstF (us : List Sp) (pages align : Int) : Int × Int := if placeE us pages align = 0 then headP (placesF us pages align) else (0, placeE us pages align)
abbrev plA (x : Int × Sp) : Array Value := #[.int .i64 x.1, .agg #[.int .i64 x.2.1, .int .i64 x.2.2]]
/-- a loop over pairs whose first goes into a temporary -/
theorem rangeXP1 {P : Program} {g : Operand} {ps : Array Tmp} {assign body : Code} {Q : Exit → Act → World → Prop} {a : Act} {w : World} (ia pa pb : Nat)
    {gf : Nat} {lb : Array Value} (hg : a.eval g = .func (.func gf) #[] lb) (eg : ∀ args w, (callFunc gf args).run P w = .ok (.enter gf args) w)
    {T K : Nat → Prop} {xs : List (Int × Sp)} (hseq : SeqX P gf lb plA T K xs w) (hps : ps = #[pa, pb])
    (hT : ∀ k, T k → k < w.heap.size) (hK : ∀ k, K k → k < w.heap.size)
    (I : (Nat → Prop) → List (Int × Sp) → World → Prop) (Ix : Code → (Nat → Prop) → List (Int × Sp) → World → Prop)
    (hI : ∀ X pre A B, I X pre A → Far (fun k => T k ∨ X k ∨ k = w.heap.size ∨ k = w.heap.size + 1) A B → I X pre B)
    (hIx : ∀ c X pre A B, Ix c X pre A → Far (fun k => T k ∨ X k ∨ k = w.heap.size ∨ k = w.heap.size + 1) A B → Ix c X pre B)
    (hnew : ∀ X X' pre A, I X pre A → (∀ k, X' k → X k ∨ A.heap.size ≤ k) → I X' pre A)
    (h0 : I (fun _ => False) [] w)
    (hassign : ∀ (m l : Nat) (x : Int × Sp) (W : World) (C : Act → World → Prop),
      C { tmps := ((a.tmps.setIfInBounds pa (.int .i64 x.1)).setIfInBounds pb (.agg #[.int .i64 x.2.1, .int .i64 x.2.2])).setIfInBounds ia (.int .i64 x.1), defers := [] } W →
      assign.wpIn (Fence.wide.inRound l) m P (Exit.then C (fun _ _ _ => False)) { tmps := ((a.tmps.setIfInBounds pa (.int .i64 x.1)).setIfInBounds pb (.agg #[.int .i64 x.2.1, .int .i64 x.2.2])), defers := [] } W)
    (hbody : ∀ (m l : Nat) (X : Nat → Prop) (pre : List (Int × Sp)) (x : Int × Sp) (Wa W : World), w.heap.size + 2 ≤ W.heap.size → (∀ k, X k → k < Wa.heap.size ∧ k ≠ w.heap.size ∧ k ≠ w.heap.size + 1) → I X pre W → pre ++ [x] <+: xs →
      body.wpIn (Fence.wide.inRound l) m P (xPost w.heap.size K X I Ix (pre ++ [x]) W) { tmps := ((a.tmps.setIfInBounds pa (.int .i64 x.1)).setIfInBounds pb (.agg #[.int .i64 x.2.1, .int .i64 x.2.2])).setIfInBounds ia (.int .i64 x.1), defers := [] } W)
    (hdone : ∀ (X : Nat → Prop) (W : World), w.heap.size + 2 ≤ W.heap.size → I X xs W → W.heap[w.heap.size]? = some (.deferred (some [])) → Q .normal { a with defers := markOf w.heap.size :: a.defers } W)
    (hstop : ∀ (c : Code) (X : Nat → Prop) (pre : List (Int × Sp)) (W : World), w.heap.size + 2 ≤ W.heap.size → pre <+: xs → Ix c X pre W → W.heap[w.heap.size]? = some (.deferred (some [])) → c.wp P Q { a with defers := markOf w.heap.size :: a.defers } W) :
    (Code.rangeFunc g ps assign body).wp P Q a w := by
  subst hps
  refine rangeX hg eg hseq (fun _ => rfl) hT hK I Ix hI hIx hnew h0
    (fun _ x a' _ => a' = { tmps := ((a.tmps.setIfInBounds pa (.int .i64 x.1)).setIfInBounds pb (.agg #[.int .i64 x.2.1, .int .i64 x.2.2])).setIfInBounds ia (.int .i64 x.1), defers := [] })
    (fun _ _ _ _ _ h _ => h) ?_ ?_ hdone hstop
  · intro m l x W C hs hC
    have e : (#[pa, pb].zip (plA x)).foldl (fun t (p, v) => t.setIfInBounds p v) a.tmps = ((a.tmps.setIfInBounds pa (.int .i64 x.1)).setIfInBounds pb (.agg #[.int .i64 x.2.1, .int .i64 x.2.2])) := by simp [plA]
    rw [e]
    exact hassign m l x W C (hC _ _ (Far.refl _ W) rfl)
  · rintro m l X pre x a' Wa W hs hX hi rfl hpre _ _
    exact hbody m l X pre x Wa W hs hX hi hpre
/-- a loop over pairs whose first goes into a temporary, and whose second lies in a box -/
theorem rangeXP2 {P : Program} {g : Operand} {ps : Array Tmp} {assign body : Code} {Q : Exit → Act → World → Prop} {a : Act} {w : World} (ia ib pa pb : Nat) (tE : TypeId)
    {gf : Nat} {lb : Array Value} (hg : a.eval g = .func (.func gf) #[] lb) (eg : ∀ args w, (callFunc gf args).run P w = .ok (.enter gf args) w)
    {T K : Nat → Prop} {xs : List (Int × Sp)} (hseq : SeqX P gf lb plA T K xs w) (hps : ps = #[pa, pb])
    (hT : ∀ k, T k → k < w.heap.size) (hK : ∀ k, K k → k < w.heap.size)
    (I : (Nat → Prop) → List (Int × Sp) → World → Prop) (Ix : Code → (Nat → Prop) → List (Int × Sp) → World → Prop)
    (hI : ∀ X pre A B, I X pre A → Far (fun k => T k ∨ X k ∨ k = w.heap.size ∨ k = w.heap.size + 1) A B → I X pre B)
    (hIx : ∀ c X pre A B, Ix c X pre A → Far (fun k => T k ∨ X k ∨ k = w.heap.size ∨ k = w.heap.size + 1) A B → Ix c X pre B)
    (hnew : ∀ X X' pre A, I X pre A → (∀ k, X' k → X k ∨ A.heap.size ≤ k) → I X' pre A)
    (h0 : I (fun _ => False) [] w)
    (hassign : ∀ (m l : Nat) (x : Int × Sp) (W : World) (C : Act → World → Prop),
      C { tmps := (((a.tmps.setIfInBounds pa (.int .i64 x.1)).setIfInBounds pb (.agg #[.int .i64 x.2.1, .int .i64 x.2.2])).setIfInBounds ia (.int .i64 x.1)).setIfInBounds ib (.pointer (some ⟨W.heap.size, 0, none⟩)), defers := [] } (W.alloc (.cells #[.int .i64 x.2.1, .int .i64 x.2.2] tE)) →
      assign.wpIn (Fence.wide.inRound l) m P (Exit.then C (fun _ _ _ => False)) { tmps := ((a.tmps.setIfInBounds pa (.int .i64 x.1)).setIfInBounds pb (.agg #[.int .i64 x.2.1, .int .i64 x.2.2])), defers := [] } W)
    (hbody : ∀ (m l : Nat) (X : Nat → Prop) (pre : List (Int × Sp)) (x : Int × Sp) (Bx : Nat) (Wa W : World), w.heap.size + 2 ≤ W.heap.size → (∀ k, X k → k < Wa.heap.size ∧ k ≠ w.heap.size ∧ k ≠ w.heap.size + 1) → I X pre W → pre ++ [x] <+: xs → w.heap.size + 2 ≤ Bx → Blk W Bx tE #[.int .i64 x.2.1, .int .i64 x.2.2] → Wa.heap.size ≤ Bx →
      body.wpIn (Fence.wide.inRound l) m P (xPost w.heap.size K X I Ix (pre ++ [x]) W) { tmps := (((a.tmps.setIfInBounds pa (.int .i64 x.1)).setIfInBounds pb (.agg #[.int .i64 x.2.1, .int .i64 x.2.2])).setIfInBounds ia (.int .i64 x.1)).setIfInBounds ib (.pointer (some ⟨Bx, 0, none⟩)), defers := [] } W)
    (hdone : ∀ (X : Nat → Prop) (W : World), w.heap.size + 2 ≤ W.heap.size → I X xs W → W.heap[w.heap.size]? = some (.deferred (some [])) → Q .normal { a with defers := markOf w.heap.size :: a.defers } W)
    (hstop : ∀ (c : Code) (X : Nat → Prop) (pre : List (Int × Sp)) (W : World), w.heap.size + 2 ≤ W.heap.size → pre <+: xs → Ix c X pre W → W.heap[w.heap.size]? = some (.deferred (some [])) → c.wp P Q { a with defers := markOf w.heap.size :: a.defers } W) :
    (Code.rangeFunc g ps assign body).wp P Q a w := by
  subst hps
  refine rangeX hg eg hseq (fun _ => rfl) hT hK I Ix hI hIx hnew h0
    (fun N x a' W => ∃ Bx, N ≤ Bx ∧ w.heap.size + 2 ≤ Bx ∧ Blk W Bx tE #[.int .i64 x.2.1, .int .i64 x.2.2] ∧ a' = { tmps := (((a.tmps.setIfInBounds pa (.int .i64 x.1)).setIfInBounds pb (.agg #[.int .i64 x.2.1, .int .i64 x.2.2])).setIfInBounds ia (.int .i64 x.1)).setIfInBounds ib (.pointer (some ⟨Bx, 0, none⟩)), defers := [] })
    (fun N x a' A B ⟨Bx, h0, h1, h2, h3⟩ hf => ⟨Bx, h0, h1, hf.blk h2 (by omega), h3⟩) ?_ ?_ hdone hstop
  · intro m l x W C hs hC
    have e : (#[pa, pb].zip (plA x)).foldl (fun t (p, v) => t.setIfInBounds p v) a.tmps = ((a.tmps.setIfInBounds pa (.int .i64 x.1)).setIfInBounds pb (.agg #[.int .i64 x.2.1, .int .i64 x.2.2])) := by simp [plA]
    rw [e]
    exact hassign m l x W C (hC _ _ ((Far.refl _ W).alloc _) ⟨W.heap.size, Nat.le_refl _, hs, Blk.new _ _ _, rfl⟩)
  · rintro m l X pre x a' Wa W hs hX hi ⟨Bx, h0, h1, h2, rfl⟩ hpre _ _
    exact hbody m l X pre x Bx Wa W hs hX hi hpre h1 h2 h0
end Go.Pol
namespace Go.Proofs.Ytmpakobfedgdbaa
open Go Go.Proofs Go.RowKit Go.Pol Go.Shelf
attribute [local go_sem] Oper.semAt_some Go.Pol.wide_fn Go.Pol.wide_depth Go.Pol.wide_fn' Go.Pol.wide_depth'

end Go.Proofs.Ytmpakobfedgdbaa
namespace Go.Pol
open Go Go.RowKit
/-- one place more for Best -/
def stB (s : Int × Int) (x : Int × Sp) : Int × Int := if x.2.2 < s.2 then (x.1, x.2.2) else s
def bestG (l : List (Int × Sp)) : Int × Int := l.foldl stB (-1, 1025)
def endB (s : Int × Int) : Int × Int := if s.1 < 0 then (0, 4) else (s.1, 0)
/-- what Best answers -/
def bestF (us : List Sp) (pages align : Int) : Int × Int := if placeE us pages align = 0 then endB (bestG (placesF us pages align)) else (0, placeE us pages align)
/-- a region in a loop's body that draws its order and makes no call: as in a function's own code -/
theorem wpOpIn_round {P : Program} {ops : Array Oper} {Q : Exit → Act → World → Prop} {l m i : Nat} {K : Act → World → Prop} {a : Act} {w : World} (hd : ∀ o : Oper, ops[i]? = some o → ∀ c, o.op ≠ .defer c) (hno : ¬ LetsOut Q)
    (h : wpOp P ops Q i K a w) : wpOpIn (Fence.wide.inRound l) m P ops Q i K a w := by
  unfold wpOp at h
  unfold wpOpIn
  split
  · rename_i ho; simpa only [ho] using h
  · rename_i o ho
    simp only [ho] at h
    split
    · rename_i hw
      simp only [hw, if_true] at h
      rcases h with h | ⟨_, h⟩
      · unfold Oper.wpIn
        refine ⟨fun _ _ => trivial, ?_⟩
        rw [Fence.inRound_round, Oper.semAt_some l _ _ (hd o ho)]
        unfold Oper.wp at h
        generalize (execOp a.eval o).run P w = r at *
        cases r with
        | ok x w' =>
          cases x <;> simp only [Oper.upon, Oper.uponIn] at h ⊢ <;> first
            | exact h
            | exact ⟨fun h0 => (by cases h0), (CallsIn.inRound l (callsIn_wide.2 h)).mono fun e w'' he => by cases e <;> exact he⟩
            | exact ⟨fun h0 => (by cases h0), fun c cs _ => let ⟨v, w'', r, s⟩ := h c cs; ⟨v, w'', r, stepsIn_wide.2 s⟩⟩
        | halt x w' => cases x <;> simp only [Oper.upon, Oper.uponIn] at h ⊢ <;> exact h
      · exact absurd h hno
    · rename_i hw
      simp only [hw] at h
      exact ⟨fun _ _ => trivial, h⟩
theorem wpAnyIn_round {P : Program} {ops : Array Oper} {Q : Exit → Act → World → Prop} {md : Region.Mode} {l m : Nat} (hd : ∀ (i : Nat) (o : Oper), ops[i]? = some o → ∀ c, o.op ≠ .defer c) (hno : ¬ LetsOut Q) :
    ∀ (fuel : Nat) (listed : Array Bool) (a : Act) (w : World), wpAny P md ops Q fuel listed a w → wpAnyIn (Fence.wide.inRound l) m P md ops Q fuel listed a w
  | 0, _, _, _, h => h
  | fuel + 1, _, _, _, h => ⟨h.1, fun i hi => wpOpIn_mono (fun a w h => wpAnyIn_round hd hno fuel _ a w h) (wpOpIn_round (hd i) hno (h.2 i hi))⟩
def noDefer (ops : Array Oper) : Bool := ops.all fun o => match o.op with
  | .defer _ => false
  | _ => true
theorem noDefer_spec {ops : Array Oper} (h : noDefer ops = true) (i : Nat) (o : Oper) (ho : ops[i]? = some o) (c : Call) : o.op ≠ .defer c := fun e => by
  have := (Array.all_eq_true_iff_forall_mem.1 h) o (Array.mem_of_getElem? ho)
  rw [e] at this
  cases this
theorem wpIn_region_T {P : Program} {ops : Array Oper} {Q : Exit → Act → World → Prop} {id l m : Nat} {a : Act} {w : World} (S : World → Prop) (tl : List Nat) (hm : P.follows .mixedOrders = true) (hd : noDefer ops = true) (hno : ¬ LetsOut Q)
    (h : wpAnyT P .any ops Q S tl ops.size (Array.replicate ops.size false) a w.drew) : (Code.region id ops true).wpIn (Fence.wide.inRound l) m P Q a w :=
  wpIn_region_any hm (wpAnyIn_round (noDefer_spec hd) hno _ _ _ _ (wpAny_of_T _ _ _ _ h))
theorem wpIn_noPanic {F : Fence} {m : Nat} {P : Program} {c : Code} {Q : Exit → Act → World → Prop} {a : Act} {w : World} (h : c.wpIn F m P (noPanic Q) a w) : c.wpIn F m P Q a w :=
  wpIn_mono h (fun e a w h => by cases e <;> first | exact h.elim | exact h)
/-- what the region in the loop of 'Best' reads -/
def BestS (Bx : Nat) (xb : Int) (w : Go.World) : Prop := w.cell? ⟨Bx, 1, none⟩ = some (.int .i64 xb) ∧ True
theorem bestG_snoc (l : List (Int × Sp)) (x : Int × Sp) : bestG (l ++ [x]) = stB (bestG l) x := by simp [bestG]
end Go.Pol
namespace Go.Proofs.Ytmpakobfedgdbaa
open Go Go.Proofs Go.RowKit Go.Pol Go.Shelf
attribute [local go_sem] Oper.semAt_some Go.Pol.wide_fn Go.Pol.wide_depth Go.Pol.wide_fn' Go.Pol.wide_depth'

end Go.Proofs.Ytmpakobfedgdbaa
