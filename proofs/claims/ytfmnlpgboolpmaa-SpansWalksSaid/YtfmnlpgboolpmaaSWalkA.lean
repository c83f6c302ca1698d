/- Walks: slices.Clone of spans, Of; the reference's Marks and Of. -/
import Derived.Test.YtfmnlpgboolpmaaGWalkZ
import Derived.Test.YtfmnlpgboolpmaaGWalkK
import Derived.Test.YtfmnlpgboolpmaaSSpecA
namespace Go.Pol
open Go Go.RowKit
theorem MarksAre.congr {cs : Array Value} {f g : Nat → Bool} (h : MarksAre cs f) (hg : ∀ k, k < 1024 → f k = g k) : MarksAre cs g :=
  ⟨h.size, fun k hk => by rw [← hg k hk]; exact h.at_ k hk⟩
theorem MarksAre.one {cs : Array Value} {f : Nat → Bool} (h : MarksAre cs f) : cs.all (·.oneCell') = true := by
  rw [Array.all_eq_true]
  intro i hi
  have := h.at_ i (by rw [← h.size]; exact hi)
  rw [Array.getElem?_eq_getElem hi] at this
  cases this' : cs[i] <;> simp_all [Value.oneCell']
theorem below_setCells {s : Nat} {w : World} (b : Nat) (hb : s ≤ b) : ∀ (vs : List Value) (o : Nat) (W : World), Below s w W → Below s w (W.setCells b o vs)
  | [], _, _, h => h
  | v :: vs, o, _, h => below_setCells b hb vs (o + 1) _ (h.setCell (p := ⟨b, o, none⟩) hb v)
theorem results_cell {P : Program} {fn : Func} {a : Tmp} {t : TypeId} {tmps : Array Value} {w : World} {v : Value} {p : Addr} (h : fn.results = #[.cell a t]) (ha : tmps.getD a undef = .pointer (some p)) (hl : (loadVar t p).run P w = .ok v w) :
    (results fn tmps).run P w = .ok v w := by
  have ha' : tmps[a]?.getD undef = .pointer (some p) := by rw [← ha, Array.getD_eq_getD_getElem?]
  simp [results, h, ha', asAddr, hl]
theorem blk_there {w : World} {g : Nat} {t : TypeId} {cs : Array Value} (h : Blk w g t cs) : w.there g 0 cs.size := fun j hj => by
  rw [Nat.zero_add]
  exact ⟨by rw [h.cell]; simp [hj], h.frozen j⟩
end Go.Pol
namespace Go.Proofs.Ytfmnlpgboolpmaa
open Go Go.Proofs Go.RowKit Go.Pol Go.Shelf

set_option maxHeartbeats 800000 in
theorem clone_any (A : Option Addr) (n cap : Nat) (us : List Sp) (w : World) (hn : us.length = n) (hm : n ≤ 1000000) (hr : RU w w.heap.size A us) :
    Calls Try.prog 90 #[.slice A n cap] w fun e w' => ∃ v, e = .returned v ∧ w'.ownsRow w.heap.size 40 2 v n (spCells us) ∧ Below w.heap.size w w' := by
  obtain ⟨i0, hi, hy0, hy1, hy2⟩ := infoSp_parts
  have h1 := Lib.hid hn
  clear hn
  have q36 : ∀ (w : World) (a : Option Addr) (n c n' c' : Nat), (binOp .eql 36 (.slice a n c) (.slice none n' c')).run Try.prog w = .ok (.bool a.isNone) w := fun w a n c n' c' => Lib.run_eql_slice_nil w _ _ a n c n' c' Try.underlying36
  have hb0 := (Below.refl w.heap.size w).alloc (Nat.le_refl _) (.cells #[] 40)
  have hsrc := ru_src (hr.on ((Below.refl w.heap.size w).alloc (Nat.le_refl _) (.cells #[] 40)))
  have hown : (w.alloc (.cells #[] 40)).ownsRow w.heap.size 40 2 (.slice (some ⟨w.heap.size, 0, none⟩) 0 0) 0 [] := World.ownsRow_made w #[] 0 (Nat.le_refl _) (Nat.zero_le _) (by simp)
  rcases hsrc with ⟨rfl, rfl⟩ | ⟨ad, rfl, hnews⟩
  · have hn0 : n = 0 := h1.out.symm
    subst hn0
    go_enter Try.func90, Try.ntmps90
    go_wp2_with fail
    go_ret
    exact ⟨_, rfl, World.ownsRow_nil _ _ _ _, Below.refl _ _⟩
  · go_enter Try.func90, Try.ntmps90
    go_wp2_with (refine wpList_append_own _ rfl (.tmp 5) (.tmp 6) 36 rfl w.heap.size 40 i0 (.agg #[.int .i64 0, .int .i64 0]) 2 16 Try.underlying36 hi hy0 hy1 hy2 rfl (by decide) _ 0 [] rfl hown ad n cap (spCells us) rfl (by rw [spCells_len, h1.out]) hnews (spCells_one us) (by unfold maxLen; omega) (by omega) (by simp) ?_; intro v' w3 hown' hgrow _)
    go_ret
    rw [Nat.zero_add, List.nil_append] at hown'
    exact ⟨_, rfl, hown', hb0.grown hgrow (by simp) (fun j hj => (hown.lt j hj).1)⟩

set_option maxHeartbeats 800000 in
theorem ofTop_any (A : Option Addr) (n cap : Nat) (us : List Sp) (w : World) (hn : us.length = n) (hm : n ≤ maxLen) (hr : RU w w.heap.size A us) :
    Calls Try.prog 40 #[.slice A n cap] w (SpansOwn w (if ofE us = 0 then setOf us else []) (ofE us)) := by
  have HC := Lib.hid (containsFunc_any A n cap us w hn hm hr)
  by_cases hlen : 2000 < n
  · have hlen' : decide (2000 < (n : Int)) = true := by simp; omega
    have hE : ofE us = 3 := by unfold ofE; rw [if_pos (by omega)]
    rw [hE, if_neg (by decide)]
    clear hE
    go_enter Try.func40, Try.ntmps40
    go_wp2_with fail
    go_ret2
    exact ⟨none, 0, rfl, RU.nil, by simp, by unfold maxLen; omega, fun b o e => (by cases e), Below.refl _ _, fun _ => rfl⟩
  have hlen' : decide (2000 < (n : Int)) = false := by simp; omega
  by_cases hall : us.all vld = true
  · have hE : ofE us = 0 := by unfold ofE; rw [if_neg (by omega), if_pos hall]
    have hv := (ofE_zero hE).2
    rw [hE, if_pos rfl]
    rw [hall] at HC
    have HK := Lib.hid (fun W h => clone_any A n cap us W hn (by omega) h)
    have HO := Lib.hid (fun base v W (h1 : base ≤ W.heap.size) (h2 : W.ownsRow base 40 2 v us.length (spCells us)) => of'_any base v us W hv (by omega) h1 h2)
    have hS := Lib.hid (fun (us' : List Sp) (h1 : us'.Perm us) h2 => ofF_setOf hv h1 h2)
    rw [hn] at HO
    clear hE hall hv hn
    go_enter Try.func40, Try.ntmps40
    go_wp2_with fail
    refine HC.out.mono ?_
    rintro e w1 ⟨rfl, hb1⟩
    go_wp2_with fail
    refine (HK.out _ (hr.on hb1)).mono ?_
    rintro e w2 ⟨v, rfl, hrow, hb2⟩
    have B2 := hb1.trans (hb2.mono hb1.size)
    go_wp2_with fail
    refine (HO.out _ _ _ hb2.size hrow).mono ?_
    rintro e w3 ⟨us', v', hp, hs, rfl, hrow3, hb3⟩
    rw [hS.out us' hp hs] at hrow3
    obtain ⟨A3, cap3, rfl, hru, h1, h2, h3, _⟩ := own_RU hrow3 rfl
    go_wp2_with fail
    go_ret2
    exact ⟨A3, cap3, rfl, hru, h1, h2, fun b o e => by have := h3 b o e; have := B2.size; omega, B2.trans (hb3.mono hb1.size), own_cap hrow3⟩
  · have hE : ofE us = 7 := by unfold ofE; rw [if_neg (by omega), if_neg hall]
    have hall' : us.all vld = false := by simpa using hall
    rw [hE, if_neg (by decide)]
    rw [hall'] at HC
    clear hE hall hall'
    go_enter Try.func40, Try.ntmps40
    go_wp2_with fail
    refine HC.out.mono ?_
    rintro e w1 ⟨rfl, hb1⟩
    go_wp2_with fail
    go_ret2
    exact ⟨none, 0, rfl, RU.nil, by simp, by unfold maxLen; omega, fun b o e => (by cases e), hb1, fun _ => rfl⟩

theorem marks_step (us : List Sp) (k : Nat) (hk : k < us.length) (p : Int) : mem p (us.take (k + 1)) = (mem p (us.take k) || decide ((us.getD k (0,0)).1 ≤ p ∧ p < (us.getD k (0,0)).1 + (us.getD k (0,0)).2)) := by
  rw [take_snoc us k hk, mem_append, mem_cons, mem_nil, Bool.or_false]
  congr 1
  rw [Bool.eq_iff_iff]; simp

set_option maxRecDepth 100000 in
set_option maxHeartbeats 1600000 in
theorem marks_any (A : Option Addr) (n cap : Nat) (us : List Sp) (w : World) (hn : us.length = n) (hm : n ≤ 1000000) (hr : RU w w.heap.size A us) (hv : ∀ x ∈ us, vld x = true) :
    Calls Try.prog 92 #[.slice A n cap] w fun e w' => ∃ cs, e = .returned (.agg cs) ∧ MarksAre cs (fun k => mem (k : Int) us) ∧ Below w.heap.size w w' := by
  obtain ⟨s, hs⟩ : ∃ s, w.heap.size = s := ⟨_, rfl⟩
  obtain ⟨W0, hW0⟩ : ∃ W0, (w.alloc (.cells Try.zeroCells103 103)).alloc (.cells Try.zeroCells103 103) = W0 := ⟨_, rfl⟩
  have hb0 : Below s w W0 := by rw [← hW0, ← hs]; exact ((Below.refl w.heap.size w).alloc (Nat.le_refl _) _).alloc (by simp) _
  have kR : Blk W0 s 103 Try.zeroCells103 := by rw [← hW0, ← hs]; exact (Blk.new _ _ _).alloc _
  have kM : Blk W0 (s + 1) 103 Try.zeroCells103 := by
    have := Blk.new (w.alloc (.cells Try.zeroCells103 103)) 103 Try.zeroCells103
    rw [World.size_alloc, hs, hW0] at this; exact this
  have hZ := zeros_are
  have hW1 := Lib.hid hW0
  have hn' := Lib.hid hn
  have hv' := Lib.hid hv
  rw [hs] at hr
  clear hW0 hn hv
  go_enter Try.func92, Try.ntmps92
  go_upto_region 2 with fail
  try simp only [Nat.add_assoc, Nat.reduceAdd]
  try rw [hs]
  rw [hW1.out]
  generalize Try.zeroCells103 = Z at *
  clear hW1
  go_wp2_with fail
  go_loopw [4] (fun i wr => ∃ (k : Nat) (cs : Array Value), k ≤ n ∧ i = .int .i64 k ∧ Blk wr s 103 Z ∧ Blk wr (s + 1) 103 cs ∧ MarksAre cs (fun p => mem (p : Int) (us.take k)) ∧ Below s w wr) (fun i _ => n - (intOf i).toNat)
  case atStart => exact ⟨0, Z, by omega, rfl, kR, kM, hZ.congr (fun k _ => by simp [mem_nil]), hb0⟩
  case round =>
    obtain ⟨k, cs, hk, rfl, kR, kM, hM, hB⟩ := hrel
    by_cases hlt : k < n
    · have hlt' : decide ((k : Int) < (n : Int)) = true := by simpa using hlt
      obtain ⟨b, o, rfl, hbl, hcw, hdw⟩ := RU.at_' hr (k := k) (by have := hn'.out; omega)
      have hvx := vld_iff.1 (hv'.out (us.getD k (0,0)) (by rw [List.getD_eq_getElem?_getD, List.getElem?_eq_getElem (by have := hn'.out; omega)]; simp))
      have hst := Lib.hid (marks_step us k (by have := hn'.out; omega))
      generalize us.getD k (0,0) = x at *
      obtain ⟨xa, xb⟩ := x
      dsimp only at hcw hdw hvx hst
      have hc := (hB.cell (p := ⟨b, o + k * 2, none⟩) hbl).trans hcw
      go_wp2_with fail
      go_loopw [5] (fun p wr => ∃ (j : Nat) (cs : Array Value), (j : Int) ≤ xb ∧ p = .int .i64 (xa + j) ∧ Blk wr s 103 Z ∧ Blk wr (s + 1) 103 cs ∧ MarksAre cs (fun q => mem (q : Int) (us.take k) || decide (xa ≤ (q : Int) ∧ (q : Int) < xa + j)) ∧ Below s w wr) (fun p _ => (xa + xb - intOf p).toNat)
      case atStart => exact ⟨0, cs, by omega, by simp, kR, kM, hM.congr (fun p _ => by rw [decide_eq_false (by omega), Bool.or_false]), hB⟩
      case round =>
        clear hM kM kR hc hB
        obtain ⟨j, cs, hj, rfl, kR, kM, hM, hB⟩ := hrel
        have hBs := hB.size
        have hc := (hB.cell (p := ⟨b, o + k * 2, none⟩) hbl).trans hcw
        have hd := (hB.cell (p := ⟨b, o + k * 2 + 1, none⟩) hbl).trans hdw
        have e1 := fun z : Ext wr => z.cell hc
        have e2 := fun z : Ext wr => z.cell hd
        by_cases hjx : (j : Int) < xb
        · have hj' : decide (xa + (j : Int) < xa + xb) = true := by simp; omega
          have hmm := Lib.hid (hM.set (g := fun q => mem (q : Int) (us.take k) || decide (xa ≤ (q : Int) ∧ (q : Int) < xa + (j + 1 : Nat))) (xa + j).toNat (by omega) true (by
            have e : (((xa + (j : Int)).toNat : Nat) : Int) = xa + j := by omega
            simp only [e]
            rw [decide_eq_true (by omega), Bool.or_true]) (fun q hq => by
            congr 1
            exact decide_eq_decide.2 (by omega)))
          have hold := hM.at_ (xa + j).toNat (by omega)
          generalize (mem (((xa + (j : Int)).toNat : Nat) : Int) (us.take k) || decide (xa ≤ (((xa + (j : Int)).toNat : Nat) : Int) ∧ (((xa + (j : Int)).toNat : Nat) : Int) < xa + j)) = B0 at hold
          go_upto_region 6 with fail
          refine region_ext (by kernel_rfl) (by kernel_rfl) ?_
          repeat (go_big_quiet_step (fail))
          refine wpQuiet_nil ?_
          rintro w2 ⟨⟨_, hw2⟩, rfl⟩
          have kM2 := kM.call hw2
          have kR2 := kR.call hw2
          have hB2 := hB.trans (hw2.mono (by omega))
          have fM2 := kM2.frozen
          have cM2 : w2.cell? ⟨s + 1, (xa + (j : Int)).toNat, none⟩ = some (.bool B0) := (kM2.cell _).trans hold
          have hf4 : Far (fun k => k = s + 1) w2 (w2.setCell ⟨s + 1, (xa + (j : Int)).toNat, none⟩ (.bool true)) := Far.setCell (T := fun k => k = s + 1) (p := ⟨s + 1, (xa + (j : Int)).toNat, none⟩) (Far.refl _ _) (fun _ => rfl) _
          go_wp2_with fail
          go_roundw
          case rel => exact ⟨j + 1, _, by omega, by go_num, hf4.blk kR2 (by omega), kM2.set_ _ _, hmm.out, hB2.trans (hf4.below (by have := hB2.size; omega) (fun k hk => by omega))⟩
          case measure => simp [intOf]; omega
        · have hj' : decide (xa + (j : Int) < xa + xb) = false := by simp; omega
          have hjx2 : (j : Int) = xb := by omega
          have hM2 := hM.congr (g := fun p => mem (p : Int) (us.take (k + 1))) (fun p _ => by rw [hst.out, hjx2])
          go_upto_region 6 with fail
          refine region_ext (by kernel_rfl) (by kernel_rfl) ?_
          repeat (go_big_quiet_step (fail))
          refine wpQuiet_nil ?_
          rintro w2 ⟨⟨_, hw2⟩, rfl⟩
          have kM2 := kM.call hw2
          have kR2 := kR.call hw2
          have hB2 := hB.trans (hw2.mono (by omega))
          go_wp2_with fail
          go_roundw
          case rel => exact ⟨k + 1, cs, by omega, by go_num, kR2, kM2, hM2, hB2⟩
          case measure => simp [intOf]; omega
    · have hlt' : decide ((k : Int) < (n : Int)) = false := by simp; omega
      have hkn : k = us.length := by have := hn'.out; omega
      have hMe := hM.congr (g := fun p => mem (p : Int) us) (fun p _ => by rw [hkn, List.take_length])
      have hsz := hM.size
      have hth := blk_there kR
      have hzs := hZ.size
      have hone := hM.one
      go_wp2_with (first
        | (refine wpList_load_mid rfl 103 (.tmp 3) rfl (s + 1) 0 rfl cs.toList _ (rangeAt_blk kM) Try.underlying103 rfl (by rw [Array.length_toList, hsz]; kernel_rfl) ?_; rw [Array.toArray_toList])
        | (refine wpList_store_mid rfl 103 (.tmp 2) (.tmp 34) rfl s 0 cs rfl rfl (by rw [hsz, ← hzs]; exact hth) (by rw [hsz]; kernel_rfl) hone ?_))
      have hrg := World.rangeAt_setCells_same wr s 0 cs.toList (by rw [Array.length_toList, hsz, ← hzs]; exact hth)
      have hB9 := below_setCells s (Nat.le_refl _) cs.toList 0 wr hB
      generalize wr.setCells s 0 cs.toList = w9 at *
      have hld := run_loadVar_mid (P := Try.prog) w9 s 0 103 cs.toList _ hrg Try.underlying103 rfl (by rw [Array.length_toList, hsz]; kernel_rfl)
      rw [Array.toArray_toList] at hld
      exact bodyPost_ret (v := .agg cs) (results_cell rfl rfl hld) rfl ⟨cs, rfl, hMe, by rw [hs]; exact hB9⟩

set_option maxHeartbeats 1600000 in
theorem refOf_any (A : Option Addr) (n cap : Nat) (us : List Sp) (w : World) (hn : us.length = n) (hm : n ≤ maxLen) (hr : RU w w.heap.size A us) :
    Calls Try.prog 41 #[.slice A n cap] w (SpansR w (if ofE us = 0 then setOf us else []) (ofE us)) := by
  unfold maxLen at hm
  by_cases hlen : 2000 < n
  · have hlen' : decide (2000 < (n : Int)) = true := by simp; omega
    have hE : ofE us = 3 := by unfold ofE; rw [if_pos (by omega)]
    rw [hE, if_neg (by decide)]
    clear hE
    go_enter Try.func41, Try.ntmps41
    go_wp2_with fail
    go_ret2
    exact ⟨none, 0, rfl, RU.nil, by simp, by unfold maxLen; omega, fun b o e => (by cases e), Below.refl _ _⟩
  have hlen' : decide (2000 < (n : Int)) = false := by simp; omega
  have hE : Hid (ofE us = if us.all vld = true then 0 else 7) := Lib.hid (by unfold ofE; rw [if_neg (by omega)])
  have hn' := Lib.hid hn
  have HM := Lib.hid (fun W h hv => marks_any A n cap us W hn (by omega) h hv)
  clear hn
  obtain ⟨er, her⟩ : ∃ er, ofE us = er := ⟨_, rfl⟩
  obtain ⟨S, hS⟩ : ∃ S, (if er = 0 then setOf us else []) = S := ⟨_, rfl⟩
  rw [her] at hE ⊢
  rw [hS]
  have hS' := Lib.hid hS
  clear hS her
  go_enter Try.func41, Try.ntmps41
  go_wp2_with fail
  go_loopw [4] (fun i wr => ∃ (k : Int), 0 ≤ k ∧ k ≤ n ∧ i = .int .i64 k ∧ Below w.heap.size w wr ∧ Hid (∀ j : Nat, (j : Int) < k → j < us.length → vld (us.getD j (0,0)) = true)) (fun i _ => n - (intOf i).toNat)
  case atStart => exact ⟨0, by omega, by omega, rfl, Below.refl _ _, Lib.hid (fun j hj => absurd hj (by omega))⟩
  case round =>
    obtain ⟨k, hk0, hk, rfl, hB, hL⟩ := hrel
    by_cases hlt : k < n
    · have hlt' : decide (k < (n : Int)) = true := by simpa using hlt
      obtain ⟨b, o, rfl, _, hc, hd⟩ := RU.at_' (hr.below hB) (k := k.toNat) (by have := hn'.out; omega)
      generalize hu : us.getD k.toNat (0,0) = u at *
      have hu' := Lib.hid hu; clear hu
      obtain ⟨x, y⟩ := u
      dsimp only at hc hd
      by_cases hv : vld (x, y) = true
      · have hv' : (!vld (x, y)) = false := by simp [hv]
        go_wp2_with (go_at_call 79; refine (valid_any _ _ _).mono ?_; rintro e w1 ⟨rfl, hq⟩)
        have hB1 := hB.trans (hq.mono hB.size)
        go_roundw
        case rel =>
          refine ⟨k+1, by omega, by omega, rfl, hB1, Lib.hid (fun j hj hl => ?_)⟩
          by_cases hjk : (j : Int) < k
          · exact hL.out j hjk hl
          · obtain rfl : j = k.toNat := by omega
            rw [hu'.out]; exact hv
        case measure => simp [intOf]; omega
      · have hv' : (!vld (x, y)) = true := by simpa using hv
        have hER : Hid (er = 7) := Lib.hid (by
          have hb := badAt_at us k.toNat (fun j h1 h2 => hL.out j (by omega) h2) (by have := hn'.out; omega) (by rw [hu'.out]; simpa using hv)
          rw [hE.out, if_neg]
          intro hh
          have := (badAt_all us).2 hh
          have := hn'.out
          omega)
        have hSE : Hid (S = []) := Lib.hid (by rw [← hS'.out, hER.out, if_neg (by decide)])
        clear hv
        go_wp2_with (go_at_call 79; refine (valid_any _ _ _).mono ?_; rintro e w1 ⟨rfl, hq⟩)
        go_ret2
        rw [hER.out, hSE.out]
        exact ⟨none, 0, rfl, RU.nil, by simp, by unfold maxLen; omega, fun b o e => (by cases e), hB.trans (hq.mono hB.size)⟩
    · have hlt' : decide (k < (n : Int)) = false := by simp; omega
      have hA : us.all vld = true := by rw [← badAt_all]; exact badAt_end us (fun j h2 => hL.out j (by have := hn'.out; omega) h2)
      have hER : Hid (er = 0) := Lib.hid (by rw [hE.out, if_pos hA])
      have hSE : Hid (S = setOf us) := Lib.hid (by rw [← hS'.out, hER.out, if_pos rfl])
      have hvv := List.all_eq_true.1 hA
      have HM2 := Lib.hid (fun W h => HM.out W h hvv)
      clear hA hvv HM hL
      go_wp2_with fail
      refine (HM2.out _ (hr.on hB)).mono ?_
      rintro e w1 ⟨cs, rfl, hMA, hb1⟩
      have B1 := hB.trans (hb1.mono hB.size)
      have HS := Lib.hid (refSet_any cs _ w1 hMA)
      go_wp2_with fail
      refine HS.out.mono ?_
      rintro e w2 ⟨A2, cap2, rfl, hru, h1, h2, h3, hq2⟩
      go_wp2_with fail
      go_ret2
      rw [hER.out, hSE.out]
      exact ⟨A2, cap2, rfl, hru, h1, h2, fun b o e => by have := h3 b o e; have := B1.size; omega, B1.trans (hq2.mono B1.size)⟩
end Go.Proofs.Ytfmnlpgboolpmaa
