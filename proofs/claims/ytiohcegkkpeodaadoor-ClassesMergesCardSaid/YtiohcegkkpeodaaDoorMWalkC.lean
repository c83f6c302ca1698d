/- Walk: the program's Merge of two usages. -/
import Derived.Test.YtiohcegkkpeodaaDoorMWalkB
import Derived.Test.YtiohcegkkpeodaaDoorWalkB
namespace Go.Pol
open Go Go.RowKit
theorem spCells_set (r : List Sp) (x : Sp) (y : Int) : (spCells (r ++ [x])).set (r.length * 2 + 1) (.int .i64 y) = spCells (r ++ [(x.1, y)]) := by
  rw [spCells_snoc, spCells_snoc]
  have : r.length * 2 + 1 = (spCells r).length + 1 := by rw [spCells_len]
  rw [this, List.set_append_right _ _ (by omega)]
  simp
end Go.Pol
namespace Go.Proofs.YtiohcegkkpeodaaDoor
open Go Go.Proofs Go.RowKit Go.Pol

theorem idx_ex (a b : Value) (W : World) : (Instr.index 61 (.agg #[a, b]) (.int .i64 0)).run Tryd.prog W = .ok a W ∧ (Instr.index 61 (.agg #[a, b]) (.int .i64 1)).run Tryd.prog W = .ok b W := by
  have u := Tryd.underlying61
  have a3 := Tryd.isAgg31
  have z3 := Tryd.sizeOf31
  unfold Instr.index
  simp only [Sem.run_bind, run_underlying u, Result.andThen_ok]
  constructor <;> simp [part, asAgg, asIntOf, a3, z3, Result.andThen]
def MergeR (r : List (Int × Int) × Int) (w : World) (e : Ending) (w' : World) : Prop := ∃ (A : Option Addr) (cap : Nat), e = .returned (.tuple #[.slice A r.1.length cap, .int .i64 r.2]) ∧ RU w' w'.heap.size A r.1 ∧ r.1.length ≤ cap ∧ cap ≤ maxLen ∧ Below w.heap.size w w'
theorem mergeR_err {w w' : World} {c : Int} (hb : Below w.heap.size w w') : MergeR ([], c) w (.returned (.tuple #[.slice none 0 0, .int .i64 c])) w' := ⟨none, 0, rfl, RU.nil, Nat.le_refl _, by unfold maxLen; omega, hb⟩
set_option maxHeartbeats 1600000 in
set_option maxRecDepth 100000 in
theorem mergeErr_any (A1 A2 : Option Addr) (n1 c1 n2 c2 : Nat) (us vs : List (Int × Int)) (w : World) (hn1 : us.length = n1) (hm1 : n1 ≤ maxLen) (hr1 : RU w w.heap.size A1 us) (hn2 : vs.length = n2) (hm2 : n2 ≤ maxLen) (hr2 : RU w w.heap.size A2 vs) (hbad : ¬ (chkU us = 0 ∧ chkU vs = 0)) :
    Calls Tryd.prog 13 #[.slice A1 n1 c1, .slice A2 n2 c2] w (MergeR (mergeT us vs) w) := by
  have hx0 := fun W => (idx_ex (.slice A1 n1 c1) (.slice A2 n2 c2) W).1
  have hx1 := fun W => (idx_ex (.slice A1 n1 c1) (.slice A2 n2 c2) W).2
  have HU := Lib.hid (fun W (h : RU W W.heap.size A1 us) => checkUse_any A1 n1 c1 us W hn1 hm1 h)
  have HV := Lib.hid (fun W (h : RU W W.heap.size A2 vs) => checkUse_any A2 n2 c2 vs W hn2 hm2 h)
  by_cases h1 : chkU us = 0
  · have h2 : chkU vs ≠ 0 := fun h => hbad ⟨h1, h⟩
    have hE : Hid (mergeT us vs = ([], chkU vs)) := Lib.hid (by unfold mergeT; rw [if_pos h1, if_neg h2])
    have h1' : (chkU us != 0) = false := by simp [h1]
    have h2' : (chkU vs != 0) = true := by simpa using h2
    clear h1 h2 hbad hn1 hn2
    generalize mergeT us vs = R at *
    generalize chkU us = cu at *
    generalize chkU vs = cv at *
    go_enter Tryd.func13, Tryd.ntmps13
    go_wp2_with fail
    go_loopw [18] (fun i wr => (i = .int .i64 0 ∧ wr = w) ∨ (i = .int .i64 1 ∧ Below w.heap.size w wr)) (fun i _ => 2 - (intOf i).toNat)
    case atStart => exact .inl ⟨rfl, rfl⟩
    case round =>
      rcases hrel with ⟨rfl, hw⟩ | ⟨rfl, hB⟩
      · have hw' := hw.symm
        clear hw
        subst hw'
        go_wp2_with fail
        refine (HU.out _ hr1).mono ?_
        rintro e w1 ⟨rfl, hb1⟩
        go_wp2_with fail
        go_roundw
        case rel => exact .inr ⟨rfl, hb1⟩
        case measure => simp [intOf]
      · go_wp2_with fail
        refine (HV.out _ ((hr2.below hB).more hB.size)).mono ?_
        rintro e w1 ⟨rfl, hb1⟩
        go_wp2_with fail
        go_ret2
        rw [hE.out]
        exact mergeR_err (hB.trans (hb1.mono hB.size))
  · have hE : Hid (mergeT us vs = ([], chkU us)) := Lib.hid (by unfold mergeT; rw [if_neg h1])
    have h1' : (chkU us != 0) = true := by simpa using h1
    clear h1 hbad hn1 hn2 HV
    generalize mergeT us vs = R at *
    generalize chkU us = cu at *
    go_enter Tryd.func13, Tryd.ntmps13
    go_wp2_with fail
    go_loopw [18] (fun i wr => i = .int .i64 0 ∧ wr = w) (fun i _ => 2 - (intOf i).toNat)
    case atStart => exact ⟨rfl, rfl⟩
    case round =>
      obtain ⟨rfl, hw⟩ := hrel
      have hw' := hw.symm
      clear hw
      subst hw'
      go_wp2_with fail
      refine (HU.out _ hr1).mono ?_
      rintro e w1 ⟨rfl, hb1⟩
      go_wp2_with fail
      go_ret2
      rw [hE.out]
      exact mergeR_err hb1

theorem take_snoc' (us : List (Int × Int)) (k : Nat) (h : k < us.length) : us.take (k + 1) = us.take k ++ [us.getD k (0,0)] := by
  rw [List.take_add_one, List.getElem?_eq_getElem h, List.getD_eq_getElem?_getD, List.getElem?_eq_getElem h]; rfl
theorem getD_mem {us : List (Int × Int)} {k : Nat} (h : k < us.length) : us.getD k (0,0) ∈ us := by
  rw [List.getD_eq_getElem?_getD, List.getElem?_eq_getElem h]; simp
/-- what the entries joined so far are -/
def MjOk (L : List (Int × Int)) (k : Nat) : Prop := (∀ y ∈ L, 0 ≤ y.1 ∧ y.1 ≤ 4096 ∧ 0 ≤ y.2 ∧ y.2 ≤ (k : Int) * 1000000) ∧ L.length ≤ k
theorem MjOk.step {L : List (Int × Int)} {k : Nat} {x : Int × Int} (h : MjOk L k) (hx : 1 ≤ x.1 ∧ x.1 ≤ 4096 ∧ 1 ≤ x.2 ∧ x.2 ≤ 1000000) : MjOk (mj L x) (k + 1) := by
  have hl := mj_len L x
  refine ⟨?_, by have := h.2; omega⟩
  rcases List.eq_nil_or_concat L with rfl | ⟨pre, l, rfl⟩
  · rw [mj_nil]
    intro y hy
    simp only [List.mem_singleton] at hy
    subst hy
    omega
  · rw [List.concat_eq_append] at *
    rw [mj_snoc]
    split
    · intro y hy
      rcases List.mem_append.1 hy with h1 | h1
      · have := h.1 y (by simp [h1]); omega
      · simp only [List.mem_singleton] at h1
        subst h1
        have := h.1 l (by simp)
        simp only
        omega
    · intro y hy
      rcases List.mem_append.1 hy with h1 | h1
      · have := h.1 y h1; omega
      · simp only [List.mem_singleton] at h1
        subst h1; omega
set_option maxRecDepth 100000 in
set_option maxHeartbeats 3200000 in
theorem mergeOk_any (A1 A2 : Option Addr) (n1 c1 n2 c2 : Nat) (us vs : List (Int × Int)) (w : World) (hn1 : us.length = n1) (hm1 : n1 ≤ maxLen) (hr1 : RU w w.heap.size A1 us) (hn2 : vs.length = n2) (hm2 : n2 ≤ maxLen) (hr2 : RU w w.heap.size A2 vs)
    (hz1 : A1 = none → c1 = 0) (hz2 : A2 = none → c2 = 0) (h1 : chkU us = 0) (h2 : chkU vs = 0) :
    Calls Tryd.prog 13 #[.slice A1 n1 c1, .slice A2 n2 c2] w (MergeR (mergeT us vs) w) := by
  have hU := chkU_ok h1
  have hV := chkU_ok h2
  obtain ⟨i0, hi, hz0, hy1, hy2⟩ := infoSz_parts
  have hx0 := fun W => (idx_ex (.slice A1 n1 c1) (.slice A2 n2 c2) W).1
  have hx1 := fun W => (idx_ex (.slice A1 n1 c1) (.slice A2 n2 c2) W).2
  have HU := Lib.hid (fun W (h : RU W W.heap.size A1 us) => checkUse_any A1 n1 c1 us W hn1 hm1 h)
  have HV := Lib.hid (fun W (h : RU W W.heap.size A2 vs) => checkUse_any A2 n2 c2 vs W hn2 hm2 h)
  have hl1 : n1 ≤ 200 := by rw [← hn1]; exact hU.len
  have hl2 : n2 ≤ 200 := by rw [← hn2]; exact hV.len
  rw [h1] at HU
  rw [h2] at HV
  have hin : ∀ y ∈ us ++ vs, 1 ≤ y.1 ∧ y.1 ≤ 4096 ∧ 1 ≤ y.2 ∧ y.2 ≤ 1000000 := fun y hy => by
    rcases List.mem_append.1 hy with h | h
    · exact okU_mem hU h
    · exact okU_mem hV h
  have hM := Lib.hid (show ∀ p : List (Int × Int), p.Perm (us ++ vs) → p.Pairwise (fun a b => a.1 ≤ b.1) → mergeT us vs = if 200 < (mjF p).length then ([], 3) else if bigU (mjF p) = true then ([], 7) else (mjF p, 0) from fun p hp hs => by
    rw [mjF_ref hU hV hp hs]; unfold mergeT; rw [if_pos h1, if_pos h2])
  have HK := Lib.hid (fun W B h1 h2 kB => concat2_any A1 A2 n1 c1 n2 c2 us vs B W hn1 (by omega) h1 hn2 (by omega) h2 hz1 hz2 kB)
  have hlen : (us ++ vs).length = n1 + n2 := by simp [hn1, hn2]
  clear h1 h2 hU hV hn1 hn2 hm1 hm2 hz1 hz2
  generalize mergeT us vs = R at *
  generalize us ++ vs = all at *
  go_enter Tryd.func13, Tryd.ntmps13
  go_wp2_with fail
  go_loopw [18] (fun i wr => ((i = .int .i64 0) ∨ (i = .int .i64 1) ∨ i = .int .i64 2) ∧ Below w.heap.size w wr) (fun i _ => 2 - (intOf i).toNat)
  case atStart => exact ⟨.inl rfl, Below.refl _ _⟩
  case round =>
    obtain ⟨hi3, hB⟩ := hrel
    rcases hi3 with rfl | rfl | rfl
    · go_wp2_with fail
      refine (HU.out _ ((hr1.below hB).more hB.size)).mono ?_
      rintro e w1 ⟨rfl, hb1⟩
      go_wp2_with fail
      go_roundw
      case rel => exact ⟨.inr (.inl rfl), hB.trans (hb1.mono hB.size)⟩
      case measure => simp [intOf]
    · go_wp2_with fail
      refine (HV.out _ ((hr2.below hB).more hB.size)).mono ?_
      rintro e w1 ⟨rfl, hb1⟩
      go_wp2_with fail
      go_roundw
      case rel => exact ⟨.inr (.inr rfl), hB.trans (hb1.mono hB.size)⟩
      case measure => simp [intOf]
    · have kB := Blk.new wr 31 #[.slice A1 n1 c1, .slice A2 n2 c2]
      have hbX := (Below.refl wr.heap.size wr).alloc (Nat.le_refl _) (.cells #[.slice A1 n1 c1, .slice A2 n2 c2] 31)
      have hr1' := ((hr1.below hB).more hB.size)
      have hr2' := ((hr2.below hB).more hB.size)
      have HKw := Lib.hid (HK.out _ _ ((hr1'.below hbX).more hbX.size) ((hr2'.below hbX).more hbX.size) kB)
      have B2 := hB.trans (hbX.mono hB.size)
      clear HU HV HK kB hr1' hr2'
      go_wp2_with fail
      refine HKw.out.mono ?_
      rintro e w2 ⟨v, rfl, hrow, hb2⟩
      have B3 := B2.trans (hb2.mono B2.size)
      rw [hlen] at hrow
      obtain ⟨n, hn⟩ : ∃ n, n1 + n2 = n := ⟨_, rfl⟩
      rw [hn] at hrow hlen
      have hn400 : n ≤ 400 := by omega
      clear hn hl1 hl2 HKw hbX
      have HS := Lib.hid (sort_any (wr.alloc (.cells #[.slice A1 n1 c1, .slice A2 n2 c2] 31)).heap.size v all w2 (fun y hy => by have := hin y hy; omega) (by omega) hb2.size (by rw [hlen]; exact hrow))
      rw [hlen] at HS
      obtain ⟨base, hbase⟩ : ∃ base, (wr.alloc (.cells #[.slice A1 n1 c1, .slice A2 n2 c2] 31)).heap.size = base := ⟨_, rfl⟩
      rw [hbase] at HS hrow hb2
      have hwb : w.heap.size ≤ base := by have := B2.size; omega
      obtain ⟨A0, cap0, rfl⟩ := own_nil_iff hrow hlen
      go_wp2_with fail
      refine HS.out.mono ?_
      rintro e w3 ⟨rfl, us', hp, hs, hrow3, hb3⟩
      have B4 := B3.trans (hb3.mono hwb)
      have hn' := Lib.hid (hp.length_eq.trans hlen)
      have hin' : Hid (∀ y ∈ us', 1 ≤ y.1 ∧ y.1 ≤ 4096 ∧ 1 ≤ y.2 ∧ y.2 ≤ 1000000) := Lib.hid (fun y hy => hin y (hp.mem_iff.1 hy))
      have hR := Lib.hid (hM.out us' hp hs)
      clear HS hrow hM hp hs hin hlen B3 B2 hb2 hb3 hwb
      go_wp2_with fail
      go_loopw [10, 11, 35] (fun v g i wq => ∃ k : Nat, k ≤ n ∧ i = .int .i64 k ∧ wq.ownsRow w3.heap.size 48 2 v (mjF (us'.take k)).length (spCells (mjF (us'.take k))) ∧ g = .bool (bigU (mjF (us'.take k))) ∧ Below w3.heap.size w3 wq ∧ Hid (MjOk (mjF (us'.take k)) k)) (fun _ _ i _ => n - (intOf i).toNat)
      case atStart => exact ⟨0, by omega, rfl, by simpa [mjF, spCells] using World.ownsRow_nil _ _ _ _, rfl, Below.refl _ _, Lib.hid ⟨by simp [mjF], by simp [mjF]⟩⟩
      case round =>
        obtain ⟨k, hk, rfl, hrow2, rfl, hBq, hH⟩ := hrel
        by_cases hlt : k < n
        · have hlt' : decide ((k : Int) < (n : Int)) = true := by simpa using hlt
          have hr := ownsRow_call hrow3 hBq
          obtain ⟨g, cap', e, _⟩ := hr.form (by omega)
          cases e
          have hg := hrow3.lt g rfl
          have hca := hr.cellAt (k * 2) (by omega)
          have hcb := hr.cellAt (k * 2 + 1) (by omega)
          have hat := spCells_at us' k (by have := hn'.out; omega)
          rw [hat.1] at hca
          rw [hat.2] at hcb
          have hvx := hin'.out (us'.getD k (0,0)) (getD_mem (by have := hn'.out; omega))
          have htk := Lib.hid (take_snoc' us' k (by have := hn'.out; omega))
          clear hat hr
          generalize us'.getD k (0,0) = x at *
          have hstep : Hid (mjF (us'.take (k + 1)) = mj (mjF (us'.take k)) x) := Lib.hid (by rw [htk.out, mjF_snoc])
          have hH2 : Hid (MjOk (mj (mjF (us'.take k)) x) (k + 1)) := Lib.hid (hH.out.step hvx)
          have hbg := Lib.hid (bigStep_law (L := mjF (us'.take k)) (x := x) ⟨hvx.2.2.1, hvx.2.2.2⟩)
          generalize mjF (us'.take k) = L at *
          obtain ⟨xa, xb⟩ := x
          dsimp only at hca hcb hvx
          clear htk
          have hBs := hBq.size
          have kX := Blk.new wr 48 #[.int .i64 xa, .int .i64 xb]
          have hbX := (Below.refl wr.heap.size wr).alloc (Nat.le_refl _) (.cells #[.int .i64 xa, .int .i64 xb] 48)
          have hrowX := hrow2.alloc (.cells #[.int .i64 xa, .int .i64 xb] 48)
          rcases List.eq_nil_or_concat L with rfl | ⟨pre, l, rfl⟩
          · rw [List.length_nil] at hrow2
            obtain ⟨A', cq, rfl⟩ := own_nil_iff hrow2 rfl
            have hE := hbg.out
            simp only [bigStep, List.getLast?_nil] at hE
            have hE' := Lib.hid hE
            clear hE hbg
            generalize bigU [] = gb at *
            simp only [mj_nil] at hstep hH2 hE'
            go_upto_region 16 with fail
            refine region_ext (by kernel_rfl) (by kernel_rfl) ?_
            repeat (go_big_quiet_step (fail))
            refine wpQuiet_nil ?_
            rintro w5 ⟨⟨_, hw5⟩, rfl⟩
            have B5 := hbX.trans (hw5.mono hbX.size)
            have k5 := kX.call hw5
            have c5 := k5.cell
            have kN := Blk.new w5 48 #[.int .i64 xa, .int .i64 xb]
            have hrow5 := ownsRow_call hrow2 B5
            go_wp2_with (refine wpList_append_own _ rfl (.tmp 75) (.tmp 77) 31 rfl w3.heap.size 48 i0 (.agg #[.int .i64 0, .int .i64 0]) 2 16 Tryd.underlying31 hi hz0 hy1 hy2 rfl (by decide) _ 0 (spCells ([] : List Sp)) rfl (hrow5.alloc _) ⟨w5.heap.size, 0, none⟩ 1 1 [.int .i64 xa, .int .i64 xb] rfl rfl (news_two kN) news_one2 (by unfold maxLen; omega) (by omega) (by have := B5.size; simp; omega) ?_; intro v' w6 hown' hgrow _)
            go_roundw
            case rel => exact ⟨k + 1, by omega, by go_num, by rw [hstep.out]; simpa [spCells] using hown', by rw [hstep.out, ← hE'.out], ((hBq.trans (B5.mono hBs)).alloc (by have := B5.size; omega) _).grown hgrow (by have := B5.size; simp; omega) (fun j hj => (hrow5.lt j hj).1), by rw [hstep.out]; exact hH2⟩
            case measure => simp [intOf]; omega
          · rw [List.concat_eq_append] at *
            have hE := hbg.out
            have hlx := hH.out.1 l (by simp)
            have hlq := hH.out.2
            simp only [mj_snoc, bigStep, List.getLast?_append, List.getLast?_singleton, Option.some_or] at hstep hH2 hE
            have hE' := Lib.hid hE
            clear hE hbg
            generalize bigU (pre ++ [l]) = gb at *
            obtain ⟨la, lb⟩ := l
            simp only at hlx hstep hH2 hE'
            rw [List.length_append, List.length_singleton] at hrowX hrow2 hlq
            obtain ⟨q, hq⟩ : ∃ q, pre.length = q := ⟨_, rfl⟩
            rw [hq] at hrowX hrow2 hlq
            obtain ⟨g2, cq, rfl⟩ := ownsRow_succ hrow2
            have hgb := hrowX.lt g2 rfl
            have hla : (wr.alloc (.cells #[.int .i64 xa, .int .i64 xb] 48)).cell? ⟨g2, q * 2, none⟩ = some (.int .i64 la) := by
              rw [hrowX.cellAt _ (by omega), spCells_snoc, List.getElem?_append_right (by rw [spCells_len, hq]; exact Nat.le_refl _), spCells_len, hq]
              simp
            have hlb : (wr.alloc (.cells #[.int .i64 xa, .int .i64 xb] 48)).cell? ⟨g2, q * 2 + 1, none⟩ = some (.int .i64 lb) := by
              rw [hrowX.cellAt _ (by omega), spCells_snoc, List.getElem?_append_right (by rw [spCells_len, hq]; omega), spCells_len, hq]
              simp
            have hq' := Lib.hid hq
            have hrow2' := Lib.hid hrow2
            clear hq hrow2 hH
            have q1 := fun z : Ext (wr.alloc (.cells #[.int .i64 xa, .int .i64 xb] 48)) => z.cell hla
            have q2 := fun z : Ext (wr.alloc (.cells #[.int .i64 xa, .int .i64 xb] 48)) => z.cell hlb
            have q3 := fun z : Ext (wr.alloc (.cells #[.int .i64 xa, .int .i64 xb] 48)) => (z.blk kX).cell
            by_cases he : la = xa
            · have he' : (la == xa) = true := by simpa using he
              rw [if_pos he] at hstep hH2
              rw [if_pos he, if_pos he] at hE'
              have he2 := Lib.hid he
              clear he
              go_upto_region 16 with fail
              refine region_ext (by kernel_rfl) (by kernel_rfl) ?_
              repeat (go_big_quiet_step (fail))
              refine wpQuiet_nil ?_
              rintro w5 ⟨⟨_, hw5⟩, rfl⟩
              have B5 := hbX.trans (hw5.mono hbX.size)
              have k5 := kX.call hw5
              have hla1 := (hw5.cell (p := ⟨g2, q * 2, none⟩) hgb.2).trans hla
              have hlb1 := (hw5.cell (p := ⟨g2, q * 2 + 1, none⟩) hgb.2).trans hlb
              clear q1 q2 q3
              have q1 := fun z : Ext w5 => z.cell hla1
              have q2 := fun z : Ext w5 => z.cell hlb1
              have q3 := fun z : Ext w5 => (z.blk k5).cell
              go_upto_region 17 with fail
              refine region_ext_tail 9 (by kernel_rfl) (by kernel_rfl) ?_
              simp only [List.take_succ_cons, List.take_zero, List.drop_succ_cons, List.drop_zero]
              repeat (go_big_quiet_step (fail))
              refine wpQuiet_nil ?_
              intro z
              have hrz := ownsRow_call hrow2'.out (B5.trans (z.le.mono B5.size))
              have hfz := hrz.frozenAt (q * 2 + 1)
              have hcz := z.cell hlb1
              obtain ⟨hst, hgr⟩ := hrz.stored (q * 2 + 1) (.int .i64 (lb + xb))
              rw [← hq'.out, spCells_set, hq'.out] at hst
              have hcell := hst.cellAt (q * 2 + 1) (by omega)
              have hcl : (spCells (pre ++ [(la, lb + xb)]))[q * 2 + 1]? = some (.int .i64 (lb + xb)) := by
                rw [spCells_snoc, List.getElem?_append_right (by rw [spCells_len, hq'.out]; omega), spCells_len, hq'.out]
                simp
              rw [hcl] at hcell
              have hbz := (hBq.trans (B5.mono hBs)).trans ((z.le.mono B5.size).mono hBs)
              have hbz' := hbz.grown hgr hbz.size (fun j hj => by cases hj; exact (hrow2'.out.lt _ rfl).1)
              have hend : Hid ((pre ++ [(la, lb + xb)]).length = q + 1) := Lib.hid (by simp [hq'.out])
              cases gb
              · go_wp2_with fail
                go_roundw
                case rel => exact ⟨k + 1, by omega, by go_num, by rw [hstep.out, hend.out]; exact hst, by rw [hstep.out, ← hE'.out]; rfl, hbz', by rw [hstep.out]; exact hH2⟩
                case measure => simp [intOf]; omega
              · go_wp2_with fail
                go_roundw
                case rel => exact ⟨k + 1, by omega, by go_num, by rw [hstep.out, hend.out]; exact hst, by rw [hstep.out, ← hE'.out]; rfl, hbz', by rw [hstep.out]; exact hH2⟩
                case measure => simp [intOf]; omega
            · have he' : (la == xa) = false := by simpa using he
              rw [if_neg he] at hstep hH2
              rw [if_neg he, if_neg he] at hE'
              clear he
              go_upto_region 16 with fail
              refine region_ext (by kernel_rfl) (by kernel_rfl) ?_
              repeat (go_big_quiet_step (fail))
              refine wpQuiet_nil ?_
              rintro w5 ⟨⟨_, hw5⟩, rfl⟩
              have B5 := hbX.trans (hw5.mono hbX.size)
              have k5 := kX.call hw5
              have c5 := k5.cell
              have kN := Blk.new w5 48 #[.int .i64 xa, .int .i64 xb]
              have hrow5 := ownsRow_call hrow2'.out B5
              clear q1 q2 q3
              go_wp2_with (refine wpList_append_own _ rfl (.tmp 75) (.tmp 77) 31 rfl w3.heap.size 48 i0 (.agg #[.int .i64 0, .int .i64 0]) 2 16 Tryd.underlying31 hi hz0 hy1 hy2 rfl (by decide) _ (q + 1) (spCells (pre ++ [(la, lb)])) rfl (hrow5.alloc _) ⟨w5.heap.size, 0, none⟩ 1 1 [.int .i64 xa, .int .i64 xb] rfl rfl (news_two kN) news_one2 (by unfold maxLen; omega) (by omega) (by have := B5.size; simp; omega) ?_; intro v' w6 hown' hgrow _)
              rw [← spCells_snoc (pre ++ [(la, lb)]) (xa, xb)] at hown'
              have hend : Hid ((pre ++ [(la, lb)] ++ [(xa, xb)]).length = q + 1 + 1) := Lib.hid (by simp [hq'.out])
              go_roundw
              case rel => exact ⟨k + 1, by omega, by go_num, by rw [hstep.out, hend.out]; exact hown', by rw [hstep.out, ← hE'.out], ((hBq.trans (B5.mono hBs)).alloc (by have := B5.size; omega) _).grown hgrow (by have := B5.size; simp; omega) (fun j hj => (hrow5.lt j hj).1), by rw [hstep.out]; exact hH2⟩
              case measure => simp [intOf]; omega
        · obtain rfl : k = n := by omega
          have hlt' : decide ((k : Int) < (k : Int)) = false := by simp
          have hT : us'.take k = us' := List.take_of_length_le (by have := hn'.out; omega)
          rw [hT] at hrow2 hH
          have hlq := hH.out.2
          have hRo := hR.out
          rw [hT]
          obtain ⟨m, hm⟩ : ∃ m, (mjF us').length = m := ⟨_, rfl⟩
          rw [hm] at hrow2 hlq hRo
          obtain ⟨A9, c9, e9, hru, hc9, hc9', _, _⟩ := own_RU hrow2 hm
          subst e9
          have hRo' := Lib.hid hRo
          have hm' := Lib.hid hm
          have hru' := Lib.hid hru
          have hBB := B4.trans (hBq.mono B4.size)
          clear hT hRo hm hrow2 hH hR hru hrow3
          generalize bigU (mjF us') = gb at *
          generalize mjF us' = L at *
          by_cases hl : 200 < m
          · have hl' : decide ((200 : Int) < (m : Int)) = true := by simp; omega
            go_wp2_with fail
            go_ret2
            rw [hRo'.out, if_pos hl]
            exact mergeR_err hBB
          · have hl' : decide ((200 : Int) < (m : Int)) = false := by simp; omega
            have e0 : Hid (gb = false → R = (L, 0)) := Lib.hid (fun h => by rw [hRo'.out, if_neg hl, h]; rfl)
            have e1 : Hid (gb = true → R = ([], 7)) := Lib.hid (fun h => by rw [hRo'.out, if_neg hl, h]; rfl)
            cases gb
            · have e2 := Lib.hid (e0.out rfl)
              clear e0 e1 hRo'
              go_wp2_with fail
              go_ret2
              rw [e2.out]
              exact ⟨A9, c9, by rw [hm'.out]; rfl, hru'.out, by rw [hm'.out]; exact hc9, hc9', hBB⟩
            · have e2 := Lib.hid (e1.out rfl)
              clear e0 e1 hRo'
              go_wp2_with fail
              go_ret2
              rw [e2.out]
              exact mergeR_err hBB
theorem merge_any (A1 A2 : Option Addr) (n1 c1 n2 c2 : Nat) (us vs : List (Int × Int)) (w : World) (hn1 : us.length = n1) (hm1 : n1 ≤ maxLen) (hr1 : RU w w.heap.size A1 us) (hn2 : vs.length = n2) (hm2 : n2 ≤ maxLen) (hr2 : RU w w.heap.size A2 vs)
    (hz1 : A1 = none → c1 = 0) (hz2 : A2 = none → c2 = 0) :
    Calls Tryd.prog 13 #[.slice A1 n1 c1, .slice A2 n2 c2] w (MergeR (mergeT us vs) w) := by
  by_cases h : chkU us = 0 ∧ chkU vs = 0
  · exact mergeOk_any A1 A2 n1 c1 n2 c2 us vs w hn1 hm1 hr1 hn2 hm2 hr2 hz1 hz2 h.1 h.2
  · exact mergeErr_any A1 A2 n1 c1 n2 c2 us vs w hn1 hm1 hr1 hn2 hm2 hr2 h
end Go.Proofs.YtiohcegkkpeodaaDoor
