/- The law MovingWhole: Do moves as the reference says, and at the end just the pages of the blocks are not free (of at most 20 blocks, 40 moves, and however many bytes). -/
import Derived.Test.YtpabnbhbcphfiaaGreatT6
namespace Go.Pol
open Go Go.RowKit Go.ChangeShapes Go.WideShapes Go.Deep
/-- the blocks stay a lay-out -/
theorem afterL_okB {pages : Int} : ∀ (ms : List (Int × Int)) (cs : List B3), okB pages cs → (afterL pages cs ms).2 = 0 → okB pages (afterL pages cs ms).1
  | [], _, ok, _ => ok
  | m :: r, cs, ok, ha => by
    obtain ⟨hps, ha2⟩ := after_cons ha
    rw [afterL, if_pos hps]
    exact afterL_okB r _ (okB_mov ok hps) ha2
theorem whole_now {pages : Int} {bs : List B3} (hc : chkB pages bs = 0) (ms : List (Int × Int)) : ((afterB pages bs ms).2 = 0 → okB pages (afterB pages bs ms).1) ∧ (afterB pages bs ms).1.length ≤ 64 := by
  have ok := chkB_ok hc
  have h1 : (afterB pages bs ms).2 = 0 → okB pages (afterB pages bs ms).1 := fun h => by
    obtain ⟨_, hl, ha⟩ := after_of h
    have he : afterB pages bs ms = afterL pages bs ms := by unfold afterB; rw [if_pos hc, if_neg (by omega)]
    rw [he]
    exact afterL_okB ms bs ok ha
  refine ⟨h1, ?_⟩
  by_cases h : (afterB pages bs ms).2 = 0
  · exact (h1 h).len
  · have : (afterB pages bs ms).1 = [] := by
      unfold afterB at h ⊢
      rw [if_pos hc] at h ⊢
      by_cases hl : 256 < ms.length
      · rw [if_pos hl]
      · rw [if_neg hl] at h ⊢
        exact after_nil ms bs h
    rw [this]
    exact Nat.zero_le _
theorem WhV.kindOk {V : Vm} {bs : List B3} (h : WhV V bs) : KindOk V := fun p hp => by
  have := (h.pg p hp).2
  omega
theorem Rd.at8 {w : World} {B : Nat} {A : Option Addr} {xs : List Int} (h : Rd w B A (xs.map (Value.int .u8))) {k : Nat} (hk : k < xs.length) :
    ∃ b o, A = some ⟨b, o, none⟩ ∧ b < B ∧ w.cell? ⟨b, o + k, none⟩ = some (.int .u8 (xs.getD k 0)) := by
  obtain ⟨b, o, e, hb, hc⟩ := h k (by simpa using hk)
  refine ⟨b, o, e, hb, hc.trans ?_⟩
  simp [List.getD_eq_getElem?_getD, hk]
/-- a slice of bytes that came in reads as a list -/
theorem openU8 {H : Type} {enc : TypeId × Value → H} {P : Program} {w : World} {base : Nat} {held : Bool} {t e : TypeId} {fuel : Nat} {v : Value} {x : Go.DataW H × List Go.MemPlace} (ht : P.underlying t = some (.slice e)) (he : P.underlying e = some (.int .u8)) (hc : P.cellsOf e = 1)
    (h : DataW.trod enc P w base (fun _ => true) held fuel t [v] = some x) : ∃ (A : Option Addr) (n cap : Nat) (xs : List Int), v = .slice A n cap ∧ xs.length = n ∧ n ≤ maxLen ∧ Rd w w.heap.size A (xs.map (Value.int .u8)) ∧ ∀ x ∈ xs, 0 ≤ x ∧ x < 256 := by
  rcases Go.ChangeShapes.open_ints ht he hc h with ⟨hcs, _⟩ | ⟨a, len, cap, zs, hcs, _, hl, hm, hz, _, hcell, hwf⟩
  · simp only [List.cons.injEq, and_true] at hcs
    exact ⟨none, 0, 0, [], hcs, rfl, by unfold maxLen; omega, Rd.nil, by simp⟩
  · simp only [List.cons.injEq, and_true] at hcs
    simp only [if_true] at hz
    refine ⟨some a, len, cap, zs.take len, hcs, by simp; omega, by omega, ?_, fun x hx => by
      have := hwf x (List.mem_of_mem_take hx)
      unfold Lit.wf at this
      rw [Bool.and_eq_true, decide_eq_true_eq, decide_eq_true_eq] at this
      have e1 : IntKind.u8.min = 0 := by decide
      have e2 : IntKind.u8.max = 255 := by decide
      omega⟩
    intro k hk
    have hk' : k < len := by simp at hk; omega
    have h1 := hcell k (by omega)
    obtain ⟨b, off, spot⟩ := a
    have hspot : spot = none := by simpa [Addr.add] using World.cell?_spot (hcell 0 (by omega))
    subst hspot
    rw [add_plain] at h1
    refine ⟨b, off, rfl, World.block_lt_of_cell? _ _ h1, ?_⟩
    rw [h1]
    simp [List.getD_eq_getElem?_getD, show k < zs.length by omega]
end Go.Pol
namespace Go.Proofs.YtpabnbhbcphfiaaGreat
open Go Go.Proofs Go.RowKit Go.Pol Go.ChangeShapes Go.WideShapes Go.Deep
attribute [local go_sem] Oper.semAt_some Go.Pol.wide_fn Go.Pol.wide_depth Go.Pol.wide_fn' Go.Pol.wide_depth'

set_option maxRecDepth 100000 in
set_option maxHeartbeats 6400000 in
theorem wholeLaw_any (A M Au : Option Addr) (nb cb nm cm nu cu : Nat) (pages : Int) (bs : List B3) (ms : List (Int × Int)) (us : List Int) (w : World)
    (hn : bs.length = nb) (hm : nb ≤ maxLen) (hzb : A = none → cb = 0) (hr : RT w w.heap.size A bs) (hmn : ms.length = nm) (hmm : nm ≤ maxLen) (hu : RU w w.heap.size M ms)
    (hnu : us.length = nu) (hru : Rd w w.heap.size Au (us.map (Value.int .u8))) (hus : ∀ x ∈ us, 0 ≤ x ∧ x < 256) :
    Calls Tryz.prog 4 #[.agg #[.int .i64 pages, .slice A nb cb, .slice M nm cm], .slice Au nu cu] w fun e w' => e = .returned (.bool true) ∧ Below w.heap.size w w' := by
  have hb0 := (Below.refl w.heap.size w).alloc (Nat.le_refl _) (.cells #[.int .i64 pages, .slice A nb cb, .slice M nm cm] 59)
  have k4 := Blk.new w 59 #[.int .i64 pages, .slice A nb cb, .slice M nm cm]
  have c4 := k4.cell
  have hr' := Lib.hid hr
  have hu' := Lib.hid hu
  have hru' := Lib.hid hru
  have hus' := Lib.hid hus
  have hnu' := Lib.hid hnu
  have qMs := Lib.hid (fun g o (e : M = some ⟨g, o, none⟩) (h : 0 < nm) => show g < w.heap.size from by
    obtain ⟨b', o', e2, hb', _⟩ := hu 0 (by rw [hmn]; exact h)
    rw [e] at e2
    cases e2
    exact hb')
  have HCk := Lib.hid (fun W h => refCheck_any pages A nb cb bs W hn hm h)
  have HA := Lib.hid (fun W => awake24_any W)
  have HN := Lib.hid (fun W => new_any W)
  have hlenB := Lib.hid (And.intro hn (And.intro hm (And.intro hzb (And.intro hmn hmm))))
  clear hr hu hru hus hn hm hzb hmn hmm hnu
  have hend : ∀ w1 w2 : World, Below w.heap.size w w1 → Below w1.heap.size w1 w2 → Below w.heap.size w w2 := fun w1 w2 h1 h2 => h1.trans (h2.mono h1.size)
  have hend' := Lib.hid hend
  clear hend
  by_cases h20 : 20 < nb
  · have h20' : decide ((20 : Int) < (nb : Int)) = true := by rw [decide_eq_true_eq]; omega
    clear HCk HN h20
    go_enter Tryz.func4, Tryz.ntmps4
    go_wp2_with fail
    refine (HA.out _).mono ?_
    rintro e wz ⟨rfl, hbz⟩
    go_wp2_with fail
    go_ret
    exact ⟨rfl, hend'.out _ _ hb0 hbz⟩
  have h20' : decide ((20 : Int) < (nb : Int)) = false := by rw [decide_eq_false_iff_not]; omega
  by_cases h40 : 40 < nm
  · have h40' : decide ((40 : Int) < (nm : Int)) = true := by rw [decide_eq_true_eq]; omega
    clear HCk HN h20 h40
    go_enter Tryz.func4, Tryz.ntmps4
    go_wp2_with fail
    refine (HA.out _).mono ?_
    rintro e wz ⟨rfl, hbz⟩
    go_wp2_with fail
    go_ret
    exact ⟨rfl, hend'.out _ _ hb0 hbz⟩
  have h40' : decide ((40 : Int) < (nm : Int)) = false := by rw [decide_eq_false_iff_not]; omega
  by_cases hck : chkB pages bs = 0
  case neg =>
    have hck' : (chkB pages bs != 0) = true := by simpa using hck
    generalize chkB pages bs = ck at *
    clear HN h20 h40 hck
    go_enter Tryz.func4, Tryz.ntmps4
    go_wp2_with fail
    refine (HCk.out _ (hr'.out.on hb0)).mono ?_
    rintro e w2 ⟨rfl, hb2⟩
    have B2 := hend'.out _ _ hb0 hb2
    go_wp2_with fail
    refine (HA.out _).mono ?_
    rintro e wz ⟨rfl, hbz⟩
    go_wp2_with fail
    go_ret
    exact ⟨rfl, hend'.out _ _ B2 hbz⟩
  rw [hck] at HCk
  have ok0 := chkB_ok hck
  have hok0 := Lib.hid ok0
  have hckH := Lib.hid hck
  obtain ⟨hp1, hnb64, hins⟩ := chk_ins hck
  have hpgs := Lib.hid hp1
  have hibs := Lib.hid (fun i (hi : i < nb) => ins_bounds hp1 (hins (bs.getD i b0) (by rw [List.getD_eq_getElem?_getD, List.getElem?_eq_getElem (by rw [hlenB.out.1]; exact hi)]; exact List.getElem_mem _)))
  clear hck hins hnb64 ok0 hp1
  obtain ⟨s, hsz⟩ : ∃ s, w.heap.size = s := ⟨_, rfl⟩
  go_enter Tryz.func4, Tryz.ntmps4
  go_wp2_with fail
  refine (HCk.out _ (hr'.out.on hb0)).mono ?_
  rintro e w1 ⟨rfl, hb1⟩
  have B1 := hend'.out _ _ hb0 hb1
  have k41 := k4.call hb1
  clear HCk c4 k4 hb0 hb1
  go_wp2_with fail
  refine (HN.out _).mono ?_
  rintro e w2 ⟨b, rfl, V2, hbb, hb2⟩
  have B2 := hend'.out _ _ B1 hb2
  have hs1 := k41.lt
  have k42 := k41.call hb2
  have hsb : s < b := by omega
  have hwb : w.heap.size ≤ b := by omega
  have hV2 := Lib.hid V2
  rw [hsz] at k42
  clear HN V2 k41 hs1 hbb hb2 B1
  go_wp2_with fail
  go_loopw [7] (fun i wr => ∃ (k : Nat) (U : Vm), k ≤ nb ∧ i = .int .i64 k ∧ Hid (SysIs wr b U) ∧ Hid (WhV U (bs.take k)) ∧ Far (fun g => g = b) w2 wr) (fun i _ => nb - (intOf i).toNat)
  case atStart => exact ⟨0, newVm, by omega, rfl, hV2, Lib.hid (by rw [List.take_zero]; exact whole_new), Far.refl _ _⟩
  case round =>
    obtain ⟨k, U, hk, rfl, hU, hWU, hF⟩ := hrel
    have Br := B2.trans (hF.below B2.size (fun g hg e => by omega))
    have k4r := hF.blk k42 (by show ¬ s = b; omega)
    have c4 := k4r.cell
    by_cases hlt : k < nb
    · have hlt' : decide ((k : Int) < (nb : Int)) = true := by simpa using hlt
      obtain ⟨ab, ao, rfl, hab, p0, p1, p2⟩ := (hr'.out.below Br).at_ (k := k) (by rw [hlenB.out.1]; exact hlt)
      have hib := hibs.out k hlt
      have hwa := Lib.hid (fun c => whole_add hok0.out (k := k) (by rw [hlenB.out.1]; exact hlt) hWU.out c)
      generalize bs.getD k b0 = blk at *
      obtain ⟨p, o, pin⟩ := blk
      unfold whS at hwa
      simp only at p0 p1 p2 hib hwa
      have HSz := Lib.hid (fun W => refSize_any o W hib.1)
      generalize pw o = pn at *
      have HR := Lib.hid (fun W h => reserve_any b p pn U W h)
      rw [(hwa.out 0).1] at HR
      obtain ⟨J, hJ⟩ : ∃ J, (bec U p pn 0 0 1).2 = J := ⟨_, rfl⟩
      rw [hJ] at HR
      rw [hJ] at hwa
      clear p2 hib hJ hWU
      go_wp2_with fail
      refine (HSz.out _).mono ?_
      rintro e wy ⟨rfl, hwy⟩
      replace hwy := hwy.symm
      subst hwy
      go_wp2_with fail
      refine (HR.out _ hU.out).mono ?_
      rintro e w4 ⟨rfl, V4, F4⟩
      have V4' := Lib.hid V4
      have Bq : Below w.heap.size _ w4 := F4.below Br.size (fun g hg e => by omega)
      have B4 := Br.trans Bq
      have q0 := (Bq.cell (p := ⟨ab, ao + k * 3, none⟩) hab).trans p0
      have k44 := F4.blk k4r (by show ¬ s = b; omega)
      have hF4 := hF.trans F4
      clear c4 p0 p1 V4 HSz HR hU F4 k4r hF Br Bq
      have e0 := fun x : Ext w4 => (x.blk k44).cell
      have e1 := fun x : Ext w4 => x.cell q0
      by_cases hku : k < nu
      case neg =>
        have hku' : decide (k < nu) = false := by rw [decide_eq_false_iff_not]; omega
        have hw := Lib.hid (hwa.out 0).2.2
        rw [if_neg (by omega)] at hw
        clear hwa hku
        go_upto_region 12 with fail
        refine region_ext_tail 26 (by kernel_rfl) (by kernel_rfl) ?_
        simp only [List.take_succ_cons, List.take_zero, List.drop_succ_cons, List.drop_zero]
        repeat (go_big_quiet_step (fail))
        refine wpQuiet_nil ?_
        intro z
        have V5 := Lib.hid (V4'.out.call z.le)
        clear e0 e1 q0 k44
        go_wp2_with fail
        go_roundw
        case rel => exact ⟨k + 1, J, by omega, by go_num, V5, hw, hF4.trans (.of_below z.le)⟩
        case measure => simp [intOf]; omega
      have hku' : decide (k < nu) = true := by simpa using hku
      obtain ⟨ub, uo, rfl, hub, u0⟩ := (hru'.out.below B4).at8 (k := k) (by rw [hnu'.out]; exact hku)
      have hc := hus'.out (us.getD k 0) (by rw [List.getD_eq_getElem?_getD, List.getElem?_eq_getElem (by rw [hnu'.out]; exact hku)]; exact List.getElem_mem _)
      generalize us.getD k 0 = c at *
      have hcw : IntKind.i64.wrap c = c := by rw [IntKind.wrap_i64]; omega
      have e2 := fun x : Ext w4 => x.cell u0
      by_cases hc0 : 0 < c
      case neg =>
        have hc0' : decide (0 < c) = false := by rw [decide_eq_false_iff_not]; exact hc0
        have hw := Lib.hid (hwa.out 0).2.2
        rw [if_neg (by omega)] at hw
        clear hwa hc hc0 hub u0
        go_upto_region 12 with fail
        refine region_ext_tail 26 (by kernel_rfl) (by kernel_rfl) ?_
        simp only [List.take_succ_cons, List.take_zero, List.drop_succ_cons, List.drop_zero]
        repeat (go_big_quiet_step (fail))
        refine wpQuiet_nil ?_
        intro z
        have V5 := Lib.hid (V4'.out.call z.le)
        clear e0 e1 e2 q0 k44
        go_wp2_with fail
        go_roundw
        case rel => exact ⟨k + 1, J, by omega, by go_num, V5, hw, hF4.trans (.of_below z.le)⟩
        case measure => simp [intOf]; omega
      have hc0' : decide (0 < c) = true := by rw [decide_eq_true_eq]; exact hc0
      have hz2 := (hwa.out c).2.1 hc0
      have hw := Lib.hid (hwa.out c).2.2
      rw [if_pos hc0] at hw
      have HC := Lib.hid (fun W h => commit_any b p (min c pn) J W h)
      rw [hz2] at HC
      generalize (bec J p (min c pn) 2 1 2).2 = J2 at *
      clear hwa hc hc0 hub u0 hz2
      go_upto_region 12 with fail
      refine region_ext_tail 26 (by kernel_rfl) (by kernel_rfl) ?_
      simp only [List.take_succ_cons, List.take_zero, List.drop_succ_cons, List.drop_zero]
      repeat (go_big_quiet_step (fail))
      refine wpQuiet_nil ?_
      intro z
      have V5 := Lib.hid (V4'.out.call z.le)
      clear e0 e1 e2 q0 k44
      go_wp2_with fail
      refine (HC.out _ V5.out).mono ?_
      rintro e w6 ⟨rfl, V6, F6⟩
      have V6' := Lib.hid V6
      clear V6 V5 HC
      go_wp2_with fail
      go_roundw
      case rel => exact ⟨k + 1, J2, by omega, by go_num, V6', hw, (hF4.trans (.of_below z.le)).trans F6⟩
      case measure => simp [intOf]; omega
    · obtain rfl : k = nb := by omega
      have hlt' : decide ((k : Int) < (k : Int)) = false := by simp
      have hWB : Hid (WhV U bs) := Lib.hid (by have := hWU.out; rwa [List.take_of_length_le (by have := hlenB.out.1; omega)] at this)
      obtain ⟨gn, gm, gzb, gmn, gmm⟩ := hlenB.out
      have HAf := Lib.hid (fun W h1 h2 => refAfterN_any pages A M k cb nm cm bs ms W gn gm gzb h1 gmn gmm h2)
      have HD := Lib.hid (fun W (h : SysIs W b U) (ht : RT W W.heap.size A bs) (hu : RU W W.heap.size M ms) => do24_any b pages A M k cb nm cm bs ms U W h hWB.out.kindOk gn gm gzb ht gmn gmm hu (fun g o e h0 => by have := qMs.out g o e h0; omega))
      obtain ⟨T, hT, hWT⟩ := whole_do hWB.out hckH.out ms
      obtain ⟨hnow, hl64⟩ := whole_now hckH.out ms
      rw [hT] at HD
      generalize afterB pages bs ms = R at *
      obtain ⟨rb, er⟩ := R
      unfold AfterN at HAf
      unfold DoO at HD
      simp only at HAf HD hWT hnow hl64
      obtain ⟨m, hmr⟩ : ∃ m, rb.length = m := ⟨_, rfl⟩
      have hm' := Lib.hid hmr
      rw [hmr] at hl64
      simp only [hmr] at HAf HD
      try simp only [List.length_nil] at HD
      have hWT' := Lib.hid hWT
      have hnow' := Lib.hid hnow
      have r1 := hr'.out.on Br
      have u1 := (hu'.out.below Br).more Br.size
      clear hT hWT hnow hmr gn gm gzb gmn gmm hWU hWB
      go_wp2_with fail
      refine (HAf.out _ r1 u1).mono ?_
      rintro e w5 ⟨A9, p9, rfl, x9, f9, hb5⟩
      have B5 := Br.trans (hb5.mono Br.size)
      have V5 := hU.out.call hb5
      have k45 := k4r.call hb5
      have c45 := k45.cell
      have r5 := r1.on hb5
      have u5 := (u1.below hb5).more hb5.size
      have hbw := hU.out.lt
      clear HAf hU k4r c4 r1 u1 hb5
      go_wp2_with fail
      refine (HD.out _ V5 r5 u5).mono ?_
      rintro e w6 ⟨A6, p6, A7, p7, rfl, x6, f6, -, -, V6, F6⟩
      have B6 := B5.trans (F6.below B5.size (fun g hg e => by omega))
      have k46 := F6.blk k45 (by show ¬ s = b; omega)
      have c46 := k46.cell
      have x96 := (Far.rt x9 F6 (fun g o e => by show ¬ g = b; have := f9 g o e; omega)).more F6.size
      have V6' := Lib.hid V6
      have hee : (er != er) = false := by simp
      clear HD V5 k45 c45 r5 u5 x9 f9 V6 F6 f6
      go_wp2_with fail
      refine (sameBlocks_any A6 A9 m p6 p9 rb w6 hm'.out (by unfold maxLen; omega) x6 x96).mono ?_
      rintro e w7 ⟨rfl, hb7⟩
      have B7 := B6.trans (hb7.mono B6.size)
      have V7 := Lib.hid (V6'.out.call hb7)
      have k47 := k46.call hb7
      have c47 := k47.cell
      have x67 := Lib.hid (x6.on hb7)
      have hr7 := Lib.hid (hr'.out.on B7)
      have hB7 := Lib.hid B7
      clear V6' k46 c46 hb7 x6 x96 k47 hee B6 B5 Br
      by_cases he : er = 0
      · subst he
        have hW7 := hWT'.out
        rw [if_pos rfl] at hW7
        have hW7' := Lib.hid hW7
        have hokp := Lib.hid (fun x (hx : x ∈ rb) => ins_okPl hpgs.out ((hnow'.out rfl).ins x hx))
        clear hW7 hWT' hnow'
        go_wp2_with fail
        go_loopw [13] (fun i wr => ∃ k : Nat, k ≤ 1024 ∧ i = .int .i64 k ∧ Below w7.heap.size w7 wr) (fun i _ => 1024 - (intOf i).toNat)
        case atStart => exact ⟨0, by omega, rfl, Below.refl _ _⟩
        case round =>
          obtain ⟨j, hj, rfl, hBj⟩ := hrel
          by_cases hjl : j < 1024
          · have hjl' : decide ((j : Int) < 1024) = true := by rw [decide_eq_true_eq]; omega
            have hj0 : 0 ≤ (j : Int) ∧ (j : Int) < 1024 := ⟨by omega, by omega⟩
            have HV := vkind_any b (j : Int) T _ (V7.out.call hBj)
            rw [if_pos hj0, if_pos hj0, if_pos hj0, Int.toNat_natCast] at HV
            have HV' := Lib.hid HV
            have HL := Lib.hid (fun W h => lawFree_any A6 m p6 rb (j : Int) 1 W (hm'.out) (by omega) h hokp.out ⟨by omega, by omega⟩ ⟨by omega, by omega⟩)
            rw [← whole_free hW7'.out hjl] at HL
            obtain ⟨hg, hhg⟩ : ∃ hg, (T.pg j).huge = hg := ⟨_, rfl⟩
            obtain ⟨kd, hkd⟩ : ∃ kd, (T.pg j).kind = kd := ⟨_, rfl⟩
            obtain ⟨q, hq⟩ : ∃ q, (kd == 0) = q := ⟨_, rfl⟩
            rw [hkd, hq] at HL
            rw [hkd, hhg] at HV'
            have hqq : (q != q) = false := by simp
            have rj := (x67).out.on hBj
            clear HV hjl hkd hhg
            go_wp2_with fail
            refine HV'.out.mono ?_
            rintro e w8 ⟨rfl, hb8⟩
            have r8 := rj.on hb8
            have B8 := hBj.trans (hb8.mono hBj.size)
            clear HV'
            go_wp2_with fail
            refine (HL.out _ r8).mono ?_
            rintro e w9 ⟨rfl, hb9⟩
            have B9 := B8.trans (hb9.mono B8.size)
            clear HL
            go_wp2_with fail
            go_roundw
            case rel => exact ⟨j + 1, by omega, by go_num, B9⟩
            case measure => simp [intOf]; omega
          · obtain rfl : j = 1024 := by omega
            go_wp2_with fail
            refine (HA.out _).mono ?_
            rintro e wz ⟨rfl, hbz⟩
            go_wp2_with fail
            go_ret
            exact ⟨rfl, hend'.out _ _ (hend'.out _ _ hB7.out hBj) hbz⟩
      · have he' : (er != 0) = true := by simpa using he
        have hW7 := hWT'.out
        rw [if_neg he] at hW7
        have hW7' := Lib.hid hW7
        have hokp := Lib.hid (fun x (hx : x ∈ bs) => ins_okPl hpgs.out (hok0.out.ins x hx))
        clear hW7 hWT' hnow' he
        go_wp2_with fail
        go_loopw [13] (fun i wr => ∃ k : Nat, k ≤ 1024 ∧ i = .int .i64 k ∧ Below w7.heap.size w7 wr) (fun i _ => 1024 - (intOf i).toNat)
        case atStart => exact ⟨0, by omega, rfl, Below.refl _ _⟩
        case round =>
          obtain ⟨j, hj, rfl, hBj⟩ := hrel
          by_cases hjl : j < 1024
          · have hjl' : decide ((j : Int) < 1024) = true := by rw [decide_eq_true_eq]; omega
            have hj0 : 0 ≤ (j : Int) ∧ (j : Int) < 1024 := ⟨by omega, by omega⟩
            have HV := vkind_any b (j : Int) T _ (V7.out.call hBj)
            rw [if_pos hj0, if_pos hj0, if_pos hj0, Int.toNat_natCast] at HV
            have HV' := Lib.hid HV
            have HL := Lib.hid (fun W h => lawFree_any A k cb bs (j : Int) 1 W (hlenB.out.1) (by have := hok0.out.len; have := hlenB.out.1; omega) h hokp.out ⟨by omega, by omega⟩ ⟨by omega, by omega⟩)
            rw [← whole_free hW7'.out hjl] at HL
            obtain ⟨hg, hhg⟩ : ∃ hg, (T.pg j).huge = hg := ⟨_, rfl⟩
            obtain ⟨kd, hkd⟩ : ∃ kd, (T.pg j).kind = kd := ⟨_, rfl⟩
            obtain ⟨q, hq⟩ : ∃ q, (kd == 0) = q := ⟨_, rfl⟩
            rw [hkd, hq] at HL
            rw [hkd, hhg] at HV'
            have hqq : (q != q) = false := by simp
            have rj := (hr7).out.on hBj
            clear HV hjl hkd hhg
            go_wp2_with fail
            refine HV'.out.mono ?_
            rintro e w8 ⟨rfl, hb8⟩
            have r8 := rj.on hb8
            have B8 := hBj.trans (hb8.mono hBj.size)
            clear HV'
            go_wp2_with fail
            refine (HL.out _ r8).mono ?_
            rintro e w9 ⟨rfl, hb9⟩
            have B9 := B8.trans (hb9.mono B8.size)
            clear HL
            go_wp2_with fail
            go_roundw
            case rel => exact ⟨j + 1, by omega, by go_num, B9⟩
            case measure => simp [intOf]; omega
          · obtain rfl : j = 1024 := by omega
            go_wp2_with fail
            refine (HA.out _).mono ?_
            rintro e wz ⟨rfl, hbz⟩
            go_wp2_with fail
            go_ret
            exact ⟨rfl, hend'.out _ _ (hend'.out _ _ hB7.out hBj) hbz⟩
set_option maxRecDepth 100000 in
/-- a list of bytes that came in -/
theorem openU8s {H : Type} {enc : TypeId × Value → H} {w : World} {base b0 : Nat} {held : Bool} {v : Value} {d : DataW H} {p : List MemPlace} (hv : Value.okWide Tryz.prog w .any b0 60 v) (h : DataW.Trod enc Tryz.prog w base (fun _ => true) held 60 v d p) :
    ∃ (A : Option Addr) (n cap : Nat) (xs : List Int), v = .slice A n cap ∧ xs.length = n ∧ n ≤ maxLen ∧ Rd w w.heap.size A (xs.map (Value.int .u8)) ∧ ∀ x ∈ xs, 0 ≤ x ∧ x < 256 := by
  obtain ⟨A, n, cap, rfl⟩ := okWide_slice Tryz.underlying60 hv
  obtain ⟨fuel, hf⟩ := h
  exact openU8 Tryz.underlying60 Tryz.underlying5 (by kernel_rfl) hf

set_option maxRecDepth 100000 in
theorem movingWhole_lifted (os : Os) (started : os.Started) (H : Type) (enc : TypeId × Value → H) :
    ReturnsInHanded {} Tryz.checked os 4 .any (Rows.movingWholeSpec.pre6 enc Tryz.prog Tryz.f4 Rows.movingWholeRow.domain false) (Rows.movingWholeSpec.post enc Tryz.prog Tryz.f4 false true false false) := by
  refine returnsInHanded_of_change (C := Tryz.checked) own_ started (by kernel_rfl) Tryz.func4
    (ChangeSpec.witness6 (enc := enc) (C := Tryz.checked) false ⟨#[], #[.agg #[.int .i64 0, .slice none 0 0, .slice none 0 0], .slice none 0 0], []⟩ 8 (by kernel_rfl) (by kernel_rfl) (by kernel_rfl) (by kernel_rfl)) ?_
  intro W base args ds gs before hval0 hW _ _
  have hval : ∀ (j : Nat) t v, Tryz.f4.params[j]? = some t → args[j]? = some v → Value.okWide Tryz.prog W .any base t v := hval0
  have hW' := hW
  obtain ⟨p, q, hA0, hV, rfl, _, _⟩ := hW
  have hA : DataW.TrodAll enc Tryz.prog W 0 (fun _ => true) true Tryz.f4.params.toList args.toList ds p := hA0
  rw [Tryz.params4] at hA hval
  obtain ⟨v0, v1, d0, d1, p0, p1, rfl, rfl, rfl, h0, h1⟩ := trodAll_two hA
  obtain ⟨rfl, rfl⟩ := trodVars_none hV
  obtain ⟨pages, A, M, n, cap, mn, mcap, bs, ms, rfl, e1, e2, e3, e4, g1, g2, g3⟩ := openCaseK (hval 0 59 v0 rfl rfl) h0
  obtain ⟨Au, nu, cu, us, rfl, q1, _, q3, q4⟩ := openU8s (hval 1 60 v1 rfl rfl) h1
  simp only [List.append_nil] at hW'
  refine (wholeLaw_any A M Au n cap mn mcap nu cu pages bs ms us W e1 e2 e3 e4 g1 g2 g3 q1 q3 q4).mono fun e W' ⟨he, hb⟩ => ?_
  subst he
  exact ⟨_, rfl, post_of_below (pv := []) hW' (fun _ _ _ => trodAll_mk1 (shut_bool Tryz.underlying4 true))
    (fun sp hsp => by rw [Tryz.params4]; exact trodAll_mk2 (WideElems.Trod_stays laidOut_ (by kernel_rfl) (of_decide_eq_true (by kernel_rfl)) h0 (fun x hx => hb.same (hW'.lt x (by simp [hx]))) (fun x hx => hsp x (by simp [hx]))) (WideElems.Trod_stays laidOut_ (by kernel_rfl) (of_decide_eq_true (by kernel_rfl)) h1 (fun x hx => hb.same (hW'.lt x (by simp [hx]))) (fun x hx => hsp x (by simp [hx]))))
    (fun _ _ => rfl) (by simp) hb (ok_one (by kernel_rfl) rfl (okWide_bool_mk Tryz.underlying4 true))⟩
theorem movingWhole_holds : Rows.MovingWholeSaid :=
  OpenClaim.holds_of_wide 4 Tryz.f4 rfl rfl rfl rfl rfl rfl rfl ⟨rfl, rfl, rfl, rfl, rfl⟩ rfl rfl rfl rfl rfl (by kernel_rfl) Tryz.func4 (by kernel_rfl)
    (of_decide_eq_true (by kernel_rfl)) (by unfold Func.isWrapper; rw [if_neg (of_decide_eq_false (by kernel_rfl))]; exact ⟨rfl, rfl⟩)
    (fun os started H enc _ => movingWhole_lifted os started H enc)
end Go.Proofs.YtpabnbhbcphfiaaGreat
