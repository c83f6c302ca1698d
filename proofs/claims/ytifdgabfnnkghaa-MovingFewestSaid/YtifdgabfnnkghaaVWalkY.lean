/- Walk: the law MovingFewest. -/
import Derived.Test.YtifdgabfnnkghaaLibT
import Derived.Test.YtifdgabfnnkghaaVWalkX
namespace Go.Proofs.Ytifdgabfnnkghaa
open Go Go.Proofs Go.RowKit Go.Pol Go.Shelf Go.Deep

/-- where given moves go -/
theorem after_to {pages : Int} : ∀ (ms : List (Int × Int)) (cs cs' : List B3), okB pages cs → afterL pages cs ms = (cs', 0) → ∀ mv ∈ ms, 0 ≤ mv.2 ∧ mv.2 ≤ pages
  | [], _, _, _, _ => by simp
  | mv :: r, cs, cs', ok, h => by
    rw [afterL] at h
    by_cases hp : possB pages cs mv = 0
    · rw [if_pos hp] at h
      have ih := after_to r _ cs' (okB_mov ok hp) h
      intro m hm
      rcases List.mem_cons.1 hm with rfl | hm
      · have hI := insB_iff.1 (possB_zero hp).2.2.1
        have := pw_pos (cs.getD m.1.toNat b0).2.1
        omega
      · exact ih m hm
    · rw [if_neg hp] at h
      injection h with _ h
      exact absurd h hp
/-- the cells that the law's loop reads for one move -/
def CaseS (s n cap mn mcap b off k li b2 o2 : Nat) (ya yo : Int) (yc : Bool) (W : World) : Prop :=
  W.cell? ⟨s, 1, none⟩ = some (.slice (some ⟨b2, o2, none⟩) n cap) ∧ W.cell? ⟨s, 2, none⟩ = some (.slice (some ⟨b, off, none⟩) mn mcap) ∧ W.cell? ⟨b, off + k * 2, none⟩ = some (.int .i64 (li : Int)) ∧
    W.cell? ⟨b2, o2 + li * 3, none⟩ = some (.int .i64 ya) ∧ W.cell? ⟨b2, o2 + li * 3 + 1, none⟩ = some (.int .i64 yo) ∧ W.cell? ⟨b2, o2 + li * 3 + 2, none⟩ = some (.bool yc)
theorem CaseS.later {s n cap mn mcap b off k li b2 o2 : Nat} {ya yo : Int} {yc : Bool} {w W : World} (h : CaseS s n cap mn mcap b off k li b2 o2 ya yo yc w) (hb : Below w.heap.size w W) : CaseS s n cap mn mcap b off k li b2 o2 ya yo yc W := by
  obtain ⟨h1, h2, h3, h4, h5, h6⟩ := h
  refine ⟨?_, ?_, ?_, ?_, ?_, ?_⟩
  · rw [hb.cell (World.block_lt_of_cell? _ _ h1)]; exact h1
  · rw [hb.cell (World.block_lt_of_cell? _ _ h2)]; exact h2
  · rw [hb.cell (World.block_lt_of_cell? _ _ h3)]; exact h3
  · rw [hb.cell (World.block_lt_of_cell? _ _ h4)]; exact h4
  · rw [hb.cell (World.block_lt_of_cell? _ _ h5)]; exact h5
  · rw [hb.cell (World.block_lt_of_cell? _ _ h6)]; exact h6
theorem page_form (c : Int) (pg sz Q : Nat) (h1 : 1 ≤ pg) (h2 : pg ≤ 1024) (hq : pg = Q * sz) : ∃ k : Nat, k < Q ∧ wrap64 (wrap64 ((wrap64 ((IntKind.u64.wrap c).tmod (pg : Int))).tdiv (sz : Int)) * (sz : Int)) = ((k * sz : Nat) : Int) := by
  have hu : 0 ≤ IntKind.u64.wrap c := by
    simp only [IntKind.wrap, IntKind.bits, IntKind.signed, Bool.false_and, Bool.false_eq_true, if_false]
    exact Int.emod_nonneg _ (by decide)
  obtain ⟨u, hu'⟩ := Int.eq_ofNat_of_zero_le hu
  rw [hu']
  have e1 : ((u : Int)).tmod (pg : Int) = ((u % pg : Nat) : Int) := rfl
  have hx := Nat.mod_lt u (show 0 < pg by omega)
  rw [e1]
  generalize u % pg = x at *
  have e2 : wrap64 (x : Int) = (x : Int) := IntWalk.wrap64_in _ (by omega)
  rw [e2]
  have e3 : ((x : Int)).tdiv (sz : Int) = ((x / sz : Nat) : Int) := rfl
  rw [e3]
  have hd : x / sz < Q := Nat.div_lt_of_lt_mul (by rw [Nat.mul_comm]; omega)
  have hm := Nat.div_mul_le_self x sz
  have hd2 := Nat.div_le_self x sz
  refine ⟨x / sz, hd, ?_⟩
  generalize x / sz = k at *
  have e4 : wrap64 (k : Int) = (k : Int) := IntWalk.wrap64_in _ (by omega)
  have e5 : ((k : Int) * (sz : Int)) = ((k * sz : Nat) : Int) := by simp
  rw [e4, e5]
  exact IntWalk.wrap64_in _ (by omega)
set_option maxRecDepth 100000 in
set_option maxHeartbeats 3200000 in
theorem fewestOk_any (pg P : Nat) (A M : Option Addr) (n cap mn mcap : Nat) (bs : List B3) (mvs : List (Int × Int)) (o : Nat) (cand : Int) (w : World) (hn : bs.length = n) (hz : A = none → cap = 0) (hmn : mvs.length = mn) (hm64 : mn ≤ 64) (hr : RT w w.heap.size A bs) (hu : RU w w.heap.size M mvs) (hP10 : P ≤ 10) (hpg : pg = 2 ^ P) (hoP : o ≤ P) (hc : chkB (pg : Int) bs = 0) :
    Calls Try.prog 6 #[.agg #[.int .i64 pg, .slice A n cap, .slice M mn mcap], .int .i64 o, .int .i64 cand] w fun e w' => e = .returned (.bool true) ∧ Below w.heap.size w w' := by
  have ok := chkB_ok hc
  have hn64 : n ≤ 64 := by rw [← hn]; exact ok.len
  have hml : n ≤ maxLen := by unfold maxLen; omega
  have hmml : mn ≤ maxLen := by unfold maxLen; omega
  have hpg1024 : pg ≤ 1024 := by rw [hpg]; exact Nat.pow_le_pow_right (by decide) hP10
  have hpg1 : 1 ≤ pg := by rw [hpg]; exact Nat.two_pow_pos P
  have hb0 := (Below.refl w.heap.size w).alloc (Nat.le_refl _) (.cells #[.int .i64 pg, .slice A n cap, .slice M mn mcap] 46)
  have k0 := Blk.new w 46 #[.int .i64 pg, .slice A n cap, .slice M mn mcap]
  obtain ⟨s, hs⟩ : ∃ s, w.heap.size = s := ⟨_, rfl⟩
  have hs1 : (w.alloc (.cells #[.int .i64 pg, .slice A n cap, .slice M mn mcap] 46)).heap.size = s + 1 := by rw [World.size_alloc, hs]
  have hrS : RT w s A bs := by rw [← hs]; exact hr
  have huS : RU w s M mvs := by rw [← hs]; exact hu
  rw [hs] at k0 hb0 ⊢
  have HC := Lib.hid (fun W (h : Below s w W) (hz : s ≤ W.heap.size) => show Calls Try.prog 15 #[.int .i64 pg, .slice A n cap] W fun e w' => e = .returned (.int .i64 0) ∧ Below W.heap.size W w' from by rw [← hc]; exact refCheck_any pg A n cap bs W hn hml ((hrS.below h).more hz))
  have HS := Lib.hid (fun W => refSize_any (o : Int) W ⟨by omega, by omega⟩)
  rw [pw_nat] at HS
  have hle : 2 ^ o ≤ pg := by rw [hpg]; exact pow_le_iff.2 hoP
  obtain ⟨sz, hsz⟩ : ∃ sz, 2 ^ o = sz := ⟨_, rfl⟩
  have hsz1 : 1 ≤ sz := by rw [← hsz]; exact Nat.two_pow_pos o
  rw [hsz] at HS hle
  have hsz' := Lib.hid hsz
  have a1' : decide ((64 : Int) < (n : Int)) = false := by simp; omega
  have a2' : decide ((64 : Int) < (mn : Int)) = false := by simp; omega
  have a4' : decide ((o : Int) < 0) = false := by simp
  have a5' : decide ((10 : Int) < (o : Int)) = false := by simp; omega
  have a6' : decide ((pg : Int) < (sz : Int)) = false := by simp; omega
  have a6d : decide (pg < sz) = false := by simp; omega
  have hn' := Lib.hid hn
  have hmn' := Lib.hid hmn
  have hc' := Lib.hid hc
  have hpg' := Lib.hid hpg
  have ok' := Lib.hid ok
  clear hn hr hu hsz hc hpg hmn ok
  go_enter Try.func6, Try.ntmps6
  go_upto_region 1 with fail
  clear hs
  generalize w.alloc (Obj.cells #[.int .i64 pg, .slice A n cap, .slice M mn mcap] 46) = w1 at *
  have q1 := fun z : Ext w1 => (z.blk k0).cell
  have G := Lib.hid (fun z : Ext w1 => Ext.call (x := z) (HC.out z.w (hb0.trans (z.le.mono (by omega))) (by have := z.le.size; omega)))
  have GS := Lib.hid (fun z : Ext w1 => Ext.call (x := z) ((HS.out z.w).mono (fun e w' h => ⟨h.1, by rw [h.2]; exact Below.refl _ _⟩)))
  refine region_ext (by kernel_rfl) (by kernel_rfl) ?_
  repeat (go_big_quiet_step ((first | (go_at_call 15; exact G.out _) | (go_at_call 22; exact GS.out _))))
  refine wpQuiet_nil ?_
  rintro w2 ⟨⟨_, hw2⟩, rfl⟩
  have B2 := hb0.trans (hw2.mono (by omega))
  have B2s : s + 1 ≤ w2.heap.size := by have := hw2.size; omega
  have k2 := k0.call hw2
  have c2 := k2.cell
  clear q1 G GS hw2 hb0 k0 hs1
  go_upto_region 5 with (go_at_call 22; refine (HS.out _).mono ?_; rintro e wS ⟨rfl, hwS⟩; replace hwS := hwS.symm; subst hwS)
  obtain ⟨Q, hQ⟩ : ∃ Q, pg / 2 ^ o = Q := ⟨_, rfl⟩
  have hdv : 2 ^ o ∣ pg := by rw [hpg'.out]; exact Nat.pow_dvd_pow 2 hoP
  have hpq : pg = Q * sz := by rw [← hQ, ← hsz'.out]; exact (Nat.div_mul_cancel hdv).symm
  obtain ⟨kc, hkc, hform⟩ := page_form cand pg sz Q hpg1 hpg1024 hpq
  rw [hform]
  obtain ⟨p, hp⟩ : ∃ p, kc * sz = p := ⟨_, rfl⟩
  have hpsz : p + sz ≤ pg := by
    have := Nat.mul_le_mul_right sz (show kc + 1 ≤ Q by omega)
    rw [Nat.succ_mul, hp, ← hpq] at this
    exact this
  rw [hp]
  have hp' := Lib.hid hp
  have hkQ : Hid (kc < pg / 2 ^ o) := Lib.hid (by rw [hQ]; exact hkc)
  clear hQ hdv hpq hform hkc hp HC
  have hafL : Hid (afterB (pg : Int) bs mvs = afterL (pg : Int) bs mvs) := Lib.hid (by unfold afterB; rw [if_pos hc'.out, if_neg (by have := hmn'.out; omega)])
  have HA := Lib.hid (fun W (h : RT W W.heap.size A bs) (h' : RU W W.heap.size M mvs) => refAfter_any (pg : Int) A M n cap mn mcap bs mvs W hn'.out hml hz h hmn'.out hmml h')
  obtain ⟨R, hR⟩ : ∃ R, afterB (pg : Int) bs mvs = R := ⟨_, rfl⟩
  have hcl := afterB_len (pg : Int) bs mvs
  rw [hR] at HA hcl
  obtain ⟨cs, er⟩ := R
  unfold AfterR at HA
  simp only at HA hcl
  have hr2 := (hrS.below B2).more (show s ≤ w2.heap.size by omega)
  have hu2 := (huS.below B2).more (show s ≤ w2.heap.size by omega)
  by_cases he : er = 0
  case neg =>
    have he' : (er != 0) = true := by simpa using he
    clear he hR hcl
    go_wp2_with (first
      | (go_at_call 11; refine (HA.out _ hr2 hu2).mono ?_; rintro e w3 ⟨A3, c3, rfl, r3, hb3⟩)
      | (go_at_call 9; refine (awake24_any _).mono ?_; rintro e w6 ⟨rfl, hb6⟩))
    go_ret
    have B3 := B2.trans (hb3.mono (by omega))
    exact ⟨rfl, B3.trans (hb6.mono (by have := hb3.size; omega))⟩
  subst he
  have haL : Hid (afterL (pg : Int) bs mvs = (cs, 0)) := Lib.hid (by rw [← hafL.out]; exact hR)
  have htr := Lib.hid (after_trace mvs bs cs ok'.out haL.out)
  have hto := Lib.hid (after_to mvs bs cs ok'.out haL.out)
  have hok2 : ∀ b ∈ cs, okPl b := fun b hb => ins_okPl (pages := (pg : Int)) (by omega) (htr.out.1.ins b hb)
  have hcln : cs.length = n := by rw [htr.out.2.1]; exact hn'.out
  have HF := Lib.hid (fun A2 cap2 W (h : RT W W.heap.size A2 cs) => lawFree_any A2 n cap2 cs (p : Int) (sz : Int) W hcln (by omega) h hok2 ⟨by omega, by omega⟩ ⟨by omega, by omega⟩)
  rw [hcln] at HA
  clear hcl hR hafL hok2
  have hfr : Hid (freeL cs (p : Int) (sz : Int) = true → ∀ i, i < bs.length → ¬ hitB (cs.getD i b0) (kc * 2 ^ o) (2 ^ o)) := Lib.hid (fun h i hi => by
    rw [hsz'.out, hp'.out]
    exact freeL_iff.1 h i (by have := hn'.out; omega))
  clear hcln
  cases hfv : freeL cs (p : Int) (sz : Int) with
  | false =>
    rw [hfv] at HF
    clear hfv hfr
    go_wp2_with (first
      | (go_at_call 11; refine (HA.out _ hr2 hu2).mono ?_; rintro e w3 ⟨A3, c3, rfl, r3, hb3⟩)
      | (go_at_call 24; refine (HF.out _ _ _ r3).mono ?_; rintro e w4 ⟨rfl, hb4⟩)
      | (go_at_call 9; refine (awake24_any _).mono ?_; rintro e w6 ⟨rfl, hb6⟩))
    go_ret
    have B3 := B2.trans (hb3.mono (by omega))
    have b34 := hb3.trans (hb4.mono hb3.size)
    have B4 := B2.trans (b34.mono (by omega))
    exact ⟨rfl, B4.trans (hb6.mono (by have := b34.size; omega))⟩
  | true =>
    rw [hfv] at HF
    have hfree := Lib.hid (hfr.out hfv)
    clear hfv hfr
    go_upto_region 8 with (first
      | (go_at_call 11; refine (HA.out _ hr2 hu2).mono ?_; rintro e w3 ⟨A3, c3, rfl, r3, hb3⟩)
      | (go_at_call 24; refine (HF.out _ _ _ r3).mono ?_; rintro e w4 ⟨rfl, hb4⟩))
    have b34 := hb3.trans (hb4.mono hb3.size)
    have B4 := B2.trans (b34.mono (by omega))
    have B4s : s + 1 ≤ w4.heap.size := by have := b34.size; omega
    have k4 := k2.call b34
    clear k2 c2 hb3 hb4 r3 b34 B2 B2s hr2 hu2 HA HF
    go_wp2_with fail
    go_loopw [11] (fun i wr => ∃ k : Nat, k ≤ mn ∧ i = .int .i64 k ∧ Below w4.heap.size w4 wr ∧ Hid (∀ j, j < k → hitB (bs.getD (mvs.getD j (0,0)).1.toNat b0) p sz)) (fun i _ => mn - (intOf i).toNat)
    case atStart => exact ⟨0, by omega, rfl, Below.refl _ _, Lib.hid (fun j hj => by omega)⟩
    case round =>
      obtain ⟨k, hk, rfl, hB, hH⟩ := hrel
      have hBs := hB.size
      have kk := k4.call hB
      have ck := kk.cell
      have BB := B4.trans (hB.mono (by omega))
      by_cases hlt : k < mn
      · have hlt' : decide ((k : Int) < (mn : Int)) = true := by simpa using hlt
        have hlt2 : decide (k < mn) = true := by simpa using hlt
        obtain ⟨b, off, rfl, hbl, d1, d2⟩ := RU.at_' (huS.below BB) (k := k) (by have := hmn'.out; omega)
        have hmem : mvs.getD k (0,0) ∈ mvs := by
          rw [List.getD_eq_getElem?_getD, List.getElem?_eq_getElem (by have := hmn'.out; omega)]; simp
        obtain ⟨⟨m0, m1⟩, _⟩ := htr.out.2.2.2.2 _ hmem
        have hmt := hto.out _ hmem
        have hstep : Hid (hitB (bs.getD (mvs.getD k (0,0)).1.toNat b0) p sz → ∀ j, j < k + 1 → hitB (bs.getD (mvs.getD j (0,0)).1.toNat b0) p sz) := Lib.hid (fun h j hj => by
          by_cases e : j = k
          · rw [e]; exact h
          · exact hH.out j (by omega))
        generalize mvs.getD k (0,0) = mv at *
        obtain ⟨li', tt⟩ := mv
        simp only at d1 d2 m0 m1 hmt hstep
        obtain ⟨li, rfl⟩ := Int.eq_ofNat_of_zero_le m0
        rw [Int.toNat_natCast] at hstep
        have hlin : li < n := by have := hn'.out; omega
        obtain ⟨b2, o2, rfl, hbl2, e1, e2, e3⟩ := (hrS.below BB).at_ (k := li) (by have := hn'.out; omega)
        have hoky := ins_okPl (pages := (pg : Int)) (by omega) (ok'.out.ins _ (memD (cs := bs) (k := li) (by have := hn'.out; omega)))
        generalize bs.getD li b0 = y at *
        obtain ⟨ya, yo, yc⟩ := y
        simp only at e1 e2 e3
        obtain ⟨hya, hyo⟩ := hoky
        simp only at hya hyo
        have HS2 := Lib.hid (fun W => refSize_any yo W hyo)
        have hp1 := pw_pos yo
        have hp2 := pw_le hyo.2
        have hdec : Hid (∀ u v : Bool, decide (ya < (p : Int) + (sz : Int)) = u → decide ((p : Int) < ya + pw yo) = v → (u = true → v = true → hitB (ya, yo, yc) p sz)) := Lib.hid (fun u v hu hv h1 h2 => by
          subst hu; subst hv
          rw [decide_eq_true_eq] at h1 h2
          exact ⟨by simp only; omega, h2⟩)
        obtain ⟨q, hq⟩ : ∃ q, pw yo = q := ⟨_, rfl⟩
        rw [hq] at HS2 hp1 hp2 hdec
        clear hq m1 hmem
        have hS0 : CaseS s n cap mn mcap b off k li b2 o2 ya yo yc wr := ⟨ck 1, ck 2, d1, e1, e2, e3⟩
        go_upto_region 11 with fail
        refine wp_region_T (CaseS s n cap mn mcap b off k li b2 o2 ya yo yc) [11] (by kernel_rfl) ?_
        have hS : CaseS s n cap mn mcap b off k li b2 o2 ya yo yc wr.drew := hS0
        refine' wpAnyT_take (i := 0) (v := _) ?hiT0 (by kernel_rfl) ?hQT0 (Or.inl ⟨?hwT0, ?hyT0⟩) hS ?reT0
        case hiT0 => (simp only [List.getElem?_toArray, List.getElem?_cons_zero]; rfl)
        case hQT0 => exact fun _ _ _ h => h
        case hwT0 => rfl
        case hyT0 => (intro wS hSw; obtain ⟨_, _⟩ := hSw; go_simp; (try with_reducible rfl))
        try simp only [Act.put, List.setIfInBounds_toArray, List.set_cons_zero, List.set_cons_succ]
        refine' wpAnyT_take (i := 1) (v := _) ?hiT1 (by kernel_rfl) ?hQT1 (Or.inl ⟨?hwT1, ?hyT1⟩) hS ?reT1
        case hiT1 => (simp only [List.getElem?_toArray, List.getElem?_cons_succ, List.getElem?_cons_zero]; rfl)
        case hQT1 => exact fun _ _ _ h => h
        case hwT1 => rfl
        case hyT1 => (intro wS hSw; obtain ⟨_, _⟩ := hSw; go_simp; (try with_reducible rfl))
        try simp only [Act.put, List.setIfInBounds_toArray, List.set_cons_zero, List.set_cons_succ]
        refine' wpAnyT_take (i := 2) (v := _) ?hiT2 (by kernel_rfl) ?hQT2 (Or.inl ⟨?hwT2, ?hyT2⟩) hS ?reT2
        case hiT2 => (simp only [List.getElem?_toArray, List.getElem?_cons_succ, List.getElem?_cons_zero]; rfl)
        case hQT2 => exact fun _ _ _ h => h
        case hwT2 => rfl
        case hyT2 => (intro wS hSw; obtain ⟨_, _⟩ := hSw; go_simp; (try with_reducible rfl))
        try simp only [Act.put, List.setIfInBounds_toArray, List.set_cons_zero, List.set_cons_succ]
        refine' wpAnyT_take (i := 3) (v := _) ?hiT3 (by kernel_rfl) ?hQT3 (Or.inl ⟨?hwT3, ?hyT3⟩) hS ?reT3
        case hiT3 => (simp only [List.getElem?_toArray, List.getElem?_cons_succ, List.getElem?_cons_zero]; rfl)
        case hQT3 => exact fun _ _ _ h => h
        case hwT3 => rfl
        case hyT3 => (intro wS hSw; obtain ⟨_, _⟩ := hSw; go_simp; (try with_reducible rfl))
        try simp only [Act.put, List.setIfInBounds_toArray, List.set_cons_zero, List.set_cons_succ]
        refine' wpAnyT_take (i := 4) (v := _) ?hiT4 (by kernel_rfl) ?hQT4 (Or.inl ⟨?hwT4, ?hyT4⟩) hS ?reT4
        case hiT4 => (simp only [List.getElem?_toArray, List.getElem?_cons_succ, List.getElem?_cons_zero]; rfl)
        case hQT4 => exact fun _ _ _ h => h
        case hwT4 => rfl
        case hyT4 => (intro wS hSw; obtain ⟨_, _⟩ := hSw; go_simp; (try with_reducible rfl))
        try simp only [Act.put, List.setIfInBounds_toArray, List.set_cons_zero, List.set_cons_succ]
        refine' wpAnyT_take (i := 5) (v := _) ?hiT5 (by kernel_rfl) ?hQT5 (Or.inl ⟨?hwT5, ?hyT5⟩) hS ?reT5
        case hiT5 => (simp only [List.getElem?_toArray, List.getElem?_cons_succ, List.getElem?_cons_zero]; rfl)
        case hQT5 => exact fun _ _ _ h => h
        case hwT5 => rfl
        case hyT5 => (intro wS hSw; obtain ⟨_, _⟩ := hSw; go_simp; (try with_reducible rfl))
        try simp only [Act.put, List.setIfInBounds_toArray, List.set_cons_zero, List.set_cons_succ]
        refine' wpAnyT_take (i := 6) (v := _) ?hiT6 (by kernel_rfl) ?hQT6 (Or.inl ⟨?hwT6, ?hyT6⟩) hS ?reT6
        case hiT6 => (simp only [List.getElem?_toArray, List.getElem?_cons_succ, List.getElem?_cons_zero]; rfl)
        case hQT6 => exact fun _ _ _ h => h
        case hwT6 => rfl
        case hyT6 => (intro wS hSw; obtain ⟨_, _⟩ := hSw; go_simp; (try with_reducible rfl))
        try simp only [Act.put, List.setIfInBounds_toArray, List.set_cons_zero, List.set_cons_succ]
        refine' wpAnyT_take (i := 7) (v := _) ?hiT7 (by kernel_rfl) ?hQT7 (Or.inl ⟨?hwT7, ?hyT7⟩) hS ?reT7
        case hiT7 => (simp only [List.getElem?_toArray, List.getElem?_cons_succ, List.getElem?_cons_zero]; rfl)
        case hQT7 => exact fun _ _ _ h => h
        case hwT7 => rfl
        case hyT7 => (intro wS hSw; obtain ⟨_, _⟩ := hSw; go_simp; (try with_reducible rfl))
        try simp only [Act.put, List.setIfInBounds_toArray, List.set_cons_zero, List.set_cons_succ]
        refine' wpAnyT_take (i := 8) (v := _) ?hiT8 (by kernel_rfl) ?hQT8 (Or.inl ⟨?hwT8, ?hyT8⟩) hS ?reT8
        case hiT8 => (simp only [List.getElem?_toArray, List.getElem?_cons_succ, List.getElem?_cons_zero]; rfl)
        case hQT8 => exact fun _ _ _ h => h
        case hwT8 => rfl
        case hyT8 => (intro wS hSw; obtain ⟨_, _⟩ := hSw; go_simp; (try with_reducible rfl))
        try simp only [Act.put, List.setIfInBounds_toArray, List.set_cons_zero, List.set_cons_succ]
        refine' wpAnyT_take (i := 9) (v := _) ?hiT9 (by kernel_rfl) ?hQT9 (Or.inl ⟨?hwT9, ?hyT9⟩) hS ?reT9
        case hiT9 => (simp only [List.getElem?_toArray, List.getElem?_cons_succ, List.getElem?_cons_zero]; rfl)
        case hQT9 => exact fun _ _ _ h => h
        case hwT9 => rfl
        case hyT9 => (intro wS hSw; obtain ⟨_, _⟩ := hSw; go_simp; (try with_reducible rfl))
        try simp only [Act.put, List.setIfInBounds_toArray, List.set_cons_zero, List.set_cons_succ]
        refine wpAnyT_ready (rs := [10]) (by kernel_rfl) (by simp) ?_
        refine' AllReadyT.cons ?hi10 (fun K hK => ?st10) AllReadyT.nil
        case hi10 => (simp only [List.getElem?_toArray, List.getElem?_cons_succ, List.getElem?_cons_zero]; rfl)
        go_simp
        have hbz := ((Below.refl wr.heap.size wr).alloc (Nat.le_refl _) (.cells #[.int .i64 0, .int .i64 0, .bool false] 44)).drew
        have kZ : Blk (wr.alloc (.cells #[.int .i64 0, .int .i64 0, .bool false] 44)).drew wr.heap.size 44 #[.int .i64 0, .int .i64 0, .bool false] := Blk.new wr 44 #[.int .i64 0, .int .i64 0, .bool false]
        refine hK.out _ _ (fun _ => hS0.later hbz) (fun hS => ?_)
        clear hK K hS
        have cZ := kZ.cell
        have fZ := kZ.frozen
        try simp only [Act.put, List.setIfInBounds_toArray, List.set_cons_zero, List.set_cons_succ]
        refine wpAnyT_ready (rs := [11]) (by kernel_rfl) (by simp) ?_
        refine' AllReadyT.cons ?hi11 (fun K hK => ?st11) AllReadyT.nil
        case hi11 => (simp only [List.getElem?_toArray, List.getElem?_cons_succ, List.getElem?_cons_zero]; rfl)
        go_simp
        refine hK.out _ _ (fun h => absurd h (by decide)) (fun _ => ?_)
        clear hK K
        refine wpAnyT_done (by kernel_rfl) ?_ _
        have hbX := ((Below.refl wr.heap.size wr).alloc (Nat.le_refl _) (.cells #[.int .i64 ya, .int .i64 yo, .bool yc] 44)).drew
        have kX : Blk (wr.alloc (.cells #[.int .i64 ya, .int .i64 yo, .bool yc] 44)).drew wr.heap.size 44 #[.int .i64 ya, .int .i64 yo, .bool yc] := Blk.new wr 44 #[.int .i64 ya, .int .i64 yo, .bool yc]
        have kkX := kk.call hbX
        have hd2 := (hbX.cell (World.block_lt_of_cell? _ _ d2)).trans d2
        have hBX := hB.trans (hbX.mono hBs)
        try simp only [Act.put, List.setIfInBounds_toArray, List.set_cons_zero, List.set_cons_succ]
        clear cZ fZ kZ hbz hS0 d1 d2 e1 e2 e3 ck kk hbX
        generalize (wr.alloc (.cells #[.int .i64 ya, .int .i64 yo, .bool yc] 44)).drew = wX at *
        have q1 := fun z : Ext wX => (z.blk kX).cell
        have G := Lib.hid (fun z : Ext wX => Ext.call (x := z) ((HS2.out z.w).mono (fun e w' h => ⟨h.1, by rw [h.2]; exact Below.refl _ _⟩)))
        go_upto_region 12 with fail
        by_cases i1 : ya < (p : Int) + (sz : Int)
        · have i1' : decide (ya < (p : Int) + (sz : Int)) = true := by simpa using i1
          by_cases i2 : (p : Int) < ya + q
          · have i2' : decide ((p : Int) < ya + q) = true := by simpa using i2
            have hhit := Lib.hid (hstep.out (hdec.out true true i1' i2' rfl rfl))
            clear i1 i2 hdec hstep
            refine region_ext (by kernel_rfl) (by kernel_rfl) ?_
            repeat (go_big_quiet_step ((go_at_call 22; exact G.out _)))
            refine wpQuiet_nil ?_
            rintro w12 ⟨⟨_, hw12⟩, rfl⟩
            have kk12 := kkX.call hw12
            have kX12 := kX.call hw12
            have hd12 := (hw12.cell (World.block_lt_of_cell? _ _ hd2)).trans hd2
            have hB12 := hBX.trans (hw12.mono hBX.size)
            have q2 := fun z : Ext w12 => (z.blk kX12).cell
            have q3 := fun z : Ext w12 => (z.blk kk12).cell
            have q4 := fun z : Ext w12 => z.cell hd12
            have G2 := Lib.hid (fun z : Ext w12 => Ext.call (x := z) ((HS2.out z.w).mono (fun e w' h => ⟨h.1, by rw [h.2]; exact Below.refl _ _⟩)))
            clear q1 G kkX kX hd2 hBX hw12
            by_cases u1 : tt + q ≤ (p : Int)
            · have u1' : decide (tt + q ≤ (p : Int)) = true := by simpa using u1
              clear u1
              go_upto_region 13 with fail
              refine region_ext (by kernel_rfl) (by kernel_rfl) ?_
              repeat (go_big_quiet_step ((go_at_call 22; exact G2.out _)))
              refine wpQuiet_nil ?_
              rintro w13 ⟨⟨_, hw13⟩, rfl⟩
              have hB13 := hB12.trans (hw13.mono hB12.size)
              go_wp2_with fail
              go_roundw
              case rel => exact ⟨k + 1, by omega, by go_num, hB13, hhit⟩
              case measure => simp [intOf]; omega
            · have u1' : decide (tt + q ≤ (p : Int)) = false := by simpa using u1
              by_cases u2 : (p : Int) + (sz : Int) ≤ tt
              · have u2' : decide ((p : Int) + (sz : Int) ≤ tt) = true := by simpa using u2
                clear u1 u2
                go_upto_region 13 with fail
                refine region_ext (by kernel_rfl) (by kernel_rfl) ?_
                repeat (go_big_quiet_step ((go_at_call 22; exact G2.out _)))
                refine wpQuiet_nil ?_
                rintro w13 ⟨⟨_, hw13⟩, rfl⟩
                have hB13 := hB12.trans (hw13.mono hB12.size)
                go_wp2_with fail
                go_roundw
                case rel => exact ⟨k + 1, by omega, by go_num, hB13, hhit⟩
                case measure => simp [intOf]; omega
              · have u2' : decide ((p : Int) + (sz : Int) ≤ tt) = false := by simpa using u2
                clear u1 u2
                go_upto_region 13 with fail
                refine region_ext (by kernel_rfl) (by kernel_rfl) ?_
                repeat (go_big_quiet_step ((go_at_call 22; exact G2.out _)))
                refine wpQuiet_nil ?_
                rintro w13 ⟨⟨_, hw13⟩, rfl⟩
                have hB13 := hB12.trans (hw13.mono hB12.size)
                go_wp2_with (go_at_call 9; refine (awake24_any _).mono ?_; rintro e w6 ⟨rfl, hb6⟩)
                go_ret
                have B13 := B4.trans (hB13.mono (by omega))
                exact ⟨rfl, B13.trans (hb6.mono (by have := hB13.size; omega))⟩
          · have i2' : decide ((p : Int) < ya + q) = false := by simpa using i2
            clear i1 i2 hdec hstep
            refine region_ext (by kernel_rfl) (by kernel_rfl) ?_
            repeat (go_big_quiet_step ((go_at_call 22; exact G.out _)))
            refine wpQuiet_nil ?_
            rintro w12 ⟨⟨_, hw12⟩, rfl⟩
            have kk12 := kkX.call hw12
            have kX12 := kX.call hw12
            have hd12 := (hw12.cell (World.block_lt_of_cell? _ _ hd2)).trans hd2
            have hB12 := hBX.trans (hw12.mono hBX.size)
            have q2 := fun z : Ext w12 => (z.blk kX12).cell
            have q3 := fun z : Ext w12 => (z.blk kk12).cell
            have q4 := fun z : Ext w12 => z.cell hd12
            have G2 := Lib.hid (fun z : Ext w12 => Ext.call (x := z) ((HS2.out z.w).mono (fun e w' h => ⟨h.1, by rw [h.2]; exact Below.refl _ _⟩)))
            clear q1 G kkX kX hd2 hBX hw12
            by_cases u1 : tt + q ≤ (p : Int)
            · have u1' : decide (tt + q ≤ (p : Int)) = true := by simpa using u1
              clear u1
              go_upto_region 13 with fail
              refine region_ext (by kernel_rfl) (by kernel_rfl) ?_
              repeat (go_big_quiet_step ((go_at_call 22; exact G2.out _)))
              refine wpQuiet_nil ?_
              rintro w13 ⟨⟨_, hw13⟩, rfl⟩
              have hB13 := hB12.trans (hw13.mono hB12.size)
              go_wp2_with (go_at_call 9; refine (awake24_any _).mono ?_; rintro e w6 ⟨rfl, hb6⟩)
              go_ret
              have B13 := B4.trans (hB13.mono (by omega))
              exact ⟨rfl, B13.trans (hb6.mono (by have := hB13.size; omega))⟩
            · have u1' : decide (tt + q ≤ (p : Int)) = false := by simpa using u1
              by_cases u2 : (p : Int) + (sz : Int) ≤ tt
              · have u2' : decide ((p : Int) + (sz : Int) ≤ tt) = true := by simpa using u2
                clear u1 u2
                go_upto_region 13 with fail
                refine region_ext (by kernel_rfl) (by kernel_rfl) ?_
                repeat (go_big_quiet_step ((go_at_call 22; exact G2.out _)))
                refine wpQuiet_nil ?_
                rintro w13 ⟨⟨_, hw13⟩, rfl⟩
                have hB13 := hB12.trans (hw13.mono hB12.size)
                go_wp2_with (go_at_call 9; refine (awake24_any _).mono ?_; rintro e w6 ⟨rfl, hb6⟩)
                go_ret
                have B13 := B4.trans (hB13.mono (by omega))
                exact ⟨rfl, B13.trans (hb6.mono (by have := hB13.size; omega))⟩
              · have u2' : decide ((p : Int) + (sz : Int) ≤ tt) = false := by simpa using u2
                clear u1 u2
                go_upto_region 13 with fail
                refine region_ext (by kernel_rfl) (by kernel_rfl) ?_
                repeat (go_big_quiet_step ((go_at_call 22; exact G2.out _)))
                refine wpQuiet_nil ?_
                rintro w13 ⟨⟨_, hw13⟩, rfl⟩
                have hB13 := hB12.trans (hw13.mono hB12.size)
                go_wp2_with (go_at_call 9; refine (awake24_any _).mono ?_; rintro e w6 ⟨rfl, hb6⟩)
                go_ret
                have B13 := B4.trans (hB13.mono (by omega))
                exact ⟨rfl, B13.trans (hb6.mono (by have := hB13.size; omega))⟩
        · have i1' : decide (ya < (p : Int) + (sz : Int)) = false := by simpa using i1
          clear i1 hdec hstep
          refine region_ext (by kernel_rfl) (by kernel_rfl) ?_
          repeat (go_big_quiet_step ((go_at_call 22; exact G.out _)))
          refine wpQuiet_nil ?_
          rintro w12 ⟨⟨_, hw12⟩, rfl⟩
          have kk12 := kkX.call hw12
          have kX12 := kX.call hw12
          have hd12 := (hw12.cell (World.block_lt_of_cell? _ _ hd2)).trans hd2
          have hB12 := hBX.trans (hw12.mono hBX.size)
          have q2 := fun z : Ext w12 => (z.blk kX12).cell
          have q3 := fun z : Ext w12 => (z.blk kk12).cell
          have q4 := fun z : Ext w12 => z.cell hd12
          have G2 := Lib.hid (fun z : Ext w12 => Ext.call (x := z) ((HS2.out z.w).mono (fun e w' h => ⟨h.1, by rw [h.2]; exact Below.refl _ _⟩)))
          clear q1 G kkX kX hd2 hBX hw12
          by_cases u1 : tt + q ≤ (p : Int)
          · have u1' : decide (tt + q ≤ (p : Int)) = true := by simpa using u1
            clear u1
            go_upto_region 13 with fail
            refine region_ext (by kernel_rfl) (by kernel_rfl) ?_
            repeat (go_big_quiet_step ((go_at_call 22; exact G2.out _)))
            refine wpQuiet_nil ?_
            rintro w13 ⟨⟨_, hw13⟩, rfl⟩
            have hB13 := hB12.trans (hw13.mono hB12.size)
            go_wp2_with (go_at_call 9; refine (awake24_any _).mono ?_; rintro e w6 ⟨rfl, hb6⟩)
            go_ret
            have B13 := B4.trans (hB13.mono (by omega))
            exact ⟨rfl, B13.trans (hb6.mono (by have := hB13.size; omega))⟩
          · have u1' : decide (tt + q ≤ (p : Int)) = false := by simpa using u1
            by_cases u2 : (p : Int) + (sz : Int) ≤ tt
            · have u2' : decide ((p : Int) + (sz : Int) ≤ tt) = true := by simpa using u2
              clear u1 u2
              go_upto_region 13 with fail
              refine region_ext (by kernel_rfl) (by kernel_rfl) ?_
              repeat (go_big_quiet_step ((go_at_call 22; exact G2.out _)))
              refine wpQuiet_nil ?_
              rintro w13 ⟨⟨_, hw13⟩, rfl⟩
              have hB13 := hB12.trans (hw13.mono hB12.size)
              go_wp2_with (go_at_call 9; refine (awake24_any _).mono ?_; rintro e w6 ⟨rfl, hb6⟩)
              go_ret
              have B13 := B4.trans (hB13.mono (by omega))
              exact ⟨rfl, B13.trans (hb6.mono (by have := hB13.size; omega))⟩
            · have u2' : decide ((p : Int) + (sz : Int) ≤ tt) = false := by simpa using u2
              clear u1 u2
              go_upto_region 13 with fail
              refine region_ext (by kernel_rfl) (by kernel_rfl) ?_
              repeat (go_big_quiet_step ((go_at_call 22; exact G2.out _)))
              refine wpQuiet_nil ?_
              rintro w13 ⟨⟨_, hw13⟩, rfl⟩
              have hB13 := hB12.trans (hw13.mono hB12.size)
              go_wp2_with (go_at_call 9; refine (awake24_any _).mono ?_; rintro e w6 ⟨rfl, hb6⟩)
              go_ret
              have B13 := B4.trans (hB13.mono (by omega))
              exact ⟨rfl, B13.trans (hb6.mono (by have := hB13.size; omega))⟩
      · obtain rfl : k = mn := by omega
        have hlt' : decide ((k : Int) < (k : Int)) = false := by simp
        have hin : ∀ mv ∈ mvs, hitB (bs.getD mv.1.toNat b0) (kc * 2 ^ o) (2 ^ o) := fun mv hm => by
          obtain ⟨j, hj, e⟩ := List.mem_iff_getElem.1 hm
          have := hH.out j (by have := hmn'.out; omega)
          have hg : mvs.getD j (0,0) = mv := by rw [List.getD_eq_getElem?_getD, List.getElem?_eq_getElem hj]; exact e
          rw [hg] at this
          rw [hsz'.out, hp'.out]
          exact this
        obtain ⟨his, hlea⟩ := fewest_law hc'.out hpg1024 hkQ.out haL.out hfree.out hin
        have hPF := PlanF_ok hc'.out (show o ≤ 10 by omega) (by rw [hsz'.out]; exact hle)
        rw [if_pos his] at hPF
        obtain ⟨kb, _, hgb, hmsb, hcostb⟩ := good_of_is his
        obtain ⟨h64b, hcb⟩ := good_cost ok'.out hpg1024 hgb
        rw [← hmsb] at h64b hcb
        rw [← hcostb] at hcb
        have hcm : costB bs mvs = (sumW bs mvs, 0) := by
          unfold costB
          rw [if_neg (by have := hmn'.out; omega), costL_W bs mvs 0 (fun m hm => by
            obtain ⟨h1, _⟩ := htr.out.2.2.2.2 m hm
            exact ⟨h1, isOrd_iff.2 (insB_iff.1 (ok'.out.ins _ (memD (by omega)))).1⟩), Int.zero_add]
        generalize (planB pg bs o).1 = ms at *
        generalize (planB pg bs o).2.1 = x at *
        generalize sumW bs mvs = y at *
        have hxy : decide (x ≤ y) = true := by simpa using hlea
        have hrr := (hrS.below BB).more (show s ≤ wr.heap.size by omega)
        have huu := (huS.below BB).more (show s ≤ wr.heap.size by omega)
        have HP := Lib.hid (Plan_any (pg : Int) A n cap bs (o : Int) wr hn'.out hml hrr)
        have HK1 := Lib.hid (fun M2 c2 W (h : RT W W.heap.size A bs) (h' : RU W W.heap.size M2 ms) => refCost_any A M2 n cap ms.length c2 bs ms W hn'.out hml h rfl (by unfold maxLen; omega) h')
        have HK2 := Lib.hid (fun W (h : RT W W.heap.size A bs) (h' : RU W W.heap.size M mvs) => refCost_any A M n cap k mcap bs mvs W hn'.out hml h hmn'.out hmml h')
        rw [hPF] at HP
        rw [hcb] at HK1
        rw [hcm] at HK2
        unfold PlanR at HP
        unfold CostR at HK1 HK2
        simp only at HP HK1 HK2
        have kk0 := kk.cell 0
        have kk1 := kk.cell 1
        have kk2 := kk.cell 2
        clear hin his hlea hPF hgb hmsb hcostb h64b hcb hcm hH htr hto hfree haL
        go_wp2_with (first
          | (go_at_call 17; refine HP.out.mono ?_; rintro e w5 ⟨O, oc, rfl, hO, hb5⟩; have r5 := hrr.on hb5; have u5 := (huu.below hb5).more hb5.size; have kk5 := kk.call hb5; have c51 := kk5.cell 1; have c52 := kk5.cell 2)
          | (go_at_call 13; have h6' := r6; refine (HK2.out _ r6 u6).mono ?_; rintro e w7 ⟨rfl, hb7⟩; have b7 := b6.trans (hb7.mono b6.size))
          | (go_at_call 13; refine (HK1.out _ _ _ r5 hO).mono ?_; rintro e w6 ⟨rfl, hb6⟩; have b6 := hb5.trans (hb6.mono hb5.size); have r6 := hrr.on b6; have u6 := (huu.below b6).more b6.size; have kk6 := kk.call b6; have c61 := kk6.cell 1; have c62 := kk6.cell 2)
          | (go_at_call 9; refine (awake24_any _).mono ?_; rintro e w8 ⟨rfl, hb8⟩))
        go_ret
        have B7 := BB.trans (b7.mono (by omega))
        exact ⟨rfl, B7.trans (hb8.mono (by have := b7.size; omega))⟩
end Go.Proofs.Ytifdgabfnnkghaa
