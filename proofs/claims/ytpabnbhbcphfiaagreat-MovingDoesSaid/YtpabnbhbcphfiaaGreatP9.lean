/- Merged texts. Walks of layer 24 over the reference's system: its Do. Walks of law 24: the reference's system that is as the program's. Walks of law 24: the statement of MovingDoes that makes both systems, whose order of evaluation is open. Walks of the references of layers 5 and 6: two equal plans, states and saved states are equal. Walks of the reference of layer 6: two equal saved states are the same. Walks of the reference of layer 6: Save. -/
import Derived.Laws.AppendOwnNone
import Derived.Deep.CutRange
import Derived.OwnWalk
import Derived.Test.YtpabnbhbcphfiaaGreatP8
namespace Go.Pol
open Go Go.Proofs Go.RowKit
/-- a move that meets an error and has moved its block: something stays -/
theorem moveF_stay {V : Vm} {p q n : Int} (h : (moveF V p q n).2.1 = true) : (moveF V p q n).2.2.1 = ((moveF V p q n).1 != 0) := by
  unfold moveF at h ⊢
  split at h
  · cases h
  · rename_i h1
    rw [if_neg h1]
    simp only at h ⊢
    split at h
    · cases h
    · rename_i h2
      rw [if_neg h2]
/-- what the statement of Do whose order is open reads -/
def MvS (gx rb ro : Nat) (p xt : Int) (w : World) : Prop := w.cell? ⟨gx, 0, none⟩ = some (.int .i64 p) ∧ w.cell? ⟨rb, ro, none⟩ = some (.int .i64 xt)
/-- the blocks afterwards, what stays, an error, and a system of the reference that has become this -/
def RDoO (B b : Nat) (r : List B3 × List Sp × Int × Vm) (w : World) (e : Ending) (w' : World) : Prop :=
  ∃ (A : Option Addr) (cap : Nat) (A' : Option Addr) (cap' : Nat), e = .returned (.tuple #[.slice A r.1.length cap, .slice A' r.2.1.length cap', .int .i64 r.2.2.1]) ∧ RT w' w'.heap.size A r.1 ∧ (∀ g o, A = some ⟨g, o, none⟩ → w.heap.size ≤ g) ∧ RU w' w'.heap.size A' r.2.1 ∧ (∀ g o, A' = some ⟨g, o, none⟩ → w.heap.size ≤ g) ∧ RefIs w' B b r.2.2.2 ∧ Far (fun k => k = b) w w'
end Go.Pol
namespace Go.Proofs.YtpabnbhbcphfiaaGreat
open Go Go.Proofs Go.RowKit Go.Pol Go.Shelf
attribute [local go_sem] Oper.semAt_some Go.Pol.wide_fn Go.Pol.wide_depth Go.Pol.wide_fn' Go.Pol.wide_depth'

theorem copyB_any (A : Option Addr) (n cap : Nat) (bs : List B3) (w1 : World) (hn : bs.length = n) (hm : n ≤ 1000) (hz : A = none → cap = 0) (hr : RT w1 w1.heap.size A bs) :
    ∃ (v : Value) (w2 : World), (Builtin.append_ #[56, 56] 56 #[.slice (some ⟨w1.heap.size, 0, none⟩) 0 0, .slice A n cap]).run Tryz.prog (w1.alloc (.cells #[] 65)) = .ok v w2 ∧ w2.ownsRow w1.heap.size 65 3 v n (tCells bs) ∧ Below w1.heap.size w1 w2 := by
  obtain ⟨i0, hi, hz0, hz1, hz2⟩ := infoMv_parts
  have hb2 := (Below.refl w1.heap.size w1).alloc (Nat.le_refl _) (.cells #[] 65)
  have hown0 := World.ownsRow_made (base := w1.heap.size) (e := 65) (size := 3) w1 #[] 0 (Nat.le_refl _) (by unfold maxLen; omega) rfl
  rcases hr.src with ⟨rfl, rfl⟩ | ⟨ad, rfl, hnews⟩
  · have hc := hz rfl
    subst hc
    obtain rfl : n = 0 := by simpa using hn.symm
    exact ⟨_, _, run_append_owned_none (P := Tryz.prog) (w := w1.alloc (.cells #[] 65)) w1.heap.size 56 56 65 i0 3 Tryz.underlying56 hi _ 0 [] hown0, hown0, hb2⟩
  · obtain ⟨v', w', hrun, r1', r2', _⟩ := append_block (P := Tryz.prog) (w1.alloc (.cells #[] 65)) w1.heap.size 56 56 65 i0 (.agg #[.int .i64 0, .int .i64 0, .bool false]) 3 24 Tryz.underlying56 hi hz0 hz1 hz2 rfl (by decide) _ 0 [] hown0 ad n cap (tCells bs) (by rw [tCells_len, hn]) (fun j u hu => by rw [World.cell?_alloc_some _ _ _ (by rw [hnews j u hu]; rfl)]; exact hnews j u hu) (tCells_one bs) (by unfold maxLen; omega) (by omega) (by simp)
    exact ⟨v', w', hrun, by simpa using r1', hb2.grown r2' (by simp) (fun j hj => by cases hj; exact Nat.le_refl _)⟩

set_option maxRecDepth 100000 in
set_option maxHeartbeats 3200000 in
theorem do6_any (B b : Nat) (pages : Int) (A M : Option Addr) (nb cb nm cm : Nat) (bs : List B3) (ms : List (Int × Int)) (V : Vm) (w : World) (hV : RefIs w B b V) (hn : bs.length = nb) (hm : nb ≤ maxLen) (hz : A = none → cb = 0) (hr : RT w w.heap.size A bs) (hmn : ms.length = nm) (hmm : nm ≤ maxLen) (hru : RU w w.heap.size M ms)
    (hMb : ∀ g o, M = some ⟨g, o, none⟩ → 0 < nm → g ≠ b) :
    Calls Tryz.prog 35 #[.pointer (some ⟨b, 0, none⟩), .int .i64 pages, .slice A nb cb, .slice M nm cm] w (RDoO B b (doF V pages bs ms) w) := by
  have HA := Lib.hid (refAfter_any pages A M nb cb nm cm bs ms w hn hm hz hr hmn hmm hru)
  have hV0 := Lib.hid hV
  have hr0 := Lib.hid hr
  have hru0 := Lib.hid hru
  have hbs := hV.lt
  obtain ⟨R, hR⟩ : ∃ R, doF V pages bs ms = R := ⟨_, rfl⟩
  rw [hR]
  have hR' := Lib.hid hR
  have hn' := Lib.hid hn
  have hmn' := Lib.hid hmn
  clear hR hV hr hru hn hmn
  go_enter Tryz.func35, Tryz.ntmps35
  go_wp2_with fail
  refine HA.out.mono ?_
  rintro e w3 ⟨Aa, ca, rfl, _, C3⟩
  have V3 := Lib.hid (hV0.out.call C3)
  have r3 := Lib.hid (hr0.out.on C3)
  have ru3 := Lib.hid ((hru0.out.below C3).more C3.size)
  unfold doF at hR'
  have hsz3 := C3.size
  by_cases h0 : (afterB pages bs ms).2 = 0
  case neg =>
    have h0' : ((afterB pages bs ms).2 != 0) = true := by simpa using h0
    have hR2 : Hid (R = ([], [], (afterB pages bs ms).2, V)) := Lib.hid (by rw [← hR'.out, if_pos h0])
    generalize (afterB pages bs ms).2 = er at *
    clear HA hR' h0
    go_wp2_with fail
    (try simp only [Exit.inBlock, Exit.then]); refine bodyPost_ret (results_tmp3 rfl _ _ _) rfl ?_
    rw [hR2.out]
    exact ⟨none, 0, none, 0, rfl, RT.nil, fun _ _ h => (by cases h), RU.nil, fun _ _ h => (by cases h), V3.out, .of_below C3⟩
  obtain ⟨hck, hml, hal⟩ := after_of h0
  obtain ⟨hp1, hnb, hins⟩ := chk_ins hck
  have hR2 : Hid (R = if downB V bs ms = true then ([], [], 9, V) else doL V bs [] ms) := Lib.hid (by rw [← hR'.out, if_neg (by simp [h0])])
  rw [h0]
  have hmem := Lib.hid (after_all ms bs hal)
  have hins' := Lib.hid hins
  have hal' := Lib.hid hal
  rw [hn'.out] at hnb
  rw [hmn'.out] at hml
  obtain ⟨D, hD⟩ : ∃ D, downB V bs ms = D := ⟨_, rfl⟩
  rw [hD] at hR2
  have hD' := Lib.hid hD
  have hB3 := Lib.hid C3
  clear HA hR' h0 hck hal hins hD C3
  go_wp2_with fail
  go_loopw [13] (fun i wr => ∃ k : Nat, k ≤ nm ∧ i = .int .i64 k ∧ Hid (downB V bs (ms.drop k) = D) ∧ Below w3.heap.size w3 wr) (fun i _ => nm - (intOf i).toNat)
  case atStart => exact ⟨0, by omega, rfl, Lib.hid (by simpa using hD'.out), Below.refl _ _⟩
  case round =>
    clear hD'
    obtain ⟨k, hk, rfl, hdr, hB⟩ := hrel
    by_cases hlt : k < nm
    · have hlt' : decide ((k : Int) < (nm : Int)) = true := by simpa using hlt
      have hmn2 := hmn'.out
      have hn2 := hn'.out
      have hB3s := hsz3
      have hdc := hdr.out
      rw [drop_cons (0, 0) ms k (by omega), downB_cons] at hdc
      obtain ⟨rb, ro, rfl, hrb, c5, c6⟩ := (ru3.out.below hB).at_' (k := k) (by omega)
      have hxm := hmem.out (ms.getD k (0, 0)) (by rw [List.getD_eq_getElem?_getD, List.getElem?_eq_getElem (by omega)]; exact List.getElem_mem _)
      generalize ms.getD k (0, 0) = x at *
      obtain ⟨xk, xt⟩ := x
      simp only at hxm c5 c6
      obtain ⟨mk, rfl⟩ := Int.eq_ofNat_of_zero_le hxm.1
      have hbm : Hid (badM V bs ((mk : Int), xt) = (List.range (pw (bs.getD mk b0).2.1).toNat).any fun i => badB V ((bs.getD mk b0).1 + (i : Int))) := Lib.hid rfl
      obtain ⟨ab, ao, rfl, hab, p0, p1, p2⟩ := (r3.out.below hB).at_ (k := mk) (by omega)
      have hib := ins_bounds hp1 (hins'.out (bs.getD mk b0) (by rw [List.getD_eq_getElem?_getD, List.getElem?_eq_getElem (by omega)]; exact List.getElem_mem _))
      generalize bs.getD mk b0 = blk at *
      obtain ⟨p, o, pin⟩ := blk
      simp only at p0 p1 p2 hbm hib
      obtain ⟨n, hpn⟩ : ∃ n : Nat, pw o = (n : Int) := Int.eq_ofNat_of_zero_le (by have := pw_pos o; omega)
      have hn1 : n ≤ 1024 := by have := pw_le hib.1.2; omega
      have HSz := Lib.hid (fun W => refSize_any o W hib.1)
      rw [hpn] at HSz hbm
      rw [Int.toNat_natCast] at hbm
      have hmki : (mk : Int) < (nb : Int) := by omega
      have kx := Blk.new wr 65 #[.int .i64 p, .int .i64 o, .bool pin]
      have hbx : Below wr.heap.size wr (wr.alloc (.cells #[.int .i64 p, .int .i64 o, .bool pin] 65)) := (Below.refl _ _).alloc (Nat.le_refl _) _
      obtain ⟨gx, hgx⟩ : ∃ gx, wr.heap.size = gx := ⟨_, rfl⟩
      rw [hgx] at kx
      have hsB := hB.size
      have hdc' := Lib.hid hdc
      clear hdr hdc hxm hpn
      go_upto_region 8 with fail
      have B5 : Below w3.heap.size w3 _ := hB.trans (hbx.mono hsB)
      generalize wr.alloc _ = w5 at *
      try simp only [hgx]
      have cx := kx.cell
      clear hbx hB p0 p1 p2 c5 c6
      go_wp2_with fail
      clear cx
      go_loopw [15] (fun i wz => ∃ (j : Nat) (x : Int), j ≤ n ∧ i = .int .i64 x ∧ Hid (x = p + (j : Int)) ∧ (0 ≤ x ∧ x ≤ 2048) ∧ Hid (∀ i : Nat, i < j → badB V (p + (i : Int)) = false) ∧ Below w5.heap.size w5 wz) (fun i _ => (p + n - intOf i).toNat)
      case atStart => exact ⟨0, p, by omega, rfl, Lib.hid (by simp), by omega, Lib.hid (fun i hi => absurd hi (by omega)), Below.refl _ _⟩
      case round =>
        obtain ⟨j, x, hj, rfl, hxj, hxb, hall, hB6⟩ := hrel
        have kx6 := kx.call hB6
        have e0 := fun z : Ext wr => (z.blk kx6).cell
        have G := Lib.hid (fun z : Ext wr => Ext.call (x := z) ((HSz.out z.w).mono (fun e w' h => ⟨h.1, by rw [h.2]; exact Below.refl _ _⟩)))
        by_cases hlt2 : j < n
        · have hlt2' : decide (x < p + (n : Int)) = true := by have := hxj.out; simp; omega
          have V6 := V3.out.call (B5.trans (hB6.mono B5.size))
          have HKd := fun W h => kind6_any B b x V W h
          obtain ⟨kd, hkd⟩ : ∃ kd, kindF V x = kd := ⟨_, rfl⟩
          obtain ⟨hu, hhu⟩ : ∃ hu, hugeF V x = hu := ⟨_, rfl⟩
          have hbd : Hid (badB V (p + (j : Int)) = ((kd == 0 || kd == 3) || hu)) := Lib.hid (by rw [← hxj.out]; unfold badB; rw [hkd, hhu])
          rw [hkd, hhu] at HKd
          generalize (if 0 ≤ x ∧ x < 1024 then (0 : Int) else 7) = er at HKd
          have HKd' := Lib.hid HKd
          clear hkd hhu HKd kx6
          go_upto_region 9 with fail
          refine region_ext (by kernel_rfl) (by kernel_rfl) ?_
          repeat (go_big_quiet_step ((go_at_call 23; exact G.out _)))
          refine wpQuiet_nil ?_
          rintro wq ⟨⟨_, hwq⟩, rfl⟩
          have V6q := Lib.hid (V6.call hwq)
          have hB6q := hB6.trans (hwq.mono hB6.size)
          clear e0 G V6 hwq hB6
          go_wp2_with fail
          refine (HKd'.out _ V6q.out).mono ?_
          rintro e w7 ⟨rfl, hb7⟩
          have hb67 := hB6q.trans (hb7.mono hB6q.size)
          have B7 := B5.trans (hb67.mono B5.size)
          have Bw7 := hB3.out.trans (B7.mono hsz3)
          have V7 := V3.out.call B7
          have hbad : ((kd == 0 || kd == 3) || hu) = true → Hid (R = ([], [], 9, V)) := fun h => Lib.hid (by
            have hDt : D = true := by
              rw [← hdc'.out, hbm.out, Bool.or_eq_true]
              refine .inl (List.any_eq_true.2 ⟨j, List.mem_range.2 hlt2, ?_⟩)
              rw [hbd.out]; exact h
            rw [hR2.out, if_pos hDt])
          clear HKd' V6q hb7 hB6q
          by_cases h1 : kd = 0
          · subst h1
            have hR3 := hbad (by simp)
            clear hbad
            go_wp2_with fail
            (try simp only [Exit.inBlock, Exit.then]); refine bodyPost_ret (results_tmp3 rfl _ _ _) rfl ?_
            rw [hR3.out]
            exact ⟨none, 0, none, 0, rfl, RT.nil, fun _ _ h => (by cases h), RU.nil, fun _ _ h => (by cases h), V7, .of_below Bw7⟩
          by_cases h2 : kd = 3
          · subst h2
            have hR3 := hbad (by simp)
            clear hbad
            go_wp2_with fail
            (try simp only [Exit.inBlock, Exit.then]); refine bodyPost_ret (results_tmp3 rfl _ _ _) rfl ?_
            rw [hR3.out]
            exact ⟨none, 0, none, 0, rfl, RT.nil, fun _ _ h => (by cases h), RU.nil, fun _ _ h => (by cases h), V7, .of_below Bw7⟩
          have h1' : (kd == 0) = false := by simpa using h1
          have h2' : (kd == 3) = false := by simpa using h2
          cases hu with
          | true =>
            have hR3 := hbad (by simp)
            clear hbad h1 h2
            go_wp2_with fail
            (try simp only [Exit.inBlock, Exit.then]); refine bodyPost_ret (results_tmp3 rfl _ _ _) rfl ?_
            rw [hR3.out]
            exact ⟨none, 0, none, 0, rfl, RT.nil, fun _ _ h => (by cases h), RU.nil, fun _ _ h => (by cases h), V7, .of_below Bw7⟩
          | false =>
            have hall2 : Hid (∀ i : Nat, i < j + 1 → badB V (p + (i : Int)) = false) := Lib.hid (fun i hi => by
              by_cases e : i = j
              · subst e
                rw [hbd.out, h1', h2']; rfl
              · exact hall.out i (by omega))
            have hxj2 : Hid (x + 1 = p + ((j + 1 : Nat) : Int)) := Lib.hid (by have := hxj.out; omega)
            have hxn : x + 1 ≤ 2048 := by have := hxj.out; omega
            have hxm : x < p + n := by have := hxj.out; omega
            clear hbad h1 h2 V7
            go_wp2_with fail
            go_roundw
            case rel => exact ⟨j + 1, x + 1, by omega, by go_num, hxj2, by omega, hall2, hb67⟩
            case measure => simp [intOf]; omega
        · obtain rfl : j = n := by omega
          have hlt2' : decide (x < p + (j : Int)) = false := by have := hxj.out; simp; omega
          have hnx : Hid (downB V bs (ms.drop (k + 1)) = D) := Lib.hid (by
            have := hdc'.out
            rw [hbm.out, List.any_eq_false.2 (fun i hi => by rw [hall.out i (List.mem_range.1 hi)]; decide), Bool.false_or] at this
            exact this)
          clear kx6
          go_upto_region 9 with fail
          refine region_ext (by kernel_rfl) (by kernel_rfl) ?_
          repeat (go_big_quiet_step ((go_at_call 23; exact G.out _)))
          refine wpQuiet_nil ?_
          rintro wq ⟨⟨_, hwq⟩, rfl⟩
          have B6 := B5.trans ((hB6.trans (hwq.mono hB6.size)).mono B5.size)
          clear e0 G
          go_wp2_with fail
          go_roundw
          case rel => exact ⟨k + 1, by omega, by go_num, hnx, B6⟩
          case measure => simp [intOf]; omega
    · obtain rfl : k = nm := by omega
      have hlt' : decide ((k : Int) < (k : Int)) = false := by simp
      have hDf : D = false := by
        rw [← hdr.out, List.drop_of_length_le (by rw [hmn'.out]; exact Nat.le_refl _)]
        rfl
      have hR3 : Hid (R = doL V bs [] ms) := Lib.hid (by rw [hR2.out, hDf, if_neg (by decide)])
      obtain ⟨wA, rfl⟩ : ∃ wA, wA = wr := ⟨_, rfl⟩
      have BA := hB3.out.trans (hB.mono hsz3)
      have VA := Lib.hid (V3.out.call hB)
      have hsA := hB.size
      obtain ⟨vc, w6, hap, rn6, hb6⟩ := copyB_any A nb cb bs wA hn'.out (by omega) hz ((r3.out.below hB).more hB.size)
      have ruA := Lib.hid (show RU wA w3.heap.size M ms from ru3.out.below hB)
      obtain ⟨Av, cv, rfl⟩ := own_nilT rn6 hn'.out
      obtain ⟨NB, hNB⟩ : ∃ NB, wA.heap.size = NB := ⟨_, rfl⟩
      have hNBw : w.heap.size ≤ NB := by rw [← hNB]; exact BA.size
      rw [hNB] at rn6 hb6 hap
      have B6 := BA.trans (hb6.mono (by rw [← hNB]; exact BA.size))
      have V6 := Lib.hid (VA.out.call (hb6.mono (by omega)))
      have hs6 := hb6.size
      have ru6 := Lib.hid (ruA.out.below (hb6.mono (by omega)))
      have hrn6 := Lib.hid rn6
      have hB6 := Lib.hid B6
      have hbNB : b < NB := by omega
      clear hR2 hdr hDf hB ruA VA BA B6 rn6
      go_wp2_with (at_builtin; refine Lib.wpList_append_run _ rfl _ _ _ _ rfl _ _ rfl rfl _ _ hap ?_)
      clear hap hlt'
      go_loopw [20, 21] (fun st i w5 => ∃ (j : Nat) (bk : List B3) (U : Vm), j ≤ k ∧ i = .int .i64 j ∧ st = .slice none 0 0 ∧ Hid (doL V bs [] ms = doL U bk [] (ms.drop j)) ∧ Hid ((afterL pages bk (ms.drop j)).2 = 0) ∧ Hid (∀ x ∈ bk, insB pages x.1 x.2.1 = true) ∧ Hid (bk.length = nb) ∧ Hid (w5.ownsRow NB 65 3 (.slice Av nb cv) nb (tCells bk)) ∧ Hid (RefIs w5 B b U) ∧ Far (fun k => k = b ∨ NB ≤ k) w6 w5) (fun _ i _ => k - (intOf i).toNat)
      case atStart => exact ⟨0, bs, V, by omega, rfl, rfl, Lib.hid (by simp), Lib.hid (by simpa using hal'.out), hins', hn', hrn6, V6, Far.refl _ _⟩
      case round =>
        clear hrn6 V6
        obtain ⟨j, bk, U, hj, rfl, rfl, hdo, haf, hik, hbl, hrw, hVk, hF⟩ := hrel
        obtain ⟨w5, rfl⟩ : ∃ w5, w5 = wr := ⟨_, rfl⟩
        have hB6s := hB6.out.size
        have hFs := hF.size
        by_cases hlt2 : j < k
        · have hlt2' : decide ((j : Int) < (k : Int)) = true := by simpa using hlt2
          have hmn2 := hmn'.out
          have hdo2 := hdo.out
          have haf2 := haf.out
          rw [drop_cons (0, 0) ms j (by omega), doL_cons] at hdo2
          rw [drop_cons (0, 0) ms j (by omega)] at haf2
          obtain ⟨rb, ro, rfl, hrb, c5, c6⟩ := ru6.out.at_' (k := j) (by omega)
          have hne := hMb _ _ rfl (by omega)
          have d5 := hF.cell c5 (by show ¬ (rb = b ∨ NB ≤ rb); omega)
          have d6 := hF.cell c6 (by show ¬ (rb = b ∨ NB ≤ rb); omega)
          generalize ms.getD j (0, 0) = x at *
          obtain ⟨xk, xt⟩ := x
          simp only at d5 d6
          obtain ⟨hps, haf3⟩ := after_cons haf2
          obtain ⟨hin, hit⟩ := poss_ins hps
          simp only at hin hit
          obtain ⟨mk, rfl⟩ := Int.eq_ofNat_of_zero_le hin.1
          have hbl2 := hbl.out
          have hit2 := ins_bounds hp1 hit
          have hib := ins_bounds hp1 (hik.out (bk.getD mk b0) (by rw [List.getD_eq_getElem?_getD, List.getElem?_eq_getElem (by omega)]; exact List.getElem_mem _))
          have hik2 := Lib.hid (ins_mov hps hik.out)
          have hmkn : mk < nb := by omega
          have hmki : (mk : Int) < (nb : Int) := by omega
          obtain ⟨gn, cq, e3, _⟩ := hrw.out.form (by omega)
          have eA : Av = some ⟨gn, 0, none⟩ := by injection e3
          subst eA
          clear e3 cq
          have hct := tCells_at bk mk (by omega)
          have hsetT := Lib.hid (tCells_set bk mk xt (by omega))
          have p0 := hrw.out.cellAt (mk * 3) (by omega)
          have p1 := hrw.out.cellAt (mk * 3 + 1) (by omega)
          have p2 := hrw.out.cellAt (mk * 3 + 2) (by omega)
          rw [hct.1] at p0
          rw [hct.2.1] at p1
          rw [hct.2.2] at p2
          have hgn := hrw.out.lt gn rfl
          obtain ⟨r, hmm⟩ : ∃ r, moveM U bk ((mk : Int), xt) = r := ⟨_, rfl⟩
          have hmF : Hid (moveF U (bk.getD mk b0).1 xt (pw (bk.getD mk b0).2.1) = r) := Lib.hid hmm
          rw [hmm] at hdo2
          rw [Int.toNat_natCast] at hdo2
          have hmvB : Hid (movBs bk mk xt r = if r.2.1 = true then bk.set mk (xt, (bk.getD mk b0).2) else bk) := Lib.hid rfl
          have hbl3 : Hid ((movBs bk mk xt r).length = nb) := Lib.hid (by
            unfold movBs
            split
            · rw [List.length_set]; exact hbl2
            · exact hbl2)
          have hbo : r.1 = 0 → movBs bk mk xt r = movB bk ((mk : Int), xt) := fun h => by
            have := moveM_ok (V := U) (bs := bk) (m := ((mk : Int), xt)) (by rw [hmm]; exact h)
            rw [hmm] at this
            exact this
          have hst1 : r.2.1 = true → r.2.2.1 = (r.1 != 0) := fun h => by
            have := moveF_stay (V := U) (p := (bk.getD mk b0).1) (q := xt) (n := pw (bk.getD mk b0).2.1) (by rw [hmF.out]; exact h)
            rw [hmF.out] at this
            exact this
          have hst2 : r.2.1 = false → r.1 ≠ 0 := fun h h0 => by
            have := moveF_ok (V := U) (p := (bk.getD mk b0).1) (q := xt) (n := pw (bk.getD mk b0).2.1) (by rw [hmF.out]; exact h0)
            rw [hmF.out, h] at this
            cases this
          have hstd : Hid (movSt [] (bk.getD mk b0).1 xt (pw (bk.getD mk b0).2.1) r = if r.2.2.1 = true then [] ++ [(if r.2.1 = true then (bk.getD mk b0).1 else xt, pw (bk.getD mk b0).2.1)] else []) := Lib.hid rfl
          generalize movSt [] (bk.getD mk b0).1 xt (pw (bk.getD mk b0).2.1) r = sk2 at *
          generalize movBs bk mk xt r = bk2 at *
          generalize bk.getD mk b0 = blk at *
          obtain ⟨p, o, pin⟩ := blk
          simp only at p0 p1 p2 hib hmF hstd hmvB hsetT
          obtain ⟨n, hpn⟩ : ∃ n : Nat, pw o = (n : Int) := Int.eq_ofNat_of_zero_le (by have := pw_pos o; omega)
          have hn1 : n ≤ 1024 := by have := pw_le hib.1.2; omega
          rw [hpn] at hmF hstd
          have HSz := Lib.hid (fun W => refSize_any o W hib.1)
          rw [hpn] at HSz
          have kx := Blk.new w5 65 #[.int .i64 p, .int .i64 o, .bool pin]
          have hbx : Below w5.heap.size w5 (w5.alloc (.cells #[.int .i64 p, .int .i64 o, .bool pin] 65)) := (Below.refl _ _).alloc (Nat.le_refl _) _
          obtain ⟨gx, hgx⟩ : ∃ gx, w5.heap.size = gx := ⟨_, rfl⟩
          rw [hgx] at kx
          have hdo3 := Lib.hid hdo2
          have haf4 := Lib.hid haf3
          clear hps hin hit haf2 haf3 hdo2 c5 c6 hdo haf hpn hct hmm
          go_upto_region 20 with fail
          have rn5 := Lib.hid (ownsRow_call hrw.out hbx)
          have V5 := Lib.hid (hVk.out.call hbx)
          have hF5 : Far (fun k => k = b ∨ NB ≤ k) w6 _ := hF.trans (.of_below hbx)
          have d5' := (hbx.cell (p := ⟨rb, ro + j * 2, none⟩) (by show rb < w5.heap.size; omega)).trans d5
          have d6' := (hbx.cell (p := ⟨rb, ro + j * 2 + 1, none⟩) (by show rb < w5.heap.size; omega)).trans d6
          generalize w5.alloc _ = w7 at *
          try simp only [hgx]
          have hs7 := hF5.size
          have hgx7 := kx.lt
          have cx := kx.cell
          clear hrw hVk hF hbx p0 p1 p2 d5 d6
          go_wp2_with fail
          refine (HSz.out _).mono ?_
          rintro e w8 ⟨rfl, hw8⟩
          replace hw8 := hw8.symm
          subst hw8
          have hS0 : MvS gx rb (ro + j * 2 + 1) p xt w7 := ⟨kx.cell 0, d6'⟩
          have hb7 : Below w7.heap.size w7 w7.drew := (Below.refl _ w7).drew
          have HM := Lib.hid (moved6_any B b p xt n U w7.drew (V5.out.call hb7) hib.2 hit2.2 hn1)
          clear cx HSz
          go_upto_region 21 with fail
          refine wp_noPanic ?_
          refine wp_region_T (MvS gx rb (ro + j * 2 + 1) p xt) [] (by kernel_rfl) ?_
          have hS : MvS gx rb (ro + j * 2 + 1) p xt w7.drew := hS0
          refine' wpAnyT_take (i := 0) (v := _) ?hiT0 (by kernel_rfl) ?hQT0 (Or.inl ⟨?hwT0, ?hyT0⟩) hS ?reT0
          case hiT0 => (simp only [List.getElem?_toArray, List.getElem?_cons_zero]; rfl)
          case hQT0 => exact fun _ _ _ h => h
          case hwT0 => rfl
          case hyT0 => (intro wS hSw; obtain ⟨_, _⟩ := hSw; go_simp; (try with_reducible rfl))
          try simp only [Act.put, List.setIfInBounds_toArray, List.set_cons_zero, List.set_cons_succ]
          refine' wpAnyT_take (i := 1) (v := _) ?hiT1 (by kernel_rfl) ?hQT1 (Or.inl ⟨?hwT1, ?hyT1⟩) hS ?reT1
          case hiT1 => (simp only [List.getElem?_toArray, List.getElem?_cons_succ, List.getElem?_cons_zero]; rfl)
          case hQT1 => exact fun _ _ _ h => h
          case hwT1 => rfl
          case hyT1 => (intro wS hSw; obtain ⟨_, _⟩ := hSw; go_simp; (try with_reducible rfl))
          try simp only [Act.put, List.setIfInBounds_toArray, List.set_cons_zero, List.set_cons_succ]
          refine' wpAnyT_take (i := 2) (v := _) ?hiT2 (by kernel_rfl) ?hQT2 (Or.inl ⟨?hwT2, ?hyT2⟩) hS ?reT2
          case hiT2 => (simp only [List.getElem?_toArray, List.getElem?_cons_succ, List.getElem?_cons_zero]; rfl)
          case hQT2 => exact fun _ _ _ h => h
          case hwT2 => rfl
          case hyT2 => (intro wS hSw; obtain ⟨_, _⟩ := hSw; go_simp; (try with_reducible rfl))
          try simp only [Act.put, List.setIfInBounds_toArray, List.set_cons_zero, List.set_cons_succ]
          refine' wpAnyT_take (i := 3) (v := _) ?hiT3 (by kernel_rfl) ?hQT3 (Or.inl ⟨?hwT3, ?hyT3⟩) hS ?reT3
          case hiT3 => (simp only [List.getElem?_toArray, List.getElem?_cons_succ, List.getElem?_cons_zero]; rfl)
          case hQT3 => exact fun _ _ _ h => h
          case hwT3 => rfl
          case hyT3 => (intro wS hSw; obtain ⟨_, _⟩ := hSw; go_simp; (try with_reducible rfl))
          try simp only [Act.put, List.setIfInBounds_toArray, List.set_cons_zero, List.set_cons_succ]
          refine' wpAnyT_take (i := 4) (v := _) ?hiT4 (by kernel_rfl) ?hQT4 (Or.inl ⟨?hwT4, ?hyT4⟩) hS ?reT4
          case hiT4 => (simp only [List.getElem?_toArray, List.getElem?_cons_succ, List.getElem?_cons_zero]; rfl)
          case hQT4 => exact fun _ _ _ h => h
          case hwT4 => rfl
          case hyT4 => (intro wS hSw; obtain ⟨_, _⟩ := hSw; go_simp; (try with_reducible rfl))
          try simp only [Act.put, List.setIfInBounds_toArray, List.set_cons_zero, List.set_cons_succ]
          refine' wpAnyT_take (i := 5) (v := _) ?hiT5 (by kernel_rfl) ?hQT5 (Or.inl ⟨?hwT5, ?hyT5⟩) hS ?reT5
          case hiT5 => (simp only [List.getElem?_toArray, List.getElem?_cons_succ, List.getElem?_cons_zero]; rfl)
          case hQT5 => exact fun _ _ _ h => h
          case hwT5 => rfl
          case hyT5 => (intro wS hSw; obtain ⟨_, _⟩ := hSw; go_simp; (try with_reducible rfl))
          try simp only [Act.put, List.setIfInBounds_toArray, List.set_cons_zero, List.set_cons_succ]
          refine' wpAnyT_take (i := 6) (v := _) ?hiT6 (by kernel_rfl) ?hQT6 (Or.inl ⟨?hwT6, ?hyT6⟩) hS ?reT6
          case hiT6 => (simp only [List.getElem?_toArray, List.getElem?_cons_succ, List.getElem?_cons_zero]; rfl)
          case hQT6 => exact fun _ _ _ h => h
          case hwT6 => rfl
          case hyT6 => (intro wS hSw; obtain ⟨_, _⟩ := hSw; go_simp; (try with_reducible rfl))
          try simp only [Act.put, List.setIfInBounds_toArray, List.set_cons_zero, List.set_cons_succ]
          refine' wpAnyT_take (i := 7) (v := _) ?hiT7 (by kernel_rfl) ?hQT7 (Or.inl ⟨?hwT7, ?hyT7⟩) hS ?reT7
          case hiT7 => (simp only [List.getElem?_toArray, List.getElem?_cons_succ, List.getElem?_cons_zero]; rfl)
          case hQT7 => exact fun _ _ _ h => h
          case hwT7 => rfl
          case hyT7 => (intro wS hSw; obtain ⟨_, _⟩ := hSw; go_simp; (try with_reducible rfl))
          try simp only [Act.put, List.setIfInBounds_toArray, List.set_cons_zero, List.set_cons_succ]
          refine' wpAnyT_take (i := 8) (v := _) ?hiT8 (by kernel_rfl) ?hQT8 (Or.inl ⟨?hwT8, ?hyT8⟩) hS ?reT8
          case hiT8 => (simp only [List.getElem?_toArray, List.getElem?_cons_succ, List.getElem?_cons_zero]; rfl)
          case hQT8 => exact fun _ _ _ h => h
          case hwT8 => rfl
          case hyT8 => (intro wS hSw; obtain ⟨_, _⟩ := hSw; go_simp; (try with_reducible rfl))
          try simp only [Act.put, List.setIfInBounds_toArray, List.set_cons_zero, List.set_cons_succ]
          refine wpAnyT_ready (rs := [9]) (by kernel_rfl) (by simp) ?_
          refine' AllReadyT.cons ?hi9 (fun K hK => ?st9) AllReadyT.nil
          case hi9 => (simp only [List.getElem?_toArray, List.getElem?_cons_succ, List.getElem?_cons_zero]; rfl)
          go_simp
          refine HM.out.mono ?_
          rintro e w9 ⟨r2, hr2, rfl, V9, F9⟩
          have er : r2 = r := by rw [hr2, hmF.out]
          subst er
          have hF9 : Far (fun k => k = b ∨ NB ≤ k) w6 w9 := (hF5.trans (.of_below hb7)).trans' F9 (fun i _ h => .inl h)
          have rn9 := Lib.hid (ownsRow_far (ownsRow_call rn5.out hb7) F9 (fun g hg h => by have := (rn5.out.lt g hg).1; omega))
          have kx9 := F9.blk (kx.call hb7) (by show ¬ gx = b; omega)
          have d59 := F9.cell ((hb7.cell (p := ⟨rb, ro + j * 2, none⟩) (by show rb < w7.heap.size; omega)).trans d5') (by show ¬ rb = b; exact hne)
          have d69 := F9.cell ((hb7.cell (p := ⟨rb, ro + j * 2 + 1, none⟩) (by show rb < w7.heap.size; omega)).trans d6') (by show ¬ rb = b; exact hne)
          obtain ⟨re, rt, rs, rV⟩ := r2
          simp only at hdo3 hmvB hbo hst1 hst2 hstd V9
          have V9' := Lib.hid V9
          have hs9 := hF9.size
          have hS9 : MvS gx rb (ro + j * 2 + 1) p xt w9 := ⟨kx9.cell 0, d69⟩
          refine hK.out _ _ (fun _ => hS9) (fun hS => ?_)
          clear hK K HM
          replace hS := hS rfl
          refine' wpAnyT_take (i := 10) (v := _) ?hiT10m (by kernel_rfl) ?hQT10m (Or.inl ⟨?hwT10m, ?hyT10m⟩) hS ?reT10m
          case hiT10m => (simp only [List.getElem?_toArray, List.getElem?_cons_succ, List.getElem?_cons_zero]; rfl)
          case hQT10m => exact fun _ _ _ h => h
          case hwT10m => rfl
          case hyT10m => (intro wS hSw; obtain ⟨_, _⟩ := hSw; go_simp; (try with_reducible rfl))
          try simp only [Act.put, List.setIfInBounds_toArray, List.set_cons_zero, List.set_cons_succ]
          refine' wpAnyT_take (i := 11) (v := _) ?hiT11m (by kernel_rfl) ?hQT11m (Or.inl ⟨?hwT11m, ?hyT11m⟩) hS ?reT11m
          case hiT11m => (simp only [List.getElem?_toArray, List.getElem?_cons_succ, List.getElem?_cons_zero]; rfl)
          case hQT11m => exact fun _ _ _ h => h
          case hwT11m => rfl
          case hyT11m => (intro wS hSw; obtain ⟨_, _⟩ := hSw; go_simp; (try with_reducible rfl))
          try simp only [Act.put, List.setIfInBounds_toArray, List.set_cons_zero, List.set_cons_succ]
          refine' wpAnyT_take (i := 12) (v := _) ?hiT12m (by kernel_rfl) ?hQT12m (Or.inl ⟨?hwT12m, ?hyT12m⟩) hS ?reT12m
          case hiT12m => (simp only [List.getElem?_toArray, List.getElem?_cons_succ, List.getElem?_cons_zero]; rfl)
          case hQT12m => exact fun _ _ _ h => h
          case hwT12m => rfl
          case hyT12m => (intro wS hSw; obtain ⟨_, _⟩ := hSw; go_simp; (try with_reducible rfl))
          try simp only [Act.put, List.setIfInBounds_toArray, List.set_cons_zero, List.set_cons_succ]
          refine' wpAnyT_take (i := 13) (v := _) ?hiT13m (by kernel_rfl) ?hQT13m (Or.inl ⟨?hwT13m, ?hyT13m⟩) hS ?reT13m
          case hiT13m => (simp only [List.getElem?_toArray, List.getElem?_cons_succ, List.getElem?_cons_zero]; rfl)
          case hQT13m => exact fun _ _ _ h => h
          case hwT13m => rfl
          case hyT13m => (intro wS hSw; obtain ⟨_, _⟩ := hSw; go_simp; (try with_reducible rfl))
          try simp only [Act.put, List.setIfInBounds_toArray, List.set_cons_zero, List.set_cons_succ]
          refine' wpAnyT_take (i := 14) (v := _) ?hiT14m (by kernel_rfl) ?hQT14m (Or.inl ⟨?hwT14m, ?hyT14m⟩) hS ?reT14m
          case hiT14m => (simp only [List.getElem?_toArray, List.getElem?_cons_succ, List.getElem?_cons_zero]; rfl)
          case hQT14m => exact fun _ _ _ h => h
          case hwT14m => rfl
          case hyT14m => (intro wS hSw; obtain ⟨_, _⟩ := hSw; go_simp; (try with_reducible rfl))
          try simp only [Act.put, List.setIfInBounds_toArray, List.set_cons_zero, List.set_cons_succ]
          refine' wpAnyT_take (i := 15) (v := _) ?hiT15m (by kernel_rfl) ?hQT15m (Or.inl ⟨?hwT15m, ?hyT15m⟩) hS ?reT15m
          case hiT15m => (simp only [List.getElem?_toArray, List.getElem?_cons_succ, List.getElem?_cons_zero]; rfl)
          case hQT15m => exact fun _ _ _ h => h
          case hwT15m => rfl
          case hyT15m => (intro wS hSw; obtain ⟨_, _⟩ := hSw; go_simp; (try with_reducible rfl))
          try simp only [Act.put, List.setIfInBounds_toArray, List.set_cons_zero, List.set_cons_succ]
          refine' wpAnyT_take (i := 16) (v := _) ?hiT16m (by kernel_rfl) ?hQT16m (Or.inl ⟨?hwT16m, ?hyT16m⟩) hS ?reT16m
          case hiT16m => (simp only [List.getElem?_toArray, List.getElem?_cons_succ, List.getElem?_cons_zero]; rfl)
          case hQT16m => exact fun _ _ _ h => h
          case hwT16m => rfl
          case hyT16m => (intro wS hSw; obtain ⟨_, _⟩ := hSw; go_simp; (try with_reducible rfl))
          try simp only [Act.put, List.setIfInBounds_toArray, List.set_cons_zero, List.set_cons_succ]
          refine wpAnyT_done (by kernel_rfl) ?_ _
          refine noPanic_normal ?_
          clear hS hS0 hS9 rn5 V5 hF5 d5' d6' kx V9 F9 hr2 hmF
          cases rt with
          | true =>
            have hrs : rs = (re != 0) := hst1 rfl
            have hbk2 : bk2 = bk.set mk (xt, o, pin) := by rw [hmvB.out, if_pos rfl]
            clear hst1 hst2 hmvB
            have q1 := fun z : Ext w9 => z.cell d59
            have q2 := fun z : Ext w9 => z.cell d69
            go_upto_region 23 with fail
            refine region_ext_tail 11 (by kernel_rfl) (by kernel_rfl) ?_
            simp only [List.take_succ_cons, List.take_zero, List.drop_succ_cons, List.drop_zero]
            repeat (go_big_quiet_step (fail))
            refine wpQuiet_nil ?_
            intro z
            have hrz := ownsRow_call rn9.out z.le
            have Fz : Far (fun k => k = b ∨ NB ≤ k) w6 z.w := hF9.trans (.of_below z.le)
            have Vz := V9'.out.call z.le
            have hf3 := hrz.frozenAt (mk * 3)
            have hcell := hrz.cellAt (mk * 3) (by omega)
            rw [(tCells_at bk mk (by omega)).1] at hcell
            obtain ⟨hst3, hgr3⟩ := hrz.stored (mk * 3) (.int .i64 xt)
            rw [hsetT.out] at hst3
            have hg3 := hrz.lt gn rfl
            have F10 : Far (fun k => k = gn) z.w (z.w.setCell ⟨gn, mk * 3, none⟩ (.int .i64 xt)) := Far.setCell (T := fun k => k = gn) (p := ⟨gn, mk * 3, none⟩) (Far.refl _ _) (fun _ => rfl) _
            have kx10 := F10.blk (kx9.call z.le) (by show ¬ gx = gn; omega)
            have V10 := Lib.hid (Vz.far F10 (fun k h => by have := hV0.out.base; omega))
            have F06 : Far (fun k => k = b ∨ NB ≤ k) w6 _ := Fz.trans' F10 (fun i _ h => .inr (by omega))
            rw [← hbk2] at hst3
            have hst4 := Lib.hid hst3
            generalize (bk.getD mk b0).1 = pc at *
            clear q1 q2 rn9 kx9 d59 hF9 V9' hgr3 hst3 Vz Fz d69
            go_upto_region 24 with fail
            generalize World.setCell z.w _ _ = w10 at *
            clear hf3 hcell
            by_cases hre : re = 0
            · subst hre
              obtain rfl : rs = false := by rw [hrs]; rfl
              rw [if_neg (by simp)] at hdo3
              have hsk : sk2 = [] := by rw [hstd.out]; simp
              have hb2 := hbo rfl
              have hdo4 : Hid (doL V bs [] ms = doL rV bk2 [] (ms.drop (j + 1))) := Lib.hid (by have := hdo3.out; rwa [hsk] at this)
              have haf5 : Hid ((afterL pages bk2 (ms.drop (j + 1))).2 = 0) := Lib.hid (by rw [hb2]; exact haf4.out)
              have hik3 : Hid (∀ x ∈ bk2, insB pages x.1 x.2.1 = true) := Lib.hid (by rw [hb2]; exact hik2.out)
              clear hdo3 hbo hb2 hrs hsk hstd
              go_wp2_with fail
              go_roundw
              case rel => exact ⟨j + 1, bk2, rV, by omega, by go_num, rfl, hdo4, haf5, hik3, hbl3, hst4, V10, F06⟩
              case measure => simp [intOf]; omega
            · have hre' : (re != 0) = true := by simpa using hre
              obtain rfl : rs = true := by rw [hrs]; exact hre'
              rw [if_pos hre] at hdo3
              have hsk : sk2 = [(p, (n : Int))] := by rw [hstd.out]; simp
              have hR4 : Hid (R = (bk2, [(p, (n : Int))], re, rV)) := Lib.hid (by rw [hR3.out, hdo3.out, hsk])
              obtain ⟨A8, c8, e8, rt8, _, _, hft8, _⟩ := own_RT hst4.out hbl3.out
              cases e8
              clear hdo3 hbo hrs hsk hstd
              obtain ⟨i0, hi, hz0, hz1, hz2⟩ := infoSp_parts
              have kN := Blk.new w10 115 #[.int .i64 p, .int .i64 (n : Int)]
              have hb11 : Below (w10).heap.size w10 ((w10).alloc (.cells #[.int .i64 p, .int .i64 (n : Int)] 115)) := (Below.refl _ _).alloc (Nat.le_refl _) _
              have FF : Far (fun k => k = b) w w10 := (Far.of_below hB6.out : Far (fun k => k = b) w w6).trans' F06 (fun i hi h => by
                rcases h with h | h
                · exact h
                · omega)
              have cx := kx10.cell
              have hs10 := F06.size
              go_wp2_with (refine wpList_append_own _ rfl (.tmp 131) (.tmp 136) 22 rfl (w10).heap.size 115 i0 (.agg #[.int .i64 0, .int .i64 0]) 2 16 Tryz.underlying22 hi hz0 hz1 hz2 rfl (by decide) _ 0 (spCells ([] : List Sp)) rfl (World.ownsRow_nil _ _ _ _) ⟨(w10).heap.size, 0, none⟩ 1 1 [.int .i64 p, .int .i64 (n : Int)] rfl rfl (news_two kN) news_one2 (by unfold maxLen; omega) (by omega) (by simp) ?_; intro v' w12 hown' hgrow _)
              (try simp only [Exit.inBlock, Exit.then]); refine bodyPost_ret (results_tmp3 rfl _ _ _) rfl ?_
              rw [hR4.out]
              have hb12 := hb11.grown hgrow (by simp) (fun j hj => by cases hj)
              have hown2 : w12.ownsRow (w10).heap.size 115 2 v' 1 (spCells [(p, (n : Int))]) := by simpa [spCells] using hown'
              obtain ⟨A9, c9, rfl, ru9, _, _, hfu9, _⟩ := own_RU hown2 rfl
              exact ⟨_, _, A9, c9, by rw [hbl3.out]; rfl, rt8.on hb12, fun g o e => by have := hft8 g o e; omega, ru9, fun g o e => by have := hfu9 g o e; omega, V10.out.call hb12, FF.trans (.of_below hb12)⟩
          | false =>
            have hre : re ≠ 0 := hst2 rfl
            have hre' : (re != 0) = true := by simpa using hre
            have hbk2 : bk2 = bk := by rw [hmvB.out, if_neg (by simp)]
            rw [if_pos hre] at hdo3
            have V10 := V9'
            have kx10 := kx9
            have F06 := hF9
            have hst4 : Hid (w9.ownsRow NB 65 3 (.slice (some ⟨gn, 0, none⟩) nb cv) nb (tCells bk2)) := Lib.hid (by rw [hbk2]; exact rn9.out)
            obtain ⟨A8, c8, e8, rt8, _, _, hft8, _⟩ := own_RT hst4.out hbl3.out
            cases e8
            clear hst1 hst2 hmvB hbo hre
            cases rs with
            | true =>
              have hsk : sk2 = [(xt, (n : Int))] := by rw [hstd.out]; simp
              have hR4 : Hid (R = (bk2, [(xt, (n : Int))], re, rV)) := Lib.hid (by rw [hR3.out, hdo3.out, hsk])
              clear hdo3 hsk hstd
              obtain ⟨i0, hi, hz0, hz1, hz2⟩ := infoSp_parts
              have kN := Blk.new w9 115 #[.int .i64 xt, .int .i64 (n : Int)]
              have hb11 : Below (w9).heap.size w9 ((w9).alloc (.cells #[.int .i64 xt, .int .i64 (n : Int)] 115)) := (Below.refl _ _).alloc (Nat.le_refl _) _
              have FF : Far (fun k => k = b) w w9 := (Far.of_below hB6.out : Far (fun k => k = b) w w6).trans' F06 (fun i hi h => by
                rcases h with h | h
                · exact h
                · omega)
              have cx := kx10.cell
              have hs10 := F06.size
              go_wp2_with (refine wpList_append_own _ rfl (.tmp 143) (.tmp 151) 22 rfl (w9).heap.size 115 i0 (.agg #[.int .i64 0, .int .i64 0]) 2 16 Tryz.underlying22 hi hz0 hz1 hz2 rfl (by decide) _ 0 (spCells ([] : List Sp)) rfl (World.ownsRow_nil _ _ _ _) ⟨(w9).heap.size, 0, none⟩ 1 1 [.int .i64 xt, .int .i64 (n : Int)] rfl rfl (news_two kN) news_one2 (by unfold maxLen; omega) (by omega) (by simp) ?_; intro v' w12 hown' hgrow _)
              (try simp only [Exit.inBlock, Exit.then]); refine bodyPost_ret (results_tmp3 rfl _ _ _) rfl ?_
              rw [hR4.out]
              have hb12 := hb11.grown hgrow (by simp) (fun j hj => by cases hj)
              have hown2 : w12.ownsRow (w9).heap.size 115 2 v' 1 (spCells [(xt, (n : Int))]) := by simpa [spCells] using hown'
              obtain ⟨A9, c9, rfl, ru9, _, _, hfu9, _⟩ := own_RU hown2 rfl
              exact ⟨_, _, A9, c9, by rw [hbl3.out]; rfl, rt8.on hb12, fun g o e => by have := hft8 g o e; omega, ru9, fun g o e => by have := hfu9 g o e; omega, V10.out.call hb12, FF.trans (.of_below hb12)⟩
            | false =>
              have hsk : sk2 = [] := by rw [hstd.out]; simp
              have hR4 : Hid (R = (bk2, [], re, rV)) := Lib.hid (by rw [hR3.out, hdo3.out, hsk])
              have FF : Far (fun k => k = b) w w9 := (Far.of_below hB6.out : Far (fun k => k = b) w w6).trans' F06 (fun i hi h => by
                rcases h with h | h
                · exact h
                · have := hb6.size; omega)
              clear hdo3 hsk hstd
              go_wp2_with fail
              (try simp only [Exit.inBlock, Exit.then]); refine bodyPost_ret (results_tmp3 rfl _ _ _) rfl ?_
              rw [hR4.out]
              exact ⟨_, _, none, 0, by rw [hbl3.out]; rfl, rt8, fun g o e => by have := hft8 g o e; omega, RU.nil, fun _ _ h => (by cases h), V10.out, FF⟩
        · obtain rfl : j = k := by omega
          have hlt2' : decide ((j : Int) < (j : Int)) = false := by simp
          have hR4 : Hid (R = (bk, [], 0, U)) := Lib.hid (by
            rw [hR3.out, hdo.out, List.drop_of_length_le (by rw [hmn'.out]; exact Nat.le_refl _)]
            rfl)
          obtain ⟨A8, c8, e8, rt8, _, _, hft8, _⟩ := own_RT hrw.out hbl.out
          cases e8
          have FF : Far (fun k => k = b) w w5 := (Far.of_below hB6.out : Far (fun k => k = b) w w6).trans' hF (fun i hi h => by
            rcases h with h | h
            · exact h
            · omega)
          clear hdo
          go_wp2_with fail
          (try simp only [Exit.inBlock, Exit.then]); refine bodyPost_ret (results_tmp3 rfl _ _ _) rfl ?_
          rw [hR4.out]
          exact ⟨_, _, none, 0, by rw [hbl.out]; rfl, rt8, fun g o e => by have := hft8 g o e; omega, RU.nil, fun _ _ h => (by cases h), hVk.out, FF⟩
end Go.Proofs.YtpabnbhbcphfiaaGreat
namespace Go.Pol
open Go Go.RowKit
theorem foldl_goodV {α : Type} {f : Vm → α → Vm} (hf : ∀ V x, GoodV V → GoodV (f V x)) : ∀ (l : List α) (V : Vm), GoodV V → GoodV (l.foldl f V)
  | [], _, h => h
  | x :: r, V, h => foldl_goodV hf r (f V x) (hf V x h)
theorem GoodV.res {V : Vm} (h : GoodV V) (x : Int × Int) : GoodV (resS V x) := h.bec _ _ _ _ _ (by omega)
theorem GoodV.com {V : Vm} (h : GoodV V) (x : Int × Int) : GoodV (comS V x) := h.bec _ _ _ _ _ (by omega)
theorem GoodV.gua {V : Vm} (h : GoodV V) (x : Int × Int) : GoodV (guaS V x) := h.bec _ _ _ _ _ (by omega)
theorem GoodV.wri {V : Vm} (h : GoodV V) (x : Int × Int) : GoodV (wriS V x) := h.write _ _
theorem GoodV.joi {V : Vm} (h : GoodV V) (x : Int) : GoodV (joiS V x) := h.join _
theorem sysG_good (rs cs gs hs ws l) : GoodV (sysG rs cs gs hs ws l) :=
  GoodV.plan (foldl_goodV (fun _ x h => h.joi x) hs _ (foldl_goodV (fun _ x h => h.wri x) ws _ (foldl_goodV (fun _ x h => h.gua x) gs _ (foldl_goodV (fun _ x h => h.com x) cs _ (foldl_goodV (fun _ x h => h.res x) rs newVm GoodV.new))))) l
/-- the reference's system is handed back -/
def RefOG (B : Nat) (V : Vm) (w : World) (e : Ending) (w' : World) : Prop := ∃ b, e = .returned (.pointer (some ⟨b, 0, none⟩)) ∧ RefIs w' B b V ∧ w.heap.size ≤ b ∧ Below w.heap.size w w'
end Go.Pol
namespace Go.Proofs.YtpabnbhbcphfiaaGreat
open Go Go.Proofs Go.RowKit Go.Pol Go.Shelf
attribute [local go_sem] Oper.semAt_some Go.Pol.wide_fn Go.Pol.wide_depth Go.Pol.wide_fn' Go.Pol.wide_depth'

set_option maxRecDepth 100000 in
set_option maxHeartbeats 3200000 in
theorem mirror24_any (B0 : Nat) (A1 A2 A3 Ah Aw Ar : Option Addr) (n1 c1 n2 c2 n3 c3 nh ch nw cw nr cr : Nat) (rs cs gs : List (Int × Int)) (hs : List Int) (ws : List (Int × Int)) (l : List Ru) (w : World)
    (h1 : rs.length = n1) (h2 : cs.length = n2) (h3 : gs.length = n3) (hhs : hs.length = nh) (hws : ws.length = nw) (hl : l.length = nr) (hm : (n1 ≤ 1000 ∧ n2 ≤ 1000 ∧ n3 ≤ 1000) ∧ nh ≤ 1000 ∧ nw ≤ 1000 ∧ nr ≤ 1000) (hz : Ar = none → cr = 0)
    (r1 : RU w w.heap.size A1 rs) (r2 : RU w w.heap.size A2 cs) (r3 : RU w w.heap.size A3 gs) (ri : RI w w.heap.size Ah hs) (rb : Rd w w.heap.size Aw (fl wrC ws)) (hBw : B0 ≤ w.heap.size) (rr : Rd w B0 Ar (fl ruC l)) :
    Calls Tryz.prog 34 #[.agg #[.slice A1 n1 c1, .slice A2 n2 c2, .slice A3 n3 c3, .slice Ah nh ch, .slice Aw nw cw, .slice Ar nr cr]] w (RefOG B0 (sysG rs cs gs hs ws l) w) := by
  obtain ⟨⟨hm1, hm2, hm3⟩, hm4, hm5, hm6⟩ := hm
  obtain ⟨P, hP⟩ : ∃ P, sysG rs cs gs hs ws l = P := ⟨_, rfl⟩
  rw [hP]
  have hP' : Hid (planF (hs.foldl joiS (ws.foldl wriS (gs.foldl guaS (cs.foldl comS (rs.foldl resS newVm))))) l = P) := Lib.hid hP
  clear hP
  have HN := Lib.hid (fun W h => new6_any B0 W h)
  have hGd := Lib.hid (fun k => foldl_goodV (fun _ x h => h.joi x) (hs.take k) _ (foldl_goodV (fun _ x h => h.wri x) ws _ (foldl_goodV (fun _ x h => h.gua x) gs _ (foldl_goodV (fun _ x h => h.com x) cs _ (foldl_goodV (fun _ x h => h.res x) rs newVm GoodV.new)))))
  have hb0 := (Below.refl w.heap.size w).alloc (Nat.le_refl _) (.cells #[.slice A1 n1 c1, .slice A2 n2 c2, .slice A3 n3 c3, .slice Ah nh ch, .slice Aw nw cw, .slice Ar nr cr] 78)
  have k0 := Blk.new w 78 #[.slice A1 n1 c1, .slice A2 n2 c2, .slice A3 n3 c3, .slice Ah nh ch, .slice Aw nw cw, .slice Ar nr cr]
  obtain ⟨s, hs0⟩ : ∃ s, w.heap.size = s := ⟨_, rfl⟩
  have hsz0 : (w.alloc (.cells #[.slice A1 n1 c1, .slice A2 n2 c2, .slice A3 n3 c3, .slice Ah nh ch, .slice Aw nw cw, .slice Ar nr cr] 78)).heap.size = s + 1 := by rw [World.size_alloc, hs0]
  have r10 := Lib.hid (r1.below hb0)
  have r20 := Lib.hid (r2.below hb0)
  have r30 := Lib.hid (r3.below hb0)
  have ri0 := Lib.hid (ri.below hb0)
  have rb0 := Lib.hid (rb.below hb0)
  have rr0 := Lib.hid (rr.below (hb0.mono hBw))
  rw [hs0] at k0 hb0 r10 r20 r30 ri0 rb0 hBw
  clear r1 r2 r3 ri rb rr
  go_enter Tryz.func34, Tryz.ntmps34
  go_upto_region 1 with fail
  generalize w.alloc _ = w0 at *
  go_wp2_with fail
  unfold RNewO at HN
  refine (HN.out w0 (by omega)).mono ?_
  rintro e w1 ⟨b, rfl, V1, hbb, hb1⟩
  rw [hsz0] at hb1 hbb
  have hV0 := Lib.hid V1
  have hB0 := hb1
  clear V1 hb1 HN
  go_wp2_with fail
  go_loopw [5] (fun u wr => ∃ k : Nat, k ≤ n1 ∧ u = .int .i64 k ∧ Below (s + 1) w0 wr ∧ Hid (RefIs wr B0 b ((rs.take k).foldl resS newVm))) (fun u _ => n1 - (intOf u).toNat)
  case atStart => exact ⟨0, by omega, rfl, hB0, by simpa using hV0⟩
  clear hV0 hB0
  obtain ⟨k, hk, rfl, hB, hV⟩ := hrel
  have kb := k0.below hB (by omega)
  have c0 := kb.cell
  by_cases hlt : k < n1
  case pos =>
    have hlt' : decide ((k : Int) < (n1 : Int)) = true := by simpa using hlt
    have hstep : (rs.take (k + 1)).foldl resS newVm = resS ((rs.take k).foldl resS newVm) (rs.getD k (0, 0)) := by
      rw [z_take (0, 0) rs (by omega), List.foldl_append]
      rfl
    have hstep' := Lib.hid hstep
    obtain ⟨ub, uo, rfl, hub, hc, hd⟩ := (r10.out.below (hB.mono (by omega))).at_' (k := k) (by omega)
    generalize rs.getD k (0, 0) = x at *
    generalize (rs.take k).foldl resS newVm = V at *
    obtain ⟨xa, xn⟩ := x
    simp only at hc hd
    have e0 := fun x : Ext wr => (x.blk kb).cell
    have e1 := fun x : Ext wr => x.cell hc
    have e2 := fun x : Ext wr => x.cell hd
    clear hstep hc hd
    go_upto_region 5 with fail
    clear c0
    refine region_ext_tail 13 (by kernel_rfl) (by kernel_rfl) ?_
    simp only [List.take_succ_cons, List.take_zero, List.drop_succ_cons, List.drop_zero]
    repeat (go_big_quiet_step (fail))
    refine wpQuiet_nil ?_
    intro z
    go_wp2_with fail
    refine (reserve6_any B0 b xa xn V z.w (hV.out.call z.le)).mono ?_
    rintro e w2 ⟨rfl, V2, F2⟩
    have hB2 := (hB.trans (z.le.mono (by have := hB.size; omega))).trans (F2.below (by have := hB.size; have := z.le.size; omega) (fun k hk e => by omega))
    have V2' := Lib.hid V2
    clear e0 e1 e2 hV F2 V2
    go_wp2_with fail
    go_roundw
    case rel => exact ⟨k + 1, by omega, by go_num, hB2, Lib.hid (by rw [hstep'.out]; exact V2'.out)⟩
    case measure => simp [intOf]; omega
  obtain rfl : k = n1 := by omega
  have hlt' : decide ((k : Int) < (k : Int)) = false := by simp
  have hV2 : Hid (RefIs wr B0 b (rs.foldl resS newVm)) := Lib.hid (by have := hV.out; rwa [show k = rs.length from (by omega), List.take_length] at this)
  generalize rs.foldl resS newVm = Va at *
  clear hV
  go_wp2_with fail
  clear hlt' c0 hlt
  have hB0 := hB
  have hV0 := hV2
  clear hB hV2 kb hk
  go_loopw [6] (fun u wr => ∃ k : Nat, k ≤ n2 ∧ u = .int .i64 k ∧ Below (s + 1) w0 wr ∧ Hid (RefIs wr B0 b ((cs.take k).foldl comS Va))) (fun u _ => n2 - (intOf u).toNat)
  case atStart => exact ⟨0, by omega, rfl, hB0, by simpa using hV0⟩
  clear hV0 hB0
  obtain ⟨k, hk, rfl, hB, hV⟩ := hrel
  have kb := k0.below hB (by omega)
  have c0 := kb.cell
  by_cases hlt : k < n2
  case pos =>
    have hlt' : decide ((k : Int) < (n2 : Int)) = true := by simpa using hlt
    have hstep : (cs.take (k + 1)).foldl comS Va = comS ((cs.take k).foldl comS Va) (cs.getD k (0, 0)) := by
      rw [z_take (0, 0) cs (by omega), List.foldl_append]
      rfl
    have hstep' := Lib.hid hstep
    obtain ⟨ub, uo, rfl, hub, hc, hd⟩ := (r20.out.below (hB.mono (by omega))).at_' (k := k) (by omega)
    generalize cs.getD k (0, 0) = x at *
    generalize (cs.take k).foldl comS Va = V at *
    obtain ⟨xa, xn⟩ := x
    simp only at hc hd
    have e0 := fun x : Ext wr => (x.blk kb).cell
    have e1 := fun x : Ext wr => x.cell hc
    have e2 := fun x : Ext wr => x.cell hd
    clear hstep hc hd
    go_upto_region 9 with fail
    clear c0
    refine region_ext_tail 13 (by kernel_rfl) (by kernel_rfl) ?_
    simp only [List.take_succ_cons, List.take_zero, List.drop_succ_cons, List.drop_zero]
    repeat (go_big_quiet_step (fail))
    refine wpQuiet_nil ?_
    intro z
    go_wp2_with fail
    refine (commit6_any B0 b xa xn V z.w (hV.out.call z.le)).mono ?_
    rintro e w2 ⟨rfl, V2, F2⟩
    have hB2 := (hB.trans (z.le.mono (by have := hB.size; omega))).trans (F2.below (by have := hB.size; have := z.le.size; omega) (fun k hk e => by omega))
    have V2' := Lib.hid V2
    clear e0 e1 e2 hV F2 V2
    go_wp2_with fail
    go_roundw
    case rel => exact ⟨k + 1, by omega, by go_num, hB2, Lib.hid (by rw [hstep'.out]; exact V2'.out)⟩
    case measure => simp [intOf]; omega
  obtain rfl : k = n2 := by omega
  have hlt' : decide ((k : Int) < (k : Int)) = false := by simp
  have hV2 : Hid (RefIs wr B0 b (cs.foldl comS Va)) := Lib.hid (by have := hV.out; rwa [show k = cs.length from (by omega), List.take_length] at this)
  generalize cs.foldl comS Va = Vb at *
  clear hV
  go_wp2_with fail
  clear hlt' c0 hlt
  have hB0 := hB
  have hV0 := hV2
  clear hB hV2 kb hk
  go_loopw [7] (fun u wr => ∃ k : Nat, k ≤ n3 ∧ u = .int .i64 k ∧ Below (s + 1) w0 wr ∧ Hid (RefIs wr B0 b ((gs.take k).foldl guaS Vb))) (fun u _ => n3 - (intOf u).toNat)
  case atStart => exact ⟨0, by omega, rfl, hB0, by simpa using hV0⟩
  clear hV0 hB0
  obtain ⟨k, hk, rfl, hB, hV⟩ := hrel
  have kb := k0.below hB (by omega)
  have c0 := kb.cell
  by_cases hlt : k < n3
  case pos =>
    have hlt' : decide ((k : Int) < (n3 : Int)) = true := by simpa using hlt
    have hstep : (gs.take (k + 1)).foldl guaS Vb = guaS ((gs.take k).foldl guaS Vb) (gs.getD k (0, 0)) := by
      rw [z_take (0, 0) gs (by omega), List.foldl_append]
      rfl
    have hstep' := Lib.hid hstep
    obtain ⟨ub, uo, rfl, hub, hc, hd⟩ := (r30.out.below (hB.mono (by omega))).at_' (k := k) (by omega)
    generalize gs.getD k (0, 0) = x at *
    generalize (gs.take k).foldl guaS Vb = V at *
    obtain ⟨xa, xn⟩ := x
    simp only at hc hd
    have e0 := fun x : Ext wr => (x.blk kb).cell
    have e1 := fun x : Ext wr => x.cell hc
    have e2 := fun x : Ext wr => x.cell hd
    clear hstep hc hd
    go_upto_region 13 with fail
    clear c0
    refine region_ext_tail 13 (by kernel_rfl) (by kernel_rfl) ?_
    simp only [List.take_succ_cons, List.take_zero, List.drop_succ_cons, List.drop_zero]
    repeat (go_big_quiet_step (fail))
    refine wpQuiet_nil ?_
    intro z
    go_wp2_with fail
    refine (guard6_any B0 b xa xn V z.w (hV.out.call z.le)).mono ?_
    rintro e w2 ⟨rfl, V2, F2⟩
    have hB2 := (hB.trans (z.le.mono (by have := hB.size; omega))).trans (F2.below (by have := hB.size; have := z.le.size; omega) (fun k hk e => by omega))
    have V2' := Lib.hid V2
    clear e0 e1 e2 hV F2 V2
    go_wp2_with fail
    go_roundw
    case rel => exact ⟨k + 1, by omega, by go_num, hB2, Lib.hid (by rw [hstep'.out]; exact V2'.out)⟩
    case measure => simp [intOf]; omega
  obtain rfl : k = n3 := by omega
  have hlt' : decide ((k : Int) < (k : Int)) = false := by simp
  have hV2 : Hid (RefIs wr B0 b (gs.foldl guaS Vb)) := Lib.hid (by have := hV.out; rwa [show k = gs.length from (by omega), List.take_length] at this)
  generalize gs.foldl guaS Vb = Vc at *
  clear hV
  go_wp2_with fail
  clear hlt' c0 hlt
  have hB0 := hB
  have hV0 := hV2
  clear hB hV2 kb hk
  go_loopw [8] (fun u wr => ∃ k : Nat, k ≤ nw ∧ u = .int .i64 k ∧ Below (s + 1) w0 wr ∧ Hid (RefIs wr B0 b ((ws.take k).foldl wriS Vc))) (fun u _ => nw - (intOf u).toNat)
  case atStart => exact ⟨0, by omega, rfl, hB0, by simpa using hV0⟩
  clear hV0 hB0
  obtain ⟨k, hk, rfl, hB, hV⟩ := hrel
  have kb := k0.below hB (by omega)
  have c0 := kb.cell
  by_cases hlt : k < nw
  case pos =>
    have hlt' : decide ((k : Int) < (nw : Int)) = true := by simpa using hlt
    have hstep : (ws.take (k + 1)).foldl wriS Vc = wriS ((ws.take k).foldl wriS Vc) (ws.getD k (0, 0)) := by
      rw [z_take (0, 0) ws (by omega), List.foldl_append]
      rfl
    have hstep' := Lib.hid hstep
    obtain ⟨ub, uo, rfl, hub, hc⟩ := (rb0.out.below (hB.mono (by omega))).elem wrC_len (by omega) (0, 0) (k := k) (by omega)
    generalize ws.getD k (0, 0) = x at *
    generalize (ws.take k).foldl wriS Vc = V at *
    obtain ⟨xa, xv⟩ := x
    have hc0 : wr.cell? ⟨ub, uo + k * 2, none⟩ = some (.int .i64 xa) := hc 0 _ rfl
    have hc1 : wr.cell? ⟨ub, uo + k * 2 + 1, none⟩ = some (.int .u8 xv) := hc 1 _ rfl
    have e0 := fun x : Ext wr => (x.blk kb).cell
    have e1 := fun x : Ext wr => x.cell hc0
    have e2 := fun x : Ext wr => x.cell hc1
    clear hstep hc hc0 hc1
    go_upto_region 17 with fail
    clear c0
    refine region_ext_tail 13 (by kernel_rfl) (by kernel_rfl) ?_
    simp only [List.take_succ_cons, List.take_zero, List.drop_succ_cons, List.drop_zero]
    repeat (go_big_quiet_step (fail))
    refine wpQuiet_nil ?_
    intro z
    go_wp2_with fail
    refine (write6_any B0 b xa xv V z.w (hV.out.call z.le)).mono ?_
    rintro e w2 ⟨rfl, V2, F2⟩
    have hB2 := (hB.trans (z.le.mono (by have := hB.size; omega))).trans (F2.below (by have := hB.size; have := z.le.size; omega) (fun k hk e => by omega))
    have V2' := Lib.hid V2
    clear e0 e1 e2 hV F2 V2
    go_wp2_with fail
    go_roundw
    case rel => exact ⟨k + 1, by omega, by go_num, hB2, Lib.hid (by rw [hstep'.out]; exact V2'.out)⟩
    case measure => simp [intOf]; omega
  obtain rfl : k = nw := by omega
  have hlt' : decide ((k : Int) < (k : Int)) = false := by simp
  have hV2 : Hid (RefIs wr B0 b (ws.foldl wriS Vc)) := Lib.hid (by have := hV.out; rwa [show k = ws.length from (by omega), List.take_length] at this)
  generalize ws.foldl wriS Vc = Vd at *
  clear hV
  go_wp2_with fail
  clear hlt' c0 hlt
  have hB0 := hB
  have hV0 := hV2
  clear hB hV2 kb hk
  go_loopw [9] (fun u wr => ∃ k : Nat, k ≤ nh ∧ u = .int .i64 k ∧ Below (s + 1) w0 wr ∧ Hid (RefIs wr B0 b ((hs.take k).foldl joiS Vd))) (fun u _ => nh - (intOf u).toNat)
  case atStart => exact ⟨0, by omega, rfl, hB0, by simpa using hV0⟩
  clear hV0 hB0
  obtain ⟨k, hk, rfl, hB, hV⟩ := hrel
  have kb := k0.below hB (by omega)
  have c0 := kb.cell
  by_cases hlt : k < nh
  case pos =>
    have hlt' : decide ((k : Int) < (nh : Int)) = true := by simpa using hlt
    have hstep : (hs.take (k + 1)).foldl joiS Vd = joiS ((hs.take k).foldl joiS Vd) (hs.getD k 0) := by
      rw [z_take 0 hs (by omega), List.foldl_append]
      rfl
    obtain ⟨ub, uo, rfl, hub, hc⟩ := (ri0.out.below (hB.mono (by omega))).at_ (k := k) (by omega)
    generalize hs.getD k 0 = x at *
    have hGk := hGd.out k
    generalize (hs.take k).foldl joiS Vd = V at *
    have hstep' : Hid ((hs.take (k + 1)).foldl joiS Vd = (Go.Pol.joinF V x).2) := Lib.hid hstep
    have HJ := Lib.hid (join6_any B0 b x V wr hV.out hGk)
    clear hstep
    go_wp2_with fail
    refine HJ.out.mono ?_
    rintro e w2 ⟨rfl, V2, F2⟩
    have hB2 := hB.trans (F2.below (by have := hB.size; omega) (fun k hk e => by omega))
    have V2' := Lib.hid V2
    clear hV F2 V2 HJ
    go_wp2_with fail
    go_roundw
    case rel => exact ⟨k + 1, by omega, by go_num, hB2, Lib.hid (by rw [hstep'.out]; exact V2'.out)⟩
    case measure => simp [intOf]; omega
  obtain rfl : k = nh := by omega
  have hlt' : decide ((k : Int) < (k : Int)) = false := by simp
  have hV2 : Hid (RefIs wr B0 b (hs.foldl joiS Vd)) := Lib.hid (by have := hV.out; rwa [show k = hs.length from (by omega), List.take_length] at this)
  generalize hs.foldl joiS Vd = Ve at *
  clear hV hGd
  have HP := Lib.hid (plan6_any B0 b Ar nr cr l _ wr hV2.out hl hz (rr0.out.below (hB.mono (by omega))))
  go_wp2_with fail
  refine HP.out.mono ?_
  rintro e w2 ⟨rfl, V2, F2⟩
  have hB2 := hb0.trans ((hB.trans (F2.below (by have := hB.size; omega) (fun k hk e => by omega))).mono (by omega))
  have V2' := Lib.hid V2
  clear HP hV2 F2 V2 hB
  go_wp2_with fail
  go_ret
  exact ⟨b, rfl, by rw [← hP'.out]; exact V2'.out, by omega, by rw [hs0]; exact hB2⟩
end Go.Proofs.YtpabnbhbcphfiaaGreat
namespace Go.Proofs.YtpabnbhbcphfiaaGreat
open Go Go.Proofs Go.RowKit Go.Pol Go.Shelf
attribute [local go_sem] Oper.semAt_some Go.Pol.wide_fn Go.Pol.wide_depth Go.Pol.wide_fn' Go.Pol.wide_depth'

def mgput (a : Act) (v22 v23 v24 v25 v7 v8 : Value) : Act := (((((a.put (some 30) v22).put (some 31) v23).put (some 32) v24).put (some 33) v25).put (some 5) v7).put (some 6) v8
theorem mg_self (a : Act) (hsz : 70 ≤ a.tmps.size) : mgput a (a.eval (.tmp 30)) (a.eval (.tmp 31)) (a.eval (.tmp 32)) (a.eval (.tmp 33)) (a.eval (.tmp 5)) (a.eval (.tmp 6)) = a := by
  have h : ∀ t : Nat, t < 70 → a.put (some t) (a.eval (.tmp t)) = a := fun t ht => by
    have : a.tmps.setIfInBounds t (a.eval (.tmp t)) = a.tmps := by
      apply Array.ext_getElem?
      intro i
      rw [Array.getElem?_setIfInBounds]
      split
      · rename_i e; subst e
        have : t < a.tmps.size := by omega
        simp [Act.eval, this]
      · rfl
    simp only [Act.put, this]
  unfold mgput
  rw [h 30 (by omega), h 31 (by omega), h 32 (by omega), h 33 (by omega), h 5 (by omega), h 6 (by omega)]
section
variable (a : Act) (v22 v23 v24 v25 v7 v8 x : Value)
theorem mg_22 : (mgput a v22 v23 v24 v25 v7 v8).put (some 30) x = mgput a x v23 v24 v25 v7 v8 := by
  unfold mgput
  rw [swapU _ 6 30 _ _ (by omega), swapU _ 5 30 _ _ (by omega), swapU _ 33 30 _ _ (by omega), swapU _ 32 30 _ _ (by omega), swapU _ 31 30 _ _ (by omega), putU]
theorem mg_23 : (mgput a v22 v23 v24 v25 v7 v8).put (some 31) x = mgput a v22 x v24 v25 v7 v8 := by
  unfold mgput
  rw [swapU _ 6 31 _ _ (by omega), swapU _ 5 31 _ _ (by omega), swapU _ 33 31 _ _ (by omega), swapU _ 32 31 _ _ (by omega), putU]
theorem mg_24 : (mgput a v22 v23 v24 v25 v7 v8).put (some 32) x = mgput a v22 v23 x v25 v7 v8 := by
  unfold mgput
  rw [swapU _ 6 32 _ _ (by omega), swapU _ 5 32 _ _ (by omega), swapU _ 33 32 _ _ (by omega), putU]
theorem mg_25 : (mgput a v22 v23 v24 v25 v7 v8).put (some 33) x = mgput a v22 v23 v24 x v7 v8 := by
  unfold mgput
  rw [swapU _ 6 33 _ _ (by omega), swapU _ 5 33 _ _ (by omega), putU]
theorem mg_7 : (mgput a v22 v23 v24 v25 v7 v8).put (some 5) x = mgput a v22 v23 v24 v25 x v8 := by
  unfold mgput
  rw [swapU _ 6 5 _ _ (by omega), putU]
theorem mg_8 : (mgput a v22 v23 v24 v25 v7 v8).put (some 6) x = mgput a v22 v23 v24 v25 v7 x := by
  unfold mgput
  rw [putU]
end
section
variable (a : Act) (hsz : 70 ≤ a.tmps.size) (v22 v23 v24 v25 v7 v8 : Value)
include hsz
theorem mgev_22 : (mgput a v22 v23 v24 v25 v7 v8).eval (.tmp 30) = v22 := by
  unfold mgput
  rw [evalU_ne _ 6 30 _ (by omega), evalU_ne _ 5 30 _ (by omega), evalU_ne _ 33 30 _ (by omega), evalU_ne _ 32 30 _ (by omega), evalU_ne _ 31 30 _ (by omega), evalU_same _ _ _ (by omega)]
theorem mgev_23 : (mgput a v22 v23 v24 v25 v7 v8).eval (.tmp 31) = v23 := by
  unfold mgput
  rw [evalU_ne _ 6 31 _ (by omega), evalU_ne _ 5 31 _ (by omega), evalU_ne _ 33 31 _ (by omega), evalU_ne _ 32 31 _ (by omega), evalU_same _ _ _ (by rw [sizeU]; omega)]
theorem mgev_24 : (mgput a v22 v23 v24 v25 v7 v8).eval (.tmp 32) = v24 := by
  unfold mgput
  rw [evalU_ne _ 6 32 _ (by omega), evalU_ne _ 5 32 _ (by omega), evalU_ne _ 33 32 _ (by omega), evalU_same _ _ _ (by rw [sizeU, sizeU]; omega)]
theorem mgev_25 : (mgput a v22 v23 v24 v25 v7 v8).eval (.tmp 33) = v25 := by
  unfold mgput
  rw [evalU_ne _ 6 33 _ (by omega), evalU_ne _ 5 33 _ (by omega), evalU_same _ _ _ (by rw [sizeU, sizeU, sizeU]; omega)]
omit hsz in
theorem mgev_3 : (mgput a v22 v23 v24 v25 v7 v8).eval (.tmp 2) = a.eval (.tmp 2) := by
  unfold mgput
  rw [evalU_ne _ 6 2 _ (by omega), evalU_ne _ 5 2 _ (by omega), evalU_ne _ 33 2 _ (by omega), evalU_ne _ 32 2 _ (by omega), evalU_ne _ 31 2 _ (by omega), evalU_ne _ 30 2 _ (by omega)]
end

noncomputable def doesOps : Array Oper := (Tryz.f5.body.bind (regOpsU 3)).getD #[]
/-- what is known when some operations are done -/
def BothInvG (a0 : Act) (w0 : World) (M : Value) (V : Vm) (D : Nat → Bool) (a : Act) (w : World) : Prop :=
  ∃ (v22 v23 v24 v25 v7 v8 : Value) (b1 b2 : Nat), a = mgput a0 v22 v23 v24 v25 v7 v8 ∧ Below w0.heap.size w0 w ∧ (D 0 = true → v22 = M) ∧ (D 1 = true → v23 = .pointer (some ⟨b1, 0, none⟩) ∧ w0.heap.size ≤ b1 ∧ SysIs w b1 V) ∧ (D 2 = true → v24 = M) ∧
    (D 3 = true → v25 = .pointer (some ⟨b2, 0, none⟩) ∧ b1 < b2 ∧ RefIs w w0.heap.size b2 V ∧ D 1 = true) ∧ (D 4 = true → v7 = v23 ∧ D 1 = true) ∧ (D 5 = true → v8 = v25 ∧ D 3 = true)
attribute [local irreducible] Oper.wp in
set_option maxHeartbeats 1600000 in
theorem does_first {Q : Exit → Act → World → Prop} (a0 : Act) (w0 : World) (s : Nat) (A1 A2 A3 Ah Aw Ar : Option Addr) (n1 c1 n2 c2 n3 c3 nh ch nw cw nr cr : Nat) (rs cs gs : List (Int × Int)) (hs : List Int) (ws : List (Int × Int)) (l : List Ru) (hsz : 70 ≤ a0.tmps.size)
    (hp3 : a0.eval (.tmp 2) = .pointer (some ⟨s, 0, none⟩)) (k0 : Blk w0 s 78 #[.slice A1 n1 c1, .slice A2 n2 c2, .slice A3 n3 c3, .slice Ah nh ch, .slice Aw nw cw, .slice Ar nr cr])
    (h1 : rs.length = n1) (h2 : cs.length = n2) (h3 : gs.length = n3) (hhs : hs.length = nh) (hws : ws.length = nw) (hl : l.length = nr) (hm : (n1 ≤ 1000 ∧ n2 ≤ 1000 ∧ n3 ≤ 1000) ∧ nh ≤ 1000 ∧ nw ≤ 1000 ∧ nr ≤ 1000) (hz : Ar = none → cr = 0)
    (r1 : RU w0 w0.heap.size A1 rs) (r2 : RU w0 w0.heap.size A2 cs) (r3 : RU w0 w0.heap.size A3 gs) (ri : RI w0 w0.heap.size Ah hs) (rb : Rd w0 w0.heap.size Aw (fl wrC ws)) (rr : Rd w0 w0.heap.size Ar (fl ruC l))
    (hQ : ∀ (b1 b2 : Nat) (w' : World), w0.heap.size ≤ b1 → b1 < b2 → SysIs w' b1 (sysG rs cs gs hs ws l) → RefIs w' w0.heap.size b2 (sysG rs cs gs hs ws l) → Below w0.heap.size w0 w' →
      Q .normal (mgput a0 (.agg #[.slice A1 n1 c1, .slice A2 n2 c2, .slice A3 n3 c3, .slice Ah nh ch, .slice Aw nw cw, .slice Ar nr cr]) (.pointer (some ⟨b1, 0, none⟩)) (.agg #[.slice A1 n1 c1, .slice A2 n2 c2, .slice A3 n3 c3, .slice Ah nh ch, .slice Aw nw cw, .slice Ar nr cr]) (.pointer (some ⟨b2, 0, none⟩)) (.pointer (some ⟨b1, 0, none⟩)) (.pointer (some ⟨b2, 0, none⟩))) w') :
    (Code.region 3 doesOps true).wp Tryz.prog Q a0 w0 := by
  conv => arg 2; arg 2; whnf
  have hsl := k0.lt
  obtain ⟨V, hVV⟩ : ∃ V, sysG rs cs gs hs ws l = V := ⟨_, rfl⟩
  have HS := fun W a b c d e f => sys24_any A1 A2 A3 Ah Aw Ar n1 c1 n2 c2 n3 c3 nh ch nw cw nr cr rs cs gs hs ws l W h1 h2 h3 hhs hws hl hm hz a b c d e f
  have HM := fun W a b c d e f g => mirror24_any w0.heap.size A1 A2 A3 Ah Aw Ar n1 c1 n2 c2 n3 c3 nh ch nw cw nr cr rs cs gs hs ws l W h1 h2 h3 hhs hws hl hm hz a b c d e f g
  rw [hVV] at HS HM hQ
  refine region_inv (BothInvG a0 w0 (.agg #[.slice A1 n1 c1, .slice A2 n2 c2, .slice A3 n3 c3, .slice Ah nh ch, .slice Aw nw cw, .slice Ar nr cr]) V) (by kernel_rfl) (by simp [edgesDown, Region.binds]) ?ext ?start ?steps ?fin
  case ext =>
    intro D D' a w h hI
    have e : ∀ i, i < 6 → D i = D' i := h
    have : BothInvG a0 w0 (.agg #[.slice A1 n1 c1, .slice A2 n2 c2, .slice A3 n3 c3, .slice Ah nh ch, .slice Aw nw cw, .slice Ar nr cr]) V D a w = BothInvG a0 w0 (.agg #[.slice A1 n1 c1, .slice A2 n2 c2, .slice A3 n3 c3, .slice Ah nh ch, .slice Aw nw cw, .slice Ar nr cr]) V D' a w := by
      unfold BothInvG
      simp only [e 0 (by omega), e 1 (by omega), e 2 (by omega), e 3 (by omega), e 4 (by omega), e 5 (by omega)]
    exact this ▸ hI
  case start =>
    intro D h
    have n : ∀ i, i < 6 → ¬ (D i = true) := fun i hi => by rw [h i hi]; decide
    exact ⟨_, _, _, _, _, _, 0, 0, (mg_self a0 hsz).symm, (Below.refl _ w0).drew, fun h => absurd h (n 0 (by omega)), fun h => absurd h (n 1 (by omega)), fun h => absurd h (n 2 (by omega)), fun h => absurd h (n 3 (by omega)), fun h => absurd h (n 4 (by omega)), fun h => absurd h (n 5 (by omega))⟩
  case fin =>
    rintro a w ⟨v22, v23, v24, v25, v7, v8, b1, b2, rfl, hb, i0, i1, i2, i3, i4, i5⟩
    obtain rfl := i0 rfl
    obtain ⟨rfl, g1, V1⟩ := i1 rfl
    obtain rfl := i2 rfl
    obtain ⟨rfl, g2, V2, _⟩ := i3 rfl
    obtain ⟨rfl, _⟩ := i4 rfl
    obtain ⟨rfl, _⟩ := i5 rfl
    exact hQ b1 b2 w g1 g2 V1 V2 hb
  case steps =>
    refine ⟨?_, ?_, ?_, ?_, ?_, ?_, trivial⟩
    all_goals (rintro D a w ⟨v22, v23, v24, v25, v7, v8, b1, b2, rfl, hb, i0, i1, i2, i3, i4, i5⟩ hk he)
    all_goals (refine step_plainU rfl ?_)
    all_goals (have c0 := (k0.call hb).cell)
    · refine wp_valU (v := .agg #[.slice A1 n1 c1, .slice A2 n2 c2, .slice A3 n3 c3, .slice Ah nh ch, .slice Aw nw cw, .slice Ar nr cr]) (w' := w) (by simp only [execOp, mgev_3, hp3]; simp [go_sem, c0]) ?_
      show BothInvG a0 w0 _ V _ ((mgput a0 v22 v23 v24 v25 v7 v8).put (some 30) _) w; rw [mg_22]
      refine ⟨_, _, _, _, _, _, b1, b2, rfl, hb, ?_⟩
      simp only [Nat.reduceBEq, Bool.true_or, Bool.false_or, forall_const]
      exact ⟨trivial, i1, i2, i3, i4, i5⟩
    · obtain rfl := i0 (he ⟨0, .data⟩ (by simp) rfl)
      have hd3 : D 3 = false := by cases h : D 3 with | false => rfl | true => rw [(i3 h).2.2.2] at hk; cases hk
      have hd4 : D 4 = false := by cases h : D 4 with | false => rfl | true => rw [(i4 h).2] at hk; cases hk
      have hd5 : D 5 = false := by cases h : D 5 with | false => rfl | true => rw [(i5 h).2] at hd3; cases hd3
      have ev' : (mgput a0 (.agg #[.slice A1 n1 c1, .slice A2 n2 c2, .slice A3 n3 c3, .slice Ah nh ch, .slice Aw nw cw, .slice Ar nr cr]) v23 v24 v25 v7 v8).tmps[30]?.getD undef = .agg #[.slice A1 n1 c1, .slice A2 n2 c2, .slice A3 n3 c3, .slice Ah nh ch, .slice Aw nw cw, .slice Ar nr cr] := by
        have := mgev_22 a0 hsz (.agg #[.slice A1 n1 c1, .slice A2 n2 c2, .slice A3 n3 c3, .slice Ah nh ch, .slice Aw nw cw, .slice Ar nr cr]) v23 v24 v25 v7 v8
        simpa [Act.eval] using this
      refine wp_enterV (f := 33) (args := #[.agg #[.slice A1 n1 c1, .slice A2 n2 c2, .slice A3 n3 c3, .slice Ah nh ch, .slice Aw nw cw, .slice Ar nr cr]]) (w1 := w) (C := fun v w' => ∃ b, v = .pointer (some ⟨b, 0, none⟩) ∧ SysIs w' b V ∧ w.heap.size ≤ b ∧ Below w.heap.size w w') (by simp only [execOp]; simp [go_sem, ev']) ((HS w ((r1.below hb).more hb.size) ((r2.below hb).more hb.size) ((r3.below hb).more hb.size) (RI.more (RI.below ri hb) hb.size) (rb.on_ hb) (rr.on_ hb)).mono fun e w' ⟨b, h1, h2, h3, h4⟩ => ⟨_, h1, b, rfl, h2, h3, h4⟩) ?_
      rintro v w' ⟨b, rfl, hV, hbb, hbA⟩
      show BothInvG a0 w0 _ V _ ((mgput a0 _ v23 v24 v25 v7 v8).put (some 31) _) w'; rw [mg_23]
      refine ⟨_, _, _, _, _, _, b, b2, rfl, hb.trans (hbA.mono hb.size), ?_⟩
      simp only [Nat.reduceBEq, Nat.reduceAdd, Bool.true_or, Bool.false_or, forall_const]
      simp only [hd3, hd4, hd5]
      exact ⟨fun _ => trivial, ⟨trivial, Nat.le_trans hb.size hbb, hV⟩, i2, fun d => (by cases d), fun d => (by cases d), fun d => (by cases d)⟩
    · refine wp_valU (v := .agg #[.slice A1 n1 c1, .slice A2 n2 c2, .slice A3 n3 c3, .slice Ah nh ch, .slice Aw nw cw, .slice Ar nr cr]) (w' := w) (by simp only [execOp, mgev_3, hp3]; simp [go_sem, c0]) ?_
      show BothInvG a0 w0 _ V _ ((mgput a0 v22 v23 v24 v25 v7 v8).put (some 32) _) w; rw [mg_24]
      refine ⟨_, _, _, _, _, _, b1, b2, rfl, hb, ?_⟩
      simp only [Nat.reduceBEq, Nat.reduceAdd, Bool.true_or, Bool.false_or, forall_const]
      exact ⟨i0, i1, trivial, i3, i4, i5⟩
    · obtain rfl := i2 (he ⟨2, .data⟩ (by simp) rfl)
      have d1 := he ⟨1, .chain⟩ (by simp) rfl
      obtain ⟨rfl, g1, V1⟩ := i1 d1
      have hd5 : D 5 = false := by cases h : D 5 with | false => rfl | true => rw [(i5 h).2] at hk; cases hk
      have ev' : (mgput a0 v22 (.pointer (some ⟨b1, 0, none⟩)) (.agg #[.slice A1 n1 c1, .slice A2 n2 c2, .slice A3 n3 c3, .slice Ah nh ch, .slice Aw nw cw, .slice Ar nr cr]) v25 v7 v8).tmps[32]?.getD undef = .agg #[.slice A1 n1 c1, .slice A2 n2 c2, .slice A3 n3 c3, .slice Ah nh ch, .slice Aw nw cw, .slice Ar nr cr] := by
        have := mgev_24 a0 hsz v22 (.pointer (some ⟨b1, 0, none⟩)) (.agg #[.slice A1 n1 c1, .slice A2 n2 c2, .slice A3 n3 c3, .slice Ah nh ch, .slice Aw nw cw, .slice Ar nr cr]) v25 v7 v8
        simpa [Act.eval] using this
      refine wp_enterV (f := 34) (args := #[.agg #[.slice A1 n1 c1, .slice A2 n2 c2, .slice A3 n3 c3, .slice Ah nh ch, .slice Aw nw cw, .slice Ar nr cr]]) (w1 := w) (C := fun v w' => ∃ b, v = .pointer (some ⟨b, 0, none⟩) ∧ RefIs w' w0.heap.size b V ∧ w.heap.size ≤ b ∧ Below w.heap.size w w') (by simp only [execOp]; simp [go_sem, ev']) ((HM w ((r1.below hb).more hb.size) ((r2.below hb).more hb.size) ((r3.below hb).more hb.size) (RI.more (RI.below ri hb) hb.size) (rb.on_ hb) hb.size (rr.below hb)).mono fun e w' ⟨b, h1, h2, h3, h4⟩ => ⟨_, h1, b, rfl, h2, h3, h4⟩) ?_
      rintro v w' ⟨b, rfl, hV, hbb, hbA⟩
      show BothInvG a0 w0 _ V _ ((mgput a0 v22 _ _ v25 v7 v8).put (some 33) _) w'; rw [mg_25]
      refine ⟨_, _, _, _, _, _, b1, b, rfl, hb.trans (hbA.mono hb.size), ?_⟩
      simp only [Nat.reduceBEq, Nat.reduceAdd, Bool.true_or, Bool.false_or, forall_const]
      simp only [hd5]
      exact ⟨i0, fun _ => ⟨trivial, g1, V1.call hbA⟩, fun _ => trivial, ⟨trivial, Nat.lt_of_lt_of_le V1.lt hbb, hV, d1⟩, i4, fun d => (by cases d)⟩
    · have d1 := he ⟨1, .data⟩ (by simp) rfl
      refine wp_valU (v := v23) (w' := w) (by simp only [execOp, mgev_23 _ hsz]; simp [go_sem]) ?_
      show BothInvG a0 w0 _ V _ ((mgput a0 v22 v23 v24 v25 v7 v8).put (some 5) _) w; rw [mg_7]
      refine ⟨_, _, _, _, _, _, b1, b2, rfl, hb, ?_⟩
      simp only [Nat.reduceBEq, Nat.reduceAdd, Bool.true_or, Bool.false_or, forall_const]
      exact ⟨i0, i1, i2, i3, ⟨trivial, d1⟩, i5⟩
    · have d3 := he ⟨3, .data⟩ (by simp) rfl
      refine wp_valU (v := v25) (w' := w) (by simp only [execOp, mgev_25 _ hsz]; simp [go_sem]) ?_
      show BothInvG a0 w0 _ V _ ((mgput a0 v22 v23 v24 v25 v7 v8).put (some 6) _) w; rw [mg_8]
      refine ⟨_, _, _, _, _, _, b1, b2, rfl, hb, ?_⟩
      simp only [Nat.reduceBEq, Nat.reduceAdd, Bool.true_or, Bool.false_or, forall_const]
      exact ⟨i0, i1, i2, i3, i4, ⟨trivial, d3⟩⟩
end Go.Proofs.YtpabnbhbcphfiaaGreat
namespace Go.Proofs.YtpabnbhbcphfiaaGreat
open Go Go.Proofs Go.RowKit Go.Pol Go.Shelf
attribute [local go_sem] Oper.semAt_some Go.Pol.wide_fn Go.Pol.wide_depth Go.Pol.wide_fn' Go.Pol.wide_depth'

theorem eqRu (a b c d : Int) (w : World) : (Op.equalIn 10000 136 (.agg #[.int .i64 a, .int .i64 b, .int .i64 c, .int .i64 d]) (.agg #[.int .i64 a, .int .i64 b, .int .i64 c, .int .i64 d])).run Tryz.prog w = .ok true w := by
  have u3 := Tryz.underlying3
  have a3 := Tryz.isAgg3
  have z3 := Tryz.sizeOf3
  rw [show (10000 : Nat) = 9999 + 1 from rfl]
  go_simp
  try simp
theorem eqRn (a b c : Int) (w : World) : (Op.equalIn 10000 122 (.agg #[.int .i64 a, .int .i64 b, .int .i64 c]) (.agg #[.int .i64 a, .int .i64 b, .int .i64 c])).run Tryz.prog w = .ok true w := by
  have u3 := Tryz.underlying3
  have a3 := Tryz.isAgg3
  have z3 := Tryz.sizeOf3
  rw [show (10000 : Nat) = 9999 + 1 from rfl]
  go_simp
  try simp
set_option maxRecDepth 100000 in
set_option maxHeartbeats 1600000 in
theorem samePlan_any (A A' : Option Addr) (n cap cap' : Nat) (l : List Ru) (w : World) (hn : l.length = n) (hm : n ≤ 1000) (hr : Rd w w.heap.size A (fl ruC l)) (hr' : Rd w w.heap.size A' (fl ruC l)) :
    Calls Tryz.prog 131 #[.agg #[.slice A n cap], .agg #[.slice A' n cap']] w fun e w' => e = .returned (.bool true) ∧ Below w.heap.size w w' := by
  have hb0 := ((Below.refl w.heap.size w).alloc (Nat.le_refl _) (.cells #[.slice A n cap] 25)).alloc (by simp) (.cells #[.slice A' n cap'] 25)
  have k0 := (Blk.new w 25 #[.slice A n cap]).alloc (.cells #[.slice A' n cap'] 25)
  have k1 := Blk.new (w.alloc (.cells #[.slice A n cap] 25)) 25 #[.slice A' n cap']
  have r0 := hr.on_ hb0
  have r1 := hr'.on_ hb0
  obtain ⟨s, hs⟩ : ∃ s, w.heap.size = s := ⟨_, rfl⟩
  rw [World.size_alloc, hs] at k1
  rw [hs] at k0
  have hn' := Lib.hid hn
  have heq := Lib.hid (fun a b c d W => eqRu a b c d W)
  clear hn hr hr'
  go_enter Tryz.func131, Tryz.ntmps131
  go_upto_region 1 with fail
  generalize (w.alloc _).alloc _ = w0 at *
  try simp only [hs]
  have c0 := k0.cell
  have c1 := k1.cell
  have d0 : ((n : Int) != (n : Int)) = false := by simp
  go_upto_region 3 with fail
  clear c0 c1
  have k0' := Lib.hid k0
  have k1' := Lib.hid k1
  clear k0 k1
  go_wp2_with fail
  go_loopw [5] (fun u wr => ∃ i : Nat, i ≤ n ∧ u = .int .i64 i ∧ Below w0.heap.size w0 wr) (fun u _ => n - (intOf u).toNat)
  case atStart => exact ⟨0, by omega, rfl, Below.refl _ _⟩
  case round =>
    obtain ⟨i, hi, rfl, hB⟩ := hrel
    have kr := k0'.out.call hB
    have kq := k1'.out.call hB
    have cr := kr.cell
    by_cases hlt : i < n
    · have hlt' : decide ((i : Int) < (n : Int)) = true := by simpa using hlt
      have hin : (i : Int) < (n : Int) := by omega
      obtain ⟨b, o, rfl, hb, hc⟩ := (r0.on_ hB).elem ruC_len (by omega) ru0 (k := i) (by have := hn'.out; omega)
      obtain ⟨b', o', rfl, hb', hc'⟩ := (r1.on_ hB).elem ruC_len (by omega) ru0 (k := i) (by have := hn'.out; omega)
      generalize l.getD i ru0 = x at *
      obtain ⟨xk, f, e, t⟩ := x
      have x0 := hc 0 _ rfl
      have x1 := hc 1 _ rfl
      have x2 := hc 2 _ rfl
      have x3 := hc 3 _ rfl
      have y0 := hc' 0 _ rfl
      have y1 := hc' 1 _ rfl
      have y2 := hc' 2 _ rfl
      have y3 := hc' 3 _ rfl
      simp only [Nat.add_zero] at x0 y0
      have e0 := fun z : Ext wr => (z.blk kr).cell
      have e1 := fun z : Ext wr => (z.blk kq).cell
      have a0 := fun z : Ext wr => z.cell x0
      have a1 := fun z : Ext wr => z.cell x1
      have a2 := fun z : Ext wr => z.cell x2
      have a3 := fun z : Ext wr => z.cell x3
      have b0 := fun z : Ext wr => z.cell y0
      have b1 := fun z : Ext wr => z.cell y1
      have b2 := fun z : Ext wr => z.cell y2
      have b3 := fun z : Ext wr => z.cell y3
      have hq := fun W => heq.out xk f e t W
      clear hc hc' x0 x1 x2 x3 y0 y1 y2 y3
      go_upto_region 6 with fail
      clear cr
      refine region_ext (by kernel_rfl) (by kernel_rfl) ?_
      repeat (go_big_quiet_step (fail))
      refine wpQuiet_nil ?_
      rintro w2 ⟨⟨_, hw2⟩, rfl⟩
      go_wp2_with fail
      go_roundw
      case rel => exact ⟨i + 1, by omega, by go_num, hB.trans (hw2.mono hB.size)⟩
      case measure => simp [intOf]; omega
    · obtain rfl : i = n := by omega
      have hlt' : decide ((i : Int) < (i : Int)) = false := by simp
      go_wp2_with fail
      go_ret
      exact ⟨rfl, hb0.trans (hB.mono hb0.size)⟩
set_option maxRecDepth 100000 in
set_option maxHeartbeats 1600000 in
theorem sameState_any (A A' : Option Addr) (n cap cap' : Nat) (l : List Ru) (cs hs : Nat → Int) (w : World) (hn : l.length = n) (hm : n ≤ 1000) (hr : Rd w w.heap.size A (fl ruC l)) (hr' : Rd w w.heap.size A' (fl ruC l)) :
    Calls Tryz.prog 66 #[rfV (.slice A n cap) cs hs, rfV (.slice A' n cap') cs hs] w fun e w' => e = .returned (.bool true) ∧ Below w.heap.size w w' := by
  have hb0 := ((Below.refl w.heap.size w).alloc (Nat.le_refl _) (.cells (rfC (.slice A n cap) cs hs).toArray 51)).alloc (by simp) (.cells (rfC (.slice A' n cap') cs hs).toArray 51)
  have k0 := (Blk.new w 51 (rfC (.slice A n cap) cs hs).toArray).alloc (.cells (rfC (.slice A' n cap') cs hs).toArray 51)
  have k1 := Blk.new (w.alloc (.cells (rfC (.slice A n cap) cs hs).toArray 51)) 51 (rfC (.slice A' n cap') cs hs).toArray
  have r0 := hr.on_ hb0
  have r1 := hr'.on_ hb0
  obtain ⟨s, hsz⟩ : ∃ s, w.heap.size = s := ⟨_, rfl⟩
  rw [World.size_alloc, hsz] at k1
  rw [hsz] at k0
  have HP := Lib.hid (fun W h h' => samePlan_any A A' n cap cap' l W hn hm h h')
  have hqc : ∀ W, (Op.equalIn 10000 49 (.agg #[.int .i64 (cs 0), .int .i64 (cs 1), .int .i64 (cs 2), .int .i64 (cs 3), .int .i64 (cs 4), .int .i64 (cs 5), .int .i64 (cs 6)]) (.agg #[.int .i64 (cs 0), .int .i64 (cs 1), .int .i64 (cs 2), .int .i64 (cs 3), .int .i64 (cs 4), .int .i64 (cs 5), .int .i64 (cs 6)])).run Tryz.prog W = .ok true W := fun W => eq7_any cs W
  have hqh : ∀ W, (Op.equalIn 10000 49 (.agg #[.int .i64 (hs 0), .int .i64 (hs 1), .int .i64 (hs 2), .int .i64 (hs 3), .int .i64 (hs 4), .int .i64 (hs 5), .int .i64 (hs 6)]) (.agg #[.int .i64 (hs 0), .int .i64 (hs 1), .int .i64 (hs 2), .int .i64 (hs 3), .int .i64 (hs 4), .int .i64 (hs 5), .int .i64 (hs 6)])).run Tryz.prog W = .ok true W := fun W => eq7_any hs W
  unfold rfC at hb0 k0 k1 r0 r1
  unfold rfV rfC
  clear hn hr hr'
  go_enter Tryz.func66, Tryz.ntmps66
  go_upto_region 1 with fail
  generalize (w.alloc _).alloc _ = w0 at *
  try simp only [hsz]
  have c0 := k0.cell
  have c1 := k1.cell
  go_wp2_with fail
  refine (HP.out _ r0 r1).mono ?_
  rintro e w1 ⟨rfl, hb1⟩
  have k01 := (k0.call hb1).cell
  have k11 := (k1.call hb1).cell
  clear c0 c1 k0 k1 r0 r1 HP
  go_wp2_with fail
  go_ret
  exact ⟨rfl, hb0.trans (hb1.mono hb0.size)⟩
end Go.Proofs.YtpabnbhbcphfiaaGreat
namespace Go.Proofs.YtpabnbhbcphfiaaGreat
open Go Go.Proofs Go.RowKit Go.Pol Go.Shelf
attribute [local go_sem] Oper.semAt_some Go.Pol.wide_fn Go.Pol.wide_depth Go.Pol.wide_fn' Go.Pol.wide_depth'

/-- a whole array is loaded in a quiet walk -/
theorem wpQuiet_load' {P : Program} {ops : Array Oper} {C : World → Prop} {Q : Act → Prop} {a : Act} {o : Oper} {rest : List Oper} (x : Operand) (ty : TypeId) (p : Addr) (v : Value) (hg : o.guard = none) (h : o.op = .load ty x) (hx : a.eval x = .pointer (some p)) (hl : ∀ w, C w → (loadVar ty p).run P w = .ok v w)
    (hk : wpQuiet P ops C Q rest (a.put o.dst v)) : wpQuiet P ops C Q (o :: rest) a :=
  wpQuiet_step fun K hK => by
    rw [if_pos (by simp [Region.wanted, hg])]
    refine ⟨v, fun w hw => ?_, hK _ hk⟩
    unfold Oper.quietAt
    have e : (execOp a.eval o).run P w = .ok (.value v) w := by
      unfold execOp
      simp only [h]
      simp [hx, Instr.loadAt, Instr.sureAddr, Result.andThen, hl w hw]
    rw [e]
    exact ⟨rfl, rfl⟩
theorem infoDaS : (Tryz.prog.info? 124).map (·.size) = some 65 := by kernel_rfl
theorem eqItemsR (d : Nat) (f : Nat → Int) (w : World) : ∀ is : List Nat, (∀ i ∈ is, i < 64) → (Op.eqItems (d + 1) 5 1 (arrI .u8 64 f) (arrI .u8 64 f) is).run Tryz.prog w = .ok true w
  | [], _ => by simp [Op.eqItems]
  | i :: is, h => by
    have ih := eqItemsR d f w is (fun j hj => h j (by simp [hj]))
    have h1 := arrI_at (k := .u8) (f := f) (h i (by simp))
    have a3 := Tryz.isAgg5
    have he := run_equalIn_int (P := Tryz.prog) w d 5 .u8 _ (f i) (f i) Tryz.underlying5
    generalize arrI .u8 64 f = X at *
    have p1 : (part 5 X (i * 1)).run Tryz.prog w = .ok (.int .u8 (f i)) w := by simp [part, a3, h1]
    rw [show (f i == f i) = true by simp] at he
    simp only [Op.eqItems, Sem.run_bind, p1, he, Result.andThen_ok, Bool.not_true, Bool.false_eq_true, if_false]
    exact ih
theorem eq64R (d : Nat) (f : Nat → Int) (w : World) : (Op.equalIn (d + 2) 85 (.agg (arrI .u8 64 f)) (.agg (arrI .u8 64 f))).run Tryz.prog w = .ok true w := by
  obtain ⟨i0, hi⟩ := info_of_underlying (P := Tryz.prog) Tryz.underlying5
  rw [run_equalIn_array w (d + 1) _ _ Tryz.underlying85 hi]
  have hc : Tryz.prog.cellsOf 5 = 1 := by kernel_rfl
  rw [hc]
  exact eqItemsR d f w _ (fun i hi => List.mem_range.1 hi)
theorem daA_bytes (p : Int) (f : Nat → Int) : (daA p f).extract 1 65 = arrI .u8 64 f := by kernel_rfl
theorem daA_size (p : Int) (f : Nat → Int) : (daA p f).size = 65 := by kernel_rfl
theorem daA_page (p : Int) (f : Nat → Int) : (daA p f)[0]? = some (.int .i64 p) := by kernel_rfl
theorem eqDa (p : Int) (f : Nat → Int) (w : World) : (Op.equalIn 10000 124 (.agg (daA p f)) (.agg (daA p f))).run Tryz.prog w = .ok true w := by
  have u3 := Tryz.underlying3
  have a3 := Tryz.isAgg3
  have z3 := Tryz.sizeOf3
  have a9 := Tryz.isAgg85
  have z9 := Tryz.sizeOf85
  have h0 : (daA p f)[0]? = some (.int .i64 p) := daA_page p f
  have hx : (daA p f).extract 1 65 = arrI .u8 64 f := daA_bytes p f
  have hs := daA_size p f
  have he : (Op.equalIn 9999 85 (.agg (arrI .u8 64 f)) (.agg (arrI .u8 64 f))).run Tryz.prog w = .ok true w := eq64R 9997 f w
  have he0 : (Op.equalIn 9999 3 (.int .i64 p) (.int .i64 p)).run Tryz.prog w = .ok (p == p) w := run_equalIn_int (P := Tryz.prog) w 9998 3 .i64 _ p p Tryz.underlying3
  rw [show (p == p) = true by simp] at he0
  generalize daA p f = D at *
  generalize arrI .u8 64 f = X at *
  rw [show (10000 : Nat) = 9999 + 1 from rfl]
  go_simp
  obtain ⟨hlt, e0⟩ := Array.getElem?_eq_some_iff.1 h0
  simp only [e0, he0, he, Result.andThen_ok, Bool.true_eq_false, if_false]
set_option maxRecDepth 100000 in
set_option maxHeartbeats 3200000 in
theorem same6_any (S T : Value) (V : Vm) (w : World) (hS : VsIs w S V) (hT : VsIs w T V) (hm : V.rf.rules.length ≤ 1000) :
    Calls Tryz.prog 15 #[S, T] w fun e w' => e = .returned (.bool true) ∧ Below w.heap.size w w' := by
  obtain ⟨A1, A2, A3, A4, n1, c1, n2, c2, n3, c3, n4, c4, rfl, h1, r1, h2, r2, h3, r3, h4, r4⟩ := hS.ex
  obtain ⟨B1, B2, B3, B4, m1, d1, m2, d2, m3, d3, m4, d4, rfl, g1, q1, g2, q2, g3, q3, g4, q4⟩ := hT.ex
  obtain rfl : n1 = m1 := h1.symm.trans g1
  obtain rfl : n2 = m2 := h2.symm.trans g2
  obtain rfl : n3 = m3 := h3.symm.trans g3
  obtain rfl : n4 = m4 := h4.symm.trans g4
  clear g1 g2 g3 g4 hS hT
  have hb0 := ((Below.refl w.heap.size w).alloc (Nat.le_refl _) (.cells (stC (.slice A1 n1 c1) (.slice A2 n2 c2) (.slice A3 n3 c3) (.slice A4 n4 c4) V.rf.calls V.rf.hits).toArray 53)).alloc (by simp) (.cells (stC (.slice B1 n1 d1) (.slice B2 n2 d2) (.slice B3 n3 d3) (.slice B4 n4 d4) V.rf.calls V.rf.hits).toArray 53)
  have k0 := (Blk.new w 53 (stC (.slice A1 n1 c1) (.slice A2 n2 c2) (.slice A3 n3 c3) (.slice A4 n4 c4) V.rf.calls V.rf.hits).toArray).alloc (.cells (stC (.slice B1 n1 d1) (.slice B2 n2 d2) (.slice B3 n3 d3) (.slice B4 n4 d4) V.rf.calls V.rf.hits).toArray 53)
  have k1 := Blk.new (w.alloc (.cells (stC (.slice A1 n1 c1) (.slice A2 n2 c2) (.slice A3 n3 c3) (.slice A4 n4 c4) V.rf.calls V.rf.hits).toArray 53)) 53 (stC (.slice B1 n1 d1) (.slice B2 n2 d2) (.slice B3 n3 d3) (.slice B4 n4 d4) V.rf.calls V.rf.hits).toArray
  obtain ⟨s, hs⟩ : ∃ s, w.heap.size = s := ⟨_, rfl⟩
  rw [World.size_alloc, hs] at k1
  rw [hs] at k0
  have R1 := Lib.hid (And.intro (r1.on_ hb0) (q1.on_ hb0))
  have R2 := Lib.hid (And.intro (RI.more (RI.below r2 hb0) hb0.size) (RI.more (RI.below q2 hb0) hb0.size))
  have R3 := Lib.hid (And.intro (r3.on_ hb0) (q3.on_ hb0))
  have R4 := Lib.hid (And.intro (r4.on_ hb0) (q4.on_ hb0))
  have HSt := Lib.hid (fun W h h' => sameState_any A4 B4 n4 c4 d4 V.rf.rules V.rf.calls V.rf.hits W h4 (by omega) h h')
  have H1 := Lib.hid h1
  have H2 := Lib.hid h2
  have H3 := Lib.hid h3
  have hL1 := vrunsL_len V 1024
  have hL2 := hugL_len V 1024
  have hL3 := datL_len V 1024
  have e1 : ((n1 : Int) != (n1 : Int)) = false := by simp
  have e2 : ((n2 : Int) != (n2 : Int)) = false := by simp
  have e3 : ((n3 : Int) != (n3 : Int)) = false := by simp
  rw [h1] at hL1
  rw [h2] at hL2
  rw [h3] at hL3
  clear r1 r2 r3 r4 q1 q2 q3 q4 h1 h2 h3 h4
  unfold stC rfC at hb0 k0 k1 R1 R2 R3 R4 ⊢
  unfold rfV rfC at HSt
  go_enter Tryz.func15, Tryz.ntmps15
  go_upto_region 1 with fail
  generalize (w.alloc _).alloc _ = w0 at *
  try simp only [hs]
  have c0 := k0.cell
  have c1 := k1.cell
  go_wp2_with fail
  refine (HSt.out _ R4.out.1 R4.out.2).mono ?_
  rintro e w1 ⟨rfl, hb1⟩
  have k01 := Lib.hid (k0.call hb1)
  have k11 := Lib.hid (k1.call hb1)
  have Q1 := Lib.hid (And.intro (R1.out.1.on_ hb1) (R1.out.2.on_ hb1))
  have Q2 := Lib.hid (And.intro (RI.more (RI.below R2.out.1 hb1) hb1.size) (RI.more (RI.below R2.out.2 hb1) hb1.size))
  have Q3 := Lib.hid (And.intro (R3.out.1.on_ hb1) (R3.out.2.on_ hb1))
  have B0 := hb0.trans (hb1.mono hb0.size)
  clear c0 c1 k0 k1 R1 R2 R3 R4 HSt hb1
  have heqR := Lib.hid (fun a b c W => eqRn a b c W)
  have heqD := Lib.hid (fun p W => eqDa ((p : Nat) : Int) (V.pg p).byt W)
  go_wp2_with fail
  go_loopw [5] (fun u wr => ∃ i : Nat, i ≤ n1 ∧ u = .int .i64 i ∧ Below w1.heap.size w1 wr) (fun u _ => n1 - (intOf u).toNat)
  case atStart => exact ⟨0, by omega, rfl, Below.refl _ _⟩
  case round =>
    obtain ⟨i, hi, rfl, hB⟩ := hrel
    have kr := k01.out.call hB
    have kq := k11.out.call hB
    have cr := kr.cell
    by_cases hlt : i < n1
    · have hlt' : decide ((i : Int) < (n1 : Int)) = true := by simpa using hlt
      have hin : (i : Int) < (n1 : Int) := by omega
      obtain ⟨b, o, rfl, hb, hc⟩ := (Q1.out.1.on_ hB).elem rnC_len (by omega) rn0 (k := i) (by have := H1.out; omega)
      obtain ⟨b', o', rfl, hb', hc'⟩ := (Q1.out.2.on_ hB).elem rnC_len (by omega) rn0 (k := i) (by have := H1.out; omega)
      generalize (vrunsL V 1024).getD i rn0 = x at *
      obtain ⟨xa, xn, xk⟩ := x
      have x0 := hc 0 _ rfl
      have x1 := hc 1 _ rfl
      have x2 := hc 2 _ rfl
      have y0 := hc' 0 _ rfl
      have y1 := hc' 1 _ rfl
      have y2 := hc' 2 _ rfl
      simp only [Nat.add_zero] at x0 y0
      have e0 := fun z : Ext wr => (z.blk kr).cell
      have e1 := fun z : Ext wr => (z.blk kq).cell
      have a0 := fun z : Ext wr => z.cell x0
      have a1 := fun z : Ext wr => z.cell x1
      have a2 := fun z : Ext wr => z.cell x2
      have b0 := fun z : Ext wr => z.cell y0
      have b1 := fun z : Ext wr => z.cell y1
      have b2 := fun z : Ext wr => z.cell y2
      have hq := fun W => heqR.out xa xn xk W
      clear hc hc' x0 x1 x2 y0 y1 y2
      go_upto_region 6 with fail
      clear cr
      refine region_ext (by kernel_rfl) (by kernel_rfl) ?_
      repeat (go_big_quiet_step (fail))
      refine wpQuiet_nil ?_
      rintro w2 ⟨⟨_, hw2⟩, rfl⟩
      go_wp2_with fail
      go_roundw
      case rel => exact ⟨i + 1, by omega, by go_num, hB.trans (hw2.mono hB.size)⟩
      case measure => simp [intOf]; omega
    · obtain rfl : i = n1 := by omega
      have hlt' : decide ((i : Int) < (i : Int)) = false := by simp
      have hB1 := Lib.hid hB
      clear hB kr kq
      go_wp2_with fail
      clear cr
      go_loopw [6] (fun u wr => ∃ i : Nat, i ≤ n2 ∧ u = .int .i64 i ∧ Below w1.heap.size w1 wr) (fun u _ => n2 - (intOf u).toNat)
      case atStart => exact ⟨0, by omega, rfl, hB1.out⟩
      case round =>
        obtain ⟨j, hj, rfl, hB⟩ := hrel
        have kr := k01.out.call hB
        have kq := k11.out.call hB
        have cr := kr.cell
        by_cases hlt2 : j < n2
        · have hlt2' : decide ((j : Int) < (n2 : Int)) = true := by simpa using hlt2
          have hin : (j : Int) < (n2 : Int) := by omega
          obtain ⟨b, o, rfl, hb, x0⟩ := (RI.more (RI.below Q2.out.1 hB) hB.size).at_ (k := j) (by have := H2.out; omega)
          obtain ⟨b', o', rfl, hb', y0⟩ := (RI.more (RI.below Q2.out.2 hB) hB.size).at_ (k := j) (by have := H2.out; omega)
          generalize (hugL V 1024).getD j 0 = x at *
          have e0 := fun z : Ext wr => (z.blk kr).cell
          have e1 := fun z : Ext wr => (z.blk kq).cell
          have a0 := fun z : Ext wr => z.cell x0
          have b0 := fun z : Ext wr => z.cell y0
          have hq : (x != x) = false := by simp
          clear x0 y0
          go_upto_region 11 with fail
          clear cr
          refine region_ext (by kernel_rfl) (by kernel_rfl) ?_
          repeat (go_big_quiet_step (fail))
          refine wpQuiet_nil ?_
          rintro w2 ⟨⟨_, hw2⟩, rfl⟩
          go_wp2_with fail
          go_roundw
          case rel => exact ⟨j + 1, by omega, by go_num, hB.trans (hw2.mono hB.size)⟩
          case measure => simp [intOf]; omega
        · obtain rfl : j = n2 := by omega
          have hlt2' : decide ((j : Int) < (j : Int)) = false := by simp
          have hB2 := Lib.hid hB
          clear hB kr kq
          go_wp2_with fail
          clear cr
          go_loopw [7] (fun u wr => ∃ i : Nat, i ≤ n3 ∧ u = .int .i64 i ∧ Below w1.heap.size w1 wr) (fun u _ => n3 - (intOf u).toNat)
          case atStart => exact ⟨0, by omega, rfl, hB2.out⟩
          case round =>
            obtain ⟨k, hk, rfl, hB⟩ := hrel
            have kr := k01.out.call hB
            have kq := k11.out.call hB
            have cr := kr.cell
            by_cases hlt3 : k < n3
            · have hlt3' : decide ((k : Int) < (n3 : Int)) = true := by simpa using hlt3
              have hin : (k : Int) < (n3 : Int) := by omega
              obtain ⟨b, o, rfl, hb, hc⟩ := (Q3.out.1.on_ hB).elem (daC_len V) (by omega) 0 (k := k) (by have := H3.out; omega)
              obtain ⟨b', o', rfl, hb', hc'⟩ := (Q3.out.2.on_ hB).elem (daC_len V) (by omega) 0 (k := k) (by have := H3.out; omega)
              generalize (datL V 1024).getD k 0 = p at *
              have hq := heqD.out p
              have hld : ∀ z : Ext wr, (loadVar 124 ⟨b, o + k * 65, none⟩).run Tryz.prog z.w = .ok (.agg (daA (p : Int) (V.pg p).byt)) z.w := fun z => run_loadVar_mid (P := Tryz.prog) z.w b (o + k * 65) 124 (daC V p) _ (fun j v hj => z.cell (hc j v hj)) Tryz.underlying124 rfl infoDaS
              have hld' : ∀ z : Ext wr, (loadVar 124 ⟨b', o' + k * 65, none⟩).run Tryz.prog z.w = .ok (.agg (daA (p : Int) (V.pg p).byt)) z.w := fun z => run_loadVar_mid (P := Tryz.prog) z.w b' (o' + k * 65) 124 (daC V p) _ (fun j v hj => z.cell (hc' j v hj)) Tryz.underlying124 rfl infoDaS
              have e0 := fun z : Ext wr => (z.blk kr).cell
              have e1 := fun z : Ext wr => (z.blk kq).cell
              generalize daA (p : Int) (V.pg p).byt = D at *
              clear hc hc'
              go_upto_region 16 with fail
              clear cr
              refine region_ext (by kernel_rfl) (by kernel_rfl) ?_
              repeat (go_big_quiet_step (fail))
              refine wpQuiet_load' (.tmp 87) 124 ⟨b, o + k * 65, none⟩ (.agg D) rfl rfl rfl (by rintro _ ⟨z, rfl⟩; exact hld z) ?_
              simp only [Act.put, List.setIfInBounds_toArray, List.set_cons_zero, List.set_cons_succ]
              repeat (go_big_quiet_step (fail))
              refine wpQuiet_load' (.tmp 92) 124 ⟨b', o' + k * 65, none⟩ (.agg D) rfl rfl rfl (by rintro _ ⟨z, rfl⟩; exact hld' z) ?_
              simp only [Act.put, List.setIfInBounds_toArray, List.set_cons_zero, List.set_cons_succ]
              repeat (go_big_quiet_step (fail))
              refine wpQuiet_nil ?_
              rintro w2 ⟨⟨_, hw2⟩, rfl⟩
              go_wp2_with fail
              go_roundw
              case rel => exact ⟨k + 1, by omega, by go_num, hB.trans (hw2.mono hB.size)⟩
              case measure => simp [intOf]; omega
            · obtain rfl : k = n3 := by omega
              have hlt3' : decide ((k : Int) < (k : Int)) = false := by simp
              go_wp2_with fail
              go_ret
              exact ⟨rfl, B0.trans (hB.mono B0.size)⟩
end Go.Proofs.YtpabnbhbcphfiaaGreat
namespace Go.Proofs.YtpabnbhbcphfiaaGreat
open Go Go.Proofs Go.RowKit Go.Pol Go.Shelf
attribute [local go_sem] Oper.semAt_some Go.Pol.wide_fn Go.Pol.wide_depth Go.Pol.wide_fn' Go.Pol.wide_depth'

/-- an append of a list that may be nil -/
theorem wpList_append_opt {P : Program} {w : World} {ops : Array Oper} {rest : List Oper} {o : Oper} {a : Act} {Q : Exit → Act → World → Prop} (hgd : o.guard = none) (s x : Operand) (t : TypeId)
    (ho : o.op = .call { callee := .builtin .append, args := #[s, x], argTypes := #[t, t] })
    (base : Nat) (e : TypeId) (i : TypeInfo) (z : Value) (size bytes : Nat) (ht : P.underlying t = some (.slice e)) (hi : P.info? e = some i) (hz : i.zero = some z)
    (hsize : i.size = size) (hby : i.bytes = bytes) (hzs : z.cells.size = size) (hsz : 0 < size)
    (v : Value) (n : Nat) (xs : List Value) (hs : a.eval s = v) (hown : w.ownsRow base e size v n xs)
    (A : Option Addr) (m c : Nat) (news : List Value) (hx : a.eval x = .slice A m c) (hA : A = none → m = 0 ∧ c = 0) (hl : news.length = m * size) (hnews : ∀ ad, A = some ad → ∀ j u, news[j]? = some u → w.cell? (ad.add j) = some u) (h1 : ∀ u ∈ news, u.oneCell' = true)
    (h63 : n + m ≤ maxLen) (hbytes : (n + m) * bytes ≤ 140737488355328) (hbase : base ≤ w.heap.size)
    (h : ∀ v' w', w'.ownsRow base e size v' (n + m) (xs ++ news) → w.grownBy w' v.ownBlock → wpList P ops Q rest (a.put o.dst v') w') : wpList P ops Q (o :: rest) a w := by
  cases A with
  | none =>
    obtain ⟨rfl, rfl⟩ := hA rfl
    have hn : news = [] := List.eq_nil_of_length_eq_zero (by rw [hl]; simp)
    subst hn
    exact wpList_append_own_none hgd s x t ho base e i size ht hi v n xs hs hown hx (h v w (by simpa using hown) (World.grownBy.refl _ _))
  | some ad => exact wpList_append_own _ hgd s x t ho base e i z size bytes ht hi hz hsize hby hzs hsz v n xs hs hown ad m c news hx hl (hnews ad rfl) h1 h63 hbytes hbase fun v' w' h2 h3 _ => h v' w' h2 h3
set_option maxRecDepth 100000 in
set_option maxHeartbeats 3200000 in
theorem save6_any (B b : Nat) (V : Vm) (w : World) (hV : RefIs w B b V) (hG : GoodV V) :
    Calls Tryz.prog 17 #[.pointer (some ⟨b, 0, none⟩)] w (SaveO V w) := by
  obtain ⟨cs, A, n, cap, kb, hc, hn, hr, hBb, hok⟩ := hV.ex
  have hbl := kb.lt
  have hb0 := (Below.refl w.heap.size w).alloc (Nat.le_refl _) (.cells (stC (.slice none 0 0) (.slice none 0 0) (.slice none 0 0) (.slice none 0 0) (fun _ => 0) (fun _ => 0)).toArray 53)
  have k2 := Blk.new w 53 (stC (.slice none 0 0) (.slice none 0 0) (.slice none 0 0) (.slice none 0 0) (fun _ => 0) (fun _ => 0)).toArray
  have kb0 := kb.call hb0
  obtain ⟨s, hs⟩ : ∃ s, w.heap.size = s := ⟨_, rfl⟩
  have hsz0 : (w.alloc (.cells (stC (.slice none 0 0) (.slice none 0 0) (.slice none 0 0) (.slice none 0 0) (fun _ => 0) (fun _ => 0)).toArray 53)).heap.size = s + 1 := by rw [World.size_alloc, hs]
  have hr0 : Rd (w.alloc (.cells (stC (.slice none 0 0) (.slice none 0 0) (.slice none 0 0) (.slice none 0 0) (fun _ => 0) (fun _ => 0)).toArray 53)) B A (fl ruC V.rf.rules) := hr.keepB (T := fun _ => False) (Far.of_below hb0) (fun _ h => h.elim)
  rw [hs] at k2
  unfold stC rfC at hb0 k2 hsz0 kb0 hr0
  have hc' := Lib.hid hc
  clear hV kb hr
  go_enter Tryz.func17, Tryz.ntmps17
  go_upto_region 1 with fail
  generalize w.alloc _ = w0 at *
  try simp only [hs]
  have hrng : w0.rangeAt b 66624 (rfC (.slice A n cap) V.rf.calls V.rf.hits) := fun j v hj => by
    have hj15 : j < 15 := (List.getElem?_eq_some_iff.1 hj).1
    rw [kb0.cell, hc'.out.rf j hj15]; exact hj
  have k3 := Blk.new w0 53 (stC (.slice none 0 0) (.slice none 0 0) (.slice none 0 0) (.slice A n cap) V.rf.calls V.rf.hits).toArray
  have hb1 := (Below.refl w0.heap.size w0).alloc (Nat.le_refl _) (.cells (stC (.slice none 0 0) (.slice none 0 0) (.slice none 0 0) (.slice A n cap) V.rf.calls V.rf.hits).toArray 53)
  have k21 := k2.call hb1
  have kb1 := kb0.call hb1
  have hr1 := hr0.keepB (T := fun _ => False) (Far.of_below hb1) (fun _ h => h.elim)
  have hsz1 : (w0.alloc (.cells (stC (.slice none 0 0) (.slice none 0 0) (.slice none 0 0) (.slice A n cap) V.rf.calls V.rf.hits).toArray 53)).heap.size = s + 2 := by rw [World.size_alloc, hsz0]
  rw [hsz0] at k3
  unfold stC rfC at k3 hb1 k21 kb1 hr1 hsz1
  clear k2 kb0 hr0 hc
  go_upto_region 2 with (refine wpList_load_mid rfl 51 (.tmp 8) rfl b 66624 rfl (rfC (.slice A n cap) V.rf.calls V.rf.hits) _ hrng Tryz.underlying51 rfl infoRf ?_; unfold rfC)
  generalize w0.alloc _ = w1 at *
  try simp only [hsz0]
  obtain ⟨iR, hiR, hzR0, hzR1, hzR2⟩ := infoRu_parts
  have hlen50 := (chkR_zero.1 hok.plan).1
  have hn1 := hn.1
  have hn50 : n ≤ 50 := by omega
  have c67 : w1.cell? ⟨b, 66624, none⟩ = some (.slice A n cap) := by rw [kb1.cell]; exact (hc'.out.rf 0 (by omega)).trans rfl
  have c67E : (w1.alloc (.cells #[] 136)).cell? ⟨b, 66624, none⟩ = some (.slice A n cap) := by rw [(kb1.alloc _).cell]; exact (hc'.out.rf 0 (by omega)).trans rfl
  have hbE : Below w1.heap.size w1 (w1.alloc (.cells #[] 136)) := (Below.refl _ _).alloc (Nat.le_refl _) _
  have hrE := hr1.keepB (T := fun _ => False) (Far.of_below hbE) (fun _ h => h.elim)
  have hA0 : A = none → n = 0 ∧ cap = 0 := fun h => by
    refine ⟨?_, hn.2 h⟩
    rw [← hn.1]
    cases hru : V.rf.rules with
    | nil => rfl
    | cons x r =>
      obtain ⟨b', o, e, _⟩ := hr1 0 (by rw [hru, fl_len ruC_len]; simp)
      rw [h] at e
      cases e
  have hnewsE : ∀ ad, A = some ad → ∀ (j : Nat) (u : Value), (fl ruC V.rf.rules)[j]? = some u → (w1.alloc (.cells #[] 136)).cell? (ad.add j) = some u := fun ad h j u hj => by
    obtain ⟨hlt, e⟩ := List.getElem?_eq_some_iff.1 hj
    obtain ⟨b', o, e', _, hc⟩ := hrE j hlt
    rw [h] at e'; cases e'
    rw [addr_add0, hc, e]
  have k3' := Lib.hid k3
  have c33 : w1.cell? ⟨s + 1, 3, none⟩ = some (.slice A n cap) := (k3.cell 3).trans rfl
  have hsz1' := Lib.hid hsz1
  clear k3 hrng hr1 hrE hsz1
  go_upto_region 3 with (refine wpList_append_opt rfl (.tmp 11) (.tmp 17) 23 rfl w1.heap.size 136 iR (.agg #[.int .i64 0, .int .i64 0, .int .i64 0, .int .i64 0]) 4 32 Tryz.underlying23 hiR hzR0 hzR1 hzR2 rfl (by decide) _ 0 [] rfl (World.ownsRow_made w1 _ _ (Nat.le_refl _) (by unfold maxLen; omega) rfl) A n cap (fl ruC V.rf.rules) rfl hA0 (by rw [fl_len ruC_len, hn1]) hnewsE (ruC_one V.rf.rules) (by unfold maxLen; omega) (by omega) (by simp) ?_; intro v' w2 hown' hgrow; have hb2 : Below w1.heap.size w1 w2 := hbE.grown hgrow (by simp) (fun j hj => by cases hj; exact Nat.le_refl _); have k32 := k3'.out.call hb2; have f32 := k32.frozen; have c32 : w2.cell? ⟨s + 1, 3, none⟩ = some (.slice A n cap) := (k32.cell 3).trans rfl; rw [Nat.zero_add, List.nil_append] at hown'; obtain ⟨A4, c4, rfl, q1, _, _, q4, _⟩ := own_Rd hown'; clear c33)
  have k33 := k32.set_ 3 (.slice A4 n c4)
  have F3 : Far (fun k => k = s + 1) w2 (w2.setCell ⟨s + 1, 3, none⟩ (.slice A4 n c4)) := Far.setCell (T := fun k => k = s + 1) (p := ⟨s + 1, 3, none⟩) (Far.refl _ w2) (fun _ => rfl) _
  have kb2 := kb1.call hb2
  have k22 := k21.call hb2
  have hsz1 := hsz1'.out
  have hs0 : s + 1 ≤ w0.heap.size := Nat.le_of_eq hsz0.symm
  have hb0s : Below s w w0 := by rw [← hs]; exact hb0
  have B1 : Below s w w1 := hb0s.trans (hb1.mono (by omega))
  have B2 : Below s w w2 := B1.trans (hb2.mono (by omega))
  generalize w2.setCell ⟨s + 1, 3, none⟩ (.slice A4 n c4) = w3 at *
  have k34 : Blk w3 (s + 1) 53 (stC (.slice none 0 0) (.slice none 0 0) (.slice none 0 0) (.slice A4 n c4) V.rf.calls V.rf.hits).toArray := k33
  have q13 : Rd w3 w2.heap.size A4 (fl ruC V.rf.rules) := q1.far_ F3 (fun g o e => by have := q4 g o e; show ¬ g = s + 1; omega)
  have hbs : b < s := by rw [← hs]; exact hbl
  have kb3 := F3.blk kb2 (by show ¬ b = s + 1; omega)
  have k23 := F3.blk k22 (by show ¬ s = s + 1; omega)
  have hsz2 := hb2.size
  have hsz3 : w2.heap.size ≤ w3.heap.size := F3.size
  have B3 : Below s w w3 := B2.trans (F3.below (by omega) (fun k hk e => by omega))
  have q13' := Lib.hid q13
  have q4' : Hid (∀ (b o : Nat), A4 = some ⟨b, o, none⟩ → s + 2 ≤ b) := Lib.hid (fun b' o e => by have := q4 b' o e; omega)
  have B3' := Lib.hid B3
  have hG' := Lib.hid hG
  have hN4' := Lib.hid hn1
  have hn50' := Lib.hid hn50
  have hs' := Lib.hid hs
  have hsw2 : s + 2 ≤ w2.heap.size := by omega
  clear F3 k32 k22 kb2 B2 k33 q13 q1 f32 hb2 k3' B1 c32 k21 kb1 hb1 hb0 hb0s hsz1 hsz1' hsz0 hs0 hn hn1 hok hnewsE hA0 c67 c67E hbE hgrow q4 B3 hG hlen50 iR hiR hzR0 hzR1 hzR2 hown' hs hbl
  obtain ⟨NB, hNB⟩ : ∃ NB, w3.heap.size = NB := ⟨_, rfl⟩
  have hsNB : s + 2 ≤ NB := by omega
  go_wp2_with fail
  go_loopw [4] (fun u wr => ∃ (k : Nat) (v1 v2 v3 : Value), k ≤ 1024 ∧ u = .int .i64 k ∧ Blk wr (s + 1) 53 (stC v1 v2 v3 (.slice A4 n c4) V.rf.calls V.rf.hits).toArray ∧
    wr.ownsRow NB 122 3 v1 (vrunsL V k).length (fl rnC (vrunsL V k)) ∧ wr.ownsRow NB 3 1 v2 (hugL V k).length ((hugL V k).map (Value.int .i64)) ∧ wr.ownsRow NB 124 65 v3 (datL V k).length (fl (daC V) (datL V k)) ∧ Far (fun k => k = s + 1 ∨ NB ≤ k) w3 wr) (fun u _ => 1024 - (intOf u).toNat)
  case atStart => exact ⟨0, _, _, _, by omega, rfl, k34, World.ownsRow_nil _ _ _ _, World.ownsRow_nil _ _ _ _, World.ownsRow_nil _ _ _ _, Far.refl _ _⟩
  case round =>
    clear k34
    obtain ⟨k, v1, v2, v3, hk, rfl, k3, ro1, ro2, ro3, hF⟩ := hrel
    by_cases hlt : k < 1024
    · have hlt' : decide ((k : Int) < 1024) = true := by rw [decide_eq_true_eq]; omega
      have hkl : (k : Int) < 1024 := by omega
      have kbr := hF.blk kb3 (by show ¬ (b = s + 1 ∨ NB ≤ b); omega)
      have hcK := (kbr.cell k).trans (hc'.out.kind k hlt)
      have c3 := k3.cell
      have f3 := k3.frozen
      unfold stC rfC at c3
      obtain ⟨kd, hkd⟩ : ∃ kd, (V.pg k).kind = kd := ⟨_, rfl⟩
      rw [hkd] at hcK
      have hlR := vrunsL_len V k
      obtain ⟨i0, hi, hz0, hz1, hz2⟩ := info_parts infoInQ
      have hsF := hF.size
      obtain ⟨A1, cap1, rfl, _⟩ := own_Rd ro1
      obtain ⟨N1, hN1⟩ : ∃ N1, (vrunsL V k).length = N1 := ⟨_, rfl⟩
      rw [hN1] at ro1 k3 c3 hlR
      try simp only [hN1]
      have hN1' := Lib.hid hN1
      clear hN1
      go_upto_if 35 with fail
      go_cut [4, 5] from 26 to 124 (fun s4 s5 W => s4 = .int .i64 (k : Int) ∧ ∃ v1, Blk W (s + 1) 53 (stC v1 v2 v3 (.slice A4 n c4) V.rf.calls V.rf.hits).toArray ∧ W.ownsRow NB 122 3 v1 (vrunsL V (k + 1)).length (fl rnC (vrunsL V (k + 1))) ∧ W.ownsRow NB 3 1 v2 (hugL V (k)).length ((hugL V (k)).map (Value.int .i64)) ∧ W.ownsRow NB 124 65 v3 (datL V k).length (fl (daC V) (datL V k)) ∧ Far (fun k => k = s + 1 ∨ NB ≤ k) w3 W)
      case first =>
        by_cases h0 : kd = 0
        · have h0' : (kd != 0) = false := by simpa using h0
          have e1 : vrunsL V (k + 1) = vrunsL V k := by rw [vrunsL_succ, if_pos (hkd.trans h0)]
          have hE := Lib.hid e1
          clear h0 e1 hkd
          go_wp2_with fail
          go_meet
          case rel => exact ⟨rfl, _, k3, by rw [hE.out, hN1'.out]; exact ro1, ro2, ro3, hF⟩
        · have h0' : (kd != 0) = true := by simpa using h0
          have q1 := fun z : Ext wr => z.cell hcK
          by_cases hs2 : 0 < k ∧ (V.pg (k - 1)).kind = kd
          · obtain ⟨m, hm⟩ : ∃ m, m + 1 = k := ⟨k - 1, by omega⟩
            have hkm : (V.pg m).kind = kd := by have := hs2.2; rwa [show k - 1 = m by omega] at this
            have hcM := (kbr.cell m).trans (hc'.out.kind m (by omega))
            rw [hkm] at hcM
            have q2 := fun z : Ext wr => z.cell hcM
            have hk1 : (k : Int) - 1 = (m : Int) := by omega
            have hk0 : decide (0 < k) = true := by rw [decide_eq_true_eq]; omega
            have hml : (m : Int) < 1024 := by omega
            obtain ⟨l, x, hlx⟩ : ∃ l x, vrunsL V k = l ++ [x] := by
              rcases List.eq_nil_or_concat (vrunsL V k) with h | ⟨l, y, h⟩
              · obtain ⟨t, h1, h2⟩ := vruns_pre (V := V) (q := 0) (.inl rfl) k
                rw [Nat.zero_add] at h1 h2
                have ht : t = [] := by have := h1.symm.trans h; simpa [vrunsL] using this
                exact absurd ht (h2 hs2.1 (by rw [hs2.2]; exact h0))
              · exact ⟨l, y, by rw [h, List.concat_eq_append]⟩
            have hx := vruns_last (V := V) k (by omega) x (by rw [hlx]; simp)
            have e1 : vrunsL V (k + 1) = l ++ [(x.1, x.2.1 + 1, x.2.2)] := by
              rw [vrunsL_succ, if_neg (by rw [hkd]; exact h0), if_pos ⟨hs2.1, by rw [hs2.2, hkd]⟩, hlx, bumpR_snoc]
            obtain ⟨ll, hll⟩ : ∃ ll, l.length = ll := ⟨_, rfl⟩
            have hNl : ll + 1 = N1 := by rw [← hN1'.out, hlx, List.length_append, hll]; rfl
            obtain ⟨g, rfl⟩ : ∃ g, A1 = some ⟨g, 0, none⟩ := by
              have ro1' := ro1
              rw [← hNl] at ro1'
              obtain ⟨g, cap', e⟩ := ownsRow_succ ro1'
              simp only [Value.slice.injEq] at e
              exact ⟨g, e.1⟩
            have hgl := ro1.lt g rfl
            have hNi : (N1 : Int) - 1 = (ll : Int) := by omega
            have hlN : (ll : Int) < (N1 : Int) := by omega
            have hcx : wr.cell? ⟨g, ll * 3 + 1, none⟩ = some (.int .i64 x.2.1) := by
              rw [ro1.cellAt _ (by omega), hlx, fl_append, List.getElem?_append_right (by rw [fl_len rnC_len, hll]; omega), fl_len rnC_len, hll, show ll * 3 + 1 - ll * 3 = 1 by omega]
              rfl
            have hE := Lib.hid e1
            have hll' := Lib.hid hll
            have hlx' := Lib.hid hlx
            have hNl' := Lib.hid hNl
            obtain ⟨xa, xb, xc⟩ := x
            simp only at hx hcx
            clear h0 hs2 hkd hkm e1 hll hlx hNl hcM hcK hm
            go_upto_region 8 with fail
            refine region_ext (by kernel_rfl) (by kernel_rfl) ?_
            repeat (go_big_quiet_step (fail))
            refine wpQuiet_nil ?_
            rintro w8 ⟨⟨_, hw8⟩, rfl⟩
            have k38 := k3.call hw8
            have ro18 := ownsRow_call ro1 hw8
            have ro28 := ownsRow_call ro2 hw8
            have ro38 := ownsRow_call ro3 hw8
            have F8 : Far (fun k => k = s + 1 ∨ NB ≤ k) w3 w8 := hF.trans (.of_below hw8)
            have cg : w8.cell? ⟨g, ll * 3 + 1, none⟩ = some (.int .i64 xb) := (hw8.cell (p := ⟨g, ll * 3 + 1, none⟩) hgl.2).trans hcx
            have fg := ro18.frozenAt (ll * 3 + 1)
            have c38 := k38.cell
            unfold stC rfC at c38
            clear c3 f3 k3 ro1 ro2 ro3 hF hcx q1 q2 hw8
            go_wp2_with fail
            go_meet
            case rel =>
              have FS : Far (fun i => i = g) w8 (w8.setCell ⟨g, ll * 3 + 1, none⟩ (.int .i64 (xb + 1))) := Far.setCell (T := fun i => i = g) (p := ⟨g, ll * 3 + 1, none⟩) (Far.refl _ w8) (fun _ => rfl) _
              have FR := FS.mono (T' := fun i => i = s + 1 ∨ (Value.slice (some ⟨g, 0, none⟩) N1 cap1).ownBlock = some i) (fun i _ h => .inr (by rw [h]; rfl))
              have hb := own_bump (v := .int .i64 (xb + 1)) ro18 (i := ll * 3 + 1) (by have := hNl'.out; omega)
              refine ⟨rfl, _, FS.blk k38 (by show ¬ s + 1 = g; omega), ?_, row_kept ro28 ro18 (by decide) (by omega) FR, row_kept ro38 ro18 (by decide) (by omega) FR, F8.trans' FS (fun i hi h => .inr (by rw [h]; exact hgl.1))⟩
              rw [hE.out, fl_bump l (xa, xb, xc), ← hlx'.out, List.length_append, List.length_singleton, hll'.out, hNl'.out]
              exact hb
          · have hE : Hid (vrunsL V (k + 1) = vrunsL V k ++ [((k : Int), 1, kd)]) := Lib.hid (by
              rw [vrunsL_succ, if_neg (by rw [hkd]; exact h0), if_neg (by rw [hkd]; exact hs2), hkd])
            have HR : ∀ w8 : World, Below wr.heap.size wr w8 → True := fun _ _ => trivial
            by_cases hk00 : k = 0
            · have hk0 : decide (0 < k) = false := by rw [decide_eq_false_iff_not]; omega
              clear h0 hs2 hkd hk00 HR
              go_upto_region 8 with fail
              refine region_ext (by kernel_rfl) (by kernel_rfl) ?_
              repeat (go_big_quiet_step (fail))
              refine wpQuiet_nil ?_
              rintro w8 ⟨⟨_, hw8⟩, rfl⟩
              have k38 := k3.call hw8
              have ro18 := ownsRow_call ro1 hw8
              have ro28 := ownsRow_call ro2 hw8
              have ro38 := ownsRow_call ro3 hw8
              have kb8 := kbr.call hw8
              have F8 : Far (fun k => k = s + 1 ∨ NB ≤ k) w3 w8 := hF.trans (.of_below hw8)
              have hcK8 := (hw8.cell (p := ⟨b, k, none⟩) kbr.lt).trans hcK
              have hNBW : NB ≤ (w8).heap.size := by have := F8.size; omega
              clear c3 f3 k3 ro1 ro2 ro3 hF q1 hcK hw8
              go_upto_region 10 with fail
              refine save6_run b (s + 1) k NB N1 _ _ kd _ _ w8 hkl (by omega) kb8.lt k38.lt hNBW (by omega) (by omega) hcK8 k38 ((k38.cell 0).trans rfl) ro18 ?_
              intro x64 x65 x66 x67 x68 x69 x70 x71 x72 x73 x74 x75 x76 w10 A1' cap1' hsz10 k310 ro110 F310
              clear hcK8
              go_wp2_with fail
              go_meet
              case rel =>
                refine ⟨rfl, _, k310, ?_, row_kept ro28 ro18 (by decide) (by omega) F310, row_kept ro38 ro18 (by decide) (by omega) F310, F8.trans' F310 (fun i hi h => h.elim .inl (fun h => .inr (ro18.lt i h).1))⟩
                rw [hE.out, List.length_append, List.length_singleton, hN1'.out, fl_append, show fl rnC [((k : Int), (1 : Int), kd)] = rnC ((k : Int), 1, kd) by simp [fl]]
                exact ro110
            · obtain ⟨m, hm⟩ : ∃ m, m + 1 = k := ⟨k - 1, by omega⟩
              obtain ⟨km, hkm⟩ : ∃ km, (V.pg m).kind = km := ⟨_, rfl⟩
              have hcM := (kbr.cell m).trans (hc'.out.kind m (by omega))
              rw [hkm] at hcM
              have q2 := fun z : Ext wr => z.cell hcM
              have hk1 : (k : Int) - 1 = (m : Int) := by omega
              have hk0 : decide (0 < k) = true := by rw [decide_eq_true_eq]; omega
              have hml : (m : Int) < 1024 := by omega
              have hKK : (km == kd) = false := by
                rw [beq_eq_false_iff_ne]
                intro h
                exact hs2 ⟨by omega, by rw [show k - 1 = m by omega, hkm]; exact h⟩
              clear h0 hs2 hkd hkm hk00 HR hm hcM
              go_upto_region 8 with fail
              refine region_ext (by kernel_rfl) (by kernel_rfl) ?_
              repeat (go_big_quiet_step (fail))
              refine wpQuiet_nil ?_
              rintro w8 ⟨⟨_, hw8⟩, rfl⟩
              clear q2
              have k38 := k3.call hw8
              have ro18 := ownsRow_call ro1 hw8
              have ro28 := ownsRow_call ro2 hw8
              have ro38 := ownsRow_call ro3 hw8
              have kb8 := kbr.call hw8
              have F8 : Far (fun k => k = s + 1 ∨ NB ≤ k) w3 w8 := hF.trans (.of_below hw8)
              have hcK8 := (hw8.cell (p := ⟨b, k, none⟩) kbr.lt).trans hcK
              have hNBW : NB ≤ (w8).heap.size := by have := F8.size; omega
              clear c3 f3 k3 ro1 ro2 ro3 hF q1 hcK hw8
              go_upto_region 10 with fail
              refine save6_run b (s + 1) k NB N1 _ _ kd _ _ w8 hkl (by omega) kb8.lt k38.lt hNBW (by omega) (by omega) hcK8 k38 ((k38.cell 0).trans rfl) ro18 ?_
              intro x64 x65 x66 x67 x68 x69 x70 x71 x72 x73 x74 x75 x76 w10 A1' cap1' hsz10 k310 ro110 F310
              clear hcK8
              go_wp2_with fail
              go_meet
              case rel =>
                refine ⟨rfl, _, k310, ?_, row_kept ro28 ro18 (by decide) (by omega) F310, row_kept ro38 ro18 (by decide) (by omega) F310, F8.trans' F310 (fun i hi h => h.elim .inl (fun h => .inr (ro18.lt i h).1))⟩
                rw [hE.out, List.length_append, List.length_singleton, hN1'.out, fl_append, show fl rnC [((k : Int), (1 : Int), kd)] = rnC ((k : Int), 1, kd) by simp [fl]]
                exact ro110
      case rest =>
        obtain ⟨rfl, v1', k38, ro18, ro28, ro38, F38⟩ := hcut
        have kb8 := F38.blk kb3 (by show ¬ (b = s + 1 ∨ NB ≤ b); omega)
        have hcH := (kb8.cell (1024 + k / 16)).trans (hc'.out.huge k hlt)
        obtain ⟨q, hq, hqz⟩ : ∃ q : Nat, Int.tdiv (k : Int) 16 = (q : Int) ∧ k / 16 = q := ⟨k / 16, by rw [Int.tdiv_eq_ediv_of_nonneg (by omega)]; omega, rfl⟩
        rw [hqz] at hcH
        have hql : (q : Int) < 64 := by omega
        obtain ⟨hg, hhg⟩ : ∃ hg, (V.pg k).huge = hg := ⟨_, rfl⟩
        rw [hhg] at hcH
        have hstH : Hid (hugL V (k + 1) = if k % 16 = 0 ∧ hg = true then hugL V k ++ [(k : Int)] else hugL V k) := Lib.hid (by rw [← hhg]; rfl)
        have hstD : Hid (datL V (k + 1) = if nzB (V.pg k) = true then datL V k ++ [k] else datL V k) := Lib.hid rfl
        have hlH := hugL_len V k
        have hlD := datL_len V k
        clear hqz hhg k3 ro1 ro2 ro3 hF kbr c3 f3 hcK hlR hsF hN1' hkd
        go_upto_region 11 with fail
        go_cut [4, 88] from 26 to 124 (fun s4 s88 W => s4 = .int .i64 (k : Int) ∧ s88 = .bool (decide (k % 16 = 0) && hg) ∧ W = wc)
        case first =>
          by_cases hm : k % 16 = 0
          · have hrm : Int.tmod (k : Int) 16 = 0 := by rw [Int.tmod_eq_emod_of_nonneg (by omega)]; omega
            have hE := Lib.hid (decide_eq_true hm)
            clear hstH hstD hm
            go_wp2_with fail
            go_meet
            case rel => exact ⟨rfl, by rw [hE.out, Bool.true_and], rfl⟩
          · obtain ⟨rm, hrm, hrz⟩ : ∃ rm, Int.tmod (k : Int) 16 = rm ∧ (rm == 0) = false := ⟨_, rfl, by
              rw [Int.tmod_eq_emod_of_nonneg (by omega)]
              simp; omega⟩
            have hE := Lib.hid (decide_eq_false hm)
            clear hstH hstD hm
            go_wp2_with fail
            go_meet
            case rel => exact ⟨rfl, by rw [hE.out, Bool.false_and], rfl⟩
        case rest =>
          obtain ⟨rfl, rfl, hw⟩ := hcut
          subst hw
          have hst3 : Hid (hugL V (k + 1) = if (decide (k % 16 = 0) && hg) = true then hugL V k ++ [(k : Int)] else hugL V k) := Lib.hid (by
            rw [hstH.out]
            simp only [Bool.and_eq_true, decide_eq_true_eq])
          generalize (decide (k % 16 = 0) && hg) = gb at *
          clear hstH hcH
          go_upto_if 88 with fail
          go_cut [4] from 26 to 124 (fun s4 W => s4 = .int .i64 (k : Int) ∧ ∃ v2, Blk W (s + 1) 53 (stC v1' v2 v3 (.slice A4 n c4) V.rf.calls V.rf.hits).toArray ∧ W.ownsRow NB 122 3 v1' (vrunsL V (k + 1)).length (fl rnC (vrunsL V (k + 1))) ∧ W.ownsRow NB 3 1 v2 (hugL V (k + 1)).length ((hugL V (k + 1)).map (Value.int .i64)) ∧ W.ownsRow NB 124 65 v3 (datL V k).length (fl (daC V) (datL V k)) ∧ Far (fun k => k = s + 1 ∨ NB ≤ k) w3 W)
          case first =>
            clear hstD hlD
            cases gb with
            | true =>
              have hst2 : Hid (hugL V (k + 1) = hugL V k ++ [(k : Int)]) := Lib.hid (by rw [hst3.out, if_pos rfl])
              clear hst3
              obtain ⟨A2, cap2, rfl, _⟩ := own_Rd ro28
              obtain ⟨ll, hll⟩ : ∃ ll, (hugL V k).length = ll := ⟨_, rfl⟩
              rw [hll] at ro28 hlH k38
              try simp only [hll]
              have kN := Blk.new wc 3 #[.int .i64 (k : Int)]
              have hbN : Below wc.heap.size wc (wc.alloc (.cells #[.int .i64 (k : Int)] 3)) := (Below.refl _ _).alloc (Nat.le_refl _) _
              have hsF := F38.size
              have c38 := k38.cell
              unfold stC rfC at c38
              go_wp2_with (refine wpList_append_own _ rfl (.tmp 90) (.tmp 92) 47 rfl NB 3 i0 (.int .i64 0) 1 8 Tryz.underlying47 hi hz0 hz1 hz2 rfl (by decide) _ ll ((hugL V k).map (Value.int .i64)) rfl (ro28.alloc _) ⟨wc.heap.size, 0, none⟩ 1 1 [.int .i64 (k : Int)] rfl rfl (news_i kN) ints_one (by unfold maxLen; omega) (by omega) (by simp; omega) ?_; intro v' w7 hown' hgrow _; rw [show (hugL V k).map (Value.int .i64) ++ [Value.int .i64 (k : Int)] = (hugL V k ++ [(k : Int)]).map (Value.int .i64) by simp] at hown'; have F7 : Far (fun g => (Value.slice A2 ll cap2).ownBlock = some g) wc w7 := (Far.of_below hbN).grown hgrow (fun g hg _ => hg); have k37 := F7.blk k38 (fun h => own_other ro28 h k38 (by decide)); have f37 := k37.frozen; have c371 : w7.cell? ⟨s + 1, 1, none⟩ = some (.slice A2 ll cap2) := (k37.cell 1).trans rfl; obtain ⟨A2n, cap2n, rfl, _⟩ := own_Rd hown'; clear c38)
              go_meet
              case rel =>
                have F8 : Far (fun g => g = s + 1 ∨ (Value.slice A2 ll cap2).ownBlock = some g) wc (w7.setCell ⟨s + 1, 1, none⟩ (.slice A2n (ll + 1) cap2n)) := (F7.mono (T' := fun g => g = s + 1 ∨ (Value.slice A2 ll cap2).ownBlock = some g) (fun g _ h => .inr h)).setCell (p := ⟨s + 1, 1, none⟩) (fun _ => .inl rfl) _
                have F81 : Far (fun k => k = s + 1) w7 (w7.setCell ⟨s + 1, 1, none⟩ (.slice A2n (ll + 1) cap2n)) := Far.setCell (T := fun k => k = s + 1) (p := ⟨s + 1, 1, none⟩) (Far.refl _ w7) (fun _ => rfl) _
                refine ⟨rfl, _, k37.set_ 1 (.slice A2n (ll + 1) cap2n), row_kept ro18 ro28 (by decide) (by omega) F8, ?_, row_kept ro38 ro28 (by decide) (by omega) F8, F38.trans' F8 (fun i hi h => h.elim .inl (fun h => .inr (ro28.lt i h).1))⟩
                rw [hst2.out, List.length_append, List.length_singleton, hll]
                exact ownsRow_far hown' F81 (fun g hg h => own_other hown' (hg.trans (congrArg some h)) k37 (by decide))
            | false =>
              have hst2 : Hid (hugL V (k + 1) = hugL V k) := Lib.hid (by rw [hst3.out, if_neg (by decide)])
              clear hst3
              go_wp2_with fail
              go_meet
              case rel => exact ⟨rfl, _, k38, ro18, by rw [hst2.out]; exact ro28, ro38, F38⟩
          case rest =>
            obtain ⟨rfl, v2', k39, ro19, ro29, ro39, F39⟩ := hcut
            clear hst3 k38 ro18 ro28 ro38 F38 kb8 hlH
            have kb9 := F39.blk kb3 (by show ¬ (b = s + 1 ∨ NB ≤ b); omega)
            obtain ⟨A3, cap3, rfl, _⟩ := own_Rd ro39
            go_upto_region 13 with fail
            have hcK9 := (kb9.cell k).trans (hc'.out.kind k hlt)
            have c39 := k39.cell
            unfold stC rfC at c39
            by_cases hk2 : (V.pg k).kind = 2
            · rw [hk2] at hcK9
              clear hk2
              obtain ⟨X, hX⟩ : ∃ X, arrI .u8 64 (V.pg k).byt = X := ⟨_, rfl⟩
              have hXs : X.size = 64 := by rw [← hX]; simp [arrI]
              have hra : wc.rangeAt b (1088 + k * 64) X.toList := fun j v hj => by
                rw [← hX] at hj
                have hj64 : j < 64 := by have := (List.getElem?_eq_some_iff.1 hj).1; simpa [arrI] using this
                rw [kb9.cell, hc'.out.byt k hlt j hj64, ← hj, Array.getElem?_toList, arrI_at hj64]
              have hinfl : (Tryz.prog.info? 85).map (·.size) = some X.toList.length := by rw [Array.length_toList, hXs]; exact infoKinds
              have heq : ∀ W, (Op.equalIn 10000 85 (.agg X) (.agg #[.int .u8 0, .int .u8 0, .int .u8 0, .int .u8 0, .int .u8 0, .int .u8 0, .int .u8 0, .int .u8 0, .int .u8 0, .int .u8 0, .int .u8 0, .int .u8 0, .int .u8 0, .int .u8 0, .int .u8 0, .int .u8 0, .int .u8 0, .int .u8 0, .int .u8 0, .int .u8 0, .int .u8 0, .int .u8 0, .int .u8 0, .int .u8 0, .int .u8 0, .int .u8 0, .int .u8 0, .int .u8 0, .int .u8 0, .int .u8 0, .int .u8 0, .int .u8 0, .int .u8 0, .int .u8 0, .int .u8 0, .int .u8 0, .int .u8 0, .int .u8 0, .int .u8 0, .int .u8 0, .int .u8 0, .int .u8 0, .int .u8 0, .int .u8 0, .int .u8 0, .int .u8 0, .int .u8 0, .int .u8 0, .int .u8 0, .int .u8 0, .int .u8 0, .int .u8 0, .int .u8 0, .int .u8 0, .int .u8 0, .int .u8 0, .int .u8 0, .int .u8 0, .int .u8 0, .int .u8 0, .int .u8 0, .int .u8 0, .int .u8 0, .int .u8 0])).run Tryz.prog W = .ok (!nzB (V.pg k)) W := fun W => by
                have h := eq64_any (V.pg k).byt (fun _ => 0) W
                rw [hX, nzB_all] at h
                exact h
              have hra' : wc.rangeAt b (1088 + k * 64) (arrI .u8 64 (V.pg k).byt).toList := by rw [hX]; exact hra
              clear hX hXs
              cases hnz : nzB (V.pg k) with
              | false =>
                rw [hnz] at heq
                have hstD2 : Hid (datL V (k + 1) = datL V k) := Lib.hid (by rw [hstD.out, if_neg (by rw [hnz]; decide)])
                clear hstD hnz hra'
                go_wp2_with (refine wpList_load_midW 85 (.tmp 107) rfl rfl b (1088 + k * 64) rfl X.toList _ hra Tryz.underlying85 rfl hinfl ?_; rw [Array.toArray_toList])
                go_roundw
                case rel => exact ⟨k + 1, _, v2', _, by omega, by go_num, k39, ro19, ro29, by rw [hstD2.out]; exact ro39, F39⟩
                case measure => simp [intOf]; omega
              | true =>
                rw [hnz] at heq
                have hstD2 : Hid (datL V (k + 1) = datL V k ++ [k]) := Lib.hid (by rw [hstD.out, if_pos hnz])
                clear hstD hnz
                go_upto_region 14 with (refine wpList_load_midW 85 (.tmp 107) rfl rfl b (1088 + k * 64) rfl X.toList _ hra Tryz.underlying85 rfl hinfl ?_; rw [Array.toArray_toList])
                have hNBW : NB ≤ wc.heap.size := by have := F39.size; omega
                refine save6_dat b (s + 1) k NB _ _ _ (V.pg k).byt _ _ _ hkl (by omega) kb9.lt k39.lt hNBW (by omega) (by omega) hra' k39 ((k39.cell 2).trans rfl) ro39 ?_
                intro x112 x113 x114 x115 x116 x117 x118 x119 x120 x121 x122 x123 x124 w14 A3' cap3' hsz14 k314 ro314 F314
                clear c39 hcK9 heq hra hra'
                go_wp2_with fail
                go_roundw
                case rel =>
                  refine ⟨k + 1, _, v2', _, by omega, by go_num, k314, row_kept ro19 ro39 (by decide) (by omega) F314, row_kept ro29 ro39 (by decide) (by omega) F314, ?_, F39.trans' F314 (fun i hi h => h.elim .inl (fun h => .inr (ro39.lt i h).1))⟩
                  rw [hstD2.out, List.length_append, List.length_singleton, fl_append, show fl (daC V) [k] = (daA (k : Int) (V.pg k).byt).toList by rw [← daC_eq]; simp [fl]]
                  exact ro314
                case measure => simp [intOf]; omega
            · have hk2' : ((V.pg k).kind == 2) = false := by simpa using hk2
              have hstD2 : Hid (datL V (k + 1) = datL V k) := Lib.hid (by rw [hstD.out, if_neg (by
                have h := nzB_false.2 (fun j _ => hG'.out.byt k hlt hk2 j)
                rw [h]; decide)])
              clear hstD hk2
              go_wp2_with fail
              go_roundw
              case rel => exact ⟨k + 1, _, v2', _, by omega, by go_num, k39, ro19, ro29, by rw [hstD2.out]; exact ro39, F39⟩
              case measure => simp [intOf]; omega
    · obtain rfl : k = 1024 := by omega
      have hlt' : decide (((1024 : Nat) : Int) < 1024) = false := by decide
      obtain ⟨A1, cap1, rfl, r1, _, _, g1, _⟩ := own_Rd ro1
      obtain ⟨A2, cap2, rfl, r2, _, _, g2, _⟩ := own_Rd ro2
      obtain ⟨A3, cap3, rfl, r3, _, _, g3, _⟩ := own_Rd ro3
      have k2r := hF.blk k23 (by show ¬ (s = s + 1 ∨ NB ≤ s); omega)
      obtain ⟨C18, hC18⟩ : ∃ C18, stC (.slice A1 (vrunsL V 1024).length cap1) (.slice A2 (hugL V 1024).length cap2) (.slice A3 (datL V 1024).length cap3) (.slice A4 n c4) V.rf.calls V.rf.hits = C18 := ⟨_, rfl⟩
      have hC18s : C18.length = 18 := by rw [← hC18]; rfl
      have hC18o : C18.toArray.all (·.oneCell') = true := by rw [← hC18]; exact Go.all_oneCell_toArray (stC_one rfl rfl rfl rfl _ _)
      rw [hC18] at k3
      have hra : wr.rangeAt (s + 1) 0 C18 := fun j v hj => by rw [Nat.zero_add, k3.cell]; simpa using hj
      have hinf : (Tryz.prog.info? 53).map (·.size) = some C18.length := by rw [hC18s]; exact infoSt
      have hinfa : (Tryz.prog.info? 53).map (·.size) = some C18.toArray.size := by rw [List.size_toArray]; exact hinf
      have ht : wr.there s 0 C18.toArray.size := z_there k2r 0 _ (by rw [List.size_toArray, hC18s]; exact Nat.le_refl _)
      have kP := Blk.puts (g := s) (t := 53) (w := wr) (cs := #[]) C18 0 wr _ k2r
      rw [putA_all (by rw [hC18s]; rfl)] at kP
      have F9 := Far.puts (T := fun k => k = s) rfl C18 0 wr wr (Far.refl _ _)
      have hC' := Lib.hid hC18
      clear hC18 hC18s
      go_wp2_with (first
        | (refine wpList_load_mid rfl 53 (.tmp 3) rfl (s + 1) 0 rfl C18 _ hra Tryz.underlying53 rfl hinf ?_)
        | (refine wpList_store_mid rfl 53 (.tmp 2) (.tmp 125) rfl s 0 C18.toArray rfl rfl ht hinfa hC18o ?_))
      generalize World.setCells wr s 0 C18 = w9 at *
      have hl9 := run_loadVar_mid (P := Tryz.prog) w9 s 0 53 C18 _ (fun j v hj => by rw [Nat.zero_add, kP.cell]; simpa using hj) Tryz.underlying53 rfl hinf
      refine bodyPost_ret (v := .agg C18.toArray) ?_ rfl ?_
      · exact z_results_cell1 Tryz.results17 rfl hl9
      have q1r := q13'.out.farN hF (fun k hk ⟨o, e⟩ => by
        have := q4'.out k o e
        show ¬ (k = s + 1 ∨ NB ≤ k)
        omega)
      have hsz9 := F9.size
      have hszr := hF.size
      refine ⟨_, rfl, ⟨A1, A2, A3, A4, _, cap1, _, cap2, _, cap3, n, c4, by rw [hC'.out], rfl, ?_, rfl, ?_, rfl, ?_, hN4'.out, ?_⟩, ?_⟩
      · exact (r1.farN F9 (fun k hk ⟨o, e⟩ h => by have := g1 k o e; omega)).more hsz9
      · exact RI.more (r2.farN F9 (fun k hk ⟨o, e⟩ h => by have := g2 k o e; omega)) hsz9
      · exact (r3.farN F9 (fun k hk ⟨o, e⟩ h => by have := g3 k o e; omega)).more hsz9
      · exact (q1r.farN F9 (fun k hk ⟨o, e⟩ h => by have := q4'.out k o e; omega)).more (by omega)
      · rw [hs'.out]
        exact B3'.out.trans ((hF.below (by omega) (fun k hk h => by omega)).trans (F9.below (by omega) (fun k hk h => by omega)))
end Go.Proofs.YtpabnbhbcphfiaaGreat
