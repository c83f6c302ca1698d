/- Walks: the worst size by trying all sizes (the reference). -/
import Derived.Test.YtiohcegkkpeodaaWalkB
import Derived.Test.YtiohcegkkpeodaaSpecW
namespace Go.Proofs.Ytiohcegkkpeodaa
open Go Go.Proofs Go.RowKit Go.Pol
theorem cls_in {xs : List Int} (h : okT xs) (m : Int) (hm : m ≤ xs.getD (xs.length - 1) 0) : cls xs m < xs.length := by
  have h1 := cls_le xs m
  by_cases e : cls xs m < xs.length
  · exact e
  · exfalso
    have := cls_lt xs m (xs.length - 1) (by have := h.pos; omega)
    omega
def TupR (R : Int × Int × Int × Int) (w : World) (e : Ending) (w' : World) : Prop := e = .returned (.tuple #[.int .i64 R.1, .int .i64 R.2.1, .int .i64 R.2.2.1, .int .i64 R.2.2.2]) ∧ Below w.heap.size w w'
set_option maxHeartbeats 800000 in
theorem refWorst_any (A : Option Addr) (n cap : Nat) (xs : List Int) (w : World) (hn : xs.length = n) (hm : n ≤ maxLen) (hr : RI w w.heap.size A xs) :
    Calls Try.prog 13 #[.agg #[.slice A n cap]] w (TupR (refW xs) w) := by
  have HCK := Lib.hid (fun W (h : RI W W.heap.size A xs) => refCheck_any A n cap xs W hn hm h)
  have HCL := Lib.hid (fun W (h : RI W W.heap.size A xs) s => refClass_any A n cap xs s W hn hm h)
  unfold maxLen at hm
  have hn' := Lib.hid hn
  clear hn
  have hb0 : ∀ t, Below w.heap.size w (w.alloc (Obj.cells #[Value.slice A n cap] t)) := fun t => (Below.refl _ _).alloc (Nat.le_refl _) _
  have hr0 := (hr.below (hb0 24)).more (B' := (w.alloc (Obj.cells #[Value.slice A n cap] 24)).heap.size) (by simp)
  by_cases he : chkT xs = 0
  case neg =>
    have he' : (chkT xs != 0) = true := by simpa using he
    have H : Hid (refW xs = (0, 0, 0, chkT xs)) := Lib.hid (by unfold refW; rw [if_neg he])
    clear he
    generalize refW xs = R at *
    go_enter Try.func13, Try.ntmps13
    go_wp2_with (go_at_call 24; refine (HCK.out _ hr0).mono ?_; rintro e w1 ⟨rfl, hq⟩)
    (try simp only [Exit.inBlock, Exit.then]); refine bodyPost_ret (results_tmp4 rfl _ _ _) rfl ?_
    exact ⟨by rw [H.out]; rfl, (hb0 _).trans (hq.mono (by simp))⟩
  case pos =>
    have hok := Lib.hid (chkT_ok he)
    have he' : (chkT xs != 0) = false := by simpa using he
    have H : Hid (refW xs = ((wrsR xs (xs.getD (xs.length - 1) 0).toNat 1 1 0 1).1, (redR (wrsR xs (xs.getD (xs.length - 1) 0).toNat 1 1 0 1).2.2.toNat (wrsR xs (xs.getD (xs.length - 1) 0).toNat 1 1 0 1).2.1 (wrsR xs (xs.getD (xs.length - 1) 0).toNat 1 1 0 1).2.2).1, (redR (wrsR xs (xs.getD (xs.length - 1) 0).toNat 1 1 0 1).2.2.toNat (wrsR xs (xs.getD (xs.length - 1) 0).toNat 1 1 0 1).2.1 (wrsR xs (xs.getD (xs.length - 1) 0).toNat 1 1 0 1).2.2).2, 0)) := Lib.hid (by unfold refW; rw [if_pos he])
    clear he
    generalize refW xs = R at *
    have hn1 : 1 ≤ n := by have := hok.out.pos; have := hn'.out; omega
    have hn2 : n ≤ 64 := by have := hok.out.len; have := hn'.out; omega
    have hlast := hok.out.at_ (n - 1) (by have := hn'.out; omega)
    obtain ⟨L, hL⟩ : ∃ L, xs.getD (n - 1) 0 = L := ⟨_, rfl⟩
    rw [hL] at hlast
    obtain ⟨hL1, hL2, _⟩ := hlast
    rw [hn'.out, hL] at H
    obtain ⟨V, hV⟩ : ∃ V, wrsR xs L.toNat 1 1 0 1 = V := ⟨_, rfl⟩
    rw [hV] at H
    have HV := Lib.hid hV
    have HL := Lib.hid hL
    clear hV hL
    go_enter Try.func13, Try.ntmps13
    go_wp2_with (go_at_call 24; refine (HCK.out _ hr0).mono ?_; rintro e w1 ⟨rfl, hq⟩; have k1 := (Blk.new w 24 #[Value.slice A n cap]).call hq)
    have hB1 := (hb0 24).trans (hq.mono (by simp))
    clear hq hr0 hb0 he' HCK
    generalize chkT xs = ck
    go_loopw [7, 8, 9, 10] (fun s7 s8 s9 s10 wr => ∃ (size num den m : Int) (f : Nat), s7 = .int .i64 size ∧ s8 = .int .i64 num ∧ s9 = .int .i64 den ∧ s10 = .int .i64 m ∧ 1 ≤ m ∧ m + f = L + 1 ∧ 0 ≤ num ∧ num ≤ 4096 ∧ 1 ≤ den ∧ den ≤ 4096 ∧ Below w.heap.size w wr ∧ Blk wr w.heap.size 24 #[Value.slice A n cap] ∧ Hid (wrsR xs f m size num den = V)) (fun _ _ _ s10 _ => (L + 1 - intOf s10).toNat)
    case atStart => exact ⟨1, 0, 1, 1, L.toNat, rfl, rfl, rfl, rfl, by omega, by omega, by omega, by omega, by omega, by omega, hB1, k1, HV⟩
    case round =>
      clear hB1 k1
      obtain ⟨size, num, den, m, f, rfl, rfl, rfl, rfl, hm1, hmf, hnu0, hnu1, hde0, hde1, hB, kT, hW⟩ := hrel
      have hr1 := hr.below hB
      obtain ⟨g, o, rfl, _, hc⟩ := RI.at_ hr1 (k := n - 1) (by have := hn'.out; omega)
      rw [HL.out] at hc
      have cT := kT.cell
      by_cases hlt : m ≤ L
      · obtain ⟨f, rfl⟩ : ∃ q, f = q + 1 := ⟨f - 1, by omega⟩
        have hci := cls_in hok.out m (by rw [hn'.out, HL.out]; exact hlt)
        rw [hn'.out] at hci
        obtain ⟨g', o', had, _, hc2⟩ := RI.at_ hr1 (k := cls xs m) (by have := hn'.out; omega)
        obtain ⟨rfl, rfl⟩ : g = g' ∧ o = o' := by simpa using had
        clear had
        have hxx := hok.out.at_ (cls xs m) (by have := hn'.out; omega)
        have hge := cls_ge xs m (by have := hn'.out; omega)
        have HW2 : Hid (V = if (xs.getD (cls xs m) 0 - m) * den > num * xs.getD (cls xs m) 0 then wrsR xs f (m+1) m (xs.getD (cls xs m) 0 - m) (xs.getD (cls xs m) 0) else wrsR xs f (m+1) size num den) := Lib.hid (by rw [← hW.out, wrsR])
        obtain ⟨ci, hcl⟩ : ∃ ci, cls xs m = ci := ⟨_, rfl⟩
        have HCLC : Hid (∀ x : Ext wr, Calls Try.prog 33 #[.agg #[.slice (some ⟨g, o, none⟩) n cap], .int .i64 m] x.w fun e w'' => e = .returned (.int .i64 ci) ∧ ∃ y : Ext wr, w'' = y.w) := Lib.hid (fun x => by rw [← hcl]; exact Ext.call (HCL.out _ ((hr1.below (x.le.mono hB.size)).more (by have := hB.size; have := x.le.size; omega)) _))
        rw [hcl] at hci hc2 hxx hge HW2
        clear hcl
        generalize xs.getD ci 0 = c at *
        obtain ⟨hx1, hx2, _⟩ := hxx
        have q1 := fun x : Ext wr => (x.blk kT).cell
        have q2 := fun x : Ext wr => x.cell hc2
        go_upto_region 8 with fail
        refine region_ext (by kernel_rfl) (by kernel_rfl) ?_
        repeat (go_big_quiet_step (((go_at_call 33; exact HCLC.out _))))
        refine wpQuiet_nil ?_
        rintro wq ⟨⟨_, hwq⟩, rfl⟩
        have hw1 := mul_wrap64 (c - m) den (by omega) (by omega)
        have hw2 := mul_wrap64 num c (by omega) (by omega)
        by_cases hgt : num * c < (c - m) * den
        · have HW3 : Hid (wrsR xs f (m+1) m (c - m) c = V) := Lib.hid (by rw [HW2.out, if_pos hgt])
          go_wp2_with fail
          go_roundw
          case rel => exact ⟨m, c - m, c, m + 1, f, rfl, rfl, rfl, rfl, by omega, by omega, by omega, by omega, by omega, by omega, hB.trans (hwq.mono hB.size), kT.call hwq, HW3⟩
          case measure => simp [intOf]; omega
        · have HW3 : Hid (wrsR xs f (m+1) size num den = V) := Lib.hid (by rw [HW2.out, if_neg hgt])
          go_wp2_with fail
          go_roundw
          case rel => exact ⟨size, num, den, m + 1, f, rfl, rfl, rfl, rfl, by omega, by omega, by omega, by omega, by omega, by omega, hB.trans (hwq.mono hB.size), kT.call hwq, HW3⟩
          case measure => simp [intOf]; omega
      · obtain rfl : f = 0 := by omega
        have HV2 : Hid (V = (size, num, den)) := Lib.hid hW.out.symm
        have H2 : Hid (R = (size, (redR den.toNat num den).1, (redR den.toNat num den).2, 0)) := Lib.hid (by rw [H.out, HV2.out])
        go_wp2_with fail
        go_loopw [8, 9, 12] (fun s8 s9 s12 wx => ∃ (nu de kk : Int) (k : Nat), s8 = .int .i64 nu ∧ s9 = .int .i64 de ∧ s12 = .int .i64 kk ∧ kk ≤ k ∧ (k : Int) ≤ kk ∧ k ≤ 4096 ∧ 0 ≤ nu ∧ nu ≤ 4096 ∧ 1 ≤ de ∧ de ≤ 4096 ∧ 1 ≤ k ∧ Below w.heap.size w wx ∧ Hid (redR den.toNat num den = redR k nu de)) (fun _ _ s12 _ => (intOf s12).toNat)
        case atStart => exact ⟨num, den, den, den.toNat, rfl, rfl, rfl, by omega, by omega, by omega, by omega, by omega, by omega, by omega, by omega, hB, Lib.hid rfl⟩
        case round =>
          clear hB
          obtain ⟨nu, de, kk, k, rfl, rfl, rfl, hkk1, hkk2, hk0, hn0, hn1', hd0, hd1, hk1, hB, hQ⟩ := hrel
          by_cases hk : 1 < k
          · obtain ⟨k, rfl⟩ : ∃ j, k = j + 1 := ⟨k - 1, by omega⟩
            have HQ2 : Hid (redR den.toNat num den = if nu % kk = 0 ∧ de % kk = 0 then redR k (nu / kk) (de / kk) else redR k nu de) := Lib.hid (by rw [hQ.out, redR, if_neg (by omega), show ((k : Int) + 1) = kk by omega])
            have hb1 := Int.ediv_nonneg hn0 (show 0 ≤ kk by omega)
            have hb2 := Int.ediv_le_self kk hn0
            have hb3 := Int.ediv_le_self kk (show 0 ≤ de by omega)
            by_cases hx : nu % kk = 0
            · have hx' : (nu % kk == 0) = true := by simpa using hx
              by_cases hy : de % kk = 0
              · have hy' : (de % kk == 0) = true := by simpa using hy
                have hb4 : 1 ≤ de / kk := Int.le_ediv_of_mul_le (by omega) (by have := Int.le_of_dvd (by omega) (Int.dvd_of_emod_eq_zero hy); omega)
                have HQ3 : Hid (redR den.toNat num den = redR k (nu / kk) (de / kk)) := Lib.hid (by rw [HQ2.out, if_pos ⟨hx, hy⟩])
                clear hx hy
                go_upto_region 15 with fail
                refine region_ext (by kernel_rfl) (by kernel_rfl) ?_
                repeat (go_big_quiet_step (fail))
                refine wpQuiet_nil ?_
                rintro wq ⟨⟨_, hwq⟩, rfl⟩
                go_wp2_with fail
                go_roundw
                case rel => exact ⟨nu / kk, de / kk, kk - 1, k, rfl, rfl, rfl, by omega, by omega, by omega, by omega, by omega, by omega, by omega, by omega, hB.trans (hwq.mono hB.size), HQ3⟩
                case measure => simp [intOf]; omega
              · have hy' : (de % kk == 0) = false := by simpa using hy
                have HQ3 : Hid (redR den.toNat num den = redR k nu de) := Lib.hid (by rw [HQ2.out, if_neg (fun h => hy h.2)])
                clear hx hy
                go_wp2_with fail
                go_roundw
                case rel => exact ⟨nu, de, kk - 1, k, rfl, rfl, rfl, by omega, by omega, by omega, by omega, by omega, by omega, by omega, by omega, hB, HQ3⟩
                case measure => simp [intOf]; omega
            · have hx' : (nu % kk == 0) = false := by simpa using hx
              have HQ3 : Hid (redR den.toNat num den = redR k nu de) := Lib.hid (by rw [HQ2.out, if_neg (fun h => hx h.1)])
              clear hx
              go_wp2_with fail
              go_roundw
              case rel => exact ⟨nu, de, kk - 1, k, rfl, rfl, rfl, by omega, by omega, by omega, by omega, by omega, by omega, by omega, by omega, hB, HQ3⟩
              case measure => simp [intOf]; omega
          · obtain rfl : k = 1 := by omega
            have HQ2 : Hid (R = (size, nu, de, 0)) := Lib.hid (by rw [H2.out, hQ.out]; rfl)
            go_wp2_with fail
            (try simp only [Exit.inBlock, Exit.then]); refine bodyPost_ret (results_tmp4 rfl _ _ _) rfl ?_
            exact ⟨by rw [HQ2.out]; rfl, hB⟩
end Go.Proofs.Ytiohcegkkpeodaa
