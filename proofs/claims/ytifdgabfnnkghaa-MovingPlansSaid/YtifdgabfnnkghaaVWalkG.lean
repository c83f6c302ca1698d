/- Walk: the program's Check of blocks. -/
import Derived.Test.YtifdgabfnnkghaaVWalkF
namespace Go.Proofs.Ytifdgabfnnkghaa
open Go Go.Proofs Go.RowKit Go.Pol Go.Shelf

theorem check1_enters : ∀ args w, (callFunc 33 args).run Try.prog w = .ok (.enter 33 args) w := enters_of Try.func33 (by kernel_rfl) rfl
theorem checkSpace_any (pages : Int) (A : Option Addr) (n cap : Nat) (w : World) (hs : spaceB pages = false) :
    Calls Try.prog 14 #[.int .i64 pages, .slice A n cap] w fun e w' => e = .returned (.int .i64 2) ∧ Below w.heap.size w w' := by
  have hb0 := (Below.refl w.heap.size w).alloc (Nat.le_refl _) (.cells #[.int .i64 pages] 3)
  have k0 := Blk.new w 3 #[.int .i64 pages]
  have c0 := k0.cell
  by_cases h1 : pages < 1
  · have h1' : decide (pages < 1) = true := by simpa using h1
    clear h1 hs
    go_enter Try.func14, Try.ntmps14
    go_wp2_with fail
    go_ret
    exact ⟨rfl, hb0⟩
  · have h1' : decide (pages < 1) = false := by simpa using h1
    by_cases h2 : 1024 < pages
    · have h2' : decide (1024 < pages) = true := by simpa using h2
      clear h1 h2 hs
      go_enter Try.func14, Try.ntmps14
      go_wp2_with fail
      go_ret
      exact ⟨rfl, hb0⟩
    · have h2' : decide (1024 < pages) = false := by simpa using h2
      obtain ⟨x, rfl⟩ := Int.eq_ofNat_of_zero_le (show 0 ≤ pages by omega)
      have hx : x ≤ 1024 := by omega
      have hp : Hid (isPow2 x = false) := Lib.hid (by rw [← isPow2_space x hx]; exact hs)
      have HO := Lib.hid (fun W => ones_any x hx W)
      rw [hp.out] at HO
      clear h1 h2 hs
      go_enter Try.func14, Try.ntmps14
      go_wp2_with fail
      refine (HO.out _).mono ?_
      rintro e w1 ⟨r, rfl, hw1, hr⟩
      subst hw1
      have hr' : (r != 1) = true := hr
      go_wp2_with fail
      go_ret
      exact ⟨rfl, hb0⟩
set_option maxRecDepth 100000 in
set_option maxHeartbeats 1600000 in
theorem checkIn_any (pages : Int) (A : Option Addr) (n cap : Nat) (bs : List B3) (w : World) (hn : bs.length = n) (hm : n ≤ maxLen) (hr : RT w w.heap.size A bs) (hs : spaceB pages = true) :
    Calls Try.prog 14 #[.int .i64 pages, .slice A n cap] w fun e w' => e = .returned (.int .i64 (chkB pages bs)) ∧ Below w.heap.size w w' := by
  unfold maxLen at hm
  have hb0 := (Below.refl w.heap.size w).alloc (Nat.le_refl _) (.cells #[.int .i64 pages] 3)
  have k0 := Blk.new w 3 #[.int .i64 pages]
  have c0 := k0.cell
  have hpb := spaceB_bound hs
  have hE := Lib.hid (show chkB pages bs = if 64 < n then 3 else if bs.any (fun b => !insB pages b.1 b.2.1) = true then 7 else if clash bs = true then 8 else 0 from by unfold chkB; rw [if_neg (by simp [hs]), hn])
  generalize chkB pages bs = R at *
  obtain ⟨x, rfl⟩ := Int.eq_ofNat_of_zero_le (show 0 ≤ pages by omega)
  have hx : x ≤ 1024 := by omega
  have hp : Hid (isPow2 x = true) := Lib.hid (by rw [← isPow2_space x hx]; exact hs)
  have HO := Lib.hid (fun W => ones_any x hx W)
  rw [hp.out] at HO
  have h1' : decide ((x : Int) < 1) = false := by simp; omega
  have h2' : decide ((1024 : Int) < (x : Int)) = false := by simp; omega
  have hr0 := hr.on hb0
  have HC := Lib.hid (containsT_any (fun b => !insB (x : Int) b.1 b.2.1) 33 #[.pointer (some ⟨w.heap.size, 0, none⟩)] A n cap bs _ hn (by unfold maxLen; omega) hr0 check1_enters (fun b hb W hW => check1_any w.heap.size x b W (by omega) (k0.call hW)))
  have hn' := Lib.hid hn
  clear hs hn hr
  by_cases h64 : 64 < n
  · have h64' : decide ((64 : Int) < (n : Int)) = true := by simp; omega
    have hR : Hid (R = 3) := Lib.hid (by rw [hE.out, if_pos h64])
    clear hE h64 HC
    go_enter Try.func14, Try.ntmps14
    go_wp2_with fail
    refine (HO.out _).mono ?_
    rintro e w1 ⟨r, rfl, hw1, hr⟩
    subst hw1
    have hr' : (r != 1) = false := hr
    go_wp2_with fail
    go_ret
    exact ⟨ret_int hR.out.symm, hb0⟩
  · have h64' : decide ((64 : Int) < (n : Int)) = false := by simp; omega
    have hE2 : Hid (R = if bs.any (fun b => !insB (x : Int) b.1 b.2.1) = true then 7 else if clash bs = true then 8 else 0) := Lib.hid (by rw [hE.out, if_neg h64])
    clear hE
    cases hany : bs.any (fun b => !insB (x : Int) b.1 b.2.1) with
    | true =>
      rw [hany] at HC
      have hR : Hid (R = 7) := Lib.hid (by rw [hE2.out, if_pos hany])
      clear hE2 hany
      go_enter Try.func14, Try.ntmps14
      go_wp2_with fail
      refine (HO.out _).mono ?_
      rintro e w1 ⟨r, rfl, hw1, hr⟩
      subst hw1
      have hr' : (r != 1) = false := hr
      go_wp2_with fail
      refine HC.out.mono ?_
      rintro e w2 ⟨rfl, hb2⟩
      go_wp2_with fail
      go_ret
      exact ⟨ret_int hR.out.symm, hb0.trans (hb2.mono hb0.size)⟩
    | false =>
      rw [hany] at HC
      have hR : Hid (R = if clash bs = true then 8 else 0) := Lib.hid (by rw [hE2.out, if_neg (by simp [hany])])
      have hins : Hid (∀ b ∈ bs, okPl b) := Lib.hid (fun b hb => ins_okPl (pages := (x : Int)) (by omega) (by have := any_false_iff.1 hany b hb; simpa using this))
      clear hE2 hany
      go_enter Try.func14, Try.ntmps14
      go_wp2_with fail
      refine (HO.out _).mono ?_
      rintro e w1 ⟨r, rfl, hw1, hr⟩
      subst hw1
      have hr' : (r != 1) = false := hr
      go_wp2_with fail
      refine HC.out.mono ?_
      rintro e w2 ⟨rfl, hb2⟩
      have B2 := hb0.trans (hb2.mono hb0.size)
      have r2 := hr0.on hb2
      clear HC HO hr0 k0 c0 hb0 hb2
      have HV := Lib.hid (values_any A n cap w2)
      go_wp2_with fail
      refine HV.out.mono ?_
      rintro e w3 ⟨rfl, rfl⟩
      have hbv := (Below.refl w2.heap.size w2).alloc (Nat.le_refl _) (.cells #[.slice A n cap] 22)
      have kV := Blk.new w2 22 #[.slice A n cap]
      have rV := r2.on hbv
      have B3 := B2.trans (hbv.mono B2.size)
      have HS := Lib.hid (sortedT_any 53 #[.pointer (some ⟨w2.heap.size, 0, none⟩)] (fun k => k < w2.heap.size + 1) bs _ (by have := hn'.out; omega) (values1_seq A n cap bs w2.heap.size _ _ (by omega) kV hn'.out (by unfold maxLen; omega) rV (fun hne b o e => by
        obtain ⟨b', o', e', hb, _⟩ := r2.at_ (k := 0) (List.length_pos_iff.2 hne)
        rw [e] at e'; cases e'; omega)) values_enters (fun k hk => by simp; omega))
      clear HV kV rV hbv r2
      go_wp2_with fail
      refine HS.out.mono ?_
      rintro e w4 ⟨us, A4, c4, hp4, hs4, rfl, rt4, hb4⟩
      have B4 := B3.trans (hb4.mono B3.size)
      obtain ⟨m, hm4⟩ : ∃ m, us.length = m := ⟨_, rfl⟩
      have hm64 : m ≤ 64 := by have := hp4.length_eq; have := hn'.out; omega
      rw [hm4]
      have hm4' := Lib.hid hm4
      have hR2 : Hid (R = if adjB us = true then 8 else 0) := Lib.hid (by rw [hR.out, adjB_clash hs4, clash_perm hp4])
      have hok : Hid (∀ i, i < m → okPl (us.getD i b0)) := Lib.hid (fun i hi => hins.out _ (hp4.mem_iff.1 (getD_memB (by omega))))
      clear HS hp4 hs4 hm4 hR hins B2 B3 hb4
      go_wp2_with fail
      go_loopw [6] (fun i wr => ∃ k : Nat, 1 ≤ k ∧ (k ≤ m ∨ k = 1) ∧ i = .int .i64 k ∧ Below w4.heap.size w4 wr ∧ Hid (∀ i, i + 1 < k → ¬ (us.getD (i + 1) b0).1 < (us.getD i b0).1 + pw (us.getD i b0).2.1)) (fun i _ => m - (intOf i).toNat)
      case atStart => exact ⟨1, by omega, .inr rfl, rfl, Below.refl _ _, Lib.hid (by omega)⟩
      case round =>
        obtain ⟨k, hk1, hk, rfl, hB, hL⟩ := hrel
        by_cases hlt : k < m
        · have hlt' : decide ((k : Int) < (m : Int)) = true := by simpa using hlt
          have hrr := (rt4.below hB).more hB.size
          obtain ⟨b, o, rfl, _, c1, _, _⟩ := hrr.at_ (k := k) (by have := hm4'.out; omega)
          obtain ⟨b', o', e', _, d1, d2, d3⟩ := hrr.at_ (k := k - 1) (by have := hm4'.out; omega)
          cases e'
          have ok1 := hok.out (k - 1) (by omega)
          have HEn := Lib.hid (fun W => end_any (us.getD (k - 1) b0) W ok1)
          have hkk : k - 1 + 1 = k := by omega
          have hbd := ok1
          have hok2 := hok.out k hlt
          obtain ⟨px, hpx⟩ : ∃ px, (us.getD k b0).1 = px := ⟨_, rfl⟩
          obtain ⟨y, hy⟩ : ∃ y, us.getD (k - 1) b0 = y := ⟨_, rfl⟩
          rw [hpx] at c1
          rw [hy] at d1 d2 d3 HEn hbd
          have hpx' := Lib.hid hpx
          have hy' := Lib.hid hy
          obtain ⟨ya, yo, yc⟩ := y
          simp only at d1 d2 d3 HEn
          obtain ⟨hya, hyo⟩ := hbd
          simp only at hya hyo
          have hpw1 := pw_pos yo
          have hpw2 := pw_le hyo.2
          have hpxb : -100000 ≤ px ∧ px ≤ 100000 := by rw [← hpx]; exact hok2.1
          clear hpx hy ok1 hok2
          obtain ⟨q, hq⟩ : ∃ q, pw yo = q := ⟨_, rfl⟩
          rw [hq] at HEn hpw1 hpw2
          have hq' := Lib.hid hq
          clear hq
          have q1 := fun z : Ext wr => z.cell c1
          have q2 := fun z : Ext wr => z.cell d1
          have q3 := fun z : Ext wr => z.cell d2
          have q4 := fun z : Ext wr => z.cell d3
          have G := Lib.hid (fun z : Ext wr => Ext.call (x := z) (HEn.out z.w))
          by_cases hcmp : px < ya + q
          · have hcmp' : decide (px < ya + q) = true := by simpa using hcmp
            have hRR : Hid (R = 8) := Lib.hid (by rw [hR2.out, if_pos (adjB_iff.2 ⟨k - 1, by have := hm4'.out; omega, by rw [hkk, hpx'.out, hy'.out]; simp only; rw [hq'.out]; exact hcmp⟩)])
            clear hcmp hR2 hL
            go_upto_region 11 with fail
            refine region_ext (by kernel_rfl) (by kernel_rfl) ?_
            repeat (go_big_quiet_step ((go_at_call 39; exact G.out _)))
            refine wpQuiet_nil ?_
            rintro w5 ⟨⟨_, hw5⟩, rfl⟩
            go_wp2_with fail
            go_ret
            exact ⟨ret_int hRR.out.symm, (B4.trans (hB.mono B4.size)).trans ((hw5.mono hB.size).mono B4.size)⟩
          · have hcmp' : decide (px < ya + q) = false := by simpa using hcmp
            have hL2 : Hid (∀ i, i + 1 < k + 1 → ¬ (us.getD (i + 1) b0).1 < (us.getD i b0).1 + pw (us.getD i b0).2.1) := Lib.hid (fun i hi => by
              by_cases h : i + 1 = k
              · obtain rfl : i = k - 1 := by omega
                rw [hkk, hpx'.out, hy'.out]; simp only; rw [hq'.out]; exact hcmp
              · exact hL.out i (by omega))
            clear hcmp hL
            go_upto_region 11 with fail
            refine region_ext (by kernel_rfl) (by kernel_rfl) ?_
            repeat (go_big_quiet_step ((go_at_call 39; exact G.out _)))
            refine wpQuiet_nil ?_
            rintro w5 ⟨⟨_, hw5⟩, rfl⟩
            go_wp2_with fail
            go_roundw
            case rel => exact ⟨k + 1, by omega, .inl (by omega), by go_num, hB.trans (hw5.mono hB.size), hL2⟩
            case measure => simp [intOf]; omega
        · have hlt' : decide ((k : Int) < (m : Int)) = false := by simp; omega
          have hRR : Hid (R = 0) := Lib.hid (by
            rw [hR2.out, if_neg]
            intro hc
            obtain ⟨i, hi, hlt2⟩ := adjB_iff.1 hc
            exact hL.out i (by have := hm4'.out; omega) hlt2)
          clear hR2 hL
          go_wp2_with fail
          go_ret
          exact ⟨ret_int hRR.out.symm, B4.trans (hB.mono B4.size)⟩
theorem check_any (pages : Int) (A : Option Addr) (n cap : Nat) (bs : List B3) (w : World) (hn : bs.length = n) (hm : n ≤ maxLen) (hr : RT w w.heap.size A bs) :
    Calls Try.prog 14 #[.int .i64 pages, .slice A n cap] w fun e w' => e = .returned (.int .i64 (chkB pages bs)) ∧ Below w.heap.size w w' := by
  cases hs : spaceB pages with
  | true => exact checkIn_any pages A n cap bs w hn hm hr hs
  | false =>
    have := checkSpace_any pages A n cap w hs
    rw [show chkB pages bs = 2 by unfold chkB; rw [if_pos hs]]
    exact this
end Go.Proofs.Ytifdgabfnnkghaa
