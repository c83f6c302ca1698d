/- Walks: the reference's search for places; the law SpansPlaces. -/
import Derived.Test.YtfmnlpgboolpmaaSSpecF
import Derived.Test.YtfmnlpgboolpmaaSWalkG
namespace Go.Proofs.Ytfmnlpgboolpmaa
open Go Go.Proofs Go.RowKit Go.Pol Go.Shelf

set_option maxHeartbeats 800000 in
theorem power_any (n : Int) (w : World) : Calls Try.prog 115 #[.int .i64 n] w fun e w' => e = .returned (.bool (isPow n.toNat)) ∧ w' = w := by
  obtain ⟨R, hR⟩ : ∃ R, isPow n.toNat = R := ⟨_, rfl⟩
  rw [hR]
  have hR' := Lib.hid hR
  clear hR
  go_enter Try.func115, Try.ntmps115
  go_wp2_with fail
  go_loopw [3] (fun p wr => ∃ (j : Nat) (q : Int), j ≤ 11 ∧ p = .int .i64 q ∧ Hid (q = pw j) ∧ Hid (∀ i, i < j → n ≠ pw i) ∧ wr = w) (fun p _ => (2048 - intOf p).toNat)
  case atStart => exact ⟨0, 1, by omega, rfl, Lib.hid rfl, Lib.hid (fun i hi => absurd hi (by omega)), rfl⟩
  case round =>
    obtain ⟨j, q, hj, rfl, hq, hL, hw⟩ := hrel
    have hw' := hw.symm
    clear hw
    subst hw'
    have hb := pw_le j hj
    rw [← hq.out] at hb
    by_cases hle : q ≤ 1024
    · have hle' : decide (q ≤ 1024) = true := by simpa using hle
      by_cases he : n = q
      · have he' : (n == q) = true := by simpa using he
        have hE : Hid (R = true) := Lib.hid (by rw [← hR'.out, isPow_iff]; exact ⟨j, hb.2.2.1 hle, by rw [he, hq.out]⟩)
        clear he
        go_wp2_with fail
        go_ret
        exact ⟨ret_bool hE.out.symm, rfl⟩
      · have he' : (n == q) = false := by simpa using he
        have hq2 : Hid (2 * q = pw (j + 1)) := Lib.hid (by rw [pw_succ, hq.out])
        have hL2 : Hid (∀ i, i < j + 1 → n ≠ pw i) := Lib.hid (fun i hi => by
          by_cases h : i = j
          · rw [h, ← hq.out]; exact he
          · exact hL.out i (by omega))
        have hj2 : j + 1 ≤ 11 := by have := hb.2.2.1 hle; omega
        clear he
        go_wp2_with fail
        go_roundw
        case rel => exact ⟨j + 1, 2 * q, hj2, by go_num, hq2, hL2, trivial⟩
        case measure => simp [intOf]; omega
    · have hle' : decide (q ≤ 1024) = false := by simpa using hle
      have hE : Hid (R = false) := Lib.hid (by
        rw [← hR'.out, Bool.eq_false_iff, Ne, isPow_iff]
        rintro ⟨i, hi, h⟩
        exact hL.out i (by have h2 := hb.2.2; omega) h)
      go_wp2_with fail
      go_ret
      exact ⟨ret_bool hE.out.symm, rfl⟩

set_option maxRecDepth 100000 in
set_option maxHeartbeats 1600000 in
theorem refPlace_any (pages align xa xb : Int) (hp : 1 ≤ pages ∧ pages ≤ 1024) (ha : 1 ≤ align ∧ align ≤ 1024) (hv : vld (xa, xb) = true) (w : World) :
    Calls Try.prog 116 #[.agg #[.int .i64 xa, .int .i64 xb], .int .i64 pages, .int .i64 align] w fun e w' => e = .returned (.int .i64 (placeR pages align (xa, xb))) ∧ Below w.heap.size w w' := by
  have hvx := vld_iff.1 hv
  dsimp only at hvx
  have hb0 := (Below.refl w.heap.size w).alloc (Nat.le_refl _) (.cells #[.int .i64 xa, .int .i64 xb] 40)
  have k0 := Blk.new w 40 #[.int .i64 xa, .int .i64 xb]
  have z0 := k0.cell
  obtain ⟨M, hM⟩ : ∃ M, upP align xa = M := ⟨_, rfl⟩
  have hMg := upP_ok (align := align) (a := xa) ha.1
  have hMm : Hid (M % align = 0) := Lib.hid (by rw [← hM]; exact upP_mult)
  have hMl : Hid (∀ p, xa ≤ p → p % align = 0 → M ≤ p) := Lib.hid (fun p h1 h2 => by rw [← hM]; exact upP_least ha.1 h1 h2)
  rw [hM] at hMg
  obtain ⟨R, hR⟩ : ∃ R, placeR pages align (xa, xb) = R := ⟨_, rfl⟩
  rw [hR]
  have hR' : Hid (R = if M + pages ≤ xa + xb then M else -1) := Lib.hid (by rw [← hR, placeR, hM])
  have hs0 : (align == 0) = false := by simp; omega
  clear hR hM hv
  go_enter Try.func116, Try.ntmps116
  go_upto_region 1 with fail
  generalize w.alloc (.cells #[.int .i64 xa, .int .i64 xb] 40) = W0 at *
  go_wp2_with fail
  go_loopw [7] (fun pp wr => ∃ p : Int, xa ≤ p ∧ p ≤ M ∧ pp = .int .i64 p ∧ wr = W0) (fun pp _ => (4096 - intOf pp).toNat)
  case atStart => exact ⟨xa, by omega, by omega, rfl, rfl⟩
  case round =>
    obtain ⟨p, hp0, hp1, rfl, hw⟩ := hrel
    have hw' := hw.symm
    clear hw
    subst hw'
    by_cases hle : p + pages ≤ xa + xb
    · have hle' : decide (p + pages ≤ xa + xb) = true := by simpa using hle
      have htm : Int.tmod p align = p % align := Int.tmod_eq_emod_of_nonneg (by omega)
      by_cases hm : p % align = 0
      · have hm1 : (p % align == 0) = true := by simpa using hm
        have hE : Hid (R = p) := Lib.hid (by
          have h1 := hMl.out p hp0 hm
          have h2 : p = M := by omega
          rw [hR'.out, if_pos (by omega), h2])
        clear hm
        go_wp2_with fail
        go_ret
        exact ⟨ret_int hE.out.symm, hb0⟩
      · have hm1 : (p % align == 0) = false := by simpa using hm
        have hne : p + 1 ≤ M := by
          have : p ≠ M := fun h => hm (by rw [h]; exact hMm.out)
          omega
        clear hm
        go_wp2_with fail
        go_roundw
        case rel => exact ⟨p + 1, by omega, hne, by go_num, trivial⟩
        case measure => simp [intOf]; omega
    · have hle' : decide (p + pages ≤ xa + xb) = false := by simpa using hle
      have hE : Hid (R = -1) := Lib.hid (by rw [hR'.out, if_neg (by omega)])
      go_wp2_with fail
      go_ret
      exact ⟨ret_int hE.out.symm, hb0⟩

theorem find_bad {us : List Sp} {pages align : Int} (best : Bool) (h : placeE us pages align ≠ 0) : findF us pages align best = (0, placeE us pages align) := by
  unfold findF
  cases best with
  | true => rw [if_pos rfl, bestF, if_neg h]
  | false => rw [if_neg (by decide), firstF, if_neg h]

set_option maxRecDepth 100000 in
set_option maxHeartbeats 3200000 in
theorem find_any (A : Option Addr) (n cap : Nat) (us : List Sp) (pages align : Int) (best : Bool) (w : World) (hn : us.length = n) (hm : n ≤ maxLen) (hr : RU w w.heap.size A us) :
    Calls Try.prog 100 #[.slice A n cap, .int .i64 pages, .int .i64 align, .bool best] w fun e w' => e = .returned (.tuple #[.int .i64 (findF us pages align best).1, .int .i64 (findF us pages align best).2]) ∧ Below w.heap.size w w' := by
  have HC := Lib.hid (refSpCheck_any A n cap us w hn hm hr)
  have HL := Lib.hid (fun (h : placeE us pages align ≠ 0) => find_bad best h)
  obtain ⟨R, hR⟩ : ∃ R, findF us pages align best = R := ⟨_, rfl⟩
  rw [hR] at HL ⊢
  have hR' := Lib.hid hR
  clear hR
  by_cases hc : chkS us = 0
  case neg =>
    have hRb : Hid (R = (0, chkS us)) := Lib.hid (by
      have e : placeE us pages align = chkS us := by unfold placeE; rw [if_neg hc]
      rw [HL.out (by rw [e]; exact hc), e])
    generalize chkS us = er at *
    have hc' : (er == 0) = false := by simpa using hc
    have hc2 : (er != 0) = true := by simpa using hc
    clear hc
    clear HL hn
    go_enter Try.func100, Try.ntmps100
    go_wp2_with fail
    refine HC.out.mono ?_
    rintro e w1 ⟨rfl, hb1⟩
    go_wp2_with fail
    go_ret2
    rw [hRb.out]
    exact ⟨rfl, hb1⟩
  rw [hc] at HC
  have hPE : placeE us pages align = if badPlace pages align = true then 2 else 0 := by unfold placeE; rw [if_pos hc]
  by_cases h1 : pages < 1
  · have h1' : decide (pages < 1) = true := by simpa using h1
    have hRb : Hid (R = (0, 2)) := Lib.hid (by
      have e : placeE us pages align = 2 := by rw [hPE, if_pos]; simp [badPlace]; omega
      rw [HL.out (by rw [e]; decide), e])
    clear HL hn
    go_enter Try.func100, Try.ntmps100
    go_wp2_with fail
    refine HC.out.mono ?_
    rintro e w1 ⟨rfl, hb1⟩
    go_wp2_with fail
    go_ret2
    rw [hRb.out]
    exact ⟨rfl, hb1⟩
  have h1' : decide (pages < 1) = false := by simpa using h1
  by_cases h2 : 1024 < pages
  · have h2' : decide (1024 < pages) = true := by simpa using h2
    have hRb : Hid (R = (0, 2)) := Lib.hid (by
      have e : placeE us pages align = 2 := by rw [hPE, if_pos]; simp [badPlace]; omega
      rw [HL.out (by rw [e]; decide), e])
    clear HL hn
    go_enter Try.func100, Try.ntmps100
    go_wp2_with fail
    refine HC.out.mono ?_
    rintro e w1 ⟨rfl, hb1⟩
    go_wp2_with fail
    go_ret2
    rw [hRb.out]
    exact ⟨rfl, hb1⟩
  have h2' : decide (1024 < pages) = false := by simpa using h2
  have HPW := Lib.hid (fun W => power_any align W)
  cases hpw : isPow align.toNat with
  | false =>
    rw [hpw] at HPW
    have hRb : Hid (R = (0, 2)) := Lib.hid (by
      have e : placeE us pages align = 2 := by rw [hPE, if_pos]; rw [badPlace, hpw, Bool.and_false]; rfl
      rw [HL.out (by rw [e]; decide), e])
    clear HL hn
    go_enter Try.func100, Try.ntmps100
    go_wp2_with fail
    refine HC.out.mono ?_
    rintro e w1 ⟨rfl, hb1⟩
    go_wp2_with fail
    refine (HPW.out _).mono ?_
    rintro e w1 ⟨rfl, rfl⟩
    go_wp2_with fail
    go_ret2
    rw [hRb.out]
    exact ⟨rfl, hb1⟩
  | true =>
    rw [hpw] at HPW
    have h0 : placeE us pages align = 0 := by
      rw [hPE, if_neg]
      rw [badPlace, hpw, decide_eq_true (show 1 ≤ pages by omega), decide_eq_true (show pages ≤ 1024 by omega)]
      decide
    obtain ⟨hu, _, _, ha0, ha1, _⟩ := placeE_zero h0
    have hvl := Lib.hid hu.1
    have hlen := hu.len
    have hn' := Lib.hid hn
    have hn512 : n ≤ 512 := by omega
    have HNone : Hid (∀ found, FoundR us pages align best us.length found → found < 0 → R = (0, 4)) := Lib.hid (fun found h hneg => by rw [← hR'.out]; exact find_none h0 h hneg)
    have HSome : Hid (∀ f : Nat, FoundR us pages align best us.length f → f < us.length ∧ R = (placeR pages align (us.getD f (0,0)), 0)) := Lib.hid (fun f h => by rw [← hR'.out]; exact find_some h0 hvl.out h)
    have HPl : Hid (∀ x : Sp, vld x = true → ∀ W, Calls Try.prog 116 #[.agg #[.int .i64 x.1, .int .i64 x.2], .int .i64 pages, .int .i64 align] W fun e w' => e = .returned (.int .i64 (placeR pages align x)) ∧ Below W.heap.size W w') := Lib.hid (fun x hv W => refPlace_any pages align x.1 x.2 ⟨by omega, by omega⟩ ⟨ha0, ha1⟩ hv W)
    have hvat : Hid (∀ j, j < n → vld (us.getD j (0,0)) = true) := Lib.hid (fun j hj => hvl.out (us.getD j (0,0)) (by rw [List.getD_eq_getElem?_getD, List.getElem?_eq_getElem (by have := hn'.out; omega)]; simp))
    have hup : Hid (∀ x : Sp, vld x = true → placeR pages align x = (if upP align x.1 + pages ≤ x.1 + x.2 then upP align x.1 else -1) ∧ 0 ≤ upP align x.1) := Lib.hid (fun x hv => ⟨rfl, by have := (upP_ok (a := x.1) ha0).1; have := (vld_iff.1 hv).1; omega⟩)
    clear hR' HL hPE hpw h0 hu hc hn hlen hvl
    go_enter Try.func100, Try.ntmps100
    go_wp2_with fail
    refine HC.out.mono ?_
    rintro e w1 ⟨rfl, hb1⟩
    go_wp2_with fail
    refine (HPW.out _).mono ?_
    rintro e w1 ⟨rfl, rfl⟩
    go_wp2_with fail
    clear HC HPW
    go_loopw [11, 12] (fun fd i wr => ∃ (k : Nat) (fo : Int), k ≤ n ∧ i = .int .i64 k ∧ fd = .int .i64 fo ∧ Hid (FoundR us pages align best k fo) ∧ (fo = -1 ∨ ∃ f : Nat, f < k ∧ fo = f) ∧ Below w.heap.size w wr) (fun _ i _ => n - (intOf i).toNat)
    case atStart => exact ⟨0, -1, by omega, rfl, rfl, Lib.hid (.inl ⟨rfl, by simp [placesF]⟩), .inl rfl, hb1⟩
    case round =>
      clear hb1
      obtain ⟨k, fo, hk, rfl, rfl, hF, hfo, hB⟩ := hrel
      by_cases hlt : k < n
      · have hlt' : decide ((k : Int) < (n : Int)) = true := by simpa using hlt
        have hru := hr.on hB
        obtain ⟨b, o, rfl, hbl, hc, hd⟩ := RU.at_' hru (k := k) (by have := hn'.out; omega)
        have hvx := hvat.out k hlt
        have hPk := Lib.hid (HPl.out _ hvx)
        have hupk := hup.out _ hvx
        have hkl : Hid (k < us.length) := Lib.hid (by have := hn'.out; omega)
        have hw1024 := (vld_iff.1 hvx).2.2.2
        have hx0 := (vld_iff.1 hvx).1
        have hN := Lib.hid (fun (h : ¬ upP align (us.getD k (0,0)).1 + pages ≤ (us.getD k (0,0)).1 + (us.getD k (0,0)).2) => found_none hkl.out hF.out h)
        have hFi := Lib.hid (fun (hneg : fo < 0) (h : upP align (us.getD k (0,0)).1 + pages ≤ (us.getD k (0,0)).1 + (us.getD k (0,0)).2) => found_first hkl.out hF.out hneg (by omega) h)
        have hKe := Lib.hid (fun (hb : best = false) (hneg : ¬ fo < 0) (h : upP align (us.getD k (0,0)).1 + pages ≤ (us.getD k (0,0)).1 + (us.getD k (0,0)).2) => found_keep (found := fo) hkl.out (by rw [← hb]; exact hF.out) hneg h)
        have hBe := Lib.hid (fun (f : Nat) (hb : best = true) (hf : fo = f) (h : upP align (us.getD k (0,0)).1 + pages ≤ (us.getD k (0,0)).1 + (us.getD k (0,0)).2) => found_better (f := f) hkl.out (by rw [← hb, ← hf]; exact hF.out) h)
        generalize hx : us.getD k (0,0) = x at hc hd hvx hPk hupk hw1024 hx0 hN hFi hKe hBe
        clear hx
        obtain ⟨xa, xb⟩ := x
        dsimp only at hc hd hPk hupk hN hFi hKe hBe
        generalize placeR pages align (xa, xb) = P at *
        generalize upP align xa = U at *
        have q1 := fun z : Ext wr => z.cell hc
        have q2 := fun z : Ext wr => z.cell hd
        have CK : Hid (∀ z : Ext wr, Calls Try.prog 116 #[.agg #[.int .i64 xa, .int .i64 xb], .int .i64 pages, .int .i64 align] z.w fun e w'' => e = .returned (.int .i64 P) ∧ ∃ t : Ext wr, w'' = t.w) := Lib.hid (fun z => Ext.call (hPk.out _))
        by_cases hfit : U + pages ≤ xa + xb
        · have hP0 : decide (0 ≤ P) = true := by have := hupk.1; rw [if_pos hfit] at this; simp; omega
          by_cases hneg : fo < 0
          · have hneg' : decide (fo < 0) = true := by simpa using hneg
            have hF2 := Lib.hid (hFi.out hneg hfit)
            go_upto_region 10 with fail
            refine region_ext (by kernel_rfl) (by kernel_rfl) ?_
            repeat (go_big_quiet_step ((go_at_call 116; exact CK.out _)))
            refine wpQuiet_nil ?_
            rintro wQ ⟨⟨_, hwQ⟩, rfl⟩
            have hBQ := hB.trans (hwQ.mono hB.size)
            go_wp2_with fail
            go_roundw
            case rel => exact ⟨k + 1, (k : Int), by omega, by go_num, rfl, hF2, (.inr ⟨k, by omega, rfl⟩), hBQ⟩
            case measure => simp [intOf]; omega
          · have hneg' : decide (fo < 0) = false := by simpa using hneg
            obtain ⟨f, hfk, rfl⟩ : ∃ f : Nat, f < k ∧ fo = f := by rcases hfo with h | h; omega; exact h
            cases best with
            | false =>
              have hF2 := Lib.hid (hKe.out rfl hneg hfit)
              go_upto_region 10 with fail
              refine region_ext (by kernel_rfl) (by kernel_rfl) ?_
              repeat (go_big_quiet_step ((go_at_call 116; exact CK.out _)))
              refine wpQuiet_nil ?_
              rintro wQ ⟨⟨_, hwQ⟩, rfl⟩
              have hBQ := hB.trans (hwQ.mono hB.size)
              go_wp2_with fail
              go_roundw
              case rel => exact ⟨k + 1, (f : Int), by omega, by go_num, rfl, hF2, (.inr ⟨f, by omega, rfl⟩), hBQ⟩
              case measure => simp [intOf]; omega
            | true =>
              obtain ⟨b', o', had, hbl2, hc2, hd2⟩ := RU.at_' hru (k := f) (by have := hn'.out; omega)
              obtain ⟨rfl, rfl⟩ : b = b' ∧ o = o' := by simpa using had
              clear had
              have hF2 := Lib.hid (hBe.out f rfl rfl hfit)
              generalize us.getD f (0,0) = y at hc2 hd2 hF2
              obtain ⟨ya, yb⟩ := y
              dsimp only at hc2 hd2 hF2
              have q3 := fun z : Ext wr => z.cell hd2
              by_cases hlt2 : xb < yb
              · have hlt2' : decide (xb < yb) = true := by simpa using hlt2
                have hF3 : Hid (FoundR us pages align true (k + 1) k) := Lib.hid (by have := hF2.out; rwa [if_pos hlt2] at this)
                go_upto_region 10 with fail
                refine region_ext (by kernel_rfl) (by kernel_rfl) ?_
                repeat (go_big_quiet_step ((go_at_call 116; exact CK.out _)))
                refine wpQuiet_nil ?_
                rintro wQ ⟨⟨_, hwQ⟩, rfl⟩
                have hBQ := hB.trans (hwQ.mono hB.size)
                go_wp2_with fail
                go_roundw
                case rel => exact ⟨k + 1, (k : Int), by omega, by go_num, rfl, hF3, (.inr ⟨k, by omega, rfl⟩), hBQ⟩
                case measure => simp [intOf]; omega
              · have hlt2' : decide (xb < yb) = false := by simpa using hlt2
                have hF3 : Hid (FoundR us pages align true (k + 1) f) := Lib.hid (by have := hF2.out; rwa [if_neg hlt2] at this)
                go_upto_region 10 with fail
                refine region_ext (by kernel_rfl) (by kernel_rfl) ?_
                repeat (go_big_quiet_step ((go_at_call 116; exact CK.out _)))
                refine wpQuiet_nil ?_
                rintro wQ ⟨⟨_, hwQ⟩, rfl⟩
                have hBQ := hB.trans (hwQ.mono hB.size)
                go_wp2_with fail
                go_roundw
                case rel => exact ⟨k + 1, (f : Int), by omega, by go_num, rfl, hF3, (.inr ⟨f, by omega, rfl⟩), hBQ⟩
                case measure => simp [intOf]; omega
        · have hP0 : decide (0 ≤ P) = false := by have := hupk.1; rw [if_neg hfit] at this; simp; omega
          have hF2 := Lib.hid (hN.out hfit)
          go_upto_region 10 with fail
          refine region_ext (by kernel_rfl) (by kernel_rfl) ?_
          repeat (go_big_quiet_step ((go_at_call 116; exact CK.out _)))
          refine wpQuiet_nil ?_
          rintro wQ ⟨⟨_, hwQ⟩, rfl⟩
          have hBQ := hB.trans (hwQ.mono hB.size)
          go_wp2_with fail
          go_roundw
          case rel => exact ⟨k + 1, fo, by omega, by go_num, rfl, hF2, (by rcases hfo with h | ⟨f, h1, h2⟩; exact .inl h; exact .inr ⟨f, by omega, h2⟩), hBQ⟩
          case measure => simp [intOf]; omega
      · have hlt' : decide ((k : Int) < (n : Int)) = false := by simp; omega
        have hkl : k = us.length := by have := hn'.out; omega
        by_cases hneg : fo < 0
        · have hneg' : decide (fo < 0) = true := by simpa using hneg
          have hRx : Hid (R = (0, 4)) := Lib.hid (HNone.out fo (by rw [← hkl]; exact hF.out) hneg)
          go_wp2_with fail
          go_ret2
          rw [hRx.out]
          exact ⟨rfl, hB⟩
        · have hneg' : decide (fo < 0) = false := by simpa using hneg
          obtain ⟨f, hfk, rfl⟩ : ∃ f : Nat, f < k ∧ fo = f := by rcases hfo with h | h; omega; exact h
          have hRx := Lib.hid (HSome.out f (by rw [← hkl]; exact hF.out)).2
          have hru := hr.on hB
          obtain ⟨b, o, rfl, hbl, hc, hd⟩ := RU.at_' hru (k := f) (by have := hn'.out; omega)
          have hPk := Lib.hid (HPl.out _ (hvat.out f (by omega)))
          generalize us.getD f (0,0) = x at hc hd hPk hRx
          obtain ⟨xa, xb⟩ := x
          dsimp only at hc hd hPk
          generalize placeR pages align (xa, xb) = P at *
          go_wp2_with fail
          refine (hPk.out _).mono ?_
          rintro e w2 ⟨rfl, hb2⟩
          go_wp2_with fail
          go_ret2
          rw [hRx.out]
          exact ⟨rfl, hB.trans (hb2.mono hB.size)⟩

theorem rFirst_any (A : Option Addr) (n cap : Nat) (us : List Sp) (pages align : Int) (w : World) (hn : us.length = n) (hm : n ≤ maxLen) (hr : RU w w.heap.size A us) :
    Calls Try.prog 57 #[.slice A n cap, .int .i64 pages, .int .i64 align] w fun e w' => e = .returned (.tuple #[.int .i64 (firstF us pages align).1, .int .i64 (firstF us pages align).2]) ∧ Below w.heap.size w w' := by
  have h := find_any A n cap us pages align false w hn hm hr
  have e : findF us pages align false = firstF us pages align := by rw [findF]; rfl
  rw [e] at h
  have H := Lib.hid h
  clear h e hn hr
  generalize firstF us pages align = R at *
  go_enter Try.func57, Try.ntmps57
  go_wp2_with fail
  refine H.out.mono ?_
  rintro e w1 ⟨rfl, hb1⟩
  go_wp2_with fail
  go_ret2
  exact ⟨rfl, hb1⟩
theorem rBest_any (A : Option Addr) (n cap : Nat) (us : List Sp) (pages align : Int) (w : World) (hn : us.length = n) (hm : n ≤ maxLen) (hr : RU w w.heap.size A us) :
    Calls Try.prog 59 #[.slice A n cap, .int .i64 pages, .int .i64 align] w fun e w' => e = .returned (.tuple #[.int .i64 (bestF us pages align).1, .int .i64 (bestF us pages align).2]) ∧ Below w.heap.size w w' := by
  have h := find_any A n cap us pages align true w hn hm hr
  have e : findF us pages align true = bestF us pages align := by rw [findF]; rfl
  rw [e] at h
  have H := Lib.hid h
  clear h e hn hr
  generalize bestF us pages align = R at *
  go_enter Try.func59, Try.ntmps59
  go_wp2_with fail
  refine H.out.mono ?_
  rintro e w1 ⟨rfl, hb1⟩
  go_wp2_with fail
  go_ret2
  exact ⟨rfl, hb1⟩

set_option maxRecDepth 100000 in
set_option maxHeartbeats 1600000 in
theorem placesLaw_any (A : Option Addr) (n cap : Nat) (us : List Sp) (pages align : Int) (w : World) (hn : us.length = n) (hm : n ≤ maxLen) (hr : RU w w.heap.size A us) :
    Calls Try.prog 13 #[.slice A n cap, .int .i64 pages, .int .i64 align] w fun e w' => e = .returned (.bool true) ∧ Below w.heap.size w w' := by
  have HL := Lib.hid (fun W => long_any A n cap W hm)
  by_cases hlen : 2100 < n
  · rw [decide_eq_true hlen] at HL
    go_enter Try.func13, Try.ntmps13
    go_wp2_with fail
    refine (HL.out _).mono ?_
    rintro e w1 ⟨rfl, rfl⟩
    go_wp2_with fail
    refine (awake3_any _).mono ?_
    rintro e w2 ⟨rfl, hb2⟩
    go_wp2_with fail
    go_ret
    exact ⟨rfl, hb2⟩
  rw [decide_eq_false hlen] at HL
  have H1 := Lib.hid (fun W h => first_any A n cap us pages align W hn hm h)
  have H2 := Lib.hid (fun W h => rFirst_any A n cap us pages align W hn hm h)
  have H3 := Lib.hid (fun W h => best_any A n cap us pages align W hn hm h)
  have H4 := Lib.hid (fun W h => rBest_any A n cap us pages align W hn hm h)
  generalize firstF us pages align = R1 at *
  generalize bestF us pages align = R2 at *
  obtain ⟨a1, e1⟩ := R1
  obtain ⟨a2, e2⟩ := R2
  simp only at H1 H2 H3 H4
  have x1 : (a1 == a1) = true := by simp
  have x2 : (e1 == e1) = true := by simp
  have x3 : (a2 == a2) = true := by simp
  have x4 : (e2 == e2) = true := by simp
  clear hn hlen
  go_enter Try.func13, Try.ntmps13
  go_wp2_with fail
  refine (HL.out _).mono ?_
  rintro e w0 ⟨rfl, rfl⟩
  go_wp2_with fail
  refine (H1.out _ hr).mono ?_
  rintro e w1 ⟨rfl, hb1⟩
  have r1 := hr.on hb1
  clear H1
  go_wp2_with fail
  refine (H2.out _ r1).mono ?_
  rintro e w2 ⟨rfl, hb2⟩
  have B2 := hb1.trans (hb2.mono hb1.size)
  have r2 := r1.on hb2
  clear H2 r1 hb1 hb2
  go_wp2_with fail
  refine (H3.out _ r2).mono ?_
  rintro e w3 ⟨rfl, hb3⟩
  have B3 := B2.trans (hb3.mono B2.size)
  have r3 := r2.on hb3
  clear H3 r2 B2 hb3
  go_wp2_with fail
  refine (H4.out _ r3).mono ?_
  rintro e w4 ⟨rfl, hb4⟩
  have B4 := B3.trans (hb4.mono B3.size)
  clear H4 r3 B3 hb4
  go_wp2_with fail
  refine (awake3_any _).mono ?_
  rintro e w7 ⟨rfl, hb7⟩
  go_wp2_with fail
  go_ret
  exact ⟨rfl, B4.trans (hb7.mono B4.size)⟩
end Go.Proofs.Ytfmnlpgboolpmaa
