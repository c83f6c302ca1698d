/- Walks: bits.OnesCount; what is wrong with what is looked for; the function value that goes through places. -/
import Derived.Test.YtfmnlpgboolpmaaSWalkC
import Derived.Test.YtfmnlpgboolpmaaSSpecC
namespace Go.Proofs.Ytfmnlpgboolpmaa
open Go Go.Proofs Go.RowKit Go.Pol Go.Shelf
attribute [local go_sem] Oper.semAt_some Go.Pol.wide_fn Go.Pol.wide_depth Go.Pol.wide_fn' Go.Pol.wide_depth'

set_option maxRecDepth 100000 in
theorem ones64_any (x : Nat) (hx : x ≤ 1024) (w : World) : Calls Try.prog 120 #[.int .u64 (x : Int)] w fun e w' => ∃ r : Int, e = .returned (.int .i64 r) ∧ w' = w ∧ (r != 1) = !isPow x := by
  go_enter Try.func120, Try.ntmps120
  go_wp2_with fail
  go_ret
  refine ⟨_, rfl, rfl, ?_⟩
  clear w
  revert x
  decide +kernel
theorem ones_any (x : Nat) (hx : x ≤ 1024) (w : World) : Calls Try.prog 113 #[.int .u64 (x : Int)] w fun e w' => ∃ r : Int, e = .returned (.int .i64 r) ∧ w' = w ∧ (r != 1) = !isPow x := by
  have H := Lib.hid (ones64_any x hx w)
  go_enter Try.func113, Try.ntmps113
  go_wp2_with fail
  refine H.out.mono ?_
  rintro e w1 ⟨r, rfl, rfl, hr⟩
  go_wp2_with fail
  go_ret
  exact ⟨r, rfl, rfl, hr⟩

set_option maxHeartbeats 800000 in
theorem place_any (A : Option Addr) (n cap : Nat) (us : List Sp) (pages align : Int) (w : World) (hn : us.length = n) (hm : n ≤ maxLen) (hr : RU w w.heap.size A us) :
    Calls Try.prog 98 #[.slice A n cap, .int .i64 pages, .int .i64 align] w fun e w' => e = .returned (.int .i64 (placeE us pages align)) ∧ Below w.heap.size w w' := by
  have HC := Lib.hid (spCheck_any A n cap us w hn hm hr)
  obtain ⟨R, hR⟩ : ∃ R, placeE us pages align = R := ⟨_, rfl⟩
  rw [hR]
  have hR' := Lib.hid hR
  clear hR hr hn
  unfold placeE at hR'
  by_cases hc : chkS us = 0
  case neg =>
    rw [if_neg hc] at hR'
    generalize chkS us = er at *
    have hc' : (er != 0) = true := by simpa using hc
    clear hc
    go_enter Try.func98, Try.ntmps98
    go_wp2_with fail
    refine HC.out.mono ?_
    rintro e w1 ⟨rfl, hb1⟩
    go_wp2_with fail
    go_ret
    exact ⟨ret_int hR'.out, hb1⟩
  rw [if_pos hc] at hR'
  rw [hc] at HC
  clear hc
  by_cases h1 : pages < 1
  · have h1' : decide (pages < 1) = true := by simpa using h1
    have hE : Hid (R = 2) := Lib.hid (by rw [← hR'.out, if_pos]; simp [badPlace]; omega)
    clear hR'
    go_enter Try.func98, Try.ntmps98
    go_wp2_with fail
    refine HC.out.mono ?_
    rintro e w1 ⟨rfl, hb1⟩
    go_wp2_with fail
    go_ret
    exact ⟨ret_int hE.out.symm, hb1⟩
  have h1' : decide (pages < 1) = false := by simpa using h1
  by_cases h2 : 1024 < pages
  · have h2' : decide (1024 < pages) = true := by simpa using h2
    have hE : Hid (R = 2) := Lib.hid (by rw [← hR'.out, if_pos]; simp [badPlace]; omega)
    clear hR'
    go_enter Try.func98, Try.ntmps98
    go_wp2_with fail
    refine HC.out.mono ?_
    rintro e w1 ⟨rfl, hb1⟩
    go_wp2_with fail
    go_ret
    exact ⟨ret_int hE.out.symm, hb1⟩
  have h2' : decide (1024 < pages) = false := by simpa using h2
  by_cases h3 : align < 1
  · have h3' : decide (align < 1) = true := by simpa using h3
    have hE : Hid (R = 2) := Lib.hid (by
      rw [← hR'.out, if_pos]
      have : align.toNat = 0 := by omega
      rw [badPlace, this, show isPow 0 = false from rfl, Bool.and_false]; rfl)
    clear hR'
    go_enter Try.func98, Try.ntmps98
    go_wp2_with fail
    refine HC.out.mono ?_
    rintro e w1 ⟨rfl, hb1⟩
    go_wp2_with fail
    go_ret
    exact ⟨ret_int hE.out.symm, hb1⟩
  have h3' : decide (align < 1) = false := by simpa using h3
  by_cases h4 : 1024 < align
  · have h4' : decide (1024 < align) = true := by simpa using h4
    have hE : Hid (R = 2) := Lib.hid (by
      rw [← hR'.out, if_pos]
      have : isPow align.toNat = false := by
        rw [Bool.eq_false_iff]; intro h
        have := isPow_le h
        omega
      rw [badPlace, this, Bool.and_false]; rfl)
    clear hR'
    go_enter Try.func98, Try.ntmps98
    go_wp2_with fail
    refine HC.out.mono ?_
    rintro e w1 ⟨rfl, hb1⟩
    go_wp2_with fail
    go_ret
    exact ⟨ret_int hE.out.symm, hb1⟩
  have h4' : decide (1024 < align) = false := by simpa using h4
  obtain ⟨al, rfl⟩ : ∃ al : Nat, align = al := ⟨align.toNat, by omega⟩
  have hE : Hid (R = if isPow al = true then 0 else 2) := Lib.hid (by
    rw [← hR'.out, badPlace, decide_eq_true (show 1 ≤ pages by omega), decide_eq_true (show pages ≤ 1024 by omega), Int.toNat_natCast]
    cases isPow al <;> rfl)
  have HO := Lib.hid (fun W => ones_any al (by omega) W)
  clear hR'
  generalize isPow al = P at *
  go_enter Try.func98, Try.ntmps98
  go_wp2_with fail
  refine HC.out.mono ?_
  rintro e w1 ⟨rfl, hb1⟩
  go_wp2_with fail
  refine (HO.out _).mono ?_
  rintro e w2 ⟨r, rfl, rfl, hr⟩
  cases P with
  | true =>
    simp only [Bool.not_true] at hr
    go_wp2_with fail
    go_ret
    exact ⟨ret_int hE.out.symm, hb1⟩
  | false =>
    simp only [Bool.not_false] at hr
    go_wp2_with fail
    go_ret
    exact ⟨ret_int hE.out.symm, hb1⟩

abbrev plV (x : Int × Sp) : Array Value := #[.int .i64 x.1, .agg #[.int .i64 x.2.1, .int .i64 x.2.2]]
set_option maxRecDepth 100000 in
set_option maxHeartbeats 1600000 in
theorem places1_seq (A : Option Addr) (n cap : Nat) (us : List Sp) (pages align : Int) (B1 B2 B3 : Nat) (K : Nat → Prop) (w : World) (hK1 : K B1) (hK2 : K B2) (hK3 : K B3)
    (k1 : Blk w B1 36 #[.slice A n cap]) (k2 : Blk w B2 3 #[.int .i64 align]) (k3 : Blk w B3 3 #[.int .i64 pages]) (hn : us.length = n) (hr : RU w w.heap.size A us) (hown : us ≠ [] → ∀ b o, A = some ⟨b, o, none⟩ → K b)
    (hu : Go.Pol.Can us) (hp : 1 ≤ pages ∧ pages ≤ 1024) (ha : 1 ≤ align ∧ align ≤ 1024) :
    SeqX Try.prog 114 #[.pointer (some ⟨B1, 0, none⟩), .pointer (some ⟨B2, 0, none⟩), .pointer (some ⟨B3, 0, none⟩)] plV (fun _ => False) K (placesF us pages align) w := by
  intro m l J Jx W hW hJ hJx hnew hY h0
  have kB1 := hW.blk k1 (by simpa using hK1)
  have kB2 := hW.blk k2 (by simpa using hK2)
  have kB3 := hW.blk k3 (by simpa using hK3)
  have far_ru : ∀ {W1 W2 : World} {N : Nat} {T : Nat → Prop}, RU W1 N A us → Far T W1 W2 → (∀ k, K k → ¬ T k) → RU W2 N A us := fun h hf hT => by
    by_cases h0 : us = []
    · subst h0; exact RU.nil
    · exact hf.ru h (fun b o e => hT b (hown h0 b o e))
  have hrW : RU W W.heap.size A us := (far_ru hr hW (fun k hk h => h hk)).more hW.size
  have hlen := hu.len
  have hvl := Lib.hid hu.1
  have hn' := Lib.hid hn
  have hn512 : n ≤ 512 := by omega
  clear hu hn hr
  refine callsIn_of_wp Try.func114 rfl trivial ?_ rfl
  simp only [Try.ntmps114, List.size_toArray, List.length_cons, List.length_nil, Nat.reduceAdd, Nat.reduceSub, Array.replicate_succ, Array.replicate_zero, List.push_toArray, List.append_toArray, List.nil_append, List.cons_append]
  have c1 := kB1.cell
  gi_wp2_with fail
  gi_loopw [10] (fun i wr => ∃ k : Nat, k ≤ n ∧ i = .int .i64 k ∧ W.heap.size ≤ wr.heap.size ∧ J (fun _ => False) (placesF (us.take k) pages align) wr ∧ Blk wr B1 36 #[.slice A n cap] ∧ Blk wr B2 3 #[.int .i64 align] ∧ Blk wr B3 3 #[.int .i64 pages] ∧ RU wr W.heap.size A us) (fun i _ => n - (intOf i).toNat)
  case atStart => exact ⟨0, by omega, rfl, Nat.le_refl _, h0, kB1, kB2, kB3, hrW⟩
  case round =>
    clear h0 kB1 kB2 kB3 hrW c1
    obtain ⟨k, hk, rfl, hwz, hJs, kB1, kB2, kB3, hru⟩ := hrel
    by_cases hlt : k < n
    · have hlt' : decide ((k : Int) < (n : Int)) = true := by simpa using hlt
      obtain ⟨b, o, rfl, hbl, hc, hd⟩ := RU.at_' hru (k := k) (by have := hn'.out; omega)
      have hvx := vld_iff.1 (hvl.out (us.getD k (0,0)) (by rw [List.getD_eq_getElem?_getD, List.getElem?_eq_getElem (by have := hn'.out; omega)]; simp))
      have hft := Lib.hid (places_take us pages align k (by have := hn'.out; omega))
      have hfp := Lib.hid (places_pre us pages align (k + 1))
      generalize us.getD k (0,0) = x at *
      obtain ⟨xa, xb⟩ := x
      dsimp only at hc hd hvx
      have kX := Blk.new wr 40 #[.int .i64 xa, .int .i64 xb]
      have hfa : Far (fun _ => False) wr (wr.alloc (.cells #[.int .i64 xa, .int .i64 xb] 40)) := (Far.refl _ wr).alloc _
      have hJ2 := hJ _ _ _ _ hJs (hfa.mono fun _ _ h => h.elim)
      have kB1b := kB1.alloc (.cells #[.int .i64 xa, .int .i64 xb] 40)
      have kB2b := kB2.alloc (.cells #[.int .i64 xa, .int .i64 xb] 40)
      have kB3b := kB3.alloc (.cells #[.int .i64 xa, .int .i64 xb] 40)
      have hrub := far_ru hru hfa (fun _ _ h => h)
      have hszb : W.heap.size ≤ (wr.alloc (.cells #[.int .i64 xa, .int .i64 xb] 40)).heap.size := by simp; omega
      obtain ⟨L0, hL0⟩ : ∃ L0, placesF (us.take k) pages align = L0 := ⟨_, rfl⟩
      have hft' : Hid (placesF (us.take (k + 1)) pages align = L0 ++ (placeX pages align (xa, xb)).toList) := Lib.hid (by rw [hft.out, hL0])
      rw [hL0] at hJ2
      clear hft hL0
      gi_upto_region 3 with fail
      generalize wr.alloc (.cells #[.int .i64 xa, .int .i64 xb] 40) = wa at *
      generalize wr.heap.size = bx at *
      clear hJs kB1 kB2 kB3 hru hfa hc hd hbl hwz
      obtain ⟨q, hq⟩ : ∃ q, (xa + align - 1) / align = q := ⟨_, rfl⟩
      have hdiv : Int.tdiv (xa + align - 1) align = q := by rw [← hq]; exact Int.tdiv_eq_ediv_of_nonneg (by omega)
      have hq0 : 0 ≤ q := by rw [← hq]; exact Int.ediv_nonneg (by omega) (by omega)
      have hq1 : q ≤ xa + align - 1 := by rw [← hq]; exact Int.ediv_le_self _ (by omega)
      obtain ⟨M, hM⟩ : ∃ M, upP align xa = M := ⟨_, rfl⟩
      have hMg := upP_ok (align := align) (a := xa) (by omega)
      rw [hM] at hMg
      have hmul : wrap64 (q * align) = M := by rw [mul_wrap64 _ _ (by omega) (by omega), ← hM, upP, hq]
      have hs0 : (align == 0) = false := by simp; omega
      have hPX : Hid (placeX pages align (xa, xb) = if M + pages ≤ xa + xb then some (M, (xa, xb)) else none) := Lib.hid (by unfold placeX; rw [hM])
      clear hq hM
      have e1 := fun z : Ext wa => (z.blk kX).cell
      have e2 := fun z : Ext wa => (z.blk kB2b).cell
      refine wpIn_wide.2 ?_
      refine region_ext (by kernel_rfl) (by kernel_rfl) ?_
      repeat (go_big_quiet_step (fail))
      refine wpQuiet_nil ?_
      rintro w3 ⟨⟨_, hw3⟩, rfl⟩
      rw [hmul]
      have kX3 := kX.call hw3
      have kB13 := kB1b.call hw3
      have kB23 := kB2b.call hw3
      have kB33 := kB3b.call hw3
      have hru3 := hrub.below (hw3.mono hszb)
      have hJ3 := hJ _ _ wa w3 hJ2 (.of_below hw3)
      have hwz3 := Nat.le_trans hszb hw3.size
      clear kX kB1b kB2b kB3b hrub hJ2 hszb hw3 e1 e2 hmul hdiv
      have e1 := fun z : Ext w3 => (z.blk kX3).cell
      have e3 := fun z : Ext w3 => (z.blk kB33).cell
      have HE : Hid (∀ z : Ext w3, Calls Try.prog 93 #[.agg #[.int .i64 xa, .int .i64 xb]] z.w fun e w'' => e = .returned (.int .i64 (xa + xb)) ∧ ∃ t : Ext w3, w'' = t.w) := Lib.hid (fun z => Ext.call (end_any xa xb _ (by omega) (by omega)))
      by_cases hfit : M + pages ≤ xa + xb
      · have hfit' : decide (M + pages ≤ xa + xb) = true := by simpa using hfit
        gi_upto_region 4 with fail
        refine region_tail_in 10 (by kernel_rfl) (by kernel_rfl) ?_
        simp only [List.take_succ_cons, List.take_zero, List.drop_succ_cons, List.drop_zero]
        repeat (go_big_quiet_step ((go_at_call 93; exact HE.out _)))
        refine wpQuiet_nil ?_
        intro z3
        have hz := z3.le
        have kB14 := kB13.call hz
        have kB24 := kB23.call hz
        have kB34 := kB33.call hz
        have hru4 := hru3.below (hz.mono hwz3)
        have hJ4 := hJ _ _ w3 z3.w hJ3 (.of_below hz)
        have hwz4 := Nat.le_trans hwz3 hz.size
        have hft2 : Hid (placesF (us.take (k + 1)) pages align = L0 ++ [(M, (xa, xb))]) := Lib.hid (by rw [hft'.out, hPX.out, if_pos hfit]; rfl)
        have hpre : Hid (L0 ++ [(M, (xa, xb))] <+: placesF us pages align) := Lib.hid (by rw [← hft2.out]; exact hfp.out)
        obtain ⟨fn, tmps, assign, body, hy, hRd⟩ := hY (m - 1) (fun _ => False) L0 (M, (xa, xb)) z3.w hJ4 (fun k hk => hk.elim) hpre.out
        clear hY e1 e3 HE kX3 kB13 kB23 kB33 hru3 hJ3 hwz3 hfit
        gi_wp2_with fail
        refine hRd.mono ?_
        rintro e W4 (⟨rfl, hJ5, hF5⟩ | ⟨rfl, hJx5⟩)
        · gi_wp2_with fail
          go_roundw
          case rel => exact ⟨k + 1, by omega, by go_num, Nat.le_trans hwz4 hF5.size, by rw [hft2.out]; exact hJ5, hF5.blk kB14 (fun h => h (.inl hK1)), hF5.blk kB24 (fun h => h (.inl hK2)), hF5.blk kB34 (fun h => h (.inl hK3)), far_ru hru4 hF5 (fun k hk h => h (.inl hk))⟩
          case measure => simp [intOf]; omega
        · gi_wp2_with fail
          refine bodyPost_ret (results_none rfl _ _ _) rfl ?_
          exact ⟨⟨_, rfl⟩, .inr ⟨_, L0 ++ [(M, (xa, xb))], hpre.out, hJx5⟩⟩
      · have hfit' : decide (M + pages ≤ xa + xb) = false := by simpa using hfit
        have hft2 : Hid (placesF (us.take (k + 1)) pages align = L0) := Lib.hid (by rw [hft'.out, hPX.out, if_neg hfit]; simp)
        gi_upto_region 4 with fail
        refine wpIn_wide.2 ?_
        refine region_ext (by kernel_rfl) (by kernel_rfl) ?_
        repeat (go_big_quiet_step ((go_at_call 93; exact HE.out _)))
        refine wpQuiet_nil ?_
        rintro w4 ⟨⟨_, hw4⟩, rfl⟩
        have kB14 := kB13.call hw4
        have kB24 := kB23.call hw4
        have kB34 := kB33.call hw4
        have hru4 := hru3.below (hw4.mono hwz3)
        have hJ4 := hJ _ _ w3 w4 hJ3 (.of_below hw4)
        gi_wp2_with fail
        go_roundw
        case rel => exact ⟨k + 1, by omega, by go_num, Nat.le_trans hwz3 hw4.size, by rw [hft2.out]; exact hJ4, kB14, kB24, kB34, hru4⟩
        case measure => simp [intOf]; omega
    · have hlt' : decide ((k : Int) < (n : Int)) = false := by simp; omega
      have hE : Hid (placesF (us.take k) pages align = placesF us pages align) := Lib.hid (by rw [List.take_of_length_le (by have := hn'.out; omega)])
      gi_wp2_with fail
      go_end0
      exact ⟨⟨_, rfl⟩, .inl ⟨_, by rw [← hE.out]; exact hJs⟩⟩
end Go.Proofs.Ytfmnlpgboolpmaa
