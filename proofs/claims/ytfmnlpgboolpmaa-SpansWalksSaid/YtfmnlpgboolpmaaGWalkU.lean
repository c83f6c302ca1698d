/- Walks: the program's Has, the check of two sets, and Meet. -/
import Derived.Test.YtfmnlpgboolpmaaGWalkO
import Derived.Test.YtfmnlpgboolpmaaGWalkE
namespace Go.Proofs.Ytfmnlpgboolpmaa
open Go Go.Proofs Go.RowKit Go.Pol

set_option maxHeartbeats 800000 in
theorem has_any (A : Option Addr) (n cap : Nat) (us : List Sp) (p q : Int) (w : World) (hn : us.length = n) (hm : n ≤ cap) (hc : cap ≤ maxLen) (hr : RU w w.heap.size A us) :
    Calls Try.prog 37 #[.slice A n cap, .agg #[.int .i64 p, .int .i64 q]] w fun e w' => e = .returned (.tuple #[.bool (decide (askS us (p, q) = 0) && (gapsF us (p, q)).isEmpty), .int .i64 (askS us (p, q))]) ∧ Below w.heap.size w w' := by
  have HA := Lib.hid (fun W (h : RU W W.heap.size A us) => ask_any A n cap us p q W hn (Nat.le_trans hm hc) h)
  have hb0 := (Below.refl w.heap.size w).alloc (Nat.le_refl _) (.cells #[.int .i64 p, .int .i64 q] 40)
  have k0 := Blk.new w 40 #[.int .i64 p, .int .i64 q]
  have c0 := k0.cell
  have hr0 := hr.on ((Below.refl w.heap.size w).alloc (Nat.le_refl _) (.cells #[.int .i64 p, .int .i64 q] 40))
  by_cases hz : askS us (p, q) = 0
  · have hz' := hz
    unfold askS at hz'
    have hC : chkS us = 0 := by
      by_cases h : chkS us = 0
      · exact h
      · rw [if_neg h] at hz'; exact hz'
    rw [if_pos hC] at hz'
    have hv : vld (p, q) = true := by
      by_cases h : vld (p, q) = true
      · exact h
      · rw [if_neg h] at hz'; cases hz'
    have HG := Lib.hid (fun W (h : RU W W.heap.size A us) => gaps_any A n cap us p q W hn hm hc h (chkS_zero.1 hC) hv)
    rw [hz] at HA ⊢
    generalize hG : gapsF us (p, q) = G at *
    obtain ⟨gl, hgl⟩ : ∃ gl, G.length = gl := ⟨_, rfl⟩
    have hE : Hid (G.isEmpty = ((gl : Int) == 0)) := Lib.hid (by rw [← hgl]; cases G <;> simp; omega)
    rw [hgl] at HG
    clear hz hz' hC hv hgl hG
    go_enter Try.func37, Try.ntmps37
    go_wp2_with fail
    refine (HA.out _ hr0).mono ?_
    rintro e w1 ⟨rfl, hb1⟩
    have B1 := hb0.trans (hb1.mono hb0.size)
    have k1 := k0.call hb1
    have z1 := k1.cell
    have r1 := hr0.on hb1
    go_wp2_with fail
    refine (HG.out _ r1).mono ?_
    rintro e w2 ⟨A', cap', rfl, _, _, _, _, hb2⟩
    have B2 := B1.trans (hb2.mono B1.size)
    go_wp2_with fail
    go_ret2
    exact ⟨by rw [hE.out]; rfl, B2⟩
  · obtain ⟨er, her⟩ : ∃ er, askS us (p, q) = er := ⟨_, rfl⟩
    rw [her] at HA hz ⊢
    have hz' : (er != 0) = true := by simpa using hz
    have hz2 : decide (er = 0) = false := by simpa using hz
    clear her hz
    go_enter Try.func37, Try.ntmps37
    go_wp2_with fail
    refine (HA.out _ hr0).mono ?_
    rintro e w1 ⟨rfl, hb1⟩
    have B1 := hb0.trans (hb1.mono hb0.size)
    go_wp2_with fail
    go_ret2
    exact ⟨by rw [hz2]; rfl, B1⟩

set_option maxHeartbeats 800000 in
theorem check2_any (A1 A2 : Option Addr) (n1 c1 n2 c2 : Nat) (us vs : List Sp) (B : Nat) (w : World) (hn1 : us.length = n1) (hm1 : n1 ≤ maxLen) (hr1 : RU w w.heap.size A1 us) (hn2 : vs.length = n2) (hm2 : n2 ≤ maxLen) (hr2 : RU w w.heap.size A2 vs)
    (kB : Blk w B 36 #[.slice A1 n1 c1, .slice A2 n2 c2]) :
    Calls Try.prog 80 #[.slice (some ⟨B, 0, none⟩) 2 2] w fun e w' => e = .returned (.int .i64 (if chkS us = 0 then chkS vs else chkS us)) ∧ Below w.heap.size w w' := by
  have H1 := Lib.hid (fun W (h : RU W W.heap.size A1 us) => spCheck_any A1 n1 c1 us W hn1 hm1 h)
  have H2 := Lib.hid (fun W (h : RU W W.heap.size A2 vs) => spCheck_any A2 n2 c2 vs W hn2 hm2 h)
  have hb0 := Below.refl w.heap.size w
  generalize chkS us = er1 at *
  generalize chkS vs = er2 at *
  obtain ⟨R, hR0⟩ : ∃ R : Int, (if er1 = 0 then er2 else er1) = R := ⟨_, rfl⟩
  rw [hR0]
  have hR := Lib.hid hR0
  clear hR0
  go_enter Try.func80, Try.ntmps80
  go_wp2_with fail
  go_loopw [8] (fun i wr => ∃ k : Nat, k ≤ 2 ∧ i = .int .i64 k ∧ Below w.heap.size w wr ∧ Hid ((1 ≤ k → er1 = 0) ∧ (2 ≤ k → er2 = 0))) (fun i _ => 2 - (intOf i).toNat)
  case atStart => exact ⟨0, by omega, rfl, hb0, Lib.hid ⟨fun h => by omega, fun h => by omega⟩⟩
  case round =>
    obtain ⟨k, hk, rfl, hB, hH⟩ := hrel
    have kW := kB.call hB
    have z0 := kW.cell
    have ra := hr1.on hB
    have rb := hr2.on hB
    rcases (show k = 0 ∨ k = 1 ∨ k = 2 by omega) with rfl | rfl | rfl
    · go_wp2_with fail
      refine (H1.out _ ra).mono ?_
      rintro e w1 ⟨rfl, hb1⟩
      have B1 := hB.trans (hb1.mono hB.size)
      by_cases he : er1 = 0
      · have he' : (er1 != 0) = false := by simpa using he
        have hH2 : Hid ((1 ≤ 1 → er1 = 0) ∧ (2 ≤ 1 → er2 = 0)) := Lib.hid ⟨fun _ => he, fun h => by omega⟩
        clear he
        go_wp2_with fail
        go_roundw
        case rel => exact ⟨1, by omega, by go_num, B1, hH2⟩
        case measure => simp [intOf]
      · have he' : (er1 != 0) = true := by simpa using he
        have hE : Hid (R = er1) := Lib.hid (by rw [← hR.out, if_neg he])
        clear he
        go_wp2_with fail
        go_ret
        exact ⟨ret_int hE.out.symm, B1⟩
    · have hz1 := Lib.hid (hH.out.1 (by omega))
      go_wp2_with fail
      refine (H2.out _ rb).mono ?_
      rintro e w1 ⟨rfl, hb1⟩
      have B1 := hB.trans (hb1.mono hB.size)
      by_cases he : er2 = 0
      · have he' : (er2 != 0) = false := by simpa using he
        have hH2 : Hid ((1 ≤ 2 → er1 = 0) ∧ (2 ≤ 2 → er2 = 0)) := Lib.hid ⟨fun _ => hz1.out, fun _ => he⟩
        clear he
        go_wp2_with fail
        go_roundw
        case rel => exact ⟨2, by omega, by go_num, B1, hH2⟩
        case measure => simp [intOf]
      · have he' : (er2 != 0) = true := by simpa using he
        have hE : Hid (R = er2) := Lib.hid (by rw [← hR.out, if_pos hz1.out])
        clear he
        go_wp2_with fail
        go_ret
        exact ⟨ret_int hE.out.symm, B1⟩
    · have hE : Hid (R = 0) := Lib.hid (by rw [← hR.out, if_pos (hH.out.1 (by omega)), hH.out.2 (by omega)])
      go_wp2_with fail
      go_ret
      exact ⟨ret_int hE.out.symm, hB⟩

theorem commonN_len : ∀ (k : Nat) (a b : List Sp), (commonN k a b).length ≤ k
  | 0, a, b => by simp [commonN]
  | k + 1, a, b => by
    cases a with
    | nil => rw [commonN_nil]; simp
    | cons x a =>
      cases b with
      | nil => rw [commonN_nil']; simp
      | cons y b =>
        have h1 := commonN_len k a (y :: b)
        have h2 := commonN_len k (x :: a) b
        rw [commonN, List.length_append]
        split <;> split <;> simp only [List.length_cons, List.length_nil] <;> omega
theorem commonF_len (a b : List Sp) : (commonF a b).length ≤ a.length + b.length := commonN_len _ a b
theorem ru_lt {w : World} {B : Nat} {A : Option Addr} {us : List Sp} (h : RU w B A us) (h0 : us ≠ []) {b o : Nat} (e : A = some ⟨b, o, none⟩) : b < B := by
  obtain ⟨b', o', e', hb, _⟩ := RU.at_' h (k := 0) (by cases us with | nil => exact absurd rfl h0 | cons => simp)
  rw [e] at e'
  cases e'
  exact hb

set_option maxHeartbeats 800000 in
theorem meet_any (A1 A2 : Option Addr) (n1 c1 n2 c2 : Nat) (us vs : List Sp) (w : World) (hn1 : us.length = n1) (hm1 : n1 ≤ c1) (hc1 : c1 ≤ maxLen) (hr1 : RU w w.heap.size A1 us) (hn2 : vs.length = n2) (hm2 : n2 ≤ c2) (hc2 : c2 ≤ maxLen) (hr2 : RU w w.heap.size A2 vs) :
    Calls Try.prog 35 #[.slice A1 n1 c1, .slice A2 n2 c2] w (SpansR w (if chkS us = 0 ∧ chkS vs = 0 then commonF us vs else []) (if chkS us = 0 then chkS vs else chkS us)) := by
  have hb0 := (Below.refl w.heap.size w).alloc (Nat.le_refl _) (.cells #[.slice A1 n1 c1, .slice A2 n2 c2] 36)
  have k0 := Blk.new w 36 #[.slice A1 n1 c1, .slice A2 n2 c2]
  have r1 := hr1.on ((Below.refl w.heap.size w).alloc (Nat.le_refl _) (.cells #[.slice A1 n1 c1, .slice A2 n2 c2] 36))
  have r2 := hr2.on ((Below.refl w.heap.size w).alloc (Nat.le_refl _) (.cells #[.slice A1 n1 c1, .slice A2 n2 c2] 36))
  have HC := Lib.hid (check2_any A1 A2 n1 c1 n2 c2 us vs w.heap.size _ hn1 (Nat.le_trans hm1 hc1) r1 hn2 (Nat.le_trans hm2 hc2) r2 k0)
  clear hr1 hr2
  by_cases hz : chkS us = 0 ∧ chkS vs = 0
  · obtain ⟨hz1, hz2⟩ := hz
    rw [if_pos ⟨hz1, hz2⟩, if_pos hz1, hz2]
    rw [if_pos hz1, hz2] at HC
    have hU := chkS_zero.1 hz1
    have hV := chkS_zero.1 hz2
    have hlen := commonF_len us vs
    have hl1 := hU.len
    have hl2 := hV.len
    clear hz1 hz2
    go_enter Try.func35, Try.ntmps35
    go_wp2_with fail
    refine HC.out.mono ?_
    rintro e w1 ⟨rfl, hb1⟩
    have B1 := hb0.trans (hb1.mono hb0.size)
    have r3 := r1.on hb1
    have r4 := r2.on hb1
    clear HC k0 r1 r2 hb1 hb0
    have kX : Blk ((w1.alloc (.cells #[.slice A1 n1 c1] 36)).alloc (.cells #[.slice A2 n2 c2] 36)) w1.heap.size 36 #[.slice A1 n1 c1] := (Blk.new _ _ _).alloc _
    have kY : Blk ((w1.alloc (.cells #[.slice A1 n1 c1] 36)).alloc (.cells #[.slice A2 n2 c2] 36)) (w1.heap.size + 1) 36 #[.slice A2 n2 c2] := by
      have := Blk.new (w1.alloc (.cells #[.slice A1 n1 c1] 36)) 36 #[.slice A2 n2 c2]
      rw [World.size_alloc] at this; exact this
    have hbX : Below w1.heap.size w1 ((w1.alloc (.cells #[.slice A1 n1 c1] 36)).alloc (.cells #[.slice A2 n2 c2] 36)) := ((Below.refl w1.heap.size w1).alloc (Nat.le_refl _) _).alloc (by simp) _
    have LA : Left _ w1.heap.size (fun k => k < w1.heap.size + 2) w1.heap.size (w1.heap.size + 1) A1 n1 c1 us := ⟨hn1, hm1, by unfold maxLen at hc1; omega, r3.below hbX, fun h b o e => by have := ru_lt r3 h e; exact ⟨by omega, by omega, by omega⟩, hU.1⟩
    have LB : Left _ w1.heap.size (fun k => k < w1.heap.size + 2) w1.heap.size (w1.heap.size + 1) A2 n2 c2 vs := ⟨hn2, hm2, by unfold maxLen at hc2; omega, r4.below hbX, fun h b o e => by have := ru_lt r4 h e; exact ⟨by omega, by omega, by omega⟩, hV.1⟩
    have HS := Lib.hid (common1_seq A1 A2 n1 c1 n2 c2 us vs w1.heap.size (w1.heap.size + 1) w1.heap.size (fun k => k < w1.heap.size + 2) _ (by simp) (by simp) (by omega) kX kY LA LB)
    clear LA LB kX kY r3 r4
    generalize commonF us vs = L at *
    have hlL : L.length ≤ 1000000 := by omega
    go_wp2_with (first
      | (go_at_call 81; refine (common_any A1 A2 n1 c1 n2 c2 w1).mono ?_; rintro e w2 ⟨rfl, rfl⟩)
      | (go_at_call 77; refine (collect_any _ _ _ _ _ _ hlL HS.out common_enters (fun k h => by rcases h with rfl | rfl <;> (rw [World.size_alloc, World.size_alloc]; omega)) (fun k h => by simp; omega)).mono ?_; rintro e w3 ⟨v, rfl, hown, _, hf⟩; obtain ⟨A, cap, rfl, hru, h1, h2, h3, _⟩ := own_RU hown rfl))
    have B2 := B1.trans (hbX.mono B1.size)
    have B3 := hf.below (n := w.heap.size) (by have := B2.size; exact this) (fun k hk h => by have := B1.size; rcases h with rfl | rfl <;> omega)
    go_ret2
    exact ⟨A, cap, rfl, hru, h1, h2, fun b o e => by have := h3 b o e; simp at this; have := B1.size; omega, B2.trans B3⟩
  · rw [if_neg hz]
    obtain ⟨er, her⟩ : ∃ er : Int, (if chkS us = 0 then chkS vs else chkS us) = er := ⟨_, rfl⟩
    have hne : er ≠ 0 := by
      rw [← her]
      by_cases h : chkS us = 0
      · rw [if_pos h]; exact fun h2 => hz ⟨h, h2⟩
      · rw [if_neg h]; exact h
    rw [her] at HC ⊢
    have hne' : (er != 0) = true := by simpa using hne
    clear her hne hz
    go_enter Try.func35, Try.ntmps35
    go_wp2_with fail
    refine HC.out.mono ?_
    rintro e w1 ⟨rfl, hb1⟩
    have B1 := hb0.trans (hb1.mono hb0.size)
    go_wp2_with fail
    go_ret2
    exact ⟨none, 0, rfl, RU.nil, by simp, by unfold maxLen; omega, fun b o e => (by cases e), B1⟩
end Go.Proofs.Ytfmnlpgboolpmaa
