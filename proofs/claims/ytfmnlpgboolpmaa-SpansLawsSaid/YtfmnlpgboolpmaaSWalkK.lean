/- Walks: the program's Minus; Union of whatever lists. -/
import Derived.Test.YtfmnlpgboolpmaaSWalkA
import Derived.Test.YtfmnlpgboolpmaaGWalkZZ
namespace Go.Proofs.Ytfmnlpgboolpmaa
open Go Go.Proofs Go.RowKit Go.Pol

set_option maxHeartbeats 800000 in
theorem minus_any (A1 A2 : Option Addr) (n1 c1 n2 c2 : Nat) (us vs : List Sp) (w : World) (hn1 : us.length = n1) (hm1 : n1 ≤ c1) (hc1 : c1 ≤ maxLen) (hr1 : RU w w.heap.size A1 us) (hn2 : vs.length = n2) (hm2 : n2 ≤ c2) (hc2 : c2 ≤ maxLen) (hr2 : RU w w.heap.size A2 vs) :
    Calls Try.prog 64 #[.slice A1 n1 c1, .slice A2 n2 c2] w (SpansR w (if chkS us = 0 ∧ chkS vs = 0 then commonF us (gapsF vs (0, 1024)) else []) (if chkS us = 0 then chkS vs else chkS us)) := by
  have hb0 := (Below.refl w.heap.size w).alloc (Nat.le_refl _) (.cells #[.slice A1 n1 c1, .slice A2 n2 c2] 36)
  have k0 := Blk.new w 36 #[.slice A1 n1 c1, .slice A2 n2 c2]
  have r1 := hr1.on ((Below.refl w.heap.size w).alloc (Nat.le_refl _) (.cells #[.slice A1 n1 c1, .slice A2 n2 c2] 36))
  have r2 := hr2.on ((Below.refl w.heap.size w).alloc (Nat.le_refl _) (.cells #[.slice A1 n1 c1, .slice A2 n2 c2] 36))
  have HC := Lib.hid (check2_any A1 A2 n1 c1 n2 c2 us vs w.heap.size _ hn1 (Nat.le_trans hm1 hc1) r1 hn2 (Nat.le_trans hm2 hc2) r2 k0)
  clear hr1 hr2
  by_cases hz : chkS us = 0 ∧ chkS vs = 0
  · obtain ⟨hz1, hz2⟩ := hz
    rw [if_pos ⟨hz1, hz2⟩, if_pos hz1, hz2]
    rw [if_pos hz1, hz2] at HC
    have hU := chkS_zero.1 hz1
    have hV := chkS_zero.1 hz2
    have hg := hV.gaps (i := (0, 1024)) (by decide)
    have hlen := commonF_len us (gapsF vs (0, 1024))
    have hl1 := hU.len
    have hl2 := hg.1.len
    have HG := Lib.hid (fun W h => gaps_any A2 n2 c2 vs 0 1024 W hn2 hm2 hc2 h hV (by decide))
    clear hz1 hz2
    go_enter Try.func64, Try.ntmps64
    go_wp2_with fail
    refine HC.out.mono ?_
    rintro e w1 ⟨rfl, hb1⟩
    have B1 := hb0.trans (hb1.mono hb0.size)
    have r3 := r1.on hb1
    have r4 := r2.on hb1
    clear HC k0 r1 r2 hb1 hb0
    generalize gapsF vs (0, 1024) = G at *
    obtain ⟨gl, hgl⟩ : ∃ gl, G.length = gl := ⟨_, rfl⟩
    rw [hgl] at HG
    go_wp2_with fail
    refine (HG.out _ r4).mono ?_
    rintro e w2 ⟨A3, c3, rfl, r5, m3, x3, _, hb2⟩
    have B2 := B1.trans (hb2.mono B1.size)
    have r6 := r3.on hb2
    clear HG r3 r4
    have kX : Blk ((w2.alloc (.cells #[.slice A1 n1 c1] 36)).alloc (.cells #[.slice A3 gl c3] 36)) w2.heap.size 36 #[.slice A1 n1 c1] := (Blk.new _ _ _).alloc _
    have kY : Blk ((w2.alloc (.cells #[.slice A1 n1 c1] 36)).alloc (.cells #[.slice A3 gl c3] 36)) (w2.heap.size + 1) 36 #[.slice A3 gl c3] := by
      have := Blk.new (w2.alloc (.cells #[.slice A1 n1 c1] 36)) 36 #[.slice A3 gl c3]
      rw [World.size_alloc] at this; exact this
    have hbX : Below w2.heap.size w2 ((w2.alloc (.cells #[.slice A1 n1 c1] 36)).alloc (.cells #[.slice A3 gl c3] 36)) := ((Below.refl w2.heap.size w2).alloc (Nat.le_refl _) _).alloc (by simp) _
    have LA : Left _ w2.heap.size (fun k => k < w2.heap.size + 2) w2.heap.size (w2.heap.size + 1) A1 n1 c1 us := ⟨hn1, hm1, by unfold maxLen at hc1; omega, r6.below hbX, fun h b o e => by have := ru_lt r6 h e; exact ⟨by omega, by omega, by omega⟩, hU.1⟩
    have LB : Left _ w2.heap.size (fun k => k < w2.heap.size + 2) w2.heap.size (w2.heap.size + 1) A3 gl c3 G := ⟨hgl, m3, by unfold maxLen at x3; omega, r5.below hbX, fun h b o e => by have := ru_lt r5 h e; exact ⟨by omega, by omega, by omega⟩, hg.1.1⟩
    have HS := Lib.hid (common1_seq A1 A3 n1 c1 gl c3 us G w2.heap.size (w2.heap.size + 1) w2.heap.size (fun k => k < w2.heap.size + 2) _ (by simp) (by simp) (by omega) kX kY LA LB)
    clear LA LB kX kY r5 r6 hg
    generalize commonF us G = L at *
    have hlL : L.length ≤ 1000000 := by omega
    go_wp2_with (first
      | (go_at_call 81; refine (common_any A1 A3 n1 c1 gl c3 w2).mono ?_; rintro e w3 ⟨rfl, rfl⟩)
      | (go_at_call 77; refine (collect_any _ _ _ _ _ _ hlL HS.out common_enters (fun k h => by rcases h with rfl | rfl <;> (rw [World.size_alloc, World.size_alloc]; omega)) (fun k h => by simp; omega)).mono ?_; rintro e w4 ⟨v, rfl, hown, _, hf⟩; obtain ⟨A, cap, rfl, hru, h1, h2, h3, _⟩ := own_RU hown rfl))
    have B3 := B2.trans (hbX.mono B2.size)
    have B4 := hf.below (n := w.heap.size) (by have := B3.size; exact this) (fun k hk h => by have := B2.size; rcases h with rfl | rfl <;> omega)
    go_ret2
    exact ⟨A, cap, rfl, hru, h1, h2, fun b o e => by have := h3 b o e; simp at this; have := B2.size; omega, B3.trans B4⟩
  · rw [if_neg hz]
    obtain ⟨er, her⟩ : ∃ er : Int, (if chkS us = 0 then chkS vs else chkS us) = er := ⟨_, rfl⟩
    have hne : er ≠ 0 := by
      rw [← her]
      by_cases h : chkS us = 0
      · rw [if_pos h]; exact fun h2 => hz ⟨h, h2⟩
      · rw [if_neg h]; exact h
    rw [her] at HC ⊢
    have hne' : (er != 0) = true := by simpa using hne
    clear her hne hz
    go_enter Try.func64, Try.ntmps64
    go_wp2_with fail
    refine HC.out.mono ?_
    rintro e w1 ⟨rfl, hb1⟩
    have B1 := hb0.trans (hb1.mono hb0.size)
    go_wp2_with fail
    go_ret2
    exact ⟨none, 0, rfl, RU.nil, by simp, by unfold maxLen; omega, fun b o e => (by cases e), B1⟩

set_option maxHeartbeats 800000 in
theorem meet_own (A1 A2 : Option Addr) (n1 c1 n2 c2 : Nat) (us vs : List Sp) (w : World) (hn1 : us.length = n1) (hm1 : n1 ≤ c1) (hc1 : c1 ≤ maxLen) (hr1 : RU w w.heap.size A1 us) (hn2 : vs.length = n2) (hm2 : n2 ≤ c2) (hc2 : c2 ≤ maxLen) (hr2 : RU w w.heap.size A2 vs) :
    Calls Try.prog 35 #[.slice A1 n1 c1, .slice A2 n2 c2] w (SpansOwn w (if chkS us = 0 ∧ chkS vs = 0 then commonF us vs else []) (if chkS us = 0 then chkS vs else chkS us)) := by
  have hb0 := (Below.refl w.heap.size w).alloc (Nat.le_refl _) (.cells #[.slice A1 n1 c1, .slice A2 n2 c2] 36)
  have k0 := Blk.new w 36 #[.slice A1 n1 c1, .slice A2 n2 c2]
  have r1 := hr1.on ((Below.refl w.heap.size w).alloc (Nat.le_refl _) (.cells #[.slice A1 n1 c1, .slice A2 n2 c2] 36))
  have r2 := hr2.on ((Below.refl w.heap.size w).alloc (Nat.le_refl _) (.cells #[.slice A1 n1 c1, .slice A2 n2 c2] 36))
  have HC := Lib.hid (check2_any A1 A2 n1 c1 n2 c2 us vs w.heap.size _ hn1 (Nat.le_trans hm1 hc1) r1 hn2 (Nat.le_trans hm2 hc2) r2 k0)
  clear hr1 hr2
  by_cases hz : chkS us = 0 ∧ chkS vs = 0
  · obtain ⟨hz1, hz2⟩ := hz
    rw [if_pos ⟨hz1, hz2⟩, if_pos hz1, hz2]
    rw [if_pos hz1, hz2] at HC
    have hU := chkS_zero.1 hz1
    have hV := chkS_zero.1 hz2
    have hlen := commonF_len us vs
    have hl1 := hU.len
    have hl2 := hV.len
    clear hz1 hz2
    go_enter Try.func35, Try.ntmps35
    go_wp2_with fail
    refine HC.out.mono ?_
    rintro e w1 ⟨rfl, hb1⟩
    have B1 := hb0.trans (hb1.mono hb0.size)
    have r3 := r1.on hb1
    have r4 := r2.on hb1
    clear HC k0 r1 r2 hb1 hb0
    have kX : Blk ((w1.alloc (.cells #[.slice A1 n1 c1] 36)).alloc (.cells #[.slice A2 n2 c2] 36)) w1.heap.size 36 #[.slice A1 n1 c1] := (Blk.new _ _ _).alloc _
    have kY : Blk ((w1.alloc (.cells #[.slice A1 n1 c1] 36)).alloc (.cells #[.slice A2 n2 c2] 36)) (w1.heap.size + 1) 36 #[.slice A2 n2 c2] := by
      have := Blk.new (w1.alloc (.cells #[.slice A1 n1 c1] 36)) 36 #[.slice A2 n2 c2]
      rw [World.size_alloc] at this; exact this
    have hbX : Below w1.heap.size w1 ((w1.alloc (.cells #[.slice A1 n1 c1] 36)).alloc (.cells #[.slice A2 n2 c2] 36)) := ((Below.refl w1.heap.size w1).alloc (Nat.le_refl _) _).alloc (by simp) _
    have LA : Left _ w1.heap.size (fun k => k < w1.heap.size + 2) w1.heap.size (w1.heap.size + 1) A1 n1 c1 us := ⟨hn1, hm1, by unfold maxLen at hc1; omega, r3.below hbX, fun h b o e => by have := ru_lt r3 h e; exact ⟨by omega, by omega, by omega⟩, hU.1⟩
    have LB : Left _ w1.heap.size (fun k => k < w1.heap.size + 2) w1.heap.size (w1.heap.size + 1) A2 n2 c2 vs := ⟨hn2, hm2, by unfold maxLen at hc2; omega, r4.below hbX, fun h b o e => by have := ru_lt r4 h e; exact ⟨by omega, by omega, by omega⟩, hV.1⟩
    have HS := Lib.hid (common1_seq A1 A2 n1 c1 n2 c2 us vs w1.heap.size (w1.heap.size + 1) w1.heap.size (fun k => k < w1.heap.size + 2) _ (by simp) (by simp) (by omega) kX kY LA LB)
    clear LA LB kX kY r3 r4
    generalize commonF us vs = L at *
    have hlL : L.length ≤ 1000000 := by omega
    go_wp2_with (first
      | (go_at_call 81; refine (common_any A1 A2 n1 c1 n2 c2 w1).mono ?_; rintro e w2 ⟨rfl, rfl⟩)
      | (go_at_call 77; refine (collect_any _ _ _ _ _ _ hlL HS.out common_enters (fun k h => by rcases h with rfl | rfl <;> (rw [World.size_alloc, World.size_alloc]; omega)) (fun k h => by simp; omega)).mono ?_; rintro e w3 ⟨v, rfl, hown, _, hf⟩; obtain ⟨A, cap, rfl, hru, h1, h2, h3, _⟩ := own_RU hown rfl))
    have B2 := B1.trans (hbX.mono B1.size)
    have B3 := hf.below (n := w.heap.size) (by have := B2.size; exact this) (fun k hk h => by have := B1.size; rcases h with rfl | rfl <;> omega)
    go_ret2
    exact ⟨A, cap, rfl, hru, h1, h2, fun b o e => by have := h3 b o e; simp at this; have := B1.size; omega, B2.trans B3, own_cap hown⟩
  · rw [if_neg hz]
    obtain ⟨er, her⟩ : ∃ er : Int, (if chkS us = 0 then chkS vs else chkS us) = er := ⟨_, rfl⟩
    have hne : er ≠ 0 := by
      rw [← her]
      by_cases h : chkS us = 0
      · rw [if_pos h]; exact fun h2 => hz ⟨h, h2⟩
      · rw [if_neg h]; exact h
    rw [her] at HC ⊢
    have hne' : (er != 0) = true := by simpa using hne
    clear her hne hz
    go_enter Try.func35, Try.ntmps35
    go_wp2_with fail
    refine HC.out.mono ?_
    rintro e w1 ⟨rfl, hb1⟩
    have B1 := hb0.trans (hb1.mono hb0.size)
    go_wp2_with fail
    go_ret2
    exact ⟨none, 0, rfl, RU.nil, by simp, by unfold maxLen; omega, fun b o e => (by cases e), B1, fun _ => rfl⟩

/-- what hands back a slice of spans and an error -/
def SpansL (w : World) (us : List Sp) (er : Int) (e : Ending) (w' : World) : Prop :=
  ∃ (A : Option Addr) (cap : Nat), e = .returned (.tuple #[.slice A us.length cap, .int .i64 er]) ∧ RU w' w'.heap.size A us ∧ us.length ≤ cap ∧ cap ≤ maxLen ∧ Below w.heap.size w w'
theorem SpansR.light {w w' : World} {us : List Sp} {er : Int} {e : Ending} (h : SpansR w us er e w') : SpansL w us er e w' := by
  obtain ⟨A, cap, h1, h2, h3, h4, _, h5⟩ := h
  exact ⟨A, cap, h1, h2, h3, h4, h5⟩
theorem SpansOwn.light {w w' : World} {us : List Sp} {er : Int} {e : Ending} (h : SpansOwn w us er e w') : SpansL w us er e w' := by
  obtain ⟨A, cap, h1, h2, h3, h4, _, h5, _⟩ := h
  exact ⟨A, cap, h1, h2, h3, h4, h5⟩
set_option maxHeartbeats 800000 in
theorem unionT_any (A1 A2 : Option Addr) (n1 c1 n2 c2 : Nat) (us vs : List Sp) (w : World) (hn1 : us.length = n1) (hm1 : n1 ≤ c1) (hc1 : c1 ≤ maxLen) (hr1 : RU w w.heap.size A1 us) (hn2 : vs.length = n2) (hm2 : n2 ≤ c2) (hc2 : c2 ≤ maxLen) (hr2 : RU w w.heap.size A2 vs)
    (hz1 : A1 = none → c1 = 0) (hz2 : A2 = none → c2 = 0) :
    Calls Try.prog 36 #[.slice A1 n1 c1, .slice A2 n2 c2] w (SpansL w (if chkS us = 0 ∧ chkS vs = 0 then setOf (us ++ vs) else []) (if chkS us = 0 then chkS vs else chkS us)) := by
  by_cases hz : chkS us = 0 ∧ chkS vs = 0
  · obtain ⟨h1, h2⟩ := hz
    have hU := chkS_zero.1 h1
    have hV := chkS_zero.1 h2
    rw [if_pos ⟨h1, h2⟩, if_pos h1, h2]
    refine (union_any A1 A2 n1 c1 n2 c2 us vs w hn1 hm1 hc1 hr1 hn2 hm2 hc2 hr2 hz1 hz2 hU hV).mono ?_
    rintro e w' ⟨us', A, cap, hp, hs, rfl, hru, i1, i2, hb⟩
    have hS := ofF_setOf (fun y hy => by
      rcases List.mem_append.1 hy with h | h
      · exact hU.1 y h
      · exact hV.1 y h) hp hs
    rw [hS] at hru i1 ⊢
    exact ⟨A, cap, rfl, hru, i1, i2, hb⟩
  · rw [if_neg hz]
    have hb0 := (Below.refl w.heap.size w).alloc (Nat.le_refl _) (.cells #[.slice A1 n1 c1, .slice A2 n2 c2] 36)
    have k0 := Blk.new w 36 #[.slice A1 n1 c1, .slice A2 n2 c2]
    have r1 := hr1.on ((Below.refl w.heap.size w).alloc (Nat.le_refl _) (.cells #[.slice A1 n1 c1, .slice A2 n2 c2] 36))
    have r2 := hr2.on ((Below.refl w.heap.size w).alloc (Nat.le_refl _) (.cells #[.slice A1 n1 c1, .slice A2 n2 c2] 36))
    have HC := Lib.hid (check2_any A1 A2 n1 c1 n2 c2 us vs w.heap.size _ hn1 (Nat.le_trans hm1 hc1) r1 hn2 (Nat.le_trans hm2 hc2) r2 k0)
    clear hr1 hr2
    obtain ⟨er, her⟩ : ∃ er : Int, (if chkS us = 0 then chkS vs else chkS us) = er := ⟨_, rfl⟩
    have hne : er ≠ 0 := by
      rw [← her]
      by_cases h : chkS us = 0
      · rw [if_pos h]; exact fun h2 => hz ⟨h, h2⟩
      · rw [if_neg h]; exact h
    rw [her] at HC ⊢
    have hne' : (er != 0) = true := by simpa using hne
    clear her hne hz
    go_enter Try.func36, Try.ntmps36
    go_wp2_with fail
    refine HC.out.mono ?_
    rintro e w1 ⟨rfl, hb1⟩
    have B1 := hb0.trans (hb1.mono hb0.size)
    go_wp2_with fail
    go_ret2
    exact ⟨none, 0, rfl, RU.nil, by simp, by unfold maxLen; omega, B1⟩
end Go.Proofs.Ytfmnlpgboolpmaa
