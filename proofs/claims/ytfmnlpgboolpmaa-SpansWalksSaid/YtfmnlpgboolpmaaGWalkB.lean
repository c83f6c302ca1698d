/- Walks: the function values that the spans' and the guards' loops go through (common pages of two sets; runs of usable pages). -/
import Derived.Test.YtfmnlpgboolpmaaGWalkA
import Derived.Test.YtfmnlpgboolpmaaGLibR
import Derived.Sort.CutIn
namespace Go.Pol
/-- the runs of usable pages from a page on -/
def runsF (size en : Int) : Nat → Int → List Sp
  | 0, _ => []
  | k + 1, at_ => if at_ < en then (at_, min size (en - at_)) :: runsF size en k (at_ + size + 1) else []
def runsL (pg n f b ev : Int) : List Sp := runsF (if ev = 0 then 1024 else ev) (pg + n - b) 1025 (pg + f)
def lenOf : Option Value → Nat
  | some (.slice _ n _) => n
  | _ => 0
/-- the numbers of a plan are as they must be -/
structure PlanOk (pg n f b ev : Int) : Prop where
  pg0 : 0 ≤ pg
  pg1 : pg < 1024
  n0 : 1 ≤ n
  n1 : n ≤ 1024 - pg
  f0 : 0 ≤ f
  f1 : f ≤ 16
  b0 : 0 ≤ b
  b1 : b ≤ 16
  e0 : 0 ≤ ev
  e1 : ev ≤ 1024
  fb : f + b < n
end Go.Pol
namespace Go.Proofs.Ytfmnlpgboolpmaa
open Go Go.Proofs Go.RowKit Go.Pol
attribute [local go_sem] Oper.semAt_some Go.Pol.wide_fn Go.Pol.wide_depth Go.Pol.wide_fn' Go.Pol.wide_depth'

abbrev planV (pg n f b ev : Int) : Value := .agg #[.int .i64 pg, .int .i64 n, .int .i64 f, .int .i64 b, .int .i64 ev]
abbrev planC (pg n f b ev : Int) : Array Value := #[.int .i64 pg, .int .i64 n, .int .i64 f, .int .i64 b, .int .i64 ev]
abbrev spV (x : Sp) : Array Value := #[.agg #[.int .i64 x.1, .int .i64 x.2]]

theorem inner_any (pg n f b ev : Int) (w : World) (hp : PlanOk pg n f b ev) :
    Calls Try.prog 75 #[planV pg n f b ev] w fun e w' => e = .returned (.tuple #[.int .i64 (pg + f), .int .i64 (pg + n - b)]) ∧ Below w.heap.size w w' := by
  obtain ⟨h1, h2, h3, h4, h5, h6, h7, h8, h9, h10, h11⟩ := hp
  have hb0 := (Below.refl w.heap.size w).alloc (Nat.le_refl _) (.cells (planC pg n f b ev) 25)
  have k0 := Blk.new w 25 (planC pg n f b ev)
  have q := fun (x : Ext (w.alloc (.cells (planC pg n f b ev) 25))) => (x.blk k0).cell
  go_enter Try.func75, Try.ntmps75
  go_upto_region 1 with fail
  refine region_ext (by kernel_rfl) (by kernel_rfl) ?_
  repeat (go_big_quiet_step (fail))
  refine wpQuiet_nil ?_
  rintro w2 ⟨⟨_, hw2⟩, rfl⟩
  go_wp2_with fail
  go_ret2
  exact ⟨rfl, hb0.trans (hw2.mono hb0.size)⟩

theorem prefix_snoc {α : Type} {pre rest xs : List α} {x : α} (h : xs = pre ++ x :: rest) : pre ++ [x] <+: xs := ⟨rest, by simp [h]⟩

set_option maxRecDepth 100000 in
set_option maxHeartbeats 800000 in
theorem runs1_seq (pg n f b ev : Int) (B : Nat) (w : World) (hp : PlanOk pg n f b ev) (hB : Blk w B 25 (planC pg n f b ev)) :
    SeqF Try.prog 102 #[.pointer (some ⟨B, 0, none⟩)] spV (fun _ => False) (fun k => k = B) (runsL pg n f b ev) w := by
  intro m l J Jx W hW hJ hJx hY h0
  have kB := hW.blk hB (by simp)
  have HI := Lib.hid (inner_any pg n f b ev · hp)
  obtain ⟨h1, h2, h3, h4, h5, h6, h7, h8, h9, h10, h11⟩ := hp
  refine callsIn_of_wp Try.func102 rfl trivial ?_ rfl
  simp only [Try.ntmps102, List.size_toArray, List.length_cons, List.length_nil, Nat.reduceAdd, Nat.reduceSub, Array.replicate_succ, Array.replicate_zero, List.push_toArray, List.append_toArray, List.nil_append, List.cons_append]
  have cB := kB.cell
  by_cases he : ev = 0
  · subst he
    have hR : Hid (runsL pg n f b 0 = runsF 1024 (pg + n - b) 1025 (pg + f)) := Lib.hid rfl
    gi_wp2_with (gi_at_call 75; refine (callsIn_wide.2 (HI.out W)).mono ?_; rintro e w1 ⟨rfl, hq⟩; have k1 := kB.call hq; have c1 := k1.cell; have hJ1 := hJ [] W w1 h0 (.of_below hq))
    gi_loopw [6] (fun i wr => ∃ (k : Nat) (a : Int) (pre : List Sp), i = .int .i64 a ∧ 0 ≤ a ∧ a ≤ 4096 ∧ pg + n - b - a < k ∧ J pre wr ∧ Hid (runsL pg n f b 0 = pre ++ runsF 1024 (pg + n - b) k a)) (fun i _ => (pg + n - b - intOf i).toNat)
    case atStart => exact ⟨1025, pg + f, [], rfl, by omega, by omega, by omega, hJ1, Lib.hid (by rw [hR.out]; rfl)⟩
    case round =>
      obtain ⟨k, a, pre, rfl, ha0, ha1, hk, hJs, hL⟩ := hrel
      by_cases hlt : a < pg + n - b
      · have hlt' : decide (a < pg + n - b) = true := by simpa using hlt
        obtain ⟨k', rfl⟩ : ∃ k', k = k' + 1 := ⟨k - 1, by omega⟩
        by_cases hmi : 1024 ≤ pg + n - b - a
        · have hL2 : Hid (runsL pg n f b 0 = pre ++ (a, 1024) :: runsF 1024 (pg + n - b) k' (a + 1024 + 1)) := Lib.hid (by rw [hL.out, runsF, if_pos hlt, show min 1024 (pg + n - b - a) = 1024 by omega])
          obtain ⟨fn, tmps, assign, body, hy, hRd⟩ := hY (m - 1) pre (a, 1024) wr hJs (prefix_snoc hL2.out)
          clear hL hY
          gi_wp2
          refine hRd.mono ?_
          rintro e W3 (⟨rfl, hJ3, _⟩ | ⟨rfl, hJx3⟩)
          · gi_wp2
            go_roundw
            case rel => exact ⟨k', a + 1024 + 1, pre ++ [(a, 1024)], by go_num, by omega, by omega, by omega, hJ3, Lib.hid (by rw [hL2.out]; simp)⟩
            case measure => simp [intOf]; omega
          · gi_wp2
            refine bodyPost_ret (results_none rfl _ _ _) rfl ?_
            exact ⟨⟨_, rfl⟩, .inr ⟨pre ++ [(a, 1024)], prefix_snoc hL2.out, hJx3⟩⟩
        · have hL2 : Hid (runsL pg n f b 0 = pre ++ (a, pg + n - b - a) :: runsF 1024 (pg + n - b) k' (a + 1024 + 1)) := Lib.hid (by rw [hL.out, runsF, if_pos hlt, show min 1024 (pg + n - b - a) = pg + n - b - a by omega])
          obtain ⟨fn, tmps, assign, body, hy, hRd⟩ := hY (m - 1) pre (a, pg + n - b - a) wr hJs (prefix_snoc hL2.out)
          clear hL hY
          gi_wp2
          refine hRd.mono ?_
          rintro e W3 (⟨rfl, hJ3, _⟩ | ⟨rfl, hJx3⟩)
          · gi_wp2
            go_roundw
            case rel => exact ⟨k', a + 1024 + 1, pre ++ [(a, pg + n - b - a)], by go_num, by omega, by omega, by omega, hJ3, Lib.hid (by rw [hL2.out]; simp)⟩
            case measure => simp [intOf]; omega
          · gi_wp2
            refine bodyPost_ret (results_none rfl _ _ _) rfl ?_
            exact ⟨⟨_, rfl⟩, .inr ⟨pre ++ [(a, pg + n - b - a)], prefix_snoc hL2.out, hJx3⟩⟩
      · have hlt' : decide (a < pg + n - b) = false := by simpa using hlt
        have hL2 : Hid (pre = runsL pg n f b 0) := Lib.hid (by
          rw [hL.out]
          cases k with
          | zero => simp [runsF]
          | succ k => rw [runsF, if_neg hlt]; simp)
        gi_wp2
        go_end0
        exact ⟨⟨_, rfl⟩, .inl (by rw [← hL2.out]; exact hJs)⟩
  · have he' : (ev == 0) = false := by simpa using he
    have hR : Hid (runsL pg n f b ev = runsF ev (pg + n - b) 1025 (pg + f)) := Lib.hid (by unfold runsL; rw [if_neg he])
    gi_wp2_with (gi_at_call 75; refine (callsIn_wide.2 (HI.out W)).mono ?_; rintro e w1 ⟨rfl, hq⟩; have k1 := kB.call hq; have c1 := k1.cell; have hJ1 := hJ [] W w1 h0 (.of_below hq))
    gi_loopw [6] (fun i wr => ∃ (k : Nat) (a : Int) (pre : List Sp), i = .int .i64 a ∧ 0 ≤ a ∧ a ≤ 4096 ∧ pg + n - b - a < k ∧ J pre wr ∧ Hid (runsL pg n f b ev = pre ++ runsF ev (pg + n - b) k a)) (fun i _ => (pg + n - b - intOf i).toNat)
    case atStart => exact ⟨1025, pg + f, [], rfl, by omega, by omega, by omega, hJ1, Lib.hid (by rw [hR.out]; rfl)⟩
    case round =>
      obtain ⟨k, a, pre, rfl, ha0, ha1, hk, hJs, hL⟩ := hrel
      by_cases hlt : a < pg + n - b
      · have hlt' : decide (a < pg + n - b) = true := by simpa using hlt
        obtain ⟨k', rfl⟩ : ∃ k', k = k' + 1 := ⟨k - 1, by omega⟩
        by_cases hmi : ev ≤ pg + n - b - a
        · have hL2 : Hid (runsL pg n f b ev = pre ++ (a, ev) :: runsF ev (pg + n - b) k' (a + ev + 1)) := Lib.hid (by rw [hL.out, runsF, if_pos hlt, show min ev (pg + n - b - a) = ev by omega])
          obtain ⟨fn, tmps, assign, body, hy, hRd⟩ := hY (m - 1) pre (a, ev) wr hJs (prefix_snoc hL2.out)
          clear hL hY
          gi_wp2
          refine hRd.mono ?_
          rintro e W3 (⟨rfl, hJ3, _⟩ | ⟨rfl, hJx3⟩)
          · gi_wp2
            go_roundw
            case rel => exact ⟨k', a + ev + 1, pre ++ [(a, ev)], by go_num, by omega, by omega, by omega, hJ3, Lib.hid (by rw [hL2.out]; simp)⟩
            case measure => simp [intOf]; omega
          · gi_wp2
            refine bodyPost_ret (results_none rfl _ _ _) rfl ?_
            exact ⟨⟨_, rfl⟩, .inr ⟨pre ++ [(a, ev)], prefix_snoc hL2.out, hJx3⟩⟩
        · have hL2 : Hid (runsL pg n f b ev = pre ++ (a, pg + n - b - a) :: runsF ev (pg + n - b) k' (a + ev + 1)) := Lib.hid (by rw [hL.out, runsF, if_pos hlt, show min ev (pg + n - b - a) = pg + n - b - a by omega])
          obtain ⟨fn, tmps, assign, body, hy, hRd⟩ := hY (m - 1) pre (a, pg + n - b - a) wr hJs (prefix_snoc hL2.out)
          clear hL hY
          gi_wp2
          refine hRd.mono ?_
          rintro e W3 (⟨rfl, hJ3, _⟩ | ⟨rfl, hJx3⟩)
          · gi_wp2
            go_roundw
            case rel => exact ⟨k', a + ev + 1, pre ++ [(a, pg + n - b - a)], by go_num, by omega, by omega, by omega, hJ3, Lib.hid (by rw [hL2.out]; simp)⟩
            case measure => simp [intOf]; omega
          · gi_wp2
            refine bodyPost_ret (results_none rfl _ _ _) rfl ?_
            exact ⟨⟨_, rfl⟩, .inr ⟨pre ++ [(a, pg + n - b - a)], prefix_snoc hL2.out, hJx3⟩⟩
      · have hlt' : decide (a < pg + n - b) = false := by simpa using hlt
        have hL2 : Hid (pre = runsL pg n f b ev) := Lib.hid (by
          rw [hL.out]
          cases k with
          | zero => simp [runsF]
          | succ k => rw [runsF, if_neg hlt]; simp)
        gi_wp2
        go_end0
        exact ⟨⟨_, rfl⟩, .inl (by rw [← hL2.out]; exact hJs)⟩
theorem ru_tail {w : World} {B : Nat} {b o : Nat} {x : Sp} {us : List Sp} (h : RU w B (some ⟨b, o, none⟩) (x :: us)) : RU w B (some ⟨b, o + 2, none⟩) us := fun k hk => by
  obtain ⟨b', o', e, hb, hc, hd⟩ := h (k + 1) (by simp; omega)
  obtain ⟨rfl, rfl⟩ : b = b' ∧ o = o' := by simpa using e
  refine ⟨b, o + 2, rfl, hb, ?_, ?_⟩
  · rw [show o + 2 + k * 2 = o + (k + 1) * 2 by omega]; simpa using hc
  · rw [show o + 2 + k * 2 + 1 = o + (k + 1) * 2 + 1 by omega]; simpa using hd
theorem ru_head {w : World} {B : Nat} {A : Option Addr} {x : Sp} {us : List Sp} (h : RU w B A (x :: us)) : ∃ b o, A = some ⟨b, o, none⟩ ∧ b < B ∧ w.cell? ⟨b, o, none⟩ = some (.int .i64 x.1) ∧ w.cell? ⟨b, o + 1, none⟩ = some (.int .i64 x.2) := by
  obtain ⟨b, o, e, hb, hc, hd⟩ := h 0 (by simp)
  exact ⟨b, o, e, hb, by simpa using hc, by simpa using hd⟩
theorem tail_at {w : World} {N : Nat} {p o d : Nat} {x : Sp} {us : List Sp} (h : RU w N (some ⟨p, o, none⟩) (x :: us)) (hd : us.length + 1 ≤ d) :
    ∃ q, (if d = 1 then (some ⟨p, o, none⟩ : Option Addr) else some ⟨p, o + 2, none⟩) = some ⟨p, q, none⟩ ∧ RU w N (some ⟨p, q, none⟩) us := by
  by_cases h1 : d = 1
  · obtain rfl : us = [] := List.eq_nil_of_length_eq_zero (by omega)
    exact ⟨o, by rw [if_pos h1], RU.nil⟩
  · exact ⟨o + 2, by rw [if_neg h1], ru_tail h⟩
/-- a slice that the iterator still has before it -/
structure Left (w : World) (N : Nat) (K : Nat → Prop) (B1 B2 : Nat) (P : Option Addr) (m d : Nat) (us : List Sp) : Prop where
  len : us.length = m
  cap : m ≤ d
  max : d ≤ 9223372036854775807
  ru : RU w N P us
  own : us ≠ [] → ∀ b o, P = some ⟨b, o, none⟩ → K b ∧ b ≠ B1 ∧ b ≠ B2
  vl : ∀ x ∈ us, vld x = true
theorem Left.far {T : Nat → Prop} {w w' : World} {N : Nat} {K : Nat → Prop} {B1 B2 : Nat} {P : Option Addr} {m d : Nat} {us : List Sp} (h : Left w N K B1 B2 P m d us) (hf : Far T w w') (hT : ∀ k, K k → k ≠ B1 → k ≠ B2 → ¬ T k) : Left w' N K B1 B2 P m d us :=
  ⟨h.len, h.cap, h.max, by
    by_cases h0 : us = []
    · subst h0; exact RU.nil
    · exact hf.ru h.ru (fun b o e => by have := h.own h0 b o e; exact hT b this.1 this.2.1 this.2.2), h.own, h.vl⟩

set_option maxRecDepth 100000 in
set_option maxHeartbeats 1600000 in
theorem common1_seq (A1 A2 : Option Addr) (n1 c1 n2 c2 : Nat) (us vs : List Sp) (B1 B2 N : Nat) (K : Nat → Prop) (w : World) (hK1 : K B1) (hK2 : K B2) (hne : B1 ≠ B2)
    (k1 : Blk w B1 36 #[.slice A1 n1 c1]) (k2 : Blk w B2 36 #[.slice A2 n2 c2]) (hA : Left w N K B1 B2 A1 n1 c1 us) (hB : Left w N K B1 B2 A2 n2 c2 vs) :
    SeqF Try.prog 106 #[.pointer (some ⟨B1, 0, none⟩), .pointer (some ⟨B2, 0, none⟩)] spV (fun k => k = B1 ∨ k = B2) K (commonF us vs) w := by
  intro m l J Jx W hW hJ hJx hY h0
  have kB1 := hW.blk k1 (by simpa using hK1)
  have kB2 := hW.blk k2 (by simpa using hK2)
  have lA := hA.far hW (fun k hk _ _ h => h hk)
  have lB := hB.far hW (fun k hk _ _ h => h hk)
  refine callsIn_of_wp Try.func106 rfl trivial ?_ rfl
  simp only [Try.ntmps106, List.size_toArray, List.length_cons, List.length_nil, Nat.reduceAdd, Nat.reduceSub, Array.replicate_succ, Array.replicate_zero, List.push_toArray, List.append_toArray, List.nil_append, List.cons_append]
  gi_wp2_with fail
  gi_loopw [4] (fun _ wr => ∃ (us' vs' pre : List Sp) (P1 P2 : Option Addr) (m1 m2 d1 d2 : Nat), Blk wr B1 36 #[.slice P1 m1 d1] ∧ Blk wr B2 36 #[.slice P2 m2 d2] ∧ Left wr N K B1 B2 P1 m1 d1 us' ∧ Left wr N K B1 B2 P2 m2 d2 vs' ∧ J pre wr ∧ Hid (commonF us vs = pre ++ commonF us' vs'))
    (fun _ wr => lenOf (wr.cell? ⟨B1, 0, none⟩) + lenOf (wr.cell? ⟨B2, 0, none⟩))
  case atStart => exact ⟨us, vs, [], A1, A2, n1, n2, c1, c2, kB1, kB2, lA, lB, h0, Lib.hid rfl⟩
  case round =>
    obtain ⟨us', vs', pre, P1, P2, m1, m2, d1, d2, b1, b2, l1, l2, hJs, hL⟩ := hrel
    have q1 := b1.cell
    have q2 := b2.cell
    have f1 := b1.frozen
    have f2 := b2.frozen
    cases us' with
    | nil =>
      obtain rfl : m1 = 0 := by have := l1.len; simpa using this.symm
      have hE : Hid (pre = commonF us vs) := Lib.hid (by rw [hL.out, commonF_nil, List.append_nil])
      gi_wp2_with fail
      go_end0
      exact ⟨⟨_, rfl⟩, .inl (by rw [← hE.out]; exact hJs)⟩
    | cons x r =>
      have h1' : decide (0 < m1) = true := by have := l1.len; simp at this; simp; omega
      cases vs' with
      | nil =>
        obtain rfl : m2 = 0 := by have := l2.len; simpa using this.symm
        have hE : Hid (pre = commonF us vs) := Lib.hid (by rw [hL.out, commonF_nil', List.append_nil])
        gi_wp2_with fail
        go_end0
        exact ⟨⟨_, rfl⟩, .inl (by rw [← hE.out]; exact hJs)⟩
      | cons y s =>
        have h2' : decide (0 < m2) = true := by have := l2.len; simp at this; simp; omega
        have hlx := l1.len
        have hly := l2.len
        simp only [List.length_cons] at hlx hly
        have hmx := l1.max
        have hmy := l2.max
        have hcx := l1.cap
        have hcy := l2.cap
        obtain ⟨p1, o1, rfl, hp1, x1, x2⟩ := ru_head l1.ru
        obtain ⟨p2, o2, rfl, hp2, y1, y2⟩ := ru_head l2.ru
        have hvx := vld_iff.1 (l1.vl x (by simp))
        have hvy := vld_iff.1 (l2.vl y (by simp))
        obtain ⟨xa, xb⟩ := x
        obtain ⟨ya, yb⟩ := y
        dsimp only at x1 x2 y1 y2 hvx hvy
        have e1 := fun z : Ext wr => z.cell x1
        have e2 := fun z : Ext wr => z.cell x2
        have e3 := fun z : Ext wr => z.cell y1
        have e4 := fun z : Ext wr => z.cell y2
        have e5 := fun z : Ext wr => (z.blk b1).cell
        have e6 := fun z : Ext wr => (z.blk b2).cell
        have HE1 : Hid (∀ z : Ext wr, Calls Try.prog 93 #[.agg #[.int .i64 xa, .int .i64 xb]] z.w fun e w'' => e = .returned (.int .i64 (xa + xb)) ∧ ∃ t : Ext wr, w'' = t.w) := Lib.hid (fun z => Ext.call (end_any xa xb _ (by omega) (by omega)))
        have HE2 : Hid (∀ z : Ext wr, Calls Try.prog 93 #[.agg #[.int .i64 ya, .int .i64 yb]] z.w fun e w'' => e = .returned (.int .i64 (ya + yb)) ∧ ∃ t : Ext wr, w'' = t.w) := Lib.hid (fun z => Ext.call (end_any ya yb _ (by omega) (by omega)))
        gi_upto_region 1 with fail
        refine wpIn_wide.2 ?_
        refine region_ext (by kernel_rfl) (by kernel_rfl) ?_
        repeat (go_big_quiet_step ((go_at_call 93; first | exact HE1.out _ | exact HE2.out _)))
        refine wpQuiet_nil ?_
        rintro w2 ⟨⟨_, hw2⟩, rfl⟩
        have hL1 := hL.out
        rw [commonF_cons] at hL1
        dsimp only at hL1
        generalize hfr : (if xa < ya then ya else xa) = fr
        generalize hto : (if ya + yb < xa + xb then ya + yb else xa + xb) = te
        rw [show max xa ya = fr by omega, show min (xa + xb) (ya + yb) = te by omega] at hL1
        have hb1 : 0 ≤ fr ∧ fr ≤ 1024 ∧ 0 ≤ te ∧ te ≤ 1024 := by omega
        clear hfr hto
        have hJ2 := hJ pre wr w2 hJs (.of_below hw2)
        have hM1 := Lib.hid (b1.cell 0)
        have hM2 := Lib.hid (b2.cell 0)
        have b1b := b1.call hw2
        have b2b := b2.call hw2
        have l1b := l1.far (.of_below hw2 : Far (fun _ => False) _ _) (fun _ _ _ _ h => h)
        have l2b := l2.far (.of_below hw2 : Far (fun _ => False) _ _) (fun _ _ _ _ h => h)
        clear e1 e2 e3 e4 e5 e6 HE1 HE2 q1 q2 f1 f2 x1 x2 y1 y2 b1 b2 l1 l2 hJs hL h1' h2'
        by_cases hft : fr < te
        · have hft' : decide (fr < te) = true := by simpa using hft
          rw [if_pos hft] at hL1
          have hLp := Lib.hid hL1
          clear hL1
          obtain ⟨fn, tmps, assign, body, hy, hRd⟩ := hY (m - 1) pre (fr, te - fr) w2 hJ2 ⟨_, by rw [hLp.out, List.append_assoc]⟩
          clear hY
          gi_wp2_with fail
          refine hRd.mono ?_
          rintro e W3 (⟨rfl, hJ3, hF3⟩ | ⟨rfl, hJx3⟩)
          · have b1c := hF3.blk b1b (by simpa using hK1)
            have b2c := hF3.blk b2b (by simpa using hK2)
            have l1c := l1b.far hF3 (fun k hk _ _ h => h hk)
            have l2c := l2b.far hF3 (fun k hk _ _ h => h hk)
            have hL3 : Hid (commonF us vs = (pre ++ [(fr, te - fr)]) ++ (if xa + xb < ya + yb then commonF r ((ya, yb) :: s) else commonF ((xa, xb) :: r) s)) := Lib.hid (by rw [hLp.out]; simp)
            clear hLp hJ2 hRd b1b b2b l1b l2b
            have q1t := (b1c).cell
            have q2t := (b2c).cell
            have f1t := (b1c).frozen
            have f2t := (b2c).frozen
            obtain ⟨p1', o1', hadx, _, x1t, x2t⟩ := ru_head (l1c).ru
            obtain ⟨rfl, rfl⟩ : p1 = p1' ∧ o1 = o1' := by simpa using hadx
            obtain ⟨p2', o2', hady, _, y1t, y2t⟩ := ru_head (l2c).ru
            obtain ⟨rfl, rfl⟩ : p2 = p2' ∧ o2 = o2' := by simpa using hady
            clear hadx hady
            dsimp only at x1t x2t y1t y2t
            have t1 := fun z : Ext W3 => z.cell x1t
            have t2 := fun z : Ext W3 => z.cell x2t
            have t3 := fun z : Ext W3 => z.cell y1t
            have t4 := fun z : Ext W3 => z.cell y2t
            have t5 := fun z : Ext W3 => (z.blk b1c).cell
            have t6 := fun z : Ext W3 => (z.blk b2c).cell
            have HT1 : Hid (∀ z : Ext W3, Calls Try.prog 93 #[.agg #[.int .i64 xa, .int .i64 xb]] z.w fun e w'' => e = .returned (.int .i64 (xa + xb)) ∧ ∃ t : Ext W3, w'' = t.w) := Lib.hid (fun z => Ext.call (end_any xa xb _ (by omega) (by omega)))
            have HT2 : Hid (∀ z : Ext W3, Calls Try.prog 93 #[.agg #[.int .i64 ya, .int .i64 yb]] z.w fun e w'' => e = .returned (.int .i64 (ya + yb)) ∧ ∃ t : Ext W3, w'' = t.w) := Lib.hid (fun z => Ext.call (end_any ya yb _ (by omega) (by omega)))
            by_cases hlt : xa + xb < ya + yb
            · have hlt' : decide (xa + xb < ya + yb) = true := by simpa using hlt
              have hLz : Hid (commonF us vs = (pre ++ [(fr, te - fr)]) ++ commonF r ((ya, yb) :: s)) := Lib.hid ((hL3.out).trans (by rw [if_pos hlt]))
              clear hlt
              gi_upto_region 3 with fail
              refine wpIn_wide.2 ?_
              refine region_ext (by kernel_rfl) (by kernel_rfl) ?_
              repeat (go_big_quiet_step ((go_at_call 93; first | exact HT1.out _ | exact HT2.out _)))
              refine wpQuiet_nil ?_
              rintro w5 ⟨⟨_, hw5⟩, rfl⟩
              have c1z := (b1c).call hw5
              have c2z := (b2c).call hw5
              have l1z := (l1c).far (.of_below hw5 : Far (fun _ => False) _ _) (fun _ _ _ _ h => h)
              have l2z := (l2c).far (.of_below hw5 : Far (fun _ => False) _ _) (fun _ _ _ _ h => h)
              have hJz := hJ (pre ++ [(fr, te - fr)]) W3 w5 hJ3 (.of_below hw5)
              have q1z := c1z.cell
              have q2z := c2z.cell
              have f1z := c1z.frozen
              have f2z := c2z.frozen
              clear t1 t2 t3 t4 t5 t6 HT1 HT2 q1t q2t f1t f2t x1t x2t y1t y2t
              have hne1 := (l1z.own (by simp) p1 o1 rfl)
              have hne2 := (l2z.own (by simp) p2 o2 rfl)
              obtain ⟨q, hq⟩ := tail_at l1z.ru (d := d1) (by have := l1z.cap; omega)
              have hqh := Lib.hid hq.1
              have hqr := hq.2
              clear hq
              gi_wp2_with fail
              rw [hqh.out]
              have hfz : Far (fun k => k = B1 ∨ k = B2) w5 (w5.setCell ⟨B1, 0, none⟩ (.slice (some ⟨p1, q, none⟩) (m1 - 1) (d1 - 1))) := Far.setCell (.refl _ _) (fun _ => .inl rfl) _
              go_roundw
              case rel =>
                refine ⟨r, (ya, yb) :: s, (pre ++ [(fr, te - fr)]), some ⟨p1, q, none⟩, some ⟨p2, o2, none⟩, m1 - 1, m2, d1 - 1, d2, c1z.set_ 0 _, c2z.far (p := ⟨B1, 0, none⟩) (fun h => hne h.symm) _, ?_, l2z.far hfz (fun k _ h1 h2 h => h.elim h1 h2), hJ _ _ _ hJz hfz, hLz⟩
                have lr : Left w5 N K B1 B2 (some ⟨p1, q, none⟩) (m1 - 1) (d1 - 1) r := ⟨by omega, by omega, by omega, hqr, fun _ b o e => by cases e; exact hne1, fun z hz => l1z.vl z (by simp [hz])⟩
                exact lr.far hfz (fun k _ h1 h2 h => h.elim h1 h2)
              case measure => rw [(c1z.set_ 0 (.slice (some ⟨p1, q, none⟩) (m1 - 1) (d1 - 1))).cell 0, (c2z.far (p := ⟨B1, 0, none⟩) (fun h => hne h.symm) (.slice (some ⟨p1, q, none⟩) (m1 - 1) (d1 - 1))).cell 0, hM1.out, hM2.out]; simp [lenOf]; omega
            · have hlt' : decide (xa + xb < ya + yb) = false := by simpa using hlt
              have hLz : Hid (commonF us vs = (pre ++ [(fr, te - fr)]) ++ commonF ((xa, xb) :: r) s) := Lib.hid ((hL3.out).trans (by rw [if_neg hlt]))
              clear hlt
              gi_upto_region 3 with fail
              refine wpIn_wide.2 ?_
              refine region_ext (by kernel_rfl) (by kernel_rfl) ?_
              repeat (go_big_quiet_step ((go_at_call 93; first | exact HT1.out _ | exact HT2.out _)))
              refine wpQuiet_nil ?_
              rintro w5 ⟨⟨_, hw5⟩, rfl⟩
              have c1z := (b1c).call hw5
              have c2z := (b2c).call hw5
              have l1z := (l1c).far (.of_below hw5 : Far (fun _ => False) _ _) (fun _ _ _ _ h => h)
              have l2z := (l2c).far (.of_below hw5 : Far (fun _ => False) _ _) (fun _ _ _ _ h => h)
              have hJz := hJ (pre ++ [(fr, te - fr)]) W3 w5 hJ3 (.of_below hw5)
              have q1z := c1z.cell
              have q2z := c2z.cell
              have f1z := c1z.frozen
              have f2z := c2z.frozen
              clear t1 t2 t3 t4 t5 t6 HT1 HT2 q1t q2t f1t f2t x1t x2t y1t y2t
              have hne1 := (l1z.own (by simp) p1 o1 rfl)
              have hne2 := (l2z.own (by simp) p2 o2 rfl)
              obtain ⟨q, hq⟩ := tail_at l2z.ru (d := d2) (by have := l2z.cap; omega)
              have hqh := Lib.hid hq.1
              have hqr := hq.2
              clear hq
              gi_wp2_with fail
              rw [hqh.out]
              have hfz : Far (fun k => k = B1 ∨ k = B2) w5 (w5.setCell ⟨B2, 0, none⟩ (.slice (some ⟨p2, q, none⟩) (m2 - 1) (d2 - 1))) := Far.setCell (.refl _ _) (fun _ => .inr rfl) _
              go_roundw
              case rel =>
                refine ⟨(xa, xb) :: r, s, (pre ++ [(fr, te - fr)]), some ⟨p1, o1, none⟩, some ⟨p2, q, none⟩, m1, m2 - 1, d1, d2 - 1, c1z.far (p := ⟨B2, 0, none⟩) hne _, c2z.set_ 0 _, l1z.far hfz (fun k _ h1 h2 h => h.elim h1 h2), ?_, hJ _ _ _ hJz hfz, hLz⟩
                have lr : Left w5 N K B1 B2 (some ⟨p2, q, none⟩) (m2 - 1) (d2 - 1) s := ⟨by omega, by omega, by omega, hqr, fun _ b o e => by cases e; exact hne2, fun z hz => l2z.vl z (by simp [hz])⟩
                exact lr.far hfz (fun k _ h1 h2 h => h.elim h1 h2)
              case measure => rw [(c1z.far (p := ⟨B2, 0, none⟩) hne (.slice (some ⟨p2, q, none⟩) (m2 - 1) (d2 - 1))).cell 0, (c2z.set_ 0 (.slice (some ⟨p2, q, none⟩) (m2 - 1) (d2 - 1))).cell 0, hM1.out, hM2.out]; simp [lenOf]; omega
          · gi_wp2_with fail
            refine bodyPost_ret (results_none rfl _ _ _) rfl ?_
            exact ⟨⟨_, rfl⟩, .inr ⟨pre ++ [(fr, te - fr)], ⟨_, by rw [hLp.out, List.append_assoc]⟩, hJx3⟩⟩
        · have hft' : decide (fr < te) = false := by simpa using hft
          rw [if_neg hft, List.nil_append] at hL1
          have hLp := Lib.hid hL1
          clear hL1
          have q1t := (b1b).cell
          have q2t := (b2b).cell
          have f1t := (b1b).frozen
          have f2t := (b2b).frozen
          obtain ⟨p1', o1', hadx, _, x1t, x2t⟩ := ru_head (l1b).ru
          obtain ⟨rfl, rfl⟩ : p1 = p1' ∧ o1 = o1' := by simpa using hadx
          obtain ⟨p2', o2', hady, _, y1t, y2t⟩ := ru_head (l2b).ru
          obtain ⟨rfl, rfl⟩ : p2 = p2' ∧ o2 = o2' := by simpa using hady
          clear hadx hady
          dsimp only at x1t x2t y1t y2t
          have t1 := fun z : Ext w2 => z.cell x1t
          have t2 := fun z : Ext w2 => z.cell x2t
          have t3 := fun z : Ext w2 => z.cell y1t
          have t4 := fun z : Ext w2 => z.cell y2t
          have t5 := fun z : Ext w2 => (z.blk b1b).cell
          have t6 := fun z : Ext w2 => (z.blk b2b).cell
          have HT1 : Hid (∀ z : Ext w2, Calls Try.prog 93 #[.agg #[.int .i64 xa, .int .i64 xb]] z.w fun e w'' => e = .returned (.int .i64 (xa + xb)) ∧ ∃ t : Ext w2, w'' = t.w) := Lib.hid (fun z => Ext.call (end_any xa xb _ (by omega) (by omega)))
          have HT2 : Hid (∀ z : Ext w2, Calls Try.prog 93 #[.agg #[.int .i64 ya, .int .i64 yb]] z.w fun e w'' => e = .returned (.int .i64 (ya + yb)) ∧ ∃ t : Ext w2, w'' = t.w) := Lib.hid (fun z => Ext.call (end_any ya yb _ (by omega) (by omega)))
          by_cases hlt : xa + xb < ya + yb
          · have hlt' : decide (xa + xb < ya + yb) = true := by simpa using hlt
            have hLz : Hid (commonF us vs = pre ++ commonF r ((ya, yb) :: s)) := Lib.hid ((hLp.out).trans (by rw [if_pos hlt]))
            clear hlt
            gi_upto_region 3 with fail
            refine wpIn_wide.2 ?_
            refine region_ext (by kernel_rfl) (by kernel_rfl) ?_
            repeat (go_big_quiet_step ((go_at_call 93; first | exact HT1.out _ | exact HT2.out _)))
            refine wpQuiet_nil ?_
            rintro w5 ⟨⟨_, hw5⟩, rfl⟩
            have c1z := (b1b).call hw5
            have c2z := (b2b).call hw5
            have l1z := (l1b).far (.of_below hw5 : Far (fun _ => False) _ _) (fun _ _ _ _ h => h)
            have l2z := (l2b).far (.of_below hw5 : Far (fun _ => False) _ _) (fun _ _ _ _ h => h)
            have hJz := hJ pre w2 w5 hJ2 (.of_below hw5)
            have q1z := c1z.cell
            have q2z := c2z.cell
            have f1z := c1z.frozen
            have f2z := c2z.frozen
            clear t1 t2 t3 t4 t5 t6 HT1 HT2 q1t q2t f1t f2t x1t x2t y1t y2t
            have hne1 := (l1z.own (by simp) p1 o1 rfl)
            have hne2 := (l2z.own (by simp) p2 o2 rfl)
            obtain ⟨q, hq⟩ := tail_at l1z.ru (d := d1) (by have := l1z.cap; omega)
            have hqh := Lib.hid hq.1
            have hqr := hq.2
            clear hq
            gi_wp2_with fail
            rw [hqh.out]
            have hfz : Far (fun k => k = B1 ∨ k = B2) w5 (w5.setCell ⟨B1, 0, none⟩ (.slice (some ⟨p1, q, none⟩) (m1 - 1) (d1 - 1))) := Far.setCell (.refl _ _) (fun _ => .inl rfl) _
            go_roundw
            case rel =>
              refine ⟨r, (ya, yb) :: s, pre, some ⟨p1, q, none⟩, some ⟨p2, o2, none⟩, m1 - 1, m2, d1 - 1, d2, c1z.set_ 0 _, c2z.far (p := ⟨B1, 0, none⟩) (fun h => hne h.symm) _, ?_, l2z.far hfz (fun k _ h1 h2 h => h.elim h1 h2), hJ _ _ _ hJz hfz, hLz⟩
              have lr : Left w5 N K B1 B2 (some ⟨p1, q, none⟩) (m1 - 1) (d1 - 1) r := ⟨by omega, by omega, by omega, hqr, fun _ b o e => by cases e; exact hne1, fun z hz => l1z.vl z (by simp [hz])⟩
              exact lr.far hfz (fun k _ h1 h2 h => h.elim h1 h2)
            case measure => rw [(c1z.set_ 0 (.slice (some ⟨p1, q, none⟩) (m1 - 1) (d1 - 1))).cell 0, (c2z.far (p := ⟨B1, 0, none⟩) (fun h => hne h.symm) (.slice (some ⟨p1, q, none⟩) (m1 - 1) (d1 - 1))).cell 0, hM1.out, hM2.out]; simp [lenOf]; omega
          · have hlt' : decide (xa + xb < ya + yb) = false := by simpa using hlt
            have hLz : Hid (commonF us vs = pre ++ commonF ((xa, xb) :: r) s) := Lib.hid ((hLp.out).trans (by rw [if_neg hlt]))
            clear hlt
            gi_upto_region 3 with fail
            refine wpIn_wide.2 ?_
            refine region_ext (by kernel_rfl) (by kernel_rfl) ?_
            repeat (go_big_quiet_step ((go_at_call 93; first | exact HT1.out _ | exact HT2.out _)))
            refine wpQuiet_nil ?_
            rintro w5 ⟨⟨_, hw5⟩, rfl⟩
            have c1z := (b1b).call hw5
            have c2z := (b2b).call hw5
            have l1z := (l1b).far (.of_below hw5 : Far (fun _ => False) _ _) (fun _ _ _ _ h => h)
            have l2z := (l2b).far (.of_below hw5 : Far (fun _ => False) _ _) (fun _ _ _ _ h => h)
            have hJz := hJ pre w2 w5 hJ2 (.of_below hw5)
            have q1z := c1z.cell
            have q2z := c2z.cell
            have f1z := c1z.frozen
            have f2z := c2z.frozen
            clear t1 t2 t3 t4 t5 t6 HT1 HT2 q1t q2t f1t f2t x1t x2t y1t y2t
            have hne1 := (l1z.own (by simp) p1 o1 rfl)
            have hne2 := (l2z.own (by simp) p2 o2 rfl)
            obtain ⟨q, hq⟩ := tail_at l2z.ru (d := d2) (by have := l2z.cap; omega)
            have hqh := Lib.hid hq.1
            have hqr := hq.2
            clear hq
            gi_wp2_with fail
            rw [hqh.out]
            have hfz : Far (fun k => k = B1 ∨ k = B2) w5 (w5.setCell ⟨B2, 0, none⟩ (.slice (some ⟨p2, q, none⟩) (m2 - 1) (d2 - 1))) := Far.setCell (.refl _ _) (fun _ => .inr rfl) _
            go_roundw
            case rel =>
              refine ⟨(xa, xb) :: r, s, pre, some ⟨p1, o1, none⟩, some ⟨p2, q, none⟩, m1, m2 - 1, d1, d2 - 1, c1z.far (p := ⟨B2, 0, none⟩) hne _, c2z.set_ 0 _, l1z.far hfz (fun k _ h1 h2 h => h.elim h1 h2), ?_, hJ _ _ _ hJz hfz, hLz⟩
              have lr : Left w5 N K B1 B2 (some ⟨p2, q, none⟩) (m2 - 1) (d2 - 1) s := ⟨by omega, by omega, by omega, hqr, fun _ b o e => by cases e; exact hne2, fun z hz => l2z.vl z (by simp [hz])⟩
              exact lr.far hfz (fun k _ h1 h2 h => h.elim h1 h2)
            case measure => rw [(c1z.far (p := ⟨B2, 0, none⟩) hne (.slice (some ⟨p2, q, none⟩) (m2 - 1) (d2 - 1))).cell 0, (c2z.set_ 0 (.slice (some ⟨p2, q, none⟩) (m2 - 1) (d2 - 1))).cell 0, hM1.out, hM2.out]; simp [lenOf]; omega

end Go.Proofs.Ytfmnlpgboolpmaa
