/- The law HugeKeeps: with the state that the system says, pages that are not given back keep their bytes, huge pages are committed, no live page is given back, and without refusals all that is chosen is; whatever the system (of at most 60 spans, 70 huge groups, 100 bytes and 55 rules), the live pages (of a list of at most 60 spans) and the number of pages. -/
import Derived.Test.YtpabnbhbcphfiaaGreatS10
namespace Go.Pol
open Go Go.Proofs Go.RowKit
/-- pages that are chosen are committed, and not live -/
theorem few_idle {C L : List Sp} {l : List Sp} (hC : Can C) (hL : Can L) (hl : Can l) (h : combF 3 l (combF 3 C L) = []) {p : Nat} (hp : p < 1024) (hm : mem (p : Int) l = true) : mem (p : Int) C = true ∧ mem (p : Int) L = false := by
  have h1 : mem (p : Int) (combF 3 l (combF 3 C L)) = false := by rw [h]; rfl
  have hk : chk2 l (combF 3 C L) = 0 := by unfold chk2; rw [if_pos (chkS_zero.2 hl)]; exact chkS_zero.2 (comb_can _ _ _)
  have h2 : mem (p : Int) (combF 3 l (combF 3 C L)) = (mem (p : Int) l && !mem (p : Int) (combF 3 C L)) := by
    rw [show combF 3 l (combF 3 C L) = setA (fun p => combG 3 (mem (p : Int) l) (mem (p : Int) (combF 3 C L))) from if_pos hk, mem_setA' _ hp]; rfl
  rw [h1, hm] at h2
  have h3 : mem (p : Int) (combF 3 C L) = true := by
    cases e : mem (p : Int) (combF 3 C L) with
    | true => rfl
    | false => rw [e] at h2; cases h2
  rw [idle_setA hC hL, mem_setA' _ hp] at h3
  simpa [idlP] using h3
theorem planF_nil (V : Vm) : (planF V []).rf.rules = [] := by
  unfold planF
  rw [if_pos (by decide)]; rfl
end Go.Pol
namespace Go.Proofs.YtpabnbhbcphfiaaGreat
open Go Go.Proofs Go.RowKit Go.Pol Go.ChangeShapes Go.WideShapes Go.Deep
attribute [local go_sem] Oper.semAt_some Go.Pol.wide_fn Go.Pol.wide_depth Go.Pol.wide_fn' Go.Pol.wide_depth'

set_option maxRecDepth 100000 in
set_option maxHeartbeats 6400000 in
theorem hkeepsLaw_any (A1 A2 A3 A4 A : Option Addr) (n1 c1 n2 c2 n3 c3 n4 c4 n cap : Nat) (us : List (Int × Int)) (hs : List Int) (ws : List (Int × Int)) (l : List Ru) (vs : List Sp) (pages : Int) (w : World)
    (h1 : us.length = n1) (h2 : hs.length = n2) (h3 : ws.length = n3) (h4 : l.length = n4) (hz : A4 = none → c4 = 0)
    (r1 : RU w w.heap.size A1 us) (r2 : RI w w.heap.size A2 hs) (r3 : Rd w w.heap.size A3 (fl wrC ws)) (r4 : Rd w w.heap.size A4 (fl ruC l)) (hn : vs.length = n) (hm : n ≤ maxLen) (hr : RU w w.heap.size A vs) :
    Calls Tryz.prog 7 #[.agg #[.slice A1 n1 c1, .slice A2 n2 c2, .slice A3 n3 c3, .slice A4 n4 c4], .slice A n cap, .int .i64 pages] w fun e w' => e = .returned (.bool true) ∧ Below w.heap.size w w' := by
  have hb0 := (Below.refl w.heap.size w).alloc (Nat.le_refl _) (.cells #[.slice A1 n1 c1, .slice A2 n2 c2, .slice A3 n3 c3, .slice A4 n4 c4] 90)
  have k3 := Blk.new w 90 #[.slice A1 n1 c1, .slice A2 n2 c2, .slice A3 n3 c3, .slice A4 n4 c4]
  obtain ⟨s, hsz⟩ : ∃ s, w.heap.size = s := ⟨_, rfl⟩
  rw [hsz] at k3
  have q1 := Lib.hid ((r1.below hb0).more hb0.size)
  have q2 := Lib.hid (RI.more (RI.below r2 hb0) hb0.size)
  have q3 := Lib.hid (r3.on_ hb0)
  have q4 := Lib.hid (r4.on_ hb0)
  have qv := Lib.hid ((hr.below hb0).more hb0.size)
  have HGr := Lib.hid (fun W => great13_any A1 A2 A3 A4 n1 c1 n2 c2 n3 c3 n4 c4 W)
  have HA := Lib.hid (fun W => awake13_any W)
  have hmG : greatP n1 n2 n3 n4 = false → n1 ≤ 1000 ∧ n2 ≤ 1000 ∧ n3 ≤ 1000 ∧ n4 ≤ 1000 := fun h => by
    unfold greatP at h
    simp only [Bool.or_eq_false_iff, decide_eq_false_iff_not] at h
    omega
  have hmG' := Lib.hid hmG
  have hlen := Lib.hid (And.intro h1 (And.intro h2 (And.intro h3 (And.intro h4 hz))))
  have hnv := Lib.hid (And.intro hn hm)
  have hend := Lib.hid (fun (w1 w2 : World) (h1 : Below w.heap.size w w1) (h2 : Below w1.heap.size w1 w2) => (h1.trans (h2.mono h1.size) : Below w.heap.size w w2))
  clear r1 r2 r3 r4 hr hmG h1 h2 h3 h4 hz hn hm
  cases hg : greatP n1 n2 n3 n4 with
  | true =>
    rw [hg] at HGr
    clear hg hmG' q1 q2 q3 q4 qv hlen hnv
    go_enter Tryz.func7, Tryz.ntmps7
    go_upto_region 1 with fail
    generalize w.alloc _ = w0 at *
    try simp only [hsz]
    have c0 := k3.cell
    go_wp2_with fail
    refine (HGr.out _).mono ?_
    rintro e w1 ⟨rfl, hb1⟩
    have B1 := hend.out _ _ hb0 hb1
    go_wp2_with fail
    refine (HA.out _).mono ?_
    rintro e w2 ⟨rfl, hb2⟩
    go_wp2_with fail
    go_ret
    exact ⟨rfl, hend.out _ _ B1 hb2⟩
  | false =>
  rw [hg] at HGr
  have hmm := Lib.hid (hmG'.out hg)
  clear hg hmG'
  by_cases h60 : 60 < n
  · have h60' : decide ((60 : Int) < (n : Int)) = true := by rw [decide_eq_true_eq]; omega
    clear q1 q2 q3 q4 qv hlen hnv hmm
    go_enter Tryz.func7, Tryz.ntmps7
    go_upto_region 1 with fail
    generalize w.alloc _ = w0 at *
    try simp only [hsz]
    have c0 := k3.cell
    go_wp2_with fail
    refine (HGr.out _).mono ?_
    rintro e w1 ⟨rfl, hb1⟩
    have B1 := hend.out _ _ hb0 hb1
    go_wp2_with fail
    refine (HA.out _).mono ?_
    rintro e w2 ⟨rfl, hb2⟩
    go_wp2_with fail
    go_ret
    exact ⟨rfl, hend.out _ _ B1 hb2⟩
  have h60' : decide ((60 : Int) < (n : Int)) = false := by rw [decide_eq_false_iff_not]; omega
  go_enter Tryz.func7, Tryz.ntmps7
  go_upto_region 1 with fail
  generalize w.alloc _ = w0 at *
  try simp only [hsz]
  have c0 := k3.cell
  go_wp2_with fail
  refine (HGr.out _).mono ?_
  rintro e w1 ⟨rfl, hb1⟩
  have k31 := k3.call hb1
  have cM1 := k31.cell
  obtain ⟨g1, g2, g3, g4, gz⟩ := hlen.out
  have HSy := Lib.hid (sys13_any A1 A2 A3 A4 n1 c1 n2 c2 n3 c3 n4 c4 us hs ws l w1 g1 g2 g3 g4 hmm.out gz ((q1.out.below hb1).more hb1.size) (RI.more (RI.below q2.out hb1) hb1.size) (q3.out.on_ hb1) (q4.out.on_ hb1))
  have hG := Lib.hid (sysF_huge us hs ws l)
  have hr0 : Hid (n4 = 0 → (sysF us hs ws l).rf.rules = []) := Lib.hid (fun h => by
    have : l = [] := List.eq_nil_of_length_eq_zero (by omega)
    subst this
    exact planF_nil _)
  generalize sysF us hs ws l = V at *
  unfold SysO at HSy
  clear q1 q2 q3 q4 hlen hmm HGr c0 g1 g2 g3 g4 gz
  go_wp2_with fail
  refine HSy.out.mono ?_
  rintro e w2 ⟨b, rfl, V2, hbb, hb2⟩
  have B2 := hb1.trans (hb2.mono hb1.size)
  have k32 := k31.call hb2
  have hsb : s < b := by have := k31.lt; omega
  have hw0b : w0.heap.size ≤ b := by have := hb1.size; omega
  obtain ⟨gn, gm⟩ := hnv.out
  have HT := Lib.hid (fun (U : Vm) W (hV : SysIs W b U) (r : RU W W.heap.size A vs) => statedN_any b A n cap vs U W hV gn gm r)
  have hok := Lib.hid (fun (U : Vm) (h : HugeV U) => stated_ok h vs)
  have hv2 := (qv.out.below B2).more B2.size
  unfold StatedN at HT
  have HT1 := Lib.hid (HT.out V w2 V2 hv2)
  rw [hok.out V hG.out] at HT1
  clear HSy cM1 k31 hb1 hb2 hnv gn gm hv2
  go_wp2_with fail
  refine HT1.out.mono ?_
  rintro e w3 ⟨S1, rfl, hS1, hb3, hfr1⟩
  have B3 := B2.trans (hb3.mono B2.size)
  have V3 := V2.call hb3
  have k33 := k32.call hb3
  obtain ⟨P1, P2, P3, m1, d1, m2, d2, m3, d3, hS1e, _, _, _, _, _, _, hH1, _, _⟩ := hS1.ex
  subst hS1e
  have hS1' := Lib.hid hS1
  obtain ⟨s8, hs8⟩ : ∃ s8, w3.heap.size = s8 := ⟨_, rfl⟩
  have k8 := Blk.new w3 94 #[.slice P1 m1 d1, .slice P2 m2 d2, .slice P3 m3 d3]
  rw [hs8] at k8
  have hbz : Below w3.heap.size w3 (w3.alloc (.cells #[.slice P1 m1 d1, .slice P2 m2 d2, .slice P3 m3 d3] 94)) := (Below.refl _ _).alloc (Nat.le_refl _) _
  have hH1' := Lib.hid hH1
  clear HT1 V2 k32 hb3 hS1 hfr1 hH1
  go_upto_region 7 with fail
  have V4 := V3.call hbz
  have k34 := k33.call hbz
  have hS4 := Lib.hid (hS1'.out.on hbz)
  have B4 := B3.trans (hbz.mono B3.size)
  generalize w3.alloc _ = w4 at *
  try simp only [hs8]
  have hbs8 : b < s8 := by have := V3.lt; omega
  have HKp := Lib.hid (fun (U : Vm) W (hV : SysIs W b U) => kept_any b none 0 0 [] U W hV rfl (by omega) RU.nil (fun x hx => by cases hx))
  have HK1 := Lib.hid (HKp.out V w4 V4)
  obtain ⟨K1, hK1⟩ : ∃ K1, keptL V [] 1024 = K1 := ⟨_, rfl⟩
  have hK1' := Lib.hid hK1
  rw [hK1] at HK1
  obtain ⟨kn1, hkn1⟩ : ∃ kn1, K1.length = kn1 := ⟨_, rfl⟩
  rw [hkn1] at HK1
  have hkn1' := Lib.hid hkn1
  clear hbz V3 k33 hS1' hK1 hkn1 B3
  go_wp2_with fail
  refine HK1.out.mono ?_
  rintro e w5 ⟨Ak, ck, rfl, rK1, hb5, hfK1⟩
  have V5 := V4.call hb5
  have k35 := k34.call hb5
  have k85 := k8.call hb5
  have hS5 := hS4.out.on hb5
  have B5 := B4.trans (hb5.mono B4.size)
  have c85 := k85.cell
  have hs45 := hb5.size
  obtain ⟨J, hJ⟩ : ∃ J, hjF V (groupsA (setA (comF V)) (liveF V vs) (hugesF V 1024) 0) = J := ⟨_, rfl⟩
  obtain ⟨j1, j2, j3, j4, j5⟩ := keeps_join hG.out vs J hJ
  have HJn := Lib.hid (hjoin_any b 0 (.agg #[.slice P1 m1 d1, .slice P2 m2 d2, .slice P3 m3 d3]) (setA (comF V)) (liveF V vs) (hugesF V 1024) V w5 V5 hG.out.good.kinds hS5)
  rw [hJ] at HJn
  obtain ⟨V1, dl, er⟩ := J
  simp only at j1 j2 j3 j4 j5
  unfold JoinO at HJn
  simp only at HJn
  obtain ⟨jl, hjl⟩ : ∃ jl, dl.length = jl := ⟨_, rfl⟩
  rw [hjl] at HJn j3
  have hb4b : b < w4.heap.size := V4.lt
  have j1' := Lib.hid j1
  have j2' := Lib.hid j2
  have j4' := Lib.hid (fun h => j4 (hr0.out h))
  have j5' := Lib.hid (fun h => j5.trans (hr0.out h))
  clear HK1 V4 k34 k8 hS4 hS5 hb5 B4 hJ j1 j2 j4 j5 hr0
  go_wp2_with fail
  refine HJn.out.mono ?_
  rintro e w6 ⟨A11, c11, rfl, _, _, V6, F6⟩
  have B6 := B5.trans (F6.below B5.size (fun k hk e => by omega))
  have k36 := F6.blk k35 (by show ¬ s = b; omega)
  have k86 := F6.blk k85 (by show ¬ s8 = b; omega)
  have rK16 := (rK1.far_ F6 (fun g o e => by have := hfK1 g o e; show ¬ g = b; omega)).more F6.size
  have hv6 := (qv.out.below B6).more B6.size
  have HT2 := Lib.hid (HT.out V1 w6 V6 hv6)
  rw [hok.out V1 j1'.out] at HT2
  clear HJn V5 k35 k85 c85 rK1 F6 B5 hv6
  go_wp2_with fail
  refine HT2.out.mono ?_
  rintro e w7 ⟨S2, rfl, hS2, hb7, hfr2⟩
  have B7 := B6.trans (hb7.mono B6.size)
  have V7 := V6.call hb7
  have k37 := k36.call hb7
  have k87 := k86.call hb7
  have rK17 := rK16.on_ hb7
  obtain ⟨Q1, Q2, Q3, e1, f1, e2, f2, e3, f3, hS2e, hC2, hC2m, uC2, hL2, hL2m, uL2, hH2, _, _⟩ := hS2.ex
  subst hS2e
  obtain ⟨_, _, _, _, _, _, _, _, _, hfe, hq1, hq2, hq3⟩ := hfr2
  simp only [Value.agg.injEq, Array.mk.injEq, List.cons.injEq, Value.slice.injEq, and_true] at hfe
  obtain ⟨⟨rfl, -, -⟩, ⟨rfl, -, -⟩, rfl, -, -⟩ := hfe
  have hb6b : b < w6.heap.size := V6.lt
  have hS2' := Lib.hid hS2
  obtain ⟨s13, hs13⟩ : ∃ s13, w7.heap.size = s13 := ⟨_, rfl⟩
  have k13 := Blk.new w7 94 #[.slice Q1 e1 f1, .slice Q2 e2 f2, .slice Q3 e3 f3]
  rw [hs13] at k13
  have hbz : Below w7.heap.size w7 (w7.alloc (.cells #[.slice Q1 e1 f1, .slice Q2 e2 f2, .slice Q3 e3 f3] 94)) := (Below.refl _ _).alloc (Nat.le_refl _) _
  have hH2' := Lib.hid hH2
  have hC2' := Lib.hid (And.intro hC2 (And.intro hC2m uC2))
  have hL2' := Lib.hid (And.intro hL2 (And.intro hL2m uL2))
  clear HT2 V6 k36 k86 hb7 hS2 hH2 rK16 B6 hC2 hC2m uC2 hL2 hL2m uL2
  go_upto_region 12 with fail
  have V8 := V7.call hbz
  have k38 := k37.call hbz
  have k88 := k87.call hbz
  have rK18 := rK17.on_ hbz
  have hS8 := Lib.hid (hS2'.out.on hbz)
  have B8 := B7.trans (hbz.mono B7.size)
  have uC8 := Lib.hid ((hC2'.out.2.2.below hbz).more hbz.size)
  have uL8 := Lib.hid ((hL2'.out.2.2.below hbz).more hbz.size)
  generalize w7.alloc _ = w8 at *
  try simp only [hs13]
  have hs8b : b < w8.heap.size := V8.lt
  have hbs13 : b < s13 := by have := V7.lt; omega
  have hKc := kept_congr (V := V) (U := V1) (l := []) (fun p _ _ => j2'.out.byt p)
  have HK2 := Lib.hid (HKp.out V1 w8 V8)
  rw [hKc.1, hK1'.out, hkn1'.out] at HK2
  rw [hKc.1, hK1'.out] at hKc
  have hKc' := Lib.hid hKc.2
  have hm3 : e3 = m3 + jl := by rw [← hH2'.out, ← hH1'.out]; exact j3
  have hm3' : ((e3 : Int) != (m3 : Int) + (jl : Int)) = false := by rw [bne_eq_false_iff_eq]; omega
  have he3 : e3 ≤ 1024 := by rw [← hH2'.out]; exact hugesF_len V1 1024
  have hw3 : wrap64 ((m3 : Int) + (jl : Int)) = (m3 : Int) + (jl : Int) := by unfold wrap64; omega
  have hkn : kn1 ≤ 1024 := by
    rw [← hkn1'.out, ← hK1'.out]
    exact Nat.le_trans (List.length_filter_le _ _) (datL_len V 1024)
  have hm3l := Lib.hid hm3
  clear hbz V7 k37 k87 rK17 hS2' B7 hKc hm3 j3
  have c38 := k38.cell
  have c88 := k88.cell
  go_wp2_with fail
  clear c38 c88
  refine HK2.out.mono ?_
  rintro e w9 ⟨Al, cl, rfl, rK2, hb9, _⟩
  have V9 := V8.call hb9
  have k39 := k38.call hb9
  have k89 := k88.call hb9
  have k139 := k13.call hb9
  have rK19 := rK18.on_ hb9
  rw [hKc'.out] at rK2
  have B9 := B8.trans (hb9.mono B8.size)
  have HEq := Lib.hid (equalDa_any Al Ak kn1 cl ck V K1 w9 hkn1'.out rK2 rK19 hkn)
  have hS9 := Lib.hid (hS8.out.on hb9)
  have uC9 := Lib.hid ((uC8.out.below hb9).more hb9.size)
  have uL9 := Lib.hid ((uL8.out.below hb9).more hb9.size)
  clear HK2 V8 k38 k88 k13 hb9 rK18 rK2 rK19 B8 hS8 uC8 uL8
  go_wp2_with fail
  refine HEq.out.mono ?_
  rintro e w10 ⟨rfl, hb10⟩
  have V10 := V9.call hb10
  have k310 := k39.call hb10
  have k810 := k89.call hb10
  have k1310 := k139.call hb10
  have B10 := B9.trans (hb10.mono B9.size)
  have hS10 := hS9.out.on hb10
  have uC10 := Lib.hid ((uC9.out.below hb10).more hb10.size)
  have uL10 := Lib.hid ((uL9.out.below hb10).more hb10.size)
  have c310 := k310.cell
  have c810 := k810.cell
  have c1310 := k1310.cell
  obtain ⟨ord, hord, HCh⟩ := chooseOrdN_any (setA (comF V1)) (liveF V1 vs) (hugesF V1 1024)
  have HCh1 := HCh (.agg #[.slice Q1 e1 f1, .slice Q2 e2 f2, .slice Q3 e3 f3]) pages w10 hS10
  have hfew := fewest_law pages ord (hok.out V1 j1'.out) hord
  generalize chooseA (setA (comF V1)) (liveF V1 vs) (hugesF V1 1024) pages ord = R at *
  obtain ⟨lc, ec⟩ := R
  unfold SpEN at HCh1
  simp only at HCh1
  obtain ⟨np, hnp⟩ : ∃ np, lc.length = np := ⟨_, rfl⟩
  rw [hnp] at HCh1
  have HCh2 := Lib.hid HCh1
  have hfew' := Lib.hid hfew
  have hnp' := Lib.hid hnp
  clear HEq V9 k39 k89 k139 hb10 B9 hS9 hord HCh HCh1 hfew hnp uC9 uL9
  have step : ∀ P : Prop, (n4 = 0 → er = 0 → P) → (n4 ≠ 0 → P) → P := fun P h1 h2 => by
    by_cases e : n4 = 0
    · exact h1 e (j4'.out e)
    · exact h2 e
  refine step _ (fun hn40 her0 => ?_) (fun hn40 => ?_)
  · subst her0
    subst hn40
    go_wp2_with fail
    clear c310 c810 c1310
    refine HCh2.out.mono ?_
    rintro e w11 ⟨A15, c15, rfl, u15, hc15, hc15m, hb11, hf15⟩
    have V11 := V10.call hb11
    have k311 := k310.call hb11
    have k1311 := k1310.call hb11
    have B11 := B10.trans (hb11.mono B10.size)
    have hS11 := Lib.hid (hS10.on hb11)
    have uC11 := Lib.hid ((uC10.out.below hb11).more hb11.size)
    have uL11 := Lib.hid ((uL10.out.below hb11).more hb11.size)
    have hs1011 := hb11.size
    have hb10b : b < w10.heap.size := V10.lt
    clear HCh2 V10 k310 k810 k1310 hb11 hS10 B10 uC10 uL10
    rcases hfew'.out with ⟨hne, _, _⟩ | ⟨he0, _, _, hcan, _, _, hidl, _⟩
    · have hne' : (ec != 0) = true := by simpa using hne
      clear hne
      go_wp2_with fail
      refine (HA.out _).mono ?_
      rintro e wz ⟨rfl, hbz⟩
      go_wp2_with fail
      go_ret
      exact ⟨rfl, hend.out _ _ (hend.out _ _ hb0 B11) hbz⟩
    simp only at he0 hcan hidl
    subst he0
    have hlen15 := hcan.len
    rw [hnp'.out] at hlen15
    have hi15 : ∀ p : Nat, p < 1024 → mem (p : Int) lc = true → comF V1 p = true ∧ mem (p : Int) (liveF V1 vs) = false := fun p hp hm => by
      have := few_idle (setA_can _) (live_can V1 vs) hcan hidl hp hm
      rwa [comF_mem V1 hp] at this
    obtain ⟨Bk, hBk⟩ : ∃ Bk, hbF V1 (splitA (setA (comF V1)) (liveF V1 vs) (hugesF V1 1024) lc) lc = Bk := ⟨_, rfl⟩
    obtain ⟨b1, b2, b3, b4, b5, b6⟩ := keeps_back j1'.out vs lc hcan hi15 Bk hBk
    have hBl := (hbF_len V1 (splitA (setA (comF V1)) (liveF V1 vs) (hugesF V1 1024) lc) lc).2
    rw [hBk, hnp'.out] at hBl
    have HCk := Lib.hid (refSpCheck_any A15 np c15 lc w11 hnp'.out (by unfold maxLen; omega) u15)
    rw [chkS_zero.2 hcan] at HCk
    have hcan' := Lib.hid hcan
    have hfE := Lib.hid (fun j : Fin 1 => hfew'.out)
    clear hfew' hidl hi15 hfE
    go_wp2_with fail
    refine HCk.out.mono ?_
    rintro e w12 ⟨rfl, hb12⟩
    have V12 := V11.call hb12
    have k312 := k311.call hb12
    have k1312 := k1311.call hb12
    have B12 := B11.trans (hb12.mono B11.size)
    have u152 := (u15.below hb12).more hb12.size
    have hS12 := Lib.hid (hS11.out.on hb12)
    have uC12 := Lib.hid ((uC11.out.below hb12).more hb12.size)
    have uL12 := Lib.hid ((uL11.out.below hb12).more hb12.size)
    have hs12 := hb12.size
    have HK3 := Lib.hid (kept_any b A15 np c15 lc V1 w12 V12 hnp'.out (by omega) u152 hcan'.out.1)
    obtain ⟨K3, hK3⟩ : ∃ K3, keptL V1 lc 1024 = K3 := ⟨_, rfl⟩
    have hK3' := Lib.hid hK3
    rw [hK3] at HK3
    obtain ⟨kn3, hkn3⟩ : ∃ kn3, K3.length = kn3 := ⟨_, rfl⟩
    rw [hkn3] at HK3
    have hkn3' := Lib.hid hkn3
    have hkn3l : kn3 ≤ 1024 := by
      rw [← hkn3, ← hK3]
      exact Nat.le_trans (List.length_filter_le _ _) (datL_len V1 1024)
    clear HCk V11 k311 k1311 hb12 hS11 B11 u15 hK3 hkn3 uC11 uL11
    go_wp2_with fail
    refine HK3.out.mono ?_
    rintro e w13 ⟨A10, c10, rfl, rK3, hb13, hfK3⟩
    have V13 := V12.call hb13
    have k313 := k312.call hb13
    have k1313 := k1312.call hb13
    have B13 := B12.trans (hb13.mono B12.size)
    have u153 := (u152.below hb13).more hb13.size
    have hS13 := hS12.out.on hb13
    have uC13 := Lib.hid ((uC12.out.below hb13).more hb13.size)
    have uL13 := Lib.hid ((uL12.out.below hb13).more hb13.size)
    have hs13' := hb13.size
    have c1313 := k1313.cell
    have HBk := Lib.hid (hback_any b (.agg #[.slice Q1 e1 f1, .slice Q2 e2 f2, .slice Q3 e3 f3]) (setA (comF V1)) (liveF V1 vs) (hugesF V1 1024) A15 np c15 lc V1 w13 V13 j1'.out.good.kinds hS13 hnp'.out (by omega) u153 (fun g o e _ => by have := hf15 g o e; omega))
    rw [hBk] at HBk
    unfold BackO at HBk
    obtain ⟨bn, bm, be, V2⟩ := Bk
    simp only at b1 b2 b3 b4 b5 b6 hBl HBk
    have hgl : (lc.take bm).length = bm := by rw [List.length_take, hnp'.out]; omega
    have b6' := Lib.hid (fun h => b6 (j5'.out h))
    have b1' := Lib.hid b1
    have b2' := Lib.hid b2
    have b3' := Lib.hid b3
    have b4' := Lib.hid b4
    have b5' := Lib.hid b5
    have hgl' := Lib.hid hgl
    clear HK3 V12 k312 k1312 hb13 hS12 hS13 B12 u152 hBk b1 b2 b3 b4 b5 b6 hgl uC12 uL12
    go_wp2_with fail
    clear c1313
    refine HBk.out.mono ?_
    rintro e w14 ⟨A16, c16, A17, c17, rfl, _, _, u17, hf17, V14, F14⟩
    have B14 := B13.trans (F14.below B13.size (fun k hk e => by omega))
    have k314 := F14.blk k313 (by show ¬ s = b; omega)
    have k1314 := F14.blk k1313 (by show ¬ s13 = b; omega)
    have rK34 := (rK3.far_ F14 (fun g o e => by have := hfK3 g o e; show ¬ g = b; omega)).more F14.size
    have u154 := (F14.ru u153 (fun g o e => by have := hf15 g o e; show ¬ g = b; omega)).more F14.size
    have uC14 := Lib.hid ((F14.ru uC13.out (fun g o e => by have := hq1 g o e; show ¬ g = b; omega)).more F14.size)
    have uL14 := Lib.hid ((F14.ru uL13.out (fun g o e => by have := hq2 g o e; show ¬ g = b; omega)).more F14.size)
    have hv14 := (qv.out.below B14).more B14.size
    have HT3 := Lib.hid (HT.out V2 w14 V14 hv14)
    rw [hok.out V2 b1'.out] at HT3
    clear HBk V13 k313 k1313 F14 B13 rK3 u153 uC13 uL13 hv14
    go_wp2_with fail
    refine HT3.out.mono ?_
    rintro e w15 ⟨S3, rfl, hS3, hb15, _⟩
    have B15 := B14.trans (hb15.mono B14.size)
    have V15 := V14.call hb15
    have k315 := k314.call hb15
    have k1315 := k1314.call hb15
    have rK35 := rK34.on_ hb15
    have u155 := (u154.below hb15).more hb15.size
    have u175 := (u17.below hb15).more hb15.size
    have uC15 := Lib.hid ((uC14.out.below hb15).more hb15.size)
    have uL15 := Lib.hid ((uL14.out.below hb15).more hb15.size)
    obtain ⟨T1, T2, T3, x1, y1, x2, y2, x3, y3, hS3e, hC3, hC3m, uC3, hL3, hL3m, uL3, _, _, _⟩ := hS3.ex
    subst hS3e
    obtain ⟨s18, hs18⟩ : ∃ s18, w15.heap.size = s18 := ⟨_, rfl⟩
    have k18 := Blk.new w15 94 #[.slice T1 x1 y1, .slice T2 x2 y2, .slice T3 x3 y3]
    rw [hs18] at k18
    have hbz : Below w15.heap.size w15 (w15.alloc (.cells #[.slice T1 x1 y1, .slice T2 x2 y2, .slice T3 x3 y3] 94)) := (Below.refl _ _).alloc (Nat.le_refl _) _
    have hC3' := Lib.hid (And.intro hC3 (And.intro hC3m uC3))
    have hL3' := Lib.hid (And.intro hL3 (And.intro hL3m uL3))
    clear HT3 V14 k314 k1314 hb15 hS3 rK34 B14 u154 u17 hC3 hC3m uC3 hL3 hL3m uL3 uC14 uL14
    go_upto_region 22 with fail
    have V16 := V15.call hbz
    have k316 := k315.call hbz
    have k1316 := k1315.call hbz
    have rK36 := rK35.on_ hbz
    have u156 := (u155.below hbz).more hbz.size
    have u176 := (u175.below hbz).more hbz.size
    have B16 := B15.trans (hbz.mono B15.size)
    have uC16 := Lib.hid ((uC15.out.below hbz).more hbz.size)
    have uL16 := Lib.hid ((uL15.out.below hbz).more hbz.size)
    have vC16 := Lib.hid ((hC3'.out.2.2.below hbz).more hbz.size)
    have vL16 := Lib.hid ((hL3'.out.2.2.below hbz).more hbz.size)
    generalize w15.alloc _ = w16 at *
    try simp only [hs18]
    have hKc := kept_congr (V := V1) (U := V2) (l := lc) b2'.out
    have HK4 := Lib.hid (kept_any b A15 np c15 lc V2 w16 V16 hnp'.out (by omega) u156 hcan'.out.1)
    rw [hKc.1, hK3'.out, hkn3'.out] at HK4
    rw [hKc.1, hK3'.out] at hKc
    have hKc' := Lib.hid hKc.2
    clear hbz V15 k315 k1315 rK35 u155 u175 B15 hKc uC15 uL15
    go_wp2_with fail
    refine HK4.out.mono ?_
    rintro e w17 ⟨A18, c18, rfl, rK4, hb17, _⟩
    rw [hKc'.out] at rK4
    have rK37 := rK36.on_ hb17
    have k317 := k316.call hb17
    have k1317 := k1316.call hb17
    have k187 := k18.call hb17
    have u157 := (u156.below hb17).more hb17.size
    have u177 := (u176.below hb17).more hb17.size
    have B17 := B16.trans (hb17.mono B16.size)
    have uC17 := Lib.hid ((uC16.out.below hb17).more hb17.size)
    have uL17 := Lib.hid ((uL16.out.below hb17).more hb17.size)
    have vC17 := Lib.hid ((vC16.out.below hb17).more hb17.size)
    have vL17 := Lib.hid ((vL16.out.below hb17).more hb17.size)
    have HEq2 := Lib.hid (equalDa_any A18 A10 kn3 c18 c10 V1 K3 w17 hkn3'.out rK4 rK37 hkn3l)
    clear HK4 V16 k316 k1316 k18 hb17 rK36 u156 u176 B16 rK4 rK37 uC16 uL16 vC16 vL16
    go_wp2_with fail
    refine HEq2.out.mono ?_
    rintro e w18 ⟨rfl, hb18⟩
    have k318 := k317.call hb18
    have k1318 := k1317.call hb18
    have k188 := k187.call hb18
    have u158 := (u157.below hb18).more hb18.size
    have u178 := (u177.below hb18).more hb18.size
    have B18 := B17.trans (hb18.mono B17.size)
    have uC18 := Lib.hid ((uC17.out.below hb18).more hb18.size)
    have uL18 := Lib.hid ((uL17.out.below hb18).more hb18.size)
    have vC18 := Lib.hid ((vC17.out.below hb18).more hb18.size)
    have vL18 := Lib.hid ((vL17.out.below hb18).more hb18.size)
    have hx2 : x2 = e2 := by rw [← hL3'.out.1, ← hL2'.out.1, b3'.out]
    have HSm := Lib.hid (sameT_any T2 Q2 e2 y2 f2 (liveF V1 vs) (liveF V1 vs) w18 hL2'.out.1 hL2'.out.2.1 rfl (by have := vL18.out; rwa [b3'.out] at this) uL18.out)
    subst hx2
    have c1318 := k1318.cell
    have c188 := k188.cell
    clear HEq2 k317 k1317 k187 hb18 u157 u177 B17 uC17 uL17 vC17 vL17 uL18 vL18
    go_wp2_with fail
    clear c1318 c188
    refine HSm.out.mono ?_
    rintro e w19 ⟨rfl, hb19⟩
    have k319 := k318.call hb19
    have k1319 := k1318.call hb19
    have k189 := k188.call hb19
    have u159 := (u158.below hb19).more hb19.size
    have u179 := (u178.below hb19).more hb19.size
    have B19 := B18.trans (hb19.mono B18.size)
    have uC19 := Lib.hid ((uC18.out.below hb19).more hb19.size)
    have vC19 := Lib.hid ((vC18.out.below hb19).more hb19.size)
    have HC3 := Lib.hid (refSpCheck_any A17 bm c17 (lc.take bm) w19 hgl'.out (by unfold maxLen; omega) u179)
    rw [chkS_zero.2 b4'.out] at HC3
    clear HSm k318 k1318 k188 hb19 u158 u178 B18 uC18 vC18
    go_wp2_with fail
    refine HC3.out.mono ?_
    rintro e w20 ⟨rfl, hb20⟩
    have k320 := k319.call hb20
    have k1320 := k1319.call hb20
    have k1820 := k189.call hb20
    have u1520 := (u159.below hb20).more hb20.size
    have u1720 := (u179.below hb20).more hb20.size
    have B20 := B19.trans (hb20.mono B19.size)
    have uC20 := (uC19.out.below hb20).more hb20.size
    have vC20 := Lib.hid ((vC19.out.below hb20).more hb20.size)
    have c1320 := k1320.cell
    have HMi := Lib.hid (rMinus_any Q1 A17 e1 f1 bm c17 (setA (comF V1)) (lc.take bm) w20 hC2'.out.1 hC2'.out.2.1 uC20 hgl'.out (by unfold maxLen; omega) u1720)
    have hk2 : chk2 (setA (comF V1)) (lc.take bm) = 0 := by unfold chk2; rw [if_pos (chkS_zero.2 (setA_can _))]; exact chkS_zero.2 b4'.out
    rw [hk2, b5'.out] at HMi
    unfold SpansR at HMi
    have hx1 : (setA (comF V2)).length = x1 := hC3'.out.1
    rw [hx1] at HMi
    clear HC3 k319 k1319 k189 hb20 u159 u179 B19 uC19 vC19 hk2
    go_wp2_with fail
    clear c1320
    refine HMi.out.mono ?_
    rintro e w21 ⟨A19, c19, rfl, u19, _, _, _, hb21⟩
    have k321 := k320.call hb21
    have k1821 := k1820.call hb21
    have u1521 := (u1520.below hb21).more hb21.size
    have u1721 := (u1720.below hb21).more hb21.size
    have B21 := B20.trans (hb21.mono B20.size)
    have vC21 := (vC20.out.below hb21).more hb21.size
    have c321 := k321.cell
    have c1821 := k1821.cell
    have HS4 := Lib.hid (sameT_any T1 A19 x1 y1 c19 (setA (comF V2)) (setA (comF V2)) w21 hC3'.out.1 hC3'.out.2.1 rfl vC21 u19)
    clear HMi k320 k1820 hb21 u1520 u1720 B20 uC20 vC20
    go_wp2_with fail
    refine HS4.out.mono ?_
    rintro e w22 ⟨rfl, hb22⟩
    have k322 := k321.call hb22
    have c322 := k322.cell
    have u1522 := (u1521.below hb22).more hb22.size
    have u1722 := (u1721.below hb22).more hb22.size
    have B22 := B21.trans (hb22.mono B21.size)
    clear HS4 c321 c1821 k1821 hb22 u1521 u1721 u19 vC21
    obtain ⟨y4, y5⟩ := b6'.out (by first | rfl | trivial)
    subst y4
    rw [y5] at u1722
    have hbm : bm = np := by rw [← hgl'.out, y5, hnp'.out]
    subst hbm
    go_wp2_with fail
    refine (sameT_any A17 A15 bm c17 c15 lc lc w22 hnp'.out (by unfold maxLen; omega) rfl u1722 u1522).mono ?_
    rintro e w23 ⟨rfl, hb23⟩
    have B23 := B22.trans (hb23.mono B22.size)
    go_wp2_with fail
    refine (HA.out _).mono ?_
    rintro e wz ⟨rfl, hbz⟩
    go_wp2_with fail
    go_ret
    exact ⟨rfl, hend.out _ _ (hend.out _ _ hb0 B23) hbz⟩
  · have hn41 : ((n4 : Int) == 0) = false := by rw [beq_eq_false_iff_ne]; omega
    go_wp2_with fail
    clear c310 c810 c1310
    refine HCh2.out.mono ?_
    rintro e w11 ⟨A15, c15, rfl, u15, hc15, hc15m, hb11, hf15⟩
    have V11 := V10.call hb11
    have k311 := k310.call hb11
    have k1311 := k1310.call hb11
    have B11 := B10.trans (hb11.mono B10.size)
    have hS11 := Lib.hid (hS10.on hb11)
    have uC11 := Lib.hid ((uC10.out.below hb11).more hb11.size)
    have uL11 := Lib.hid ((uL10.out.below hb11).more hb11.size)
    have hs1011 := hb11.size
    have hb10b : b < w10.heap.size := V10.lt
    clear HCh2 V10 k310 k810 k1310 hb11 hS10 B10 uC10 uL10
    rcases hfew'.out with ⟨hne, _, _⟩ | ⟨he0, _, _, hcan, _, _, hidl, _⟩
    · have hne' : (ec != 0) = true := by simpa using hne
      clear hne
      go_wp2_with fail
      refine (HA.out _).mono ?_
      rintro e wz ⟨rfl, hbz⟩
      go_wp2_with fail
      go_ret
      exact ⟨rfl, hend.out _ _ (hend.out _ _ hb0 B11) hbz⟩
    simp only at he0 hcan hidl
    subst he0
    have hlen15 := hcan.len
    rw [hnp'.out] at hlen15
    have hi15 : ∀ p : Nat, p < 1024 → mem (p : Int) lc = true → comF V1 p = true ∧ mem (p : Int) (liveF V1 vs) = false := fun p hp hm => by
      have := few_idle (setA_can _) (live_can V1 vs) hcan hidl hp hm
      rwa [comF_mem V1 hp] at this
    obtain ⟨Bk, hBk⟩ : ∃ Bk, hbF V1 (splitA (setA (comF V1)) (liveF V1 vs) (hugesF V1 1024) lc) lc = Bk := ⟨_, rfl⟩
    obtain ⟨b1, b2, b3, b4, b5, b6⟩ := keeps_back j1'.out vs lc hcan hi15 Bk hBk
    have hBl := (hbF_len V1 (splitA (setA (comF V1)) (liveF V1 vs) (hugesF V1 1024) lc) lc).2
    rw [hBk, hnp'.out] at hBl
    have HCk := Lib.hid (refSpCheck_any A15 np c15 lc w11 hnp'.out (by unfold maxLen; omega) u15)
    rw [chkS_zero.2 hcan] at HCk
    have hcan' := Lib.hid hcan
    have hfE := Lib.hid (fun j : Fin 1 => hfew'.out)
    clear hfew' hidl hi15 hfE
    go_wp2_with fail
    refine HCk.out.mono ?_
    rintro e w12 ⟨rfl, hb12⟩
    have V12 := V11.call hb12
    have k312 := k311.call hb12
    have k1312 := k1311.call hb12
    have B12 := B11.trans (hb12.mono B11.size)
    have u152 := (u15.below hb12).more hb12.size
    have hS12 := Lib.hid (hS11.out.on hb12)
    have uC12 := Lib.hid ((uC11.out.below hb12).more hb12.size)
    have uL12 := Lib.hid ((uL11.out.below hb12).more hb12.size)
    have hs12 := hb12.size
    have HK3 := Lib.hid (kept_any b A15 np c15 lc V1 w12 V12 hnp'.out (by omega) u152 hcan'.out.1)
    obtain ⟨K3, hK3⟩ : ∃ K3, keptL V1 lc 1024 = K3 := ⟨_, rfl⟩
    have hK3' := Lib.hid hK3
    rw [hK3] at HK3
    obtain ⟨kn3, hkn3⟩ : ∃ kn3, K3.length = kn3 := ⟨_, rfl⟩
    rw [hkn3] at HK3
    have hkn3' := Lib.hid hkn3
    have hkn3l : kn3 ≤ 1024 := by
      rw [← hkn3, ← hK3]
      exact Nat.le_trans (List.length_filter_le _ _) (datL_len V1 1024)
    clear HCk V11 k311 k1311 hb12 hS11 B11 u15 hK3 hkn3 uC11 uL11
    go_wp2_with fail
    refine HK3.out.mono ?_
    rintro e w13 ⟨A10, c10, rfl, rK3, hb13, hfK3⟩
    have V13 := V12.call hb13
    have k313 := k312.call hb13
    have k1313 := k1312.call hb13
    have B13 := B12.trans (hb13.mono B12.size)
    have u153 := (u152.below hb13).more hb13.size
    have hS13 := hS12.out.on hb13
    have uC13 := Lib.hid ((uC12.out.below hb13).more hb13.size)
    have uL13 := Lib.hid ((uL12.out.below hb13).more hb13.size)
    have hs13' := hb13.size
    have c1313 := k1313.cell
    have HBk := Lib.hid (hback_any b (.agg #[.slice Q1 e1 f1, .slice Q2 e2 f2, .slice Q3 e3 f3]) (setA (comF V1)) (liveF V1 vs) (hugesF V1 1024) A15 np c15 lc V1 w13 V13 j1'.out.good.kinds hS13 hnp'.out (by omega) u153 (fun g o e _ => by have := hf15 g o e; omega))
    rw [hBk] at HBk
    unfold BackO at HBk
    obtain ⟨bn, bm, be, V2⟩ := Bk
    simp only at b1 b2 b3 b4 b5 b6 hBl HBk
    have hgl : (lc.take bm).length = bm := by rw [List.length_take, hnp'.out]; omega
    have b6' := Lib.hid (fun h => b6 (j5'.out h))
    have b1' := Lib.hid b1
    have b2' := Lib.hid b2
    have b3' := Lib.hid b3
    have b4' := Lib.hid b4
    have b5' := Lib.hid b5
    have hgl' := Lib.hid hgl
    clear HK3 V12 k312 k1312 hb13 hS12 hS13 B12 u152 hBk b1 b2 b3 b4 b5 b6 hgl uC12 uL12
    go_wp2_with fail
    clear c1313
    refine HBk.out.mono ?_
    rintro e w14 ⟨A16, c16, A17, c17, rfl, _, _, u17, hf17, V14, F14⟩
    have B14 := B13.trans (F14.below B13.size (fun k hk e => by omega))
    have k314 := F14.blk k313 (by show ¬ s = b; omega)
    have k1314 := F14.blk k1313 (by show ¬ s13 = b; omega)
    have rK34 := (rK3.far_ F14 (fun g o e => by have := hfK3 g o e; show ¬ g = b; omega)).more F14.size
    have u154 := (F14.ru u153 (fun g o e => by have := hf15 g o e; show ¬ g = b; omega)).more F14.size
    have uC14 := Lib.hid ((F14.ru uC13.out (fun g o e => by have := hq1 g o e; show ¬ g = b; omega)).more F14.size)
    have uL14 := Lib.hid ((F14.ru uL13.out (fun g o e => by have := hq2 g o e; show ¬ g = b; omega)).more F14.size)
    have hv14 := (qv.out.below B14).more B14.size
    have HT3 := Lib.hid (HT.out V2 w14 V14 hv14)
    rw [hok.out V2 b1'.out] at HT3
    clear HBk V13 k313 k1313 F14 B13 rK3 u153 uC13 uL13 hv14
    go_wp2_with fail
    refine HT3.out.mono ?_
    rintro e w15 ⟨S3, rfl, hS3, hb15, _⟩
    have B15 := B14.trans (hb15.mono B14.size)
    have V15 := V14.call hb15
    have k315 := k314.call hb15
    have k1315 := k1314.call hb15
    have rK35 := rK34.on_ hb15
    have u155 := (u154.below hb15).more hb15.size
    have u175 := (u17.below hb15).more hb15.size
    have uC15 := Lib.hid ((uC14.out.below hb15).more hb15.size)
    have uL15 := Lib.hid ((uL14.out.below hb15).more hb15.size)
    obtain ⟨T1, T2, T3, x1, y1, x2, y2, x3, y3, hS3e, hC3, hC3m, uC3, hL3, hL3m, uL3, _, _, _⟩ := hS3.ex
    subst hS3e
    obtain ⟨s18, hs18⟩ : ∃ s18, w15.heap.size = s18 := ⟨_, rfl⟩
    have k18 := Blk.new w15 94 #[.slice T1 x1 y1, .slice T2 x2 y2, .slice T3 x3 y3]
    rw [hs18] at k18
    have hbz : Below w15.heap.size w15 (w15.alloc (.cells #[.slice T1 x1 y1, .slice T2 x2 y2, .slice T3 x3 y3] 94)) := (Below.refl _ _).alloc (Nat.le_refl _) _
    have hC3' := Lib.hid (And.intro hC3 (And.intro hC3m uC3))
    have hL3' := Lib.hid (And.intro hL3 (And.intro hL3m uL3))
    clear HT3 V14 k314 k1314 hb15 hS3 rK34 B14 u154 u17 hC3 hC3m uC3 hL3 hL3m uL3 uC14 uL14
    go_upto_region 22 with fail
    have V16 := V15.call hbz
    have k316 := k315.call hbz
    have k1316 := k1315.call hbz
    have rK36 := rK35.on_ hbz
    have u156 := (u155.below hbz).more hbz.size
    have u176 := (u175.below hbz).more hbz.size
    have B16 := B15.trans (hbz.mono B15.size)
    have uC16 := Lib.hid ((uC15.out.below hbz).more hbz.size)
    have uL16 := Lib.hid ((uL15.out.below hbz).more hbz.size)
    have vC16 := Lib.hid ((hC3'.out.2.2.below hbz).more hbz.size)
    have vL16 := Lib.hid ((hL3'.out.2.2.below hbz).more hbz.size)
    generalize w15.alloc _ = w16 at *
    try simp only [hs18]
    have hKc := kept_congr (V := V1) (U := V2) (l := lc) b2'.out
    have HK4 := Lib.hid (kept_any b A15 np c15 lc V2 w16 V16 hnp'.out (by omega) u156 hcan'.out.1)
    rw [hKc.1, hK3'.out, hkn3'.out] at HK4
    rw [hKc.1, hK3'.out] at hKc
    have hKc' := Lib.hid hKc.2
    clear hbz V15 k315 k1315 rK35 u155 u175 B15 hKc uC15 uL15
    go_wp2_with fail
    refine HK4.out.mono ?_
    rintro e w17 ⟨A18, c18, rfl, rK4, hb17, _⟩
    rw [hKc'.out] at rK4
    have rK37 := rK36.on_ hb17
    have k317 := k316.call hb17
    have k1317 := k1316.call hb17
    have k187 := k18.call hb17
    have u157 := (u156.below hb17).more hb17.size
    have u177 := (u176.below hb17).more hb17.size
    have B17 := B16.trans (hb17.mono B16.size)
    have uC17 := Lib.hid ((uC16.out.below hb17).more hb17.size)
    have uL17 := Lib.hid ((uL16.out.below hb17).more hb17.size)
    have vC17 := Lib.hid ((vC16.out.below hb17).more hb17.size)
    have vL17 := Lib.hid ((vL16.out.below hb17).more hb17.size)
    have HEq2 := Lib.hid (equalDa_any A18 A10 kn3 c18 c10 V1 K3 w17 hkn3'.out rK4 rK37 hkn3l)
    clear HK4 V16 k316 k1316 k18 hb17 rK36 u156 u176 B16 rK4 rK37 uC16 uL16 vC16 vL16
    go_wp2_with fail
    refine HEq2.out.mono ?_
    rintro e w18 ⟨rfl, hb18⟩
    have k318 := k317.call hb18
    have k1318 := k1317.call hb18
    have k188 := k187.call hb18
    have u158 := (u157.below hb18).more hb18.size
    have u178 := (u177.below hb18).more hb18.size
    have B18 := B17.trans (hb18.mono B17.size)
    have uC18 := Lib.hid ((uC17.out.below hb18).more hb18.size)
    have uL18 := Lib.hid ((uL17.out.below hb18).more hb18.size)
    have vC18 := Lib.hid ((vC17.out.below hb18).more hb18.size)
    have vL18 := Lib.hid ((vL17.out.below hb18).more hb18.size)
    have hx2 : x2 = e2 := by rw [← hL3'.out.1, ← hL2'.out.1, b3'.out]
    have HSm := Lib.hid (sameT_any T2 Q2 e2 y2 f2 (liveF V1 vs) (liveF V1 vs) w18 hL2'.out.1 hL2'.out.2.1 rfl (by have := vL18.out; rwa [b3'.out] at this) uL18.out)
    subst hx2
    have c1318 := k1318.cell
    have c188 := k188.cell
    clear HEq2 k317 k1317 k187 hb18 u157 u177 B17 uC17 uL17 vC17 vL17 uL18 vL18
    go_wp2_with fail
    clear c1318 c188
    refine HSm.out.mono ?_
    rintro e w19 ⟨rfl, hb19⟩
    have k319 := k318.call hb19
    have k1319 := k1318.call hb19
    have k189 := k188.call hb19
    have u159 := (u158.below hb19).more hb19.size
    have u179 := (u178.below hb19).more hb19.size
    have B19 := B18.trans (hb19.mono B18.size)
    have uC19 := Lib.hid ((uC18.out.below hb19).more hb19.size)
    have vC19 := Lib.hid ((vC18.out.below hb19).more hb19.size)
    have HC3 := Lib.hid (refSpCheck_any A17 bm c17 (lc.take bm) w19 hgl'.out (by unfold maxLen; omega) u179)
    rw [chkS_zero.2 b4'.out] at HC3
    clear HSm k318 k1318 k188 hb19 u158 u178 B18 uC18 vC18
    go_wp2_with fail
    refine HC3.out.mono ?_
    rintro e w20 ⟨rfl, hb20⟩
    have k320 := k319.call hb20
    have k1320 := k1319.call hb20
    have k1820 := k189.call hb20
    have u1520 := (u159.below hb20).more hb20.size
    have u1720 := (u179.below hb20).more hb20.size
    have B20 := B19.trans (hb20.mono B19.size)
    have uC20 := (uC19.out.below hb20).more hb20.size
    have vC20 := Lib.hid ((vC19.out.below hb20).more hb20.size)
    have c1320 := k1320.cell
    have HMi := Lib.hid (rMinus_any Q1 A17 e1 f1 bm c17 (setA (comF V1)) (lc.take bm) w20 hC2'.out.1 hC2'.out.2.1 uC20 hgl'.out (by unfold maxLen; omega) u1720)
    have hk2 : chk2 (setA (comF V1)) (lc.take bm) = 0 := by unfold chk2; rw [if_pos (chkS_zero.2 (setA_can _))]; exact chkS_zero.2 b4'.out
    rw [hk2, b5'.out] at HMi
    unfold SpansR at HMi
    have hx1 : (setA (comF V2)).length = x1 := hC3'.out.1
    rw [hx1] at HMi
    clear HC3 k319 k1319 k189 hb20 u159 u179 B19 uC19 vC19 hk2
    go_wp2_with fail
    clear c1320
    refine HMi.out.mono ?_
    rintro e w21 ⟨A19, c19, rfl, u19, _, _, _, hb21⟩
    have k321 := k320.call hb21
    have k1821 := k1820.call hb21
    have u1521 := (u1520.below hb21).more hb21.size
    have u1721 := (u1720.below hb21).more hb21.size
    have B21 := B20.trans (hb21.mono B20.size)
    have vC21 := (vC20.out.below hb21).more hb21.size
    have c321 := k321.cell
    have c1821 := k1821.cell
    have HS4 := Lib.hid (sameT_any T1 A19 x1 y1 c19 (setA (comF V2)) (setA (comF V2)) w21 hC3'.out.1 hC3'.out.2.1 rfl vC21 u19)
    clear HMi k320 k1820 hb21 u1520 u1720 B20 uC20 vC20
    go_wp2_with fail
    refine HS4.out.mono ?_
    rintro e w22 ⟨rfl, hb22⟩
    have k322 := k321.call hb22
    have c322 := k322.cell
    have u1522 := (u1521.below hb22).more hb22.size
    have u1722 := (u1721.below hb22).more hb22.size
    have B22 := B21.trans (hb22.mono B21.size)
    clear HS4 c321 c1821 k1821 hb22 u1521 u1721 u19 vC21
    have hn42 : decide ((0 : Int) < (n4 : Int)) = true := by rw [decide_eq_true_eq]; omega
    go_wp2_with fail
    refine (HA.out _).mono ?_
    rintro e wz ⟨rfl, hbz⟩
    go_wp2_with fail
    go_ret
    exact ⟨rfl, hend.out _ _ (hend.out _ _ hb0 B22) hbz⟩
set_option maxRecDepth 100000 in
theorem hugeKeeps_lifted (os : Os) (started : os.Started) (H : Type) (enc : TypeId × Value → H) :
    ReturnsInHanded {} Tryz.checked os 7 .any (Rows.hugeKeepsSpec.pre6 enc Tryz.prog Tryz.f7 Rows.hugeKeepsRow.domain false) (Rows.hugeKeepsSpec.post enc Tryz.prog Tryz.f7 false true false false) := by
  refine returnsInHanded_of_change (C := Tryz.checked) own_ started (by kernel_rfl) Tryz.func7
    (ChangeSpec.witness6 (enc := enc) (C := Tryz.checked) false ⟨#[], #[.agg #[.slice none 0 0, .slice none 0 0, .slice none 0 0, .slice none 0 0], .slice none 0 0, .int .i64 0], []⟩ 8 (by kernel_rfl) (by kernel_rfl) (by kernel_rfl) (by kernel_rfl)) ?_
  intro W base args ds gs before hval0 hW _ _
  have hval : ∀ (j : Nat) t v, Tryz.f7.params[j]? = some t → args[j]? = some v → Value.okWide Tryz.prog W .any base t v := hval0
  have hW' := hW
  obtain ⟨p, q, hA0, hV, rfl, _, _⟩ := hW
  have hA : DataW.TrodAll enc Tryz.prog W 0 (fun _ => true) true Tryz.f7.params.toList args.toList ds p := hA0
  rw [Tryz.params7] at hA hval
  obtain ⟨v0, v1, v2, d0, d1, d2, p0, p1, p2, rfl, rfl, rfl, h0, h1, h2⟩ := trodAll_three hA
  obtain ⟨rfl, rfl⟩ := trodVars_none hV
  obtain ⟨A1, A2, A3, A4, n1, c1, n2, c2, n3, c3, n4, c4, us, hs, ws, l, rfl, q1, r1, q2, r2, q3, r3, q4, r4, hz⟩ := openMade (hval 0 90 v0 rfl rfl) h0
  obtain ⟨fuel, hf⟩ := h1
  obtain ⟨A, n, cap, vs, rfl, g1, g2, g3, g4, g5⟩ := openSps hf (hval 1 22 v1 rfl rfl)
  replace h1 : DataW.Trod enc Tryz.prog W 0 (fun _ => true) true 22 _ d1 p1 := ⟨fuel, hf⟩
  obtain ⟨pages, rfl⟩ := okWide_i64 (hval 2 3 v2 rfl rfl)
  simp only [List.append_nil] at hW'
  refine (hkeepsLaw_any A1 A2 A3 A4 A n1 c1 n2 c2 n3 c3 n4 c4 n cap us hs ws l vs pages W q1 q2 q3 q4 hz r1 r2 r3 r4 g1 (Nat.le_trans g2 g3) g5).mono fun e W' ⟨he, hb⟩ => ?_
  subst he
  exact ⟨_, rfl, post_of_below (pv := []) hW' (fun _ _ _ => trodAll_mk1 (shut_bool Tryz.underlying4 true))
    (fun sp hsp => by rw [Tryz.params7]; exact trodAll_mk3 (WideElems.Trod_stays laidOut_ (by kernel_rfl) (of_decide_eq_true (by kernel_rfl)) h0 (fun x hx => hb.same (hW'.lt x (by simp [hx]))) (fun x hx => hsp x (by simp [hx]))) (WideElems.Trod_stays laidOut_ (by kernel_rfl) (of_decide_eq_true (by kernel_rfl)) h1 (fun x hx => hb.same (hW'.lt x (by simp [hx]))) (fun x hx => hsp x (by simp [hx]))) (WideElems.Trod_stays laidOut_ (by kernel_rfl) (of_decide_eq_true (by kernel_rfl)) h2 (fun x hx => hb.same (hW'.lt x (by simp [hx]))) (fun x hx => hsp x (by simp [hx]))))
    (fun _ _ => rfl) (by simp) hb (ok_one (by kernel_rfl) rfl (okWide_bool_mk Tryz.underlying4 true))⟩
theorem hugeKeeps_holds : Rows.HugeKeepsSaid :=
  OpenClaim.holds_of_wide 7 Tryz.f7 rfl rfl rfl rfl rfl rfl rfl ⟨rfl, rfl, rfl, rfl, rfl⟩ rfl rfl rfl rfl rfl (by kernel_rfl) Tryz.func7 (by kernel_rfl)
    (of_decide_eq_true (by kernel_rfl)) (by unfold Func.isWrapper; rw [if_neg (of_decide_eq_false (by kernel_rfl))]; exact ⟨rfl, rfl⟩)
    (fun os started H enc _ => hugeKeeps_lifted os started H enc)
end Go.Proofs.YtpabnbhbcphfiaaGreat
