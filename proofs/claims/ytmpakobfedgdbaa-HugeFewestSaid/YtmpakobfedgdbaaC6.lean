/- Merged texts. Walk of layer 13: the reference's Choose. Plain laws for Choose of layer 13: how many pages are idle outside the groups that stay huge. Plain law for Split of layer 13: the program's groups are the reference's. Plain laws for Choose of layer 13: which groups a choice touches; which of two choices comes first. Plain laws for Choose of layer 13: the greedy choice is better than any other one. Plain laws for Choose of layer 13: the reference, which looks at all sets of huge groups, finds the greedy choice. Plain law for Choose of layer 13: the program's answer is the reference's. Plain law of HugeFewest: what is chosen has so many idle pages, and no choice of as many touches fewer huge groups, or as many with fewer live pages. Plain law of a stable merge in place: rotations, exchanges of neighbours, what a merge leaves. Plain law of a stable merge in place: what a merge leaves. Walks of layer 13: slices.swapRangeCmpFunc of groups. Walks of layer 13: slices.rotateCmpFunc of groups. Walks of layer 13: slices.symMergeCmpFunc of groups, where the first run is one element. -/
import Derived.Test.YtmpakobfedgdbaaC5
namespace Go.Pol
open Go Go.RowKit
/-- the idle pages -/
def idleP (C L : List Sp) : List Int := pagesOf (combF 3 C L)
def stepBst (L : List Sp) (H I : List Int) (n : Nat) (b : Option (List Int)) (set : Nat) : Option (List Int) :=
  if (decide ((firR H set n I).length = n) && (b.isNone || betF L H (firR H set n I) (b.getD []))) = true then some (firR H set n I) else b
def bestL (C L : List Sp) (H : List Int) (n k : Nat) : Option (List Int) := (List.range k).foldl (stepBst L H (idleP C L) n) none
def bestE : Option (List Int) → List Sp × Int
  | none => ([], 4)
  | some l => (setA (inL l), 0)
/-- what the reference's Choose answers -/
def rchooseA (C L : List Sp) (H : List Int) (n : Int) : List Sp × Int :=
  if chkH C L H ≠ 0 then ([], chkH C L H) else if n < 0 ∨ 1024 < n then ([], 2) else
  bestE (bestL C L H n.toNat (2 ^ H.length))
theorem bestL_succ (C L : List Sp) (H : List Int) (n k : Nat) : bestL C L H n (k + 1) = stepBst L H (idleP C L) n (bestL C L H n k) k := by
  unfold bestL
  rw [List.range_succ, List.foldl_append]; rfl
theorem idle_can {C L : List Sp} (hC : Can C) (hL : Can L) : chk2 C L = 0 ∧ Can (combF 3 C L) := by
  have h := (minus_nil hC hL).1
  refine ⟨h, ?_⟩
  unfold combF; rw [if_pos h]; exact setA_can _
theorem idle_range {C L : List Sp} (h : Can (combF 3 C L)) : (idleP C L).length ≤ 1024 ∧ ∀ p ∈ idleP C L, 0 ≤ p ∧ p < 1024 := by
  refine ⟨?_, fun p hp => h.range (mem_pagesOf.1 hp)⟩
  have := pieces_most (us := combF 3 C L) (size := 1)
  rw [← List.length_map (f := (·.1)), pieces_one h] at this
  exact this
theorem firR_mem {H : List Int} {set n : Nat} {l : List Int} {p : Int} (h : p ∈ firR H set n l) : p ∈ l := (List.mem_filter.1 (List.mem_of_mem_take h)).1
theorem stepBst_or {L : List Sp} {H I : List Int} {n : Nat} {b : Option (List Int)} {set : Nat} : stepBst L H I n b set = some (firR H set n I) ∨ stepBst L H I n b set = b := by
  unfold stepBst; split
  · exact .inl rfl
  · exact .inr rfl
end Go.Pol
namespace Go.Proofs.Ytmpakobfedgdbaa
open Go Go.Proofs Go.RowKit Go.Pol Go.Shelf
attribute [local go_sem] Oper.semAt_some Go.Pol.wide_fn Go.Pol.wide_depth Go.Pol.wide_fn' Go.Pol.wide_depth'

/-- what a best choice so far reads like -/
structure BestIs (n : Nat) (I : List Int) (b : Option (List Int)) (v fl : Value) (w : World) : Prop where
  ex : ∃ (A : Option Addr) (len cap : Nat), v = .slice A len cap ∧ (b.getD []).length = len ∧ RI w w.heap.size A (b.getD [])
  fl : fl = .bool b.isSome
  len : ∀ l, b = some l → l.length = n
  mem : ∀ p ∈ b.getD [], p ∈ I
theorem BestIs.on {n : Nat} {I : List Int} {b : Option (List Int)} {v fl : Value} {w w' : World} (h : BestIs n I b v fl w) (hb : Below w.heap.size w w') : BestIs n I b v fl w' := by
  obtain ⟨A, len, cap, h1, h2, h3⟩ := h.ex
  exact ⟨⟨A, len, cap, h1, h2, RI.on h3 hb⟩, h.fl, h.len, h.mem⟩
set_option maxRecDepth 100000 in
set_option maxHeartbeats 3200000 in
theorem rchoose13_any (S : Value) (C L : List Sp) (H : List Int) (n : Int) (w : World) (hS : StIs w S C L H) (h5 : chkH C L H = 0 → H.length ≤ 5) :
    Calls Try.prog 14 #[S, .int .i64 n] w (SpE (rchooseA C L H n) w) := by
  have HCk := Lib.hid (fun W (h : StIs W S C L H) => rcheck13_any S C L H W h)
  have hS' := hS
  have HF := Lib.hid (fun (A9 : Option Addr) (m9 c9 : Nat) (l : List Int) (set n9 : Nat) W (h : StIs W S C L H) h64 hm hm2 hr hl hn => first13_any S C L H A9 m9 c9 l set n9 W h h64 hm hm2 hr hl hn)
  have HB := Lib.hid (fun (A9 B9 : Option Addr) (m9 c9 d9 : Nat) (a b : List Int) W (h : StIs W S C L H) hL hin h64 hna hnb hm hra hrb hla hlb => better13_any S C L H A9 B9 m9 c9 d9 a b W h hL hin h64 hna hnb hm hra hrb hla hlb)
  obtain ⟨A1, A2, A3, n1, c1, n2, c2, n3, c3, rfl, h1, h2, h3, h4, h5', h6, h7, h8, h9⟩ := hS.ex
  have HM := Lib.hid (fun W (hr1 : RU W W.heap.size A1 C) (hr2 : RU W W.heap.size A2 L) => rMinus_any A1 A2 n1 c1 n2 c2 C L W h1 h2 hr1 h4 h5' hr2)
  have hb0 := (Below.refl w.heap.size w).alloc (Nat.le_refl _) (.cells #[.slice A1 n1 c1, .slice A2 n2 c2, .slice A3 n3 c3] 25)
  have k0 := Blk.new w 25 #[.slice A1 n1 c1, .slice A2 n2 c2, .slice A3 n3 c3]
  have s0 := hS'.on hb0
  have c0 := k0.cell
  have hA := Lib.hid (show rchooseA C L H n = if chkH C L H ≠ 0 then ([], chkH C L H) else if n < 0 ∨ 1024 < n then ([], 2) else bestE (bestL C L H n.toNat (2 ^ H.length)) from rfl)
  have hcan := Lib.hid (fun h : chkH C L H = 0 => (⟨(chkH_zero.1 h).1, (chkH_zero.1 h).2.1, (chkH_zero.1 h).2.2.1, h5 h⟩ : Go.Pol.Can C ∧ Go.Pol.Can L ∧ (∀ g ∈ H, inG g = true) ∧ H.length ≤ 5))
  generalize rchooseA C L H n = R at *
  generalize chkH C L H = er at *
  have hn3 := Lib.hid h7
  clear hS hS' h1 h2 h3 h4 h5 h5' h6 h7 h8 h9
  by_cases h0 : er = 0
  case neg =>
    have h0' : (er == 0) = false := by simpa using h0
    have h0'' : (er != 0) = true := by simpa using h0
    have hA' : Hid (R = ([], er)) := Lib.hid (by rw [hA.out, if_pos h0])
    clear hA h0
    go_enter Try.func14, Try.ntmps14
    go_wp2_with fail
    refine (HCk.out _ s0).mono ?_
    rintro e w1 ⟨rfl, hb1⟩
    go_wp2_with fail
    go_ret2
    rw [hA'.out]
    exact SpE.err (hb0.trans (hb1.mono hb0.size))
  case pos =>
    subst h0
    obtain ⟨canC, canL, hin, h5⟩ := hcan.out rfl
    have hA1 : Hid (R = if n < 0 ∨ 1024 < n then ([], 2) else bestE (bestL C L H n.toNat (2 ^ H.length))) := Lib.hid (by rw [hA.out, if_neg (by simp)])
    clear hA hcan
    by_cases hl0 : n < 0
    · have hl0' : decide (n < 0) = true := by simpa using hl0
      have hA2 : Hid (R = ([], 2)) := Lib.hid (by rw [hA1.out, if_pos (.inl hl0)])
      clear hA1 hl0
      go_enter Try.func14, Try.ntmps14
      go_wp2_with fail
      refine (HCk.out _ s0).mono ?_
      rintro e w1 ⟨rfl, hb1⟩
      go_wp2_with fail
      go_ret2
      rw [hA2.out]
      exact SpE.err (hb0.trans (hb1.mono hb0.size))
    have hl0' : decide (n < 0) = false := by simpa using hl0
    by_cases hl1 : 1024 < n
    · have hl1' : decide (1024 < n) = true := by simpa using hl1
      have hA2 : Hid (R = ([], 2)) := Lib.hid (by rw [hA1.out, if_pos (.inr hl1)])
      clear hA1 hl0 hl1
      go_enter Try.func14, Try.ntmps14
      go_wp2_with fail
      refine (HCk.out _ s0).mono ?_
      rintro e w1 ⟨rfl, hb1⟩
      go_wp2_with fail
      go_ret2
      rw [hA2.out]
      exact SpE.err (hb0.trans (hb1.mono hb0.size))
    have hl1' : decide (1024 < n) = false := by simpa using hl1
    obtain ⟨nn, rfl⟩ : ∃ nn : Nat, n = (nn : Int) := ⟨n.toNat, by omega⟩
    have hA2 : Hid (R = bestE (bestL C L H nn (2 ^ H.length))) := Lib.hid (by rw [hA1.out, if_neg (by omega)]; rfl)
    have hnn : nn ≤ 1024 := by omega
    clear hA1 hl0 hl1
    obtain ⟨i1, i2⟩ := idle_can canC canL
    obtain ⟨i3, i4⟩ := idle_range i2
    rw [i1] at HM
    have hbs := Lib.hid (fun k => bestL_succ C L H nn k)
    have HP := Lib.hid (fun (A9 : Option Addr) (m9 c9 : Nat) W hn hm hr => refPages_any A9 m9 c9 (combF 3 C L) W hn hm hr i2 (idleP C L) rfl)
    have hml := i2.len
    have hb00 : bestL C L H nn 0 = none := rfl
    generalize idleP C L = I at *
    generalize combF 3 C L = M at *
    obtain ⟨Il, hIl⟩ : ∃ Il, I.length = Il := ⟨_, rfl⟩
    rw [hIl] at HP i3
    have hIl' := Lib.hid hIl
    have hi4 := Lib.hid i4
    have hin' := Lib.hid hin
    rw [hn3.out] at hA2
    have h5' : n3 ≤ 5 := by rw [← hn3.out]; exact h5
    obtain ⟨P2, hP2⟩ : ∃ P2 : Nat, 2 ^ n3 = P2 := ⟨_, rfl⟩
    have hP32 : P2 ≤ 32 := by rw [← hP2]; exact Nat.pow_le_pow_right (by decide) h5'
    have hshl : wrap64 (2 ^ n3) = (P2 : Int) := by
      rw [← hP2]
      have : ((2 ^ n3 : Nat) : Int) = (2 : Int) ^ n3 := by simp
      rw [← this]
      unfold wrap64
      omega
    rw [hP2] at hA2
    clear i1 i4 hin hIl hP2
    unfold SpansR at HM
    obtain ⟨mm, hmm⟩ : ∃ mm, M.length = mm := ⟨_, rfl⟩
    simp only [hmm] at HM
    rw [hmm] at hml
    go_enter Try.func14, Try.ntmps14
    go_wp2_with fail
    refine (HCk.out _ s0).mono ?_
    rintro e w1 ⟨rfl, hb1⟩
    have k1 := k0.call hb1
    have s1 := s0.on hb1
    have B1 := hb0.trans (hb1.mono hb0.size)
    have c1 := k1.cell
    clear hb0 hb1 k0 s0 c0 HCk
    go_wp2_with fail
    refine (HM.out _ s1.parts.1 s1.parts.2.1).mono ?_
    rintro e w2 ⟨A9, c9, rfl, ru9, m9, m8, _, hb2⟩
    have k2 := k1.call hb2
    have s2 := s1.on hb2
    have B2 := B1.trans (hb2.mono B1.size)
    have HP2 := Lib.hid (fun W hr => HP.out A9 mm c9 W hmm (by unfold maxLen; omega) hr)
    clear hb2 k1 s1 c1 B1 HP HM
    go_wp2_with fail
    obtain ⟨bx, hbx⟩ : ∃ bx, w.heap.size = bx := ⟨_, rfl⟩
    rw [hbx] at k2 ⊢
    have hbx' := Lib.hid hbx
    clear hbx
    go_loopw [9, 10, 11] (fun v f i wr => ∃ (k : Nat) (bb : Option (List Int)), k ≤ P2 ∧ i = .int .i64 k ∧ Hid (bestL C L H nn k = bb) ∧ BestIs nn I bb v f wr ∧ Below w2.heap.size w2 wr) (fun _ _ i _ => P2 - (intOf i).toNat)
    case atStart => exact ⟨0, none, by omega, rfl, Lib.hid hb00, ⟨⟨none, 0, 0, rfl, rfl, RI.nil⟩, rfl, by simp, by simp⟩, Below.refl _ _⟩
    case round =>
      clear hb00
      obtain ⟨k, bb, hk, rfl, hbb, hBI, hB⟩ := hrel
      have k3 := k2.call hB
      have s3 := s2.on hB
      have ru3 := ru9.on hB
      have B3 := B2.trans (hB.mono B2.size)
      have c3' := k3.cell
      obtain ⟨A8, len, cap, rfl, hbl, hbr⟩ := hBI.ex
      obtain rfl := hBI.fl
      by_cases hlt : k < P2
      case neg =>
        obtain rfl : k = P2 := by omega
        have hlt' : decide ((k : Int) < (k : Int)) = false := by simp
        rw [hbb.out] at hA2
        cases bb with
        | none =>
          go_wp2_with fail
          go_ret2
          rw [hA2.out]
          exact SpE.err B3
        | some l =>
          have hA3 : Hid (R = (setA (inL l), 0)) := Lib.hid (by rw [hA2.out]; rfl)
          have hll := hBI.len l rfl
          have HS := Lib.hid (sets13_any A8 len cap l wr hbl (by rw [← hbl]; show l.length ≤ _; omega) hbr (fun p hp => hi4.out p (hBI.mem p hp)))
          unfold SpansO at HS
          generalize setA (inL l) = G at *
          clear hA2
          go_wp2_with fail
          refine HS.out.mono ?_
          rintro e w8 ⟨A7, c7, rfl, ru7, m5, m6, _, hb8⟩
          go_wp2_with fail
          go_ret2
          rw [hA3.out]
          exact ⟨A7, c7, rfl, ru7, m5, m6, B3.trans (hb8.mono B3.size)⟩
      case pos =>
        have hlt' : decide ((k : Int) < (P2 : Int)) = true := by simpa using hlt
        have hbk := hbs.out k
        rw [hbb.out] at hbk
        obtain ⟨fl, hfl⟩ : ∃ fl, firR H k nn I = fl := ⟨_, rfl⟩
        have hfle : fl.length ≤ nn := by rw [← hfl]; exact firR_len _ _ _ _
        have hfme : ∀ p ∈ fl, p ∈ I := fun p hp => by rw [← hfl] at hp; exact firR_mem hp
        have hst : stepBst L H I nn bb k = if (decide (fl.length = nn) && (bb.isNone || betF L H fl (bb.getD []))) = true then some fl else bb := by unfold stepBst; rw [hfl]
        rw [hst] at hbk
        have hbk' := Lib.hid hbk
        have HF2 := Lib.hid (fun A7 c7 W h hr => HF.out A7 Il c7 I k nn W h (by rw [hn3.out]; exact h5') hIl'.out i3 hr hi4.out hnn)
        rw [hfl] at HF2
        unfold IntsO at HF2
        clear hbk hst
        go_upto_region 12 with fail
        refine wp_noPanic ?_
        refine wp_region_T (BetS bx (.slice A1 n1 c1) (.slice A2 n2 c2) (.slice A3 n3 c3)) [] (by kernel_rfl) ?_
        have hbd : Below wr.heap.size wr wr.drew := (Below.refl _ _).drew
        have k4 := k3.call hbd
        have s4 := s3.on hbd
        have ru4 := ru3.on hbd
        have hB4 := hB.trans (hbd.mono hB.size)
        have BI4 := hBI.on hbd
        generalize wr.drew = w4 at *
        clear k3 s3 ru3 hB hbd hBI c3' hbr hbl
        have hS : BetS bx (.slice A1 n1 c1) (.slice A2 n2 c2) (.slice A3 n3 c3) w4 := ⟨k4.cell 0, k4.cell 1, k4.cell 2⟩
        refine' wpAnyT_take (i := 0) (v := _) ?hiT0 (by kernel_rfl) ?hQT0 (Or.inl ⟨?hwT0, ?hyT0⟩) hS ?reT0
        case hiT0 => (simp only [List.getElem?_toArray, List.getElem?_cons_zero]; rfl)
        case hQT0 => exact fun _ _ _ h => h
        case hwT0 => rfl
        case hyT0 => (intro wS hSw; obtain ⟨_, _, _⟩ := hSw; go_simp; (try with_reducible rfl))
        try simp only [Act.put, List.setIfInBounds_toArray, List.set_cons_zero, List.set_cons_succ]
        refine' wpAnyT_take (i := 1) (v := _) ?hiT1 (by kernel_rfl) ?hQT1 (Or.inl ⟨?hwT1, ?hyT1⟩) hS ?reT1
        case hiT1 => (simp only [List.getElem?_toArray, List.getElem?_cons_succ, List.getElem?_cons_zero]; rfl)
        case hQT1 => exact fun _ _ _ h => h
        case hwT1 => rfl
        case hyT1 => (intro wS hSw; obtain ⟨_, _, _⟩ := hSw; go_simp; (try with_reducible rfl))
        try simp only [Act.put, List.setIfInBounds_toArray, List.set_cons_zero, List.set_cons_succ]
        refine' wpAnyT_take (i := 3) (v := _) ?hiT3 (by kernel_rfl) ?hQT3 (Or.inl ⟨?hwT3, ?hyT3⟩) hS ?reT3
        case hiT3 => (simp only [List.getElem?_toArray, List.getElem?_cons_succ, List.getElem?_cons_zero]; rfl)
        case hQT3 => exact fun _ _ _ h => h
        case hwT3 => rfl
        case hyT3 => (intro wS hSw; obtain ⟨_, _, _⟩ := hSw; go_simp; (try with_reducible rfl))
        try simp only [Act.put, List.setIfInBounds_toArray, List.set_cons_zero, List.set_cons_succ]
        refine' wpAnyT_take (i := 4) (v := _) ?hiT4 (by kernel_rfl) ?hQT4 (Or.inl ⟨?hwT4, ?hyT4⟩) hS ?reT4
        case hiT4 => (simp only [List.getElem?_toArray, List.getElem?_cons_succ, List.getElem?_cons_zero]; rfl)
        case hQT4 => exact fun _ _ _ h => h
        case hwT4 => rfl
        case hyT4 => (intro wS hSw; obtain ⟨_, _, _⟩ := hSw; go_simp; (try with_reducible rfl))
        try simp only [Act.put, List.setIfInBounds_toArray, List.set_cons_zero, List.set_cons_succ]
        refine wpAnyT_ready (rs := [2]) (by kernel_rfl) (by simp) ?_
        refine' AllReadyT.cons ?hi2 (fun K hK => ?st2) AllReadyT.nil
        case hi2 => (simp only [List.getElem?_toArray, List.getElem?_cons_succ, List.getElem?_cons_zero]; rfl)
        go_simp
        refine (HP2.out _ ru4).mono ?_
        rintro e w5 ⟨A7, c7, rfl, ri7, hb5⟩
        have k5 := k4.call hb5
        have s5 := s4.on hb5
        have ru5 := ru4.on hb5
        have hB5 := hB4.trans (hb5.mono hB4.size)
        have BI5 := BI4.on hb5
        have HF3 := Lib.hid (HF2.out A7 c7 w5 s5 ri7)
        refine hK.out _ _ (fun _ => ⟨k5.cell 0, k5.cell 1, k5.cell 2⟩) (fun hS => ?_)
        clear hK K hb5 k4 s4 ru4 hB4 BI4 HF2 ri7
        replace hS := hS rfl
        try simp only [Act.put, List.setIfInBounds_toArray, List.set_cons_zero, List.set_cons_succ]
        refine wpAnyT_ready (rs := [5]) (by kernel_rfl) (by simp) ?_
        refine' AllReadyT.cons ?hi5 (fun K hK => ?st5) AllReadyT.nil
        case hi5 => (simp only [List.getElem?_toArray, List.getElem?_cons_succ, List.getElem?_cons_zero]; rfl)
        go_simp
        refine HF3.out.mono ?_
        rintro e w6 ⟨A6, c6, rfl, ri6, hb6⟩
        have k6 := k5.call hb6
        have s6 := s5.on hb6
        have ru6 := ru5.on hb6
        have hB6 := hB5.trans (hb6.mono hB5.size)
        have BI6 := BI5.on hb6
        refine hK.out _ _ (fun _ => ⟨k6.cell 0, k6.cell 1, k6.cell 2⟩) (fun hS => ?_)
        clear hK K hb6 k5 s5 ru5 hB5 BI5 HF3
        replace hS := hS rfl
        try simp only [Act.put, List.setIfInBounds_toArray, List.set_cons_zero, List.set_cons_succ]
        refine' wpAnyT_take (i := 6) (v := _) ?hiT6 (by kernel_rfl) ?hQT6 (Or.inl ⟨?hwT6, ?hyT6⟩) hS ?reT6
        case hiT6 => (simp only [List.getElem?_toArray, List.getElem?_cons_succ, List.getElem?_cons_zero]; rfl)
        case hQT6 => exact fun _ _ _ h => h
        case hwT6 => rfl
        case hyT6 => (intro wS hSw; obtain ⟨_, _, _⟩ := hSw; go_simp; (try with_reducible rfl))
        try simp only [Act.put, List.setIfInBounds_toArray, List.set_cons_zero, List.set_cons_succ]
        refine wpAnyT_done (by kernel_rfl) ?_ _
        refine noPanic_normal ?_
        clear hS
        obtain ⟨fll, hfll⟩ : ∃ fll, fl.length = fll := ⟨_, rfl⟩
        rw [hfll] at hbk' hfle ⊢
        have hfll' := Lib.hid hfll
        clear hfll
        by_cases hful : fll = nn
        case neg =>
          have hne : ((fll : Int) == (nn : Int)) = false := by simp; omega
          have hbk2 : Hid (bestL C L H nn (k + 1) = bb) := Lib.hid (by rw [hbk'.out, decide_eq_false hful]; rfl)
          clear hbk'
          go_wp2_with fail
          go_roundw
          case rel => exact ⟨k + 1, bb, by omega, by go_num, hbk2, BI6, hB6⟩
          case measure => simp [intOf]; omega
        case pos =>
          subst hful
          have hne : ((fll : Int) == (fll : Int)) = true := by simp
          have hBn : BestIs fll I (some fl) (.slice A6 fll c6) (.bool true) w6 := ⟨⟨A6, fll, c6, rfl, hfll'.out, ri6⟩, rfl, fun l h => by cases h; exact hfll'.out, hfme⟩
          cases bb with
          | none =>
            have hbk2 : Hid (bestL C L H fll (k + 1) = some fl) := Lib.hid (by rw [hbk'.out, decide_eq_true rfl]; rfl)
            clear hbk'
            go_wp2_with fail
            go_roundw
            case rel => exact ⟨k + 1, some fl, by omega, by go_num, hbk2, hBn, hB6⟩
            case measure => simp [intOf]; omega
          | some b =>
            obtain ⟨_, _, _, e9, hbl9, hbr9⟩ := BI6.ex
            cases e9
            have hblen := BI6.len b rfl
            obtain rfl : len = fll := by rw [← hbl9]; exact hblen
            have HB2 := Lib.hid (HB.out A6 A8 len c6 cap fl b w6 s6 canL hin'.out (by rw [hn3.out]; omega) hfll'.out hblen (by omega) ri6 hbr9 (fun p hp => hi4.out p (hfme p hp)) (fun p hp => hi4.out p (BI6.mem p hp)))
            rw [decide_eq_true rfl] at hbk'
            have hbk3 : bestL C L H len (k + 1) = if betF L H fl b = true then some fl else some b := by rw [hbk'.out]; rfl
            have hbk4 := Lib.hid hbk3
            generalize betF L H fl b = bt at *
            clear hbk' hbk3 hbr9
            have k6' := k6.cell
            cases bt with
            | true =>
              have hbk2 : Hid (bestL C L H len (k + 1) = some fl) := Lib.hid (by rw [hbk4.out]; rfl)
              clear hbk4
              go_wp2_with fail
              refine HB2.out.mono ?_
              rintro e w7 ⟨rfl, hb7⟩
              go_wp2_with fail
              go_roundw
              case rel => exact ⟨k + 1, some fl, by omega, by go_num, hbk2, hBn.on hb7, hB6.trans (hb7.mono hB6.size)⟩
              case measure => simp [intOf]; omega
            | false =>
              have hbk2 : Hid (bestL C L H len (k + 1) = some b) := Lib.hid (by rw [hbk4.out]; rfl)
              clear hbk4
              go_wp2_with fail
              refine HB2.out.mono ?_
              rintro e w7 ⟨rfl, hb7⟩
              go_wp2_with fail
              go_roundw
              case rel => exact ⟨k + 1, some b, by omega, by go_num, hbk2, BI6.on hb7, hB6.trans (hb7.mono hB6.size)⟩
              case measure => simp [intOf]; omega
end Go.Proofs.Ytmpakobfedgdbaa
namespace Go.Pol
open Go
def freeL (C L : List Sp) (H T : List Int) : List Nat := (List.range 1024).filter (freeP C L H T)
theorem filter_cnt (f : Int → Bool) : ∀ k : Nat, (((List.range k).filter fun (p : Nat) => f (p : Int)).length : Int) = cntN f k 0
  | 0 => rfl
  | k + 1 => by
    rw [List.range_succ, List.filter_append, List.length_append, cntN_snoc, ← filter_cnt f k, Int.zero_add]
    cases h : f (k : Int) <;> simp [h]
theorem cnt_blocks (f : Int → Bool) : ∀ k : Nat, cntN f (16 * k) 0 = ((List.range k).map fun (g : Nat) => cntN f 16 (16 * (g : Int))).sum
  | 0 => rfl
  | k + 1 => by
    rw [show 16 * (k + 1) = 16 * k + 16 by omega, cntN_split, cnt_blocks f k, List.range_succ, List.map_append, List.sum_append]
    have e : (0 : Int) + ((16 * k : Nat) : Int) = 16 * (k : Int) := by omega
    rw [e]; simp
theorem sum_if (f : Int → Int) (p : Int → Bool) : ∀ l : List Int, (l.map fun g => if p g = true then f g else 0).sum = sumF f (l.filter p)
  | [] => rfl
  | a :: r => by
    rw [List.map_cons, List.sum_cons, sum_if f p r, List.filter_cons]
    cases h : p a with
    | true => rw [if_pos rfl, if_pos rfl, sumF_cons]
    | false => rw [if_neg (by simp), if_neg (by simp)]; omega
def freeI (C L : List Sp) (H T : List Int) (q : Int) : Bool := mem q C && !mem q L && !(decide (q / 16 ∈ H) && !decide (q / 16 ∈ T))
theorem group_cnt {C L : List Sp} (hL : Can L) (hs : subF L C = true) (H T : List Int) (g : Int) :
    cntN (freeI C L H T) 16 (16 * g) = if (decide (g ∈ H) && !decide (g ∈ T)) = true then 0 else grpF C g - grpF L g := by
  by_cases hb : (decide (g ∈ H) && !decide (g ∈ T)) = true
  · rw [if_pos hb]
    refine cntN_none _ _ fun q h1 h2 => ?_
    unfold freeI
    rw [show q / 16 = g by omega, hb]; simp
  · rw [if_neg hb]
    have e1 : cntN (freeI C L H T) 16 (16 * g) = cntN (fun q => mem q C && !mem q L) 16 (16 * g) := cntN_congr _ _ fun q h1 h2 => by
      unfold freeI
      rw [show q / 16 = g by omega]
      simp only [Bool.not_eq_true] at hb
      rw [hb]; simp
    have hsub : ∀ q, mem q L = true → mem q C = true := fun q h => (subF_iff hL).1 hs q (mem_pagesOf.2 h)
    have e2 : grpF C g = grpF L g + cntN (fun q => mem q C && !mem q L) 16 (16 * g) := by
      unfold grpF cntF
      show cntN (fun q => mem q C) 16 (16 * g) = cntN (fun q => mem q L) 16 (16 * g) + _
      rw [← cntN_or]
      · refine cntN_congr _ _ fun q _ _ => ?_
        cases h1 : mem q L with
        | true => rw [hsub q h1]; rfl
        | false => simp
      · intro q h1 h2
        simp [h1] at h2
    omega
theorem haveF_sum (C L : List Sp) (H : List Int) : haveF (gsH C L H) = (grps.map fun g => if decide (g ∈ H) = true then 0 else grpF C g - grpF L g).sum := by
  rw [haveF, gsH_map, List.map_map]; rfl
theorem freeP_cnt (C L : List Sp) (H T : List Int) (k : Nat) : (((List.range k).filter (freeP C L H T)).length : Int) = cntN (freeI C L H T) k 0 := filter_cnt (freeI C L H T) k
theorem free_len {C L : List Sp} {H T : List Int} (h : chkH C L H = 0) (hT : T.Nodup) (hTH : ∀ g ∈ T, g ∈ H) :
    ((freeL C L H T).length : Int) = haveF (gsH C L H) + sumF (fun g => 16 - grpF L g) T := by
  obtain ⟨_, canL, hin, hsub, hok⟩ := chkH_zero.1 h
  have e1 : ((freeL C L H T).length : Int) = cntN (freeI C L H T) 1024 0 := freeP_cnt C L H T 1024
  have e2 := cnt_blocks (freeI C L H T) 64
  rw [e1, show (1024 : Nat) = 16 * 64 from rfl, e2, haveF_sum]
  have e3 : ((List.range 64).map fun (g : Nat) => cntN (freeI C L H T) 16 (16 * (g : Int))) = grps.map fun g => cntN (freeI C L H T) 16 (16 * g) := by
    unfold grps; rw [List.map_map]; rfl
  rw [e3]
  have hT2 : (grps.filter fun g => decide (g ∈ T)).Perm T := perm_of_mem ((grps_lt.imp (fun h => by omega)).filter _) hT fun x => by
    rw [List.mem_filter, decide_eq_true_eq]
    exact ⟨fun h => h.2, fun hx => ⟨mem_grps.2 (inG_iff.1 (hin x (hTH x hx))), hx⟩⟩
  rw [← sumF_perm hT2, ← sum_if]
  have hg : ∀ l : List Int, (l.map fun g => cntN (freeI C L H T) 16 (16 * g)).sum = (l.map fun g => if decide (g ∈ H) = true then 0 else grpF C g - grpF L g).sum + (l.map fun g => if decide (g ∈ T) = true then 16 - grpF L g else 0).sum := by
    intro l
    induction l with
    | nil => rfl
    | cons g r ih =>
      rw [List.map_cons, List.map_cons, List.map_cons, List.sum_cons, List.sum_cons, List.sum_cons, ih, group_cnt canL hsub]
      by_cases h1 : g ∈ H
      · have h16 := (hugOk_mem hok g h1).2
        by_cases h2 : g ∈ T
        · simp only [h1, h2, decide_true, Bool.not_true, Bool.and_false, Bool.false_eq_true, if_false, if_true, h16]; omega
        · simp only [h1, h2, decide_true, decide_false, Bool.not_false, Bool.and_true, if_true, Bool.false_eq_true, if_false]; omega
      · have h2 : g ∉ T := fun h => h1 (hTH g h)
        simp only [h1, h2, decide_false, Bool.false_and, Bool.false_eq_true, if_false]; omega
  exact hg grps
end Go.Pol
namespace Go.Pol
open Go
theorem splitG_spec (H : List Int) : ∀ (l o : List Int), l.Pairwise (· < ·) → o.Pairwise (· < ·) → (∀ g ∈ o, ∀ p ∈ l, g ≤ p / 16) →
    (l.foldl (stepS H) o).Pairwise (· < ·) ∧ ∀ g, g ∈ l.foldl (stepS H) o ↔ g ∈ o ∨ (g ∈ H ∧ ∃ p ∈ l, p / 16 = g)
  | [], o, _, ho, _ => ⟨ho, fun g => by simp⟩
  | p :: r, o, hl, ho, hle => by
    obtain ⟨hp, hr⟩ := List.pairwise_cons.1 hl
    rw [List.foldl_cons]
    by_cases hc : (decide (p / 16 ∈ H) && !decide (p / 16 ∈ o)) = true
    · have hs : stepS H o p = o ++ [p / 16] := by unfold stepS; rw [if_pos hc]
      simp only [Bool.and_eq_true, decide_eq_true_eq, Bool.not_eq_true', decide_eq_false_iff_not] at hc
      have ho2 : (o ++ [p / 16]).Pairwise (· < ·) := by
        rw [List.pairwise_append]
        refine ⟨ho, List.pairwise_singleton _ _, fun g hg q hq => ?_⟩
        rw [List.mem_singleton.1 hq]
        have h1 := hle g hg p (by simp)
        have h2 : g ≠ p / 16 := fun e => hc.2 (e ▸ hg)
        omega
      obtain ⟨h1, h2⟩ := splitG_spec H r (o ++ [p / 16]) hr ho2 (fun g hg q hq => by
        have hpq := hp q hq
        rcases List.mem_append.1 hg with h | h
        · exact hle g h q (by simp [hq])
        · rw [List.mem_singleton.1 h]; omega)
      rw [hs]
      refine ⟨h1, fun g => ?_⟩
      rw [h2 g]
      constructor
      · rintro (h | ⟨h, q, hq, e⟩)
        · rcases List.mem_append.1 h with h | h
          · exact .inl h
          · rw [List.mem_singleton.1 h]; exact .inr ⟨hc.1, p, by simp, rfl⟩
        · exact .inr ⟨h, q, by simp [hq], e⟩
      · rintro (h | ⟨h, q, hq, e⟩)
        · exact .inl (by simp [h])
        · rcases List.mem_cons.1 hq with rfl | hq
          · exact .inl (by simp [e])
          · exact .inr ⟨h, q, hq, e⟩
    · have hs : stepS H o p = o := by unfold stepS; rw [if_neg hc]
      have hc2 : p / 16 ∈ H → p / 16 ∈ o := by
        intro h
        by_cases h2 : p / 16 ∈ o
        · exact h2
        · exact absurd (by simp [h, h2]) hc
      obtain ⟨h1, h2⟩ := splitG_spec H r o hr ho (fun g hg q hq => hle g hg q (by simp [hq]))
      rw [hs]
      refine ⟨h1, fun g => ?_⟩
      rw [h2 g]
      constructor
      · rintro (h | ⟨h, q, hq, e⟩)
        · exact .inl h
        · exact .inr ⟨h, q, by simp [hq], e⟩
      · rintro (h | ⟨h, q, hq, e⟩)
        · exact .inl h
        · rcases List.mem_cons.1 hq with rfl | hq
          · exact .inl (e ▸ hc2 (e ▸ h))
          · exact .inr ⟨h, q, hq, e⟩
theorem touch_iff {ps : List Sp} (h : Can ps) (g : Int) : 0 < grpF ps g ↔ ∃ p ∈ pagesOf ps, p / 16 = g := by
  rw [← cntP_pages h g]
  unfold cntP
  rw [show (0 : Int) = ((0 : Nat) : Int) from rfl, Int.ofNat_lt, List.countP_pos_iff]
  simp
theorem split_eq (C L : List Sp) (H : List Int) (ps : List Sp) : splitA C L H ps = splitB C L H ps := by
  by_cases h1 : chkH C L H = 0
  · by_cases h2 : chkS ps = 0
    · have hcan := chkS_zero.1 h2
      have : splitG H (pagesOf ps) = touchF ps H := by
        obtain ⟨a, b⟩ := splitG_spec H (pagesOf ps) [] (pages_lt hcan) .nil (fun _ h => by cases h)
        refine asc_eq a ((hugOk_lt (chkH_zero.1 h1).2.2.2.2).filter _) fun g => ?_
        show g ∈ (pagesOf ps).foldl (stepS H) [] ↔ g ∈ H.filter fun g => decide (0 < grpF ps g)
        rw [b g, List.mem_filter, decide_eq_true_eq, touch_iff hcan]
        simp
      simp only [splitA, splitB, this]
    · simp [splitA, splitB, h1, h2]
  · simp [splitA, splitB, h1]
theorem splitB_len (C L : List Sp) (H : List Int) (ps : List Sp) : (splitB C L H ps).1.length ≤ 64 := by
  unfold splitB
  by_cases h1 : chkH C L H = 0
  · rw [if_neg (by simp [h1])]
    split
    · simp
    · split
      · simp
      · exact Nat.le_trans (touchF_len _ _) (huge_len h1)
  · rw [if_pos h1]; simp
end Go.Pol
namespace Go.Pol
open Go
def castL (l : List Nat) : List Int := l.map fun (p : Nat) => (p : Int)
theorem mem_castL {l : List Nat} {x : Int} : x ∈ castL l ↔ ∃ p ∈ l, (p : Int) = x := by simp [castL]
theorem castL_len (l : List Nat) : (castL l).length = l.length := by simp [castL]
/-- the huge groups that have a page of a list -/
def touI (H : List Int) (l : List Nat) : List Int := H.filter fun g => l.any fun p => decide ((p : Int) / 16 = g)
theorem mem_touI {H : List Int} {l : List Nat} {g : Int} : g ∈ touI H l ↔ g ∈ H ∧ ∃ p ∈ l, (p : Int) / 16 = g := by
  unfold touI
  rw [List.mem_filter, List.any_eq_true]; simp
theorem touch_touI (H : List Int) (l : List Nat) (hl : ∀ p ∈ l, p < 1024) : touchF (setA (inL (castL l))) H = touI H l := by
  unfold touchF touI
  refine List.filter_congr fun g _ => ?_
  rw [Bool.eq_iff_iff, decide_eq_true_eq, touch_iff (setA_can _), List.any_eq_true]
  constructor
  · rintro ⟨p, hp, e⟩
    obtain ⟨h1, h2⟩ := (mem_setA _ _).1 (mem_pagesOf.1 hp)
    simp only [inL, decide_eq_true_eq, mem_castL] at h2
    obtain ⟨q, hq, e2⟩ := h2
    exact ⟨q, hq, by rw [decide_eq_true_eq]; omega⟩
  · rintro ⟨p, hp, e⟩
    rw [decide_eq_true_eq] at e
    refine ⟨(p : Int), mem_pagesOf.2 ((mem_setA _ _).2 ⟨by have := hl p hp; omega, ?_⟩), e⟩
    simp only [inL, decide_eq_true_eq, mem_castL]
    exact ⟨p, hp, by omega⟩
/-- the list with a page in the first group where both differ comes first -/
theorem lex_first (a b : Nat → Bool) (lo hi : Nat) : ∀ (k s n : Nat), (∀ p, s ≤ p → p < lo → a p = b p) → (∀ p, lo ≤ p → p < hi → b p = false) →
    (∃ q ∈ ((List.range' s k).filter a).take n, lo ≤ q ∧ q < hi) → (((List.range' s k).filter b).take n).length = (((List.range' s k).filter a).take n).length →
    lexF (castL (((List.range' s k).filter a).take n)) (castL (((List.range' s k).filter b).take n)) = true
  | 0, s, n, _, _, ⟨q, hq, _⟩, _ => by simp at hq
  | k + 1, s, n, h1, h2, ⟨q, hq, hq1, hq2⟩, hlen => by
    cases n with
    | zero => simp at hq
    | succ n =>
      rw [List.range'_succ, List.filter_cons, List.filter_cons] at *
      have hqs : s ≤ q := by
        have hm := List.mem_of_mem_take hq
        split at hm
        · rcases List.mem_cons.1 hm with rfl | hm
          · exact Nat.le_refl _
          · have := (List.mem_range'_1.1 (List.mem_filter.1 hm).1).1; omega
        · have := (List.mem_range'_1.1 (List.mem_filter.1 hm).1).1; omega
      by_cases hs : s < lo
      · have hab := h1 s (Nat.le_refl _) hs
        rw [← hab] at hlen ⊢
        cases ha : a s with
        | true =>
          simp only [ha, ↓reduceIte, List.take_succ_cons] at hq hlen ⊢
          have ih := lex_first a b lo hi k (s + 1) n (fun p x y => h1 p (by omega) y) h2 ⟨q, (List.mem_cons.1 hq).resolve_left (by omega), hq1, hq2⟩ (by simpa using hlen)
          show lexF ((s : Int) :: castL _) ((s : Int) :: castL _) = true
          rw [lexF, if_neg (by simp)]; exact ih
        | false =>
          simp only [ha, Bool.false_eq_true, ↓reduceIte] at hq hlen ⊢
          exact lex_first a b lo hi k (s + 1) (n + 1) (fun p x y => h1 p (by omega) y) h2 ⟨q, hq, hq1, hq2⟩ hlen
      · have hb := h2 s (by omega) (by omega)
        cases ha : a s with
        | true =>
          simp only [ha, hb, Bool.false_eq_true, ↓reduceIte, List.take_succ_cons] at hlen ⊢
          cases hB : ((List.range' (s + 1) k).filter b).take (n + 1) with
          | nil => rw [hB] at hlen; simp at hlen
          | cons y r =>
            have hy : y ∈ ((List.range' (s + 1) k).filter b).take (n + 1) := by rw [hB]; simp
            have hys := (List.mem_range'_1.1 (List.mem_filter.1 (List.mem_of_mem_take hy)).1).1
            show lexF ((s : Int) :: castL _) ((y : Int) :: castL _) = true
            rw [lexF, if_pos (by simp; omega), decide_eq_true_eq]; omega
        | false =>
          simp only [ha, hb, Bool.false_eq_true, ↓reduceIte] at hq hlen ⊢
          exact lex_first a b lo hi k (s + 1) (n + 1) (fun p x y => h1 p (by omega) y) h2 ⟨q, hq, hq1, hq2⟩ hlen
theorem lexF_asymm : ∀ (a b : List Int), lexF a b = true → lexF b a = false
  | [], _, h => by simp [lexF] at h
  | _ :: _, [], h => by simp [lexF] at h
  | x :: a, y :: b, h => by
    rw [lexF] at h ⊢
    by_cases e : x = y
    · subst e
      rw [if_neg (by simp)] at h ⊢
      exact lexF_asymm a b h
    · rw [if_pos (by simpa using e), decide_eq_true_eq] at h
      rw [if_pos (by simpa using fun h => e h.symm), decide_eq_false_iff_not]
      omega
theorem lexF_irrefl : ∀ (a : List Int), lexF a a = false
  | [] => rfl
  | x :: a => by rw [lexF, if_neg (by simp)]; exact lexF_irrefl a
theorem betF_asymm {L : List Sp} {H a b : List Int} (h : betF L H a b = true) : betF L H b a = false := by
  unfold betF at h ⊢
  by_cases h1 : numT H a = numT H b
  · rw [h1, if_neg (by simp)] at h
    rw [h1, if_neg (by simp)]
    by_cases h2 : livT L H a = livT L H b
    · rw [h2, if_neg (by simp)] at h
      rw [h2, if_neg (by simp)]
      exact lexF_asymm _ _ h
    · rw [if_pos (by simpa using h2), decide_eq_true_eq] at h
      rw [if_pos (by simpa using fun h => h2 h.symm), decide_eq_false_iff_not]; omega
  · rw [if_pos (by simpa using h1), decide_eq_true_eq] at h
    rw [if_pos (by simpa using fun h => h1 h.symm), decide_eq_false_iff_not]; omega
theorem betF_irrefl {L : List Sp} {H a : List Int} : betF L H a a = false := by
  unfold betF; simp [lexF_irrefl]
end Go.Pol
namespace Go.Pol
open Go
theorem freeP_iff {C L : List Sp} {H T : List Int} {p : Nat} : freeP C L H T p = true ↔ (mem (p : Int) C = true ∧ mem (p : Int) L = false) ∧ ((p : Int) / 16 ∈ H → (p : Int) / 16 ∈ T) := by
  unfold freeP
  by_cases h1 : (p : Int) / 16 ∈ H <;> by_cases h2 : (p : Int) / 16 ∈ T <;> simp [h1, h2]
theorem freeL_lt {C L : List Sp} {H T : List Int} {p : Nat} (h : p ∈ freeL C L H T) : p < 1024 := by
  have := (List.mem_filter.1 h).1
  simpa using this
theorem freeL_congr {C L : List Sp} {H T T' : List Int} (h : ∀ g ∈ H, g ∈ T ↔ g ∈ T') : freeL C L H T = freeL C L H T' := by
  unfold freeL
  refine List.filter_congr fun p _ => ?_
  rw [Bool.eq_iff_iff, freeP_iff, freeP_iff]
  constructor
  · rintro ⟨a, b⟩; exact ⟨a, fun x => (h _ x).1 (b x)⟩
  · rintro ⟨a, b⟩; exact ⟨a, fun x => (h _ x).2 (b x)⟩
theorem sumI_eq (f : Int → Int) : ∀ V : List Int, sumF (fun g => 16 - f g) V = 16 * (V.length : Int) - sumF f V
  | [] => rfl
  | a :: r => by rw [sumF_cons, sumF_cons, sumI_eq f r, List.length_cons]; omega
theorem cand_in {C L : List Sp} {H T : List Int} {n : Nat} {g : Int} (h : g ∈ touI H ((freeL C L H T).take n)) : g ∈ T := by
  obtain ⟨h1, p, hp, e⟩ := mem_touI.1 h
  have := (freeP_iff.1 (List.mem_filter.1 (List.mem_of_mem_take hp)).2).2
  rw [e] at this
  exact this h1
theorem cand_free {C L : List Sp} {H T : List Int} (n : Nat) : ∃ r, freeL C L H (touI H ((freeL C L H T).take n)) = (freeL C L H T).take n ++ r := by
  generalize hl : (freeL C L H T).take n = l
  refine ⟨((freeL C L H T).drop n).filter (freeP C L H (touI H l)), ?_⟩
  have e1 : freeL C L H (touI H l) = (freeL C L H T).filter (freeP C L H (touI H l)) := by
    unfold freeL
    rw [List.filter_filter]
    refine List.filter_congr fun p _ => ?_
    rw [Bool.eq_iff_iff, Bool.and_eq_true]
    constructor
    · intro h
      refine ⟨h, ?_⟩
      obtain ⟨a, b⟩ := freeP_iff.1 h
      exact freeP_iff.2 ⟨a, fun x => by have := b x; rw [← hl] at this; exact cand_in this⟩
    · exact fun h => h.1
  have hm : ∀ p ∈ l, freeP C L H (touI H l) p = true := fun p hp => by
    have hp' := hp
    rw [← hl] at hp'
    obtain ⟨a, _⟩ := freeP_iff.1 (List.mem_filter.1 (List.mem_of_mem_take hp')).2
    exact freeP_iff.2 ⟨a, fun x => mem_touI.2 ⟨x, p, hp, rfl⟩⟩
  rw [e1]
  generalize freeL C L H T = F at *
  have e2 : F = l ++ F.drop n := by rw [← hl, List.take_append_drop]
  have e3 := congrArg (List.filter (freeP C L H (touI H l))) e2
  rw [List.filter_append, List.filter_eq_self.2 hm] at e3
  exact e3
/-- the situation of a greedy choice -/
structure Gr (C L : List Sp) (H os : List Int) (nn m : Nat) : Prop where
  hz : chkH C L H = 0
  perm : os.Perm H
  ord : os.Pairwise (ltG (grpF L))
  ml : m ≤ os.length
  enough : (nn : Int) ≤ haveF (gsH C L H) + sumF (fun g => 16 - grpF L g) (os.take m)
  few : ∀ j, j < m → haveF (gsH C L H) + sumF (fun g => 16 - grpF L g) (os.take j) < nn
section
variable {C L : List Sp} {H os : List Int} {nn m : Nat}
theorem Gr.nodupH (h : Gr C L H os nn m) : H.Nodup := (hugOk_lt (chkH_zero.1 h.hz).2.2.2.2).imp (fun h => by omega)
theorem Gr.nodup (h : Gr C L H os nn m) : os.Nodup := ltG_nodup h.ord
theorem Gr.touN (h : Gr C L H os nn m) (l : List Nat) : (touI H l).Nodup := h.nodupH.filter _
theorem Gr.touH {l : List Nat} {g : Int} (hg : g ∈ touI H l) : g ∈ H := (mem_touI.1 hg).1
/-- a choice of so many pages touches at least m groups -/
theorem Gr.least (h : Gr C L H os nn m) {T : List Int} (hlen : ((freeL C L H T).take nn).length = nn) : m ≤ (touI H ((freeL C L H T).take nn)).length := by
  generalize hU : touI H ((freeL C L H T).take nn) = U
  have hUn : U.Nodup := by rw [← hU]; exact h.touN _
  have hUH : ∀ g ∈ U, g ∈ H := fun g hg => by rw [← hU] at hg; exact Gr.touH hg
  obtain ⟨r, hr⟩ := cand_free (C := C) (L := L) (H := H) (T := T) nn
  have h1 : nn ≤ (freeL C L H U).length := by rw [← hU, hr, List.length_append, hlen]; omega
  have h2 := free_len h.hz hUn hUH
  have hmin := set_min (ltG_le h.ord) h.nodup hUn (fun x hx => (h.perm.mem_iff).2 (hUH x hx))
  rw [sumI_eq] at h2
  apply Nat.le_of_not_lt
  intro hlt
  have h3 := h.few U.length hlt
  rw [sumI_eq, List.length_take, Nat.min_eq_left (by have := h.ml; omega)] at h3
  omega
/-- the greedy choice -/
theorem Gr.len (h : Gr C L H os nn m) : ((freeL C L H (os.take m)).take nn).length = nn := by
  rw [List.length_take]
  have := free_len h.hz (h.nodup.sublist (List.take_sublist m os)) (fun g hg => h.perm.mem_iff.1 (List.mem_of_mem_take hg))
  have := h.enough
  omega
theorem Gr.touched (h : Gr C L H os nn m) : (touI H ((freeL C L H (os.take m)).take nn)).Perm (os.take m) := by
  have h1 := h.least h.len
  generalize hU : touI H ((freeL C L H (os.take m)).take nn) = U at *
  have hUn : U.Nodup := by rw [← hU]; exact h.touN _
  have hsub : ∀ g ∈ U, g ∈ os.take m := fun g hg => by rw [← hU] at hg; exact cand_in hg
  have hTn : (os.take m).Nodup := h.nodup.sublist (List.take_sublist m os)
  have hlen : (os.take m).length = m := by rw [List.length_take]; have := h.ml; omega
  have hq : ((os.take m).filter fun x => decide (x ∈ U)).Perm U := perm_of_mem (hTn.filter _) hUn fun x => by
    rw [List.mem_filter, decide_eq_true_eq]
    exact ⟨fun h => h.2, fun h => ⟨hsub x h, h⟩⟩
  have hl2 := hq.length_eq
  have hsl : ((os.take m).filter fun x => decide (x ∈ U)).Sublist (os.take m) := List.filter_sublist
  have := hsl.eq_of_length (by have := hsl.length_le; omega)
  rw [this] at hq
  exact hq.symm
theorem exists_min : ∀ (l : List Int), l ≠ [] → ∃ g ∈ l, ∀ y ∈ l, g ≤ y
  | [], h => absurd rfl h
  | [a], _ => ⟨a, by simp, by simp⟩
  | a :: b :: r, _ => by
    obtain ⟨g, hg, hm⟩ := exists_min (b :: r) (by simp)
    by_cases h : a ≤ g
    · exact ⟨a, by simp, fun y hy => by
        rcases List.mem_cons.1 hy with rfl | hy
        · exact Int.le_refl _
        · have := hm y hy; omega⟩
    · exact ⟨g, List.mem_cons_of_mem _ hg, fun y hy => by
        rcases List.mem_cons.1 hy with rfl | hy
        · omega
        · exact hm y hy⟩
theorem bet_eq (L : List Sp) (H : List Int) {l l' : List Nat} (h : ∀ p ∈ l, p < 1024) (h' : ∀ p ∈ l', p < 1024) : betF L H (castL l) (castL l') =
    if (((touI H l).length : Int) != ((touI H l').length : Int)) = true then decide (((touI H l).length : Int) < ((touI H l').length : Int)) else
    if (sumF (grpF L) (touI H l) != sumF (grpF L) (touI H l')) = true then decide (sumF (grpF L) (touI H l) < sumF (grpF L) (touI H l')) else lexF (castL l) (castL l') := by
  unfold betF numT livT
  rw [touch_touI H l h, touch_touI H l' h']
  rfl
theorem Gr.best (h : Gr C L H os nn m) {T : List Int} (hlen : ((freeL C L H T).take nn).length = nn) :
    (freeL C L H T).take nn = (freeL C L H (os.take m)).take nn ∨ betF L H (castL ((freeL C L H (os.take m)).take nn)) (castL ((freeL C L H T).take nn)) = true := by
  have hge := h.least hlen
  have hperm := h.touched
  obtain ⟨r, hr⟩ := cand_free (C := C) (L := L) (H := H) (T := T) nn
  have hls : ∀ p ∈ (freeL C L H (os.take m)).take nn, p < 1024 := fun p hp => freeL_lt (List.mem_of_mem_take hp)
  have hll : ∀ p ∈ (freeL C L H T).take nn, p < 1024 := fun p hp => freeL_lt (List.mem_of_mem_take hp)
  rw [bet_eq L H hls hll, hperm.length_eq, sumF_perm hperm]
  have hlen2 := h.len
  have hUn := h.touN ((freeL C L H T).take nn)
  have hUH : ∀ g ∈ touI H ((freeL C L H T).take nn), g ∈ H := fun g hg => Gr.touH hg
  have hmst : ∀ g, g ∈ os.take m → ∃ p ∈ (freeL C L H (os.take m)).take nn, (p : Int) / 16 = g := fun g hg => (mem_touI.1 (hperm.mem_iff.2 hg)).2
  have hTl : (os.take m).length = m := by rw [List.length_take]; have := h.ml; omega
  rw [hTl]
  generalize hU : touI H ((freeL C L H T).take nn) = U at *
  have htk : (freeL C L H U).take nn = (freeL C L H T).take nn := by
    rw [hr, List.take_append_of_le_length (by omega), List.take_of_length_le (by omega)]
  by_cases hm : U.length = m
  case neg =>
    right
    rw [if_pos (by simp; omega), decide_eq_true_eq]; omega
  case pos =>
    rw [if_neg (by simp [hm])]
    have hUo : ∀ x ∈ U, x ∈ os := fun x hx => h.perm.mem_iff.2 (hUH x hx)
    have hmin := set_min (ltG_le h.ord) h.nodup hUn hUo
    rw [hm] at hmin
    by_cases he : sumF (grpF L) (os.take m) = sumF (grpF L) U
    case neg =>
      right
      rw [if_pos (by simpa using he), decide_eq_true_eq]; omega
    case pos =>
      rw [if_neg (by simp [he])]
      have hTn : (os.take m).Nodup := h.nodup.sublist (List.take_sublist m os)
      by_cases hD : (os.take m).filter (fun y => !decide (y ∈ U)) = []
      · left
        rw [← htk]
        have hsub : ∀ y ∈ os.take m, y ∈ U := fun y hy => by
          by_cases hyu : y ∈ U
          · exact hyu
          · have : y ∈ (os.take m).filter (fun y => !decide (y ∈ U)) := List.mem_filter.2 ⟨hy, by simp [hyu]⟩
            rw [hD] at this; cases this
        have hq : (U.filter fun x => decide (x ∈ os.take m)).Perm (os.take m) := perm_of_mem (hUn.filter _) hTn fun x => by
          rw [List.mem_filter, decide_eq_true_eq]
          exact ⟨fun h => h.2, fun h => ⟨hsub x h, h⟩⟩
        have hsl : (U.filter fun x => decide (x ∈ os.take m)).Sublist U := List.filter_sublist
        have heq := hsl.eq_of_length (by have := hq.length_eq; omega)
        rw [heq] at hq
        rw [freeL_congr (T := U) (T' := os.take m) (fun g _ => hq.mem_iff)]
      · right
        obtain ⟨g, hg, hgm⟩ := exists_min _ hD
        obtain ⟨hg1, hg2⟩ := List.mem_filter.1 hg
        have hg3 : g ∉ U := by simpa using hg2
        have hgH : g ∈ H := h.perm.mem_iff.1 (List.mem_of_mem_take hg1)
        have hgr := inG_iff.1 ((chkH_zero.1 h.hz).2.2.1 g hgH)
        obtain ⟨gn, rfl⟩ : ∃ gn : Nat, g = (gn : Int) := ⟨g.toNat, by omega⟩
        have hsame : ∀ x : Int, x < gn → (x ∈ os.take m ↔ x ∈ U) := fun x hx => by
          constructor
          · intro hxt
            by_cases hxu : x ∈ U
            · exact hxu
            · have := hgm x (List.mem_filter.2 ⟨hxt, by simp [hxu]⟩); omega
          · intro hxu
            by_cases hxt : x ∈ os.take m
            · exact hxt
            · have := tie_min h.ord hUn hUo (by rw [hm]; exact he.symm) hxu (by rw [hm]; exact hxt) (by rw [hm]; exact hg1) hg3
              omega
        rw [← htk]
        have hr2 : List.range 1024 = List.range' 0 1024 := List.range_eq_range'
        have hlu : ((freeL C L H U).take nn).length = ((freeL C L H (os.take m)).take nn).length := by rw [htk, hlen, hlen2]
        have hq3 := hmst _ hg1
        unfold freeL at hlu hq3 ⊢
        rw [hr2] at hlu hq3 ⊢
        refine lex_first _ _ (16 * gn) (16 * gn + 16) 1024 0 nn (fun p _ hp => ?_) (fun p hp1 hp2 => ?_) ?_ hlu
        · rw [Bool.eq_iff_iff, freeP_iff, freeP_iff]
          have := hsame ((p : Int) / 16) (by omega)
          constructor
          · rintro ⟨a, b⟩; exact ⟨a, fun x => this.1 (b x)⟩
          · rintro ⟨a, b⟩; exact ⟨a, fun x => this.2 (b x)⟩
        · cases hf : freeP C L H U p with
          | false => rfl
          | true =>
            have := (freeP_iff.1 hf).2
            rw [show (p : Int) / 16 = (gn : Int) by omega] at this
            exact absurd (this hgH) hg3
        · obtain ⟨p, hp, e⟩ := hq3
          exact ⟨p, hp, by omega, by omega⟩
end
end Go.Pol
namespace Go.Pol
open Go
/-- the huge groups of a set of bits -/
def tSet (H : List Int) (set : Nat) : List Int := H.filter fun g => (List.range H.length).any fun k => (H.getD k 0 == g) && !(set / 2 ^ k % 2 == 0)
theorem nodup_idx {H : List Int} (h : H.Nodup) {i j : Nat} (hi : i < H.length) (hj : j < H.length) (e : H.getD i 0 = H.getD j 0) : i = j := by
  rw [List.getD_eq_getElem?_getD, List.getD_eq_getElem?_getD, List.getElem?_eq_getElem hi, List.getElem?_eq_getElem hj] at e
  simp only [Option.getD_some] at e
  exact (List.getElem_inj h).1 e
theorem mem_idx {H : List Int} {g : Int} (h : g ∈ H) : ∃ k, k < H.length ∧ H.getD k 0 = g := by
  obtain ⟨k, hk, e⟩ := List.getElem_of_mem h
  exact ⟨k, hk, by rw [List.getD_eq_getElem?_getD, List.getElem?_eq_getElem hk]; simpa using e⟩
theorem mem_tSet {H : List Int} (hn : H.Nodup) {set k : Nat} (hk : k < H.length) : H.getD k 0 ∈ tSet H set ↔ (set / 2 ^ k % 2 == 0) = false := by
  unfold tSet
  rw [List.mem_filter, List.any_eq_true]
  constructor
  · rintro ⟨_, j, hj, e⟩
    rw [List.mem_range] at hj
    rw [Bool.and_eq_true, beq_iff_eq] at e
    have := nodup_idx hn hj hk e.1
    subst this
    simpa using e.2
  · intro h
    refine ⟨?_, k, List.mem_range.2 hk, by rw [h]; simp⟩
    rw [List.getD_eq_getElem?_getD, List.getElem?_eq_getElem hk]; exact List.getElem_mem _
theorem blkd_iff {H : List Int} (hn : H.Nodup) (set : Nat) (p : Int) : blkd H set p H.length = true ↔ p / 16 ∈ H ∧ p / 16 ∉ tSet H set := by
  unfold blkd
  rw [List.any_eq_true]
  constructor
  · rintro ⟨k, hk, e⟩
    rw [List.mem_range] at hk
    rw [Bool.and_eq_true, beq_iff_eq] at e
    rw [e.1]
    refine ⟨by rw [List.getD_eq_getElem?_getD, List.getElem?_eq_getElem hk]; exact List.getElem_mem _, fun h => ?_⟩
    rw [(mem_tSet hn hk).1 h] at e
    exact absurd e.2 (by simp)
  · rintro ⟨h1, h2⟩
    obtain ⟨k, hk, e⟩ := mem_idx h1
    refine ⟨k, List.mem_range.2 hk, ?_⟩
    rw [Bool.and_eq_true, beq_iff_eq]
    refine ⟨e.symm, ?_⟩
    cases hb : (set / 2 ^ k % 2 == 0) with
    | true => rfl
    | false => exact absurd (by rw [← e]; exact (mem_tSet hn hk).2 hb) h2
theorem firR_eq {C L : List Sp} {H : List Int} (hC : Can C) (hL : Can L) (hn : H.Nodup) (set nn : Nat) : firR H set nn (idleP C L) = castL ((freeL C L H (tSet H set)).take nn) := by
  obtain ⟨h1, h2⟩ := idle_can hC hL
  have he : (idleP C L).filter (fun p => !blkd H set p H.length) = castL (freeL C L H (tSet H set)) := by
    refine asc_eq ((pages_lt h2).filter _) ?_ fun x => ?_
    · unfold castL freeL
      rw [List.pairwise_map]
      exact ((List.pairwise_lt_range (n := 1024)).imp (fun h => by omega)).filter _
    · rw [List.mem_filter, mem_castL]
      unfold idleP
      rw [mem_pagesOf]
      have hm : mem x (combF 3 C L) = true ↔ (0 ≤ x ∧ x < 1024) ∧ mem x C = true ∧ mem x L = false := by
        unfold combF
        rw [if_pos h1, mem_setA]
        unfold combG
        rw [if_neg (by decide), if_neg (by decide)]
        constructor
        · rintro ⟨a, b⟩
          rw [show ((x.toNat : Nat) : Int) = x by omega] at b
          exact ⟨a, by simpa using b⟩
        · rintro ⟨a, b⟩
          refine ⟨a, ?_⟩
          rw [show ((x.toNat : Nat) : Int) = x by omega]
          simpa using b
      rw [hm]
      constructor
      · rintro ⟨⟨a, b⟩, c⟩
        refine ⟨x.toNat, List.mem_filter.2 ⟨List.mem_range.2 (by omega), freeP_iff.2 ?_⟩, by omega⟩
        rw [show ((x.toNat : Nat) : Int) = x by omega]
        refine ⟨b, fun hx => ?_⟩
        by_cases ht : x / 16 ∈ tSet H set
        · exact ht
        · rw [(blkd_iff hn set x).2 ⟨hx, ht⟩] at c; simp at c
      · rintro ⟨p, hp, rfl⟩
        obtain ⟨a, b⟩ := freeP_iff.1 (List.mem_filter.1 hp).2
        refine ⟨⟨by have := freeL_lt hp; omega, a⟩, ?_⟩
        cases hb : blkd H set (p : Int) H.length with
        | false => rfl
        | true => obtain ⟨c, d⟩ := (blkd_iff hn set p).1 hb; exact absurd (b c) d
  unfold firR
  rw [he]
  unfold castL
  rw [List.map_take]
theorem bits_ex (f : Nat → Bool) : ∀ n : Nat, ∃ s, s < 2 ^ n ∧ ∀ k, k < n → (s / 2 ^ k % 2 == 0) = !f k
  | 0 => ⟨0, by simp, by omega⟩
  | n + 1 => by
    obtain ⟨s, hs, hk⟩ := bits_ex f n
    refine ⟨s + (if f n = true then 2 ^ n else 0), by rw [Nat.pow_succ]; split <;> omega, fun k hkn => ?_⟩
    by_cases hk2 : k < n
    · rw [← hk k hk2]
      split
      · obtain ⟨d, rfl⟩ : ∃ d, n = k + 1 + d := ⟨n - (k + 1), by omega⟩
        have e : s + 2 ^ (k + 1 + d) = s + 2 ^ k * (2 * 2 ^ d) := by
          rw [Nat.pow_add, Nat.pow_succ, Nat.mul_assoc]
        rw [e, Nat.add_mul_div_left _ _ (Nat.pow_pos (by decide)), Nat.add_mul_mod_self_left]
      · rw [Nat.add_zero]
    · obtain rfl : k = n := by omega
      split
      · rename_i h
        rw [h, Nat.add_div_right _ (Nat.pow_pos (by decide)), Nat.div_eq_of_lt hs]; rfl
      · rename_i h
        rw [Nat.add_zero, Nat.div_eq_of_lt hs]; simp at h; simp [h]
theorem set_ex {H T : List Int} (hn : H.Nodup) : ∃ s, s < 2 ^ H.length ∧ ∀ g ∈ H, g ∈ tSet H s ↔ g ∈ T := by
  obtain ⟨s, hs, hk⟩ := bits_ex (fun k => decide (H.getD k 0 ∈ T)) H.length
  refine ⟨s, hs, fun g hg => ?_⟩
  obtain ⟨k, hkl, rfl⟩ := mem_idx hg
  rw [mem_tSet hn hkl, hk k hkl]; simp
/-- the loop over all sets -/
theorem best_some (L : List Sp) (H I : List Int) (nn : Nat) (b : List Int) (hb : b.length = nn)
    (h1 : ∀ s, (firR H s nn I).length = nn → firR H s nn I = b ∨ betF L H b (firR H s nn I) = true) : ∀ k : Nat,
    (∀ l, (List.range k).foldl (stepBst L H I nn) none = some l → l.length = nn ∧ ∃ s, firR H s nn I = l) ∧
    ((∃ s, s < k ∧ firR H s nn I = b) → (List.range k).foldl (stepBst L H I nn) none = some b)
  | 0 => ⟨fun l h => by simp at h, fun ⟨s, h, _⟩ => by omega⟩
  | k + 1 => by
    obtain ⟨i1, i2⟩ := best_some L H I nn b hb h1 k
    rw [List.range_succ, List.foldl_append, List.foldl_cons, List.foldl_nil]
    generalize (List.range k).foldl (stepBst L H I nn) none = c at *
    unfold stepBst
    by_cases hl : (firR H k nn I).length = nn
    · cases c with
      | none =>
        rw [if_pos (by simp [hl])]
        refine ⟨fun l h => by cases h; exact ⟨hl, k, rfl⟩, fun ⟨s, hs, e⟩ => ?_⟩
        by_cases hsk : s < k
        · exact absurd (i2 ⟨s, hsk, e⟩) (by simp)
        · obtain rfl : s = k := by omega
          rw [e]
      | some d =>
        obtain ⟨hd, sd, hsd⟩ := i1 d rfl
        cases hbt : betF L H (firR H k nn I) d with
        | true =>
          rw [if_pos (by simp [hl, hbt])]
          refine ⟨fun l h => by cases h; exact ⟨hl, k, rfl⟩, fun ⟨s, hs, e⟩ => ?_⟩
          by_cases hsk : s < k
          · have := i2 ⟨s, hsk, e⟩
            cases this
            rcases h1 k hl with h | h
            · rw [h]
            · rw [betF_asymm h] at hbt; cases hbt
          · obtain rfl : s = k := by omega
            rw [e]
        | false =>
          rw [if_neg (by simp [hbt])]
          refine ⟨i1, fun ⟨s, hs, e⟩ => ?_⟩
          by_cases hsk : s < k
          · exact i2 ⟨s, hsk, e⟩
          · obtain rfl : s = k := by omega
            rw [e] at hbt
            rcases h1 sd (by rw [hsd]; exact hd) with h | h
            · rw [← hsd, h]
            · rw [hsd] at h; rw [h] at hbt; cases hbt
    · rw [if_neg (by simp [hl])]
      refine ⟨i1, fun ⟨s, hs, e⟩ => ?_⟩
      by_cases hsk : s < k
      · exact i2 ⟨s, hsk, e⟩
      · obtain rfl : s = k := by omega
        exact absurd (by rw [e]; exact hb) hl
theorem best_none (L : List Sp) (H I : List Int) (nn : Nat) (h : ∀ s, (firR H s nn I).length ≠ nn) : ∀ k : Nat, (List.range k).foldl (stepBst L H I nn) none = none
  | 0 => rfl
  | k + 1 => by
    rw [List.range_succ, List.foldl_append, best_none L H I nn h k, List.foldl_cons, List.foldl_nil]
    unfold stepBst
    rw [if_neg (by simp [h k])]
end Go.Pol
namespace Go.Pol
open Go
theorem cutH_spec (n : Int) : ∀ (h : Int) (l : List Gp), ∃ m, m ≤ l.length ∧ cutH n h l = l.take m ∧ (∀ j, j < m → h + idleG (l.take j) < n) ∧ (n ≤ h + idleG (l.take m) ∨ m = l.length)
  | h, [] => ⟨0, by simp, rfl, by omega, .inr rfl⟩
  | h, g :: r => by
    by_cases hc : n ≤ h
    · exact ⟨0, by simp, by rw [cutH, if_pos hc]; rfl, by omega, .inl (by simpa [idleG] using hc)⟩
    · obtain ⟨m, h1, h2, h3, h4⟩ := cutH_spec n (h + (16 - g.2.2.1)) r
      have e : ∀ j, idleG ((g :: r).take (j + 1)) = (16 - g.2.2.1) + idleG (r.take j) := fun j => by simp [idleG]
      refine ⟨m + 1, by simp; omega, by rw [cutH, if_neg hc, h2, List.take_succ_cons], fun j hj => ?_, ?_⟩
      · cases j with
        | zero => simp [idleG]; omega
        | succ j => rw [e j]; have := h3 j (by omega); omega
      · rw [e m]
        rcases h4 with h4 | h4
        · left; omega
        · right; simp [h4]
theorem sub_le {f : Int → Int} (hf : ∀ x, 0 ≤ f x) {s os : List Int} (h : s.Sublist os) : sumF f s ≤ sumF f os := by
  induction h with
  | slnil => exact Int.le_refl _
  | cons a _ ih => rw [sumF_cons]; have := hf a; omega
  | cons_cons a _ ih => rw [sumF_cons, sumF_cons]; omega
theorem ones_setA (l : List Nat) : setOf (onesF l) = setA (inL (castL l)) := by
  unfold setOf
  congr 1
  funext k
  rw [Bool.eq_iff_iff]
  unfold mem inL onesF
  rw [List.any_eq_true, decide_eq_true_eq, mem_castL]
  constructor
  · rintro ⟨x, hx, h⟩
    obtain ⟨p, hp, rfl⟩ := List.mem_map.1 hx
    refine ⟨p, hp, ?_⟩
    simp only [Bool.and_eq_true, decide_eq_true_eq] at h
    omega
  · rintro ⟨p, hp, e⟩
    refine ⟨((p : Int), 1), List.mem_map.2 ⟨p, hp, rfl⟩, ?_⟩
    simp only [Bool.and_eq_true, decide_eq_true_eq]
    omega
/-- the order in which the program takes the huge groups -/
def OrdOk (C L : List Sp) (H : List Int) (ord : List Gp) : Prop := ord.Perm ((gsH C L H).filter hugeP) ∧ ord.Pairwise (fun a b => ltX b a = false)
theorem choose_law {C L : List Sp} {H : List Int} (n : Int) (ord : List Gp) (ho : chkH C L H = 0 → OrdOk C L H ord) : chooseA C L H n ord = rchooseA C L H n := by
  by_cases hz : chkH C L H = 0
  case neg => simp [chooseA, rchooseA, hz]
  by_cases hn : n < 0 ∨ 1024 < n
  case pos => simp [chooseA, rchooseA, hz, hn]
  obtain ⟨hp, hs⟩ := ho hz
  obtain ⟨canC, canL, hin, hsub, hok⟩ := chkH_zero.1 hz
  have hnH : H.Nodup := (hugOk_lt hok).imp (fun h => by omega)
  rw [gsH_huge hz] at hp
  obtain ⟨nn, rfl⟩ : ∃ nn : Nat, n = (nn : Int) := ⟨n.toNat, by omega⟩
  have hlive : ∀ x ∈ ord, x.2.2.1 = grpF L x.1 := fun x hx => by
    obtain ⟨g, _, rfl⟩ := List.mem_map.1 (hp.mem_iff.1 hx); rfl
  obtain ⟨os, hos⟩ : ∃ os, ord.map (·.1) = os := ⟨_, rfl⟩
  have hperm : os.Perm H := by
    have := hp.map (·.1)
    rw [List.map_map, hos] at this
    have e : H.map ((fun x : Gp => x.1) ∘ fun g => (g, grpF C g, grpF L g, true)) = H := by
      rw [show ((fun x : Gp => x.1) ∘ fun g => (g, grpF C g, grpF L g, true)) = id from rfl, List.map_id]
    rw [e] at this; exact this
  have hon : os.Nodup := hperm.nodup_iff.2 hnH
  have hord : os.Pairwise (ltG (grpF L)) := by
    rw [← hos, List.pairwise_map]
    have hne : ord.Pairwise (fun a b => a.1 ≠ b.1) := by
      have := hon
      rw [← hos] at this
      exact List.pairwise_map.1 this
    refine List.Pairwise.imp_of_mem ?_ (hs.and hne)
    intro a b ha hb h
    obtain ⟨h1, h2⟩ := h
    have la := hlive a ha
    have lb := hlive b hb
    simp only [ltX, Bool.or_eq_false_iff, Bool.and_eq_false_iff, decide_eq_false_iff_not] at h1
    unfold ltG
    rw [← la, ← lb]
    omega
  have hidle : ∀ j, idleG (ord.take j) = sumF (fun g => 16 - grpF L g) (os.take j) := fun j => by
    rw [← hos, ← List.map_take]
    unfold idleG sumF
    rw [List.map_map]
    exact congrArg List.sum (List.map_congr_left fun x hx => by
      show 16 - x.2.2.1 = 16 - grpF L x.1
      rw [hlive x (List.mem_of_mem_take hx)])
  obtain ⟨m, m1, m2, m3, m4⟩ := cutH_spec (nn : Int) (haveF (gsH C L H)) ord
  have hnum : numsF (cutH (nn : Int) (haveF (gsH C L H)) ord) = os.take m := by
    rw [m2, ← hos, ← List.map_take]; rfl
  have hol : os.length = ord.length := by rw [← hos, List.length_map]
  have hcA : chooseA C L H (nn : Int) ord = if haveF (gsH C L H) + sumF (fun g => 16 - grpF L g) (os.take m) < nn then ([], 4) else (setA (inL (castL ((freeL C L H (os.take m)).take nn))), 0) := by
    unfold chooseA
    rw [if_neg (by simp [hz]), if_neg hn, hnum, m2, hidle m, ones_setA]
    rfl
  have hcB : rchooseA C L H (nn : Int) = bestE (bestL C L H nn (2 ^ H.length)) := by
    unfold rchooseA
    rw [if_neg (by simp [hz]), if_neg hn]; rfl
  rw [hcA, hcB]
  have hfir := fun s => firR_eq canC canL hnH s nn
  have htH : ∀ s g, g ∈ tSet H s → g ∈ H := fun s g hg => (List.mem_filter.1 hg).1
  by_cases hlt : haveF (gsH C L H) + sumF (fun g => 16 - grpF L g) (os.take m) < nn
  · rw [if_pos hlt]
    have hm : m = os.length := by
      rcases m4 with h | h
      · rw [hidle m] at h; omega
      · rw [hol]; exact h
    rw [hm, List.take_length] at hlt
    have hnone : bestL C L H nn (2 ^ H.length) = none := by
      refine best_none L H (idleP C L) nn (fun s hlen => ?_) _
      rw [hfir s, castL_len, List.length_take] at hlen
      have h1 := free_len hz (T := tSet H s) (hnH.filter _) (htH s)
      have hq : (os.filter fun x => decide (x ∈ tSet H s)).Perm (tSet H s) := perm_of_mem (hon.filter _) (hnH.filter _) fun x => by
        rw [List.mem_filter, decide_eq_true_eq]
        exact ⟨fun h => h.2, fun h => ⟨hperm.mem_iff.2 (htH s x h), h⟩⟩
      have h2 := sub_le (f := fun g => 16 - grpF L g) (fun x => by have := grpF_bound L x; omega) (List.filter_sublist (l := os) (p := fun x => decide (x ∈ tSet H s)))
      rw [sumF_perm hq] at h2
      omega
    rw [hnone]; rfl
  · rw [if_neg hlt]
    have hG : Gr C L H os nn m := ⟨hz, hperm, hord, by omega, by omega, fun j hj => by rw [← hidle j]; exact m3 j hj⟩
    have hb := best_some L H (idleP C L) nn (castL ((freeL C L H (os.take m)).take nn)) (by rw [castL_len]; exact hG.len) (fun s hlen => by
      rw [hfir s] at hlen ⊢
      rw [castL_len] at hlen
      rcases hG.best (T := tSet H s) hlen with h | h
      · left; rw [h]
      · right; exact h) (2 ^ H.length)
    obtain ⟨s, hs1, hs2⟩ := set_ex (T := os.take m) hnH
    have := hb.2 ⟨s, hs1, by rw [hfir s, freeL_congr hs2]⟩
    unfold bestL
    rw [this]; rfl
theorem ord_ok {C L : List Sp} {H : List Int} : OrdOk C L H (Sort.insertionSort Go.Proofs.Ytmpakobfedgdbaa.ltL ((gsH C L H).filter hugeP).toArray 0 ((gsH C L H).filter hugeP).length).toList := by
  refine insSort_X _ (List.Pairwise.filter _ ?_)
  rw [gsH_map, List.pairwise_map]
  exact grps_lt
end Go.Pol
namespace Go.Pol
open Go
/-- is a page idle? -/
def idlP (C L : List Sp) (p : Nat) : Bool := mem (p : Int) C && !mem (p : Int) L
theorem idle_setA {C L : List Sp} (hC : Can C) (hL : Can L) : combF 3 C L = setA (idlP C L) := by
  unfold combF
  rw [if_pos (idle_can hC hL).1]
  congr 1
theorem mem_setA' (f : Nat → Bool) {p : Nat} (hp : p < 1024) : mem (p : Int) (setA f) = f p := by
  rw [Bool.eq_iff_iff, mem_setA]
  simp; omega
/-- how many pages a set of marks has -/
theorem sumS_setA (f : Nat → Bool) : sumS (setA f) = (((List.range 1024).filter f).length : Int) := by
  rw [← count_law (setA_can f)]
  have h := filter_cnt (fun q => mem q (setA f)) 1024
  rw [List.filter_congr (fun p hp => mem_setA' f (List.mem_range.1 hp))] at h
  exact h.symm
theorem setA_list {f : Nat → Bool} : setA (inL (castL ((List.range 1024).filter f))) = setA f := by
  refine ((setA_can _).eq_setA f fun p hp => ?_)
  rw [mem_setA' _ hp]
  unfold inL
  rw [Bool.eq_iff_iff, decide_eq_true_eq, mem_castL]
  constructor
  · intro h
    exact ⟨p, List.mem_filter.2 ⟨List.mem_range.2 hp, h⟩, rfl⟩
  · rintro ⟨q, hq, e⟩
    have : q = p := by omega
    subst this
    exact (List.mem_filter.1 hq).2
theorem range_inL {l : List Nat} (hn : l.Pairwise (· < ·)) (hb : ∀ p ∈ l, p < 1024) : (List.range 1024).filter (inL (castL l)) = l := by
  have hm : ∀ p, inL (castL l) p = true ↔ p ∈ l := fun p => by
    unfold inL
    rw [decide_eq_true_eq, mem_castL]
    constructor
    · rintro ⟨q, hq, e⟩
      have : q = p := by omega
      rwa [← this]
    · exact fun h => ⟨p, h, rfl⟩
  have hp : ((List.range 1024).filter (inL (castL l))).Perm l := (List.perm_ext_iff_of_nodup (List.nodup_range.filter _) (hn.imp (fun h => by omega))).2 fun x => by
    rw [List.mem_filter, List.mem_range, hm]
    exact ⟨fun h => h.2, fun h => ⟨hb x h, h⟩⟩
  exact hp.eq_of_pairwise (fun a b _ _ h1 h2 => by omega) (List.pairwise_lt_range.filter _) hn
/-- what HugeFewest asks of an answer, where the state is one -/
def FewOk (C L : List Sp) (H : List Int) (n : Int) (R : List Sp × Int) : Prop :=
  (R.2 ≠ 0 ∧ R.1 = [] ∧ ((R.2 = 2 ∧ (n < 0 ∨ 1024 < n)) ∨ (R.2 = 4 ∧ 0 ≤ n ∧ n ≤ 1024 ∧ sumS (combF 3 C L) < n))) ∨
  (R.2 = 0 ∧ 0 ≤ n ∧ n ≤ 1024 ∧ Can R.1 ∧ sumS R.1 = n ∧ chk2 R.1 (combF 3 C L) = 0 ∧ combF 3 R.1 (combF 3 C L) = [] ∧
    ∀ B : Nat → Bool, (∀ p, p < 1024 → B p = true → idlP C L p = true) → (((List.range 1024).filter B).length : Int) = n →
      (touchF R.1 H).length < (touchF (setA B) H).length ∨ ((touchF R.1 H).length = (touchF (setA B) H).length ∧ liveS L (touchF R.1 H) ≤ liveS L (touchF (setA B) H)))
theorem liveS_sumF (L : List Sp) (l : List Int) : liveS L l = sumF (grpF L) l := rfl
theorem Gr.fewest {C L : List Sp} {H os : List Int} {nn m : Nat} (h : Gr C L H os nn m) {l : List Nat} (hl : l.Pairwise (· < ·)) (hb : ∀ p ∈ l, p < 1024) (hi : ∀ p ∈ l, idlP C L p = true) (hlen : l.length = nn) :
    m < (touI H l).length ∨ (m = (touI H l).length ∧ sumF (grpF L) (os.take m) ≤ sumF (grpF L) (touI H l)) := by
  have hUn := h.touN l
  have hUH : ∀ g ∈ touI H l, g ∈ H := fun g hg => Gr.touH hg
  have hsub : ∀ p ∈ l, p ∈ freeL C L H (touI H l) := fun p hp => by
    unfold freeL
    refine List.mem_filter.2 ⟨List.mem_range.2 (hb p hp), freeP_iff.2 ⟨?_, fun hx => mem_touI.2 ⟨hx, p, hp, rfl⟩⟩⟩
    have := hi p hp
    simpa [idlP] using this
  have h1 : nn ≤ (freeL C L H (touI H l)).length := by
    rw [← hlen]
    exact List.Nodup.length_le_of_subset (hl.imp (fun h => by omega)) (fun p hp => hsub p hp)
  generalize touI H l = U at *
  have h2 := free_len h.hz hUn hUH
  have hmin := set_min (ltG_le h.ord) h.nodup hUn (fun x hx => (h.perm.mem_iff).2 (hUH x hx))
  rw [sumI_eq] at h2
  have hle : m ≤ U.length := by
    apply Nat.le_of_not_lt
    intro hlt
    have h3 := h.few U.length hlt
    rw [sumI_eq, List.length_take, Nat.min_eq_left (by have := h.ml; omega)] at h3
    omega
  by_cases he : m = U.length
  · right
    refine ⟨he, ?_⟩
    rw [he]; exact hmin
  · left; omega
theorem fewest_law {C L : List Sp} {H : List Int} (n : Int) (ord : List Gp) (hz : chkH C L H = 0) (ho : OrdOk C L H ord) : FewOk C L H n (chooseA C L H n ord) := by
  by_cases hn : n < 0 ∨ 1024 < n
  case pos => exact .inl (by simp [chooseA, hz, hn])
  obtain ⟨hp, hs⟩ := ho
  obtain ⟨canC, canL, hin, hsub, hok⟩ := chkH_zero.1 hz
  have hnH : H.Nodup := (hugOk_lt hok).imp (fun h => by omega)
  rw [gsH_huge hz] at hp
  obtain ⟨nn, rfl⟩ : ∃ nn : Nat, n = (nn : Int) := ⟨n.toNat, by omega⟩
  have hlive : ∀ x ∈ ord, x.2.2.1 = grpF L x.1 := fun x hx => by
    obtain ⟨g, _, rfl⟩ := List.mem_map.1 (hp.mem_iff.1 hx); rfl
  obtain ⟨os, hos⟩ : ∃ os, ord.map (·.1) = os := ⟨_, rfl⟩
  have hperm : os.Perm H := by
    have := hp.map (·.1)
    rw [List.map_map, hos] at this
    have e : H.map ((fun x : Gp => x.1) ∘ fun g => (g, grpF C g, grpF L g, true)) = H := by
      rw [show ((fun x : Gp => x.1) ∘ fun g => (g, grpF C g, grpF L g, true)) = id from rfl, List.map_id]
    rw [e] at this; exact this
  have hon : os.Nodup := hperm.nodup_iff.2 hnH
  have hord : os.Pairwise (ltG (grpF L)) := by
    rw [← hos, List.pairwise_map]
    have hne : ord.Pairwise (fun a b => a.1 ≠ b.1) := by
      have := hon
      rw [← hos] at this
      exact List.pairwise_map.1 this
    refine List.Pairwise.imp_of_mem ?_ (hs.and hne)
    intro a b ha hb h
    obtain ⟨h1, h2⟩ := h
    have la := hlive a ha
    have lb := hlive b hb
    simp only [ltX, Bool.or_eq_false_iff, Bool.and_eq_false_iff, decide_eq_false_iff_not] at h1
    unfold ltG
    rw [← la, ← lb]
    omega
  have hidle : ∀ j, idleG (ord.take j) = sumF (fun g => 16 - grpF L g) (os.take j) := fun j => by
    rw [← hos, ← List.map_take]
    unfold idleG sumF
    rw [List.map_map]
    exact congrArg List.sum (List.map_congr_left fun x hx => by
      show 16 - x.2.2.1 = 16 - grpF L x.1
      rw [hlive x (List.mem_of_mem_take hx)])
  obtain ⟨m, m1, m2, m3, m4⟩ := cutH_spec (nn : Int) (haveF (gsH C L H)) ord
  have hnum : numsF (cutH (nn : Int) (haveF (gsH C L H)) ord) = os.take m := by
    rw [m2, ← hos, ← List.map_take]; rfl
  have hol : os.length = ord.length := by rw [← hos, List.length_map]
  have hcA : chooseA C L H (nn : Int) ord = if haveF (gsH C L H) + sumF (fun g => 16 - grpF L g) (os.take m) < nn then ([], 4) else (setA (inL (castL ((freeL C L H (os.take m)).take nn))), 0) := by
    unfold chooseA
    rw [if_neg (by simp [hz]), if_neg hn, hnum, m2, hidle m, ones_setA]
    rfl
  rw [hcA]
  have hidl : idlP C L = freeP C L H H := by
    funext p
    rw [Bool.eq_iff_iff, freeP_iff]
    simp [idlP]
  by_cases hlt : haveF (gsH C L H) + sumF (fun g => 16 - grpF L g) (os.take m) < nn
  · rw [if_pos hlt]
    have hm : m = os.length := by
      rcases m4 with h | h
      · rw [hidle m] at h; omega
      · rw [hol]; exact h
    rw [hm, List.take_length] at hlt
    refine .inl ⟨by decide, rfl, .inr ⟨rfl, by omega, by omega, ?_⟩⟩
    rw [idle_setA canC canL, sumS_setA, hidl]
    have h1 := free_len hz hnH (fun g hg => hg)
    unfold freeL at h1
    rw [h1, ← sumF_perm hperm]
    exact hlt
  · rw [if_neg hlt]
    have hG : Gr C L H os nn m := ⟨hz, hperm, hord, by omega, by omega, fun j hj => by rw [← hidle j]; exact m3 j hj⟩
    have hlen := hG.len
    have htou := hG.touched
    have hasc : ((freeL C L H (os.take m)).take nn).Pairwise (· < ·) := List.Pairwise.sublist (List.take_sublist _ _) (List.pairwise_lt_range.filter _)
    have hbd : ∀ p ∈ (freeL C L H (os.take m)).take nn, p < 1024 := fun p hp => freeL_lt (List.mem_of_mem_take hp)
    have hidx : ∀ p ∈ (freeL C L H (os.take m)).take nn, idlP C L p = true := fun p hp => by
      have := (freeP_iff.1 (List.mem_filter.1 (List.mem_of_mem_take hp)).2).1
      simp [idlP, this]
    generalize (freeL C L H (os.take m)).take nn = l at *
    have hcan := setA_can (inL (castL l))
    have hcan2 := (idle_can canC canL).2
    have hc2 : chk2 (setA (inL (castL l))) (combF 3 C L) = 0 := by
      unfold chk2
      rw [if_pos (chkS_zero.2 hcan)]; exact chkS_zero.2 hcan2
    refine .inr ⟨rfl, by omega, by omega, hcan, ?_, hc2, ?_, fun B hB hcnt => ?_⟩
    · show sumS (setA (inL (castL l))) = _
      rw [sumS_setA, range_inL hasc hbd, hlen]
    · show combF 3 (setA (inL (castL l))) (combF 3 C L) = []
      have hx : ∀ p : Nat, p < 1024 → mem (p : Int) (combF 3 C L) = idlP C L p := fun p hp => by rw [idle_setA canC canL, mem_setA' _ hp]
      generalize combF 3 C L = I at *
      unfold combF
      rw [if_pos hc2]
      refine ((show Can [] from ⟨by simp, rfl⟩).eq_setA _ fun p hp => ?_).symm
      rw [mem_nil]
      unfold combG
      rw [if_neg (by decide), if_neg (by decide), mem_setA' _ hp, hx p hp]
      cases h : inL (castL l) p with
      | false => rfl
      | true =>
        have : p ∈ l := by
          unfold inL at h
          rw [decide_eq_true_eq, mem_castL] at h
          obtain ⟨q, hq, e⟩ := h
          have : q = p := by omega
          rwa [← this]
        rw [hidx p this]; rfl
    · show (touchF (setA (inL (castL l))) H).length < _ ∨ _
      rw [touch_touI H l hbd, ← setA_list (f := B)]
      have hb2 : ∀ p ∈ (List.range 1024).filter B, p < 1024 := fun p hp => List.mem_range.1 (List.mem_filter.1 hp).1
      rw [touch_touI H _ hb2, liveS_sumF, liveS_sumF]
      rw [htou.length_eq, sumF_perm htou, List.length_take, Nat.min_eq_left (by omega)]
      exact hG.fewest (List.pairwise_lt_range.filter _) hb2 (fun p hp => hB p (hb2 p hp) (List.mem_filter.1 hp).2) (by omega)
end Go.Pol
namespace Go.Pol
open Go
/-- fewer live pages, or as many and no greater number -/
def LeX (x y : Gp) : Prop := x.2.2.1 < y.2.2.1 ∨ (x.2.2.1 = y.2.2.1 ∧ x.1 ≤ y.1)
theorem LeX.trans {x y z : Gp} (h : LeX x y) (k : LeX y z) : LeX x z := by unfold LeX at *; omega
theorem leX_iff {x y : Gp} : LeX x y ↔ ltX y x = false := by
  simp only [LeX, ltX, Bool.or_eq_false_iff, Bool.and_eq_false_iff, decide_eq_false_iff_not]
  omega
/-- as many live pages: in the order of their numbers -/
def TieX (x y : Gp) : Prop := x.2.2.1 = y.2.2.1 → x.1 ≤ y.1
theorem LeX.tie {x y : Gp} (h : LeX x y) : TieX x y := by unfold LeX at h; unfold TieX; omega
/-- an exchange -/
def sw (l : List Gp) (p q : Nat) : List Gp := (l.set p (l.getD q gp0)).set q (l.getD p gp0)
theorem sw_len (l : List Gp) (p q : Nat) : (sw l p q).length = l.length := by simp [sw]
theorem getD_sw {l : List Gp} {p q : Nat} (hp : p < l.length) (hq : q < l.length) (i : Nat) : (sw l p q).getD i gp0 = if i = q then l.getD p gp0 else if i = p then l.getD q gp0 else l.getD i gp0 := by
  unfold sw
  simp only [List.getD_eq_getElem?_getD, List.getElem?_set, List.length_set]
  by_cases h1 : q = i
  · subst h1; simp [hq]
  · rw [if_neg h1, if_neg (Ne.symm h1)]
    by_cases h2 : p = i
    · subst h2; simp [hp]
    · rw [if_neg h2, if_neg (Ne.symm h2)]
theorem ext_getD {a b : List Gp} (hl : a.length = b.length) (h : ∀ i, i < a.length → a.getD i gp0 = b.getD i gp0) : a = b := by
  apply List.ext_getElem hl
  intro i h1 h2
  have := h i h1
  rwa [List.getD_eq_getElem?_getD, List.getD_eq_getElem?_getD, List.getElem?_eq_getElem h1, List.getElem?_eq_getElem h2] at this
theorem getD_app (a b : List Gp) (i : Nat) : (a ++ b).getD i gp0 = if i < a.length then a.getD i gp0 else b.getD (i - a.length) gp0 := by
  simp only [List.getD_eq_getElem?_getD, List.getElem?_append]
  split <;> rfl
/-- exchanges, from below on -/
def swpL (a b : Nat) : Nat → List Gp → List Gp
  | 0, l => l
  | k + 1, l => sw (swpL a b k l) (a + k) (b + k)
theorem swpL_len (a b : Nat) : ∀ (k : Nat) (l : List Gp), (swpL a b k l).length = l.length
  | 0, _ => rfl
  | k + 1, l => by rw [swpL, sw_len, swpL_len a b k l]
theorem swpL_getD {a b : Nat} {l : List Gp} : ∀ {k : Nat}, a + k ≤ b → b + k ≤ l.length → ∀ i, (swpL a b k l).getD i gp0 =
    if a ≤ i ∧ i < a + k then l.getD (i - a + b) gp0 else if b ≤ i ∧ i < b + k then l.getD (i - b + a) gp0 else l.getD i gp0
  | 0, _, _, i => by rw [swpL, if_neg (by omega), if_neg (by omega)]
  | k + 1, h1, h2, i => by
    rw [swpL, getD_sw (by rw [swpL_len]; omega) (by rw [swpL_len]; omega), swpL_getD (by omega) (by omega), swpL_getD (by omega) (by omega), swpL_getD (by omega) (by omega)]
    by_cases e1 : i = b + k
    · subst e1
      rw [if_pos rfl, if_neg (by omega), if_neg (by omega), if_neg (by omega), if_pos (by omega)]
      congr 1; omega
    · rw [if_neg e1]
      by_cases e2 : i = a + k
      · subst e2
        rw [if_pos rfl, if_neg (by omega), if_neg (by omega), if_pos (by omega)]
        congr 1; omega
      · rw [if_neg e2]
        by_cases e3 : a ≤ i ∧ i < a + k
        · rw [if_pos e3, if_pos (by omega)]
        · rw [if_neg e3, if_neg (show ¬ (a ≤ i ∧ i < a + (k + 1)) by omega)]
          by_cases e4 : b ≤ i ∧ i < b + k
          · rw [if_pos e4, if_pos (by omega)]
          · rw [if_neg e4, if_neg (show ¬ (b ≤ i ∧ i < b + (k + 1)) by omega)]
/-- two runs of one length change places -/
theorem swpL_app (P A M B S : List Gp) (h : A.length = B.length) : swpL P.length (P.length + A.length + M.length) A.length (P ++ (A ++ (M ++ (B ++ S)))) = P ++ (B ++ (M ++ (A ++ S))) := by
  apply ext_getD
  · rw [swpL_len]; simp; omega
  intro i _
  rw [swpL_getD (by omega) (by simp; omega)]
  simp only [getD_app]
  by_cases h1 : i < P.length
  · rw [if_neg (by omega), if_neg (by omega), if_pos h1, if_pos h1]
  · by_cases h2 : i < P.length + A.length
    · rw [if_pos (by omega), if_neg (by omega), if_neg (by omega), if_neg (by omega), if_pos (by omega), if_neg h1, if_pos (by omega)]
      congr 1; omega
    · by_cases h3 : i < P.length + A.length + M.length
      · rw [if_neg (by omega), if_neg (by omega), if_neg h1, if_neg (by omega), if_pos (by omega), if_neg h1, if_neg (by omega), if_pos (by omega)]
        congr 1; omega
      · by_cases h4 : i < P.length + A.length + M.length + B.length
        · rw [if_neg (by omega), if_pos (by omega), if_neg (by omega), if_pos (by omega), if_neg h1, if_neg (by omega), if_neg (by omega), if_pos (by omega)]
          congr 1; omega
        · rw [if_neg (by omega), if_neg (by omega), if_neg h1, if_neg (by omega), if_neg (by omega), if_neg (by omega), if_neg h1, if_neg (by omega), if_neg (by omega), if_neg (by omega)]
          congr 1; omega
/-- what a rotation has in its hands: the list now, and the list that it shall be -/
def RotS (i j p : Nat) (cur tgt : List Gp) : Prop := ∃ P U V S, P.length = p ∧ U.length = i ∧ V.length = j ∧ cur = P ++ (U ++ (V ++ S)) ∧ tgt = P ++ (V ++ (U ++ S))
theorem RotS.len {i j p : Nat} {cur tgt : List Gp} (h : RotS i j p cur tgt) : p + i + j ≤ cur.length := by
  obtain ⟨P, U, V, S, h1, h2, h3, h4, _⟩ := h
  rw [h4]; simp; omega
theorem RotS.gtr {i j p : Nat} {cur tgt : List Gp} (h : RotS i j p cur tgt) (hij : j < i) : RotS (i - j) j (p + j) (swpL p (p + i) j cur) tgt := by
  obtain ⟨P, U, V, S, h1, h2, h3, h4, h5⟩ := h
  have hU : U = U.take j ++ U.drop j := (List.take_append_drop j U).symm
  refine ⟨P ++ V, U.drop j, U.take j, S, by simp; omega, by simp; omega, by simp; omega, ?_, ?_⟩
  · have := swpL_app P (U.take j) (U.drop j) V S (by simp; omega)
    have e1 : (U.take j).length = j := by simp; omega
    have e2 : (U.drop j).length = i - j := by simp; omega
    rw [e1, e2, h1] at this
    rw [h4]
    rw [show p + j + (i - j) = p + i by omega] at this
    rw [show P ++ (U ++ (V ++ S)) = P ++ (U.take j ++ (U.drop j ++ (V ++ S))) by rw [← List.append_assoc (U.take j), ← hU], this]
    simp
  · rw [h5, List.append_assoc, ← List.append_assoc (U.take j), ← hU]
theorem RotS.lss {i j p : Nat} {cur tgt : List Gp} (h : RotS i j p cur tgt) (hij : i < j) : RotS i (j - i) p (swpL p (p + j) i cur) tgt := by
  obtain ⟨P, U, V, S, h1, h2, h3, h4, h5⟩ := h
  have hV : V = V.take (j - i) ++ V.drop (j - i) := (List.take_append_drop (j - i) V).symm
  refine ⟨P, V.drop (j - i), V.take (j - i), U ++ S, h1, by simp; omega, by simp; omega, ?_, ?_⟩
  · have := swpL_app P U (V.take (j - i)) (V.drop (j - i)) S (by simp; omega)
    have e1 : (V.take (j - i)).length = j - i := by simp; omega
    rw [e1, h1, h2] at this
    rw [h4]
    rw [show p + i + (j - i) = p + j by omega] at this
    rw [show P ++ (U ++ (V ++ S)) = P ++ (U ++ (V.take (j - i) ++ (V.drop (j - i) ++ S))) by rw [← List.append_assoc (V.take (j - i)), ← hV], this]
  · rw [h5, ← List.append_assoc (V.take (j - i)), ← hV]
theorem RotS.eql {i p : Nat} {cur tgt : List Gp} (h : RotS i i p cur tgt) : swpL p (p + i) i cur = tgt := by
  obtain ⟨P, U, V, S, h1, h2, h3, h4, h5⟩ := h
  have := swpL_app P U [] V S (by omega)
  rw [h1, h2] at this
  simpa [h4, h5] using this
/-- one element on its way up through a run -/
def upL (P : List Gp) (x : Gp) (U S : List Gp) (k : Nat) : List Gp := P ++ (U.take k ++ (x :: (U.drop k ++ S)))
theorem upL_len (P : List Gp) (x : Gp) (U S : List Gp) (k : Nat) : (upL P x U S k).length = P.length + U.length + 1 + S.length := by
  simp [upL]; omega
theorem sw_at (A : List Gp) (x y : Gp) (B : List Gp) : sw (A ++ x :: y :: B) A.length (A.length + 1) = A ++ y :: x :: B := by
  unfold sw
  simp [List.getD_eq_getElem?_getD]
theorem sw_at' (A : List Gp) (x y : Gp) (B : List Gp) : sw (A ++ x :: y :: B) (A.length + 1) A.length = A ++ y :: x :: B := by
  unfold sw
  simp [List.getD_eq_getElem?_getD]
theorem upL_succ (P : List Gp) (x : Gp) (U S : List Gp) {k : Nat} (hk : k < U.length) : sw (upL P x U S k) (P.length + k) (P.length + k + 1) = upL P x U S (k + 1) := by
  have e1 : U.drop k = U[k] :: U.drop (k + 1) := List.drop_eq_getElem_cons hk
  have e2 : U.take (k + 1) = U.take k ++ [U[k]] := by rw [List.take_add_one, List.getElem?_eq_getElem hk]; rfl
  have := sw_at (P ++ U.take k) x U[k] (U.drop (k + 1) ++ S)
  unfold upL
  rw [e1, e2]
  have hl : (P ++ U.take k).length = P.length + k := by simp; omega
  rw [hl] at this
  simpa only [List.append_assoc, List.cons_append, List.singleton_append, List.nil_append] using this
theorem upL_pred (P : List Gp) (x : Gp) (U S : List Gp) {k : Nat} (hk : k < U.length) : sw (upL P x U S (k + 1)) (P.length + k + 1) (P.length + k) = upL P x U S k := by
  have e1 : U.drop k = U[k] :: U.drop (k + 1) := List.drop_eq_getElem_cons hk
  have e2 : U.take (k + 1) = U.take k ++ [U[k]] := by rw [List.take_add_one, List.getElem?_eq_getElem hk]; rfl
  have := sw_at' (P ++ U.take k) U[k] x (U.drop (k + 1) ++ S)
  unfold upL
  rw [e1, e2]
  have hl : (P ++ U.take k).length = P.length + k := by simp; omega
  rw [hl] at this
  simpa only [List.append_assoc, List.cons_append, List.singleton_append, List.nil_append] using this
end Go.Pol
namespace Go.Pol
open Go
/-- a piece of a list -/
def cut (l : List Gp) (a b : Nat) : List Gp := (l.take b).drop a
theorem cut_mid {A B C : List Gp} {a b : Nat} (ha : A.length = a) (hb : a + B.length = b) : cut (A ++ (B ++ C)) a b = B := by
  subst ha; subst hb
  unfold cut
  rw [← List.append_assoc, List.take_left' (by simp), List.drop_left]
theorem cut_len {l : List Gp} {a b : Nat} (h : b ≤ l.length) : (cut l a b).length = b - a := by simp [cut]; omega
theorem cut_split {l : List Gp} {a b : Nat} (hab : a ≤ b) : l = l.take a ++ (cut l a b ++ l.drop b) := by
  have h1 : l.take a = (l.take b).take a := by rw [List.take_take, Nat.min_eq_left hab]
  rw [← List.append_assoc, h1, cut, List.take_append_drop, List.take_append_drop]
/-- what a merge leaves -/
def MergeTo (a b : Nat) (l l' : List Gp) : Prop := ∃ Z : List Gp, Z.Perm (cut l a b) ∧ Z.Pairwise LeX ∧ l' = l.take a ++ (Z ++ l.drop b)
theorem MergeTo.len {a b : Nat} {l l' : List Gp} (h : MergeTo a b l l') (hab : a ≤ b) (hb : b ≤ l.length) : l'.length = l.length := by
  obtain ⟨Z, h1, _, h3⟩ := h
  have := h1.length_eq
  rw [cut_len hb] at this
  rw [h3]; simp; omega
theorem MergeTo.sorted {a b : Nat} {l : List Gp} (hab : a ≤ b) (h : (cut l a b).Pairwise LeX) : MergeTo a b l l := ⟨_, List.Perm.refl _, h, cut_split hab⟩
theorem le_last {X : List Gp} {z : Gp} (h : (X ++ [z]).Pairwise LeX) : ∀ x ∈ X ++ [z], LeX x z := by
  intro x hx
  rcases List.mem_append.1 hx with hx | hx
  · exact (List.pairwise_append.1 h).2.2 x hx z (by simp)
  · rw [List.mem_singleton.1 hx]; exact .inr ⟨rfl, Int.le_refl _⟩
theorem head_le {Y : List Gp} {z : Gp} (h : (z :: Y).Pairwise LeX) : ∀ y ∈ z :: Y, LeX z y := by
  intro y hy
  rcases List.mem_cons.1 hy with rfl | hy
  · exact .inr ⟨rfl, Int.le_refl _⟩
  · exact (List.pairwise_cons.1 h).1 y hy
/-- live pages of the element with a number -/
def lvd (l : List Gp) (k : Nat) : Int := (l.getD k gp0).2.2.1
theorem lvd_at (A : List Gp) (x : Gp) (B : List Gp) {k : Nat} (hk : A.length = k) : lvd (A ++ x :: B) k = x.2.2.1 := by
  subst hk; simp [lvd, List.getD_eq_getElem?_getD]
/-- a list taken apart where a merge looks -/
theorem five {l : List Gp} {a s m e b : Nat} (h1 : a ≤ s) (h2 : s ≤ m) (h3 : m ≤ e) (h4 : e ≤ b) (h5 : b ≤ l.length) :
    ∃ P X1 X2 Y1 Y2 S, P.length = a ∧ X1.length = s - a ∧ X2.length = m - s ∧ Y1.length = e - m ∧ Y2.length = b - e ∧ l = P ++ (X1 ++ (X2 ++ (Y1 ++ (Y2 ++ S)))) := by
  refine ⟨l.take a, cut l a s, cut l s m, cut l m e, cut l e b, l.drop b, by simp; omega, cut_len (by omega), cut_len (by omega), cut_len (by omega), cut_len (by omega), ?_⟩
  have g : ∀ {p q : Nat}, p ≤ q → l.drop p = cut l p q ++ l.drop q := fun {p q} hpq => by
    have h := cut_split (l := l) hpq
    have hlen : (l.take p ++ l.drop p) = l.take p ++ (cut l p q ++ l.drop q) := by rw [List.take_append_drop]; exact h
    exact List.append_cancel_left hlen
  rw [← g h4, ← g h3, ← g h2, ← g h1, List.take_append_drop]
/-- the two middle runs have changed places -/
def rotL (s m e : Nat) (l : List Gp) : List Gp := l.take s ++ (cut l m e ++ (cut l s m ++ l.drop e))
theorem rotL_none {s m e : Nat} {l : List Gp} (h1 : s ≤ m) (h2 : m ≤ e) (h : ¬ (s < m ∧ m < e)) : rotL s m e l = l := by
  unfold rotL
  by_cases h3 : s = m
  · subst h3
    rw [show cut l s s = [] by simp [cut], List.nil_append]
    exact (cut_split h2).symm
  · have : m = e := by omega
    subst this
    rw [show cut l m m = [] by simp [cut], List.nil_append]
    exact (cut_split h1).symm
theorem rotL_len {s m e : Nat} {l : List Gp} (h1 : s ≤ m) (h2 : m ≤ e) (h3 : e ≤ l.length) : (rotL s m e l).length = l.length := by
  unfold rotL
  simp [cut_len h3, cut_len (show m ≤ l.length by omega)]; omega
theorem rot_start {s m e : Nat} {l : List Gp} (h1 : s ≤ m) (h2 : m ≤ e) (h3 : e ≤ l.length) : RotS (m - s) (e - m) s l (rotL s m e l) := by
  refine ⟨l.take s, cut l s m, cut l m e, l.drop e, by simp; omega, cut_len (by omega), cut_len h3, ?_, rfl⟩
  have g : l.drop m = cut l m e ++ l.drop e := by
    have h := cut_split (l := l) h2
    have hlen : (l.take m ++ l.drop m) = l.take m ++ (cut l m e ++ l.drop e) := by rw [List.take_append_drop]; exact h
    exact List.append_cancel_left hlen
  rw [← g]
  exact cut_split h1
/-- THE LAW of one step of a merge: exchange the two middle runs, merge both halves -/
theorem sym_law {l l2 l3 : List Gp} {a s m e b mid : Nat} (h1 : a ≤ s) (h2 : s ≤ m) (h3 : m ≤ e) (h4 : e ≤ b) (h5 : b ≤ l.length) (hmid : mid = s + (e - m))
    (hX : (cut l a m).Pairwise LeX) (hY : (cut l m b).Pairwise LeX) (hT : ∀ x ∈ cut l a m, ∀ y ∈ cut l m b, TieX x y)
    (f1 : a < s → e < b → ¬ lvd l e < lvd l (s - 1)) (f2 : s < m → m < e → lvd l (e - 1) < lvd l s)
    (hM : MergeTo a mid (rotL s m e l) l2) (hN : MergeTo mid b l2 l3) : MergeTo a b l l3 := by
  obtain ⟨P, X1, X2, Y1, Y2, S, g0, g1, g2, g3, g4, rfl⟩ := five h1 h2 h3 h4 h5
  have cX : cut (P ++ (X1 ++ (X2 ++ (Y1 ++ (Y2 ++ S))))) a m = X1 ++ X2 := by
    rw [← List.append_assoc X1]; exact cut_mid g0 (by simp; omega)
  have cY : cut (P ++ (X1 ++ (X2 ++ (Y1 ++ (Y2 ++ S))))) m b = Y1 ++ Y2 := by
    rw [← List.append_assoc X1, ← List.append_assoc P, ← List.append_assoc Y1]; exact cut_mid (by simp; omega) (by simp; omega)
  have cA : cut (P ++ (X1 ++ (X2 ++ (Y1 ++ (Y2 ++ S))))) a b = X1 ++ (X2 ++ (Y1 ++ Y2)) := by
    rw [show P ++ (X1 ++ (X2 ++ (Y1 ++ (Y2 ++ S)))) = P ++ ((X1 ++ (X2 ++ (Y1 ++ Y2))) ++ S) by simp]; exact cut_mid g0 (by simp; omega)
  have cR : rotL s m e (P ++ (X1 ++ (X2 ++ (Y1 ++ (Y2 ++ S))))) = P ++ ((X1 ++ Y1) ++ (X2 ++ (Y2 ++ S))) := by
    unfold rotL
    have e1 : cut (P ++ (X1 ++ (X2 ++ (Y1 ++ (Y2 ++ S))))) m e = Y1 := by
      rw [← List.append_assoc X1, ← List.append_assoc P]; exact cut_mid (by simp; omega) (by omega)
    have e2 : cut (P ++ (X1 ++ (X2 ++ (Y1 ++ (Y2 ++ S))))) s m = X2 := by
      rw [← List.append_assoc P]; exact cut_mid (by simp; omega) (by omega)
    have e3 : (P ++ (X1 ++ (X2 ++ (Y1 ++ (Y2 ++ S))))).take s = P ++ X1 := by
      rw [← List.append_assoc P]; exact List.take_left' (by simp; omega)
    have e4 : (P ++ (X1 ++ (X2 ++ (Y1 ++ (Y2 ++ S))))).drop e = Y2 ++ S := by
      rw [show P ++ (X1 ++ (X2 ++ (Y1 ++ (Y2 ++ S)))) = (P ++ (X1 ++ (X2 ++ Y1))) ++ (Y2 ++ S) by simp]; exact List.drop_left' (by simp; omega)
    rw [e1, e2, e3, e4]; simp
  rw [cX] at hX hT
  rw [cY] at hY hT
  rw [cR] at hM
  obtain ⟨Z1, p1, q1, rfl⟩ := hM
  rw [cut_mid g0 (by simp; omega)] at p1
  rw [List.take_left' g0, show P ++ ((X1 ++ Y1) ++ (X2 ++ (Y2 ++ S))) = (P ++ (X1 ++ Y1)) ++ (X2 ++ (Y2 ++ S)) by simp, List.drop_left' (by simp; omega)] at hN
  obtain ⟨Z2, p2, q2, rfl⟩ := hN
  have hz1 := p1.length_eq
  rw [List.length_append] at hz1
  have cZ : cut (P ++ (Z1 ++ (X2 ++ (Y2 ++ S)))) mid b = X2 ++ Y2 := by
    rw [← List.append_assoc P, ← List.append_assoc X2]; exact cut_mid (by simp; omega) (by simp; omega)
  rw [cZ] at p2
  refine ⟨Z1 ++ Z2, ?_, ?_, ?_⟩
  · rw [cA]
    refine (p1.append p2).trans ?_
    rw [List.append_assoc]
    refine List.Perm.append_left _ ?_
    rw [← List.append_assoc, ← List.append_assoc]
    exact List.Perm.append_right _ List.perm_append_comm
  · refine List.pairwise_append.2 ⟨q1, q2, fun x hx y hy => ?_⟩
    have hx' := p1.mem_iff.1 hx
    have hy' := p2.mem_iff.1 hy
    rcases List.mem_append.1 hx' with hx' | hx'
    · rcases List.mem_append.1 hy' with hy' | hy'
      · exact (List.pairwise_append.1 hX).2.2 x hx' y hy'
      · rcases List.eq_nil_or_concat X1 with rfl | ⟨X0, z, rfl⟩
        · cases hx'
        · cases Y2 with
          | nil => cases hy'
          | cons t Y0 =>
            have r1 := le_last (by simpa using (List.pairwise_append.1 hX).1) x (by simpa using hx')
            have r2 := head_le (List.pairwise_append.1 hY).2.1 y hy'
            have r3 := hT z (by simp) t (by simp)
            simp only [List.length_append, List.length_cons, List.length_nil, List.concat_eq_append] at g1 g4
            have f := f1 (by omega) (by omega)
            have v1 : lvd (P ++ (X0.concat z ++ (X2 ++ (Y1 ++ (t :: Y0 ++ S))))) e = t.2.2.1 := by
              rw [show P ++ (X0.concat z ++ (X2 ++ (Y1 ++ (t :: Y0 ++ S)))) = (P ++ (X0.concat z ++ (X2 ++ Y1))) ++ t :: (Y0 ++ S) by simp]
              exact lvd_at _ _ _ (by simp; omega)
            have v2 : lvd (P ++ (X0.concat z ++ (X2 ++ (Y1 ++ (t :: Y0 ++ S))))) (s - 1) = z.2.2.1 := by
              rw [show P ++ (X0.concat z ++ (X2 ++ (Y1 ++ (t :: Y0 ++ S)))) = (P ++ X0) ++ z :: (X2 ++ (Y1 ++ (t :: Y0 ++ S))) by simp]
              exact lvd_at _ _ _ (by simp; omega)
            rw [v1, v2] at f
            refine r1.trans (LeX.trans ?_ r2)
            unfold TieX at r3
            unfold LeX
            omega
    · rcases List.mem_append.1 hy' with hy' | hy'
      · rcases List.eq_nil_or_concat Y1 with rfl | ⟨Y0, z, rfl⟩
        · cases hx'
        · cases X2 with
          | nil => cases hy'
          | cons t X0 =>
            have r1 := le_last (by simpa using (List.pairwise_append.1 hY).1) x (by simpa using hx')
            have r2 := head_le (List.pairwise_append.1 hX).2.1 y hy'
            simp only [List.length_append, List.length_cons, List.length_nil, List.concat_eq_append] at g2 g3
            have f := f2 (by omega) (by omega)
            have v1 : lvd (P ++ (X1 ++ (t :: X0 ++ (Y0.concat z ++ (Y2 ++ S))))) (e - 1) = z.2.2.1 := by
              rw [show P ++ (X1 ++ (t :: X0 ++ (Y0.concat z ++ (Y2 ++ S)))) = (P ++ (X1 ++ (t :: X0 ++ Y0))) ++ z :: (Y2 ++ S) by simp]
              exact lvd_at _ _ _ (by simp; omega)
            have v2 : lvd (P ++ (X1 ++ (t :: X0 ++ (Y0.concat z ++ (Y2 ++ S))))) s = t.2.2.1 := by
              rw [show P ++ (X1 ++ (t :: X0 ++ (Y0.concat z ++ (Y2 ++ S)))) = (P ++ X1) ++ t :: (X0 ++ (Y0.concat z ++ (Y2 ++ S))) by simp]
              exact lvd_at _ _ _ (by simp; omega)
            rw [v1, v2] at f
            exact r1.trans (LeX.trans (.inl f) r2)
      · exact (List.pairwise_append.1 hY).2.2 x hx' y hy'
  · have d1 : (P ++ (X1 ++ (X2 ++ (Y1 ++ (Y2 ++ S))))).drop b = S := by
      rw [show P ++ (X1 ++ (X2 ++ (Y1 ++ (Y2 ++ S)))) = (P ++ (X1 ++ (X2 ++ (Y1 ++ Y2)))) ++ S by simp]; exact List.drop_left' (by simp; omega)
    have d2 : (P ++ (Z1 ++ (X2 ++ (Y2 ++ S)))).drop b = S := by
      rw [show P ++ (Z1 ++ (X2 ++ (Y2 ++ S))) = (P ++ (Z1 ++ (X2 ++ Y2))) ++ S by simp]; exact List.drop_left' (by simp; omega)
    have d3 : (P ++ (Z1 ++ (X2 ++ (Y2 ++ S)))).take mid = P ++ Z1 := by
      rw [← List.append_assoc P]; exact List.take_left' (by simp; omega)
    rw [d1, d2, d3, List.take_left' g0]; simp
/-- a list with one element apart -/
theorem up_split {l : List Gp} {a b : Nat} (hab : a < b) (hb : b ≤ l.length) : l = upL (l.take a) (l.getD a gp0) (cut l (a + 1) b) (l.drop b) 0 := by
  have h := cut_split (l := l) (show a + 1 ≤ b by omega)
  unfold upL
  rw [List.take_zero, List.drop_zero, List.nil_append]
  have e : l.take (a + 1) = l.take a ++ [l.getD a gp0] := by
    rw [List.take_add_one, List.getD_eq_getElem?_getD, List.getElem?_eq_getElem (show a < l.length by omega)]; rfl
  rw [e, List.append_assoc] at h
  exact h
theorem up_split' {l : List Gp} {a m : Nat} (hab : a ≤ m) (hb : m < l.length) : l = upL (l.take a) (l.getD m gp0) (cut l a m) (l.drop (m + 1)) (m - a) := by
  have h := cut_split (l := l) hab
  have hc : (cut l a m).length = m - a := cut_len (by omega)
  unfold upL
  rw [List.take_of_length_le (show (cut l a m).length ≤ m - a by omega), List.drop_eq_nil_of_le (show (cut l a m).length ≤ m - a by omega), List.nil_append]
  have e : l.drop m = l.getD m gp0 :: l.drop (m + 1) := by
    rw [List.drop_eq_getElem_cons hb, List.getD_eq_getElem?_getD, List.getElem?_eq_getElem hb]; rfl
  rw [← e]
  exact h
theorem ins_sorted {x : Gp} {U : List Gp} {k : Nat} (hU : U.Pairwise LeX) (h1 : ∀ y ∈ U.take k, LeX y x) (h2 : ∀ y ∈ U.drop k, LeX x y) : (U.take k ++ x :: U.drop k).Pairwise LeX := by
  have hU' : (U.take k ++ U.drop k).Pairwise LeX := by rw [List.take_append_drop]; exact hU
  obtain ⟨p1, p2, p3⟩ := List.pairwise_append.1 hU'
  refine List.pairwise_append.2 ⟨p1, List.pairwise_cons.2 ⟨h2, p2⟩, fun y hy z hz => ?_⟩
  rcases List.mem_cons.1 hz with rfl | hz
  · exact h1 y hy
  · exact p3 y hy z hz
theorem getD_cut {l : List Gp} {a b i : Nat} (h1 : a ≤ i) (h2 : i < b) : (cut l a b).getD (i - a) gp0 = l.getD i gp0 := by
  unfold cut
  simp only [List.getD_eq_getElem?_getD, List.getElem?_drop, List.getElem?_take]
  rw [show a + (i - a) = i by omega, if_pos h2]
theorem take_le {U : List Gp} {k : Nat} (hU : U.Pairwise LeX) (hk : 0 < k) (hl : k ≤ U.length) : ∀ y ∈ U.take k, LeX y (U.getD (k - 1) gp0) := by
  have e : U.take k = U.take (k - 1) ++ [U.getD (k - 1) gp0] := by
    conv => lhs; rw [show k = k - 1 + 1 by omega]
    rw [List.take_add_one, List.getD_eq_getElem?_getD, List.getElem?_eq_getElem (show k - 1 < U.length by omega)]; rfl
  rw [e]
  refine le_last ?_
  rw [← e]
  exact hU.sublist (List.take_sublist _ _)
theorem drop_le {U : List Gp} {k : Nat} (hU : U.Pairwise LeX) (hl : k < U.length) : ∀ y ∈ U.drop k, LeX (U.getD k gp0) y := by
  have e : U.drop k = U.getD k gp0 :: U.drop (k + 1) := by
    rw [List.drop_eq_getElem_cons hl, List.getD_eq_getElem?_getD, List.getElem?_eq_getElem hl]; rfl
  rw [e]
  refine head_le ?_
  rw [← e]
  exact hU.sublist (List.drop_sublist _ _)
theorem one_x {l : List Gp} {a i b : Nat} (hi : a + 1 ≤ i) (hib : i ≤ b) (hb : b ≤ l.length) (hY : (cut l (a + 1) b).Pairwise LeX) (hT : ∀ y ∈ cut l (a + 1) b, TieX (l.getD a gp0) y)
    (f1 : a + 1 < i → lvd l (i - 1) < lvd l a) (f2 : i < b → ¬ lvd l i < lvd l a) : MergeTo a b l (upL (l.take a) (l.getD a gp0) (cut l (a + 1) b) (l.drop b) (i - (a + 1))) := by
  have hl : (cut l (a + 1) b).length = b - (a + 1) := cut_len hb
  refine ⟨(cut l (a + 1) b).take (i - (a + 1)) ++ l.getD a gp0 :: (cut l (a + 1) b).drop (i - (a + 1)), ?_, ins_sorted hY ?_ ?_, by simp [upL]⟩
  · refine List.perm_middle.trans ?_
    rw [List.take_append_drop]
    have h : cut l a b = l.getD a gp0 :: cut l (a + 1) b := by
      unfold cut
      rw [List.drop_eq_getElem_cons (show a < (l.take b).length by simp; omega), List.getD_eq_getElem?_getD, List.getElem?_eq_getElem (show a < l.length by omega)]
      simp
    rw [h]
  · intro y hy
    by_cases h0 : a + 1 < i
    · refine (take_le hY (by omega) (by omega) y hy).trans ?_
      rw [show i - (a + 1) - 1 = (i - 1) - (a + 1) by omega, getD_cut (by omega) (by omega)]
      exact .inl (f1 h0)
    · rw [show i - (a + 1) = 0 by omega] at hy; cases hy
  · intro y hy
    by_cases h0 : i < b
    · refine LeX.trans ?_ (drop_le hY (by omega) y hy)
      have ht := hT ((cut l (a + 1) b).getD (i - (a + 1)) gp0) (by rw [List.getD_eq_getElem?_getD, List.getElem?_eq_getElem (by omega)]; simp)
      rw [getD_cut (by omega) h0] at ht ⊢
      have := f2 h0
      unfold lvd at this
      unfold TieX at ht
      unfold LeX
      omega
    · rw [List.drop_eq_nil_of_le (by omega)] at hy; cases hy
theorem one_y {l : List Gp} {a i m : Nat} (hi : a ≤ i) (him : i ≤ m) (hb : m < l.length) (hX : (cut l a m).Pairwise LeX) (hT : ∀ x ∈ cut l a m, TieX x (l.getD m gp0))
    (f1 : a < i → ¬ lvd l m < lvd l (i - 1)) (f2 : i < m → lvd l m < lvd l i) : MergeTo a (m + 1) l (upL (l.take a) (l.getD m gp0) (cut l a m) (l.drop (m + 1)) (i - a)) := by
  have hl : (cut l a m).length = m - a := cut_len (by omega)
  refine ⟨(cut l a m).take (i - a) ++ l.getD m gp0 :: (cut l a m).drop (i - a), ?_, ins_sorted hX ?_ ?_, by simp [upL]⟩
  · refine List.perm_middle.trans ?_
    rw [List.take_append_drop]
    have h : cut l a (m + 1) = cut l a m ++ [l.getD m gp0] := by
      unfold cut
      rw [List.take_add_one, List.getD_eq_getElem?_getD, List.getElem?_eq_getElem hb, List.drop_append_of_le_length (by simp; omega)]
      simp
    rw [h]
    exact (List.perm_append_singleton _ _).symm
  · intro y hy
    by_cases h0 : a < i
    · refine (take_le hX (by omega) (by omega) y hy).trans ?_
      have ht := hT ((cut l a m).getD (i - a - 1) gp0) (by rw [List.getD_eq_getElem?_getD, List.getElem?_eq_getElem (by omega)]; simp)
      rw [show i - a - 1 = (i - 1) - a by omega, getD_cut (by omega) (by omega)] at ht ⊢
      have := f1 h0
      unfold lvd at this
      unfold TieX at ht
      unfold LeX
      omega
    · rw [show i - a = 0 by omega] at hy; cases hy
  · intro y hy
    by_cases h0 : i < m
    · refine LeX.trans ?_ (drop_le hX (by omega) y hy)
      rw [getD_cut (by omega) h0]
      exact .inl (f2 h0)
    · rw [List.drop_eq_nil_of_le (by omega)] at hy; cases hy
end Go.Pol
namespace Go.Pol
open Go Go.RowKit
section
variable {P : Program} {ops : Array Oper} {Q : Exit → Act → World → Prop} {md : Region.Mode} {S : World → Prop} {tl : List Nat}
/-- operations that need nothing may be taken ahead: the condition on the world is asked from here on -/
theorem wpAnyT_weak : ∀ (fuel : Nat) (listed : Array Bool) (a : Act) (w : World), wpAnyT P md ops Q S tl fuel listed a w → wpAnyT P md ops Q (fun _ => True) [] fuel listed a w
  | 0, _, _, _, h => h
  | fuel + 1, _, _, _, h => ⟨h.1, fun i hi => wpOp_mono (fun a' w' h' => ⟨fun _ => trivial, wpAnyT_weak fuel _ a' w' h'.2⟩) (h.2 i hi)⟩
end
/-- the cells of two elements of a row -/
def SwS (g p q : Nat) (x y : Gp) (W : World) : Prop := (W.cell? ⟨g, p * 4, none⟩ = some (.int .i64 x.1) ∧ W.cell? ⟨g, p * 4 + 1, none⟩ = some (.int .i64 x.2.1) ∧ W.cell? ⟨g, p * 4 + 2, none⟩ = some (.int .i64 x.2.2.1) ∧ W.cell? ⟨g, p * 4 + 3, none⟩ = some (.bool x.2.2.2)) ∧
  W.cell? ⟨g, q * 4, none⟩ = some (.int .i64 y.1) ∧ W.cell? ⟨g, q * 4 + 1, none⟩ = some (.int .i64 y.2.1) ∧ W.cell? ⟨g, q * 4 + 2, none⟩ = some (.int .i64 y.2.2.1) ∧ W.cell? ⟨g, q * 4 + 3, none⟩ = some (.bool y.2.2.2)
/-- the cells of a block begin with a list of groups -/
structure RowG (cs : Array Value) (l : List Gp) : Prop where
  big : l.length * 4 ≤ cs.size
  at_ : ∀ k, k < l.length → cs[k * 4]? = some (.int .i64 (l.getD k gp0).1) ∧ cs[k * 4 + 1]? = some (.int .i64 (l.getD k gp0).2.1) ∧ cs[k * 4 + 2]? = some (.int .i64 (l.getD k gp0).2.2.1) ∧ cs[k * 4 + 3]? = some (.bool (l.getD k gp0).2.2.2)
def put4 (cs : Array Value) (p : Nat) (y : Gp) : Array Value := (((cs.setIfInBounds (p * 4) (.int .i64 y.1)).setIfInBounds (p * 4 + 1) (.int .i64 y.2.1)).setIfInBounds (p * 4 + 2) (.int .i64 y.2.2.1)).setIfInBounds (p * 4 + 3) (.bool y.2.2.2)
theorem put4_size (cs : Array Value) (p : Nat) (y : Gp) : (put4 cs p y).size = cs.size := by simp [put4]
theorem RowG.put {cs : Array Value} {l : List Gp} (h : RowG cs l) {p : Nat} (hp : p < l.length) (y : Gp) : RowG (put4 cs p y) (l.set p y) := by
  have hb := h.big
  refine ⟨by rw [put4_size, List.length_set]; exact hb, fun k hk => ?_⟩
  rw [List.length_set] at hk
  unfold put4
  simp only [Array.getElem?_setIfInBounds, Array.size_setIfInBounds]
  by_cases e : p = k
  · subst e
    have hg : (l.set p y).getD p gp0 = y := by simp [List.getD_eq_getElem?_getD, hp]
    rw [hg]
    refine ⟨?_, ?_, ?_, ?_⟩
    · rw [if_neg (by omega), if_neg (by omega), if_neg (by omega), if_pos rfl, if_pos (by omega)]
    · rw [if_neg (by omega), if_neg (by omega), if_pos rfl, if_pos (by omega)]
    · rw [if_neg (by omega), if_pos rfl, if_pos (by omega)]
    · rw [if_pos rfl, if_pos (by omega)]
  · have hg : (l.set p y).getD k gp0 = l.getD k gp0 := by simp [List.getD_eq_getElem?_getD, e]
    rw [hg]
    obtain ⟨h0, h1, h2, h3⟩ := h.at_ k hk
    refine ⟨?_, ?_, ?_, ?_⟩
    · rw [if_neg (by omega), if_neg (by omega), if_neg (by omega), if_neg (by omega)]; exact h0
    · rw [if_neg (by omega), if_neg (by omega), if_neg (by omega), if_neg (by omega)]; exact h1
    · rw [if_neg (by omega), if_neg (by omega), if_neg (by omega), if_neg (by omega)]; exact h2
    · rw [if_neg (by omega), if_neg (by omega), if_neg (by omega), if_neg (by omega)]; exact h3
/-- a world with an element of a row put anew -/
def putW (W : World) (g p : Nat) (y : Gp) : World := (((W.setCell ⟨g, p * 4, none⟩ (.int .i64 y.1)).setCell ⟨g, p * 4 + 1, none⟩ (.int .i64 y.2.1)).setCell ⟨g, p * 4 + 2, none⟩ (.int .i64 y.2.2.1)).setCell ⟨g, p * 4 + 3, none⟩ (.bool y.2.2.2)
theorem putW_blk {W : World} {g : Nat} {t : TypeId} {cs : Array Value} (h : Blk W g t cs) (p : Nat) (y : Gp) : Blk (putW W g p y) g t (put4 cs p y) :=
  (((h.set_ (p * 4) _).set_ (p * 4 + 1) _).set_ (p * 4 + 2) _).set_ (p * 4 + 3) _
theorem putW_far (W : World) (g p : Nat) (y : Gp) : Far (fun k => k = g) W (putW W g p y) :=
  Far.setCell (T := fun k => k = g) (p := ⟨g, p * 4 + 3, none⟩) (Far.setCell (T := fun k => k = g) (p := ⟨g, p * 4 + 2, none⟩) (Far.setCell (T := fun k => k = g) (p := ⟨g, p * 4 + 1, none⟩) (Far.setCell (T := fun k => k = g) (p := ⟨g, p * 4, none⟩) (Far.refl _ _) (fun _ => rfl) _) (fun _ => rfl) _) (fun _ => rfl) _) (fun _ => rfl) _
theorem RowG.sw {W : World} {g : Nat} {t : TypeId} {cs : Array Value} {l : List Gp} (h : RowG cs l) (hb : Blk W g t cs) {p q : Nat} (hp : p < l.length) (hq : q < l.length) : SwS g p q (l.getD p gp0) (l.getD q gp0) W := by
  obtain ⟨a0, a1, a2, a3⟩ := h.at_ p hp
  obtain ⟨b0, b1, b2, b3⟩ := h.at_ q hq
  unfold SwS
  simp only [hb.cell]
  exact ⟨⟨a0, a1, a2, a3⟩, b0, b1, b2, b3⟩
/-- a block whose cells begin with a list of groups -/
def RowB (w : World) (g : Nat) (t : TypeId) (sz : Nat) (l : List Gp) : Prop := ∃ cs, Blk w g t cs ∧ cs.size = sz ∧ RowG cs l
theorem RowB.drew {w : World} {g : Nat} {t : TypeId} {sz : Nat} {l : List Gp} (h : RowB w g t sz l) : RowB w.drew g t sz l := by
  obtain ⟨cs, h1, h2, h3⟩ := h
  exact ⟨cs, h1.drew, h2, h3⟩
theorem RowB.call {w w' : World} {g : Nat} {t : TypeId} {sz : Nat} {l : List Gp} (h : RowB w g t sz l) (hb : Below w.heap.size w w') : RowB w' g t sz l := by
  obtain ⟨cs, h1, h2, h3⟩ := h
  exact ⟨cs, h1.call hb, h2, h3⟩
end Go.Pol
namespace Go.Proofs.Ytmpakobfedgdbaa
open Go Go.Proofs Go.RowKit Go.Pol Go.Shelf
attribute [local go_sem] Oper.semAt_some Go.Pol.wide_fn Go.Pol.wide_depth Go.Pol.wide_fn' Go.Pol.wide_depth'

set_option maxRecDepth 100000 in
set_option maxHeartbeats 1600000 in
theorem swapRange_any (g n cap a b m : Nat) (t : TypeId) (sz : Nat) (l : List Gp) (w : World) (hr : RowB w g t sz l) (hn : l.length = n) (ha : a + m ≤ b) (hb : b + m ≤ n) (hn64 : n ≤ 1000) :
    Calls Try.prog 91 #[.slice (some ⟨g, 0, none⟩) n cap, .int .i64 a, .int .i64 b, .int .i64 m, .func (.func 38) #[] #[]] w fun e w' => e = .returned (.tuple #[]) ∧
      RowB w' g t sz (swpL a b m l) ∧ Far (fun k => k = g) w w' := by
  obtain ⟨cs, hk, hcs, hl⟩ := hr
  have hn' := Lib.hid hn
  go_enter Try.func91, Try.ntmps91
  go_wp2_with fail
  go_loopw [10] (fun i wr => ∃ (k : Nat) (ds : Array Value), k ≤ m ∧ i = .int .i64 k ∧ Blk wr g t ds ∧ Hid (ds.size = sz) ∧ Hid (RowG ds (swpL a b k l)) ∧ Far (fun k => k = g) w wr) (fun i _ => m - (intOf i).toNat)
  case atStart => exact ⟨0, cs, by omega, rfl, hk, Lib.hid hcs, Lib.hid hl, Far.refl _ _⟩
  case round =>
    clear hk hl hn hcs
    obtain ⟨k, ds, hkm, rfl, hkd, hsz, hRd, hF⟩ := hrel
    by_cases hlt : k < m
    · have hlt' : decide ((k : Int) < (m : Int)) = true := by simpa using hlt
      obtain ⟨p, hp⟩ : ∃ p, a + k = p := ⟨_, rfl⟩
      obtain ⟨q, hq⟩ : ∃ q, b + k = q := ⟨_, rfl⟩
      have hpa : IntKind.i64.wrap ((a : Int) + (k : Int)) = (p : Int) := by rw [IntKind.wrap_i64]; omega
      have hqa : IntKind.i64.wrap ((b : Int) + (k : Int)) = (q : Int) := by rw [IntKind.wrap_i64]; omega
      have hpn : (p : Int) < (n : Int) := by omega
      have hqn : (q : Int) < (n : Int) := by omega
      have hpn2 : p < n := by omega
      have hqn2 : q < n := by omega
      have hlen := swpL_len a b k l
      rw [hn'.out] at hlen
      have hnext := Lib.hid (show swpL a b (k + 1) l = ((swpL a b k l).set p ((swpL a b k l).getD q gp0)).set q ((swpL a b k l).getD p gp0) by rw [swpL, hp, hq, sw])
      have hS0 := hRd.out.sw hkd (p := p) (q := q) (by omega) (by omega)
      generalize swpL a b k l = lk at *
      have hput := hRd.out.put (p := p) (by omega) (lk.getD q gp0)
      have hput2 := Lib.hid (hput.put (p := q) (by rw [List.length_set]; omega) (lk.getD p gp0))
      rw [← hnext.out] at hput2
      have hput' := Lib.hid hput
      clear hput hnext hRd
      generalize hX : lk.getD p gp0 = x at *
      generalize hY : lk.getD q gp0 = y at *
      go_upto_region 3 with fail
      refine wp_noPanic ?_
      refine wp_region_T (fun _ => True) [] (by kernel_rfl) ?_
      have hS : SwS g p q x y wr.drew := hS0
      have kd := hkd.drew
      have hFd := hF.drew
      generalize wr.drew = w1 at *
      obtain ⟨xn, xc, xl, xh⟩ := x
      obtain ⟨yn, yc, yl, yh⟩ := y
      clear hS0 hkd hF hX hY
      refine' wpAnyT_take (i := 0) (v := _) ?hiT0 (by kernel_rfl) ?hQT0 (Or.inl ⟨?hwT0, ?hyT0⟩) trivial ?reT0
      case hiT0 => (simp only [List.getElem?_toArray, List.getElem?_cons_zero]; rfl)
      case hQT0 => exact fun _ _ _ h => h
      case hwT0 => rfl
      case hyT0 => (intro wS hSw; go_simp; (try with_reducible rfl))
      try simp only [Act.put, List.setIfInBounds_toArray, List.set_cons_zero, List.set_cons_succ]
      refine' wpAnyT_take (i := 1) (v := _) ?hiT1 (by kernel_rfl) ?hQT1 (Or.inl ⟨?hwT1, ?hyT1⟩) trivial ?reT1
      case hiT1 => (simp only [List.getElem?_toArray, List.getElem?_cons_succ, List.getElem?_cons_zero]; rfl)
      case hQT1 => exact fun _ _ _ h => h
      case hwT1 => rfl
      case hyT1 => (intro wS hSw; go_simp; (try with_reducible rfl))
      try simp only [Act.put, List.setIfInBounds_toArray, List.set_cons_zero, List.set_cons_succ]
      refine' wpAnyT_take (i := 2) (v := _) ?hiT2 (by kernel_rfl) ?hQT2 (Or.inl ⟨?hwT2, ?hyT2⟩) trivial ?reT2
      case hiT2 => (simp only [List.getElem?_toArray, List.getElem?_cons_succ, List.getElem?_cons_zero]; rfl)
      case hQT2 => exact fun _ _ _ h => h
      case hwT2 => rfl
      case hyT2 => (intro wS hSw; go_simp; (try with_reducible rfl))
      try simp only [Act.put, List.setIfInBounds_toArray, List.set_cons_zero, List.set_cons_succ]
      refine' wpAnyT_take (i := 3) (v := _) ?hiT3 (by kernel_rfl) ?hQT3 (Or.inl ⟨?hwT3, ?hyT3⟩) trivial ?reT3
      case hiT3 => (simp only [List.getElem?_toArray, List.getElem?_cons_succ, List.getElem?_cons_zero]; rfl)
      case hQT3 => exact fun _ _ _ h => h
      case hwT3 => rfl
      case hyT3 => (intro wS hSw; go_simp; (try with_reducible rfl))
      try simp only [Act.put, List.setIfInBounds_toArray, List.set_cons_zero, List.set_cons_succ]
      refine' wpAnyT_take (i := 4) (v := _) ?hiT4 (by kernel_rfl) ?hQT4 (Or.inl ⟨?hwT4, ?hyT4⟩) trivial ?reT4
      case hiT4 => (simp only [List.getElem?_toArray, List.getElem?_cons_succ, List.getElem?_cons_zero]; rfl)
      case hQT4 => exact fun _ _ _ h => h
      case hwT4 => rfl
      case hyT4 => (intro wS hSw; go_simp; (try with_reducible rfl))
      try simp only [Act.put, List.setIfInBounds_toArray, List.set_cons_zero, List.set_cons_succ]
      refine' wpAnyT_take (i := 5) (v := _) ?hiT5 (by kernel_rfl) ?hQT5 (Or.inl ⟨?hwT5, ?hyT5⟩) trivial ?reT5
      case hiT5 => (simp only [List.getElem?_toArray, List.getElem?_cons_succ, List.getElem?_cons_zero]; rfl)
      case hQT5 => exact fun _ _ _ h => h
      case hwT5 => rfl
      case hyT5 => (intro wS hSw; go_simp; (try with_reducible rfl))
      try simp only [Act.put, List.setIfInBounds_toArray, List.set_cons_zero, List.set_cons_succ]
      refine' wpAnyT_take (i := 6) (v := _) ?hiT6 (by kernel_rfl) ?hQT6 (Or.inl ⟨?hwT6, ?hyT6⟩) trivial ?reT6
      case hiT6 => (simp only [List.getElem?_toArray, List.getElem?_cons_succ, List.getElem?_cons_zero]; rfl)
      case hQT6 => exact fun _ _ _ h => h
      case hwT6 => rfl
      case hyT6 => (intro wS hSw; go_simp; (try with_reducible rfl))
      try simp only [Act.put, List.setIfInBounds_toArray, List.set_cons_zero, List.set_cons_succ]
      refine' wpAnyT_take (i := 7) (v := _) ?hiT7 (by kernel_rfl) ?hQT7 (Or.inl ⟨?hwT7, ?hyT7⟩) trivial ?reT7
      case hiT7 => (simp only [List.getElem?_toArray, List.getElem?_cons_succ, List.getElem?_cons_zero]; rfl)
      case hQT7 => exact fun _ _ _ h => h
      case hwT7 => rfl
      case hyT7 => (intro wS hSw; go_simp; (try with_reducible rfl))
      try simp only [Act.put, List.setIfInBounds_toArray, List.set_cons_zero, List.set_cons_succ]
      refine wpAnyT_weak (S := SwS g p q (xn, xc, xl, xh) (yn, yc, yl, yh)) (tl := [21, 22, 23]) _ _ _ _ ?_
      refine' wpAnyT_take (i := 8) (v := _) ?hiT8 (by kernel_rfl) ?hQT8 (Or.inl ⟨?hwT8, ?hyT8⟩) hS ?reT8
      case hiT8 => (simp only [List.getElem?_toArray, List.getElem?_cons_succ, List.getElem?_cons_zero]; rfl)
      case hQT8 => exact fun _ _ _ h => h
      case hwT8 => rfl
      case hyT8 => (intro wS hSw; obtain ⟨⟨_, _, _, _⟩, _, _, _, _⟩ := hSw; go_simp; (try with_reducible rfl))
      try simp only [Act.put, List.setIfInBounds_toArray, List.set_cons_zero, List.set_cons_succ]
      refine' wpAnyT_take (i := 9) (v := _) ?hiT9 (by kernel_rfl) ?hQT9 (Or.inl ⟨?hwT9, ?hyT9⟩) hS ?reT9
      case hiT9 => (simp only [List.getElem?_toArray, List.getElem?_cons_succ, List.getElem?_cons_zero]; rfl)
      case hQT9 => exact fun _ _ _ h => h
      case hwT9 => rfl
      case hyT9 => (intro wS hSw; obtain ⟨⟨_, _, _, _⟩, _, _, _, _⟩ := hSw; go_simp; (try with_reducible rfl))
      try simp only [Act.put, List.setIfInBounds_toArray, List.set_cons_zero, List.set_cons_succ]
      refine' wpAnyT_take (i := 10) (v := _) ?hiT10 (by kernel_rfl) ?hQT10 (Or.inl ⟨?hwT10, ?hyT10⟩) hS ?reT10
      case hiT10 => (simp only [List.getElem?_toArray, List.getElem?_cons_succ, List.getElem?_cons_zero]; rfl)
      case hQT10 => exact fun _ _ _ h => h
      case hwT10 => rfl
      case hyT10 => (intro wS hSw; obtain ⟨⟨_, _, _, _⟩, _, _, _, _⟩ := hSw; go_simp; (try with_reducible rfl))
      try simp only [Act.put, List.setIfInBounds_toArray, List.set_cons_zero, List.set_cons_succ]
      refine' wpAnyT_take (i := 11) (v := _) ?hiT11 (by kernel_rfl) ?hQT11 (Or.inl ⟨?hwT11, ?hyT11⟩) hS ?reT11
      case hiT11 => (simp only [List.getElem?_toArray, List.getElem?_cons_succ, List.getElem?_cons_zero]; rfl)
      case hQT11 => exact fun _ _ _ h => h
      case hwT11 => rfl
      case hyT11 => (intro wS hSw; obtain ⟨⟨_, _, _, _⟩, _, _, _, _⟩ := hSw; go_simp; (try with_reducible rfl))
      try simp only [Act.put, List.setIfInBounds_toArray, List.set_cons_zero, List.set_cons_succ]
      refine' wpAnyT_take (i := 12) (v := _) ?hiT12 (by kernel_rfl) ?hQT12 (Or.inl ⟨?hwT12, ?hyT12⟩) hS ?reT12
      case hiT12 => (simp only [List.getElem?_toArray, List.getElem?_cons_succ, List.getElem?_cons_zero]; rfl)
      case hQT12 => exact fun _ _ _ h => h
      case hwT12 => rfl
      case hyT12 => (intro wS hSw; obtain ⟨⟨_, _, _, _⟩, _, _, _, _⟩ := hSw; go_simp; (try with_reducible rfl))
      try simp only [Act.put, List.setIfInBounds_toArray, List.set_cons_zero, List.set_cons_succ]
      refine' wpAnyT_take (i := 13) (v := _) ?hiT13 (by kernel_rfl) ?hQT13 (Or.inl ⟨?hwT13, ?hyT13⟩) hS ?reT13
      case hiT13 => (simp only [List.getElem?_toArray, List.getElem?_cons_succ, List.getElem?_cons_zero]; rfl)
      case hQT13 => exact fun _ _ _ h => h
      case hwT13 => rfl
      case hyT13 => (intro wS hSw; obtain ⟨⟨_, _, _, _⟩, _, _, _, _⟩ := hSw; go_simp; (try with_reducible rfl))
      try simp only [Act.put, List.setIfInBounds_toArray, List.set_cons_zero, List.set_cons_succ]
      refine' wpAnyT_take (i := 14) (v := _) ?hiT14 (by kernel_rfl) ?hQT14 (Or.inl ⟨?hwT14, ?hyT14⟩) hS ?reT14
      case hiT14 => (simp only [List.getElem?_toArray, List.getElem?_cons_succ, List.getElem?_cons_zero]; rfl)
      case hQT14 => exact fun _ _ _ h => h
      case hwT14 => rfl
      case hyT14 => (intro wS hSw; obtain ⟨⟨_, _, _, _⟩, _, _, _, _⟩ := hSw; go_simp; (try with_reducible rfl))
      try simp only [Act.put, List.setIfInBounds_toArray, List.set_cons_zero, List.set_cons_succ]
      refine' wpAnyT_take (i := 15) (v := _) ?hiT15 (by kernel_rfl) ?hQT15 (Or.inl ⟨?hwT15, ?hyT15⟩) hS ?reT15
      case hiT15 => (simp only [List.getElem?_toArray, List.getElem?_cons_succ, List.getElem?_cons_zero]; rfl)
      case hQT15 => exact fun _ _ _ h => h
      case hwT15 => rfl
      case hyT15 => (intro wS hSw; obtain ⟨⟨_, _, _, _⟩, _, _, _, _⟩ := hSw; go_simp; (try with_reducible rfl))
      try simp only [Act.put, List.setIfInBounds_toArray, List.set_cons_zero, List.set_cons_succ]
      refine' wpAnyT_take (i := 16) (v := _) ?hiT16 (by kernel_rfl) ?hQT16 (Or.inl ⟨?hwT16, ?hyT16⟩) hS ?reT16
      case hiT16 => (simp only [List.getElem?_toArray, List.getElem?_cons_succ, List.getElem?_cons_zero]; rfl)
      case hQT16 => exact fun _ _ _ h => h
      case hwT16 => rfl
      case hyT16 => (intro wS hSw; obtain ⟨⟨_, _, _, _⟩, _, _, _, _⟩ := hSw; go_simp; (try with_reducible rfl))
      try simp only [Act.put, List.setIfInBounds_toArray, List.set_cons_zero, List.set_cons_succ]
      refine' wpAnyT_take (i := 17) (v := _) ?hiT17 (by kernel_rfl) ?hQT17 (Or.inl ⟨?hwT17, ?hyT17⟩) hS ?reT17
      case hiT17 => (simp only [List.getElem?_toArray, List.getElem?_cons_succ, List.getElem?_cons_zero]; rfl)
      case hQT17 => exact fun _ _ _ h => h
      case hwT17 => rfl
      case hyT17 => (intro wS hSw; obtain ⟨⟨_, _, _, _⟩, _, _, _, _⟩ := hSw; go_simp; (try with_reducible rfl))
      try simp only [Act.put, List.setIfInBounds_toArray, List.set_cons_zero, List.set_cons_succ]
      refine' wpAnyT_take (i := 18) (v := _) ?hiT18 (by kernel_rfl) ?hQT18 (Or.inl ⟨?hwT18, ?hyT18⟩) hS ?reT18
      case hiT18 => (simp only [List.getElem?_toArray, List.getElem?_cons_succ, List.getElem?_cons_zero]; rfl)
      case hQT18 => exact fun _ _ _ h => h
      case hwT18 => rfl
      case hyT18 => (intro wS hSw; obtain ⟨⟨_, _, _, _⟩, _, _, _, _⟩ := hSw; go_simp; (try with_reducible rfl))
      try simp only [Act.put, List.setIfInBounds_toArray, List.set_cons_zero, List.set_cons_succ]
      refine' wpAnyT_take (i := 19) (v := _) ?hiT19 (by kernel_rfl) ?hQT19 (Or.inl ⟨?hwT19, ?hyT19⟩) hS ?reT19
      case hiT19 => (simp only [List.getElem?_toArray, List.getElem?_cons_succ, List.getElem?_cons_zero]; rfl)
      case hQT19 => exact fun _ _ _ h => h
      case hwT19 => rfl
      case hyT19 => (intro wS hSw; obtain ⟨⟨_, _, _, _⟩, _, _, _, _⟩ := hSw; go_simp; (try with_reducible rfl))
      try simp only [Act.put, List.setIfInBounds_toArray, List.set_cons_zero, List.set_cons_succ]
      refine' wpAnyT_take (i := 20) (v := _) ?hiT20 (by kernel_rfl) ?hQT20 (Or.inl ⟨?hwT20, ?hyT20⟩) hS ?reT20
      case hiT20 => (simp only [List.getElem?_toArray, List.getElem?_cons_succ, List.getElem?_cons_zero]; rfl)
      case hQT20 => exact fun _ _ _ h => h
      case hwT20 => rfl
      case hyT20 => (intro wS hSw; obtain ⟨⟨_, _, _, _⟩, _, _, _, _⟩ := hSw; go_simp; (try with_reducible rfl))
      try simp only [Act.put, List.setIfInBounds_toArray, List.set_cons_zero, List.set_cons_succ]
      have fzd := kd.frozen
      refine wpAnyT_ready (rs := [21]) (by kernel_rfl) (by simp) ?_
      refine' AllReadyT.cons ?hi21 (fun K hK => ?st21) AllReadyT.nil
      case hi21 => (simp only [List.getElem?_toArray, List.getElem?_cons_succ, List.getElem?_cons_zero]; rfl)
      obtain ⟨⟨a0, a1, a2, a3⟩, b0, b1, b2, b3⟩ := hS
      go_simp
      have k2 := putW_blk kd p (yn, yc, yl, yh)
      have F2 := putW_far w1 g p (yn, yc, yl, yh)
      refine hK.out _ _ (fun h => by cases h) (fun _ => ?_)
      clear hK K a0 a1 a2 a3 b0 b1 b2 b3 fzd
      change wpAnyT _ _ _ _ _ _ _ _ _ (putW w1 g p (yn, yc, yl, yh))
      generalize putW w1 g p (yn, yc, yl, yh) = w2 at *
      try simp only [Act.put, List.setIfInBounds_toArray, List.set_cons_zero, List.set_cons_succ]
      have hc : Blk w2 g t (put4 ds p (yn, yc, yl, yh)) := k2
      refine wpAnyT_ready (rs := [22]) (by kernel_rfl) (by simp) ?_
      refine' AllReadyT.cons ?hi22 (fun K hK => ?st22) AllReadyT.nil
      case hi22 => (simp only [List.getElem?_toArray, List.getElem?_cons_succ, List.getElem?_cons_zero]; rfl)
      go_simp
      refine hK.out _ _ (fun h => by cases h) (fun _ => ?_)
      clear hK K
      try simp only [Act.put, List.setIfInBounds_toArray, List.set_cons_zero, List.set_cons_succ]
      have fz2 := hc.frozen
      refine wpAnyT_ready (rs := [23]) (by kernel_rfl) (by simp) ?_
      refine' AllReadyT.cons ?hi23 (fun K hK => ?st23) AllReadyT.nil
      case hi23 => (simp only [List.getElem?_toArray, List.getElem?_cons_succ, List.getElem?_cons_zero]; rfl)
      obtain ⟨c0, c1, c2, c3⟩ := hput'.out.at_ q (by rw [List.length_set]; omega)
      rw [← hc.cell] at c0 c1 c2 c3
      go_simp
      have k3 := putW_blk hc q (xn, xc, xl, xh)
      have F3 := putW_far w2 g q (xn, xc, xl, xh)
      refine hK.out _ _ (fun h => by cases h) (fun _ => ?_)
      clear hK K c0 c1 c2 c3 fz2
      change wpAnyT _ _ _ _ _ _ _ _ _ (putW w2 g q (xn, xc, xl, xh))
      generalize putW w2 g q (xn, xc, xl, xh) = w3 at *
      refine wpAnyT_done (by kernel_rfl) ?_ _
      have hk1 : IntKind.i64.wrap ((k : Int) + 1) = ((k + 1 : Nat) : Int) := by rw [IntKind.wrap_i64]; omega
      have F13 := hFd.trans (F2.trans F3)
      have hs3 := Lib.hid (show (put4 (put4 ds p (yn, yc, yl, yh)) q (xn, xc, xl, xh)).size = sz by rw [put4_size, put4_size]; exact hsz.out)
      clear hsz F2 F3 hFd k2 hc kd hput'
      refine noPanic_normal ?_
      go_wp2_with fail
      refine ⟨⟨k + 1, _, by omega, by push_cast; rfl, k3, hs3, hput2, F13⟩, ?_⟩
      simp only [intOf]
      omega
    · obtain rfl : k = m := by omega
      have hlt' : decide ((k : Int) < (k : Int)) = false := by simp
      go_wp2_with fail
      go_end0
      exact ⟨rfl, ⟨ds, hkd, hsz.out, hRd.out⟩, hF⟩
end Go.Proofs.Ytmpakobfedgdbaa
namespace Go.Proofs.Ytmpakobfedgdbaa
open Go Go.Proofs Go.RowKit Go.Pol Go.Shelf
attribute [local go_sem] Oper.semAt_some Go.Pol.wide_fn Go.Pol.wide_depth Go.Pol.wide_fn' Go.Pol.wide_depth'

set_option maxRecDepth 100000 in
theorem rotate_any (g n cap a m b : Nat) (t : TypeId) (sz : Nat) (l : List Gp) (w : World) (hr : RowB w g t sz l) (hn : l.length = n) (ham : a < m) (hmb : m < b) (hb : b ≤ n) (hn64 : n ≤ 1000) :
    Calls Try.prog 80 #[.slice (some ⟨g, 0, none⟩) n cap, .int .i64 a, .int .i64 m, .int .i64 b, .func (.func 38) #[] #[]] w fun e w' => e = .returned (.tuple #[]) ∧
      RowB w' g t sz (rotL a m b l) ∧ Far (fun k => k = g) w w' := by
  have hst := rot_start (l := l) (s := a) (m := m) (e := b) (by omega) (by omega) (by omega)
  obtain ⟨i0, hi0⟩ : ∃ i, m - a = i := ⟨_, rfl⟩
  obtain ⟨j0, hj0⟩ : ∃ j, b - m = j := ⟨_, rfl⟩
  rw [hi0, hj0] at hst
  generalize rotL a m b l = tgt at *
  have hst' := Lib.hid hst
  have hr' := Lib.hid hr
  clear hst hr
  have hw1 : IntKind.i64.wrap ((m : Int) - (a : Int)) = (i0 : Int) := by rw [IntKind.wrap_i64]; omega
  have hw2 : IntKind.i64.wrap ((b : Int) - (m : Int)) = (j0 : Int) := by rw [IntKind.wrap_i64]; omega
  go_enter Try.func80, Try.ntmps80
  go_wp2_with fail
  go_loopw [10, 11] (fun u v wr => ∃ (i j p : Nat) (lk : List Gp), 0 < i ∧ 0 < j ∧ p + i = m ∧ u = .int .i64 i ∧ v = .int .i64 j ∧ Hid (lk.length = n) ∧ Hid (RotS i j p lk tgt) ∧ Hid (RowB wr g t sz lk) ∧ Far (fun k => k = g) w wr) (fun u v _ => (intOf u).toNat + (intOf v).toNat)
  case atStart => exact ⟨i0, j0, a, l, by omega, by omega, by omega, rfl, rfl, Lib.hid hn, hst', hr', Far.refl _ _⟩
  case round =>
    clear hst' hr' hw1 hw2 hn
    obtain ⟨i, j, p, lk, hi, hj, hpi, rfl, rfl, hln, hR, hrow, hF⟩ := hrel
    have hlen := hR.out.len
    rw [hln.out] at hlen
    have hwp : IntKind.i64.wrap ((m : Int) - (i : Int)) = (p : Int) := by rw [IntKind.wrap_i64]; omega
    by_cases hij : i = j
    · subst hij
      have h1 : ((i : Int) != (i : Int)) = false := by simp
      have HS := Lib.hid (swapRange_any g n cap p m i t sz lk wr hrow.out hln.out (by omega) (by omega) hn64)
      have he := Lib.hid (hR.out.eql)
      clear hR hrow
      go_wp2_with (go_at_call 91; refine HS.out.mono ?_; rintro e w2 ⟨rfl, hr2, hF2⟩)
      go_end0
      rw [hpi] at he
      rw [he.out] at hr2
      exact ⟨rfl, hr2, hF.trans hF2⟩
    · have h1 : ((i : Int) != (j : Int)) = true := by simp; omega
      by_cases hlt : j < i
      · have h2 : decide ((j : Int) < (i : Int)) = true := by simpa using hlt
        have HS := Lib.hid (swapRange_any g n cap p m j t sz lk wr hrow.out hln.out (by omega) (by omega) hn64)
        have hg := hR.out.gtr hlt
        rw [hpi] at hg
        have hl2 : Hid ((swpL p m j lk).length = n) := Lib.hid (by rw [swpL_len]; exact hln.out)
        generalize swpL p m j lk = lk2 at *
        have hg' := Lib.hid hg
        clear hR hrow hg hln
        obtain ⟨i', hi'⟩ : ∃ i', i - j = i' := ⟨_, rfl⟩
        rw [hi'] at hg'
        have hw3 : IntKind.i64.wrap ((i : Int) - (j : Int)) = (i' : Int) := by rw [IntKind.wrap_i64]; omega
        go_wp2_with (go_at_call 91; refine HS.out.mono ?_; rintro e w2 ⟨rfl, hr2, hF2⟩)
        go_roundw
        case rel => exact ⟨i', j, p + j, lk2, by omega, hj, by omega, rfl, rfl, hl2, hg', Lib.hid hr2, hF.trans hF2⟩
        case measure => simp [intOf]; omega
      · have h2 : decide ((j : Int) < (i : Int)) = false := by simpa using hlt
        obtain ⟨j', hj'⟩ : ∃ j', j - i = j' := ⟨_, rfl⟩
        have hw4 : IntKind.i64.wrap ((m : Int) + (j : Int)) = ((m + j : Nat) : Int) := by rw [IntKind.wrap_i64]; omega
        have hw5 : IntKind.i64.wrap (((m + j : Nat) : Int) - (i : Int)) = ((p + j : Nat) : Int) := by rw [IntKind.wrap_i64]; omega
        have hw6 : IntKind.i64.wrap ((j : Int) - (i : Int)) = (j' : Int) := by rw [IntKind.wrap_i64]; omega
        have HS := Lib.hid (swapRange_any g n cap p (p + j) i t sz lk wr hrow.out hln.out (by omega) (by omega) hn64)
        have hg := hR.out.lss (by omega)
        have hl2 : Hid ((swpL p (p + j) i lk).length = n) := Lib.hid (by rw [swpL_len]; exact hln.out)
        generalize swpL p (p + j) i lk = lk2 at *
        rw [hj'] at hg
        have hg' := Lib.hid hg
        clear hR hrow hg hln
        generalize p + j = pj at *
        generalize m + j = mj at *
        go_wp2_with (go_at_call 91; refine HS.out.mono ?_; rintro e w2 ⟨rfl, hr2, hF2⟩)
        go_roundw
        case rel => exact ⟨i, j', p, lk2, hi, by omega, hpi, rfl, rfl, hl2, hg', Lib.hid hr2, hF.trans hF2⟩
        case measure => simp [intOf]; omega
end Go.Proofs.Ytmpakobfedgdbaa
namespace Go.Proofs.Ytmpakobfedgdbaa
open Go Go.Proofs Go.RowKit Go.Pol Go.Shelf
attribute [local go_sem] Oper.semAt_some Go.Pol.wide_fn Go.Pol.wide_depth Go.Pol.wide_fn' Go.Pol.wide_depth'

theorem choose1_below (x y : Gp) (w : World) : Calls Try.prog 38 #[.agg #[.int .i64 x.1, .int .i64 x.2.1, .int .i64 x.2.2.1, .bool x.2.2.2], .agg #[.int .i64 y.1, .int .i64 y.2.1, .int .i64 y.2.2.1, .bool y.2.2.2]] w fun e w' => e = .returned (.int .i64 (cmpI x.2.2.1 y.2.2.1)) ∧ Below w.heap.size w w' :=
  (choose1_any x y w).mono (by rintro e w' ⟨he, rfl⟩; exact ⟨he, ((Below.refl w.heap.size w).alloc (Nat.le_refl _) _).alloc (by simp) _⟩)
theorem cmpI_lt (x y : Int) : decide (cmpI x y < 0) = decide (x < y) := by
  unfold cmpI
  by_cases h1 : x < y
  · simp [h1]
  · by_cases h2 : y < x <;> simp [h1, h2]
set_option maxRecDepth 100000 in
set_option maxHeartbeats 1600000 in
theorem symOneX_any (g n cap a m b : Nat) (t : TypeId) (sz : Nat) (l : List Gp) (w : World) (hr : RowB w g t sz l) (hn : l.length = n) (ham : a + 1 = m) (hmb : m < b) (hb : b ≤ n) (hn64 : n ≤ 1000)
    (hY : (cut l m b).Pairwise LeX) (hT : ∀ x ∈ cut l a m, ∀ y ∈ cut l m b, TieX x y) :
    Calls Try.prog 77 #[.slice (some ⟨g, 0, none⟩) n cap, .int .i64 a, .int .i64 m, .int .i64 b, .func (.func 38) #[] #[]] w fun e w' => e = .returned (.tuple #[]) ∧
      ∃ l', MergeTo a b l l' ∧ RowB w' g t sz l' ∧ Far (fun k => k = g) w w' := by
  subst ham
  have hT' : ∀ y ∈ cut l (a + 1) b, TieX (l.getD a gp0) y := fun y hy => hT _ (by
    unfold cut
    rw [List.drop_eq_getElem_cons (show a < (l.take (a + 1)).length by simp; omega), List.getD_eq_getElem?_getD, List.getElem?_eq_getElem (show a < l.length by omega)]
    simp) y hy
  obtain ⟨cs, hk, hcs, hl⟩ := hr
  have hsp := up_split (l := l) (a := a) (b := b) (by omega) (by omega)
  have hx := hl.at_ a (by omega)
  have hone := Lib.hid (fun i h1 h2 f1 f2 => one_x (l := l) (a := a) (i := i) (b := b) h1 h2 (by omega) hY hT' f1 f2)
  have hlv := Lib.hid (show lvd l a = (l.getD a gp0).2.2.1 from rfl)
  have hPl : (l.take a).length = a := by simp; omega
  have hUl : (cut l (a + 1) b).length = b - (a + 1) := cut_len (by omega)
  generalize l.getD a gp0 = x at *
  have hl' := Lib.hid hl
  have hU := Lib.hid (And.intro hPl hUl)
  generalize cut l (a + 1) b = U at *
  generalize hPP : l.take a = P at *
  generalize hSS : l.drop b = S at *
  have hsp' := Lib.hid hsp
  have hn' := Lib.hid hn
  have hcs' := Lib.hid hcs
  clear hY hT hT' hl hsp hn hPl hUl hPP hSS hcs
  obtain ⟨m, hm⟩ : ∃ m, a + 1 = m := ⟨_, rfl⟩
  rw [hm] at hone hU hmb ⊢
  have hw1 : IntKind.i64.wrap ((m : Int) - (a : Int)) = 1 := by rw [IntKind.wrap_i64]; omega
  obtain ⟨xn, xc, xl, xh⟩ := x
  obtain ⟨x0, x1, x2, x3⟩ := hx
  rw [← hk.cell] at x0 x1 x2 x3
  go_enter Try.func77, Try.ntmps77
  go_wp2_with fail
  go_loopw [10, 11] (fun u v wr => ∃ (i j : Nat), m ≤ i ∧ i ≤ j ∧ j ≤ b ∧ u = .int .i64 i ∧ v = .int .i64 j ∧ Hid ((m < i → lvd l (i - 1) < lvd l a) ∧ (j < b → ¬ lvd l j < lvd l a)) ∧ Below w.heap.size w wr) (fun u v _ => (intOf v).toNat - (intOf u).toNat)
  case atStart => exact ⟨m, b, by omega, by omega, by omega, rfl, rfl, Lib.hid ⟨fun h => absurd h (Nat.lt_irrefl _), fun h => absurd h (Nat.lt_irrefl _)⟩, Below.refl _ _⟩
  case round =>
    obtain ⟨i, j, hi, hij, hjb, rfl, rfl, hf, hB⟩ := hrel
    by_cases hlt : i < j
    · have h1 : decide ((i : Int) < (j : Int)) = true := by simpa using hlt
      obtain ⟨h, hh⟩ : ∃ h : Nat, ((i : Int) + (j : Int)) / 2 = (h : Int) := ⟨(i + j) / 2, by omega⟩
      have hih : i ≤ h := by omega
      have hhj : h < j := by omega
      have hhn : (h : Int) < (n : Int) := by omega
      have hkr := hk.call hB
      obtain ⟨y0, y1, y2, y3⟩ := hl'.out.at_ h (by have := hn'.out; omega)
      rw [← hkr.cell] at y0 y1 y2 y3
      have hlh := Lib.hid (show lvd l h = (l.getD h gp0).2.2.1 from rfl)
      generalize l.getD h gp0 = y at *
      obtain ⟨yn, yc, yl, yh⟩ := y
      have z0 := fun z : Ext wr => z.cell ((hB.cell (by have := hk.lt; exact this)).trans x0)
      have z1 := fun z : Ext wr => z.cell ((hB.cell (by have := hk.lt; exact this)).trans x1)
      have z2 := fun z : Ext wr => z.cell ((hB.cell (by have := hk.lt; exact this)).trans x2)
      have z3 := fun z : Ext wr => z.cell ((hB.cell (by have := hk.lt; exact this)).trans x3)
      have v0 := fun z : Ext wr => z.cell y0
      have v1 := fun z : Ext wr => z.cell y1
      have v2 := fun z : Ext wr => z.cell y2
      have v3 := fun z : Ext wr => z.cell y3
      have HC := Lib.hid (fun z : Ext wr => Ext.call (x := z) (choose1_below (yn, yc, yl, yh) (xn, xc, xl, xh) z.w))
      simp only at HC
      have hcl := cmpI_lt yl xl
      generalize cmpI yl xl = c at *
      by_cases hc : yl < xl
      · have hc2 : decide (c < 0) = true := by rw [hcl]; simpa using hc
        clear hcl
        have hf2 := Lib.hid (And.intro (fun _ : m < h + 1 => show lvd l (h + 1 - 1) < lvd l a by rw [show h + 1 - 1 = h by omega, hlh.out, hlv.out]; exact hc) hf.out.2)
        go_upto_region 5 with fail
        refine region_ext (by kernel_rfl) (by kernel_rfl) ?_
        repeat (go_big_quiet_step ((go_at_call 38; exact HC.out _)))
        refine wpQuiet_nil ?_
        rintro w8 ⟨⟨_, hw8⟩, rfl⟩
        clear hf hc
        go_wp2_with fail
        go_roundw
        case rel => exact ⟨h + 1, j, by omega, by omega, hjb, by go_num, rfl, hf2, hB.trans (hw8.mono hB.size)⟩
        case measure => simp [intOf]; omega
      · have hc2 : decide (c < 0) = false := by rw [hcl]; simpa using hc
        clear hcl
        have hf2 := Lib.hid (And.intro hf.out.1 (fun _ : h < b => show ¬ lvd l h < lvd l a by rw [hlh.out, hlv.out]; exact hc))
        go_upto_region 5 with fail
        refine region_ext (by kernel_rfl) (by kernel_rfl) ?_
        repeat (go_big_quiet_step ((go_at_call 38; exact HC.out _)))
        refine wpQuiet_nil ?_
        rintro w8 ⟨⟨_, hw8⟩, rfl⟩
        clear hf hc
        go_wp2_with fail
        go_roundw
        case rel => exact ⟨i, h, hi, hih, by omega, rfl, rfl, hf2, hB.trans (hw8.mono hB.size)⟩
        case measure => simp [intOf]; omega
    · have h1 : decide ((i : Int) < (j : Int)) = false := by simpa using hlt
      obtain rfl : i = j := by omega
      have hMT := Lib.hid (hone.out i (by omega) hjb hf.out.1 (fun h => Int.not_lt.1 (hf.out.2 h)))
      obtain ⟨c, hc⟩ : ∃ c, i - 1 = c := ⟨_, rfl⟩
      have hwc : IntKind.i64.wrap ((i : Int) - 1) = (c : Int) := by rw [IntKind.wrap_i64]; omega
      have hsp0 : l = upL P (xn, xc, xl, xh) U S 0 := hsp'.out
      have hlens : ∀ k, (upL P (xn, xc, xl, xh) U S k).length = n := fun k => by
        rw [upL_len, ← hn'.out, hsp0, upL_len]
      have hstep := Lib.hid (fun k (hk : k < U.length) => upL_succ P (xn, xc, xl, xh) U S hk)
      rw [hU.out.1, hU.out.2] at hstep
      have hrow0 : RowG cs (upL P (xn, xc, xl, xh) U S 0) := by rw [← hsp0]; exact hl'.out
      generalize upL P (xn, xc, xl, xh) U S = L at *
      have hrow0' := Lib.hid hrow0
      have hlens' := Lib.hid hlens
      have hkr := hk.call hB
      clear hf hone hlv x0 x1 x2 x3 hrow0 hlens hsp0 hsp' hl' hk
      go_wp2_with fail
      go_loopw [13] (fun u wr2 => ∃ (k p : Nat) (ds : Array Value), a + k = p ∧ p ≤ c ∧ u = .int .i64 p ∧ Blk wr2 g t ds ∧ Hid (ds.size = sz) ∧ Hid (RowG ds (L k)) ∧ Far (fun k => k = g) w wr2) (fun u _ => c - (intOf u).toNat)
      case atStart => exact ⟨0, a, cs, by omega, by omega, rfl, hkr, hcs', hrow0', .of_below hB⟩
      case round =>
        clear hrow0' hkr
        obtain ⟨k, p, ds, hkp, hpc, rfl, hkd, hsz, hRd, hF⟩ := hrel
        by_cases hlt : p < c
        · have hlt' : decide ((p : Int) < (c : Int)) = true := by simpa using hlt
          obtain ⟨q, hq⟩ : ∃ q, p + 1 = q := ⟨_, rfl⟩
          have hqa : IntKind.i64.wrap ((p : Int) + 1) = (q : Int) := by rw [IntKind.wrap_i64]; omega
          have hpn : (p : Int) < (n : Int) := by omega
          have hqn : (q : Int) < (n : Int) := by omega
          have hlen := hlens'.out k
          have hnext := Lib.hid (show L (k + 1) = ((L k).set p ((L k).getD q gp0)).set q ((L k).getD p gp0) by have h := hstep.out k (by omega); rw [hkp, hq] at h; rw [← h, sw])
          have hS0 := hRd.out.sw hkd (p := p) (q := q) (by omega) (by omega)
          generalize L k = lk at *
          have hput := hRd.out.put (p := p) (by omega) (lk.getD q gp0)
          have hput2 := Lib.hid (hput.put (p := q) (by rw [List.length_set]; omega) (lk.getD p gp0))
          rw [← hnext.out] at hput2
          have hput' := Lib.hid hput
          clear hput hnext hRd
          generalize hX : lk.getD p gp0 = x at *
          generalize hY : lk.getD q gp0 = y at *
          go_upto_region 11 with fail
          refine wp_noPanic ?_
          refine wp_region_T (fun _ => True) [] (by kernel_rfl) ?_
          have hS : SwS g p q x y wr.drew := hS0
          have kd := hkd.drew
          have hFd := hF.drew
          generalize wr.drew = w1 at *
          obtain ⟨xn, xc, xl, xh⟩ := x
          obtain ⟨yn, yc, yl, yh⟩ := y
          clear hS0 hkd hF hX hY
          refine' wpAnyT_take (i := 0) (v := _) ?hiT0 (by kernel_rfl) ?hQT0 (Or.inl ⟨?hwT0, ?hyT0⟩) trivial ?reT0
          case hiT0 => (simp only [List.getElem?_toArray, List.getElem?_cons_zero]; rfl)
          case hQT0 => exact fun _ _ _ h => h
          case hwT0 => rfl
          case hyT0 => (intro wS hSw; go_simp; (try with_reducible rfl))
          try simp only [Act.put, List.setIfInBounds_toArray, List.set_cons_zero, List.set_cons_succ]
          refine' wpAnyT_take (i := 1) (v := _) ?hiT1 (by kernel_rfl) ?hQT1 (Or.inl ⟨?hwT1, ?hyT1⟩) trivial ?reT1
          case hiT1 => (simp only [List.getElem?_toArray, List.getElem?_cons_succ, List.getElem?_cons_zero]; rfl)
          case hQT1 => exact fun _ _ _ h => h
          case hwT1 => rfl
          case hyT1 => (intro wS hSw; go_simp; (try with_reducible rfl))
          try simp only [Act.put, List.setIfInBounds_toArray, List.set_cons_zero, List.set_cons_succ]
          refine' wpAnyT_take (i := 2) (v := _) ?hiT2 (by kernel_rfl) ?hQT2 (Or.inl ⟨?hwT2, ?hyT2⟩) trivial ?reT2
          case hiT2 => (simp only [List.getElem?_toArray, List.getElem?_cons_succ, List.getElem?_cons_zero]; rfl)
          case hQT2 => exact fun _ _ _ h => h
          case hwT2 => rfl
          case hyT2 => (intro wS hSw; go_simp; (try with_reducible rfl))
          try simp only [Act.put, List.setIfInBounds_toArray, List.set_cons_zero, List.set_cons_succ]
          refine' wpAnyT_take (i := 3) (v := _) ?hiT3 (by kernel_rfl) ?hQT3 (Or.inl ⟨?hwT3, ?hyT3⟩) trivial ?reT3
          case hiT3 => (simp only [List.getElem?_toArray, List.getElem?_cons_succ, List.getElem?_cons_zero]; rfl)
          case hQT3 => exact fun _ _ _ h => h
          case hwT3 => rfl
          case hyT3 => (intro wS hSw; go_simp; (try with_reducible rfl))
          try simp only [Act.put, List.setIfInBounds_toArray, List.set_cons_zero, List.set_cons_succ]
          refine' wpAnyT_take (i := 4) (v := _) ?hiT4 (by kernel_rfl) ?hQT4 (Or.inl ⟨?hwT4, ?hyT4⟩) trivial ?reT4
          case hiT4 => (simp only [List.getElem?_toArray, List.getElem?_cons_succ, List.getElem?_cons_zero]; rfl)
          case hQT4 => exact fun _ _ _ h => h
          case hwT4 => rfl
          case hyT4 => (intro wS hSw; go_simp; (try with_reducible rfl))
          try simp only [Act.put, List.setIfInBounds_toArray, List.set_cons_zero, List.set_cons_succ]
          refine' wpAnyT_take (i := 5) (v := _) ?hiT5 (by kernel_rfl) ?hQT5 (Or.inl ⟨?hwT5, ?hyT5⟩) trivial ?reT5
          case hiT5 => (simp only [List.getElem?_toArray, List.getElem?_cons_succ, List.getElem?_cons_zero]; rfl)
          case hQT5 => exact fun _ _ _ h => h
          case hwT5 => rfl
          case hyT5 => (intro wS hSw; go_simp; (try with_reducible rfl))
          try simp only [Act.put, List.setIfInBounds_toArray, List.set_cons_zero, List.set_cons_succ]
          refine' wpAnyT_take (i := 6) (v := _) ?hiT6 (by kernel_rfl) ?hQT6 (Or.inl ⟨?hwT6, ?hyT6⟩) trivial ?reT6
          case hiT6 => (simp only [List.getElem?_toArray, List.getElem?_cons_succ, List.getElem?_cons_zero]; rfl)
          case hQT6 => exact fun _ _ _ h => h
          case hwT6 => rfl
          case hyT6 => (intro wS hSw; go_simp; (try with_reducible rfl))
          try simp only [Act.put, List.setIfInBounds_toArray, List.set_cons_zero, List.set_cons_succ]
          refine' wpAnyT_take (i := 7) (v := _) ?hiT7 (by kernel_rfl) ?hQT7 (Or.inl ⟨?hwT7, ?hyT7⟩) trivial ?reT7
          case hiT7 => (simp only [List.getElem?_toArray, List.getElem?_cons_succ, List.getElem?_cons_zero]; rfl)
          case hQT7 => exact fun _ _ _ h => h
          case hwT7 => rfl
          case hyT7 => (intro wS hSw; go_simp; (try with_reducible rfl))
          try simp only [Act.put, List.setIfInBounds_toArray, List.set_cons_zero, List.set_cons_succ]
          refine wpAnyT_weak (S := SwS g p q (xn, xc, xl, xh) (yn, yc, yl, yh)) (tl := [15, 16, 17]) _ _ _ _ ?_
          refine' wpAnyT_take (i := 8) (v := _) ?hiT8 (by kernel_rfl) ?hQT8 (Or.inl ⟨?hwT8, ?hyT8⟩) hS ?reT8
          case hiT8 => (simp only [List.getElem?_toArray, List.getElem?_cons_succ, List.getElem?_cons_zero]; rfl)
          case hQT8 => exact fun _ _ _ h => h
          case hwT8 => rfl
          case hyT8 => (intro wS hSw; obtain ⟨⟨_, _, _, _⟩, _, _, _, _⟩ := hSw; go_simp; (try with_reducible rfl))
          try simp only [Act.put, List.setIfInBounds_toArray, List.set_cons_zero, List.set_cons_succ]
          refine' wpAnyT_take (i := 9) (v := _) ?hiT9 (by kernel_rfl) ?hQT9 (Or.inl ⟨?hwT9, ?hyT9⟩) hS ?reT9
          case hiT9 => (simp only [List.getElem?_toArray, List.getElem?_cons_succ, List.getElem?_cons_zero]; rfl)
          case hQT9 => exact fun _ _ _ h => h
          case hwT9 => rfl
          case hyT9 => (intro wS hSw; obtain ⟨⟨_, _, _, _⟩, _, _, _, _⟩ := hSw; go_simp; (try with_reducible rfl))
          try simp only [Act.put, List.setIfInBounds_toArray, List.set_cons_zero, List.set_cons_succ]
          refine' wpAnyT_take (i := 10) (v := _) ?hiT10 (by kernel_rfl) ?hQT10 (Or.inl ⟨?hwT10, ?hyT10⟩) hS ?reT10
          case hiT10 => (simp only [List.getElem?_toArray, List.getElem?_cons_succ, List.getElem?_cons_zero]; rfl)
          case hQT10 => exact fun _ _ _ h => h
          case hwT10 => rfl
          case hyT10 => (intro wS hSw; obtain ⟨⟨_, _, _, _⟩, _, _, _, _⟩ := hSw; go_simp; (try with_reducible rfl))
          try simp only [Act.put, List.setIfInBounds_toArray, List.set_cons_zero, List.set_cons_succ]
          refine' wpAnyT_take (i := 11) (v := _) ?hiT11 (by kernel_rfl) ?hQT11 (Or.inl ⟨?hwT11, ?hyT11⟩) hS ?reT11
          case hiT11 => (simp only [List.getElem?_toArray, List.getElem?_cons_succ, List.getElem?_cons_zero]; rfl)
          case hQT11 => exact fun _ _ _ h => h
          case hwT11 => rfl
          case hyT11 => (intro wS hSw; obtain ⟨⟨_, _, _, _⟩, _, _, _, _⟩ := hSw; go_simp; (try with_reducible rfl))
          try simp only [Act.put, List.setIfInBounds_toArray, List.set_cons_zero, List.set_cons_succ]
          refine' wpAnyT_take (i := 12) (v := _) ?hiT12 (by kernel_rfl) ?hQT12 (Or.inl ⟨?hwT12, ?hyT12⟩) hS ?reT12
          case hiT12 => (simp only [List.getElem?_toArray, List.getElem?_cons_succ, List.getElem?_cons_zero]; rfl)
          case hQT12 => exact fun _ _ _ h => h
          case hwT12 => rfl
          case hyT12 => (intro wS hSw; obtain ⟨⟨_, _, _, _⟩, _, _, _, _⟩ := hSw; go_simp; (try with_reducible rfl))
          try simp only [Act.put, List.setIfInBounds_toArray, List.set_cons_zero, List.set_cons_succ]
          refine' wpAnyT_take (i := 13) (v := _) ?hiT13 (by kernel_rfl) ?hQT13 (Or.inl ⟨?hwT13, ?hyT13⟩) hS ?reT13
          case hiT13 => (simp only [List.getElem?_toArray, List.getElem?_cons_succ, List.getElem?_cons_zero]; rfl)
          case hQT13 => exact fun _ _ _ h => h
          case hwT13 => rfl
          case hyT13 => (intro wS hSw; obtain ⟨⟨_, _, _, _⟩, _, _, _, _⟩ := hSw; go_simp; (try with_reducible rfl))
          try simp only [Act.put, List.setIfInBounds_toArray, List.set_cons_zero, List.set_cons_succ]
          refine' wpAnyT_take (i := 14) (v := _) ?hiT14 (by kernel_rfl) ?hQT14 (Or.inl ⟨?hwT14, ?hyT14⟩) hS ?reT14
          case hiT14 => (simp only [List.getElem?_toArray, List.getElem?_cons_succ, List.getElem?_cons_zero]; rfl)
          case hQT14 => exact fun _ _ _ h => h
          case hwT14 => rfl
          case hyT14 => (intro wS hSw; obtain ⟨⟨_, _, _, _⟩, _, _, _, _⟩ := hSw; go_simp; (try with_reducible rfl))
          try simp only [Act.put, List.setIfInBounds_toArray, List.set_cons_zero, List.set_cons_succ]
          have fzd := kd.frozen
          refine wpAnyT_ready (rs := [15]) (by kernel_rfl) (by simp) ?_
          refine' AllReadyT.cons ?hi15 (fun K hK => ?st15) AllReadyT.nil
          case hi15 => (simp only [List.getElem?_toArray, List.getElem?_cons_succ, List.getElem?_cons_zero]; rfl)
          obtain ⟨⟨a0, a1, a2, a3⟩, b0, b1, b2, b3⟩ := hS
          go_simp
          have k2 := putW_blk kd p (yn, yc, yl, yh)
          have F2 := putW_far w1 g p (yn, yc, yl, yh)
          refine hK.out _ _ (fun h => by cases h) (fun _ => ?_)
          clear hK K a0 a1 a2 a3 b0 b1 b2 b3 fzd
          change wpAnyT _ _ _ _ _ _ _ _ _ (putW w1 g p (yn, yc, yl, yh))
          generalize putW w1 g p (yn, yc, yl, yh) = w2 at *
          try simp only [Act.put, List.setIfInBounds_toArray, List.set_cons_zero, List.set_cons_succ]
          have hc : Blk w2 g t (put4 ds p (yn, yc, yl, yh)) := k2
          refine wpAnyT_ready (rs := [16]) (by kernel_rfl) (by simp) ?_
          refine' AllReadyT.cons ?hi16 (fun K hK => ?st16) AllReadyT.nil
          case hi16 => (simp only [List.getElem?_toArray, List.getElem?_cons_succ, List.getElem?_cons_zero]; rfl)
          go_simp
          refine hK.out _ _ (fun h => by cases h) (fun _ => ?_)
          clear hK K
          try simp only [Act.put, List.setIfInBounds_toArray, List.set_cons_zero, List.set_cons_succ]
          have fz2 := hc.frozen
          refine wpAnyT_ready (rs := [17]) (by kernel_rfl) (by simp) ?_
          refine' AllReadyT.cons ?hi17 (fun K hK => ?st17) AllReadyT.nil
          case hi17 => (simp only [List.getElem?_toArray, List.getElem?_cons_succ, List.getElem?_cons_zero]; rfl)
          obtain ⟨c0, c1, c2, c3⟩ := hput'.out.at_ q (by rw [List.length_set]; omega)
          rw [← hc.cell] at c0 c1 c2 c3
          go_simp
          have k3 := putW_blk hc q (xn, xc, xl, xh)
          have F3 := putW_far w2 g q (xn, xc, xl, xh)
          refine hK.out _ _ (fun h => by cases h) (fun _ => ?_)
          clear hK K c0 c1 c2 c3 fz2
          change wpAnyT _ _ _ _ _ _ _ _ _ (putW w2 g q (xn, xc, xl, xh))
          generalize putW w2 g q (xn, xc, xl, xh) = w3 at *
          refine wpAnyT_done (by kernel_rfl) ?_ _
          have F13 := hFd.trans (F2.trans F3)
          have hs3 := Lib.hid (show (put4 (put4 ds p (yn, yc, yl, yh)) q (xn, xc, xl, xh)).size = sz by rw [put4_size, put4_size]; exact hsz.out)
          clear hsz F2 F3 hFd k2 hc kd hput'
          refine noPanic_normal ?_
          go_wp2_with fail
          refine ⟨⟨k + 1, q, _, by omega, by omega, rfl, k3, hs3, hput2, F13⟩, ?_⟩
          simp only [intOf]
          omega
        · have hlt' : decide ((p : Int) < (c : Int)) = false := by simpa using hlt
          have hki : i - m = k := by omega
          rw [hki] at hMT
          go_wp2_with fail
          exact bodyPost_ret (results_none (by rfl) _ _ _) rfl ⟨rfl, L k, hMT.out, ⟨ds, hkd, hsz.out, hRd.out⟩, hF⟩
end Go.Proofs.Ytmpakobfedgdbaa
