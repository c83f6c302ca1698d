/- Merged texts. Walk of layer 13: the reference's better. Walk of layer 13: the reference's first. Walk of layer 13: the reference's Choose. Plain laws for Choose of layer 13: how many pages are idle outside the groups that stay huge. Plain laws for Choose of layer 13: which groups a choice touches; which of two choices comes first. Plain laws for Choose of layer 13: the greedy choice is better than any other one. Plain laws for Choose of layer 13: the reference, which looks at all sets of huge groups, finds the greedy choice. Plain law for Choose of layer 13: the program's answer is the reference's. -/
import Derived.Test.YtmpakobfedgdbaaC6
namespace Go.Pol
open Go
/-- which of two lists of one length comes first -/
def lexF : List Int → List Int → Bool
  | x :: a, y :: b => if (x != y) = true then decide (x < y) else lexF a b
  | _, _ => false
def numT (H : List Int) (l : List Int) : Int := ((touchF (setA (inL l)) H).length : Int)
def livT (L : List Sp) (H : List Int) (l : List Int) : Int := liveS L (touchF (setA (inL l)) H)
/-- is a choice better than another one? -/
def betF (L : List Sp) (H : List Int) (a b : List Int) : Bool :=
  if (numT H a != numT H b) = true then decide (numT H a < numT H b) else if (livT L H a != livT L H b) = true then decide (livT L H a < livT L H b) else lexF a b
end Go.Pol
namespace Go.Proofs.Ytmpakobfedgdbaa
open Go Go.Proofs Go.RowKit Go.Pol Go.Shelf
attribute [local go_sem] Oper.semAt_some Go.Pol.wide_fn Go.Pol.wide_depth Go.Pol.wide_fn' Go.Pol.wide_depth'

def BetS (bx : Nat) (v1 v2 v3 : Value) (W : World) : Prop := W.cell? ⟨bx, 0, none⟩ = some v1 ∧ W.cell? ⟨bx, 1, none⟩ = some v2 ∧ W.cell? ⟨bx, 2, none⟩ = some v3
set_option maxRecDepth 100000 in
set_option maxHeartbeats 3200000 in
theorem better13_any (S : Value) (C L : List Sp) (H : List Int) (A B : Option Addr) (n capa capb : Nat) (a b : List Int) (w : World) (hS : StIs w S C L H) (hL : Go.Pol.Can L) (hin : ∀ g ∈ H, inG g = true) (h64 : H.length ≤ 64) (hna : a.length = n) (hnb : b.length = n) (hm : n ≤ 100000) (hra : RI w w.heap.size A a) (hrb : RI w w.heap.size B b)
    (hla : ∀ p ∈ a, 0 ≤ p ∧ p < 1024) (hlb : ∀ p ∈ b, 0 ≤ p ∧ p < 1024) :
    Calls Try.prog 43 #[S, .slice A n capa, .slice B n capb] w fun e w' => e = .returned (.bool (betF L H a b)) ∧ Below w.heap.size w w' := by
  have HSa := Lib.hid (fun W h => sets13_any A n capa a W hna hm h hla)
  have HSb := Lib.hid (fun W h => sets13_any B n capb b W hnb hm h hlb)
  have HC := Lib.hid (fun ps A9 n9 c9 W (h : StIs W S C L H) (hn9 : ps.length = n9) hm9 hr hc => cost13_any S C L H A9 n9 c9 ps W h hL hin h64 hn9 hm9 hr hc)
  have hS' := hS
  obtain ⟨A1, A2, A3, n1, c1, n2, c2, n3, c3, rfl, h1, h2, h3, h4, h5, h6, h7, h8, h9⟩ := hS.ex
  have hb0 := (Below.refl w.heap.size w).alloc (Nat.le_refl _) (.cells #[.slice A1 n1 c1, .slice A2 n2 c2, .slice A3 n3 c3] 25)
  have k0 := Blk.new w 25 #[.slice A1 n1 c1, .slice A2 n2 c2, .slice A3 n3 c3]
  have s0 := hS'.on hb0
  have ra0 := RI.on hra hb0
  have rb0 := RI.on hrb hb0
  have hca := setA_can (inL a)
  have hcb := setA_can (inL b)
  have hR := Lib.hid (show betF L H a b = if (numT H a != numT H b) = true then decide (numT H a < numT H b) else if (livT L H a != livT L H b) = true then decide (livT L H a < livT L H b) else lexF a b from rfl)
  have HCa := Lib.hid (fun A9 n9 c9 W h hn9 hm9 hr => HC.out (setA (inL a)) A9 n9 c9 W h hn9 hm9 hr hca)
  have HCb := Lib.hid (fun A9 n9 c9 W h hn9 hm9 hr => HC.out (setA (inL b)) A9 n9 c9 W h hn9 hm9 hr hcb)
  rw [show ((touchF (setA (inL a)) H).length : Int) = numT H a from rfl, show liveS L (touchF (setA (inL a)) H) = livT L H a from rfl] at HCa
  rw [show ((touchF (setA (inL b)) H).length : Int) = numT H b from rfl, show liveS L (touchF (setA (inL b)) H) = livT L H b from rfl] at HCb
  generalize betF L H a b = R at *
  generalize numT H a = xa at *
  generalize numT H b = xb at *
  generalize livT L H a = ya at *
  generalize livT L H b = yb at *
  unfold SpansO at HSa HSb
  generalize setA (inL a) = PA at *
  generalize setA (inL b) = PB at *
  have hla2 := Lib.hid hna
  have hlb2 := Lib.hid hnb
  clear hS hS' h1 h2 h3 h4 h5 h6 h7 h8 h9 HC hca hcb hra hrb hla hlb hna hnb
  go_enter Try.func43, Try.ntmps43
  go_upto_region 1 with fail
  generalize w.alloc (.cells #[.slice A1 n1 c1, .slice A2 n2 c2, .slice A3 n3 c3] 25) = w0 at *
  obtain ⟨bx, hbx⟩ : ∃ bx, w.heap.size = bx := ⟨_, rfl⟩
  have hbx' := Lib.hid hbx
  rw [hbx] at k0 ⊢
  clear hbx
  refine wp_noPanic ?_
  refine wp_region_T (BetS bx (.slice A1 n1 c1) (.slice A2 n2 c2) (.slice A3 n3 c3)) [] (by kernel_rfl) ?_
  have hbd : Below w0.heap.size w0 w0.drew := (Below.refl _ _).drew
  have k1 := k0.call hbd
  have s1 := s0.on hbd
  have ra1 := RI.on ra0 hbd
  have rb1 := RI.on rb0 hbd
  have B1 := hb0.trans (hbd.mono hb0.size)
  generalize w0.drew = w1 at *
  clear k0 s0 ra0 rb0 hb0 hbd
  have hS : BetS bx (.slice A1 n1 c1) (.slice A2 n2 c2) (.slice A3 n3 c3) w1 := ⟨k1.cell 0, k1.cell 1, k1.cell 2⟩
  refine' wpAnyT_take (i := 0) (v := _) ?hiT0 (by kernel_rfl) ?hQT0 (Or.inl ⟨?hwT0, ?hyT0⟩) hS ?reT0
  case hiT0 => (simp only [List.getElem?_toArray, List.getElem?_cons_zero]; rfl)
  case hQT0 => exact fun _ _ _ h => h
  case hwT0 => rfl
  case hyT0 => (intro wS hSw; obtain ⟨_, _, _⟩ := hSw; go_simp; (try with_reducible rfl))
  try simp only [Act.put, List.setIfInBounds_toArray, List.set_cons_zero, List.set_cons_succ]
  refine' wpAnyT_take (i := 1) (v := _) ?hiT1 (by kernel_rfl) ?hQT1 (Or.inl ⟨?hwT1, ?hyT1⟩) hS ?reT1
  case hiT1 => (simp only [List.getElem?_toArray, List.getElem?_cons_succ, List.getElem?_cons_zero]; rfl)
  case hQT1 => exact fun _ _ _ h => h
  case hwT1 => rfl
  case hyT1 => (intro wS hSw; obtain ⟨_, _, _⟩ := hSw; go_simp; (try with_reducible rfl))
  try simp only [Act.put, List.setIfInBounds_toArray, List.set_cons_zero, List.set_cons_succ]
  refine wpAnyT_ready (rs := [2]) (by kernel_rfl) (by simp) ?_
  refine' AllReadyT.cons ?hi2 (fun K hK => ?st2) AllReadyT.nil
  case hi2 => (simp only [List.getElem?_toArray, List.getElem?_cons_succ, List.getElem?_cons_zero]; rfl)
  go_simp
  refine (HSa.out _ ra1).mono ?_
  rintro e w2 ⟨A7, c7, rfl, u7, m7, m8, _, hb2⟩
  have k2 := k1.call hb2
  have s2 := s1.on hb2
  have ra2 := RI.on ra1 hb2
  have rb2 := RI.on rb1 hb2
  have B2 := B1.trans (hb2.mono B1.size)
  refine hK.out _ _ (fun _ => ⟨k2.cell 0, k2.cell 1, k2.cell 2⟩) (fun hS => ?_)
  clear hK K hb2 k1 s1 ra1 rb1 B1
  replace hS := hS rfl
  try simp only [Act.put, List.setIfInBounds_toArray, List.set_cons_zero, List.set_cons_succ]
  have HC2 := Lib.hid (HCa.out A7 PA.length c7 w2 s2 rfl (Nat.le_trans m7 m8) u7)
  generalize PA.length = pal at *
  refine wpAnyT_ready (rs := [3]) (by kernel_rfl) (by simp) ?_
  refine' AllReadyT.cons ?hi3 (fun K hK => ?st3) AllReadyT.nil
  case hi3 => (simp only [List.getElem?_toArray, List.getElem?_cons_succ, List.getElem?_cons_zero]; rfl)
  go_simp
  refine HC2.out.mono ?_
  rintro e w3 ⟨rfl, hb3⟩
  have k3 := k2.call hb3
  have s3 := s2.on hb3
  have ra3 := RI.on ra2 hb3
  have rb3 := RI.on rb2 hb3
  have B3 := B2.trans (hb3.mono B2.size)
  refine hK.out _ _ (fun _ => ⟨k3.cell 0, k3.cell 1, k3.cell 2⟩) (fun hS => ?_)
  clear hK K hb3 k2 s2 ra2 rb2 B2 HC2 u7
  replace hS := hS rfl
  try simp only [Act.put, List.setIfInBounds_toArray, List.set_cons_zero, List.set_cons_succ]
  refine' wpAnyT_take (i := 4) (v := _) ?hiT4 (by kernel_rfl) ?hQT4 (Or.inl ⟨?hwT4, ?hyT4⟩) hS ?reT4
  case hiT4 => (simp only [List.getElem?_toArray, List.getElem?_cons_succ, List.getElem?_cons_zero]; rfl)
  case hQT4 => exact fun _ _ _ h => h
  case hwT4 => rfl
  case hyT4 => (intro wS hSw; obtain ⟨_, _, _⟩ := hSw; go_simp; (try with_reducible rfl))
  try simp only [Act.put, List.setIfInBounds_toArray, List.set_cons_zero, List.set_cons_succ]
  refine' wpAnyT_take (i := 5) (v := _) ?hiT5 (by kernel_rfl) ?hQT5 (Or.inl ⟨?hwT5, ?hyT5⟩) hS ?reT5
  case hiT5 => (simp only [List.getElem?_toArray, List.getElem?_cons_succ, List.getElem?_cons_zero]; rfl)
  case hQT5 => exact fun _ _ _ h => h
  case hwT5 => rfl
  case hyT5 => (intro wS hSw; obtain ⟨_, _, _⟩ := hSw; go_simp; (try with_reducible rfl))
  try simp only [Act.put, List.setIfInBounds_toArray, List.set_cons_zero, List.set_cons_succ]
  refine' wpAnyT_take (i := 6) (v := _) ?hiT6 (by kernel_rfl) ?hQT6 (Or.inl ⟨?hwT6, ?hyT6⟩) hS ?reT6
  case hiT6 => (simp only [List.getElem?_toArray, List.getElem?_cons_succ, List.getElem?_cons_zero]; rfl)
  case hQT6 => exact fun _ _ _ h => h
  case hwT6 => rfl
  case hyT6 => (intro wS hSw; obtain ⟨_, _, _⟩ := hSw; go_simp; (try with_reducible rfl))
  try simp only [Act.put, List.setIfInBounds_toArray, List.set_cons_zero, List.set_cons_succ]
  refine' wpAnyT_take (i := 7) (v := _) ?hiT7 (by kernel_rfl) ?hQT7 (Or.inl ⟨?hwT7, ?hyT7⟩) hS ?reT7
  case hiT7 => (simp only [List.getElem?_toArray, List.getElem?_cons_succ, List.getElem?_cons_zero]; rfl)
  case hQT7 => exact fun _ _ _ h => h
  case hwT7 => rfl
  case hyT7 => (intro wS hSw; obtain ⟨_, _, _⟩ := hSw; go_simp; (try with_reducible rfl))
  try simp only [Act.put, List.setIfInBounds_toArray, List.set_cons_zero, List.set_cons_succ]
  refine' wpAnyT_take (i := 8) (v := _) ?hiT8 (by kernel_rfl) ?hQT8 (Or.inl ⟨?hwT8, ?hyT8⟩) hS ?reT8
  case hiT8 => (simp only [List.getElem?_toArray, List.getElem?_cons_succ, List.getElem?_cons_zero]; rfl)
  case hQT8 => exact fun _ _ _ h => h
  case hwT8 => rfl
  case hyT8 => (intro wS hSw; obtain ⟨_, _, _⟩ := hSw; go_simp; (try with_reducible rfl))
  try simp only [Act.put, List.setIfInBounds_toArray, List.set_cons_zero, List.set_cons_succ]
  refine wpAnyT_done (by kernel_rfl) ?_ _
  refine noPanic_normal ?_
  clear hS
  go_upto_region 2 with fail
  refine wp_noPanic ?_
  refine wp_region_T (BetS bx (.slice A1 n1 c1) (.slice A2 n2 c2) (.slice A3 n3 c3)) [] (by kernel_rfl) ?_
  have hbd : Below w3.heap.size w3 w3.drew := (Below.refl _ _).drew
  have k4 := k3.call hbd
  have s4 := s3.on hbd
  have ra4 := RI.on ra3 hbd
  have rb4 := RI.on rb3 hbd
  have B4 := B3.trans (hbd.mono B3.size)
  generalize w3.drew = w4 at *
  clear k3 s3 ra3 rb3 B3 hbd
  have hS : BetS bx (.slice A1 n1 c1) (.slice A2 n2 c2) (.slice A3 n3 c3) w4 := ⟨k4.cell 0, k4.cell 1, k4.cell 2⟩
  refine' wpAnyT_take (i := 0) (v := _) ?hiT0q (by kernel_rfl) ?hQT0q (Or.inl ⟨?hwT0q, ?hyT0q⟩) hS ?reT0q
  case hiT0q => (simp only [List.getElem?_toArray, List.getElem?_cons_zero]; rfl)
  case hQT0q => exact fun _ _ _ h => h
  case hwT0q => rfl
  case hyT0q => (intro wS hSw; obtain ⟨_, _, _⟩ := hSw; go_simp; (try with_reducible rfl))
  try simp only [Act.put, List.setIfInBounds_toArray, List.set_cons_zero, List.set_cons_succ]
  refine' wpAnyT_take (i := 1) (v := _) ?hiT1q (by kernel_rfl) ?hQT1q (Or.inl ⟨?hwT1q, ?hyT1q⟩) hS ?reT1q
  case hiT1q => (simp only [List.getElem?_toArray, List.getElem?_cons_succ, List.getElem?_cons_zero]; rfl)
  case hQT1q => exact fun _ _ _ h => h
  case hwT1q => rfl
  case hyT1q => (intro wS hSw; obtain ⟨_, _, _⟩ := hSw; go_simp; (try with_reducible rfl))
  try simp only [Act.put, List.setIfInBounds_toArray, List.set_cons_zero, List.set_cons_succ]
  refine wpAnyT_ready (rs := [2]) (by kernel_rfl) (by simp) ?_
  refine' AllReadyT.cons ?hi2q (fun K hK => ?st2q) AllReadyT.nil
  case hi2q => (simp only [List.getElem?_toArray, List.getElem?_cons_succ, List.getElem?_cons_zero]; rfl)
  go_simp
  refine (HSb.out _ rb4).mono ?_
  rintro e w5 ⟨A8, c8, rfl, u8, m5, m6, _, hb5⟩
  have k5 := k4.call hb5
  have s5 := s4.on hb5
  have ra5 := RI.on ra4 hb5
  have rb5 := RI.on rb4 hb5
  have B5 := B4.trans (hb5.mono B4.size)
  refine hK.out _ _ (fun _ => ⟨k5.cell 0, k5.cell 1, k5.cell 2⟩) (fun hS => ?_)
  clear hK K hb5 k4 s4 ra4 rb4 B4
  replace hS := hS rfl
  try simp only [Act.put, List.setIfInBounds_toArray, List.set_cons_zero, List.set_cons_succ]
  have HC5 := Lib.hid (HCb.out A8 PB.length c8 w5 s5 rfl (Nat.le_trans m5 m6) u8)
  generalize PB.length = pbl at *
  refine wpAnyT_ready (rs := [3]) (by kernel_rfl) (by simp) ?_
  refine' AllReadyT.cons ?hi3q (fun K hK => ?st3q) AllReadyT.nil
  case hi3q => (simp only [List.getElem?_toArray, List.getElem?_cons_succ, List.getElem?_cons_zero]; rfl)
  go_simp
  refine HC5.out.mono ?_
  rintro e w6 ⟨rfl, hb6⟩
  have k6 := k5.call hb6
  have ra6 := RI.on ra5 hb6
  have rb6 := RI.on rb5 hb6
  have B6 := B5.trans (hb6.mono B5.size)
  refine hK.out _ _ (fun _ => ⟨k6.cell 0, k6.cell 1, k6.cell 2⟩) (fun hS => ?_)
  clear hK K hb6 k5 s5 ra5 rb5 B5 HC5 u8
  replace hS := hS rfl
  try simp only [Act.put, List.setIfInBounds_toArray, List.set_cons_zero, List.set_cons_succ]
  refine' wpAnyT_take (i := 4) (v := _) ?hiT4q (by kernel_rfl) ?hQT4q (Or.inl ⟨?hwT4q, ?hyT4q⟩) hS ?reT4q
  case hiT4q => (simp only [List.getElem?_toArray, List.getElem?_cons_succ, List.getElem?_cons_zero]; rfl)
  case hQT4q => exact fun _ _ _ h => h
  case hwT4q => rfl
  case hyT4q => (intro wS hSw; obtain ⟨_, _, _⟩ := hSw; go_simp; (try with_reducible rfl))
  try simp only [Act.put, List.setIfInBounds_toArray, List.set_cons_zero, List.set_cons_succ]
  refine' wpAnyT_take (i := 5) (v := _) ?hiT5q (by kernel_rfl) ?hQT5q (Or.inl ⟨?hwT5q, ?hyT5q⟩) hS ?reT5q
  case hiT5q => (simp only [List.getElem?_toArray, List.getElem?_cons_succ, List.getElem?_cons_zero]; rfl)
  case hQT5q => exact fun _ _ _ h => h
  case hwT5q => rfl
  case hyT5q => (intro wS hSw; obtain ⟨_, _, _⟩ := hSw; go_simp; (try with_reducible rfl))
  try simp only [Act.put, List.setIfInBounds_toArray, List.set_cons_zero, List.set_cons_succ]
  refine' wpAnyT_take (i := 6) (v := _) ?hiT6q (by kernel_rfl) ?hQT6q (Or.inl ⟨?hwT6q, ?hyT6q⟩) hS ?reT6q
  case hiT6q => (simp only [List.getElem?_toArray, List.getElem?_cons_succ, List.getElem?_cons_zero]; rfl)
  case hQT6q => exact fun _ _ _ h => h
  case hwT6q => rfl
  case hyT6q => (intro wS hSw; obtain ⟨_, _, _⟩ := hSw; go_simp; (try with_reducible rfl))
  try simp only [Act.put, List.setIfInBounds_toArray, List.set_cons_zero, List.set_cons_succ]
  refine' wpAnyT_take (i := 7) (v := _) ?hiT7q (by kernel_rfl) ?hQT7q (Or.inl ⟨?hwT7q, ?hyT7q⟩) hS ?reT7q
  case hiT7q => (simp only [List.getElem?_toArray, List.getElem?_cons_succ, List.getElem?_cons_zero]; rfl)
  case hQT7q => exact fun _ _ _ h => h
  case hwT7q => rfl
  case hyT7q => (intro wS hSw; obtain ⟨_, _, _⟩ := hSw; go_simp; (try with_reducible rfl))
  try simp only [Act.put, List.setIfInBounds_toArray, List.set_cons_zero, List.set_cons_succ]
  refine' wpAnyT_take (i := 8) (v := _) ?hiT8q (by kernel_rfl) ?hQT8q (Or.inl ⟨?hwT8q, ?hyT8q⟩) hS ?reT8q
  case hiT8q => (simp only [List.getElem?_toArray, List.getElem?_cons_succ, List.getElem?_cons_zero]; rfl)
  case hQT8q => exact fun _ _ _ h => h
  case hwT8q => rfl
  case hyT8q => (intro wS hSw; obtain ⟨_, _, _⟩ := hSw; go_simp; (try with_reducible rfl))
  try simp only [Act.put, List.setIfInBounds_toArray, List.set_cons_zero, List.set_cons_succ]
  refine wpAnyT_done (by kernel_rfl) ?_ _
  refine noPanic_normal ?_
  clear hS k6 HSa HSb HCa HCb
  cases hx : (xa != xb) with
  | true =>
    have hR2 : Hid (R = decide (xa < xb)) := Lib.hid (by rw [hR.out, if_pos hx])
    go_wp2_with fail
    go_ret
    exact ⟨ret_bool hR2.out.symm, B6⟩
  | false =>
    cases hy : (ya != yb) with
    | true =>
      have hR2 : Hid (R = decide (ya < yb)) := Lib.hid (by rw [hR.out, if_neg (by simp [hx]), if_pos hy])
      go_wp2_with fail
      go_ret
      exact ⟨ret_bool hR2.out.symm, B6⟩
    | false =>
      have hR2 : Hid (R = lexF (a.drop 0) (b.drop 0)) := Lib.hid (by rw [hR.out, if_neg (by simp [hx]), if_neg (by simp [hy])]; rfl)
      go_wp2_with fail
      go_loopw [11] (fun i wr => ∃ k : Nat, k ≤ n ∧ i = .int .i64 k ∧ Hid (R = lexF (a.drop k) (b.drop k)) ∧ Below w6.heap.size w6 wr) (fun i _ => n - (intOf i).toNat)
      case atStart => exact ⟨0, by omega, rfl, hR2, Below.refl _ _⟩
      case round =>
        clear hR2
        obtain ⟨k, hk, rfl, hR2, hB⟩ := hrel
        have B7 := B6.trans (hB.mono B6.size)
        by_cases hlt : k < n
        · have hlt' : decide ((k : Int) < (n : Int)) = true := by simpa using hlt
          obtain ⟨p1, o1, hA1, _, d1⟩ := (RI.on ra6 hB).at_ (k := k) (by have := hla2.out; omega)
          obtain ⟨p2, o2, hA2, _, d2⟩ := (RI.on rb6 hB).at_ (k := k) (by have := hlb2.out; omega)
          have hR3 := hR2.out
          rw [Go.Pol.drop_cons 0 a k (by have := hla2.out; omega), Go.Pol.drop_cons 0 b k (by have := hlb2.out; omega), lexF] at hR3
          generalize a.getD k 0 = u at *
          generalize b.getD k 0 = v at *
          have e1 := fun z : Ext wr => z.cell d1
          have e2 := fun z : Ext wr => z.cell d2
          subst hA1
          subst hA2
          cases huv : (u != v) with
          | true =>
            have hR4 : Hid (R = decide (u < v)) := Lib.hid (by rw [hR3, if_pos huv])
            clear hR3 hR2
            go_upto_region 10 with fail
            refine region_ext (by kernel_rfl) (by kernel_rfl) ?_
            repeat (go_big_quiet_step (fail))
            refine wpQuiet_nil ?_
            rintro w8 ⟨⟨_, hw8⟩, rfl⟩
            have f1 := fun z : Ext w8 => z.cell ((hw8.cell (World.block_lt_of_cell? _ _ d1)).trans d1)
            have f2 := fun z : Ext w8 => z.cell ((hw8.cell (World.block_lt_of_cell? _ _ d2)).trans d2)
            clear e1 e2
            go_upto_region 11 with fail
            refine region_ext (by kernel_rfl) (by kernel_rfl) ?_
            repeat (go_big_quiet_step (fail))
            refine wpQuiet_nil ?_
            rintro w9 ⟨⟨_, hw9⟩, rfl⟩
            go_wp2_with fail
            go_ret
            exact ⟨ret_bool hR4.out.symm, B7.trans ((hw8.trans (hw9.mono hw8.size)).mono B7.size)⟩
          | false =>
            have hR4 : Hid (R = lexF (a.drop (k + 1)) (b.drop (k + 1))) := Lib.hid (by rw [hR3, if_neg (by simp [huv])])
            clear hR3 hR2
            go_upto_region 10 with fail
            refine region_ext (by kernel_rfl) (by kernel_rfl) ?_
            repeat (go_big_quiet_step (fail))
            refine wpQuiet_nil ?_
            rintro w8 ⟨⟨_, hw8⟩, rfl⟩
            go_wp2_with fail
            go_roundw
            case rel => exact ⟨k + 1, by omega, by go_num, hR4, hB.trans (hw8.mono hB.size)⟩
            case measure => simp [intOf]; omega
        · obtain rfl : k = n := by omega
          have hlt' : decide ((k : Int) < (k : Int)) = false := by simp
          have hR3 : Hid (R = false) := Lib.hid (by rw [hR2.out, List.drop_of_length_le (by have := hla2.out; omega)]; simp [lexF])
          clear hR2
          go_wp2_with fail
          go_ret
          exact ⟨ret_bool hR3.out.symm, B7⟩
end Go.Proofs.Ytmpakobfedgdbaa
namespace Go.Pol
open Go
/-- is a page in a huge group whose bit is not set? -/
def blkd (H : List Int) (set : Nat) (p : Int) (j : Nat) : Bool := (List.range j).any fun k => (p / 16 == H.getD k 0) && (set / 2 ^ k % 2 == 0)
theorem blkd_succ (H : List Int) (set : Nat) (p : Int) (j : Nat) : blkd H set p (j + 1) = (blkd H set p j || ((p / 16 == H.getD j 0) && (set / 2 ^ j % 2 == 0))) := by
  unfold blkd
  rw [List.range_succ, List.any_append]; simp
/-- the first so many pages that are not -/
def firR (H : List Int) (set : Nat) (n : Nat) (l : List Int) : List Int := (l.filter fun p => !blkd H set p H.length).take n
theorem firR_snoc (H : List Int) (set n : Nat) (l : List Int) (p : Int) (h : (firR H set n l).length < n) : firR H set n (l ++ [p]) = firR H set n l ++ if blkd H set p H.length = true then [] else [p] := by
  unfold firR at h ⊢
  rw [List.filter_append]
  have h1 : (l.filter fun p => !blkd H set p H.length).length < n := by
    rw [List.length_take] at h; omega
  rw [List.take_of_length_le (Nat.le_of_lt h1)]
  cases hb : blkd H set p H.length with
  | true => rw [show [p].filter (fun p => !blkd H set p H.length) = [] by simp [hb], List.append_nil, if_pos rfl, List.append_nil, List.take_of_length_le (Nat.le_of_lt h1)]
  | false => rw [show [p].filter (fun p => !blkd H set p H.length) = [p] by simp [hb], if_neg (by simp), List.take_of_length_le (by rw [List.length_append, List.length_singleton]; omega)]
theorem firR_full (H : List Int) (set n : Nat) (l : List Int) (i : Nat) (h : n ≤ (firR H set n (l.take i)).length) : firR H set n l = firR H set n (l.take i) := by
  unfold firR at h ⊢
  rw [List.length_take] at h
  conv => lhs; rw [← List.take_append_drop i l, List.filter_append]
  rw [List.take_append_of_le_length (by omega)]
theorem firR_len (H : List Int) (set n : Nat) (l : List Int) : (firR H set n l).length ≤ n := by unfold firR; rw [List.length_take]; omega
end Go.Pol
namespace Go.Proofs.Ytmpakobfedgdbaa
open Go Go.Proofs Go.RowKit Go.Pol Go.Shelf
attribute [local go_sem] Oper.semAt_some Go.Pol.wide_fn Go.Pol.wide_depth Go.Pol.wide_fn' Go.Pol.wide_depth'

set_option maxRecDepth 100000 in
set_option maxHeartbeats 3200000 in
theorem first13_any (S : Value) (C L : List Sp) (H : List Int) (A : Option Addr) (m cap : Nat) (l : List Int) (set n : Nat) (w : World) (hS : StIs w S C L H) (h64 : H.length ≤ 5) (hm : l.length = m) (hm2 : m ≤ 1024) (hr : RI w w.heap.size A l) (hl : ∀ p ∈ l, 0 ≤ p ∧ p < 1024) (hn : n ≤ 1024) :
    Calls Try.prog 41 #[S, .slice A m cap, .int .i64 set, .int .i64 n] w (IntsO (firR H set n l) w) := by
  obtain ⟨i0, hi, hz0, hz1, hz2⟩ := info_parts infoIn
  have hS' := hS
  obtain ⟨A1, A2, A3, n1, c1, n2, c2, n3, c3, rfl, h1, h2, h3, h4, h5, h6, h7, h8, h9⟩ := hS.ex
  have hb0 := (Below.refl w.heap.size w).alloc (Nat.le_refl _) (.cells #[.slice A1 n1 c1, .slice A2 n2 c2, .slice A3 n3 c3] 25)
  have k0 := Blk.new w 25 #[.slice A1 n1 c1, .slice A2 n2 c2, .slice A3 n3 c3]
  have s0 := hS'.on hb0
  have r0 := RI.on hr hb0
  have hn3 := Lib.hid h7
  rw [h7] at h64
  have hm' := Lib.hid hm
  have hl' := Lib.hid hl
  obtain ⟨R, hR⟩ : ∃ R, firR H set n l = R := ⟨_, rfl⟩
  rw [hR]
  have hR' := Lib.hid hR
  clear hS hS' h1 h2 h3 h4 h5 h6 h7 h8 h9 hr hl hm hR
  go_enter Try.func41, Try.ntmps41
  go_upto_region 1 with fail
  generalize w.alloc (.cells #[.slice A1 n1 c1, .slice A2 n2 c2, .slice A3 n3 c3] 25) = w1 at *
  go_wp2_with fail
  have hq0 : firR H set n (l.take 0) = [] := by simp [firR]
  go_loopw [9, 10] (fun v i wr => ∃ (k : Nat) (o : List Int), k ≤ m ∧ i = .int .i64 k ∧ Hid (firR H set n (l.take k) = o) ∧ o.length ≤ n ∧ wr.ownsRow w1.heap.size 3 1 v o.length (o.map (Value.int .i64)) ∧ Below w1.heap.size w1 wr) (fun _ i _ => m - (intOf i).toNat)
  case atStart => exact ⟨0, [], by omega, rfl, Lib.hid hq0, by simp, World.ownsRow_nil _ _ _ _, Below.refl _ _⟩
  case round =>
    clear hq0
    obtain ⟨k, o, hk, rfl, hfo, hol, hrow, hB⟩ := hrel
    have k2 := k0.call hB
    have s2 := s0.on hB
    have r2 := RI.on r0 hB
    have B2 := hb0.trans (hB.mono hb0.size)
    obtain ⟨A', cap', rfl, hru⟩ := own_RIx hrow rfl
    by_cases hlt : k < m
    case neg =>
      obtain rfl : k = m := by omega
      have hlt' : decide ((k : Int) < (k : Int)) = false := by simp
      have hR2 : R = o := by rw [← hR'.out, ← hfo.out, List.take_of_length_le (by have := hm'.out; omega)]
      subst hR2
      go_wp2_with fail
      go_ret
      exact ⟨A', cap', rfl, hru, B2⟩
    case pos =>
      have hlt' : decide ((k : Int) < (m : Int)) = true := by simpa using hlt
      by_cases hfull : o.length < n
      case neg =>
        have hf' : decide ((o.length : Int) < (n : Int)) = false := by simpa using hfull
        have hR2 : R = o := by rw [← hR'.out, ← hfo.out, firR_full H set n l k (by rw [hfo.out]; omega)]
        subst hR2
        go_wp2_with fail
        go_ret
        exact ⟨A', cap', rfl, hru, B2⟩
      case pos =>
        have hf' : decide ((o.length : Int) < (n : Int)) = true := by simpa using hfull
        have hts := take_snocI l k (by have := hm'.out; omega)
        have hsn := firR_snoc H set n (l.take k) (l.getD k 0) (by rw [hfo.out]; exact hfull)
        rw [← hts, hfo.out, hn3.out] at hsn
        have hx := hl'.out _ (getD_memI (bs := l) (k := k) (by have := hm'.out; omega))
        obtain ⟨b, oo, hA9, _, c5⟩ := r2.at_ (k := k) (by have := hm'.out; omega)
        generalize l.getD k 0 = x at *
        obtain ⟨p, rfl⟩ : ∃ p : Nat, x = (p : Int) := ⟨x.toNat, by omega⟩
        have hsn' := Lib.hid hsn
        subst hA9
        obtain ⟨ol, hol2⟩ : ∃ ol, o.length = ol := ⟨_, rfl⟩
        rw [hol2] at hf' hrow hol hfull
        have hol3 := Lib.hid hol2
        clear hsn hts r0 hol2
        rw [hol3.out]
        go_wp2_with fail
        go_loopw [11, 12] (fun t j wq => ∃ q : Nat, q ≤ n3 ∧ j = .int .i64 q ∧ t = .bool (!blkd H set p q) ∧ Below wr.heap.size wr wq) (fun _ j _ => n3 - (intOf j).toNat)
        case atStart => exact ⟨0, by omega, rfl, by simp [blkd], Below.refl _ _⟩
        case round =>
          obtain ⟨q, hq, rfl, htt, hB3⟩ := hrel
          have k3 := k2.call hB3
          have s3 := s2.on hB3
          have ck3 := k3.cell
          have d5 := (hB3.cell (World.block_lt_of_cell? _ _ c5)).trans c5
          by_cases hltq : q < n3
          case neg =>
            obtain rfl : q = n3 := by omega
            have hltq' : decide ((q : Int) < (q : Int)) = false := by simp
            have hrow4 := ownsRow_call hrow hB3
            have hB4 := hB.trans (hB3.mono hB.size)
            subst htt
            clear hrow
            cases hbk : blkd H set p q with
            | true =>
              have hfo2 : Hid (firR H set n (l.take (k + 1)) = o) := Lib.hid (by rw [hsn'.out, hbk, if_pos rfl, List.append_nil])
              clear hbk hsn'
              go_wp2_with fail
              go_roundw
              case rel => exact ⟨k + 1, o, by omega, by go_num, hfo2, by rw [hol3.out]; omega, by rw [hol3.out]; exact hrow4, hB4⟩
              case measure => simp [intOf]; omega
            | false =>
              have hfo2 : Hid (firR H set n (l.take (k + 1)) = o ++ [(p : Int)]) := Lib.hid (by rw [hsn'.out, hbk, if_neg (by simp)])
              clear hbk hsn'
              have kN := Blk.new wr 3 #[.int .i64 (p : Int)]
              have hbN : Below wr.heap.size wr (wr.alloc (.cells #[.int .i64 (p : Int)] 3)) := (Below.refl _ _).alloc (Nat.le_refl _) _
              have hol4 := hol3.out
              clear c5
              go_wp2_with (refine wpList_append_own _ rfl (.tmp 51) (.tmp 56) 23 rfl w1.heap.size 3 i0 (.int .i64 0) 1 8 Try.underlying23 hi hz0 hz1 hz2 rfl (by decide) _ ol (o.map (Value.int .i64)) rfl (hrow4.alloc _) ⟨wr.heap.size, 0, none⟩ 1 1 [.int .i64 (p : Int)] rfl rfl (news_i kN) ints_one (by unfold maxLen; omega) (by omega) (by have := hB4.size; simp; omega) ?_; intro v' w7 hown' hgrow _; rw [show o.map (Value.int .i64) ++ [Value.int .i64 (p : Int)] = (o ++ [(p : Int)]).map (Value.int .i64) by simp] at hown')
              go_roundw
              case rel => exact ⟨k + 1, o ++ [(p : Int)], by omega, by go_num, hfo2, by rw [List.length_append, List.length_singleton]; omega, by rw [List.length_append, List.length_singleton, hol3.out]; exact hown', (hB4.trans (hbN.mono hB4.size)).grown hgrow (by have := hB4.size; simp; omega) (fun g hg => by have := (hrow4.lt g hg).1; omega)⟩
              case measure => simp [intOf]; omega
          case pos =>
            have hltq' : decide ((q : Int) < (n3 : Int)) = true := by simpa using hltq
            have hbs := blkd_succ H set p q
            obtain ⟨b2, o2, hA8, _, d6⟩ := s3.parts.2.2.at_ (k := q) (by have := hn3.out; omega)
            generalize H.getD q 0 = x at *
            obtain ⟨bt, hbt⟩ : ∃ bt, set / 2 ^ q = bt := ⟨_, rfl⟩
            have hsh : ((set : Int) / 2 ^ q) = (bt : Int) := by rw [← hbt]; simp
            obtain ⟨pq, hpq⟩ : ∃ pq, p / 16 = pq := ⟨_, rfl⟩
            have hpd : ((p : Int) / 16) = (pq : Int) := by omega
            rw [hbt, hpd] at hbs
            have hbs' := Lib.hid hbs
            have e1 := fun z : Ext wr => (z.blk k3).cell
            have e2 := fun z : Ext wr => z.cell d5
            have e3 := fun z : Ext wr => z.cell d6
            clear hbs hbt hpq
            subst hA8
            subst htt
            generalize blkd H set p q = bq at *
            cases hx1 : ((pq : Int) == x) with
            | false =>
              have hbs2 : Hid (blkd H set p (q + 1) = bq) := Lib.hid (by rw [hbs'.out, hx1]; simp)
              go_upto_region 9 with fail
              refine region_ext (by kernel_rfl) (by kernel_rfl) ?_
              repeat (go_big_quiet_step (fail))
              refine wpQuiet_nil ?_
              rintro w8 ⟨⟨_, hw8⟩, rfl⟩
              go_wp2_with fail
              go_roundw
              case rel => exact ⟨q + 1, by omega, by go_num, by rw [hbs2.out], hB3.trans (hw8.mono hB3.size)⟩
              case measure => simp [intOf]; omega
            | true =>
              have hq63 : (0 : Int) ≤ (q : Int) := by omega
              cases hbz : (bt % 2 == 0) with
              | false =>
                have hbz2 : ((bt : Int) % 2 == 0) = false := by simp at hbz ⊢; omega
                have hbs2 : Hid (blkd H set p (q + 1) = bq) := Lib.hid (by rw [hbs'.out, hbz]; simp)
                clear hbz
                go_upto_region 9 with fail
                refine region_ext (by kernel_rfl) (by kernel_rfl) ?_
                repeat (go_big_quiet_step (fail))
                refine wpQuiet_nil ?_
                rintro w8 ⟨⟨_, hw8⟩, rfl⟩
                go_wp2_with fail
                go_roundw
                case rel => exact ⟨q + 1, by omega, by go_num, by rw [hbs2.out], hB3.trans (hw8.mono hB3.size)⟩
                case measure => simp [intOf]; omega
              | true =>
                have hbz2 : ((bt : Int) % 2 == 0) = true := by simp at hbz ⊢; omega
                have hbs2 : Hid (blkd H set p (q + 1) = true) := Lib.hid (by rw [hbs'.out, hbz, hx1]; simp)
                clear hbz
                go_upto_region 9 with fail
                refine region_ext (by kernel_rfl) (by kernel_rfl) ?_
                repeat (go_big_quiet_step (fail))
                refine wpQuiet_nil ?_
                rintro w8 ⟨⟨_, hw8⟩, rfl⟩
                go_wp2_with fail
                go_roundw
                case rel => exact ⟨q + 1, by omega, by go_num, by rw [hbs2.out]; rfl, hB3.trans (hw8.mono hB3.size)⟩
                case measure => simp [intOf]; omega
end Go.Proofs.Ytmpakobfedgdbaa
namespace Go.Pol
open Go Go.RowKit
/-- the idle pages -/
def idleP (C L : List Sp) : List Int := pagesOf (combF 3 C L)
def stepBst (L : List Sp) (H I : List Int) (n : Nat) (b : Option (List Int)) (set : Nat) : Option (List Int) :=
  if (decide ((firR H set n I).length = n) && (b.isNone || betF L H (firR H set n I) (b.getD []))) = true then some (firR H set n I) else b
def bestL (C L : List Sp) (H : List Int) (n k : Nat) : Option (List Int) := (List.range k).foldl (stepBst L H (idleP C L) n) none
def bestE : Option (List Int) → List Sp × Int
  | none => ([], 4)
  | some l => (setA (inL l), 0)
/-- what the reference's Choose answers -/
def rchooseA (C L : List Sp) (H : List Int) (n : Int) : List Sp × Int :=
  if chkH C L H ≠ 0 then ([], chkH C L H) else if n < 0 ∨ 1024 < n then ([], 2) else
  bestE (bestL C L H n.toNat (2 ^ H.length))
theorem bestL_succ (C L : List Sp) (H : List Int) (n k : Nat) : bestL C L H n (k + 1) = stepBst L H (idleP C L) n (bestL C L H n k) k := by
  unfold bestL
  rw [List.range_succ, List.foldl_append]; rfl
theorem idle_can {C L : List Sp} (hC : Can C) (hL : Can L) : chk2 C L = 0 ∧ Can (combF 3 C L) := by
  have h := (minus_nil hC hL).1
  refine ⟨h, ?_⟩
  unfold combF; rw [if_pos h]; exact setA_can _
theorem idle_range {C L : List Sp} (h : Can (combF 3 C L)) : (idleP C L).length ≤ 1024 ∧ ∀ p ∈ idleP C L, 0 ≤ p ∧ p < 1024 := by
  refine ⟨?_, fun p hp => h.range (mem_pagesOf.1 hp)⟩
  have := pieces_most (us := combF 3 C L) (size := 1)
  rw [← List.length_map (f := (·.1)), pieces_one h] at this
  exact this
theorem firR_mem {H : List Int} {set n : Nat} {l : List Int} {p : Int} (h : p ∈ firR H set n l) : p ∈ l := (List.mem_filter.1 (List.mem_of_mem_take h)).1
theorem stepBst_or {L : List Sp} {H I : List Int} {n : Nat} {b : Option (List Int)} {set : Nat} : stepBst L H I n b set = some (firR H set n I) ∨ stepBst L H I n b set = b := by
  unfold stepBst; split
  · exact .inl rfl
  · exact .inr rfl
end Go.Pol
namespace Go.Proofs.Ytmpakobfedgdbaa
open Go Go.Proofs Go.RowKit Go.Pol Go.Shelf
attribute [local go_sem] Oper.semAt_some Go.Pol.wide_fn Go.Pol.wide_depth Go.Pol.wide_fn' Go.Pol.wide_depth'

/-- what a best choice so far reads like -/
structure BestIs (n : Nat) (I : List Int) (b : Option (List Int)) (v fl : Value) (w : World) : Prop where
  ex : ∃ (A : Option Addr) (len cap : Nat), v = .slice A len cap ∧ (b.getD []).length = len ∧ RI w w.heap.size A (b.getD [])
  fl : fl = .bool b.isSome
  len : ∀ l, b = some l → l.length = n
  mem : ∀ p ∈ b.getD [], p ∈ I
theorem BestIs.on {n : Nat} {I : List Int} {b : Option (List Int)} {v fl : Value} {w w' : World} (h : BestIs n I b v fl w) (hb : Below w.heap.size w w') : BestIs n I b v fl w' := by
  obtain ⟨A, len, cap, h1, h2, h3⟩ := h.ex
  exact ⟨⟨A, len, cap, h1, h2, RI.on h3 hb⟩, h.fl, h.len, h.mem⟩
set_option maxRecDepth 100000 in
set_option maxHeartbeats 3200000 in
theorem rchoose13_any (S : Value) (C L : List Sp) (H : List Int) (n : Int) (w : World) (hS : StIs w S C L H) (h5 : chkH C L H = 0 → H.length ≤ 5) :
    Calls Try.prog 14 #[S, .int .i64 n] w (SpE (rchooseA C L H n) w) := by
  have HCk := Lib.hid (fun W (h : StIs W S C L H) => rcheck13_any S C L H W h)
  have hS' := hS
  have HF := Lib.hid (fun (A9 : Option Addr) (m9 c9 : Nat) (l : List Int) (set n9 : Nat) W (h : StIs W S C L H) h64 hm hm2 hr hl hn => first13_any S C L H A9 m9 c9 l set n9 W h h64 hm hm2 hr hl hn)
  have HB := Lib.hid (fun (A9 B9 : Option Addr) (m9 c9 d9 : Nat) (a b : List Int) W (h : StIs W S C L H) hL hin h64 hna hnb hm hra hrb hla hlb => better13_any S C L H A9 B9 m9 c9 d9 a b W h hL hin h64 hna hnb hm hra hrb hla hlb)
  obtain ⟨A1, A2, A3, n1, c1, n2, c2, n3, c3, rfl, h1, h2, h3, h4, h5', h6, h7, h8, h9⟩ := hS.ex
  have HM := Lib.hid (fun W (hr1 : RU W W.heap.size A1 C) (hr2 : RU W W.heap.size A2 L) => rMinus_any A1 A2 n1 c1 n2 c2 C L W h1 h2 hr1 h4 h5' hr2)
  have hb0 := (Below.refl w.heap.size w).alloc (Nat.le_refl _) (.cells #[.slice A1 n1 c1, .slice A2 n2 c2, .slice A3 n3 c3] 25)
  have k0 := Blk.new w 25 #[.slice A1 n1 c1, .slice A2 n2 c2, .slice A3 n3 c3]
  have s0 := hS'.on hb0
  have c0 := k0.cell
  have hA := Lib.hid (show rchooseA C L H n = if chkH C L H ≠ 0 then ([], chkH C L H) else if n < 0 ∨ 1024 < n then ([], 2) else bestE (bestL C L H n.toNat (2 ^ H.length)) from rfl)
  have hcan := Lib.hid (fun h : chkH C L H = 0 => (⟨(chkH_zero.1 h).1, (chkH_zero.1 h).2.1, (chkH_zero.1 h).2.2.1, h5 h⟩ : Go.Pol.Can C ∧ Go.Pol.Can L ∧ (∀ g ∈ H, inG g = true) ∧ H.length ≤ 5))
  generalize rchooseA C L H n = R at *
  generalize chkH C L H = er at *
  have hn3 := Lib.hid h7
  clear hS hS' h1 h2 h3 h4 h5 h5' h6 h7 h8 h9
  by_cases h0 : er = 0
  case neg =>
    have h0' : (er == 0) = false := by simpa using h0
    have h0'' : (er != 0) = true := by simpa using h0
    have hA' : Hid (R = ([], er)) := Lib.hid (by rw [hA.out, if_pos h0])
    clear hA h0
    go_enter Try.func14, Try.ntmps14
    go_wp2_with fail
    refine (HCk.out _ s0).mono ?_
    rintro e w1 ⟨rfl, hb1⟩
    go_wp2_with fail
    go_ret2
    rw [hA'.out]
    exact SpE.err (hb0.trans (hb1.mono hb0.size))
  case pos =>
    subst h0
    obtain ⟨canC, canL, hin, h5⟩ := hcan.out rfl
    have hA1 : Hid (R = if n < 0 ∨ 1024 < n then ([], 2) else bestE (bestL C L H n.toNat (2 ^ H.length))) := Lib.hid (by rw [hA.out, if_neg (by simp)])
    clear hA hcan
    by_cases hl0 : n < 0
    · have hl0' : decide (n < 0) = true := by simpa using hl0
      have hA2 : Hid (R = ([], 2)) := Lib.hid (by rw [hA1.out, if_pos (.inl hl0)])
      clear hA1 hl0
      go_enter Try.func14, Try.ntmps14
      go_wp2_with fail
      refine (HCk.out _ s0).mono ?_
      rintro e w1 ⟨rfl, hb1⟩
      go_wp2_with fail
      go_ret2
      rw [hA2.out]
      exact SpE.err (hb0.trans (hb1.mono hb0.size))
    have hl0' : decide (n < 0) = false := by simpa using hl0
    by_cases hl1 : 1024 < n
    · have hl1' : decide (1024 < n) = true := by simpa using hl1
      have hA2 : Hid (R = ([], 2)) := Lib.hid (by rw [hA1.out, if_pos (.inr hl1)])
      clear hA1 hl0 hl1
      go_enter Try.func14, Try.ntmps14
      go_wp2_with fail
      refine (HCk.out _ s0).mono ?_
      rintro e w1 ⟨rfl, hb1⟩
      go_wp2_with fail
      go_ret2
      rw [hA2.out]
      exact SpE.err (hb0.trans (hb1.mono hb0.size))
    have hl1' : decide (1024 < n) = false := by simpa using hl1
    obtain ⟨nn, rfl⟩ : ∃ nn : Nat, n = (nn : Int) := ⟨n.toNat, by omega⟩
    have hA2 : Hid (R = bestE (bestL C L H nn (2 ^ H.length))) := Lib.hid (by rw [hA1.out, if_neg (by omega)]; rfl)
    have hnn : nn ≤ 1024 := by omega
    clear hA1 hl0 hl1
    obtain ⟨i1, i2⟩ := idle_can canC canL
    obtain ⟨i3, i4⟩ := idle_range i2
    rw [i1] at HM
    have hbs := Lib.hid (fun k => bestL_succ C L H nn k)
    have HP := Lib.hid (fun (A9 : Option Addr) (m9 c9 : Nat) W hn hm hr => refPages_any A9 m9 c9 (combF 3 C L) W hn hm hr i2 (idleP C L) rfl)
    have hml := i2.len
    have hb00 : bestL C L H nn 0 = none := rfl
    generalize idleP C L = I at *
    generalize combF 3 C L = M at *
    obtain ⟨Il, hIl⟩ : ∃ Il, I.length = Il := ⟨_, rfl⟩
    rw [hIl] at HP i3
    have hIl' := Lib.hid hIl
    have hi4 := Lib.hid i4
    have hin' := Lib.hid hin
    rw [hn3.out] at hA2
    have h5' : n3 ≤ 5 := by rw [← hn3.out]; exact h5
    obtain ⟨P2, hP2⟩ : ∃ P2 : Nat, 2 ^ n3 = P2 := ⟨_, rfl⟩
    have hP32 : P2 ≤ 32 := by rw [← hP2]; exact Nat.pow_le_pow_right (by decide) h5'
    have hshl : wrap64 (2 ^ n3) = (P2 : Int) := by
      rw [← hP2]
      have : ((2 ^ n3 : Nat) : Int) = (2 : Int) ^ n3 := by simp
      rw [← this]
      unfold wrap64
      omega
    rw [hP2] at hA2
    clear i1 i4 hin hIl hP2
    unfold SpansR at HM
    obtain ⟨mm, hmm⟩ : ∃ mm, M.length = mm := ⟨_, rfl⟩
    simp only [hmm] at HM
    rw [hmm] at hml
    go_enter Try.func14, Try.ntmps14
    go_wp2_with fail
    refine (HCk.out _ s0).mono ?_
    rintro e w1 ⟨rfl, hb1⟩
    have k1 := k0.call hb1
    have s1 := s0.on hb1
    have B1 := hb0.trans (hb1.mono hb0.size)
    have c1 := k1.cell
    clear hb0 hb1 k0 s0 c0 HCk
    go_wp2_with fail
    refine (HM.out _ s1.parts.1 s1.parts.2.1).mono ?_
    rintro e w2 ⟨A9, c9, rfl, ru9, m9, m8, _, hb2⟩
    have k2 := k1.call hb2
    have s2 := s1.on hb2
    have B2 := B1.trans (hb2.mono B1.size)
    have HP2 := Lib.hid (fun W hr => HP.out A9 mm c9 W hmm (by unfold maxLen; omega) hr)
    clear hb2 k1 s1 c1 B1 HP HM
    go_wp2_with fail
    obtain ⟨bx, hbx⟩ : ∃ bx, w.heap.size = bx := ⟨_, rfl⟩
    rw [hbx] at k2 ⊢
    have hbx' := Lib.hid hbx
    clear hbx
    go_loopw [9, 10, 11] (fun v f i wr => ∃ (k : Nat) (bb : Option (List Int)), k ≤ P2 ∧ i = .int .i64 k ∧ Hid (bestL C L H nn k = bb) ∧ BestIs nn I bb v f wr ∧ Below w2.heap.size w2 wr) (fun _ _ i _ => P2 - (intOf i).toNat)
    case atStart => exact ⟨0, none, by omega, rfl, Lib.hid hb00, ⟨⟨none, 0, 0, rfl, rfl, RI.nil⟩, rfl, by simp, by simp⟩, Below.refl _ _⟩
    case round =>
      clear hb00
      obtain ⟨k, bb, hk, rfl, hbb, hBI, hB⟩ := hrel
      have k3 := k2.call hB
      have s3 := s2.on hB
      have ru3 := ru9.on hB
      have B3 := B2.trans (hB.mono B2.size)
      have c3' := k3.cell
      obtain ⟨A8, len, cap, rfl, hbl, hbr⟩ := hBI.ex
      obtain rfl := hBI.fl
      by_cases hlt : k < P2
      case neg =>
        obtain rfl : k = P2 := by omega
        have hlt' : decide ((k : Int) < (k : Int)) = false := by simp
        rw [hbb.out] at hA2
        cases bb with
        | none =>
          go_wp2_with fail
          go_ret2
          rw [hA2.out]
          exact SpE.err B3
        | some l =>
          have hA3 : Hid (R = (setA (inL l), 0)) := Lib.hid (by rw [hA2.out]; rfl)
          have hll := hBI.len l rfl
          have HS := Lib.hid (sets13_any A8 len cap l wr hbl (by rw [← hbl]; show l.length ≤ _; omega) hbr (fun p hp => hi4.out p (hBI.mem p hp)))
          unfold SpansO at HS
          generalize setA (inL l) = G at *
          clear hA2
          go_wp2_with fail
          refine HS.out.mono ?_
          rintro e w8 ⟨A7, c7, rfl, ru7, m5, m6, _, hb8⟩
          go_wp2_with fail
          go_ret2
          rw [hA3.out]
          exact ⟨A7, c7, rfl, ru7, m5, m6, B3.trans (hb8.mono B3.size)⟩
      case pos =>
        have hlt' : decide ((k : Int) < (P2 : Int)) = true := by simpa using hlt
        have hbk := hbs.out k
        rw [hbb.out] at hbk
        obtain ⟨fl, hfl⟩ : ∃ fl, firR H k nn I = fl := ⟨_, rfl⟩
        have hfle : fl.length ≤ nn := by rw [← hfl]; exact firR_len _ _ _ _
        have hfme : ∀ p ∈ fl, p ∈ I := fun p hp => by rw [← hfl] at hp; exact firR_mem hp
        have hst : stepBst L H I nn bb k = if (decide (fl.length = nn) && (bb.isNone || betF L H fl (bb.getD []))) = true then some fl else bb := by unfold stepBst; rw [hfl]
        rw [hst] at hbk
        have hbk' := Lib.hid hbk
        have HF2 := Lib.hid (fun A7 c7 W h hr => HF.out A7 Il c7 I k nn W h (by rw [hn3.out]; exact h5') hIl'.out i3 hr hi4.out hnn)
        rw [hfl] at HF2
        unfold IntsO at HF2
        clear hbk hst
        go_upto_region 12 with fail
        refine wp_noPanic ?_
        refine wp_region_T (BetS bx (.slice A1 n1 c1) (.slice A2 n2 c2) (.slice A3 n3 c3)) [] (by kernel_rfl) ?_
        have hbd : Below wr.heap.size wr wr.drew := (Below.refl _ _).drew
        have k4 := k3.call hbd
        have s4 := s3.on hbd
        have ru4 := ru3.on hbd
        have hB4 := hB.trans (hbd.mono hB.size)
        have BI4 := hBI.on hbd
        generalize wr.drew = w4 at *
        clear k3 s3 ru3 hB hbd hBI c3' hbr hbl
        have hS : BetS bx (.slice A1 n1 c1) (.slice A2 n2 c2) (.slice A3 n3 c3) w4 := ⟨k4.cell 0, k4.cell 1, k4.cell 2⟩
        refine' wpAnyT_take (i := 0) (v := _) ?hiT0 (by kernel_rfl) ?hQT0 (Or.inl ⟨?hwT0, ?hyT0⟩) hS ?reT0
        case hiT0 => (simp only [List.getElem?_toArray, List.getElem?_cons_zero]; rfl)
        case hQT0 => exact fun _ _ _ h => h
        case hwT0 => rfl
        case hyT0 => (intro wS hSw; obtain ⟨_, _, _⟩ := hSw; go_simp; (try with_reducible rfl))
        try simp only [Act.put, List.setIfInBounds_toArray, List.set_cons_zero, List.set_cons_succ]
        refine' wpAnyT_take (i := 1) (v := _) ?hiT1 (by kernel_rfl) ?hQT1 (Or.inl ⟨?hwT1, ?hyT1⟩) hS ?reT1
        case hiT1 => (simp only [List.getElem?_toArray, List.getElem?_cons_succ, List.getElem?_cons_zero]; rfl)
        case hQT1 => exact fun _ _ _ h => h
        case hwT1 => rfl
        case hyT1 => (intro wS hSw; obtain ⟨_, _, _⟩ := hSw; go_simp; (try with_reducible rfl))
        try simp only [Act.put, List.setIfInBounds_toArray, List.set_cons_zero, List.set_cons_succ]
        refine' wpAnyT_take (i := 3) (v := _) ?hiT3 (by kernel_rfl) ?hQT3 (Or.inl ⟨?hwT3, ?hyT3⟩) hS ?reT3
        case hiT3 => (simp only [List.getElem?_toArray, List.getElem?_cons_succ, List.getElem?_cons_zero]; rfl)
        case hQT3 => exact fun _ _ _ h => h
        case hwT3 => rfl
        case hyT3 => (intro wS hSw; obtain ⟨_, _, _⟩ := hSw; go_simp; (try with_reducible rfl))
        try simp only [Act.put, List.setIfInBounds_toArray, List.set_cons_zero, List.set_cons_succ]
        refine' wpAnyT_take (i := 4) (v := _) ?hiT4 (by kernel_rfl) ?hQT4 (Or.inl ⟨?hwT4, ?hyT4⟩) hS ?reT4
        case hiT4 => (simp only [List.getElem?_toArray, List.getElem?_cons_succ, List.getElem?_cons_zero]; rfl)
        case hQT4 => exact fun _ _ _ h => h
        case hwT4 => rfl
        case hyT4 => (intro wS hSw; obtain ⟨_, _, _⟩ := hSw; go_simp; (try with_reducible rfl))
        try simp only [Act.put, List.setIfInBounds_toArray, List.set_cons_zero, List.set_cons_succ]
        refine wpAnyT_ready (rs := [2]) (by kernel_rfl) (by simp) ?_
        refine' AllReadyT.cons ?hi2 (fun K hK => ?st2) AllReadyT.nil
        case hi2 => (simp only [List.getElem?_toArray, List.getElem?_cons_succ, List.getElem?_cons_zero]; rfl)
        go_simp
        refine (HP2.out _ ru4).mono ?_
        rintro e w5 ⟨A7, c7, rfl, ri7, hb5⟩
        have k5 := k4.call hb5
        have s5 := s4.on hb5
        have ru5 := ru4.on hb5
        have hB5 := hB4.trans (hb5.mono hB4.size)
        have BI5 := BI4.on hb5
        have HF3 := Lib.hid (HF2.out A7 c7 w5 s5 ri7)
        refine hK.out _ _ (fun _ => ⟨k5.cell 0, k5.cell 1, k5.cell 2⟩) (fun hS => ?_)
        clear hK K hb5 k4 s4 ru4 hB4 BI4 HF2 ri7
        replace hS := hS rfl
        try simp only [Act.put, List.setIfInBounds_toArray, List.set_cons_zero, List.set_cons_succ]
        refine wpAnyT_ready (rs := [5]) (by kernel_rfl) (by simp) ?_
        refine' AllReadyT.cons ?hi5 (fun K hK => ?st5) AllReadyT.nil
        case hi5 => (simp only [List.getElem?_toArray, List.getElem?_cons_succ, List.getElem?_cons_zero]; rfl)
        go_simp
        refine HF3.out.mono ?_
        rintro e w6 ⟨A6, c6, rfl, ri6, hb6⟩
        have k6 := k5.call hb6
        have s6 := s5.on hb6
        have ru6 := ru5.on hb6
        have hB6 := hB5.trans (hb6.mono hB5.size)
        have BI6 := BI5.on hb6
        refine hK.out _ _ (fun _ => ⟨k6.cell 0, k6.cell 1, k6.cell 2⟩) (fun hS => ?_)
        clear hK K hb6 k5 s5 ru5 hB5 BI5 HF3
        replace hS := hS rfl
        try simp only [Act.put, List.setIfInBounds_toArray, List.set_cons_zero, List.set_cons_succ]
        refine' wpAnyT_take (i := 6) (v := _) ?hiT6 (by kernel_rfl) ?hQT6 (Or.inl ⟨?hwT6, ?hyT6⟩) hS ?reT6
        case hiT6 => (simp only [List.getElem?_toArray, List.getElem?_cons_succ, List.getElem?_cons_zero]; rfl)
        case hQT6 => exact fun _ _ _ h => h
        case hwT6 => rfl
        case hyT6 => (intro wS hSw; obtain ⟨_, _, _⟩ := hSw; go_simp; (try with_reducible rfl))
        try simp only [Act.put, List.setIfInBounds_toArray, List.set_cons_zero, List.set_cons_succ]
        refine wpAnyT_done (by kernel_rfl) ?_ _
        refine noPanic_normal ?_
        clear hS
        obtain ⟨fll, hfll⟩ : ∃ fll, fl.length = fll := ⟨_, rfl⟩
        rw [hfll] at hbk' hfle ⊢
        have hfll' := Lib.hid hfll
        clear hfll
        by_cases hful : fll = nn
        case neg =>
          have hne : ((fll : Int) == (nn : Int)) = false := by simp; omega
          have hbk2 : Hid (bestL C L H nn (k + 1) = bb) := Lib.hid (by rw [hbk'.out, decide_eq_false hful]; rfl)
          clear hbk'
          go_wp2_with fail
          go_roundw
          case rel => exact ⟨k + 1, bb, by omega, by go_num, hbk2, BI6, hB6⟩
          case measure => simp [intOf]; omega
        case pos =>
          subst hful
          have hne : ((fll : Int) == (fll : Int)) = true := by simp
          have hBn : BestIs fll I (some fl) (.slice A6 fll c6) (.bool true) w6 := ⟨⟨A6, fll, c6, rfl, hfll'.out, ri6⟩, rfl, fun l h => by cases h; exact hfll'.out, hfme⟩
          cases bb with
          | none =>
            have hbk2 : Hid (bestL C L H fll (k + 1) = some fl) := Lib.hid (by rw [hbk'.out, decide_eq_true rfl]; rfl)
            clear hbk'
            go_wp2_with fail
            go_roundw
            case rel => exact ⟨k + 1, some fl, by omega, by go_num, hbk2, hBn, hB6⟩
            case measure => simp [intOf]; omega
          | some b =>
            obtain ⟨_, _, _, e9, hbl9, hbr9⟩ := BI6.ex
            cases e9
            have hblen := BI6.len b rfl
            obtain rfl : len = fll := by rw [← hbl9]; exact hblen
            have HB2 := Lib.hid (HB.out A6 A8 len c6 cap fl b w6 s6 canL hin'.out (by rw [hn3.out]; omega) hfll'.out hblen (by omega) ri6 hbr9 (fun p hp => hi4.out p (hfme p hp)) (fun p hp => hi4.out p (BI6.mem p hp)))
            rw [decide_eq_true rfl] at hbk'
            have hbk3 : bestL C L H len (k + 1) = if betF L H fl b = true then some fl else some b := by rw [hbk'.out]; rfl
            have hbk4 := Lib.hid hbk3
            generalize betF L H fl b = bt at *
            clear hbk' hbk3 hbr9
            have k6' := k6.cell
            cases bt with
            | true =>
              have hbk2 : Hid (bestL C L H len (k + 1) = some fl) := Lib.hid (by rw [hbk4.out]; rfl)
              clear hbk4
              go_wp2_with fail
              refine HB2.out.mono ?_
              rintro e w7 ⟨rfl, hb7⟩
              go_wp2_with fail
              go_roundw
              case rel => exact ⟨k + 1, some fl, by omega, by go_num, hbk2, hBn.on hb7, hB6.trans (hb7.mono hB6.size)⟩
              case measure => simp [intOf]; omega
            | false =>
              have hbk2 : Hid (bestL C L H len (k + 1) = some b) := Lib.hid (by rw [hbk4.out]; rfl)
              clear hbk4
              go_wp2_with fail
              refine HB2.out.mono ?_
              rintro e w7 ⟨rfl, hb7⟩
              go_wp2_with fail
              go_roundw
              case rel => exact ⟨k + 1, some b, by omega, by go_num, hbk2, BI6.on hb7, hB6.trans (hb7.mono hB6.size)⟩
              case measure => simp [intOf]; omega
end Go.Proofs.Ytmpakobfedgdbaa
namespace Go.Pol
open Go
def freeL (C L : List Sp) (H T : List Int) : List Nat := (List.range 1024).filter (freeP C L H T)
theorem filter_cnt (f : Int → Bool) : ∀ k : Nat, (((List.range k).filter fun (p : Nat) => f (p : Int)).length : Int) = cntN f k 0
  | 0 => rfl
  | k + 1 => by
    rw [List.range_succ, List.filter_append, List.length_append, cntN_snoc, ← filter_cnt f k, Int.zero_add]
    cases h : f (k : Int) <;> simp [h]
theorem cnt_blocks (f : Int → Bool) : ∀ k : Nat, cntN f (16 * k) 0 = ((List.range k).map fun (g : Nat) => cntN f 16 (16 * (g : Int))).sum
  | 0 => rfl
  | k + 1 => by
    rw [show 16 * (k + 1) = 16 * k + 16 by omega, cntN_split, cnt_blocks f k, List.range_succ, List.map_append, List.sum_append]
    have e : (0 : Int) + ((16 * k : Nat) : Int) = 16 * (k : Int) := by omega
    rw [e]; simp
theorem sum_if (f : Int → Int) (p : Int → Bool) : ∀ l : List Int, (l.map fun g => if p g = true then f g else 0).sum = sumF f (l.filter p)
  | [] => rfl
  | a :: r => by
    rw [List.map_cons, List.sum_cons, sum_if f p r, List.filter_cons]
    cases h : p a with
    | true => rw [if_pos rfl, if_pos rfl, sumF_cons]
    | false => rw [if_neg (by simp), if_neg (by simp)]; omega
def freeI (C L : List Sp) (H T : List Int) (q : Int) : Bool := mem q C && !mem q L && !(decide (q / 16 ∈ H) && !decide (q / 16 ∈ T))
theorem group_cnt {C L : List Sp} (hL : Can L) (hs : subF L C = true) (H T : List Int) (g : Int) :
    cntN (freeI C L H T) 16 (16 * g) = if (decide (g ∈ H) && !decide (g ∈ T)) = true then 0 else grpF C g - grpF L g := by
  by_cases hb : (decide (g ∈ H) && !decide (g ∈ T)) = true
  · rw [if_pos hb]
    refine cntN_none _ _ fun q h1 h2 => ?_
    unfold freeI
    rw [show q / 16 = g by omega, hb]; simp
  · rw [if_neg hb]
    have e1 : cntN (freeI C L H T) 16 (16 * g) = cntN (fun q => mem q C && !mem q L) 16 (16 * g) := cntN_congr _ _ fun q h1 h2 => by
      unfold freeI
      rw [show q / 16 = g by omega]
      simp only [Bool.not_eq_true] at hb
      rw [hb]; simp
    have hsub : ∀ q, mem q L = true → mem q C = true := fun q h => (subF_iff hL).1 hs q (mem_pagesOf.2 h)
    have e2 : grpF C g = grpF L g + cntN (fun q => mem q C && !mem q L) 16 (16 * g) := by
      unfold grpF cntF
      show cntN (fun q => mem q C) 16 (16 * g) = cntN (fun q => mem q L) 16 (16 * g) + _
      rw [← cntN_or]
      · refine cntN_congr _ _ fun q _ _ => ?_
        cases h1 : mem q L with
        | true => rw [hsub q h1]; rfl
        | false => simp
      · intro q h1 h2
        simp [h1] at h2
    omega
theorem haveF_sum (C L : List Sp) (H : List Int) : haveF (gsH C L H) = (grps.map fun g => if decide (g ∈ H) = true then 0 else grpF C g - grpF L g).sum := by
  rw [haveF, gsH_map, List.map_map]; rfl
theorem freeP_cnt (C L : List Sp) (H T : List Int) (k : Nat) : (((List.range k).filter (freeP C L H T)).length : Int) = cntN (freeI C L H T) k 0 := filter_cnt (freeI C L H T) k
theorem free_len {C L : List Sp} {H T : List Int} (h : chkH C L H = 0) (hT : T.Nodup) (hTH : ∀ g ∈ T, g ∈ H) :
    ((freeL C L H T).length : Int) = haveF (gsH C L H) + sumF (fun g => 16 - grpF L g) T := by
  obtain ⟨_, canL, hin, hsub, hok⟩ := chkH_zero.1 h
  have e1 : ((freeL C L H T).length : Int) = cntN (freeI C L H T) 1024 0 := freeP_cnt C L H T 1024
  have e2 := cnt_blocks (freeI C L H T) 64
  rw [e1, show (1024 : Nat) = 16 * 64 from rfl, e2, haveF_sum]
  have e3 : ((List.range 64).map fun (g : Nat) => cntN (freeI C L H T) 16 (16 * (g : Int))) = grps.map fun g => cntN (freeI C L H T) 16 (16 * g) := by
    unfold grps; rw [List.map_map]; rfl
  rw [e3]
  have hT2 : (grps.filter fun g => decide (g ∈ T)).Perm T := perm_of_mem ((grps_lt.imp (fun h => by omega)).filter _) hT fun x => by
    rw [List.mem_filter, decide_eq_true_eq]
    exact ⟨fun h => h.2, fun hx => ⟨mem_grps.2 (inG_iff.1 (hin x (hTH x hx))), hx⟩⟩
  rw [← sumF_perm hT2, ← sum_if]
  have hg : ∀ l : List Int, (l.map fun g => cntN (freeI C L H T) 16 (16 * g)).sum = (l.map fun g => if decide (g ∈ H) = true then 0 else grpF C g - grpF L g).sum + (l.map fun g => if decide (g ∈ T) = true then 16 - grpF L g else 0).sum := by
    intro l
    induction l with
    | nil => rfl
    | cons g r ih =>
      rw [List.map_cons, List.map_cons, List.map_cons, List.sum_cons, List.sum_cons, List.sum_cons, ih, group_cnt canL hsub]
      by_cases h1 : g ∈ H
      · have h16 := (hugOk_mem hok g h1).2
        by_cases h2 : g ∈ T
        · simp only [h1, h2, decide_true, Bool.not_true, Bool.and_false, Bool.false_eq_true, if_false, if_true, h16]; omega
        · simp only [h1, h2, decide_true, decide_false, Bool.not_false, Bool.and_true, if_true, Bool.false_eq_true, if_false]; omega
      · have h2 : g ∉ T := fun h => h1 (hTH g h)
        simp only [h1, h2, decide_false, Bool.false_and, Bool.false_eq_true, if_false]; omega
  exact hg grps
end Go.Pol
namespace Go.Pol
open Go
def castL (l : List Nat) : List Int := l.map fun (p : Nat) => (p : Int)
theorem mem_castL {l : List Nat} {x : Int} : x ∈ castL l ↔ ∃ p ∈ l, (p : Int) = x := by simp [castL]
theorem castL_len (l : List Nat) : (castL l).length = l.length := by simp [castL]
/-- the huge groups that have a page of a list -/
def touI (H : List Int) (l : List Nat) : List Int := H.filter fun g => l.any fun p => decide ((p : Int) / 16 = g)
theorem mem_touI {H : List Int} {l : List Nat} {g : Int} : g ∈ touI H l ↔ g ∈ H ∧ ∃ p ∈ l, (p : Int) / 16 = g := by
  unfold touI
  rw [List.mem_filter, List.any_eq_true]; simp
theorem touch_touI (H : List Int) (l : List Nat) (hl : ∀ p ∈ l, p < 1024) : touchF (setA (inL (castL l))) H = touI H l := by
  unfold touchF touI
  refine List.filter_congr fun g _ => ?_
  rw [Bool.eq_iff_iff, decide_eq_true_eq, touch_iff (setA_can _), List.any_eq_true]
  constructor
  · rintro ⟨p, hp, e⟩
    obtain ⟨h1, h2⟩ := (mem_setA _ _).1 (mem_pagesOf.1 hp)
    simp only [inL, decide_eq_true_eq, mem_castL] at h2
    obtain ⟨q, hq, e2⟩ := h2
    exact ⟨q, hq, by rw [decide_eq_true_eq]; omega⟩
  · rintro ⟨p, hp, e⟩
    rw [decide_eq_true_eq] at e
    refine ⟨(p : Int), mem_pagesOf.2 ((mem_setA _ _).2 ⟨by have := hl p hp; omega, ?_⟩), e⟩
    simp only [inL, decide_eq_true_eq, mem_castL]
    exact ⟨p, hp, by omega⟩
/-- the list with a page in the first group where both differ comes first -/
theorem lex_first (a b : Nat → Bool) (lo hi : Nat) : ∀ (k s n : Nat), (∀ p, s ≤ p → p < lo → a p = b p) → (∀ p, lo ≤ p → p < hi → b p = false) →
    (∃ q ∈ ((List.range' s k).filter a).take n, lo ≤ q ∧ q < hi) → (((List.range' s k).filter b).take n).length = (((List.range' s k).filter a).take n).length →
    lexF (castL (((List.range' s k).filter a).take n)) (castL (((List.range' s k).filter b).take n)) = true
  | 0, s, n, _, _, ⟨q, hq, _⟩, _ => by simp at hq
  | k + 1, s, n, h1, h2, ⟨q, hq, hq1, hq2⟩, hlen => by
    cases n with
    | zero => simp at hq
    | succ n =>
      rw [List.range'_succ, List.filter_cons, List.filter_cons] at *
      have hqs : s ≤ q := by
        have hm := List.mem_of_mem_take hq
        split at hm
        · rcases List.mem_cons.1 hm with rfl | hm
          · exact Nat.le_refl _
          · have := (List.mem_range'_1.1 (List.mem_filter.1 hm).1).1; omega
        · have := (List.mem_range'_1.1 (List.mem_filter.1 hm).1).1; omega
      by_cases hs : s < lo
      · have hab := h1 s (Nat.le_refl _) hs
        rw [← hab] at hlen ⊢
        cases ha : a s with
        | true =>
          simp only [ha, ↓reduceIte, List.take_succ_cons] at hq hlen ⊢
          have ih := lex_first a b lo hi k (s + 1) n (fun p x y => h1 p (by omega) y) h2 ⟨q, (List.mem_cons.1 hq).resolve_left (by omega), hq1, hq2⟩ (by simpa using hlen)
          show lexF ((s : Int) :: castL _) ((s : Int) :: castL _) = true
          rw [lexF, if_neg (by simp)]; exact ih
        | false =>
          simp only [ha, Bool.false_eq_true, ↓reduceIte] at hq hlen ⊢
          exact lex_first a b lo hi k (s + 1) (n + 1) (fun p x y => h1 p (by omega) y) h2 ⟨q, hq, hq1, hq2⟩ hlen
      · have hb := h2 s (by omega) (by omega)
        cases ha : a s with
        | true =>
          simp only [ha, hb, Bool.false_eq_true, ↓reduceIte, List.take_succ_cons] at hlen ⊢
          cases hB : ((List.range' (s + 1) k).filter b).take (n + 1) with
          | nil => rw [hB] at hlen; simp at hlen
          | cons y r =>
            have hy : y ∈ ((List.range' (s + 1) k).filter b).take (n + 1) := by rw [hB]; simp
            have hys := (List.mem_range'_1.1 (List.mem_filter.1 (List.mem_of_mem_take hy)).1).1
            show lexF ((s : Int) :: castL _) ((y : Int) :: castL _) = true
            rw [lexF, if_pos (by simp; omega), decide_eq_true_eq]; omega
        | false =>
          simp only [ha, hb, Bool.false_eq_true, ↓reduceIte] at hq hlen ⊢
          exact lex_first a b lo hi k (s + 1) (n + 1) (fun p x y => h1 p (by omega) y) h2 ⟨q, hq, hq1, hq2⟩ hlen
theorem lexF_asymm : ∀ (a b : List Int), lexF a b = true → lexF b a = false
  | [], _, h => by simp [lexF] at h
  | _ :: _, [], h => by simp [lexF] at h
  | x :: a, y :: b, h => by
    rw [lexF] at h ⊢
    by_cases e : x = y
    · subst e
      rw [if_neg (by simp)] at h ⊢
      exact lexF_asymm a b h
    · rw [if_pos (by simpa using e), decide_eq_true_eq] at h
      rw [if_pos (by simpa using fun h => e h.symm), decide_eq_false_iff_not]
      omega
theorem lexF_irrefl : ∀ (a : List Int), lexF a a = false
  | [] => rfl
  | x :: a => by rw [lexF, if_neg (by simp)]; exact lexF_irrefl a
theorem betF_asymm {L : List Sp} {H a b : List Int} (h : betF L H a b = true) : betF L H b a = false := by
  unfold betF at h ⊢
  by_cases h1 : numT H a = numT H b
  · rw [h1, if_neg (by simp)] at h
    rw [h1, if_neg (by simp)]
    by_cases h2 : livT L H a = livT L H b
    · rw [h2, if_neg (by simp)] at h
      rw [h2, if_neg (by simp)]
      exact lexF_asymm _ _ h
    · rw [if_pos (by simpa using h2), decide_eq_true_eq] at h
      rw [if_pos (by simpa using fun h => h2 h.symm), decide_eq_false_iff_not]; omega
  · rw [if_pos (by simpa using h1), decide_eq_true_eq] at h
    rw [if_pos (by simpa using fun h => h1 h.symm), decide_eq_false_iff_not]; omega
theorem betF_irrefl {L : List Sp} {H a : List Int} : betF L H a a = false := by
  unfold betF; simp [lexF_irrefl]
end Go.Pol
namespace Go.Pol
open Go
theorem freeP_iff {C L : List Sp} {H T : List Int} {p : Nat} : freeP C L H T p = true ↔ (mem (p : Int) C = true ∧ mem (p : Int) L = false) ∧ ((p : Int) / 16 ∈ H → (p : Int) / 16 ∈ T) := by
  unfold freeP
  by_cases h1 : (p : Int) / 16 ∈ H <;> by_cases h2 : (p : Int) / 16 ∈ T <;> simp [h1, h2]
theorem freeL_lt {C L : List Sp} {H T : List Int} {p : Nat} (h : p ∈ freeL C L H T) : p < 1024 := by
  have := (List.mem_filter.1 h).1
  simpa using this
theorem freeL_congr {C L : List Sp} {H T T' : List Int} (h : ∀ g ∈ H, g ∈ T ↔ g ∈ T') : freeL C L H T = freeL C L H T' := by
  unfold freeL
  refine List.filter_congr fun p _ => ?_
  rw [Bool.eq_iff_iff, freeP_iff, freeP_iff]
  constructor
  · rintro ⟨a, b⟩; exact ⟨a, fun x => (h _ x).1 (b x)⟩
  · rintro ⟨a, b⟩; exact ⟨a, fun x => (h _ x).2 (b x)⟩
theorem sumI_eq (f : Int → Int) : ∀ V : List Int, sumF (fun g => 16 - f g) V = 16 * (V.length : Int) - sumF f V
  | [] => rfl
  | a :: r => by rw [sumF_cons, sumF_cons, sumI_eq f r, List.length_cons]; omega
theorem cand_in {C L : List Sp} {H T : List Int} {n : Nat} {g : Int} (h : g ∈ touI H ((freeL C L H T).take n)) : g ∈ T := by
  obtain ⟨h1, p, hp, e⟩ := mem_touI.1 h
  have := (freeP_iff.1 (List.mem_filter.1 (List.mem_of_mem_take hp)).2).2
  rw [e] at this
  exact this h1
theorem cand_free {C L : List Sp} {H T : List Int} (n : Nat) : ∃ r, freeL C L H (touI H ((freeL C L H T).take n)) = (freeL C L H T).take n ++ r := by
  generalize hl : (freeL C L H T).take n = l
  refine ⟨((freeL C L H T).drop n).filter (freeP C L H (touI H l)), ?_⟩
  have e1 : freeL C L H (touI H l) = (freeL C L H T).filter (freeP C L H (touI H l)) := by
    unfold freeL
    rw [List.filter_filter]
    refine List.filter_congr fun p _ => ?_
    rw [Bool.eq_iff_iff, Bool.and_eq_true]
    constructor
    · intro h
      refine ⟨h, ?_⟩
      obtain ⟨a, b⟩ := freeP_iff.1 h
      exact freeP_iff.2 ⟨a, fun x => by have := b x; rw [← hl] at this; exact cand_in this⟩
    · exact fun h => h.1
  have hm : ∀ p ∈ l, freeP C L H (touI H l) p = true := fun p hp => by
    have hp' := hp
    rw [← hl] at hp'
    obtain ⟨a, _⟩ := freeP_iff.1 (List.mem_filter.1 (List.mem_of_mem_take hp')).2
    exact freeP_iff.2 ⟨a, fun x => mem_touI.2 ⟨x, p, hp, rfl⟩⟩
  rw [e1]
  generalize freeL C L H T = F at *
  have e2 : F = l ++ F.drop n := by rw [← hl, List.take_append_drop]
  have e3 := congrArg (List.filter (freeP C L H (touI H l))) e2
  rw [List.filter_append, List.filter_eq_self.2 hm] at e3
  exact e3
/-- the situation of a greedy choice -/
structure Gr (C L : List Sp) (H os : List Int) (nn m : Nat) : Prop where
  hz : chkH C L H = 0
  perm : os.Perm H
  ord : os.Pairwise (ltG (grpF L))
  ml : m ≤ os.length
  enough : (nn : Int) ≤ haveF (gsH C L H) + sumF (fun g => 16 - grpF L g) (os.take m)
  few : ∀ j, j < m → haveF (gsH C L H) + sumF (fun g => 16 - grpF L g) (os.take j) < nn
section
variable {C L : List Sp} {H os : List Int} {nn m : Nat}
theorem Gr.nodupH (h : Gr C L H os nn m) : H.Nodup := (hugOk_lt (chkH_zero.1 h.hz).2.2.2.2).imp (fun h => by omega)
theorem Gr.nodup (h : Gr C L H os nn m) : os.Nodup := ltG_nodup h.ord
theorem Gr.touN (h : Gr C L H os nn m) (l : List Nat) : (touI H l).Nodup := h.nodupH.filter _
theorem Gr.touH {l : List Nat} {g : Int} (hg : g ∈ touI H l) : g ∈ H := (mem_touI.1 hg).1
/-- a choice of so many pages touches at least m groups -/
theorem Gr.least (h : Gr C L H os nn m) {T : List Int} (hlen : ((freeL C L H T).take nn).length = nn) : m ≤ (touI H ((freeL C L H T).take nn)).length := by
  generalize hU : touI H ((freeL C L H T).take nn) = U
  have hUn : U.Nodup := by rw [← hU]; exact h.touN _
  have hUH : ∀ g ∈ U, g ∈ H := fun g hg => by rw [← hU] at hg; exact Gr.touH hg
  obtain ⟨r, hr⟩ := cand_free (C := C) (L := L) (H := H) (T := T) nn
  have h1 : nn ≤ (freeL C L H U).length := by rw [← hU, hr, List.length_append, hlen]; omega
  have h2 := free_len h.hz hUn hUH
  have hmin := set_min (ltG_le h.ord) h.nodup hUn (fun x hx => (h.perm.mem_iff).2 (hUH x hx))
  rw [sumI_eq] at h2
  apply Nat.le_of_not_lt
  intro hlt
  have h3 := h.few U.length hlt
  rw [sumI_eq, List.length_take, Nat.min_eq_left (by have := h.ml; omega)] at h3
  omega
/-- the greedy choice -/
theorem Gr.len (h : Gr C L H os nn m) : ((freeL C L H (os.take m)).take nn).length = nn := by
  rw [List.length_take]
  have := free_len h.hz (h.nodup.sublist (List.take_sublist m os)) (fun g hg => h.perm.mem_iff.1 (List.mem_of_mem_take hg))
  have := h.enough
  omega
theorem Gr.touched (h : Gr C L H os nn m) : (touI H ((freeL C L H (os.take m)).take nn)).Perm (os.take m) := by
  have h1 := h.least h.len
  generalize hU : touI H ((freeL C L H (os.take m)).take nn) = U at *
  have hUn : U.Nodup := by rw [← hU]; exact h.touN _
  have hsub : ∀ g ∈ U, g ∈ os.take m := fun g hg => by rw [← hU] at hg; exact cand_in hg
  have hTn : (os.take m).Nodup := h.nodup.sublist (List.take_sublist m os)
  have hlen : (os.take m).length = m := by rw [List.length_take]; have := h.ml; omega
  have hq : ((os.take m).filter fun x => decide (x ∈ U)).Perm U := perm_of_mem (hTn.filter _) hUn fun x => by
    rw [List.mem_filter, decide_eq_true_eq]
    exact ⟨fun h => h.2, fun h => ⟨hsub x h, h⟩⟩
  have hl2 := hq.length_eq
  have hsl : ((os.take m).filter fun x => decide (x ∈ U)).Sublist (os.take m) := List.filter_sublist
  have := hsl.eq_of_length (by have := hsl.length_le; omega)
  rw [this] at hq
  exact hq.symm
theorem exists_min : ∀ (l : List Int), l ≠ [] → ∃ g ∈ l, ∀ y ∈ l, g ≤ y
  | [], h => absurd rfl h
  | [a], _ => ⟨a, by simp, by simp⟩
  | a :: b :: r, _ => by
    obtain ⟨g, hg, hm⟩ := exists_min (b :: r) (by simp)
    by_cases h : a ≤ g
    · exact ⟨a, by simp, fun y hy => by
        rcases List.mem_cons.1 hy with rfl | hy
        · exact Int.le_refl _
        · have := hm y hy; omega⟩
    · exact ⟨g, List.mem_cons_of_mem _ hg, fun y hy => by
        rcases List.mem_cons.1 hy with rfl | hy
        · omega
        · exact hm y hy⟩
theorem bet_eq (L : List Sp) (H : List Int) {l l' : List Nat} (h : ∀ p ∈ l, p < 1024) (h' : ∀ p ∈ l', p < 1024) : betF L H (castL l) (castL l') =
    if (((touI H l).length : Int) != ((touI H l').length : Int)) = true then decide (((touI H l).length : Int) < ((touI H l').length : Int)) else
    if (sumF (grpF L) (touI H l) != sumF (grpF L) (touI H l')) = true then decide (sumF (grpF L) (touI H l) < sumF (grpF L) (touI H l')) else lexF (castL l) (castL l') := by
  unfold betF numT livT
  rw [touch_touI H l h, touch_touI H l' h']
  rfl
theorem Gr.best (h : Gr C L H os nn m) {T : List Int} (hlen : ((freeL C L H T).take nn).length = nn) :
    (freeL C L H T).take nn = (freeL C L H (os.take m)).take nn ∨ betF L H (castL ((freeL C L H (os.take m)).take nn)) (castL ((freeL C L H T).take nn)) = true := by
  have hge := h.least hlen
  have hperm := h.touched
  obtain ⟨r, hr⟩ := cand_free (C := C) (L := L) (H := H) (T := T) nn
  have hls : ∀ p ∈ (freeL C L H (os.take m)).take nn, p < 1024 := fun p hp => freeL_lt (List.mem_of_mem_take hp)
  have hll : ∀ p ∈ (freeL C L H T).take nn, p < 1024 := fun p hp => freeL_lt (List.mem_of_mem_take hp)
  rw [bet_eq L H hls hll, hperm.length_eq, sumF_perm hperm]
  have hlen2 := h.len
  have hUn := h.touN ((freeL C L H T).take nn)
  have hUH : ∀ g ∈ touI H ((freeL C L H T).take nn), g ∈ H := fun g hg => Gr.touH hg
  have hmst : ∀ g, g ∈ os.take m → ∃ p ∈ (freeL C L H (os.take m)).take nn, (p : Int) / 16 = g := fun g hg => (mem_touI.1 (hperm.mem_iff.2 hg)).2
  have hTl : (os.take m).length = m := by rw [List.length_take]; have := h.ml; omega
  rw [hTl]
  generalize hU : touI H ((freeL C L H T).take nn) = U at *
  have htk : (freeL C L H U).take nn = (freeL C L H T).take nn := by
    rw [hr, List.take_append_of_le_length (by omega), List.take_of_length_le (by omega)]
  by_cases hm : U.length = m
  case neg =>
    right
    rw [if_pos (by simp; omega), decide_eq_true_eq]; omega
  case pos =>
    rw [if_neg (by simp [hm])]
    have hUo : ∀ x ∈ U, x ∈ os := fun x hx => h.perm.mem_iff.2 (hUH x hx)
    have hmin := set_min (ltG_le h.ord) h.nodup hUn hUo
    rw [hm] at hmin
    by_cases he : sumF (grpF L) (os.take m) = sumF (grpF L) U
    case neg =>
      right
      rw [if_pos (by simpa using he), decide_eq_true_eq]; omega
    case pos =>
      rw [if_neg (by simp [he])]
      have hTn : (os.take m).Nodup := h.nodup.sublist (List.take_sublist m os)
      by_cases hD : (os.take m).filter (fun y => !decide (y ∈ U)) = []
      · left
        rw [← htk]
        have hsub : ∀ y ∈ os.take m, y ∈ U := fun y hy => by
          by_cases hyu : y ∈ U
          · exact hyu
          · have : y ∈ (os.take m).filter (fun y => !decide (y ∈ U)) := List.mem_filter.2 ⟨hy, by simp [hyu]⟩
            rw [hD] at this; cases this
        have hq : (U.filter fun x => decide (x ∈ os.take m)).Perm (os.take m) := perm_of_mem (hUn.filter _) hTn fun x => by
          rw [List.mem_filter, decide_eq_true_eq]
          exact ⟨fun h => h.2, fun h => ⟨hsub x h, h⟩⟩
        have hsl : (U.filter fun x => decide (x ∈ os.take m)).Sublist U := List.filter_sublist
        have heq := hsl.eq_of_length (by have := hq.length_eq; omega)
        rw [heq] at hq
        rw [freeL_congr (T := U) (T' := os.take m) (fun g _ => hq.mem_iff)]
      · right
        obtain ⟨g, hg, hgm⟩ := exists_min _ hD
        obtain ⟨hg1, hg2⟩ := List.mem_filter.1 hg
        have hg3 : g ∉ U := by simpa using hg2
        have hgH : g ∈ H := h.perm.mem_iff.1 (List.mem_of_mem_take hg1)
        have hgr := inG_iff.1 ((chkH_zero.1 h.hz).2.2.1 g hgH)
        obtain ⟨gn, rfl⟩ : ∃ gn : Nat, g = (gn : Int) := ⟨g.toNat, by omega⟩
        have hsame : ∀ x : Int, x < gn → (x ∈ os.take m ↔ x ∈ U) := fun x hx => by
          constructor
          · intro hxt
            by_cases hxu : x ∈ U
            · exact hxu
            · have := hgm x (List.mem_filter.2 ⟨hxt, by simp [hxu]⟩); omega
          · intro hxu
            by_cases hxt : x ∈ os.take m
            · exact hxt
            · have := tie_min h.ord hUn hUo (by rw [hm]; exact he.symm) hxu (by rw [hm]; exact hxt) (by rw [hm]; exact hg1) hg3
              omega
        rw [← htk]
        have hr2 : List.range 1024 = List.range' 0 1024 := List.range_eq_range'
        have hlu : ((freeL C L H U).take nn).length = ((freeL C L H (os.take m)).take nn).length := by rw [htk, hlen, hlen2]
        have hq3 := hmst _ hg1
        unfold freeL at hlu hq3 ⊢
        rw [hr2] at hlu hq3 ⊢
        refine lex_first _ _ (16 * gn) (16 * gn + 16) 1024 0 nn (fun p _ hp => ?_) (fun p hp1 hp2 => ?_) ?_ hlu
        · rw [Bool.eq_iff_iff, freeP_iff, freeP_iff]
          have := hsame ((p : Int) / 16) (by omega)
          constructor
          · rintro ⟨a, b⟩; exact ⟨a, fun x => this.1 (b x)⟩
          · rintro ⟨a, b⟩; exact ⟨a, fun x => this.2 (b x)⟩
        · cases hf : freeP C L H U p with
          | false => rfl
          | true =>
            have := (freeP_iff.1 hf).2
            rw [show (p : Int) / 16 = (gn : Int) by omega] at this
            exact absurd (this hgH) hg3
        · obtain ⟨p, hp, e⟩ := hq3
          exact ⟨p, hp, by omega, by omega⟩
end
end Go.Pol
namespace Go.Pol
open Go
/-- the huge groups of a set of bits -/
def tSet (H : List Int) (set : Nat) : List Int := H.filter fun g => (List.range H.length).any fun k => (H.getD k 0 == g) && !(set / 2 ^ k % 2 == 0)
theorem nodup_idx {H : List Int} (h : H.Nodup) {i j : Nat} (hi : i < H.length) (hj : j < H.length) (e : H.getD i 0 = H.getD j 0) : i = j := by
  rw [List.getD_eq_getElem?_getD, List.getD_eq_getElem?_getD, List.getElem?_eq_getElem hi, List.getElem?_eq_getElem hj] at e
  simp only [Option.getD_some] at e
  exact (List.getElem_inj h).1 e
theorem mem_idx {H : List Int} {g : Int} (h : g ∈ H) : ∃ k, k < H.length ∧ H.getD k 0 = g := by
  obtain ⟨k, hk, e⟩ := List.getElem_of_mem h
  exact ⟨k, hk, by rw [List.getD_eq_getElem?_getD, List.getElem?_eq_getElem hk]; simpa using e⟩
theorem mem_tSet {H : List Int} (hn : H.Nodup) {set k : Nat} (hk : k < H.length) : H.getD k 0 ∈ tSet H set ↔ (set / 2 ^ k % 2 == 0) = false := by
  unfold tSet
  rw [List.mem_filter, List.any_eq_true]
  constructor
  · rintro ⟨_, j, hj, e⟩
    rw [List.mem_range] at hj
    rw [Bool.and_eq_true, beq_iff_eq] at e
    have := nodup_idx hn hj hk e.1
    subst this
    simpa using e.2
  · intro h
    refine ⟨?_, k, List.mem_range.2 hk, by rw [h]; simp⟩
    rw [List.getD_eq_getElem?_getD, List.getElem?_eq_getElem hk]; exact List.getElem_mem _
theorem blkd_iff {H : List Int} (hn : H.Nodup) (set : Nat) (p : Int) : blkd H set p H.length = true ↔ p / 16 ∈ H ∧ p / 16 ∉ tSet H set := by
  unfold blkd
  rw [List.any_eq_true]
  constructor
  · rintro ⟨k, hk, e⟩
    rw [List.mem_range] at hk
    rw [Bool.and_eq_true, beq_iff_eq] at e
    rw [e.1]
    refine ⟨by rw [List.getD_eq_getElem?_getD, List.getElem?_eq_getElem hk]; exact List.getElem_mem _, fun h => ?_⟩
    rw [(mem_tSet hn hk).1 h] at e
    exact absurd e.2 (by simp)
  · rintro ⟨h1, h2⟩
    obtain ⟨k, hk, e⟩ := mem_idx h1
    refine ⟨k, List.mem_range.2 hk, ?_⟩
    rw [Bool.and_eq_true, beq_iff_eq]
    refine ⟨e.symm, ?_⟩
    cases hb : (set / 2 ^ k % 2 == 0) with
    | true => rfl
    | false => exact absurd (by rw [← e]; exact (mem_tSet hn hk).2 hb) h2
theorem firR_eq {C L : List Sp} {H : List Int} (hC : Can C) (hL : Can L) (hn : H.Nodup) (set nn : Nat) : firR H set nn (idleP C L) = castL ((freeL C L H (tSet H set)).take nn) := by
  obtain ⟨h1, h2⟩ := idle_can hC hL
  have he : (idleP C L).filter (fun p => !blkd H set p H.length) = castL (freeL C L H (tSet H set)) := by
    refine asc_eq ((pages_lt h2).filter _) ?_ fun x => ?_
    · unfold castL freeL
      rw [List.pairwise_map]
      exact ((List.pairwise_lt_range (n := 1024)).imp (fun h => by omega)).filter _
    · rw [List.mem_filter, mem_castL]
      unfold idleP
      rw [mem_pagesOf]
      have hm : mem x (combF 3 C L) = true ↔ (0 ≤ x ∧ x < 1024) ∧ mem x C = true ∧ mem x L = false := by
        unfold combF
        rw [if_pos h1, mem_setA]
        unfold combG
        rw [if_neg (by decide), if_neg (by decide)]
        constructor
        · rintro ⟨a, b⟩
          rw [show ((x.toNat : Nat) : Int) = x by omega] at b
          exact ⟨a, by simpa using b⟩
        · rintro ⟨a, b⟩
          refine ⟨a, ?_⟩
          rw [show ((x.toNat : Nat) : Int) = x by omega]
          simpa using b
      rw [hm]
      constructor
      · rintro ⟨⟨a, b⟩, c⟩
        refine ⟨x.toNat, List.mem_filter.2 ⟨List.mem_range.2 (by omega), freeP_iff.2 ?_⟩, by omega⟩
        rw [show ((x.toNat : Nat) : Int) = x by omega]
        refine ⟨b, fun hx => ?_⟩
        by_cases ht : x / 16 ∈ tSet H set
        · exact ht
        · rw [(blkd_iff hn set x).2 ⟨hx, ht⟩] at c; simp at c
      · rintro ⟨p, hp, rfl⟩
        obtain ⟨a, b⟩ := freeP_iff.1 (List.mem_filter.1 hp).2
        refine ⟨⟨by have := freeL_lt hp; omega, a⟩, ?_⟩
        cases hb : blkd H set (p : Int) H.length with
        | false => rfl
        | true => obtain ⟨c, d⟩ := (blkd_iff hn set p).1 hb; exact absurd (b c) d
  unfold firR
  rw [he]
  unfold castL
  rw [List.map_take]
theorem bits_ex (f : Nat → Bool) : ∀ n : Nat, ∃ s, s < 2 ^ n ∧ ∀ k, k < n → (s / 2 ^ k % 2 == 0) = !f k
  | 0 => ⟨0, by simp, by omega⟩
  | n + 1 => by
    obtain ⟨s, hs, hk⟩ := bits_ex f n
    refine ⟨s + (if f n = true then 2 ^ n else 0), by rw [Nat.pow_succ]; split <;> omega, fun k hkn => ?_⟩
    by_cases hk2 : k < n
    · rw [← hk k hk2]
      split
      · obtain ⟨d, rfl⟩ : ∃ d, n = k + 1 + d := ⟨n - (k + 1), by omega⟩
        have e : s + 2 ^ (k + 1 + d) = s + 2 ^ k * (2 * 2 ^ d) := by
          rw [Nat.pow_add, Nat.pow_succ, Nat.mul_assoc]
        rw [e, Nat.add_mul_div_left _ _ (Nat.pow_pos (by decide)), Nat.add_mul_mod_self_left]
      · rw [Nat.add_zero]
    · obtain rfl : k = n := by omega
      split
      · rename_i h
        rw [h, Nat.add_div_right _ (Nat.pow_pos (by decide)), Nat.div_eq_of_lt hs]; rfl
      · rename_i h
        rw [Nat.add_zero, Nat.div_eq_of_lt hs]; simp at h; simp [h]
theorem set_ex {H T : List Int} (hn : H.Nodup) : ∃ s, s < 2 ^ H.length ∧ ∀ g ∈ H, g ∈ tSet H s ↔ g ∈ T := by
  obtain ⟨s, hs, hk⟩ := bits_ex (fun k => decide (H.getD k 0 ∈ T)) H.length
  refine ⟨s, hs, fun g hg => ?_⟩
  obtain ⟨k, hkl, rfl⟩ := mem_idx hg
  rw [mem_tSet hn hkl, hk k hkl]; simp
/-- the loop over all sets -/
theorem best_some (L : List Sp) (H I : List Int) (nn : Nat) (b : List Int) (hb : b.length = nn)
    (h1 : ∀ s, (firR H s nn I).length = nn → firR H s nn I = b ∨ betF L H b (firR H s nn I) = true) : ∀ k : Nat,
    (∀ l, (List.range k).foldl (stepBst L H I nn) none = some l → l.length = nn ∧ ∃ s, firR H s nn I = l) ∧
    ((∃ s, s < k ∧ firR H s nn I = b) → (List.range k).foldl (stepBst L H I nn) none = some b)
  | 0 => ⟨fun l h => by simp at h, fun ⟨s, h, _⟩ => by omega⟩
  | k + 1 => by
    obtain ⟨i1, i2⟩ := best_some L H I nn b hb h1 k
    rw [List.range_succ, List.foldl_append, List.foldl_cons, List.foldl_nil]
    generalize (List.range k).foldl (stepBst L H I nn) none = c at *
    unfold stepBst
    by_cases hl : (firR H k nn I).length = nn
    · cases c with
      | none =>
        rw [if_pos (by simp [hl])]
        refine ⟨fun l h => by cases h; exact ⟨hl, k, rfl⟩, fun ⟨s, hs, e⟩ => ?_⟩
        by_cases hsk : s < k
        · exact absurd (i2 ⟨s, hsk, e⟩) (by simp)
        · obtain rfl : s = k := by omega
          rw [e]
      | some d =>
        obtain ⟨hd, sd, hsd⟩ := i1 d rfl
        cases hbt : betF L H (firR H k nn I) d with
        | true =>
          rw [if_pos (by simp [hl, hbt])]
          refine ⟨fun l h => by cases h; exact ⟨hl, k, rfl⟩, fun ⟨s, hs, e⟩ => ?_⟩
          by_cases hsk : s < k
          · have := i2 ⟨s, hsk, e⟩
            cases this
            rcases h1 k hl with h | h
            · rw [h]
            · rw [betF_asymm h] at hbt; cases hbt
          · obtain rfl : s = k := by omega
            rw [e]
        | false =>
          rw [if_neg (by simp [hbt])]
          refine ⟨i1, fun ⟨s, hs, e⟩ => ?_⟩
          by_cases hsk : s < k
          · exact i2 ⟨s, hsk, e⟩
          · obtain rfl : s = k := by omega
            rw [e] at hbt
            rcases h1 sd (by rw [hsd]; exact hd) with h | h
            · rw [← hsd, h]
            · rw [hsd] at h; rw [h] at hbt; cases hbt
    · rw [if_neg (by simp [hl])]
      refine ⟨i1, fun ⟨s, hs, e⟩ => ?_⟩
      by_cases hsk : s < k
      · exact i2 ⟨s, hsk, e⟩
      · obtain rfl : s = k := by omega
        exact absurd (by rw [e]; exact hb) hl
theorem best_none (L : List Sp) (H I : List Int) (nn : Nat) (h : ∀ s, (firR H s nn I).length ≠ nn) : ∀ k : Nat, (List.range k).foldl (stepBst L H I nn) none = none
  | 0 => rfl
  | k + 1 => by
    rw [List.range_succ, List.foldl_append, best_none L H I nn h k, List.foldl_cons, List.foldl_nil]
    unfold stepBst
    rw [if_neg (by simp [h k])]
end Go.Pol
namespace Go.Pol
open Go
theorem cutH_spec (n : Int) : ∀ (h : Int) (l : List Gp), ∃ m, m ≤ l.length ∧ cutH n h l = l.take m ∧ (∀ j, j < m → h + idleG (l.take j) < n) ∧ (n ≤ h + idleG (l.take m) ∨ m = l.length)
  | h, [] => ⟨0, by simp, rfl, by omega, .inr rfl⟩
  | h, g :: r => by
    by_cases hc : n ≤ h
    · exact ⟨0, by simp, by rw [cutH, if_pos hc]; rfl, by omega, .inl (by simpa [idleG] using hc)⟩
    · obtain ⟨m, h1, h2, h3, h4⟩ := cutH_spec n (h + (16 - g.2.2.1)) r
      have e : ∀ j, idleG ((g :: r).take (j + 1)) = (16 - g.2.2.1) + idleG (r.take j) := fun j => by simp [idleG]
      refine ⟨m + 1, by simp; omega, by rw [cutH, if_neg hc, h2, List.take_succ_cons], fun j hj => ?_, ?_⟩
      · cases j with
        | zero => simp [idleG]; omega
        | succ j => rw [e j]; have := h3 j (by omega); omega
      · rw [e m]
        rcases h4 with h4 | h4
        · left; omega
        · right; simp [h4]
theorem sub_le {f : Int → Int} (hf : ∀ x, 0 ≤ f x) {s os : List Int} (h : s.Sublist os) : sumF f s ≤ sumF f os := by
  induction h with
  | slnil => exact Int.le_refl _
  | cons a _ ih => rw [sumF_cons]; have := hf a; omega
  | cons_cons a _ ih => rw [sumF_cons, sumF_cons]; omega
theorem ones_setA (l : List Nat) : setOf (onesF l) = setA (inL (castL l)) := by
  unfold setOf
  congr 1
  funext k
  rw [Bool.eq_iff_iff]
  unfold mem inL onesF
  rw [List.any_eq_true, decide_eq_true_eq, mem_castL]
  constructor
  · rintro ⟨x, hx, h⟩
    obtain ⟨p, hp, rfl⟩ := List.mem_map.1 hx
    refine ⟨p, hp, ?_⟩
    simp only [Bool.and_eq_true, decide_eq_true_eq] at h
    omega
  · rintro ⟨p, hp, e⟩
    refine ⟨((p : Int), 1), List.mem_map.2 ⟨p, hp, rfl⟩, ?_⟩
    simp only [Bool.and_eq_true, decide_eq_true_eq]
    omega
/-- the order in which the program takes the huge groups -/
def OrdOk (C L : List Sp) (H : List Int) (ord : List Gp) : Prop := ord.Perm ((gsH C L H).filter hugeP) ∧ ord.Pairwise (fun a b => ltX b a = false)
theorem choose_law {C L : List Sp} {H : List Int} (n : Int) (ord : List Gp) (ho : chkH C L H = 0 → OrdOk C L H ord) : chooseA C L H n ord = rchooseA C L H n := by
  by_cases hz : chkH C L H = 0
  case neg => simp [chooseA, rchooseA, hz]
  by_cases hn : n < 0 ∨ 1024 < n
  case pos => simp [chooseA, rchooseA, hz, hn]
  obtain ⟨hp, hs⟩ := ho hz
  obtain ⟨canC, canL, hin, hsub, hok⟩ := chkH_zero.1 hz
  have hnH : H.Nodup := (hugOk_lt hok).imp (fun h => by omega)
  rw [gsH_huge hz] at hp
  obtain ⟨nn, rfl⟩ : ∃ nn : Nat, n = (nn : Int) := ⟨n.toNat, by omega⟩
  have hlive : ∀ x ∈ ord, x.2.2.1 = grpF L x.1 := fun x hx => by
    obtain ⟨g, _, rfl⟩ := List.mem_map.1 (hp.mem_iff.1 hx); rfl
  obtain ⟨os, hos⟩ : ∃ os, ord.map (·.1) = os := ⟨_, rfl⟩
  have hperm : os.Perm H := by
    have := hp.map (·.1)
    rw [List.map_map, hos] at this
    have e : H.map ((fun x : Gp => x.1) ∘ fun g => (g, grpF C g, grpF L g, true)) = H := by
      rw [show ((fun x : Gp => x.1) ∘ fun g => (g, grpF C g, grpF L g, true)) = id from rfl, List.map_id]
    rw [e] at this; exact this
  have hon : os.Nodup := hperm.nodup_iff.2 hnH
  have hord : os.Pairwise (ltG (grpF L)) := by
    rw [← hos, List.pairwise_map]
    have hne : ord.Pairwise (fun a b => a.1 ≠ b.1) := by
      have := hon
      rw [← hos] at this
      exact List.pairwise_map.1 this
    refine List.Pairwise.imp_of_mem ?_ (hs.and hne)
    intro a b ha hb h
    obtain ⟨h1, h2⟩ := h
    have la := hlive a ha
    have lb := hlive b hb
    simp only [ltX, Bool.or_eq_false_iff, Bool.and_eq_false_iff, decide_eq_false_iff_not] at h1
    unfold ltG
    rw [← la, ← lb]
    omega
  have hidle : ∀ j, idleG (ord.take j) = sumF (fun g => 16 - grpF L g) (os.take j) := fun j => by
    rw [← hos, ← List.map_take]
    unfold idleG sumF
    rw [List.map_map]
    exact congrArg List.sum (List.map_congr_left fun x hx => by
      show 16 - x.2.2.1 = 16 - grpF L x.1
      rw [hlive x (List.mem_of_mem_take hx)])
  obtain ⟨m, m1, m2, m3, m4⟩ := cutH_spec (nn : Int) (haveF (gsH C L H)) ord
  have hnum : numsF (cutH (nn : Int) (haveF (gsH C L H)) ord) = os.take m := by
    rw [m2, ← hos, ← List.map_take]; rfl
  have hol : os.length = ord.length := by rw [← hos, List.length_map]
  have hcA : chooseA C L H (nn : Int) ord = if haveF (gsH C L H) + sumF (fun g => 16 - grpF L g) (os.take m) < nn then ([], 4) else (setA (inL (castL ((freeL C L H (os.take m)).take nn))), 0) := by
    unfold chooseA
    rw [if_neg (by simp [hz]), if_neg hn, hnum, m2, hidle m, ones_setA]
    rfl
  have hcB : rchooseA C L H (nn : Int) = bestE (bestL C L H nn (2 ^ H.length)) := by
    unfold rchooseA
    rw [if_neg (by simp [hz]), if_neg hn]; rfl
  rw [hcA, hcB]
  have hfir := fun s => firR_eq canC canL hnH s nn
  have htH : ∀ s g, g ∈ tSet H s → g ∈ H := fun s g hg => (List.mem_filter.1 hg).1
  by_cases hlt : haveF (gsH C L H) + sumF (fun g => 16 - grpF L g) (os.take m) < nn
  · rw [if_pos hlt]
    have hm : m = os.length := by
      rcases m4 with h | h
      · rw [hidle m] at h; omega
      · rw [hol]; exact h
    rw [hm, List.take_length] at hlt
    have hnone : bestL C L H nn (2 ^ H.length) = none := by
      refine best_none L H (idleP C L) nn (fun s hlen => ?_) _
      rw [hfir s, castL_len, List.length_take] at hlen
      have h1 := free_len hz (T := tSet H s) (hnH.filter _) (htH s)
      have hq : (os.filter fun x => decide (x ∈ tSet H s)).Perm (tSet H s) := perm_of_mem (hon.filter _) (hnH.filter _) fun x => by
        rw [List.mem_filter, decide_eq_true_eq]
        exact ⟨fun h => h.2, fun h => ⟨hperm.mem_iff.2 (htH s x h), h⟩⟩
      have h2 := sub_le (f := fun g => 16 - grpF L g) (fun x => by have := grpF_bound L x; omega) (List.filter_sublist (l := os) (p := fun x => decide (x ∈ tSet H s)))
      rw [sumF_perm hq] at h2
      omega
    rw [hnone]; rfl
  · rw [if_neg hlt]
    have hG : Gr C L H os nn m := ⟨hz, hperm, hord, by omega, by omega, fun j hj => by rw [← hidle j]; exact m3 j hj⟩
    have hb := best_some L H (idleP C L) nn (castL ((freeL C L H (os.take m)).take nn)) (by rw [castL_len]; exact hG.len) (fun s hlen => by
      rw [hfir s] at hlen ⊢
      rw [castL_len] at hlen
      rcases hG.best (T := tSet H s) hlen with h | h
      · left; rw [h]
      · right; exact h) (2 ^ H.length)
    obtain ⟨s, hs1, hs2⟩ := set_ex (T := os.take m) hnH
    have := hb.2 ⟨s, hs1, by rw [hfir s, freeL_congr hs2]⟩
    unfold bestL
    rw [this]; rfl
theorem ord_ok {C L : List Sp} {H : List Int} : OrdOk C L H (Sort.insertionSort Go.Proofs.Ytmpakobfedgdbaa.ltL ((gsH C L H).filter hugeP).toArray 0 ((gsH C L H).filter hugeP).length).toList := by
  refine insSort_X _ (List.Pairwise.filter _ ?_)
  rw [gsH_map, List.pairwise_map]
  exact grps_lt
end Go.Pol
