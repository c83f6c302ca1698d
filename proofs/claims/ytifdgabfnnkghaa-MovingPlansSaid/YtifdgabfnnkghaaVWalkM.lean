/- Walks: the free places of a space (open, take, holds). -/
import Derived.Test.YtifdgabfnnkghaaVSpecB
import Derived.Test.YtifdgabfnnkghaaVWalkL
namespace Go.Pol
open Go Go.RowKit
/-- the cells of a room -/
structure RoomAre (cs : Array Value) (f : Nat → Nat → Bool) (mn : Nat → Int) : Prop where
  size : cs.size = 11275
  at_ : ∀ o i, o < 11 → i < 1024 → cs[o * 1024 + i]? = some (.bool (f o i))
  many : ∀ o, o < 11 → cs[11264 + o]? = some (.int .i64 (mn o))
theorem RoomAre.setF {cs : Array Value} {f : Nat → Nat → Bool} {mn : Nat → Int} (h : RoomAre cs f mn) {o i : Nat} (ho : o < 11) (hi : i < 1024) (b : Bool) :
    RoomAre (cs.setIfInBounds (o * 1024 + i) (.bool b)) (fun o' i' => if o' = o ∧ i' = i then b else f o' i') mn := by
  refine ⟨by simp [h.size], fun o' i' ho' hi' => ?_, fun o' ho' => ?_⟩
  · rw [Array.getElem?_setIfInBounds]
    by_cases e : o * 1024 + i = o' * 1024 + i'
    · obtain ⟨rfl, rfl⟩ : o' = o ∧ i' = i := by omega
      rw [if_pos rfl, if_pos (by rw [h.size]; omega)]
      simp
    · rw [if_neg e, h.at_ o' i' ho' hi']
      have : ¬ (o' = o ∧ i' = i) := fun h => e (by rw [h.1, h.2])
      simp [this]
  · rw [Array.getElem?_setIfInBounds, if_neg (by omega), h.many o' ho']
theorem RoomAre.setM {cs : Array Value} {f : Nat → Nat → Bool} {mn : Nat → Int} (h : RoomAre cs f mn) {o : Nat} (ho : o < 11) (v : Int) :
    RoomAre (cs.setIfInBounds (11264 + o) (.int .i64 v)) f (fun o' => if o' = o then v else mn o') := by
  refine ⟨by simp [h.size], fun o' i' ho' hi' => ?_, fun o' ho' => ?_⟩
  · rw [Array.getElem?_setIfInBounds, if_neg (by omega), h.at_ o' i' ho' hi']
  · rw [Array.getElem?_setIfInBounds]
    by_cases e : o = o'
    · subst e
      rw [if_pos rfl, if_pos (by rw [h.size]; omega)]
      simp
    · rw [if_neg (by omega), h.many o' ho']
      have : ¬ (o' = o) := fun h => e h.symm
      simp [this]
theorem RoomAre.ext {cs : Array Value} {f g : Nat → Nat → Bool} {mn mn' : Nat → Int} (h : RoomAre cs f mn) (hf : ∀ o i, o < 11 → i < 1024 → f o i = g o i) (hm : ∀ o, o < 11 → mn o = mn' o) : RoomAre cs g mn' :=
  ⟨h.size, fun o i ho hi => by rw [h.at_ o i ho hi, hf o i ho hi], fun o ho => by rw [h.many o ho, hm o ho]⟩
end Go.Pol
namespace Go.Proofs.Ytifdgabfnnkghaa
open Go Go.Proofs Go.RowKit Go.Pol Go.Shelf

theorem size11_any (o : Int) (w : World) (h : 0 ≤ o ∧ o ≤ 11) : Calls Try.prog 29 #[.int .i64 o] w fun e w' => e = .returned (.int .i64 (pw o)) ∧ w' = w := by
  by_cases h10 : o ≤ 10
  · exact size_any o w ⟨h.1, h10⟩
  · obtain rfl : o = 11 := by omega
    go_enter Try.func29, Try.ntmps29
    go_wp2_with fail
    go_ret
    exact ⟨rfl, rfl⟩
/-- strips 2^d values 'false' off a list -/
def strip : Nat → List Value → Option (List Value)
  | 0, .bool false :: r => some r
  | 0, _ => none
  | d + 1, l => match strip d l with
    | some r => strip d r
    | none => none
theorem strip_spec : ∀ (d : Nat) (l r : List Value), strip d l = some r → l = List.replicate (2 ^ d) (.bool false) ++ r
  | 0, l, r, h => by
    unfold strip at h
    split at h
    · cases h; rfl
    · cases h
    · rename_i h2 _ _; omega
  | d + 1, l, r, h => by
    rw [strip] at h
    split at h
    · rename_i r' h'
      have h1 := strip_spec d l r' h'
      have h2 := strip_spec d r' r h
      rw [h1, h2, ← List.append_assoc, List.replicate_append_replicate]
      rw [show 2 ^ d + 2 ^ d = 2 ^ (d + 1) by rw [Nat.pow_succ]; omega]
    · cases h
theorem zeroStrip : (((strip 13 Try.zeroCells97.toList).bind (strip 11)).bind (strip 10)) = some (List.replicate 11 (.int .i64 0)) := by kernel_rfl
theorem zeroRoom : RoomAre Try.zeroCells97 (fun _ _ => false) (fun _ => 0) := by
  have e : Try.zeroCells97.toList = List.replicate 11264 (.bool false) ++ List.replicate 11 (.int .i64 0) := by
    have h := zeroStrip
    simp only [Option.bind_eq_some_iff] at h
    obtain ⟨b, ⟨a, ha, hb⟩, hc⟩ := h
    rw [strip_spec _ _ _ ha, strip_spec _ _ _ hb, strip_spec _ _ _ hc, ← List.append_assoc, ← List.append_assoc, List.replicate_append_replicate, List.replicate_append_replicate]
  obtain ⟨zc, hzc⟩ : ∃ zc, Try.zeroCells97 = zc := ⟨_, rfl⟩
  rw [hzc] at e ⊢
  clear hzc
  refine ⟨by rw [← Array.length_toList, e]; simp only [List.length_append, List.length_replicate], fun o i ho hi => ?_, fun o ho => ?_⟩
  · rw [← Array.getElem?_toList, e, List.getElem?_append_left (by rw [List.length_replicate]; omega), List.getElem?_replicate, if_pos (by omega)]
  · rw [← Array.getElem?_toList, e, List.getElem?_append_right (by rw [List.length_replicate]; omega), List.getElem?_replicate, if_pos (by rw [List.length_replicate]; omega)]
theorem pow_le_iff {k P : Nat} : (2 : Nat) ^ k ≤ 2 ^ P ↔ k ≤ P := Nat.pow_le_pow_iff_right (by decide)
set_option maxRecDepth 100000 in
set_option maxHeartbeats 1600000 in
theorem open_any (pg : Nat) (w : World) (P : Nat) (hP : P ≤ 10) (hpg : pg = 2 ^ P) :
    Calls Try.prog 66 #[.int .i64 pg] w fun e w' => e = .returned (.pointer (some ⟨w.heap.size, 0, none⟩)) ∧ (∃ cs, Blk w' w.heap.size 97 cs ∧ RoomAre cs (frB pg fun _ => false) (fun o => (cntB (frB pg (fun _ => false) o) 1024 : Nat))) ∧ Below w.heap.size w w' := by
  have hz := zeroRoom
  have k0 := Blk.new w 97 Try.zeroCells97
  have hb0 := (Below.refl w.heap.size w).alloc (Nat.le_refl _) (.cells Try.zeroCells97 97)
  have hpg' := Lib.hid hpg
  have hpg1024 : pg ≤ 1024 := by rw [hpg]; exact Nat.pow_le_pow_right (by decide) hP
  clear hpg
  obtain ⟨s, hs⟩ : ∃ s, w.heap.size = s := ⟨_, rfl⟩
  rw [hs] at k0 hb0
  have hs' := Lib.hid hs
  go_enter Try.func66, Try.ntmps66
  go_upto_region 2 with fail
  generalize w.alloc (Obj.cells Try.zeroCells97 97) = w0 at *
  generalize Try.zeroCells97 = zc at *
  go_wp2_with fail
  go_loopw [4] (fun i wr => ∃ (k : Nat) (cs : Array Value), k ≤ P + 1 ∧ i = .int .i64 k ∧ Blk wr s 97 cs ∧ Hid (RoomAre cs (fun o i => decide (o < k) && frB pg (fun _ => false) o i) (fun o => if o < k then (cntB (frB pg (fun _ => false) o) 1024 : Nat) else 0)) ∧ Below s w wr) (fun i _ => P + 1 - (intOf i).toNat)
  case atStart => exact ⟨0, zc, by omega, rfl, k0, Lib.hid (hz.ext (by simp) (by simp)), hb0⟩
  case round =>
    obtain ⟨k, cs, hk, rfl, kB, hR, hB⟩ := hrel
    have HS := Lib.hid (fun W => size11_any (k : Int) W (by omega))
    have hpwk := pw_nat k
    by_cases hlt : k ≤ P
    · have hle : Hid (2 ^ k ≤ pg) := Lib.hid (by rw [hpg'.out]; exact pow_le_iff.2 hlt)
      have hle' : decide (pw (k : Int) ≤ (pg : Int)) = true := by rw [hpwk, decide_eq_true_eq]; exact Int.ofNat_le.2 hle.out
      clear hpwk
      generalize pw (k : Int) = p at *
      obtain ⟨q, hq⟩ : ∃ q, pg / 2 ^ k = q := ⟨_, rfl⟩
      have hsh : ((pg : Int) / 2 ^ k) = (q : Int) := by rw [← hq]; simp
      have hq1024 : q ≤ 1024 := by rw [← hq]; exact Nat.le_trans (Nat.div_le_self _ _) hpg1024
      have hq' := Lib.hid hq
      clear hq
      go_upto_region 5 with (go_at_call 29; refine (HS.out _).mono ?_; rintro e wS ⟨rfl, hwS⟩; subst hwS)
      go_wp2_with fail
      go_loopw [17] (fun i wr2 => ∃ (j : Nat) (ds : Array Value), j ≤ q ∧ i = .int .i64 j ∧ Blk wr2 s 97 ds ∧ Hid (RoomAre ds (fun o i => (decide (o < k) && frB pg (fun _ => false) o i) || (decide (o = k) && decide (i < j))) (fun o => if o < k then (cntB (frB pg (fun _ => false) o) 1024 : Nat) else 0)) ∧ Below s w wr2) (fun i _ => q - (intOf i).toNat)
      case atStart => exact ⟨0, cs, by omega, rfl, kB, Lib.hid (hR.out.ext (by simp) (by simp)), hB⟩
      case round =>
        obtain ⟨j, ds, hj, rfl, kD, hD, hB2⟩ := hrel
        have fD := kD.frozen
        by_cases hlt2 : j < q
        · have hlt2' : decide ((j : Int) < (q : Int)) = true := by simpa using hlt2
          have hcell : _ := (kD.cell (k * 1024 + j)).trans (hD.out.at_ k j (by omega) (by omega))
          have hset := Lib.hid (hD.out.setF (o := k) (i := j) (by omega) (by omega) true)
          go_wp2_with fail
          go_roundw
          case rel => exact ⟨j + 1, _, by omega, by go_num, kD.set_ (k * 1024 + j) (.bool true), Lib.hid (hset.out.ext (fun o i ho hi => by
            by_cases e : o = k ∧ i = j
            · obtain ⟨rfl, rfl⟩ := e; simp
            · rw [if_neg e]
              by_cases e1 : o = k
              · subst e1
                have : i ≠ j := fun h => e ⟨rfl, h⟩
                have h2 : decide (i < j + 1) = decide (i < j) := by
                  by_cases h3 : i < j
                  · rw [decide_eq_true h3, decide_eq_true (by omega)]
                  · rw [decide_eq_false h3, decide_eq_false (by omega)]
                rw [h2]
              · simp [e1]) (fun o ho => rfl)), hB2.setCell (p := ⟨s, k * 1024 + j, none⟩) (by simp) _⟩
          case measure => simp [intOf]; omega
        · obtain rfl : j = q := by omega
          have hlt2' : decide ((j : Int) < (j : Int)) = false := by simp
          have hcell : _ := (kD.cell (11264 + k)).trans (hD.out.many k (by omega))
          have hmk : Hid (((if k < k then ((cntB (frB pg (fun _ => false) k) 1024 : Nat) : Int) else 0)) = 0) := Lib.hid (by simp)
          rw [hmk.out] at hcell
          have q1 := fun z : Ext wr => z.cell hcell
          have hset := Lib.hid (hD.out.setM (o := k) (by omega) (j : Int))
          go_upto_region 10 with fail
          refine region_ext_tail 8 (by kernel_rfl) (by kernel_rfl) ?_
          simp only [List.take_succ_cons, List.take_zero, List.drop_succ_cons, List.drop_zero]
          repeat (go_big_quiet_step (fail))
          refine wpQuiet_nil ?_
          intro z
          have kZ := z.blk kD
          have fZ := kZ.frozen
          have hcz := z.cell hcell
          have hBz := hB2.trans (z.le.mono (by have := kD.lt; omega))
          go_wp2_with fail
          go_roundw
          case rel => exact ⟨k + 1, _, by omega, by go_num, kZ.set_ (11264 + k) (.int .i64 (j : Int)), Lib.hid (hset.out.ext (fun o i ho hi => by
            simp only [frB_none]
            by_cases e : o = k
            · subst e
              rw [hq'.out]; simp
            · by_cases e2 : o < k
              · simp [e, e2, show o < k + 1 by omega]
              · simp [e, e2, show ¬ o < k + 1 by omega]) (fun o ho => by
            by_cases e : o = k
            · subst e
              have hc : cntB (frB pg (fun _ => false) o) 1024 = j := by
                rw [cntB_ext 1024 (g := fun i => decide (i < j)) (fun i hi => by rw [frB_none, hq'.out]), cntB_lt]; omega
              simp [hc]
            · by_cases e2 : o < k
              · simp [e, e2, show o < k + 1 by omega]
              · simp [e, e2, show ¬ o < k + 1 by omega])), hBz.setCell (p := ⟨s, 11264 + k, none⟩) (by simp) _⟩
          case measure => simp [intOf]; omega
    · obtain rfl : k = P + 1 := by omega
      have hgt : Hid (pg < 2 ^ (P + 1)) := Lib.hid (by rw [hpg'.out, Nat.pow_succ]; have := Nat.two_pow_pos P; omega)
      have hle' : decide (pw ((P + 1 : Nat) : Int) ≤ (pg : Int)) = false := by rw [hpwk, decide_eq_false_iff_not]; intro h; have := Int.ofNat_le.1 h; have := hgt.out; omega
      have hfin := Lib.hid (hR.out.ext (g := frB pg fun _ => false) (mn' := fun o => ((cntB (frB pg (fun _ => false) o) 1024 : Nat) : Int)) (fun o i ho hi => by
        by_cases e : o < P + 1
        · simp [e]
        · have hz0 : pg / 2 ^ o = 0 := Nat.div_eq_of_lt (Nat.lt_of_lt_of_le hgt.out (Nat.pow_le_pow_right (by decide) (by omega)))
          rw [frB_none, hz0]; simp [e]) (fun o ho => by
        by_cases e : o < P + 1
        · simp [e]
        · have hz0 : pg / 2 ^ o = 0 := Nat.div_eq_of_lt (Nat.lt_of_lt_of_le hgt.out (Nat.pow_le_pow_right (by decide) (by omega)))
          have hc : cntB (frB pg (fun _ => false) o) 1024 = 0 := by
            rw [cntB_ext 1024 (g := fun i => decide (i < 0)) (fun i hi => by rw [frB_none, hz0]), cntB_lt]; rfl
          simp [e, hc]))
      clear hpwk
      generalize pw ((P + 1 : Nat) : Int) = p at *
      go_wp2_with (go_at_call 29; refine (HS.out _).mono ?_; rintro e wS ⟨rfl, hwS⟩; subst hwS)
      go_ret
      rw [hs'.out]
      exact ⟨rfl, ⟨cs, kB, hfin.out⟩, hB⟩

/-- free places after a block has been taken -/
def takeF (f : Nat → Nat → Bool) (page od : Nat) (o i : Nat) : Bool := f o i && !(decide (page / 2 ^ o ≤ i) && decide (i ≤ (page + 2 ^ od - 1) / 2 ^ o))
/-- .. up to place j of order k -/
def takeU (f : Nat → Nat → Bool) (page od k j : Nat) (o i : Nat) : Bool := if o < k then takeF f page od o i else if o = k then f o i && !(decide (page / 2 ^ o ≤ i) && decide (i < j)) else f o i
theorem takeU_zero (f : Nat → Nat → Bool) (page od o i : Nat) : takeU f page od 0 0 o i = f o i := by
  unfold takeU
  by_cases h : o = 0 <;> simp [h]
theorem takeU_first (f : Nat → Nat → Bool) (page od k o i : Nat) : takeU f page od k (page / 2 ^ k) o i = takeU f page od k 0 o i := by
  unfold takeU
  by_cases h : o = k
  · subst h
    have : (decide (page / 2 ^ o ≤ i) && decide (i < page / 2 ^ o)) = false := by
      by_cases h1 : page / 2 ^ o ≤ i
      · rw [decide_eq_false (show ¬ i < page / 2 ^ o by omega)]; simp
      · rw [decide_eq_false h1]; simp
    simp [this]
  · simp [h]
theorem takeU_at (f : Nat → Nat → Bool) (page od k j : Nat) : takeU f page od k j k j = f k j := by simp [takeU]
theorem takeU_step (f : Nat → Nat → Bool) (page od k j o i : Nat) (hj : page / 2 ^ k ≤ j) : takeU f page od k (j + 1) o i = if o = k ∧ i = j then false else takeU f page od k j o i := by
  unfold takeU
  by_cases h : o = k
  · subst h
    by_cases h2 : i = j
    · subst h2; simp [hj]
    · have : decide (i < j + 1) = decide (i < j) := by
        by_cases h3 : i < j
        · rw [decide_eq_true h3, decide_eq_true (by omega)]
        · rw [decide_eq_false h3, decide_eq_false (by omega)]
      simp [h2, this]
  · simp [h]
theorem takeU_last (f : Nat → Nat → Bool) (page od k o i : Nat) : takeU f page od k ((page + 2 ^ od - 1) / 2 ^ k + 1) o i = takeU f page od (k + 1) 0 o i := by
  unfold takeU
  by_cases h1 : o < k
  · simp [h1, show o < k + 1 by omega]
  · by_cases h : o = k
    · subst h
      simp [takeF, Nat.lt_succ_iff]
    · by_cases h2 : o = k + 1
      · subst h2; simp [show ¬ k + 1 < k by omega]
      · simp [h1, h, h2, show ¬ o < k + 1 by omega]
theorem takeU_end (f : Nat → Nat → Bool) (page od o i : Nat) (ho : o < 11) : takeU f page od 11 0 o i = takeF f page od o i := by simp [takeU, ho]
def cntI (f : Nat → Nat → Bool) (o : Nat) : Int := ((cntB (f o) 1024 : Nat) : Int)
theorem cntI_ext {f g : Nat → Nat → Bool} {o : Nat} (h : ∀ i, i < 1024 → f o i = g o i) : cntI f o = cntI g o := by
  unfold cntI; rw [cntB_ext 1024 h]
set_option maxRecDepth 100000 in
set_option maxHeartbeats 1600000 in
theorem take_any (B : Nat) (f : Nat → Nat → Bool) (page od : Nat) (cs : Array Value) (w : World) (hod : od ≤ 10) (hpage : page + 2 ^ od ≤ 1024) (kB : Blk w B 97 cs) (hR : RoomAre cs f (cntI f)) :
    Calls Try.prog 67 #[.pointer (some ⟨B, 0, none⟩), .int .i64 page, .int .i64 od] w fun e w' => e = .returned (.tuple #[]) ∧ (∃ cs', Blk w' B 97 cs' ∧ RoomAre cs' (takeF f page od) (cntI (takeF f page od))) ∧ Far (fun k => k = B) w w' := by
  have HS := Lib.hid (fun W => size_any (od : Int) W (by omega))
  rw [pw_nat] at HS
  obtain ⟨sz, hsz⟩ : ∃ sz, 2 ^ od = sz := ⟨_, rfl⟩
  have hsz1 : 1 ≤ sz := by rw [← hsz]; exact Nat.two_pow_pos od
  rw [hsz] at HS hpage
  have hsz' := Lib.hid hsz
  clear hsz
  go_enter Try.func67, Try.ntmps67
  go_wp2_with fail
  go_loopw [10] (fun i wr => ∃ (k : Nat) (ds : Array Value), k ≤ 11 ∧ i = .int .i64 k ∧ Blk wr B 97 ds ∧ Hid (RoomAre ds (takeU f page od k 0) (cntI (takeU f page od k 0))) ∧ Far (fun k => k = B) w wr) (fun i _ => 11 - (intOf i).toNat)
  case atStart => exact ⟨0, cs, by omega, rfl, kB, Lib.hid (hR.ext (fun o i _ _ => (takeU_zero f page od o i).symm) (fun o _ => cntI_ext (fun i _ => (takeU_zero f page od o i).symm))), Far.refl _ _⟩
  case round =>
    obtain ⟨k, ds, hk, rfl, kD, hD, hF⟩ := hrel
    by_cases hlt : k < 11
    · have hlt' : decide ((k : Int) < 11) = true := by simp; omega
      obtain ⟨a, ha⟩ : ∃ a, page / 2 ^ k = a := ⟨_, rfl⟩
      obtain ⟨b, hb⟩ : ∃ b, (page + sz - 1) / 2 ^ k = b := ⟨_, rfl⟩
      have hsh1 : ((page : Int) / 2 ^ k) = (a : Int) := by rw [← ha]; simp
      have hsh2 : (((page : Int) + (sz : Int) - 1) / 2 ^ k) = (b : Int) := by
        rw [← hb, show (page : Int) + (sz : Int) - 1 = ((page + sz - 1 : Nat) : Int) by omega]; simp
      have hb1023 : b ≤ 1023 := by rw [← hb]; exact Nat.le_trans (Nat.div_le_self _ _) (by omega)
      have ha' := Lib.hid ha
      have hb' := Lib.hid hb
      clear ha hb
      have G := Lib.hid (fun z : Ext wr => Ext.call (x := z) ((HS.out z.w).mono (fun e w' h => ⟨h.1, by rw [h.2]; exact Below.refl _ _⟩)))
      go_upto_region 3 with fail
      refine region_ext (by kernel_rfl) (by kernel_rfl) ?_
      repeat (go_big_quiet_step ((go_at_call 29; exact G.out _)))
      refine wpQuiet_nil ?_
      rintro w3 ⟨⟨_, hw3⟩, rfl⟩
      have kD3 := kD.call hw3
      have hF3 := hF.trans ((Far.of_below (T := fun k => k = B) hw3))
      have hab : a ≤ b + 1 := by rw [← ha'.out, ← hb'.out]; have := Nat.div_le_div_right (c := 2 ^ k) (show page ≤ page + sz - 1 by omega); omega
      have hD3 : Hid (RoomAre ds (takeU f page od k a) (cntI (takeU f page od k a))) := Lib.hid (hD.out.ext (fun o i _ _ => by rw [← ha'.out]; exact (takeU_first f page od k o i).symm) (fun o _ => cntI_ext (fun i _ => by rw [← ha'.out]; exact (takeU_first f page od k o i).symm)))
      clear kD hF hD hw3 G
      go_wp2_with fail
      go_loopw [9] (fun i wr2 => ∃ (j : Nat) (es : Array Value), a ≤ j ∧ j ≤ b + 1 ∧ i = .int .i64 j ∧ Blk wr2 B 97 es ∧ Hid (RoomAre es (takeU f page od k j) (cntI (takeU f page od k j))) ∧ Far (fun k => k = B) w wr2) (fun i _ => b + 1 - (intOf i).toNat)
      case atStart => exact ⟨a, ds, Nat.le_refl _, hab, rfl, kD3, hD3, hF3⟩
      case round =>
        clear kD3 hF3 hD3
        obtain ⟨j, es, haj, hj, rfl, kE, hE, hF⟩ := hrel
        by_cases hlt2 : j ≤ b
        · have hlt2' : decide ((j : Int) ≤ (b : Int)) = true := by simpa using hlt2
          have hlt3' : decide ((j : Int) < 1024) = true := by simp; omega
          have hcell : _ := (kE.cell (k * 1024 + j)).trans (hE.out.at_ k j (by omega) (by omega))
          rw [takeU_at] at hcell
          have fE := kE.frozen
          cases hv : f k j with
          | false =>
            rw [hv] at hcell
            have hE2 : Hid (RoomAre es (takeU f page od k (j + 1)) (cntI (takeU f page od k (j + 1)))) := Lib.hid (by
              have hs : ∀ o i, takeU f page od k (j + 1) o i = takeU f page od k j o i := fun o i => by
                rw [takeU_step f page od k j o i (by rw [ha'.out]; exact haj)]
                split
                · rename_i h; rw [h.1, h.2, takeU_at, hv]
                · rfl
              exact hE.out.ext (fun o i _ _ => (hs o i).symm) (fun o _ => cntI_ext (fun i _ => (hs o i).symm)))
            clear hE hv
            go_wp2_with fail
            go_roundw
            case rel => exact ⟨j + 1, es, by omega, by omega, by go_num, kE, hE2, hF⟩
            case measure => simp [intOf]; omega
          | true =>
            rw [hv] at hcell
            have kE2 := kE.set_ (k * 1024 + j) (.bool false)
            have hE2 := Lib.hid (hE.out.setF (o := k) (i := j) (by omega) (by omega) false)
            have hF2 : Far (fun k => k = B) w (wr.setCell ⟨B, k * 1024 + j, none⟩ (.bool false)) := hF.setCell (p := ⟨B, k * 1024 + j, none⟩) (fun _ => rfl) _
            have hmn := (kE2.cell (11264 + k)).trans (hE2.out.many k (by omega))
            obtain ⟨c, hc⟩ : ∃ c, cntI (takeU f page od k j) k = c := ⟨_, rfl⟩
            have hcb : 0 ≤ c ∧ c ≤ 1024 := by rw [← hc]; unfold cntI; have := cntB_le (takeU f page od k j k) 1024; omega
            rw [hc] at hmn
            have hE3 := Lib.hid (hE2.out.setM (o := k) (by omega) (c - 1))
            have hE4 : Hid (RoomAre ((es.setIfInBounds (k * 1024 + j) (.bool false)).setIfInBounds (11264 + k) (.int .i64 (c - 1))) (takeU f page od k (j + 1)) (cntI (takeU f page od k (j + 1)))) := Lib.hid (by
              have hs : ∀ o i, (if o = k ∧ i = j then false else takeU f page od k j o i) = takeU f page od k (j + 1) o i := fun o i => (takeU_step f page od k j o i (by rw [ha'.out]; exact haj)).symm
              refine hE3.out.ext (fun o i _ _ => hs o i) (fun o _ => ?_)
              by_cases e : o = k
              · subst e
                rw [if_pos rfl, ← hc]
                have hcl := cntB_clear (f := takeU f page od o j o) (k := j) (by rw [takeU_at]; exact hv) 1024 (by omega)
                have hx : cntB (fun i => takeU f page od o j o i && !(i == j)) 1024 = cntB (takeU f page od o (j + 1) o) 1024 := cntB_ext 1024 (fun i _ => by
                  rw [← hs o i]
                  by_cases h : i = j
                  · simp [h]
                  · simp [h])
                unfold cntI
                rw [← hx]
                omega
              · rw [if_neg e]
                exact cntI_ext (fun i _ => by rw [← hs o i]; simp [e]))
            go_upto_region 9 with fail
            clear hcell hE hE2 hE3 hv hF fE
            generalize wr.setCell ⟨B, k * 1024 + j, none⟩ (.bool false) = w4 at *
            have q1 := fun z : Ext w4 => z.cell hmn
            refine region_ext_tail 9 (by kernel_rfl) (by kernel_rfl) ?_
            simp only [List.take_succ_cons, List.take_zero, List.drop_succ_cons, List.drop_zero]
            repeat (go_big_quiet_step (fail))
            refine wpQuiet_nil ?_
            intro z
            have kZ := z.blk kE2
            have fZ := kZ.frozen
            have hcz := z.cell hmn
            have hFz := hF2.trans (Far.of_below (T := fun k => k = B) z.le)
            go_wp2_with fail
            go_roundw
            case rel => exact ⟨j + 1, _, by omega, by omega, by go_num, kZ.set_ (11264 + k) (.int .i64 (c - 1)), hE4, hFz.setCell (p := ⟨B, 11264 + k, none⟩) (fun _ => rfl) _⟩
            case measure => simp [intOf]; omega
        · obtain rfl : j = b + 1 := by omega
          have hlt2' : decide (((b + 1 : Nat) : Int) ≤ (b : Int)) = false := by simp; omega
          have hlt2'' : decide ((b : Int) + 1 ≤ (b : Int)) = false := by simp; omega
          have hE2 : Hid (RoomAre es (takeU f page od (k + 1) 0) (cntI (takeU f page od (k + 1) 0))) := Lib.hid (by
            have hs : ∀ o i, takeU f page od k (b + 1) o i = takeU f page od (k + 1) 0 o i := fun o i => by
              rw [← hb'.out, ← hsz'.out]; exact takeU_last f page od k o i
            exact hE.out.ext (fun o i _ _ => hs o i) (fun o _ => cntI_ext (fun i _ => hs o i)))
          clear hE
          go_wp2_with fail
          go_roundw
          case rel => exact ⟨k + 1, es, by omega, by go_num, kE, hE2, hF⟩
          case measure => simp [intOf]; omega
    · obtain rfl : k = 11 := by omega
      have hfin : Hid (RoomAre ds (takeF f page od) (cntI (takeF f page od))) := Lib.hid (hD.out.ext (fun o i ho _ => takeU_end f page od o i ho) (fun o ho => cntI_ext (fun i _ => takeU_end f page od o i ho)))
      clear hD
      go_wp2_with fail
      go_end0
      exact ⟨rfl, ⟨ds, kD, hfin.out⟩, hF⟩
end Go.Proofs.Ytifdgabfnnkghaa
