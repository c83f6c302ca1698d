/- Merged texts. Walks of layer 6: the runs of a system as a function value that is ranged over. Walks of layer 6: slices.AppendSeq and slices.Collect over runs that a function value hands out. Words for a region whose operations come in an order of their own: an operation's value, its call; slots written and read. Walks of layer 6: Save's first statement, whose order of evaluation is open. Words for the comparison of arrays of integers, and of the bytes of a page. Walks of layer 6: Save. Walks over no system: Counts, and huge's Join, of a pointer that is nil. Walks of layer 13 over a system: huge's Back. Walks of layer 13 over the reference's system: its Join. Walks of layer 13 over the reference's system: its Back. Walks of the references of layers 5 and 6: two equal plans, states and saved states are equal. -/
import Derived.Sort.CutIn
import Derived.DeepKeys
import Derived.Great.BuildSlice
import Derived.Test.YtefnnfcfigcikaaGreatD7
namespace Go.Proofs.YtefnnfcfigcikaaGreat
open Go Go.Proofs Go.RowKit Go.Pol Go.Shelf
attribute [local go_sem] Oper.semAt_some Go.Pol.wide_fn Go.Pol.wide_depth Go.Pol.wide_fn' Go.Pol.wide_depth'

theorem vruns_any (b : Nat) (w : World) :
    Calls Tryz.prog 87 #[.pointer (some ⟨b, 0, none⟩)] w fun e w' => e = .returned (.func (.func 141) #[] #[.pointer (some ⟨w.heap.size, 0, none⟩)]) ∧ w' = w.alloc (.cells #[.pointer (some ⟨b, 0, none⟩)] 30) := by
  go_enter Tryz.func87, Tryz.ntmps87
  go_wp2
  go_ret
  exact ⟨by simp, rfl⟩
theorem vruns1_enters : ∀ args w, (callFunc 141 args).run Tryz.prog w = .ok (.enter 141 args) w := enters_of Tryz.func141 (by kernel_rfl) rfl
set_option maxRecDepth 100000 in
set_option maxHeartbeats 1600000 in
theorem vruns1_seq (b B1 : Nat) (V : Vm) (cs : Array Value) (v : Value) (K : Nat → Prop) (w : World) (hKb : K b) (hK1 : K B1)
    (k1 : Blk w B1 30 #[.pointer (some ⟨b, 0, none⟩)]) (kS : Blk w b 114 cs) (hc : SysC cs v V) :
    SeqX Tryz.prog 141 #[.pointer (some ⟨B1, 0, none⟩)] rnA (fun _ => False) K (vrunsL V 1024) w := by
  intro m l J Jx W hW hJ hJx hnew hY h0
  have kB1 := hW.blk k1 (by simpa using hK1)
  have kbS := hW.blk kS (by simpa using hKb)
  have hkd := Lib.hid (fun (wr : World) (h : Blk wr b 114 cs) p (hp : p < 1024) => (h.cell (1 + p * 66)).trans (hc.kind hp))
  refine callsIn_of_wp Tryz.func141 rfl trivial ?_ rfl
  simp only [Tryz.ntmps141, List.size_toArray, List.length_cons, List.length_nil, Nat.reduceAdd, Nat.reduceSub, Array.replicate_succ, Array.replicate_zero, List.push_toArray, List.append_toArray, List.nil_append, List.cons_append]
  clear hW k1 kS hc
  gi_wp2_with fail
  gi_loopw [3] (fun u wr => ∃ p : Nat, p ≤ 1024 ∧ u = .int .i64 p ∧ W.heap.size ≤ wr.heap.size ∧ J (fun _ => False) (vrunsL V p) wr ∧ Blk wr B1 30 #[.pointer (some ⟨b, 0, none⟩)] ∧ Blk wr b 114 cs ∧ Hid (bdy V p)) (fun u _ => 1024 - (intOf u).toNat)
  case atStart => exact ⟨0, by omega, rfl, Nat.le_refl _, h0, kB1, kbS, Lib.hid (.inl rfl)⟩
  case round =>
    clear h0 kB1 kbS
    obtain ⟨p, hp, rfl, hwz, hJs, kB1, kbS, hbd⟩ := hrel
    by_cases hlt : p < 1024
    · have hlt' : decide ((p : Int) < 1024) = true := by rw [decide_eq_true_eq]; omega
      have hpl : (p : Int) < 1024 := by omega
      have hcell := hkd.out wr kbS p hlt
      have c1 := kB1.cell
      obtain ⟨kd, hkdp⟩ : ∃ kd, (V.pg p).kind = kd := ⟨_, rfl⟩
      rw [hkdp] at hcell
      have kX := Blk.new wr 169 #[.int .i64 p, .int .i64 0, .int .i64 kd]
      have hfa : Far (fun _ => False) wr (wr.alloc (.cells #[.int .i64 p, .int .i64 0, .int .i64 kd] 169)) := (Far.refl _ wr).alloc _
      have hJ2 := hJ _ _ _ _ (hnew _ (fun k => k = wr.heap.size) _ wr hJs (fun j hj => .inr (by omega))) (hfa.mono fun _ _ h => h.elim)
      have kB1b := kB1.alloc (.cells #[.int .i64 p, .int .i64 0, .int .i64 kd] 169)
      have kbSb := kbS.alloc (.cells #[.int .i64 p, .int .i64 0, .int .i64 kd] 169)
      have hszb : W.heap.size ≤ (wr.alloc (.cells #[.int .i64 p, .int .i64 0, .int .i64 kd] 169)).heap.size := by simp; omega
      have hbx0 : wr.heap.size < (wr.alloc (.cells #[.int .i64 p, .int .i64 0, .int .i64 kd] 169)).heap.size := by simp
      have hne1 : B1 ≠ wr.heap.size := Nat.ne_of_lt kB1.lt
      have hneb : b ≠ wr.heap.size := Nat.ne_of_lt kbS.lt
      have hkdp' := Lib.hid hkdp
      clear hkdp
      gi_wp2_with fail
      generalize wr.alloc (.cells #[.int .i64 p, .int .i64 0, .int .i64 kd] 169) = wa at *
      generalize wr.heap.size = bx at *
      clear hJs kB1 kbS hfa hwz hcell c1 hlt'
      gi_loopw [3] (fun u wr => ∃ q : Nat, p ≤ q ∧ q ≤ 1024 ∧ u = .int .i64 q ∧ W.heap.size ≤ wr.heap.size ∧ bx < wr.heap.size ∧ J (fun k => k = bx) (vrunsL V p) wr ∧ Blk wr B1 30 #[.pointer (some ⟨b, 0, none⟩)] ∧ Blk wr b 114 cs ∧ Blk wr bx 169 #[.int .i64 p, .int .i64 ((q - p : Nat) : Int), .int .i64 kd] ∧ Hid (∀ r, p ≤ r → r < q → (V.pg r).kind = kd)) (fun u _ => 1024 - (intOf u).toNat)
      case atStart => exact ⟨p, by omega, by omega, rfl, hszb, hbx0, hJ2, kB1b, kbSb, by rw [Nat.sub_self]; exact kX, Lib.hid (fun r h1 h2 => by omega)⟩
      case round =>
        clear hJ2 kB1b kbSb kX hszb hbx0
        obtain ⟨q, hq0, hq1, rfl, hwz, hbx, hJs, kB1, kbS, kX, hall⟩ := hrel
        by_cases hq : q < 1024
        · have hq' : decide ((q : Int) < 1024) = true := by rw [decide_eq_true_eq]; omega
          have hql : (q : Int) < 1024 := by omega
          have e1 := fun z : Ext wr => (z.blk kB1).cell
          have e2 := fun z : Ext wr => (z.blk kX).cell
          have hcell := hkd.out wr kbS q hq
          have e3 := fun z : Ext wr => z.cell hcell
          generalize hgk : (V.pg q).kind = kq at *
          gi_upto_region 3 with fail
          refine wpIn_wide.2 ?_
          by_cases hkq : kq = kd
          · have hkq' : (kq == kd) = true := by simpa using hkq
            have hall2 : Hid (∀ r, p ≤ r → r < q + 1 → (V.pg r).kind = kd) := Lib.hid (fun r h1 h2 => by
              by_cases e : r = q
              · rw [e, hgk, hkq]
              · exact hall.out r h1 (by omega))
            clear hkq hgk hall
            refine region_ext (by kernel_rfl) (by kernel_rfl) ?_
            repeat (go_big_quiet_step (fail))
            refine wpQuiet_nil ?_
            rintro w3 ⟨⟨_, hw3⟩, rfl⟩
            have kX3 := kX.call hw3
            have J3 := hJ _ _ wr w3 hJs (.of_below hw3)
            have hwz3 := Nat.le_trans hwz hw3.size
            have hbx3 := Nat.lt_of_lt_of_le hbx hw3.size
            have kB13 := kB1.call hw3
            have kbS3 := kbS.call hw3
            have cX := kX3.cell
            have fX := kX3.frozen
            have F4 : Far (fun k => k = bx) w3 (w3.setCell ⟨bx, 1, none⟩ (.int .i64 ((q - p + 1 : Nat) : Int))) := Far.setCell (T := fun k => k = bx) (p := ⟨bx, 1, none⟩) (Far.refl _ w3) (fun _ => rfl) _
            have kX4 := kX3.set_ 1 (.int .i64 ((q - p + 1 : Nat) : Int))
            have hcs1 : ((q - p : Nat) : Int) + 1 = ((q - p + 1 : Nat) : Int) := by omega
            have J4 := hJ _ _ w3 _ J3 (F4.mono fun _ _ h => .inr h)
            have kB14 := F4.blk kB13 hne1
            have kbS4 := F4.blk kbS3 hneb
            have hs4 := F4.size
            have hql2 : ((q - p : Nat) : Int) < 2000 := by omega
            have hq0' : q - p + 1 = q + 1 - p := by omega
            rw [hq0'] at kX4
            clear e1 e2 e3 hJs kB1 kbS kX J3 kB13 kbS3 kX3 hw3 F4 hcell
            gi_wp2_with fail
            rw [hq0'] at J4 kB14 kbS4 hs4
            go_roundw
            case rel => exact ⟨q + 1, by omega, by omega, by go_num, by omega, by omega, J4, kB14, kbS4, kX4, hall2⟩
            case measure => simp [intOf]; omega
          · have hkq' : (kq == kd) = false := by simpa using hkq
            have hqp : Hid (p < q) := Lib.hid (by
              rcases Nat.lt_or_ge p q with h | h
              · exact h
              · exfalso
                have : q = p := by omega
                rw [this] at hgk
                exact hkq (hgk.symm.trans hkdp'.out))
            have hbq : Hid (bdy V q) := Lib.hid (.inr (.inl (by
              have := hqp.out
              rw [hgk, hall.out (q - 1) (by omega) (by omega)]
              exact fun h => hkq h.symm)))
            clear hkq hgk hq
            refine region_ext (by kernel_rfl) (by kernel_rfl) ?_
            repeat (go_big_quiet_step (fail))
            refine wpQuiet_nil ?_
            rintro w3 ⟨⟨_, hw3⟩, rfl⟩
            have kX3 := kX.call hw3
            have J3 := hJ _ _ wr w3 hJs (.of_below hw3)
            have hwz3 := Nat.le_trans hwz hw3.size
            have hbx3 := Nat.lt_of_lt_of_le hbx hw3.size
            have kB13 := kB1.call hw3
            have kbS3 := kbS.call hw3
            have cX := kX3.cell
            clear e1 e2 e3 hJs kB1 kbS kX hw3 hcell
            by_cases hk0 : kd = 0
            · subst hk0
              have hR : Hid (vrunsL V q = vrunsL V p) := Lib.hid (by
                have := vruns_free (V := V) (p := p) (q - p) (fun r h1 h2 => hall.out r h1 (by have := hqp.out; omega))
                rwa [show p + (q - p) = q by have := hqp.out; omega] at this)
              have J4 := hnew _ (fun _ => False) _ _ J3 (fun _ h => h.elim)
              rw [← hR.out] at J4
              have hqp2 := hqp.out
              gi_wp2_with fail
              go_roundw
              case rel => exact ⟨q, by omega, rfl, hwz3, J4, kB13, kbS3, hbq⟩
              case measure => simp [intOf]; omega
            · have hk0' : (kd != 0) = true := by simpa using hk0
              have hR : Hid (vrunsL V q = vrunsL V p ++ [((p : Int), ((q - p : Nat) : Int), kd)]) := Lib.hid (by
                have h1 := hqp.out
                have h2 := vruns_same (V := V) (p := p) (c := kd) (hbd.out.elim .inl (fun h => h.elim .inr (fun h => by omega))) hk0 (q - p - 1) (fun r a1 a2 => hall.out r a1 (by omega))
                rw [show q - p - 1 + 1 = q - p by omega, show p + (q - p) = q by omega] at h2
                exact h2)
              have hpre : Hid (vrunsL V p ++ [((p : Int), ((q - p : Nat) : Int), kd)] <+: vrunsL V 1024) := Lib.hid (by
                rw [← hR.out]
                exact vruns_prefix hbq.out (by omega))
              have hqp2 := hqp.out
              obtain ⟨fn, tmps, assign, body, hy, hRd⟩ := hY (m - 1) (fun k => k = bx) (vrunsL V p) ((p : Int), ((q - p : Nat) : Int), kd) w3 J3 (fun k hk => by rw [hk]; exact hbx3) hpre.out
              clear hY hk0
              gi_wp2_with fail
              refine hRd.mono ?_
              rintro e W4 (⟨rfl, hJ4, hF4⟩ | ⟨rfl, hJx4⟩)
              · have J5 := hnew _ (fun _ => False) _ _ hJ4 (fun _ h => h.elim)
                rw [← hR.out] at J5
                gi_wp2_with fail
                go_roundw
                case rel => exact ⟨q, by omega, rfl, Nat.le_trans hwz3 hF4.size, J5, hF4.blk kB13 (fun h => h (.inl hK1)), hF4.blk kbS3 (fun h => h (.inl hKb)), hbq⟩
                case measure => simp [intOf]; omega
              · gi_wp2_with fail
                refine bodyPost_ret (results_none rfl _ _ _) rfl ?_
                exact ⟨⟨_, rfl⟩, .inr ⟨_, _, hpre.out, hJx4⟩⟩
        · obtain rfl : q = 1024 := by omega
          have hq' : decide (((1024 : Nat) : Int) < 1024) = false := by decide
          have hqp : Hid (p < 1024) := Lib.hid hlt
          have hbq : Hid (bdy V 1024) := Lib.hid (.inr (.inr (Nat.le_refl _)))
          have e1 := fun z : Ext wr => (z.blk kB1).cell
          have e2 := fun z : Ext wr => (z.blk kX).cell
          have e3 : True := trivial
          have hcell : True := trivial
          gi_upto_region 3 with fail
          refine wpIn_wide.2 ?_
          refine region_ext (by kernel_rfl) (by kernel_rfl) ?_
          repeat (go_big_quiet_step (fail))
          refine wpQuiet_nil ?_
          rintro w3 ⟨⟨_, hw3⟩, rfl⟩
          have kX3 := kX.call hw3
          have J3 := hJ _ _ wr w3 hJs (.of_below hw3)
          have hwz3 := Nat.le_trans hwz hw3.size
          have hbx3 := Nat.lt_of_lt_of_le hbx hw3.size
          have kB13 := kB1.call hw3
          have kbS3 := kbS.call hw3
          have cX := kX3.cell
          clear e1 e2 e3 hJs kB1 kbS kX hw3 hcell
          by_cases hk0 : kd = 0
          · subst hk0
            have hR : Hid (vrunsL V 1024 = vrunsL V p) := Lib.hid (by
              have := vruns_free (V := V) (p := p) (1024 - p) (fun r h1 h2 => hall.out r h1 (by have := hqp.out; omega))
              rwa [show p + (1024 - p) = 1024 by have := hqp.out; omega] at this)
            have J4 := hnew _ (fun _ => False) _ _ J3 (fun _ h => h.elim)
            rw [← hR.out] at J4
            have hqp2 := hqp.out
            gi_wp2_with fail
            go_roundw
            case rel => exact ⟨1024, by omega, rfl, hwz3, J4, kB13, kbS3, hbq⟩
            case measure => simp [intOf]; omega
          · have hk0' : (kd != 0) = true := by simpa using hk0
            have hR : Hid (vrunsL V 1024 = vrunsL V p ++ [((p : Int), ((1024 - p : Nat) : Int), kd)]) := Lib.hid (by
              have h1 := hqp.out
              have h2 := vruns_same (V := V) (p := p) (c := kd) (hbd.out.elim .inl (fun h => h.elim .inr (fun h => by omega))) hk0 (1024 - p - 1) (fun r a1 a2 => hall.out r a1 (by omega))
              rw [show 1024 - p - 1 + 1 = 1024 - p by omega, show p + (1024 - p) = 1024 by omega] at h2
              exact h2)
            have hpre : Hid (vrunsL V p ++ [((p : Int), ((1024 - p : Nat) : Int), kd)] <+: vrunsL V 1024) := Lib.hid (by
              rw [← hR.out]
              exact vruns_prefix hbq.out (by omega))
            have hqp2 := hqp.out
            obtain ⟨fn, tmps, assign, body, hy, hRd⟩ := hY (m - 1) (fun k => k = bx) (vrunsL V p) ((p : Int), ((1024 - p : Nat) : Int), kd) w3 J3 (fun k hk => by rw [hk]; exact hbx3) hpre.out
            clear hY hk0
            gi_wp2_with fail
            refine hRd.mono ?_
            rintro e W4 (⟨rfl, hJ4, hF4⟩ | ⟨rfl, hJx4⟩)
            · have J5 := hnew _ (fun _ => False) _ _ hJ4 (fun _ h => h.elim)
              rw [← hR.out] at J5
              gi_wp2_with fail
              go_roundw
              case rel => exact ⟨1024, by omega, rfl, Nat.le_trans hwz3 hF4.size, J5, hF4.blk kB13 (fun h => h (.inl hK1)), hF4.blk kbS3 (fun h => h (.inl hKb)), hbq⟩
              case measure => simp [intOf]; omega
            · gi_wp2_with fail
              refine bodyPost_ret (results_none rfl _ _ _) rfl ?_
              exact ⟨⟨_, rfl⟩, .inr ⟨_, _, hpre.out, hJx4⟩⟩
    · obtain rfl : p = 1024 := by omega
      have hlt' : decide (((1024 : Nat) : Int) < 1024) = false := by decide
      gi_wp2_with fail
      go_end0
      exact ⟨⟨_, rfl⟩, .inl ⟨_, hJs⟩⟩
end Go.Proofs.YtefnnfcfigcikaaGreat
namespace Go.Pol
open Go Go.RowKit
theorem rnC_snoc (bs : List Rn) (x : Rn) : fl rnC (bs ++ [x]) = fl rnC bs ++ [.int .i64 x.1, .int .i64 x.2.1, .int .i64 x.2.2] := by rw [fl_append]; simp [fl, rnC]
theorem news_rn {w : World} {g : Nat} {t : TypeId} {a b c : Int} (h : Blk w g t #[.int .i64 a, .int .i64 b, .int .i64 c]) : ∀ (j : Nat) (u : Value), [Value.int .i64 a, Value.int .i64 b, Value.int .i64 c][j]? = some u → w.cell? ((⟨g, 0, none⟩ : Addr).add j) = some u := by
  intro j u hu
  rw [addr_add0, Nat.zero_add]
  rw [h.cell]
  simpa using hu
theorem news_oneR {a b c : Int} : ∀ u ∈ [Value.int .i64 a, Value.int .i64 b, Value.int .i64 c], u.oneCell' = true := by
  intro u hu
  simp only [List.mem_cons, List.not_mem_nil, or_false] at hu
  rcases hu with rfl | rfl | rfl <;> rfl
/-- a loop over runs whose variable lies in a box -/
theorem rangeXR {P : Program} {g : Operand} {ps : Array Tmp} {assign body : Code} {Q : Exit → Act → World → Prop} {a : Act} {w : World} (ib pb : Nat) (tE : TypeId)
    {gf : Nat} {lb : Array Value} (hg : a.eval g = .func (.func gf) #[] lb) (eg : ∀ args w, (callFunc gf args).run P w = .ok (.enter gf args) w)
    {T K : Nat → Prop} {xs : List Rn} (hseq : SeqX P gf lb rnA T K xs w) (hps : ps = #[pb])
    (hT : ∀ k, T k → k < w.heap.size) (hK : ∀ k, K k → k < w.heap.size)
    (I : (Nat → Prop) → List Rn → World → Prop) (Ix : Code → (Nat → Prop) → List Rn → World → Prop)
    (hI : ∀ X pre A B, I X pre A → Far (fun k => T k ∨ X k ∨ k = w.heap.size ∨ k = w.heap.size + 1) A B → I X pre B)
    (hIx : ∀ c X pre A B, Ix c X pre A → Far (fun k => T k ∨ X k ∨ k = w.heap.size ∨ k = w.heap.size + 1) A B → Ix c X pre B)
    (hnew : ∀ X X' pre A, I X pre A → (∀ k, X' k → X k ∨ A.heap.size ≤ k) → I X' pre A)
    (h0 : I (fun _ => False) [] w)
    (hassign : ∀ (m l : Nat) (x : Rn) (W : World) (C : Act → World → Prop),
      C { tmps := (a.tmps.setIfInBounds pb (rnV x)).setIfInBounds ib (.pointer (some ⟨W.heap.size, 0, none⟩)), defers := [] } (W.alloc (.cells #[.int .i64 x.1, .int .i64 x.2.1, .int .i64 x.2.2] tE)) →
      assign.wpIn (Fence.wide.inRound l) m P (Exit.then C (fun _ _ _ => False)) { tmps := a.tmps.setIfInBounds pb (rnV x), defers := [] } W)
    (hbody : ∀ (m l : Nat) (X : Nat → Prop) (pre : List Rn) (x : Rn) (Bx : Nat) (Wa W : World), w.heap.size + 2 ≤ W.heap.size → (∀ k, X k → k < Wa.heap.size ∧ k ≠ w.heap.size ∧ k ≠ w.heap.size + 1) → I X pre W → pre ++ [x] <+: xs → w.heap.size + 2 ≤ Bx → Blk W Bx tE #[.int .i64 x.1, .int .i64 x.2.1, .int .i64 x.2.2] → Wa.heap.size ≤ Bx →
      body.wpIn (Fence.wide.inRound l) m P (xPost w.heap.size K X I Ix (pre ++ [x]) W) { tmps := (a.tmps.setIfInBounds pb (rnV x)).setIfInBounds ib (.pointer (some ⟨Bx, 0, none⟩)), defers := [] } W)
    (hdone : ∀ (X : Nat → Prop) (W : World), w.heap.size + 2 ≤ W.heap.size → I X xs W → W.heap[w.heap.size]? = some (.deferred (some [])) → Q .normal { a with defers := markOf w.heap.size :: a.defers } W)
    (hstop : ∀ (c : Code) (X : Nat → Prop) (pre : List Rn) (W : World), w.heap.size + 2 ≤ W.heap.size → pre <+: xs → Ix c X pre W → W.heap[w.heap.size]? = some (.deferred (some [])) → c.wp P Q { a with defers := markOf w.heap.size :: a.defers } W) :
    (Code.rangeFunc g ps assign body).wp P Q a w := by
  subst hps
  refine rangeX hg eg hseq (fun _ => rfl) hT hK I Ix hI hIx hnew h0
    (fun N x a' W => ∃ Bx, N ≤ Bx ∧ w.heap.size + 2 ≤ Bx ∧ Blk W Bx tE #[.int .i64 x.1, .int .i64 x.2.1, .int .i64 x.2.2] ∧ a' = { tmps := (a.tmps.setIfInBounds pb (rnV x)).setIfInBounds ib (.pointer (some ⟨Bx, 0, none⟩)), defers := [] })
    (fun N x a' A B ⟨Bx, h0, h1, h2, h3⟩ hf => ⟨Bx, h0, h1, hf.blk h2 (by omega), h3⟩) ?_ ?_ hdone hstop
  · intro m l x W C hs hC
    have e : (#[pb].zip (rnA x)).foldl (fun t (p, v) => t.setIfInBounds p v) a.tmps = a.tmps.setIfInBounds pb (rnV x) := by simp [rnA]
    rw [e]
    exact hassign m l x W C (hC _ _ ((Far.refl _ W).alloc _) ⟨W.heap.size, Nat.le_refl _, hs, Blk.new _ _ _, rfl⟩)
  · rintro m l X pre x a' Wa W hs hX hi ⟨Bx, h0, h1, h2, rfl⟩ hpre _ _
    exact hbody m l X pre x Bx Wa W hs hX hi hpre h1 h2 h0
end Go.Pol
namespace Go.Proofs.YtefnnfcfigcikaaGreat
open Go Go.Proofs Go.RowKit Go.Pol Go.Shelf
attribute [local go_sem] Oper.semAt_some Go.Pol.wide_fn Go.Pol.wide_depth Go.Pol.wide_fn' Go.Pol.wide_depth'

theorem infoRn : (Tryz.prog.info? 169).map (fun i => (i.zero, i.size, i.bytes)) = some (some (.agg #[.int .i64 0, .int .i64 0, .int .i64 0]), 3, 24) := by kernel_rfl
theorem infoRn_parts : ∃ i0, Tryz.prog.info? 169 = some i0 ∧ i0.zero = some (.agg #[.int .i64 0, .int .i64 0, .int .i64 0]) ∧ i0.size = 3 ∧ i0.bytes = 24 := by
  obtain ⟨i0, h⟩ := info_parts infoRn
  exact ⟨i0, h⟩
set_option maxRecDepth 100000 in
set_option maxHeartbeats 3200000 in
theorem appendSeqR_any (g : Nat) (lb : Array Value) (K : Nat → Prop) (xs : List Rn) (w : World) (hxs : xs.length ≤ 1000000)
    (hseq : SeqX Tryz.prog g lb rnA (fun _ => False) K xs w) (eg : ∀ args w, (callFunc g args).run Tryz.prog w = .ok (.enter g args) w) (hK : ∀ k, K k → k < w.heap.size) :
    Calls Tryz.prog 140 #[.slice none 0 0, .func (.func g) #[] lb] w fun e w' => ∃ v, e = .returned v ∧ w'.ownsRow w.heap.size 169 3 v xs.length (fl rnC xs) ∧ Below w.heap.size w w' := by
  obtain ⟨i0, hi, hz0, hz1, hz2⟩ := infoRn_parts
  obtain ⟨s, hs⟩ : ∃ s, w.heap.size = s := ⟨_, rfl⟩
  obtain ⟨W0, hW0⟩ : ∃ W0, w.alloc (.cells #[.slice none 0 0] 75) = W0 := ⟨_, rfl⟩
  have hs0 : W0.heap.size = s + 1 := by rw [← hW0, ← hs]; simp
  have kO : Blk W0 s 75 #[.slice none 0 0] := by rw [← hW0, ← hs]; exact Blk.new _ _ _
  have hb0 : Below s w W0 := by rw [← hW0, ← hs]; exact (Below.refl w.heap.size w).alloc (Nat.le_refl _) _
  have hF0 : Far (fun _ => False) w W0 := .of_below (by rw [hs]; exact hb0)
  have hW1 := Lib.hid hW0
  clear hW0
  refine calls_of_marks Tryz.func140 rfl ?_
  simp only [Tryz.ntmps140, List.size_toArray, List.length_cons, List.length_nil, Nat.reduceAdd, Nat.reduceSub, Array.replicate_succ, Array.replicate_zero, List.push_toArray, List.append_toArray, List.nil_append, List.cons_append]
  go_wp2_with fail
  rw [hW1.out]
  clear hW1
  have ls1 := kO.lt
  have hlen : ∀ (pre : List Rn) (x : Rn), pre ++ [x] <+: xs → pre.length < 1000000 := fun pre x h => by
    have := h.length_le
    simp at this
    omega
  refine rangeXR 5 7 169 (gf := g) (lb := lb) rfl eg (hseq.later (hF0.mono fun _ _ h => h.elim)) rfl (fun _ h => h.elim) (fun k h => by have := hK k h; omega)
    (fun X pre W => BoxX X W s 75 169 (s + 3) 3 pre.length (fl rnC pre) ∧ Below s w W ∧ ∀ k, X k → s ≤ k)
    (fun _ _ _ _ => False)
    (fun X pre A B h hf => ⟨h.1.far hf (by rintro (h | h | h | h) <;> first | exact h | exact h.elim | omega) (fun g hg => by rintro (h | h | h | h) <;> first | exact h | exact h.elim | omega),
      h.2.1.trans (hf.below (by rw [← hs]; exact h.2.1.size) (fun k hk => by rintro (h' | h' | h' | h'); exact h'; have := h.2.2 k h'; omega; omega; omega)), h.2.2⟩)
    (fun _ _ _ _ _ h _ => h.elim)
    (fun X X' pre A h hX => ⟨h.1.new hX, h.2.1, fun k hk => (hX _ hk).elim (h.2.2 k) (fun h' => by have := h.2.1.size; omega)⟩)
    ⟨⟨_, kO, World.ownsRow_nil _ _ _ _, id, fun _ _ => id⟩, hb0, fun _ h => h.elim⟩ ?assign ?body ?done (fun _ _ _ _ _ _ h _ => h.elim)
  case assign =>
    intro m l x W C hC
    obtain ⟨xn, xc, xl⟩ := x
    simp only [rnV, List.setIfInBounds_toArray, List.set_cons_succ, List.set_cons_zero] at hC ⊢
    gi_wp2
    exact hC
  case body =>
    rintro m l X pre x Bx Wa W hsz hXlt ⟨hbox, hB, hXs⟩ hpre hBx kx hBa
    simp only [List.setIfInBounds_toArray, List.set_cons_succ, List.set_cons_zero]
    have hlt := hlen pre x hpre
    obtain ⟨v, hv, hrow, hXB, hXg⟩ := hbox.ex
    obtain ⟨A', cap', rfl, _⟩ := own_Rd hrow
    obtain ⟨pl, hpl⟩ : ∃ pl, pre.length = pl := ⟨_, rfl⟩
    obtain ⟨xa, xo, xl⟩ := x
    dsimp only at kx
    have cx := kx.cell
    have cv := hv.cell
    have fv := hv.frozen
    have kN := Blk.new W 169 #[.int .i64 xa, .int .i64 xo, .int .i64 xl]
    have hXl2 : ∀ k, X k → k < W.heap.size := fun k hk => by have := (hXlt k hk).1; have := kx.lt; omega
    rw [hpl] at hrow hv cv hlt hXg
    gi_wp2_with (gi_at_builtin; refine wpListIn_append_x _ rfl (.tmp 8) (.tmp 10) 75 rfl (s + 3) 169 i0 (.agg #[.int .i64 0, .int .i64 0, .int .i64 0]) 3 24 Tryz.underlying75 hi hz0 hz1 hz2 rfl (by decide) _ pl (fl rnC pre) rfl (hrow.alloc _) ⟨W.heap.size, 0, none⟩ 1 1 [.int .i64 xa, .int .i64 xo, .int .i64 xl] rfl rfl (news_rn kN) news_oneR (by unfold maxLen; omega) (by omega) (by simp; omega) ?_; intro v' w1 hown' hgrow hblk; rw [← rnC_snoc pre (xa, xo, xl)] at hown'; obtain ⟨hv1, hb2, hf2⟩ := BoxX.appended hv (by decide) hrow hXB hXg hown' hgrow hblk hXl2; obtain ⟨A2, cap2, rfl, _⟩ := own_Rd hown'; have cv1 := hv1.cell; have fv1 := hv1.frozen)
    have hgx : ∀ g, (Value.slice A' pl cap').ownBlock = some g → s + 3 ≤ g ∧ ¬ X g := fun g hg => ⟨(hrow.lt g hg).1, hXg g hg⟩
    have hf3 := hf2 (fun k => k = s ∨ (Value.slice A' pl cap').ownBlock = some k) (.inl rfl) (fun g hg => .inr hg)
    refine ⟨hf3.mono fun k _ h => ?_, ?_, hB.trans (hf3.below (by have := hB.size; omega) fun k hk => ?_), hXs⟩
    · rintro (h' | h' | h' | h')
      · have := hK k h'
        rcases h with h | h
        · omega
        · have := hgx k h; omega
      · rcases h with h | h
        · exact hXB (h ▸ h')
        · exact (hgx k h).2 h'
      · rcases h with h | h
        · omega
        · have := hgx k h; omega
      · rcases h with h | h
        · omega
        · have := hgx k h; omega
    · rw [List.length_append, List.length_singleton, hpl]; exact hb2
    · rintro (h | h)
      · omega
      · have := hgx _ h; omega
  case done =>
    rintro X W hsz ⟨hbox, hB, hXs⟩ hd
    obtain ⟨v, hv, hrow, hXB, hXg⟩ := hbox.ex
    have cv := hv.cell
    obtain ⟨A', cap', rfl, _⟩ := own_Rd hrow
    rw [hs0] at hd hsz
    go_wp2_with fail
    rw [hs0]
    have hfp : Far (fun k => k = s + 1) W (W.putObj (s + 1) (.deferred none)) := Far.putObj (T := fun k => k = s + 1) (Far.refl _ _) (fun _ => rfl) _
    have hrow3 := ownsRow_far hrow hfp (fun g hg h => by have := (hrow.lt g hg).1; omega)
    exact leave_mark (v := .slice A' xs.length cap') hd (by simp [results, Tryz.results140, go_sem]) ⟨_, rfl, ownsRow_base hrow3 (by omega), by rw [hs]; exact hB.trans (hfp.below (by have := hB.size; omega) (fun k hk => by omega))⟩

theorem collectR_any (g : Nat) (lb : Array Value) (K : Nat → Prop) (xs : List Rn) (w : World) (hxs : xs.length ≤ 1000000)
    (hseq : SeqX Tryz.prog g lb rnA (fun _ => False) K xs w) (eg : ∀ args w, (callFunc g args).run Tryz.prog w = .ok (.enter g args) w) (hK : ∀ k, K k → k < w.heap.size) :
    Calls Tryz.prog 86 #[.func (.func g) #[] lb] w fun e w' => ∃ v, e = .returned v ∧ w'.ownsRow w.heap.size 169 3 v xs.length (fl rnC xs) ∧ Below w.heap.size w w' := by
  have HA := Lib.hid (appendSeqR_any g lb K xs w hxs hseq eg hK)
  go_enter Tryz.func86, Tryz.ntmps86
  go_wp2_with (go_at_call 140; refine (HA.out).mono ?_; rintro e w1 ⟨v, rfl, hown, hf⟩)
  go_ret
  exact ⟨v, rfl, hown, hf⟩
end Go.Proofs.YtefnnfcfigcikaaGreat
namespace Go.Proofs.YtefnnfcfigcikaaGreat
open Go Go.Proofs Go.RowKit Go.Pol

theorem wp_valU {P : Program} {o : Oper} {a : Act} {w w' : World} {v : Value} {K : Act → World → Prop} {Q : Exit → Act → World → Prop} (h : (execOp a.eval o).run P w = .ok (.value v) w') (hK : K (a.put o.dst v) w') : o.wp P a w K Q := by
  unfold Oper.wp; rw [h]; exact hK
theorem wp_skipU {P : Program} {o : Oper} {a : Act} {w w' : World} {K : Act → World → Prop} {Q : Exit → Act → World → Prop} (hd : o.dst = none) (h : (execOp a.eval o).run P w = .ok .skip w') (hK : K a w') : o.wp P a w K Q := by
  unfold Oper.wp; rw [h]; show K (a.put o.dst undef) w'; rw [hd]; exact hK
theorem wp_enterU {P : Program} {o : Oper} {a : Act} {w w1 : World} {f : FuncId} {args : Array Value} {v : Value} {C : World → Prop} {K : Act → World → Prop} {Q : Exit → Act → World → Prop} (h : (execOp a.eval o).run P w = .ok (.enter f args) w1)
    (hC : Calls P f args w1 fun e w' => e = .returned v ∧ C w') (hK : ∀ w', C w' → K (a.put o.dst v) w') : o.wp P a w K Q := by
  unfold Oper.wp; rw [h]
  show Calls P f args w1 _
  refine hC.mono ?_
  rintro e w' ⟨rfl, hw⟩
  exact hK w' hw
theorem step_plainU {P : Program} {ops : Array Oper} {o : Oper} {a : Act} {w : World} {K : Act → World → Prop} {Q : Exit → Act → World → Prop} {E : Prop} (hg : o.guard = none) (h : o.wp P a w K Q) :
    if Region.wanted o (yielded ops a.tmps) = true then o.wp P a w K Q else E := by
  rw [if_pos (by simp [Region.wanted, hg])]; exact h
theorem putU (a : Act) (t : Nat) (x y : Value) : (a.put (some t) x).put (some t) y = a.put (some t) y := by simp [Act.put]
theorem swapU (a : Act) (t u : Nat) (x y : Value) (h : t ≠ u) : (a.put (some t) x).put (some u) y = (a.put (some u) y).put (some t) x := Act.put_comm a x y (fun d hd he => by cases hd; cases he; exact h rfl)
theorem evalU_same (a : Act) (t : Nat) (x : Value) (h : t < a.tmps.size) : (a.put (some t) x).eval (.tmp t) = x := by simp [Act.eval, Act.put, h]
theorem evalU_ne (a : Act) (t u : Nat) (x : Value) (h : t ≠ u) : (a.put (some t) x).eval (.tmp u) = a.eval (.tmp u) := Act.eval_put (fun d hd he => by cases hd; cases he; exact h rfl)
theorem sizeU (a : Act) (t : Nat) (x : Value) : (a.put (some t) x).tmps.size = a.tmps.size := by simp [Act.put]
/-- the operations of a region of a body, by its number -/
def regOpsU (n : Nat) : Code → Option (Array Oper)
  | .region id ops _ => if id = n then some ops else none
  | .seq a b => match regOpsU n a with
    | some l => some l
    | none => regOpsU n b
  | .block _ c => regOpsU n c
  | .loop c => regOpsU n c
  | .scope c => regOpsU n c
  | .cond _ a b => match regOpsU n a with
    | some l => some l
    | none => regOpsU n b
  | _ => none
/-- a call whose value depends on the world -/
theorem wp_enterV {P : Program} {o : Oper} {a : Act} {w w1 : World} {f : FuncId} {args : Array Value} {C : Value → World → Prop} {K : Act → World → Prop} {Q : Exit → Act → World → Prop} (h : (execOp a.eval o).run P w = .ok (.enter f args) w1)
    (hC : Calls P f args w1 fun e w' => ∃ v, e = .returned v ∧ C v w') (hK : ∀ v w', C v w' → K (a.put o.dst v) w') : o.wp P a w K Q := by
  unfold Oper.wp; rw [h]
  show Calls P f args w1 _
  refine hC.mono ?_
  rintro e w' ⟨v, rfl, hw⟩
  exact hK v w' hw
end Go.Proofs.YtefnnfcfigcikaaGreat
namespace Go.Pol
open Go Go.RowKit
/-- the cells of a saved state -/
def stC (v1 v2 v3 v4 : Value) (cs hs : Nat → Int) : List Value := v1 :: v2 :: v3 :: rfC v4 cs hs
theorem stC_one {v1 v2 v3 v4 : Value} (h1 : v1.oneCell' = true) (h2 : v2.oneCell' = true) (h3 : v3.oneCell' = true) (h4 : v4.oneCell' = true) (cs hs : Nat → Int) : ∀ x ∈ stC v1 v2 v3 v4 cs hs, x.oneCell' = true := by
  intro x hx
  simp only [stC, List.mem_cons] at hx
  rcases hx with rfl | rfl | rfl | hx
  · exact h1
  · exact h2
  · exact h3
  · exact rfC_one h4 cs hs x hx
end Go.Pol
namespace Go.Proofs.YtefnnfcfigcikaaGreat
open Go Go.Proofs Go.RowKit Go.Pol Go.Shelf
attribute [local go_sem] Oper.semAt_some Go.Pol.wide_fn Go.Pol.wide_depth Go.Pol.wide_fn' Go.Pol.wide_depth'

theorem wp_storeU {P : Program} {op : Oper} {a : Act} {w : World} {K : Act → World → Prop} {Q : Exit → Act → World → Prop} (ty : TypeId) (x y : Operand) (ho : op.op = .store ty x y) (hd : op.dst = none)
    (b o : Nat) (cells : Array Value) (hx : a.eval x = .pointer (some ⟨b, o, none⟩)) (hy : a.eval y = .agg cells)
    (ht : w.there b o cells.size) (hi : (P.info? ty).map (·.size) = some cells.size) (h1 : cells.all (·.oneCell') = true)
    (h : K a (w.setCells b o cells.toList)) : op.wp P a w K Q :=
  wp_store_mid ty x y ho b o cells hx hy ht hi h1 (by rw [hd]; exact h)
theorem infoSt : (Tryz.prog.info? 81).map (·.size) = some 18 := by kernel_rfl
def lpput (a : Act) (v10 v11 v12 v13 v14 v15 v16 v17 v3 : Value) : Act := ((((((((a.put (some 10) v10).put (some 11) v11).put (some 12) v12).put (some 13) v13).put (some 14) v14).put (some 15) v15).put (some 16) v16).put (some 17) v17).put (some 3) v3
theorem lp_self (a : Act) (hsz : 68 ≤ a.tmps.size) : lpput a (a.eval (.tmp 10)) (a.eval (.tmp 11)) (a.eval (.tmp 12)) (a.eval (.tmp 13)) (a.eval (.tmp 14)) (a.eval (.tmp 15)) (a.eval (.tmp 16)) (a.eval (.tmp 17)) (a.eval (.tmp 3)) = a := by
  have h : ∀ t : Nat, t < 68 → a.put (some t) (a.eval (.tmp t)) = a := fun t ht => by
    have : a.tmps.setIfInBounds t (a.eval (.tmp t)) = a.tmps := by
      apply Array.ext_getElem?
      intro i
      rw [Array.getElem?_setIfInBounds]
      split
      · rename_i e; subst e
        have : t < a.tmps.size := by omega
        simp [Act.eval, this]
      · rfl
    simp only [Act.put, this]
  unfold lpput
  rw [h 10 (by omega), h 11 (by omega), h 12 (by omega), h 13 (by omega), h 14 (by omega), h 15 (by omega), h 16 (by omega), h 17 (by omega), h 3 (by omega)]
section
variable (a : Act) (v10 v11 v12 v13 v14 v15 v16 v17 v3 x : Value)
theorem lp_10 : (lpput a v10 v11 v12 v13 v14 v15 v16 v17 v3).put (some 10) x = lpput a x v11 v12 v13 v14 v15 v16 v17 v3 := by
  unfold lpput
  rw [swapU _ 3 10 _ _ (by omega), swapU _ 17 10 _ _ (by omega), swapU _ 16 10 _ _ (by omega), swapU _ 15 10 _ _ (by omega), swapU _ 14 10 _ _ (by omega), swapU _ 13 10 _ _ (by omega), swapU _ 12 10 _ _ (by omega), swapU _ 11 10 _ _ (by omega), putU]
theorem lp_11 : (lpput a v10 v11 v12 v13 v14 v15 v16 v17 v3).put (some 11) x = lpput a v10 x v12 v13 v14 v15 v16 v17 v3 := by
  unfold lpput
  rw [swapU _ 3 11 _ _ (by omega), swapU _ 17 11 _ _ (by omega), swapU _ 16 11 _ _ (by omega), swapU _ 15 11 _ _ (by omega), swapU _ 14 11 _ _ (by omega), swapU _ 13 11 _ _ (by omega), swapU _ 12 11 _ _ (by omega), putU]
theorem lp_12 : (lpput a v10 v11 v12 v13 v14 v15 v16 v17 v3).put (some 12) x = lpput a v10 v11 x v13 v14 v15 v16 v17 v3 := by
  unfold lpput
  rw [swapU _ 3 12 _ _ (by omega), swapU _ 17 12 _ _ (by omega), swapU _ 16 12 _ _ (by omega), swapU _ 15 12 _ _ (by omega), swapU _ 14 12 _ _ (by omega), swapU _ 13 12 _ _ (by omega), putU]
theorem lp_13 : (lpput a v10 v11 v12 v13 v14 v15 v16 v17 v3).put (some 13) x = lpput a v10 v11 v12 x v14 v15 v16 v17 v3 := by
  unfold lpput
  rw [swapU _ 3 13 _ _ (by omega), swapU _ 17 13 _ _ (by omega), swapU _ 16 13 _ _ (by omega), swapU _ 15 13 _ _ (by omega), swapU _ 14 13 _ _ (by omega), putU]
theorem lp_14 : (lpput a v10 v11 v12 v13 v14 v15 v16 v17 v3).put (some 14) x = lpput a v10 v11 v12 v13 x v15 v16 v17 v3 := by
  unfold lpput
  rw [swapU _ 3 14 _ _ (by omega), swapU _ 17 14 _ _ (by omega), swapU _ 16 14 _ _ (by omega), swapU _ 15 14 _ _ (by omega), putU]
theorem lp_15 : (lpput a v10 v11 v12 v13 v14 v15 v16 v17 v3).put (some 15) x = lpput a v10 v11 v12 v13 v14 x v16 v17 v3 := by
  unfold lpput
  rw [swapU _ 3 15 _ _ (by omega), swapU _ 17 15 _ _ (by omega), swapU _ 16 15 _ _ (by omega), putU]
theorem lp_16 : (lpput a v10 v11 v12 v13 v14 v15 v16 v17 v3).put (some 16) x = lpput a v10 v11 v12 v13 v14 v15 x v17 v3 := by
  unfold lpput
  rw [swapU _ 3 16 _ _ (by omega), swapU _ 17 16 _ _ (by omega), putU]
theorem lp_17 : (lpput a v10 v11 v12 v13 v14 v15 v16 v17 v3).put (some 17) x = lpput a v10 v11 v12 v13 v14 v15 v16 x v3 := by
  unfold lpput
  rw [swapU _ 3 17 _ _ (by omega), putU]
theorem lp_3 : (lpput a v10 v11 v12 v13 v14 v15 v16 v17 v3).put (some 3) x = lpput a v10 v11 v12 v13 v14 v15 v16 v17 x := by
  unfold lpput
  rw [putU]
end
section
variable (a : Act) (hsz : 68 ≤ a.tmps.size) (v10 v11 v12 v13 v14 v15 v16 v17 v3 : Value)
include hsz
theorem lpev_10 : (lpput a v10 v11 v12 v13 v14 v15 v16 v17 v3).eval (.tmp 10) = v10 := by
  unfold lpput
  rw [evalU_ne _ 3 10 _ (by omega), evalU_ne _ 17 10 _ (by omega), evalU_ne _ 16 10 _ (by omega), evalU_ne _ 15 10 _ (by omega), evalU_ne _ 14 10 _ (by omega), evalU_ne _ 13 10 _ (by omega), evalU_ne _ 12 10 _ (by omega), evalU_ne _ 11 10 _ (by omega), evalU_same _ _ _ (by omega)]
theorem lpev_11 : (lpput a v10 v11 v12 v13 v14 v15 v16 v17 v3).eval (.tmp 11) = v11 := by
  unfold lpput
  rw [evalU_ne _ 3 11 _ (by omega), evalU_ne _ 17 11 _ (by omega), evalU_ne _ 16 11 _ (by omega), evalU_ne _ 15 11 _ (by omega), evalU_ne _ 14 11 _ (by omega), evalU_ne _ 13 11 _ (by omega), evalU_ne _ 12 11 _ (by omega), evalU_same _ _ _ (by rw [sizeU]; omega)]
theorem lpev_12 : (lpput a v10 v11 v12 v13 v14 v15 v16 v17 v3).eval (.tmp 12) = v12 := by
  unfold lpput
  rw [evalU_ne _ 3 12 _ (by omega), evalU_ne _ 17 12 _ (by omega), evalU_ne _ 16 12 _ (by omega), evalU_ne _ 15 12 _ (by omega), evalU_ne _ 14 12 _ (by omega), evalU_ne _ 13 12 _ (by omega), evalU_same _ _ _ (by rw [sizeU, sizeU]; omega)]
theorem lpev_13 : (lpput a v10 v11 v12 v13 v14 v15 v16 v17 v3).eval (.tmp 13) = v13 := by
  unfold lpput
  rw [evalU_ne _ 3 13 _ (by omega), evalU_ne _ 17 13 _ (by omega), evalU_ne _ 16 13 _ (by omega), evalU_ne _ 15 13 _ (by omega), evalU_ne _ 14 13 _ (by omega), evalU_same _ _ _ (by rw [sizeU, sizeU, sizeU]; omega)]
theorem lpev_14 : (lpput a v10 v11 v12 v13 v14 v15 v16 v17 v3).eval (.tmp 14) = v14 := by
  unfold lpput
  rw [evalU_ne _ 3 14 _ (by omega), evalU_ne _ 17 14 _ (by omega), evalU_ne _ 16 14 _ (by omega), evalU_ne _ 15 14 _ (by omega), evalU_same _ _ _ (by rw [sizeU, sizeU, sizeU, sizeU]; omega)]
theorem lpev_15 : (lpput a v10 v11 v12 v13 v14 v15 v16 v17 v3).eval (.tmp 15) = v15 := by
  unfold lpput
  rw [evalU_ne _ 3 15 _ (by omega), evalU_ne _ 17 15 _ (by omega), evalU_ne _ 16 15 _ (by omega), evalU_same _ _ _ (by rw [sizeU, sizeU, sizeU, sizeU, sizeU]; omega)]
theorem lpev_16 : (lpput a v10 v11 v12 v13 v14 v15 v16 v17 v3).eval (.tmp 16) = v16 := by
  unfold lpput
  rw [evalU_ne _ 3 16 _ (by omega), evalU_ne _ 17 16 _ (by omega), evalU_same _ _ _ (by rw [sizeU, sizeU, sizeU, sizeU, sizeU, sizeU]; omega)]
theorem lpev_17 : (lpput a v10 v11 v12 v13 v14 v15 v16 v17 v3).eval (.tmp 17) = v17 := by
  unfold lpput
  rw [evalU_ne _ 3 17 _ (by omega), evalU_same _ _ _ (by rw [sizeU, sizeU, sizeU, sizeU, sizeU, sizeU, sizeU]; omega)]
theorem lpev_3 : (lpput a v10 v11 v12 v13 v14 v15 v16 v17 v3).eval (.tmp 3) = v3 := by
  unfold lpput
  rw [evalU_same _ _ _ (by rw [sizeU, sizeU, sizeU, sizeU, sizeU, sizeU, sizeU, sizeU]; omega)]
omit hsz in
theorem lpev_0 : (lpput a v10 v11 v12 v13 v14 v15 v16 v17 v3).eval (.tmp 0) = a.eval (.tmp 0) := by
  unfold lpput
  rw [evalU_ne _ 3 0 _ (by omega), evalU_ne _ 17 0 _ (by omega), evalU_ne _ 16 0 _ (by omega), evalU_ne _ 15 0 _ (by omega), evalU_ne _ 14 0 _ (by omega), evalU_ne _ 13 0 _ (by omega), evalU_ne _ 12 0 _ (by omega), evalU_ne _ 11 0 _ (by omega), evalU_ne _ 10 0 _ (by omega)]
end

noncomputable def saveOps : Array Oper := (Tryz.f33.body.bind (regOpsU 3)).getD #[]
/-- the value of the closure that goes through the runs -/
def clR (B1 : Nat) : Value := .func (.func 141) #[] #[.pointer (some ⟨B1, 0, none⟩)]
def SaveInv (a0 : Act) (w0 : World) (b : Nat) (V : Vm) (rv : Value) (D : Nat → Bool) (a : Act) (w : World) : Prop :=
  ∃ (v10 v11 v12 v13 v14 v15 v16 v17 v3 : Value) (B1 s3 : Nat), a = lpput a0 v10 v11 v12 v13 v14 v15 v16 v17 v3 ∧ Below w0.heap.size w0 w ∧ (D 0 = true → v10 = .pointer (some ⟨b, 0, none⟩)) ∧
    (D 1 = true → v11 = clR B1 ∧ w0.heap.size ≤ B1 ∧ Blk w B1 30 #[.pointer (some ⟨b, 0, none⟩)]) ∧
    (D 2 = true → w.ownsRow w0.heap.size 169 3 v12 (vrunsL V 1024).length (fl rnC (vrunsL V 1024))) ∧
    (D 3 = true → v13 = .pointer (some ⟨b, 0, none⟩)) ∧ (D 4 = true → v14 = .pointer (some ⟨b, 0, none⟩)) ∧ (D 5 = true → v15 = .pointer (some ⟨b, 67585, none⟩)) ∧ (D 6 = true → v16 = rfV rv V.rf.calls V.rf.hits) ∧
    (D 7 = true → v17 = .agg (stC v12 (.slice none 0 0) (.slice none 0 0) rv V.rf.calls V.rf.hits).toArray) ∧
    (D 8 = true → v3 = .pointer (some ⟨s3, 0, none⟩) ∧ w0.heap.size ≤ s3 ∧ Blk w s3 81 (if D 9 = true then (stC v12 (.slice none 0 0) (.slice none 0 0) rv V.rf.calls V.rf.hits).toArray else (stC (.slice none 0 0) (.slice none 0 0) (.slice none 0 0) (.slice none 0 0) (fun _ => 0) (fun _ => 0)).toArray)) ∧
    (D 9 = true → D 8 = true ∧ D 7 = true) ∧ (D 7 = true → D 2 = true ∧ D 6 = true)
attribute [local irreducible] Oper.wp in
set_option maxHeartbeats 3200000 in
theorem save_first {Q : Exit → Act → World → Prop} (a0 : Act) (w0 : World) (b : Nat) (cs : Array Value) (V : Vm) (A : Option Addr) (n cap : Nat) (hsz : 68 ≤ a0.tmps.size) (hp0 : a0.eval (.tmp 0) = .pointer (some ⟨b, 0, none⟩))
    (kS : Blk w0 b 114 cs) (hc : SysC cs (.slice A n cap) V)
    (hQ : ∀ (B1 s3 : Nat) (v12 : Value) (w' : World), w0.heap.size ≤ s3 → Blk w' s3 81 (stC v12 (.slice none 0 0) (.slice none 0 0) (.slice A n cap) V.rf.calls V.rf.hits).toArray → w'.ownsRow w0.heap.size 169 3 v12 (vrunsL V 1024).length (fl rnC (vrunsL V 1024)) → Below w0.heap.size w0 w' →
      Q .normal (lpput a0 (.pointer (some ⟨b, 0, none⟩)) (clR B1) v12 (.pointer (some ⟨b, 0, none⟩)) (.pointer (some ⟨b, 0, none⟩)) (.pointer (some ⟨b, 67585, none⟩)) (rfV (.slice A n cap) V.rf.calls V.rf.hits) (.agg (stC v12 (.slice none 0 0) (.slice none 0 0) (.slice A n cap) V.rf.calls V.rf.hits).toArray) (.pointer (some ⟨s3, 0, none⟩))) w') :
    (Code.region 3 saveOps true).wp Tryz.prog Q a0 w0 := by
  conv => arg 2; arg 2; whnf
  have hbl := kS.lt
  refine region_inv (SaveInv a0 w0 b V (.slice A n cap)) (by kernel_rfl) (by simp [edgesDown, Region.binds]) ?ext ?start ?steps ?fin
  case ext =>
    intro D D' a w h hI
    have e : ∀ i, i < 10 → D i = D' i := h
    have : SaveInv a0 w0 b V (.slice A n cap) D a w = SaveInv a0 w0 b V (.slice A n cap) D' a w := by
      unfold SaveInv
      simp only [e 0 (by omega), e 1 (by omega), e 2 (by omega), e 3 (by omega), e 4 (by omega), e 5 (by omega), e 6 (by omega), e 7 (by omega), e 8 (by omega), e 9 (by omega)]
    exact this ▸ hI
  case start =>
    intro D h
    have n : ∀ i, i < 10 → ¬ (D i = true) := fun i hi => by rw [h i hi]; decide
    exact ⟨_, _, _, _, _, _, _, _, _, 0, 0, (lp_self a0 hsz).symm, (Below.refl _ w0).drew, fun h => absurd h (n 0 (by omega)), fun h => absurd h (n 1 (by omega)), fun h => absurd h (n 2 (by omega)), fun h => absurd h (n 3 (by omega)), fun h => absurd h (n 4 (by omega)), fun h => absurd h (n 5 (by omega)), fun h => absurd h (n 6 (by omega)), fun h => absurd h (n 7 (by omega)), fun h => absurd h (n 8 (by omega)), fun h => absurd h (n 9 (by omega)), fun h => absurd h (n 7 (by omega))⟩
  case fin =>
    rintro a w ⟨v10, v11, v12, v13, v14, v15, v16, v17, v3, B1, s3, rfl, hb, h0, h1, h2, h3, h4, h5, h6, h7, h8, _, _⟩
    obtain rfl := h0 rfl
    obtain ⟨rfl, _, _⟩ := h1 rfl
    obtain rfl := h3 rfl
    obtain rfl := h4 rfl
    obtain rfl := h5 rfl
    obtain rfl := h6 rfl
    obtain rfl := h7 rfl
    obtain ⟨rfl, g8, k8⟩ := h8 rfl
    simp only [if_true] at k8
    exact hQ B1 s3 v12 w g8 k8 (h2 rfl) hb
  case steps =>
    refine ⟨?_, ?_, ?_, ?_, ?_, ?_, ?_, ?_, ?_, ?_, trivial⟩
    all_goals (rintro D a w ⟨v10, v11, v12, v13, v14, v15, v16, v17, v3, B1, s3, rfl, hb, h0, h1, h2, h3, h4, h5, h6, h7, h8, h98, h76⟩ hk he)
    all_goals (refine step_plainU rfl ?_)
    · refine wp_valU (v := .pointer (some ⟨b, 0, none⟩)) (w' := w) (by simp only [execOp, lpev_0, hp0]; simp [go_sem]) ?_
      show SaveInv a0 w0 b V (.slice A n cap) _ ((lpput a0 v10 v11 v12 v13 v14 v15 v16 v17 v3).put (some 10) _) _; rw [lp_10]
      refine ⟨_, _, _, _, _, _, _, _, _, B1, s3, rfl, hb, ?_⟩
      simp only [Nat.reduceBEq, Bool.true_or, Bool.false_or, forall_const]
      exact ⟨trivial, h1, h2, h3, h4, h5, h6, h7, h8, h98, h76⟩
    · have e := h0 (he ⟨0, .data⟩ (by simp) rfl)
      have ev' : (lpput a0 v10 v11 v12 v13 v14 v15 v16 v17 v3).tmps[10]?.getD undef = .pointer (some ⟨b, 0, none⟩) := by
        have := (lpev_10 a0 hsz v10 v11 v12 v13 v14 v15 v16 v17 v3).trans e
        simpa [Act.eval] using this
      refine wp_enterV (f := 87) (args := #[.pointer (some ⟨b, 0, none⟩)]) (w1 := w) (C := fun v w' => v = clR w.heap.size ∧ w' = w.alloc (.cells #[.pointer (some ⟨b, 0, none⟩)] 30)) (by simp only [execOp]; simp [go_sem, ev']) ((vruns_any b w).mono fun e w' ⟨h1, h2⟩ => ⟨_, h1, rfl, h2⟩) ?_
      rintro v w' ⟨rfl, rfl⟩
      show SaveInv a0 w0 b V (.slice A n cap) _ ((lpput a0 v10 v11 v12 v13 v14 v15 v16 v17 v3).put (some 11) _) _; rw [lp_11]
      refine ⟨_, _, _, _, _, _, _, _, _, w.heap.size, s3, rfl, hb.alloc hb.size _, ?_⟩
      simp only [Nat.reduceBEq, Nat.reduceAdd, Bool.true_or, Bool.false_or, forall_const]
      have hbA := (Below.refl w.heap.size w).alloc (Nat.le_refl _) (.cells #[.pointer (some ⟨b, 0, none⟩)] 30)
      exact ⟨h0, ⟨trivial, hb.size, Blk.new _ _ _⟩, fun d => ownsRow_call (h2 d) hbA, h3, h4, h5, h6, h7, fun d => ⟨(h8 d).1, (h8 d).2.1, (h8 d).2.2.call hbA⟩, h98, h76⟩
    · obtain ⟨rfl, g1, k1⟩ := h1 (he ⟨1, .data⟩ (by simp) rfl)
      have ev' : (lpput a0 v10 (clR B1) v12 v13 v14 v15 v16 v17 v3).tmps[11]?.getD undef = clR B1 := by
        have := lpev_11 a0 hsz v10 (clR B1) v12 v13 v14 v15 v16 v17 v3
        simpa [Act.eval] using this
      have hd7 : D 7 = false := by cases h : D 7 with | false => rfl | true => rw [(h76 h).1] at hk; cases hk
      have hd9 : D 9 = false := by
        cases h : D 9 with
        | false => rfl
        | true => rw [(h98 h).2] at hd7; cases hd7
      refine wp_enterV (f := 86) (args := #[clR B1]) (w1 := w) (C := fun v w' => w'.ownsRow w.heap.size 169 3 v (vrunsL V 1024).length (fl rnC (vrunsL V 1024)) ∧ Below w.heap.size w w') (by simp only [execOp]; simp [go_sem, ev']) ((collectR_any _ _ (fun k => k = b ∨ k = B1) (vrunsL V 1024) w (Nat.le_trans (vrunsL_len V 1024) (by omega)) (vruns1_seq b B1 V cs _ _ w (.inl rfl) (.inr rfl) k1 (kS.call hb) hc) vruns1_enters (fun k hk => hk.elim (fun h => by rw [h]; exact Nat.lt_of_lt_of_le hbl hb.size) (fun h => by rw [h]; exact k1.lt))).mono fun e w' ⟨v, h1, h2, h3⟩ => ⟨v, h1, h2, h3⟩) ?_
      rintro v w' ⟨hrow, hbA⟩
      show SaveInv a0 w0 b V (.slice A n cap) _ ((lpput a0 v10 (clR B1) v12 v13 v14 v15 v16 v17 v3).put (some 12) _) _; rw [lp_12]
      refine ⟨_, _, _, _, _, _, _, _, _, B1, s3, rfl, hb.trans (hbA.mono hb.size), ?_⟩
      simp only [Nat.reduceBEq, Nat.reduceAdd, Bool.true_or, Bool.false_or, forall_const]
      simp only [hd7, hd9] at h7 h8 ⊢
      exact ⟨h0, fun _ => ⟨trivial, g1, k1.call hbA⟩, ownsRow_base hrow hb.size, h3, h4, h5, h6, fun d => (by cases d), fun d => ⟨(h8 d).1, (h8 d).2.1, (h8 d).2.2.call hbA⟩, fun d => (by cases d), fun d => (by cases d)⟩
    · refine wp_valU (v := .pointer (some ⟨b, 0, none⟩)) (w' := w) (by simp only [execOp, lpev_0, hp0]; simp [go_sem]) ?_
      show SaveInv a0 w0 b V (.slice A n cap) _ ((lpput a0 v10 v11 v12 v13 v14 v15 v16 v17 v3).put (some 13) _) _; rw [lp_13]
      refine ⟨_, _, _, _, _, _, _, _, _, B1, s3, rfl, hb, ?_⟩
      simp only [Nat.reduceBEq, Nat.reduceAdd, Bool.true_or, Bool.false_or, forall_const]
      exact ⟨h0, h1, h2, trivial, h4, h5, h6, h7, h8, h98, h76⟩
    · have e := h3 (he ⟨3, .data⟩ (by simp) rfl)
      refine wp_valU (v := .pointer (some ⟨b, 0, none⟩)) (w' := w) (by simp only [execOp, lpev_13 _ hsz, e]; simp [go_sem]) ?_
      show SaveInv a0 w0 b V (.slice A n cap) _ ((lpput a0 v10 v11 v12 v13 v14 v15 v16 v17 v3).put (some 14) _) _; rw [lp_14]
      refine ⟨_, _, _, _, _, _, _, _, _, B1, s3, rfl, hb, ?_⟩
      simp only [Nat.reduceBEq, Nat.reduceAdd, Bool.true_or, Bool.false_or, forall_const]
      exact ⟨h0, h1, h2, h3, trivial, h5, h6, h7, h8, h98, h76⟩
    · have e := h4 (he ⟨4, .data⟩ (by simp) rfl)
      refine wp_valU (v := .pointer (some ⟨b, 67585, none⟩)) (w' := w) (by simp only [execOp, lpev_14 _ hsz, e]; simp [go_sem]) ?_
      show SaveInv a0 w0 b V (.slice A n cap) _ ((lpput a0 v10 v11 v12 v13 v14 v15 v16 v17 v3).put (some 15) _) _; rw [lp_15]
      refine ⟨_, _, _, _, _, _, _, _, _, B1, s3, rfl, hb, ?_⟩
      simp only [Nat.reduceBEq, Nat.reduceAdd, Bool.true_or, Bool.false_or, forall_const]
      exact ⟨h0, h1, h2, h3, h4, trivial, h6, h7, h8, h98, h76⟩
    · have e := h5 (he ⟨5, .data⟩ (by simp) rfl)
      have kb := kS.call hb
      have hrng : w.rangeAt b 67585 (rfC (.slice A n cap) V.rf.calls V.rf.hits) := fun j v hj => by
        have hj15 : j < 15 := (List.getElem?_eq_some_iff.1 hj).1
        rw [kb.cell, hc.rf j hj15]; exact hj
      have hd7 : D 7 = false := by cases h : D 7 with | false => rfl | true => rw [(h76 h).2] at hk; cases hk
      refine wp_load_mid 79 (.tmp 15) rfl b 67585 ((lpev_15 _ hsz ..).trans e) (rfC (.slice A n cap) V.rf.calls V.rf.hits) _ hrng Tryz.underlying79 rfl infoRf ?_
      show SaveInv a0 w0 b V (.slice A n cap) _ ((lpput a0 v10 v11 v12 v13 v14 v15 v16 v17 v3).put (some 16) _) _; rw [lp_16]
      refine ⟨_, _, _, _, _, _, _, _, _, B1, s3, rfl, hb, ?_⟩
      simp only [Nat.reduceBEq, Nat.reduceAdd, Bool.true_or, Bool.false_or, forall_const]
      simp only [hd7] at h7 ⊢
      exact ⟨h0, h1, h2, h3, h4, h5, rfl, fun d => (by cases d), h8, fun d => (by rw [(h98 d).2] at hd7; cases hd7), fun d => (by cases d)⟩
    · have d2 := he ⟨2, .data⟩ (by simp) rfl
      have d6 := he ⟨6, .data⟩ (by simp) rfl
      obtain rfl := h6 d6
      obtain ⟨A', cap', rfl, _⟩ := own_Rd (h2 d2)
      have ev12 : (lpput a0 v10 v11 (.slice A' (vrunsL V 1024).length cap') v13 v14 v15 (rfV (.slice A n cap) V.rf.calls V.rf.hits) v17 v3).tmps[12]?.getD undef = .slice A' (vrunsL V 1024).length cap' := by
        have := lpev_12 a0 hsz v10 v11 (.slice A' (vrunsL V 1024).length cap') v13 v14 v15 (rfV (.slice A n cap) V.rf.calls V.rf.hits) v17 v3
        simpa [Act.eval] using this
      have ev16 : (lpput a0 v10 v11 (.slice A' (vrunsL V 1024).length cap') v13 v14 v15 (rfV (.slice A n cap) V.rf.calls V.rf.hits) v17 v3).tmps[16]?.getD undef = rfV (.slice A n cap) V.rf.calls V.rf.hits := by
        have := lpev_16 a0 hsz v10 v11 (.slice A' (vrunsL V 1024).length cap') v13 v14 v15 (rfV (.slice A n cap) V.rf.calls V.rf.hits) v17 v3
        simpa [Act.eval] using this
      refine wp_valU (v := .agg (stC (.slice A' (vrunsL V 1024).length cap') (.slice none 0 0) (.slice none 0 0) (.slice A n cap) V.rf.calls V.rf.hits).toArray) (w' := w) (by
        generalize lpput a0 v10 v11 (.slice A' (vrunsL V 1024).length cap') v13 v14 v15 (rfV (.slice A n cap) V.rf.calls V.rf.hits) v17 v3 = aa at *
        generalize (vrunsL V 1024).length = N at *
        unfold rfV rfC at ev16
        unfold stC rfC
        simp only [execOp]
        simp [go_sem, ev12, ev16]) ?_
      show SaveInv a0 w0 b V (.slice A n cap) _ ((lpput a0 v10 v11 (.slice A' (vrunsL V 1024).length cap') v13 v14 v15 (rfV (.slice A n cap) V.rf.calls V.rf.hits) v17 v3).put (some 17) _) _; rw [lp_17]
      refine ⟨_, _, _, _, _, _, _, _, _, B1, s3, rfl, hb, ?_⟩
      simp only [Nat.reduceBEq, Nat.reduceAdd, Bool.true_or, Bool.false_or, forall_const]
      exact ⟨h0, h1, h2, h3, h4, h5, fun _ => trivial, trivial, h8, fun d => ⟨(h98 d).1, trivial⟩, d2, d6⟩
    · have hd9 : D 9 = false := by cases h : D 9 with | false => rfl | true => rw [(h98 h).1] at hk; cases hk
      have hbA := (Below.refl w.heap.size w).alloc (Nat.le_refl _) (.cells (stC (.slice none 0 0) (.slice none 0 0) (.slice none 0 0) (.slice none 0 0) (fun _ => 0) (fun _ => 0)).toArray 81)
      refine wp_valU (v := .pointer (some ⟨w.heap.size, 0, none⟩)) (w' := w.alloc (.cells (stC (.slice none 0 0) (.slice none 0 0) (.slice none 0 0) (.slice none 0 0) (fun _ => 0) (fun _ => 0)).toArray 81)) (by unfold stC rfC; simp [execOp, go_sem]) ?_
      show SaveInv a0 w0 b V (.slice A n cap) _ ((lpput a0 v10 v11 v12 v13 v14 v15 v16 v17 v3).put (some 3) _) _; rw [lp_3]
      refine ⟨_, _, _, _, _, _, _, _, _, B1, w.heap.size, rfl, hb.alloc hb.size _, ?_⟩
      simp only [Nat.reduceBEq, Nat.reduceAdd, Bool.true_or, Bool.false_or, forall_const]
      simp only [hd9]
      exact ⟨h0, fun d => ⟨(h1 d).1, (h1 d).2.1, (h1 d).2.2.call hbA⟩, fun d => ownsRow_call (h2 d) hbA, h3, h4, h5, h6, h7, ⟨trivial, hb.size, Blk.new _ _ _⟩, fun d => (by cases d), h76⟩
    · have d8 := he ⟨8, .data⟩ (by simp) rfl
      have d7 := he ⟨7, .data⟩ (by simp) rfl
      obtain ⟨d2, d6⟩ := h76 d7
      obtain ⟨rfl, g8, k8⟩ := h8 d8
      obtain rfl := h7 d7
      have hrow := h2 d2
      obtain ⟨A', cap', rfl, _⟩ := own_Rd hrow
      have k8' : Blk w s3 81 (stC (.slice none 0 0) (.slice none 0 0) (.slice none 0 0) (.slice none 0 0) (fun _ => 0) (fun _ => 0)).toArray := by rw [hk] at k8; exact k8
      have hF := Far.puts (T := fun k => k = s3) rfl (stC (.slice A' (vrunsL V 1024).length cap') (.slice none 0 0) (.slice none 0 0) (.slice A n cap) V.rf.calls V.rf.hits) 0 w w (Far.refl _ _)
      have kP := Blk.puts (g := s3) (t := 81) (w := w) (cs := #[]) (stC (.slice A' (vrunsL V 1024).length cap') (.slice none 0 0) (.slice none 0 0) (.slice A n cap) V.rf.calls V.rf.hits) 0 w _ k8'
      rw [putA_all (by rfl)] at kP
      have hs18 : (stC (.slice A' (vrunsL V 1024).length cap') (.slice none 0 0) (.slice none 0 0) (.slice A n cap) V.rf.calls V.rf.hits).toArray.size = 18 := by rw [List.size_toArray]; rfl
      have ht : w.there s3 0 (stC (.slice A' (vrunsL V 1024).length cap') (.slice none 0 0) (.slice none 0 0) (.slice A n cap) V.rf.calls V.rf.hits).toArray.size := by rw [hs18]; exact z_there k8' 0 18 (by rw [List.size_toArray]; exact Nat.le_refl _)
      have hinf : (Tryz.prog.info? 81).map (·.size) = some (stC (.slice A' (vrunsL V 1024).length cap') (.slice none 0 0) (.slice none 0 0) (.slice A n cap) V.rf.calls V.rf.hits).toArray.size := by rw [hs18]; exact infoSt
      refine wp_storeU 81 (.tmp 3) (.tmp 17) rfl rfl s3 0 (stC (.slice A' (vrunsL V 1024).length cap') (.slice none 0 0) (.slice none 0 0) (.slice A n cap) V.rf.calls V.rf.hits).toArray (lpev_3 _ hsz ..) (lpev_17 _ hsz ..) ht hinf (Go.all_oneCell_toArray (stC_one rfl rfl rfl rfl _ _)) ?_
      refine ⟨_, _, _, _, _, _, _, _, _, B1, s3, rfl, hb.trans (hF.below hb.size (fun k hk e => by omega)), ?_⟩
      simp only [Nat.reduceBEq, Nat.reduceAdd, Bool.true_or, Bool.false_or, forall_const, if_true]
      exact ⟨h0, fun d => ⟨(h1 d).1, (h1 d).2.1, hF.blk (h1 d).2.2 (Blk.ne_ (h1 d).2.2 k8' (by decide))⟩, fun _ => ownsRow_far hrow hF (fun g hg h => own_other hrow (hg.trans (congrArg some h)) k8' (by decide)), h3, h4, h5, h6, fun _ => trivial, fun _ => ⟨trivial, g8, kP⟩, ⟨d8, d7⟩, h76⟩
end Go.Proofs.YtefnnfcfigcikaaGreat
namespace Go.Proofs.YtefnnfcfigcikaaGreat
open Go Go.Proofs Go.RowKit Go.Pol Go.Shelf
attribute [local go_sem] Oper.semAt_some Go.Pol.wide_fn Go.Pol.wide_depth Go.Pol.wide_fn' Go.Pol.wide_depth'

def arrI (k : IntKind) (n : Nat) (f : Nat → Int) : Array Value := ((List.range n).map fun i => .int k (f i)).toArray
theorem arrI_at {k : IntKind} {n : Nat} {f : Nat → Int} {i : Nat} (h : i < n) : (arrI k n f)[i]? = some (.int k (f i)) := by
  unfold arrI
  rw [List.getElem?_toArray, List.getElem?_map, List.getElem?_range h]; rfl
theorem eqItems_u8 (f g : Nat → Int) (w : World) : ∀ is : List Nat, (∀ i ∈ is, i < 64) → (Op.eqItems 9999 5 1 (arrI .u8 64 f) (arrI .u8 64 g) is).run Tryz.prog w = .ok (is.all fun i => f i == g i) w
  | [], _ => by simp [Op.eqItems]
  | i :: is, h => by
    have ih := eqItems_u8 f g w is (fun j hj => h j (by simp [hj]))
    have h1 := arrI_at (k := .u8) (f := f) (h i (by simp))
    have h2 := arrI_at (k := .u8) (f := g) (h i (by simp))
    have a3 := Tryz.isAgg5
    have he := run_equalIn_int (P := Tryz.prog) w 9998 5 .u8 _ (f i) (g i) Tryz.underlying5
    generalize arrI .u8 64 f = X at *
    generalize arrI .u8 64 g = Y at *
    have p1 : (part 5 X (i * 1)).run Tryz.prog w = .ok (.int .u8 (f i)) w := by simp [part, a3, h1]
    have p2 : (part 5 Y (i * 1)).run Tryz.prog w = .ok (.int .u8 (g i)) w := by simp [part, a3, h2]
    simp only [Op.eqItems, Sem.run_bind, p1, p2, he, Result.andThen_ok, List.all_cons]
    cases f i == g i with
    | false => simp
    | true => simp only [Bool.not_true, Bool.false_eq_true, if_false, Bool.true_and]; exact ih
theorem eq64_any (f g : Nat → Int) (w : World) : (Op.equalIn 10000 109 (.agg (arrI .u8 64 f)) (.agg (arrI .u8 64 g))).run Tryz.prog w = .ok ((List.range 64).all fun i => f i == g i) w := by
  obtain ⟨i0, hi⟩ := info_of_underlying (P := Tryz.prog) Tryz.underlying5
  rw [run_equalIn_array w 9999 _ _ Tryz.underlying109 hi]
  have hc : Tryz.prog.cellsOf 5 = 1 := by kernel_rfl
  rw [hc]
  exact eqItems_u8 f g w _ (fun i hi => List.mem_range.1 hi)
theorem eqItems_i (f : Nat → Int) (w : World) : ∀ is : List Nat, (∀ i ∈ is, i < 7) → (Op.eqItems 9999 3 1 (arrI .i64 7 f) (arrI .i64 7 f) is).run Tryz.prog w = .ok true w
  | [], _ => by simp [Op.eqItems]
  | i :: is, h => by
    have ih := eqItems_i f w is (fun j hj => h j (by simp [hj]))
    have h1 := arrI_at (k := .i64) (f := f) (h i (by simp))
    have a3 := Tryz.isAgg3
    have he := run_equalIn_int (P := Tryz.prog) w 9998 3 .i64 _ (f i) (f i) Tryz.underlying3
    generalize arrI .i64 7 f = X at *
    have p1 : (part 3 X (i * 1)).run Tryz.prog w = .ok (.int .i64 (f i)) w := by simp [part, a3, h1]
    rw [show (f i == f i) = true by simp] at he
    simp only [Op.eqItems, Sem.run_bind, p1, he, Result.andThen_ok, Bool.not_true, Bool.false_eq_true, if_false]
    exact ih
theorem eq7_any (f : Nat → Int) (w : World) : (Op.equalIn 10000 77 (.agg (arrI .i64 7 f)) (.agg (arrI .i64 7 f))).run Tryz.prog w = .ok true w := by
  obtain ⟨i0, hi⟩ := info_of_underlying (P := Tryz.prog) Tryz.underlying3
  rw [run_equalIn_array w 9999 _ _ Tryz.underlying77 hi]
  have hc : Tryz.prog.cellsOf 3 = 1 := by kernel_rfl
  rw [hc]
  exact eqItems_i f w _ (fun i hi => List.mem_range.1 hi)
end Go.Proofs.YtefnnfcfigcikaaGreat
namespace Go.Pol
open Go Go.RowKit
def daA (p : Int) (f : Nat → Int) : Array Value := (Value.int .i64 p :: (List.range 64).map fun i => Value.int .u8 (f i)).toArray
/-- a saved state in memory: runs, huge groups, pages with bytes, refusals -/
structure VsIs (w : World) (S : Value) (V : Vm) : Prop where
  ex : ∃ (A1 A2 A3 A4 : Option Addr) (n1 c1 n2 c2 n3 c3 n4 c4 : Nat), S = .agg (stC (.slice A1 n1 c1) (.slice A2 n2 c2) (.slice A3 n3 c3) (.slice A4 n4 c4) V.rf.calls V.rf.hits).toArray ∧
    (vrunsL V 1024).length = n1 ∧ Rd w w.heap.size A1 (fl rnC (vrunsL V 1024)) ∧ (hugL V 1024).length = n2 ∧ RI w w.heap.size A2 (hugL V 1024) ∧ (datL V 1024).length = n3 ∧ Rd w w.heap.size A3 (fl (daC V) (datL V 1024)) ∧
    V.rf.rules.length = n4 ∧ Rd w w.heap.size A4 (fl ruC V.rf.rules)
theorem VsIs.on {w w' : World} {S : Value} {V : Vm} (h : VsIs w S V) (hb : Below w.heap.size w w') : VsIs w' S V := by
  obtain ⟨A1, A2, A3, A4, n1, c1, n2, c2, n3, c3, n4, c4, h0, h1, h2, h3, h4, h5, h6, h7, h8⟩ := h.ex
  exact ⟨A1, A2, A3, A4, n1, c1, n2, c2, n3, c3, n4, c4, h0, h1, h2.on_ hb, h3, RI.more (RI.below h4 hb) hb.size, h5, h6.on_ hb, h7, h8.on_ hb⟩
theorem Rd.farN {w w' : World} {N : Nat} {A : Option Addr} {xs : List Value} {T : Nat → Prop} (h : Rd w N A xs) (hF : Far T w w') (hT : ∀ k, k < N → (∃ o, A = some ⟨k, o, none⟩) → ¬ T k) : Rd w' N A xs := fun k hk => by
  obtain ⟨b, o, e, hb, hc⟩ := h k hk
  exact ⟨b, o, e, hb, hF.cell hc (hT b hb ⟨o, e⟩)⟩
def SaveO (V : Vm) (w : World) (e : Ending) (w' : World) : Prop := ∃ S, e = .returned S ∧ VsIs w' S V ∧ Below w.heap.size w w'
theorem nzB_all (g : Pg) : (List.range 64).all (fun i => g.byt i == 0) = !nzB g := by
  unfold nzB
  rw [Bool.eq_iff_iff]
  simp
theorem daC_eq (V : Vm) (p : Nat) : daC V p = (daA p (V.pg p).byt).toList := rfl
end Go.Pol
namespace Go.Proofs.YtefnnfcfigcikaaGreat
open Go Go.Proofs Go.RowKit Go.Pol Go.Shelf
attribute [local go_sem] Oper.semAt_some Go.Pol.wide_fn Go.Pol.wide_depth Go.Pol.wide_fn' Go.Pol.wide_depth'

theorem z_results_cell1 {P : Program} {fn : Func} {a : Tmp} {t : TypeId} {tmps : Array Value} {w : World} {v : Value} {p : Addr} (h : fn.results = #[.cell a t]) (ha : tmps.getD a undef = .pointer (some p)) (hl : (loadVar t p).run P w = .ok v w) :
    (results fn tmps).run P w = .ok v w := by
  have ha' : tmps[a]?.getD undef = .pointer (some p) := by rw [← ha, Array.getD_eq_getD_getElem?]
  simp [results, h, ha', asAddr, hl]
theorem wpList_buildU {P : Program} {ops : Array Oper} {rest : List Oper} {op : Oper} {a : Act} {w : World} {Q : Exit → Act → World → Prop} (hgd : op.guard = none) (d : Nat) (hd : op.dst = some d) (t : TypeId) (parts : List (Nat × Operand)) (ho : op.op = .build t parts.toArray)
    (vals : List (Nat × Value)) (hv : parts.map (fun x => (x.1, a.eval x.2)) = vals) (cells : Array Value) (hb : P.built t vals = some cells) (h : wpList P ops Q rest (a.put (some d) (.agg cells)) w) : wpList P ops Q (op :: rest) a w :=
  wpList_plain hgd fun K hK => by
    have hb' : P.built t (parts.toArray.map fun (i, x) => (i, a.eval x)).toList = some cells := by
      rw [← hb, ← hv]; simp
    unfold Oper.wp execOp
    simp only [ho, Sem.run_bind, run_build w t _ cells hb', Result.andThen_ok]
    show K (a.put op.dst _) w
    rw [hd]
    exact hK _ _ h
theorem wpList_buildSliceU {P : Program} {ops : Array Oper} {rest : List Oper} {o : Oper} {a : Act} {w : World} {Q : Exit → Act → World → Prop} (hg : o.guard = none) (d : Nat) (hd : o.dst = some d) (t e : TypeId) (len : Nat) (parts : List (Nat × Operand)) (ho : o.op = .buildSlice t len parts.toArray)
    (vals : List (Nat × Value)) (hv : parts.map (fun x => (x.1, a.eval x.2)) = vals) (cells : Array Value) (ie : TypeInfo) (z : Value)
    (hu : P.underlying t = some (.slice e)) (hie : P.info? e = some ie) (hz : ie.zero = some z) (hsmall : ¬ len * ie.size > 2 ^ 24) (hpos : ¬ len * ie.size = 0)
    (hf : Instr.fill (fun i => some (i * ie.size, ie.size)) ((Array.range (len * ie.size)).map (z.cells[· % z.cells.size]!)) vals = some cells)
    (h : wpList P ops Q rest (a.put (some d) (.slice (some ⟨w.heap.size, 0, none⟩) len len)) (w.alloc (.cells cells e))) : wpList P ops Q (o :: rest) a w :=
  wpList_buildSlice hg t e len parts.toArray ho cells ie z hu hie hz hsmall hpos (by rw [← hf, ← hv]; simp) (by rw [hd]; exact h)
theorem infoInQ : (Tryz.prog.info? 3).map (fun i => (i.zero, i.size, i.bytes)) = some (some (.int .i64 0), 1, 8) := by kernel_rfl
theorem infoDa : (Tryz.prog.info? 171).map (fun i => (i.zero, i.size, i.bytes)) = some (some (.agg (daA 0 (fun _ => 0))), 65, 72) := by kernel_rfl
theorem built_da (p : Int) (f : Nat → Int) : Tryz.prog.built 171 [(0, .int .i64 p), (1, .agg (arrI .u8 64 f))] = some (daA p f) := by kernel_rfl
theorem fill_da (p : Int) (f : Nat → Int) : Instr.fill (fun i => some (i * 65, 65)) ((Array.range (1 * 65)).map ((Value.agg (daA 0 (fun _ => 0))).cells[· % (Value.agg (daA 0 (fun _ => 0))).cells.size]!)) [(0, .agg (daA p f))] = some (daA p f) := by kernel_rfl
set_option maxRecDepth 100000 in
set_option maxHeartbeats 3200000 in
theorem save_any (b : Nat) (V : Vm) (w : World) (hV : SysIs w b V) :
    Calls Tryz.prog 33 #[.pointer (some ⟨b, 0, none⟩)] w (SaveO V w) := by
  have hV' := Lib.hid hV
  have hb0 := (Below.refl w.heap.size w).alloc (Nat.le_refl _) (.cells (stC (.slice none 0 0) (.slice none 0 0) (.slice none 0 0) (.slice none 0 0) (fun _ => 0) (fun _ => 0)).toArray 81)
  have k2 := Blk.new w 81 (stC (.slice none 0 0) (.slice none 0 0) (.slice none 0 0) (.slice none 0 0) (fun _ => 0) (fun _ => 0)).toArray
  have V0 := hV.call hb0
  have hbs := hV.lt
  have HI := Lib.hid (fun W h => is_any b V W h)
  obtain ⟨s, hs⟩ : ∃ s, w.heap.size = s := ⟨_, rfl⟩
  have hsz0 : (w.alloc (.cells (stC (.slice none 0 0) (.slice none 0 0) (.slice none 0 0) (.slice none 0 0) (fun _ => 0) (fun _ => 0)).toArray 81)).heap.size = s + 1 := by rw [World.size_alloc, hs]
  rw [hs] at k2
  unfold stC rfC at hb0 k2 V0 hsz0
  clear hV
  go_enter Tryz.func33, Tryz.ntmps33
  go_upto_region 1 with fail
  generalize w.alloc _ = w0 at *
  try simp only [hs]
  go_wp2_with fail
  refine (HI.out _ V0).mono ?_
  rintro e9 w9 ⟨rfl, hw9⟩
  replace hw9 := hw9.symm
  subst hw9
  obtain ⟨cs, A, n, cap, kb, hc, hn, hr, hz, _⟩ := V0.ex
  have hok := V0.ok
  go_upto_region 3 with fail
  refine save_first _ _ b cs V A n cap (Nat.le_of_ble_eq_true rfl) rfl kb hc ?_
  intro B1 s3 v12 w1 hs3 k3 hrow1 hb1
  simp only [lpput, Act.put, List.setIfInBounds_toArray, List.set_cons_succ, List.set_cons_zero]
  obtain ⟨A1, cap1, rfl, r1, _, _, hA1, _⟩ := own_Rd hrow1
  have hA13 : ∀ o, A1 ≠ some ⟨s3, o, none⟩ := fun o e => by
    subst e
    exact own_other hrow1 rfl k3 (by decide)
  obtain ⟨N1, hN1⟩ : ∃ N1, (vrunsL V 1024).length = N1 := ⟨_, rfl⟩
  rw [hN1] at k3 hrow1
  try simp only [hN1]
  have kb1 := kb.call hb1
  have c67 : w1.cell? ⟨b, 67585, none⟩ = some (.slice A n cap) := by rw [kb1.cell]; exact (hc.rf 0 (by omega)).trans rfl
  have hr1 := hr.on_ hb1
  have hlen50 := (chkR_zero.1 hok.plan).1
  have hb1' := Lib.hid hb1
  have k2' := Lib.hid (k2.call hb1)
  have h01 : s + 1 ≤ w0.heap.size := Nat.le_of_eq hsz0.symm
  have B1 : Below s w w1 := by rw [← hs]; exact hb0.trans (hb1.mono (by rw [hs]; omega))
  have HCl := Lib.hid (cloneR_any A n cap V.rf.rules w1 hn (by omega) hz hr1)
  have f3 := k3.frozen
  have c3 := k3.cell
  have hc' := Lib.hid hc
  have hN1' := Lib.hid hN1
  have r1' := Lib.hid r1
  have hAs := Lib.hid hA1
  have k3' := Lib.hid k3
  clear hb1 k2 kb hr hz hok hrow1 V0 HI hn hb0 hc hN1 r1 hA1 hr1 hlen50 k3 c3 f3
  unfold rfV stC rfC
  go_wp2_with fail
  refine HCl.out.mono ?_
  rintro e w2 ⟨v4, rfl, hv4⟩
  obtain ⟨A4, c4, rfl, q1, _, _, q4, q5, hb2⟩ := hv4
  have k32 := k3'.out.call hb2
  have k22 := k2'.out.call hb2
  have kb2 := kb1.call hb2
  have r12 := Lib.hid (r1'.out.below hb2)
  have B2 := B1.trans (hb2.mono (by have := B1.size; omega))
  have c3 := k32.cell
  have f3 := k32.frozen
  have c33 : w2.cell? ⟨s3, 3, none⟩ = some (.slice A n cap) := (k32.cell 3).trans rfl
  have k33 := k32.set_ 3 (.slice A4 V.rf.rules.length c4)
  have F3 : Far (fun k => k = s3) w2 (w2.setCell ⟨s3, 3, none⟩ (.slice A4 V.rf.rules.length c4)) := Far.setCell (T := fun k => k = s3) (p := ⟨s3, 3, none⟩) (Far.refl _ w2) (fun _ => rfl) _
  have hsb1 := kb1.lt
  have hls3 := k3'.out.lt
  clear HCl c67 kb1 c3 k2'
  go_upto_region 5 with fail
  generalize w2.setCell ⟨s3, 3, none⟩ _ = w3 at *
  have k34 : Blk w3 s3 81 (stC (.slice A1 N1 cap1) (.slice none 0 0) (.slice none 0 0) (.slice A4 V.rf.rules.length c4) V.rf.calls V.rf.hits).toArray := k33
  have q13 : Rd w3 w2.heap.size A4 (fl ruC V.rf.rules) := q1.far_ F3 (fun g o e => by have := q4 g o e; show ¬ g = s3; omega)
  have r13 : Rd w3 w1.heap.size A1 (fl rnC (vrunsL V 1024)) := r12.out.farN F3 (fun k _ ⟨o, e⟩ h => hA13 o (h ▸ e))
  have kb3 := F3.blk kb2 (by show ¬ b = s3; omega)
  have k23 := F3.blk k22 (by show ¬ s = s3; omega)
  have B3 := B2.trans (F3.below (by have := B2.size; omega) (fun k hk e => by omega))
  have hsz3 : w2.heap.size ≤ w3.heap.size := F3.size
  have hsz2 := hb2.size
  have q13' := Lib.hid q13
  have r13' := Lib.hid r13
  clear F3 k32 k22 kb2 r12 B2 c33 k33 q13 r13 q1 f3 hb2 k3' r1' B1
  generalize hN4 : V.rf.rules.length = N4 at *
  have hN4' := Lib.hid hN4
  clear hN4
  obtain ⟨i0, hi, hz0, hz1, hz2⟩ := info_parts infoInQ
  obtain ⟨iD, hiD, hzD0, hzD1, hzD2⟩ := info_parts infoDa
  obtain ⟨NB, hNB⟩ : ∃ NB, w3.heap.size = NB := ⟨_, rfl⟩
  go_wp2_with fail
  go_loopw [28] (fun u wr => ∃ (k : Nat) (v2 v3 : Value), k ≤ 1024 ∧ u = .int .i64 k ∧ Blk wr s3 81 (stC (.slice A1 N1 cap1) v2 v3 (.slice A4 N4 c4) V.rf.calls V.rf.hits).toArray ∧
    wr.ownsRow NB 3 1 v2 (hugL V k).length ((hugL V k).map (Value.int .i64)) ∧ wr.ownsRow NB 171 65 v3 (datL V k).length (fl (daC V) (datL V k)) ∧ Far (fun k => k = s3 ∨ NB ≤ k) w3 wr) (fun u _ => 1024 - (intOf u).toNat)
  case atStart => exact ⟨0, _, _, by omega, rfl, k34, World.ownsRow_nil _ _ _ _, World.ownsRow_nil _ _ _ _, Far.refl _ _⟩
  case round =>
    clear k34
    obtain ⟨k, v2, v3, hk, rfl, k3, ro2, ro3, hF⟩ := hrel
    by_cases hlt : k < 1024
    · have hlt' : decide ((k : Int) < 1024) = true := by rw [decide_eq_true_eq]; omega
      have hkl : (k : Int) < 1024 := by omega
      have kbr := hF.blk kb3 (by show ¬ (b = s3 ∨ NB ≤ b); omega)
      have HFi := Lib.hid (vfirst_any (k : Int) wr)
      have hfk : fstB (k : Int) = decide (k % 16 = 0) := by
        unfold fstB
        rw [Bool.eq_iff_iff]
        simp
        omega
      rw [hfk] at HFi
      have hstH : Hid (hugL V (k + 1) = if k % 16 = 0 ∧ (V.pg k).huge = true then hugL V k ++ [(k : Int)] else hugL V k) := Lib.hid rfl
      have hstD : Hid (datL V (k + 1) = if nzB (V.pg k) = true then datL V k ++ [k] else datL V k) := Lib.hid rfl
      have hcH := (kbr.cell (1 + k * 66 + 1)).trans (hc'.out.hug hlt)
      have hlH := hugL_len V k
      have hlD := datL_len V k
      clear hfk
      by_cases hm : k % 16 = 0
      · rw [decide_eq_true hm] at HFi
        cases hh : (V.pg k).huge with
        | true =>
          rw [hh] at hcH
          have hst2 : Hid (hugL V (k + 1) = hugL V k ++ [(k : Int)]) := Lib.hid (by rw [hstH.out, if_pos ⟨hm, hh⟩])
          clear hstH hm hh
          obtain ⟨ll, hll⟩ : ∃ ll, (hugL V k).length = ll := ⟨_, rfl⟩
          rw [hll] at ro2 hlH
          obtain ⟨A2, cap2, rfl, _⟩ := own_Rd ro2
          have kN := Blk.new wr 3 #[.int .i64 (k : Int)]
          have hbN : Below wr.heap.size wr (wr.alloc (.cells #[.int .i64 (k : Int)] 3)) := (Below.refl _ _).alloc (Nat.le_refl _) _
          have hsF := hF.size
          have c3 := k3.cell
          unfold stC rfC at c3
          go_wp2_with fail
          refine HFi.out.mono ?_
          rintro e8 w8 ⟨rfl, hw8⟩
          replace hw8 := hw8.symm
          subst hw8
          go_upto_region 10 with (refine wpList_append_own _ rfl (.tmp 43) (.tmp 45) 50 rfl NB 3 i0 (.int .i64 0) 1 8 Tryz.underlying50 hi hz0 hz1 hz2 rfl (by decide) _ ll ((hugL V k).map (Value.int .i64)) rfl (ro2.alloc _) ⟨wr.heap.size, 0, none⟩ 1 1 [.int .i64 (k : Int)] rfl rfl (news_i kN) ints_one (by unfold maxLen; omega) (by omega) (by simp; omega) ?_; intro v' w7 hown' hgrow _; rw [show (hugL V k).map (Value.int .i64) ++ [Value.int .i64 (k : Int)] = (hugL V k ++ [(k : Int)]).map (Value.int .i64) by simp] at hown'; have F7 : Far (fun g => (Value.slice A2 ll cap2).ownBlock = some g) wr w7 := (Far.of_below hbN).grown hgrow (fun g hg _ => hg); have k37 := F7.blk k3 (fun h => own_other ro2 h k3 (by decide)); have f37 := k37.frozen; have c371 : w7.cell? ⟨s3, 1, none⟩ = some (.slice A2 ll cap2) := (k37.cell 1).trans rfl; obtain ⟨A2n, cap2n, rfl, _⟩ := own_Rd hown'; clear c3)
          have F8 : Far (fun k => k = s3) w7 (w7.setCell ⟨s3, 1, none⟩ (.slice A2n (ll + 1) cap2n)) := Far.setCell (T := fun k => k = s3) (p := ⟨s3, 1, none⟩) (Far.refl _ w7) (fun _ => rfl) _
          have k38 : Blk (w7.setCell ⟨s3, 1, none⟩ (.slice A2n (ll + 1) cap2n)) s3 81 (stC (.slice A1 N1 cap1) (.slice A2n (ll + 1) cap2n) v3 (.slice A4 N4 c4) V.rf.calls V.rf.hits).toArray := k37.set_ 1 _
          have ro28 : (w7.setCell ⟨s3, 1, none⟩ (.slice A2n (ll + 1) cap2n)).ownsRow NB 3 1 (.slice A2n (ll + 1) cap2n) (hugL V (k + 1)).length ((hugL V (k + 1)).map (Value.int .i64)) := by
            rw [hst2.out, List.length_append, List.length_singleton, hll]
            exact ownsRow_far hown' F8 (fun g hg h => own_other hown' (hg.trans (congrArg some h)) k37 (by decide))
          have ro38 := ownsRow_far (ownsRow_far ro3 F7 (fun g hg h => by
            rcases ro2.2 with ⟨hx, _⟩ | ⟨g', cap', cur, hx, _, hkx, _⟩
            · rw [hx] at h; cases h
            · rw [hx] at h
              have e' : g' = g := by injection h
              subst e'
              exact own_other ro3 hg (show Blk wr g' 3 cur from hkx) (by decide))) F8 (fun g hg h => by
            have := (ro3.lt g hg).1
            omega)
          have F38 : Far (fun k => k = s3 ∨ NB ≤ k) w3 (w7.setCell ⟨s3, 1, none⟩ (.slice A2n (ll + 1) cap2n)) := (hF.trans' F7 (fun i hi h => .inr (ro2.lt i h).1)).trans' F8 (fun i hi h => .inl h)
          have kb8 := F8.blk (F7.blk kbr (fun h => by have := (ro2.lt b h).1; omega)) (by show ¬ b = s3; omega)
          clear F7 F8 k37 f37 c371 hown' hgrow ro2 ro3 hF k3 kbr kN hbN hcH hlH hsF HFi
          generalize w7.setCell ⟨s3, 1, none⟩ _ = w8 at *
          generalize (.slice A2n (ll + 1) cap2n : Value) = v2n at *
          obtain ⟨X, hX⟩ : ∃ X, arrI .u8 64 (V.pg k).byt = X := ⟨_, rfl⟩
          have hXs : X.size = 64 := by rw [← hX]; simp [arrI]
          have hra : w8.rangeAt b (1 + k * 66 + 2) X.toList := fun j v hj => by
            rw [← hX] at hj
            have hj64 : j < 64 := by have := (List.getElem?_eq_some_iff.1 hj).1; simpa [arrI] using this
            rw [kb8.cell, show 1 + k * 66 + 2 + j = 1 + k * 66 + (j + 2) by omega, hc'.out.byte hlt hj64, ← hj, Array.getElem?_toList, arrI_at hj64]
          have hinf : (Tryz.prog.info? 109).map (·.size) = some X.size := by rw [hXs]; exact infoKinds
          have hinfl : (Tryz.prog.info? 109).map (·.size) = some X.toList.length := by rw [Array.length_toList]; exact hinf
          have hone : X.all (·.oneCell') = true := by
            rw [← hX]; unfold arrI
            exact Go.all_oneCell_toArray (fun x hx => by simp only [List.mem_map] at hx; obtain ⟨i, _, rfl⟩ := hx; rfl)
          have ht : ∀ Z : Array Value, Z.size = 64 → (w8.alloc (.cells Z 109)).there w8.heap.size 0 X.size := fun Z hZ => z_there (Blk.new w8 _ Z) 0 X.size (by omega)
          have hw9 : ∀ (Z : Array Value) w9, (w8.alloc (.cells Z 109)).setCells w8.heap.size 0 X.toList = w9 → Z.size = 64 → Blk w9 w8.heap.size 109 X ∧ Below w8.heap.size w8 w9 := fun Z w9 h hZ => by
            have kP := Blk.puts (g := w8.heap.size) (t := 109) (w := w8) (cs := #[]) X.toList 0 _ _ (Blk.new w8 109 Z)
            rw [putA_all (by rw [Array.length_toList]; omega)] at kP
            have hF := Far.puts (T := fun k => k = w8.heap.size) rfl X.toList 0 w8 _ ((Far.refl _ w8).alloc (.cells Z 109))
            rw [h] at kP hF
            exact ⟨kP, hF.below (Nat.le_refl _) (fun k hk e => by omega)⟩
          have heq : ∀ W, (Op.equalIn 10000 109 (.agg X) (.agg #[.int .u8 0, .int .u8 0, .int .u8 0, .int .u8 0, .int .u8 0, .int .u8 0, .int .u8 0, .int .u8 0, .int .u8 0, .int .u8 0, .int .u8 0, .int .u8 0, .int .u8 0, .int .u8 0, .int .u8 0, .int .u8 0, .int .u8 0, .int .u8 0, .int .u8 0, .int .u8 0, .int .u8 0, .int .u8 0, .int .u8 0, .int .u8 0, .int .u8 0, .int .u8 0, .int .u8 0, .int .u8 0, .int .u8 0, .int .u8 0, .int .u8 0, .int .u8 0, .int .u8 0, .int .u8 0, .int .u8 0, .int .u8 0, .int .u8 0, .int .u8 0, .int .u8 0, .int .u8 0, .int .u8 0, .int .u8 0, .int .u8 0, .int .u8 0, .int .u8 0, .int .u8 0, .int .u8 0, .int .u8 0, .int .u8 0, .int .u8 0, .int .u8 0, .int .u8 0, .int .u8 0, .int .u8 0, .int .u8 0, .int .u8 0, .int .u8 0, .int .u8 0, .int .u8 0, .int .u8 0, .int .u8 0, .int .u8 0, .int .u8 0, .int .u8 0])).run Tryz.prog W = .ok (!nzB (V.pg k)) W := fun W => by
            have h := eq64_any (V.pg k).byt (fun _ => 0) W
            rw [hX, nzB_all] at h
            exact h
          have hX' := Lib.hid hX
          have hXs' := Lib.hid hXs
          clear hX hXs
          go_upto_region 11 with (first
            | (refine wpList_load_mid rfl 109 (.tmp 53) rfl b (1 + k * 66 + 2) rfl X.toList _ hra Tryz.underlying109 rfl hinfl ?_; rw [Array.toArray_toList])
            | (refine wpList_store_mid rfl 109 (.tmp 5) (.tmp 54) rfl w8.heap.size 0 X rfl rfl (ht _ rfl) hinf hone ?_))
          generalize hW9 : World.setCells _ w8.heap.size 0 X.toList = w9
          obtain ⟨k9, hb9⟩ := hw9 _ _ hW9 rfl
          clear hW9 hw9 ht hra
          have hra9 : w9.rangeAt w8.heap.size 0 X.toList := fun j v hj => by rw [Nat.zero_add, k9.cell]; simpa using hj
          cases hnz : nzB (V.pg k) with
          | false =>
            rw [hnz] at heq
            go_wp2_with (refine wpList_load_mid rfl 109 (.tmp 5) rfl w8.heap.size 0 rfl X.toList _ hra9 Tryz.underlying109 rfl hinfl ?_; rw [Array.toArray_toList])
            go_roundw
            case rel =>
              have hstD2 : datL V (k + 1) = datL V k := by rw [hstD.out, if_neg (by rw [hnz]; decide)]
              exact ⟨k + 1, v2n, v3, by omega, by go_num, k38.call hb9, ownsRow_call ro28 hb9, by rw [hstD2]; exact ownsRow_call ro38 hb9, F38.trans (.of_below hb9)⟩
            case measure => simp [intOf]; omega
          | true =>
            rw [hnz] at heq
            go_upto_region 12 with (refine wpList_load_mid rfl 109 (.tmp 5) rfl w8.heap.size 0 rfl X.toList _ hra9 Tryz.underlying109 rfl hinfl ?_; rw [Array.toArray_toList])
            obtain ⟨D, hD⟩ : ∃ D, daA (k : Int) (V.pg k).byt = D := ⟨_, rfl⟩
            have hbt : Tryz.prog.built 171 [(0, .int .i64 (k : Int)), (1, .agg X)] = some D := by rw [← hD, ← hX'.out]; exact built_da _ _
            have hb171 : ∀ W, (Instr.build 171 #[(0, .int .i64 (k : Int)), (1, .agg X)]).run Tryz.prog W = .ok (.agg D) W := fun W => run_build W _ _ _ hbt
            have hbs := fill_da (k : Int) (V.pg k).byt
            rw [hD] at hbs
            have hDs : D.toList.length = 65 := by rw [← hD]; simp [daA]
            have hDo : ∀ u ∈ D.toList, u.oneCell' = true := by
              intro u hu
              rw [← hD, ← daC_eq] at hu
              exact daC_one V [k] u (by simpa [fl] using hu)
            have hDl : fl (daC V) [k] = D.toList := by rw [← hD, ← daC_eq]; simp [fl]
            have hstD2 : Hid (datL V (k + 1) = datL V k ++ [k]) := Lib.hid (by rw [hstD.out, if_pos hnz])
            obtain ⟨dl, hdl⟩ : ∃ dl, (datL V k).length = dl := ⟨_, rfl⟩
            rw [hdl] at ro38 hlD
            have ro39 := ownsRow_call ro38 hb9
            have k39 := k38.call hb9
            obtain ⟨A3n, cap3n, rfl, _⟩ := own_Rd ro39
            have c39 : w9.cell? ⟨s3, 2, none⟩ = some (.slice A3n dl cap3n) := (k39.cell 2).trans rfl
            clear hD hnz heq
            have hfl : Instr.fill (fun i => some (i * iD.size, iD.size)) ((Array.range (1 * iD.size)).map ((Value.agg (daA 0 (fun _ => 0))).cells[· % (Value.agg (daA 0 (fun _ => 0))).cells.size]!)) [(0, .agg D)] = some D := by rw [hzD1]; exact hbs
            have hs1 : ¬ 1 * iD.size > 2 ^ 24 := by rw [hzD1]; decide
            have hs2 : ¬ 1 * iD.size = 0 := by rw [hzD1]; decide
            have kD := Blk.new w9 171 D
            have hbD : Below w9.heap.size w9 (w9.alloc (.cells D 171)) := (Below.refl _ _).alloc (Nat.le_refl _) _
            have nwD : ∀ (j : Nat) (u : Value), D.toList[j]? = some u → (w9.alloc (.cells D 171)).cell? ((⟨w9.heap.size, 0, none⟩ : Addr).add j) = some u := fun j u hu => by
              rw [addr_add0, Nat.zero_add, kD.cell]; simpa using hu
            have hsF9 := (F38.trans (.of_below hb9)).size
            clear hbs hb171
            go_wp2_with (refine wpList_load_mid rfl 109 (.tmp 5) rfl w8.heap.size 0 rfl X.toList _ hra9 Tryz.underlying109 rfl hinfl ?_; rw [Array.toArray_toList]; refine wpList_buildU rfl 62 rfl 171 [(0, .tmp 60), (1, .tmp 61)] rfl _ rfl D hbt ?_; refine wpList_buildSliceU rfl 63 rfl 76 171 1 [(0, .tmp 62)] rfl _ rfl D iD _ Tryz.underlying76 hiD hzD0 hs1 hs2 hfl ?_; refine wpList_append_own _ rfl (.tmp 59) (.tmp 63) 76 rfl NB 171 iD (.agg (daA 0 (fun _ => 0))) 65 72 Tryz.underlying76 hiD hzD0 hzD1 hzD2 rfl (by decide) _ dl (fl (daC V) (datL V k)) rfl (ro39.alloc _) ⟨w9.heap.size, 0, none⟩ 1 1 D.toList rfl hDs nwD hDo (by unfold maxLen; omega) (by omega) (by simp; omega) ?_; intro v' w10 hown' hgrow _; rw [← hDl, ← fl_append] at hown'; have F10 : Far (fun g => (Value.slice A3n dl cap3n).ownBlock = some g) w9 w10 := (Far.of_below hbD).grown hgrow (fun g hg _ => hg); have k310 := F10.blk k39 (fun h => own_other ro39 h k39 (by decide)); have f310 := k310.frozen; have c310 : w10.cell? ⟨s3, 2, none⟩ = some (.slice A3n dl cap3n) := (k310.cell 2).trans rfl; obtain ⟨A3m, cap3m, rfl, _⟩ := own_Rd hown'; clear c39)
            have F11 : Far (fun k => k = s3) w10 (w10.setCell ⟨s3, 2, none⟩ (.slice A3m (dl + 1) cap3m)) := Far.setCell (T := fun k => k = s3) (p := ⟨s3, 2, none⟩) (Far.refl _ w10) (fun _ => rfl) _
            have k311 : Blk (w10.setCell ⟨s3, 2, none⟩ (.slice A3m (dl + 1) cap3m)) s3 81 (stC (.slice A1 N1 cap1) v2n (.slice A3m (dl + 1) cap3m) (.slice A4 N4 c4) V.rf.calls V.rf.hits).toArray := k310.set_ 2 _
            have ro311 : (w10.setCell ⟨s3, 2, none⟩ (.slice A3m (dl + 1) cap3m)).ownsRow NB 171 65 (.slice A3m (dl + 1) cap3m) (datL V (k + 1)).length (fl (daC V) (datL V (k + 1))) := by
              rw [hstD2.out, List.length_append, List.length_singleton, hdl]
              exact ownsRow_far hown' F11 (fun g hg h => own_other hown' (hg.trans (congrArg some h)) k310 (by decide))
            have ro29 := ownsRow_call ro28 hb9
            have ro211 := ownsRow_far (ownsRow_far ro29 F10 (fun g hg h => by
              rcases ro39.2 with ⟨hx, _⟩ | ⟨g', cap', cur, hx, _, hkx, _⟩
              · rw [hx] at h; cases h
              · rw [hx] at h
                have e' : g' = g := by injection h
                subst e'
                exact own_other ro29 hg (show Blk w9 g' 171 cur from hkx) (by decide))) F11 (fun g hg h => by
              have := (ro29.lt g hg).1
              omega)
            have F311 : Far (fun k => k = s3 ∨ NB ≤ k) w3 (w10.setCell ⟨s3, 2, none⟩ (.slice A3m (dl + 1) cap3m)) := ((F38.trans (.of_below hb9)).trans' F10 (fun i hi h => .inr (ro39.lt i h).1)).trans' F11 (fun i hi h => .inl h)
            go_roundw
            case rel => exact ⟨k + 1, v2n, _, by omega, by go_num, k311, ro211, ro311, F311⟩
            case measure => simp [intOf]; omega
        | false =>
          rw [hh] at hcH
          have hst2 : Hid (hugL V (k + 1) = hugL V k) := Lib.hid (by rw [hstH.out, if_neg (by rw [hh]; simp)])
          clear hstH hm hh
          have k38 := k3
          have ro28 : wr.ownsRow NB 3 1 v2 (hugL V (k + 1)).length ((hugL V (k + 1)).map (Value.int .i64)) := by rw [hst2.out]; exact ro2
          have ro38 := ro3
          have F38 := hF
          have kb8 := kbr
          clear k3 ro2 ro3 hF kbr hlH
          go_upto_region 10 with fail
          refine HFi.out.mono ?_
          rintro e8 w8 ⟨rfl, hw8⟩
          replace hw8 := hw8.symm
          subst hw8
          go_upto_region 10 with fail
          clear HFi hcH
          obtain ⟨X, hX⟩ : ∃ X, arrI .u8 64 (V.pg k).byt = X := ⟨_, rfl⟩
          have hXs : X.size = 64 := by rw [← hX]; simp [arrI]
          have hra : wr.rangeAt b (1 + k * 66 + 2) X.toList := fun j v hj => by
            rw [← hX] at hj
            have hj64 : j < 64 := by have := (List.getElem?_eq_some_iff.1 hj).1; simpa [arrI] using this
            rw [kb8.cell, show 1 + k * 66 + 2 + j = 1 + k * 66 + (j + 2) by omega, hc'.out.byte hlt hj64, ← hj, Array.getElem?_toList, arrI_at hj64]
          have hinf : (Tryz.prog.info? 109).map (·.size) = some X.size := by rw [hXs]; exact infoKinds
          have hinfl : (Tryz.prog.info? 109).map (·.size) = some X.toList.length := by rw [Array.length_toList]; exact hinf
          have hone : X.all (·.oneCell') = true := by
            rw [← hX]; unfold arrI
            exact Go.all_oneCell_toArray (fun x hx => by simp only [List.mem_map] at hx; obtain ⟨i, _, rfl⟩ := hx; rfl)
          have ht : ∀ Z : Array Value, Z.size = 64 → (wr.alloc (.cells Z 109)).there wr.heap.size 0 X.size := fun Z hZ => z_there (Blk.new wr _ Z) 0 X.size (by omega)
          have hw9 : ∀ (Z : Array Value) w9, (wr.alloc (.cells Z 109)).setCells wr.heap.size 0 X.toList = w9 → Z.size = 64 → Blk w9 wr.heap.size 109 X ∧ Below wr.heap.size wr w9 := fun Z w9 h hZ => by
            have kP := Blk.puts (g := wr.heap.size) (t := 109) (w := wr) (cs := #[]) X.toList 0 _ _ (Blk.new wr 109 Z)
            rw [putA_all (by rw [Array.length_toList]; omega)] at kP
            have hF := Far.puts (T := fun k => k = wr.heap.size) rfl X.toList 0 wr _ ((Far.refl _ wr).alloc (.cells Z 109))
            rw [h] at kP hF
            exact ⟨kP, hF.below (Nat.le_refl _) (fun k hk e => by omega)⟩
          have heq : ∀ W, (Op.equalIn 10000 109 (.agg X) (.agg #[.int .u8 0, .int .u8 0, .int .u8 0, .int .u8 0, .int .u8 0, .int .u8 0, .int .u8 0, .int .u8 0, .int .u8 0, .int .u8 0, .int .u8 0, .int .u8 0, .int .u8 0, .int .u8 0, .int .u8 0, .int .u8 0, .int .u8 0, .int .u8 0, .int .u8 0, .int .u8 0, .int .u8 0, .int .u8 0, .int .u8 0, .int .u8 0, .int .u8 0, .int .u8 0, .int .u8 0, .int .u8 0, .int .u8 0, .int .u8 0, .int .u8 0, .int .u8 0, .int .u8 0, .int .u8 0, .int .u8 0, .int .u8 0, .int .u8 0, .int .u8 0, .int .u8 0, .int .u8 0, .int .u8 0, .int .u8 0, .int .u8 0, .int .u8 0, .int .u8 0, .int .u8 0, .int .u8 0, .int .u8 0, .int .u8 0, .int .u8 0, .int .u8 0, .int .u8 0, .int .u8 0, .int .u8 0, .int .u8 0, .int .u8 0, .int .u8 0, .int .u8 0, .int .u8 0, .int .u8 0, .int .u8 0, .int .u8 0, .int .u8 0, .int .u8 0])).run Tryz.prog W = .ok (!nzB (V.pg k)) W := fun W => by
            have h := eq64_any (V.pg k).byt (fun _ => 0) W
            rw [hX, nzB_all] at h
            exact h
          have hX' := Lib.hid hX
          have hXs' := Lib.hid hXs
          clear hX hXs
          go_upto_region 11 with (first
            | (refine wpList_load_mid rfl 109 (.tmp 53) rfl b (1 + k * 66 + 2) rfl X.toList _ hra Tryz.underlying109 rfl hinfl ?_; rw [Array.toArray_toList])
            | (refine wpList_store_mid rfl 109 (.tmp 5) (.tmp 54) rfl wr.heap.size 0 X rfl rfl (ht _ rfl) hinf hone ?_))
          generalize hW9 : World.setCells _ wr.heap.size 0 X.toList = w9
          obtain ⟨k9, hb9⟩ := hw9 _ _ hW9 rfl
          clear hW9 hw9 ht hra
          have hra9 : w9.rangeAt wr.heap.size 0 X.toList := fun j v hj => by rw [Nat.zero_add, k9.cell]; simpa using hj
          cases hnz : nzB (V.pg k) with
          | false =>
            rw [hnz] at heq
            go_wp2_with (refine wpList_load_mid rfl 109 (.tmp 5) rfl wr.heap.size 0 rfl X.toList _ hra9 Tryz.underlying109 rfl hinfl ?_; rw [Array.toArray_toList])
            go_roundw
            case rel =>
              have hstD2 : datL V (k + 1) = datL V k := by rw [hstD.out, if_neg (by rw [hnz]; decide)]
              exact ⟨k + 1, v2, v3, by omega, by go_num, k38.call hb9, ownsRow_call ro28 hb9, by rw [hstD2]; exact ownsRow_call ro38 hb9, F38.trans (.of_below hb9)⟩
            case measure => simp [intOf]; omega
          | true =>
            rw [hnz] at heq
            go_upto_region 12 with (refine wpList_load_mid rfl 109 (.tmp 5) rfl wr.heap.size 0 rfl X.toList _ hra9 Tryz.underlying109 rfl hinfl ?_; rw [Array.toArray_toList])
            obtain ⟨D, hD⟩ : ∃ D, daA (k : Int) (V.pg k).byt = D := ⟨_, rfl⟩
            have hbt : Tryz.prog.built 171 [(0, .int .i64 (k : Int)), (1, .agg X)] = some D := by rw [← hD, ← hX'.out]; exact built_da _ _
            have hb171 : ∀ W, (Instr.build 171 #[(0, .int .i64 (k : Int)), (1, .agg X)]).run Tryz.prog W = .ok (.agg D) W := fun W => run_build W _ _ _ hbt
            have hbs := fill_da (k : Int) (V.pg k).byt
            rw [hD] at hbs
            have hDs : D.toList.length = 65 := by rw [← hD]; simp [daA]
            have hDo : ∀ u ∈ D.toList, u.oneCell' = true := by
              intro u hu
              rw [← hD, ← daC_eq] at hu
              exact daC_one V [k] u (by simpa [fl] using hu)
            have hDl : fl (daC V) [k] = D.toList := by rw [← hD, ← daC_eq]; simp [fl]
            have hstD2 : Hid (datL V (k + 1) = datL V k ++ [k]) := Lib.hid (by rw [hstD.out, if_pos hnz])
            obtain ⟨dl, hdl⟩ : ∃ dl, (datL V k).length = dl := ⟨_, rfl⟩
            rw [hdl] at ro38 hlD
            have ro39 := ownsRow_call ro38 hb9
            have k39 := k38.call hb9
            obtain ⟨A3n, cap3n, rfl, _⟩ := own_Rd ro39
            have c39 : w9.cell? ⟨s3, 2, none⟩ = some (.slice A3n dl cap3n) := (k39.cell 2).trans rfl
            clear hD hnz heq
            have hfl : Instr.fill (fun i => some (i * iD.size, iD.size)) ((Array.range (1 * iD.size)).map ((Value.agg (daA 0 (fun _ => 0))).cells[· % (Value.agg (daA 0 (fun _ => 0))).cells.size]!)) [(0, .agg D)] = some D := by rw [hzD1]; exact hbs
            have hs1 : ¬ 1 * iD.size > 2 ^ 24 := by rw [hzD1]; decide
            have hs2 : ¬ 1 * iD.size = 0 := by rw [hzD1]; decide
            have kD := Blk.new w9 171 D
            have hbD : Below w9.heap.size w9 (w9.alloc (.cells D 171)) := (Below.refl _ _).alloc (Nat.le_refl _) _
            have nwD : ∀ (j : Nat) (u : Value), D.toList[j]? = some u → (w9.alloc (.cells D 171)).cell? ((⟨w9.heap.size, 0, none⟩ : Addr).add j) = some u := fun j u hu => by
              rw [addr_add0, Nat.zero_add, kD.cell]; simpa using hu
            have hsF9 := (F38.trans (.of_below hb9)).size
            clear hbs hb171
            go_wp2_with (refine wpList_load_mid rfl 109 (.tmp 5) rfl wr.heap.size 0 rfl X.toList _ hra9 Tryz.underlying109 rfl hinfl ?_; rw [Array.toArray_toList]; refine wpList_buildU rfl 62 rfl 171 [(0, .tmp 60), (1, .tmp 61)] rfl _ rfl D hbt ?_; refine wpList_buildSliceU rfl 63 rfl 76 171 1 [(0, .tmp 62)] rfl _ rfl D iD _ Tryz.underlying76 hiD hzD0 hs1 hs2 hfl ?_; refine wpList_append_own _ rfl (.tmp 59) (.tmp 63) 76 rfl NB 171 iD (.agg (daA 0 (fun _ => 0))) 65 72 Tryz.underlying76 hiD hzD0 hzD1 hzD2 rfl (by decide) _ dl (fl (daC V) (datL V k)) rfl (ro39.alloc _) ⟨w9.heap.size, 0, none⟩ 1 1 D.toList rfl hDs nwD hDo (by unfold maxLen; omega) (by omega) (by simp; omega) ?_; intro v' w10 hown' hgrow _; rw [← hDl, ← fl_append] at hown'; have F10 : Far (fun g => (Value.slice A3n dl cap3n).ownBlock = some g) w9 w10 := (Far.of_below hbD).grown hgrow (fun g hg _ => hg); have k310 := F10.blk k39 (fun h => own_other ro39 h k39 (by decide)); have f310 := k310.frozen; have c310 : w10.cell? ⟨s3, 2, none⟩ = some (.slice A3n dl cap3n) := (k310.cell 2).trans rfl; obtain ⟨A3m, cap3m, rfl, _⟩ := own_Rd hown'; clear c39)
            have F11 : Far (fun k => k = s3) w10 (w10.setCell ⟨s3, 2, none⟩ (.slice A3m (dl + 1) cap3m)) := Far.setCell (T := fun k => k = s3) (p := ⟨s3, 2, none⟩) (Far.refl _ w10) (fun _ => rfl) _
            have k311 : Blk (w10.setCell ⟨s3, 2, none⟩ (.slice A3m (dl + 1) cap3m)) s3 81 (stC (.slice A1 N1 cap1) v2 (.slice A3m (dl + 1) cap3m) (.slice A4 N4 c4) V.rf.calls V.rf.hits).toArray := k310.set_ 2 _
            have ro311 : (w10.setCell ⟨s3, 2, none⟩ (.slice A3m (dl + 1) cap3m)).ownsRow NB 171 65 (.slice A3m (dl + 1) cap3m) (datL V (k + 1)).length (fl (daC V) (datL V (k + 1))) := by
              rw [hstD2.out, List.length_append, List.length_singleton, hdl]
              exact ownsRow_far hown' F11 (fun g hg h => own_other hown' (hg.trans (congrArg some h)) k310 (by decide))
            have ro29 := ownsRow_call ro28 hb9
            have ro211 := ownsRow_far (ownsRow_far ro29 F10 (fun g hg h => by
              rcases ro39.2 with ⟨hx, _⟩ | ⟨g', cap', cur, hx, _, hkx, _⟩
              · rw [hx] at h; cases h
              · rw [hx] at h
                have e' : g' = g := by injection h
                subst e'
                exact own_other ro29 hg (show Blk w9 g' 171 cur from hkx) (by decide))) F11 (fun g hg h => by
              have := (ro29.lt g hg).1
              omega)
            have F311 : Far (fun k => k = s3 ∨ NB ≤ k) w3 (w10.setCell ⟨s3, 2, none⟩ (.slice A3m (dl + 1) cap3m)) := ((F38.trans (.of_below hb9)).trans' F10 (fun i hi h => .inr (ro39.lt i h).1)).trans' F11 (fun i hi h => .inl h)
            go_roundw
            case rel => exact ⟨k + 1, v2, _, by omega, by go_num, k311, ro211, ro311, F311⟩
            case measure => simp [intOf]; omega
      · rw [decide_eq_false hm] at HFi
        have hst2 : Hid (hugL V (k + 1) = hugL V k) := Lib.hid (by rw [hstH.out, if_neg (fun h => hm h.1)])
        clear hstH hm
        have k38 := k3
        have ro28 : wr.ownsRow NB 3 1 v2 (hugL V (k + 1)).length ((hugL V (k + 1)).map (Value.int .i64)) := by rw [hst2.out]; exact ro2
        have ro38 := ro3
        have F38 := hF
        have kb8 := kbr
        clear k3 ro2 ro3 hF kbr hlH hcH
        go_upto_region 10 with fail
        refine HFi.out.mono ?_
        rintro e8 w8 ⟨rfl, hw8⟩
        replace hw8 := hw8.symm
        subst hw8
        go_upto_region 10 with fail
        clear HFi
        obtain ⟨X, hX⟩ : ∃ X, arrI .u8 64 (V.pg k).byt = X := ⟨_, rfl⟩
        have hXs : X.size = 64 := by rw [← hX]; simp [arrI]
        have hra : wr.rangeAt b (1 + k * 66 + 2) X.toList := fun j v hj => by
          rw [← hX] at hj
          have hj64 : j < 64 := by have := (List.getElem?_eq_some_iff.1 hj).1; simpa [arrI] using this
          rw [kb8.cell, show 1 + k * 66 + 2 + j = 1 + k * 66 + (j + 2) by omega, hc'.out.byte hlt hj64, ← hj, Array.getElem?_toList, arrI_at hj64]
        have hinf : (Tryz.prog.info? 109).map (·.size) = some X.size := by rw [hXs]; exact infoKinds
        have hinfl : (Tryz.prog.info? 109).map (·.size) = some X.toList.length := by rw [Array.length_toList]; exact hinf
        have hone : X.all (·.oneCell') = true := by
          rw [← hX]; unfold arrI
          exact Go.all_oneCell_toArray (fun x hx => by simp only [List.mem_map] at hx; obtain ⟨i, _, rfl⟩ := hx; rfl)
        have ht : ∀ Z : Array Value, Z.size = 64 → (wr.alloc (.cells Z 109)).there wr.heap.size 0 X.size := fun Z hZ => z_there (Blk.new wr _ Z) 0 X.size (by omega)
        have hw9 : ∀ (Z : Array Value) w9, (wr.alloc (.cells Z 109)).setCells wr.heap.size 0 X.toList = w9 → Z.size = 64 → Blk w9 wr.heap.size 109 X ∧ Below wr.heap.size wr w9 := fun Z w9 h hZ => by
          have kP := Blk.puts (g := wr.heap.size) (t := 109) (w := wr) (cs := #[]) X.toList 0 _ _ (Blk.new wr 109 Z)
          rw [putA_all (by rw [Array.length_toList]; omega)] at kP
          have hF := Far.puts (T := fun k => k = wr.heap.size) rfl X.toList 0 wr _ ((Far.refl _ wr).alloc (.cells Z 109))
          rw [h] at kP hF
          exact ⟨kP, hF.below (Nat.le_refl _) (fun k hk e => by omega)⟩
        have heq : ∀ W, (Op.equalIn 10000 109 (.agg X) (.agg #[.int .u8 0, .int .u8 0, .int .u8 0, .int .u8 0, .int .u8 0, .int .u8 0, .int .u8 0, .int .u8 0, .int .u8 0, .int .u8 0, .int .u8 0, .int .u8 0, .int .u8 0, .int .u8 0, .int .u8 0, .int .u8 0, .int .u8 0, .int .u8 0, .int .u8 0, .int .u8 0, .int .u8 0, .int .u8 0, .int .u8 0, .int .u8 0, .int .u8 0, .int .u8 0, .int .u8 0, .int .u8 0, .int .u8 0, .int .u8 0, .int .u8 0, .int .u8 0, .int .u8 0, .int .u8 0, .int .u8 0, .int .u8 0, .int .u8 0, .int .u8 0, .int .u8 0, .int .u8 0, .int .u8 0, .int .u8 0, .int .u8 0, .int .u8 0, .int .u8 0, .int .u8 0, .int .u8 0, .int .u8 0, .int .u8 0, .int .u8 0, .int .u8 0, .int .u8 0, .int .u8 0, .int .u8 0, .int .u8 0, .int .u8 0, .int .u8 0, .int .u8 0, .int .u8 0, .int .u8 0, .int .u8 0, .int .u8 0, .int .u8 0, .int .u8 0])).run Tryz.prog W = .ok (!nzB (V.pg k)) W := fun W => by
          have h := eq64_any (V.pg k).byt (fun _ => 0) W
          rw [hX, nzB_all] at h
          exact h
        have hX' := Lib.hid hX
        have hXs' := Lib.hid hXs
        clear hX hXs
        go_upto_region 11 with (first
          | (refine wpList_load_mid rfl 109 (.tmp 53) rfl b (1 + k * 66 + 2) rfl X.toList _ hra Tryz.underlying109 rfl hinfl ?_; rw [Array.toArray_toList])
          | (refine wpList_store_mid rfl 109 (.tmp 5) (.tmp 54) rfl wr.heap.size 0 X rfl rfl (ht _ rfl) hinf hone ?_))
        generalize hW9 : World.setCells _ wr.heap.size 0 X.toList = w9
        obtain ⟨k9, hb9⟩ := hw9 _ _ hW9 rfl
        clear hW9 hw9 ht hra
        have hra9 : w9.rangeAt wr.heap.size 0 X.toList := fun j v hj => by rw [Nat.zero_add, k9.cell]; simpa using hj
        cases hnz : nzB (V.pg k) with
        | false =>
          rw [hnz] at heq
          go_wp2_with (refine wpList_load_mid rfl 109 (.tmp 5) rfl wr.heap.size 0 rfl X.toList _ hra9 Tryz.underlying109 rfl hinfl ?_; rw [Array.toArray_toList])
          go_roundw
          case rel =>
            have hstD2 : datL V (k + 1) = datL V k := by rw [hstD.out, if_neg (by rw [hnz]; decide)]
            exact ⟨k + 1, v2, v3, by omega, by go_num, k38.call hb9, ownsRow_call ro28 hb9, by rw [hstD2]; exact ownsRow_call ro38 hb9, F38.trans (.of_below hb9)⟩
          case measure => simp [intOf]; omega
        | true =>
          rw [hnz] at heq
          go_upto_region 12 with (refine wpList_load_mid rfl 109 (.tmp 5) rfl wr.heap.size 0 rfl X.toList _ hra9 Tryz.underlying109 rfl hinfl ?_; rw [Array.toArray_toList])
          obtain ⟨D, hD⟩ : ∃ D, daA (k : Int) (V.pg k).byt = D := ⟨_, rfl⟩
          have hbt : Tryz.prog.built 171 [(0, .int .i64 (k : Int)), (1, .agg X)] = some D := by rw [← hD, ← hX'.out]; exact built_da _ _
          have hb171 : ∀ W, (Instr.build 171 #[(0, .int .i64 (k : Int)), (1, .agg X)]).run Tryz.prog W = .ok (.agg D) W := fun W => run_build W _ _ _ hbt
          have hbs := fill_da (k : Int) (V.pg k).byt
          rw [hD] at hbs
          have hDs : D.toList.length = 65 := by rw [← hD]; simp [daA]
          have hDo : ∀ u ∈ D.toList, u.oneCell' = true := by
            intro u hu
            rw [← hD, ← daC_eq] at hu
            exact daC_one V [k] u (by simpa [fl] using hu)
          have hDl : fl (daC V) [k] = D.toList := by rw [← hD, ← daC_eq]; simp [fl]
          have hstD2 : Hid (datL V (k + 1) = datL V k ++ [k]) := Lib.hid (by rw [hstD.out, if_pos hnz])
          obtain ⟨dl, hdl⟩ : ∃ dl, (datL V k).length = dl := ⟨_, rfl⟩
          rw [hdl] at ro38 hlD
          have ro39 := ownsRow_call ro38 hb9
          have k39 := k38.call hb9
          obtain ⟨A3n, cap3n, rfl, _⟩ := own_Rd ro39
          have c39 : w9.cell? ⟨s3, 2, none⟩ = some (.slice A3n dl cap3n) := (k39.cell 2).trans rfl
          clear hD hnz heq
          have hfl : Instr.fill (fun i => some (i * iD.size, iD.size)) ((Array.range (1 * iD.size)).map ((Value.agg (daA 0 (fun _ => 0))).cells[· % (Value.agg (daA 0 (fun _ => 0))).cells.size]!)) [(0, .agg D)] = some D := by rw [hzD1]; exact hbs
          have hs1 : ¬ 1 * iD.size > 2 ^ 24 := by rw [hzD1]; decide
          have hs2 : ¬ 1 * iD.size = 0 := by rw [hzD1]; decide
          have kD := Blk.new w9 171 D
          have hbD : Below w9.heap.size w9 (w9.alloc (.cells D 171)) := (Below.refl _ _).alloc (Nat.le_refl _) _
          have nwD : ∀ (j : Nat) (u : Value), D.toList[j]? = some u → (w9.alloc (.cells D 171)).cell? ((⟨w9.heap.size, 0, none⟩ : Addr).add j) = some u := fun j u hu => by
            rw [addr_add0, Nat.zero_add, kD.cell]; simpa using hu
          have hsF9 := (F38.trans (.of_below hb9)).size
          clear hbs hb171
          go_wp2_with (refine wpList_load_mid rfl 109 (.tmp 5) rfl wr.heap.size 0 rfl X.toList _ hra9 Tryz.underlying109 rfl hinfl ?_; rw [Array.toArray_toList]; refine wpList_buildU rfl 62 rfl 171 [(0, .tmp 60), (1, .tmp 61)] rfl _ rfl D hbt ?_; refine wpList_buildSliceU rfl 63 rfl 76 171 1 [(0, .tmp 62)] rfl _ rfl D iD _ Tryz.underlying76 hiD hzD0 hs1 hs2 hfl ?_; refine wpList_append_own _ rfl (.tmp 59) (.tmp 63) 76 rfl NB 171 iD (.agg (daA 0 (fun _ => 0))) 65 72 Tryz.underlying76 hiD hzD0 hzD1 hzD2 rfl (by decide) _ dl (fl (daC V) (datL V k)) rfl (ro39.alloc _) ⟨w9.heap.size, 0, none⟩ 1 1 D.toList rfl hDs nwD hDo (by unfold maxLen; omega) (by omega) (by simp; omega) ?_; intro v' w10 hown' hgrow _; rw [← hDl, ← fl_append] at hown'; have F10 : Far (fun g => (Value.slice A3n dl cap3n).ownBlock = some g) w9 w10 := (Far.of_below hbD).grown hgrow (fun g hg _ => hg); have k310 := F10.blk k39 (fun h => own_other ro39 h k39 (by decide)); have f310 := k310.frozen; have c310 : w10.cell? ⟨s3, 2, none⟩ = some (.slice A3n dl cap3n) := (k310.cell 2).trans rfl; obtain ⟨A3m, cap3m, rfl, _⟩ := own_Rd hown'; clear c39)
          have F11 : Far (fun k => k = s3) w10 (w10.setCell ⟨s3, 2, none⟩ (.slice A3m (dl + 1) cap3m)) := Far.setCell (T := fun k => k = s3) (p := ⟨s3, 2, none⟩) (Far.refl _ w10) (fun _ => rfl) _
          have k311 : Blk (w10.setCell ⟨s3, 2, none⟩ (.slice A3m (dl + 1) cap3m)) s3 81 (stC (.slice A1 N1 cap1) v2 (.slice A3m (dl + 1) cap3m) (.slice A4 N4 c4) V.rf.calls V.rf.hits).toArray := k310.set_ 2 _
          have ro311 : (w10.setCell ⟨s3, 2, none⟩ (.slice A3m (dl + 1) cap3m)).ownsRow NB 171 65 (.slice A3m (dl + 1) cap3m) (datL V (k + 1)).length (fl (daC V) (datL V (k + 1))) := by
            rw [hstD2.out, List.length_append, List.length_singleton, hdl]
            exact ownsRow_far hown' F11 (fun g hg h => own_other hown' (hg.trans (congrArg some h)) k310 (by decide))
          have ro29 := ownsRow_call ro28 hb9
          have ro211 := ownsRow_far (ownsRow_far ro29 F10 (fun g hg h => by
            rcases ro39.2 with ⟨hx, _⟩ | ⟨g', cap', cur, hx, _, hkx, _⟩
            · rw [hx] at h; cases h
            · rw [hx] at h
              have e' : g' = g := by injection h
              subst e'
              exact own_other ro29 hg (show Blk w9 g' 171 cur from hkx) (by decide))) F11 (fun g hg h => by
            have := (ro29.lt g hg).1
            omega)
          have F311 : Far (fun k => k = s3 ∨ NB ≤ k) w3 (w10.setCell ⟨s3, 2, none⟩ (.slice A3m (dl + 1) cap3m)) := ((F38.trans (.of_below hb9)).trans' F10 (fun i hi h => .inr (ro39.lt i h).1)).trans' F11 (fun i hi h => .inl h)
          go_roundw
          case rel => exact ⟨k + 1, v2, _, by omega, by go_num, k311, ro211, ro311, F311⟩
          case measure => simp [intOf]; omega
    · obtain rfl : k = 1024 := by omega
      have hlt' : decide (((1024 : Nat) : Int) < 1024) = false := by decide
      obtain ⟨A2, cap2, rfl, r2, _, _, g2, _⟩ := own_Rd ro2
      obtain ⟨A3, cap3, rfl, r3, _, _, g3, _⟩ := own_Rd ro3
      have k2r := hF.blk k23 (by show ¬ (s = s3 ∨ NB ≤ s); omega)
      obtain ⟨C18, hC18⟩ : ∃ C18, stC (.slice A1 N1 cap1) (.slice A2 (hugL V 1024).length cap2) (.slice A3 (datL V 1024).length cap3) (.slice A4 N4 c4) V.rf.calls V.rf.hits = C18 := ⟨_, rfl⟩
      have hC18s : C18.length = 18 := by rw [← hC18]; rfl
      have hC18o : C18.toArray.all (·.oneCell') = true := by rw [← hC18]; exact Go.all_oneCell_toArray (stC_one rfl rfl rfl rfl _ _)
      rw [hC18] at k3
      have hra : wr.rangeAt s3 0 C18 := fun j v hj => by rw [Nat.zero_add, k3.cell]; simpa using hj
      have hinf : (Tryz.prog.info? 81).map (·.size) = some C18.length := by rw [hC18s]; exact infoSt
      have hinfa : (Tryz.prog.info? 81).map (·.size) = some C18.toArray.size := by rw [List.size_toArray]; exact hinf
      have ht : wr.there s 0 C18.toArray.size := z_there k2r 0 _ (by rw [List.size_toArray, hC18s]; exact Nat.le_refl _)
      have kP := Blk.puts (g := s) (t := 81) (w := wr) (cs := #[]) C18 0 wr _ k2r
      rw [putA_all (by rw [hC18s]; rfl)] at kP
      have F9 := Far.puts (T := fun k => k = s) rfl C18 0 wr wr (Far.refl _ _)
      have hC' := Lib.hid hC18
      have hs' := Lib.hid hs
      clear hC18 hC18s hs
      go_wp2_with (first
        | (refine wpList_load_mid rfl 81 (.tmp 3) rfl s3 0 rfl C18 _ hra Tryz.underlying81 rfl hinf ?_)
        | (refine wpList_store_mid rfl 81 (.tmp 2) (.tmp 67) rfl s 0 C18.toArray rfl rfl ht hinfa hC18o ?_))
      generalize World.setCells wr s 0 C18 = w9 at *
      have hl9 := run_loadVar_mid (P := Tryz.prog) w9 s 0 81 C18 _ (fun j v hj => by rw [Nat.zero_add, kP.cell]; simpa using hj) Tryz.underlying81 rfl hinf
      refine bodyPost_ret (v := .agg C18.toArray) ?_ rfl ?_
      · exact z_results_cell1 Tryz.results33 rfl hl9
      have q1r := q13'.out.farN hF (fun k hk ⟨o, e⟩ => by
        have := q4 k o e
        show ¬ (k = s3 ∨ NB ≤ k)
        omega)
      have r1r := r13'.out.farN hF (fun k hk ⟨o, e⟩ h => by
        rcases h with h | h
        · exact hA13 o (h ▸ e)
        · omega)
      have hsz9 := F9.size
      have hszr := hF.size
      refine ⟨_, rfl, ⟨A1, A2, A3, A4, N1, cap1, _, cap2, _, cap3, N4, c4, by rw [hC'.out], hN1'.out, ?_, rfl, ?_, rfl, ?_, hN4'.out, ?_⟩, ?_⟩
      · exact (r1r.farN F9 (fun k hk ⟨o, e⟩ h => by have := hAs.out k o e; omega)).more (by omega)
      · exact RI.more (r2.farN F9 (fun k hk ⟨o, e⟩ h => by have := g2 k o e; omega)) hsz9
      · exact (r3.farN F9 (fun k hk ⟨o, e⟩ h => by have := g3 k o e; omega)).more hsz9
      · exact (q1r.farN F9 (fun k hk ⟨o, e⟩ h => by have := q4 k o e; omega)).more (by omega)
      · rw [hs'.out]
        exact B3.trans ((hF.below (by omega) (fun k hk h => by omega)).trans (F9.below (by omega) (fun k hk h => by omega)))
end Go.Proofs.YtefnnfcfigcikaaGreat
namespace Go.Proofs.YtefnnfcfigcikaaGreat
open Go Go.Proofs Go.RowKit Go.Pol Go.Shelf
attribute [local go_sem] Oper.semAt_some Go.Pol.wide_fn Go.Pol.wide_depth Go.Pol.wide_fn' Go.Pol.wide_depth'

theorem built_vc : Tryz.prog.built 123 [] = some #[.int .i64 0, .int .i64 0, .int .i64 0, .int .i64 0, .int .i64 0] := by kernel_rfl
set_option maxRecDepth 100000 in
set_option maxHeartbeats 1600000 in
theorem countsNil_any (w : World) :
    Calls Tryz.prog 55 #[.pointer none] w fun e w' => e = .returned (.tuple #[.agg #[.int .i64 0, .int .i64 0, .int .i64 0, .int .i64 0, .int .i64 0], .int .i64 1]) ∧ Below w.heap.size w w' := by
  have HI := Lib.hid (fun W => isNil_any W)
  have hb0 := (Below.refl w.heap.size w).alloc (Nat.le_refl _) (.cells #[.int .i64 0, .int .i64 0, .int .i64 0, .int .i64 0, .int .i64 0] 123)
  have k0 := Blk.new w 123 #[.int .i64 0, .int .i64 0, .int .i64 0, .int .i64 0, .int .i64 0]
  obtain ⟨s, hs⟩ : ∃ s, w.heap.size = s := ⟨_, rfl⟩
  rw [hs] at k0
  go_enter Tryz.func55, Tryz.ntmps55
  go_upto_region 1 with fail
  generalize w.alloc _ = w0 at *
  try simp only [hs]
  go_wp2_with fail
  refine (HI.out _).mono ?_
  rintro e9 w9 ⟨rfl, hw9⟩
  replace hw9 := hw9.symm
  subst hw9
  go_upto_region 2 with fail
  obtain ⟨Z, hZ⟩ : ∃ Z : Array Value, #[.int .i64 0, .int .i64 0, .int .i64 0, .int .i64 0, .int .i64 0] = Z := ⟨_, rfl⟩
  have hbv : Tryz.prog.built 123 [] = some Z := by rw [← hZ]; exact built_vc
  have hZs : Z.size = 5 := by rw [← hZ]; rfl
  have ht : w0.there s 0 Z.size := by rw [hZs]; exact z_there k0 0 5 (by simp)
  have hinf : (Tryz.prog.info? 123).map (·.size) = some Z.size := by rw [hZs]; exact infoVc
  have hone : Z.all (·.oneCell') = true := by
    rw [← hZ]
    exact Go.all_oneCell_toArray (cs := [.int .i64 0, .int .i64 0, .int .i64 0, .int .i64 0, .int .i64 0]) (fun v hv => by simp at hv; rw [hv]; rfl)
  have hF2 := Far.puts (T := fun k => k = s) rfl Z.toList 0 w0 w0 (Far.refl _ _)
  have kP := Blk.puts (g := s) (t := 123) (w := w0) (cs := #[]) Z.toList 0 w0 _ k0
  rw [putA_all (by rw [Array.length_toList, hZs]; rfl)] at kP
  have hZ' := Lib.hid hZ
  have hs' := Lib.hid hs
  clear hZ hs HI
  go_wp2_with (refine wpList_buildU rfl 10 rfl 123 [] rfl _ rfl Z hbv ?_; refine wpList_store_mid rfl 123 (.tmp 2) (.tmp 10) rfl s 0 Z rfl rfl ht hinf hone ?_)
  generalize World.setCells w0 s 0 Z.toList = w9 at *
  have hl9 := run_loadVar_mid (P := Tryz.prog) w9 s 0 123 Z.toList _ (fun j v hj => by rw [Nat.zero_add, kP.cell]; simpa using hj) Tryz.underlying123 rfl (by rw [Array.length_toList]; exact hinf)
  rw [Array.toArray_toList] at hl9
  refine bodyPost_ret (v := .tuple #[.agg Z, .int .i64 1]) ?_ rfl ?_
  · exact z_results_cell_tmp Tryz.results55 rfl hl9
  exact ⟨by rw [hZ'.out], by rw [hs'.out]; rw [hs'.out] at hb0; exact hb0.trans (hF2.below (by have := hb0.size; have := hs'.out; omega) (fun k hk e => by omega))⟩
set_option maxRecDepth 100000 in
set_option maxHeartbeats 1600000 in
/-- no system to join groups of -/
theorem hjoinNil_any (least : Int) (A1 A2 A3 : Option Addr) (n1 c1 n2 c2 n3 c3 : Nat) (w : World) :
    Calls Tryz.prog 25 #[.pointer none, .agg #[.slice A1 n1 c1, .slice A2 n2 c2, .slice A3 n3 c3], .int .i64 least] w fun e w' => e = .returned (.tuple #[.slice none 0 0, .int .i64 1]) ∧ Below w.heap.size w w' := by
  have HC := Lib.hid (fun W => countsNil_any W)
  have hb0 := (Below.refl w.heap.size w).alloc (Nat.le_refl _) (.cells #[.slice A1 n1 c1, .slice A2 n2 c2, .slice A3 n3 c3] 52)
  go_enter Tryz.func25, Tryz.ntmps25
  go_upto_region 1 with fail
  generalize w.alloc _ = w0 at *
  go_wp2_with fail
  refine (HC.out _).mono ?_
  rintro e w1 ⟨rfl, hb1⟩
  have B1 := hb0.trans (hb1.mono hb0.size)
  have hb2 := B1.alloc B1.size (.cells #[.int .i64 0, .int .i64 0, .int .i64 0, .int .i64 0, .int .i64 0] 123)
  go_wp2_with fail
  go_ret2
  exact ⟨rfl, hb2⟩
end Go.Proofs.YtefnnfcfigcikaaGreat
namespace Go.Pol
open Go Go.Proofs Go.RowKit
/-- the groups split, the spans given back, an error, and a system that has become this -/
def BackO (b : Nat) (gs : List Int) (ps : List Sp) (r : Nat × Nat × Int × Vm) (w : World) (e : Ending) (w' : World) : Prop :=
  ∃ (A : Option Addr) (cap : Nat) (A' : Option Addr) (cap' : Nat), e = .returned (.tuple #[.slice A r.1 cap, .slice A' r.2.1 cap', .int .i64 r.2.2.1]) ∧ RI w' w'.heap.size A (gs.take r.1) ∧ (∀ g o, A = some ⟨g, o, none⟩ → w.heap.size ≤ g) ∧ RU w' w'.heap.size A' (ps.take r.2.1) ∧ (∀ g o, A' = some ⟨g, o, none⟩ → w.heap.size ≤ g) ∧ SysIs w' b r.2.2.2 ∧ Far (fun k => k = b) w w'
end Go.Pol
namespace Go.Proofs.YtefnnfcfigcikaaGreat
open Go Go.Proofs Go.RowKit Go.Pol Go.Shelf
attribute [local go_sem] Oper.semAt_some Go.Pol.wide_fn Go.Pol.wide_depth Go.Pol.wide_fn' Go.Pol.wide_depth'

set_option maxRecDepth 100000 in
set_option maxHeartbeats 3200000 in
theorem hback_any (b : Nat) (S : Value) (C L : List Sp) (H : List Int) (A : Option Addr) (np cp : Nat) (ps : List Sp) (V : Vm) (w : World) (hV : SysIs w b V) (hK : KindOk V) (hS : StIs w S C L H) (hn : ps.length = np) (hm : np ≤ 1000) (hr : RU w w.heap.size A ps) (hAb : ∀ g o, A = some ⟨g, o, none⟩ → 0 < np → g ≠ b) :
    Calls Tryz.prog 35 #[.pointer (some ⟨b, 0, none⟩), S, .slice A np cp] w (BackO b (splitA C L H ps).1 ps (hbF V (splitA C L H ps) ps) w) := by
  have HC := Lib.hid (fun W h => counts_any b V W h hK)
  have HG := Lib.hid (fun W h hr => splitN_any S C L H A np cp ps W h hn (by unfold maxLen; omega) hr)
  have hV0 := Lib.hid hV
  have hS0 := Lib.hid hS
  have hr0 := Lib.hid hr
  have hbs := hV.lt
  obtain ⟨i0, hi, hz0, hz1, hz2⟩ := info_parts infoIn
  obtain ⟨j0, hj, hy0, hy1, hy2⟩ := infoSp_parts
  have hlen : Hid ((splitA C L H ps).1.length ≤ 64) := Lib.hid (by rw [split_eq]; exact splitB_len C L H ps)
  generalize splitA C L H ps = G at *
  obtain ⟨gs, er⟩ := G
  simp only at hlen
  obtain ⟨R, hR⟩ : ∃ R, hbF V (gs, er) ps = R := ⟨_, rfl⟩
  rw [hR]
  have hR' := Lib.hid hR
  obtain ⟨A1, A2, A3, n1, c1, n2, c2, n3, c3, rfl, _⟩ := hS.ex
  have hb0 := (Below.refl w.heap.size w).alloc (Nat.le_refl _) (.cells #[.slice A1 n1 c1, .slice A2 n2 c2, .slice A3 n3 c3] 52)
  have k0 := Blk.new w 52 #[.slice A1 n1 c1, .slice A2 n2 c2, .slice A3 n3 c3]
  have V0 := hV0.out.call hb0
  clear hS hR hV hK hr
  go_enter Tryz.func35, Tryz.ntmps35
  go_upto_region 1 with fail
  generalize w.alloc _ = w0 at *
  go_wp2_with fail
  refine (HC.out _ V0).mono ?_
  rintro e w1 ⟨⟨cs, hcs, rfl⟩, hb1⟩
  have B1 := hb0.trans (hb1.mono hb0.size)
  have k1 := k0.call hb1
  obtain ⟨q, hq⟩ : ∃ q, w1.heap.size = q := ⟨_, rfl⟩
  have hsz := hcs.size
  have kz := Blk.new w1 123 #[.int .i64 0, .int .i64 0, .int .i64 0, .int .i64 0, .int .i64 0]
  rw [hq] at kz
  have ht : (w1.alloc (.cells #[.int .i64 0, .int .i64 0, .int .i64 0, .int .i64 0, .int .i64 0] 123)).there q 0 cs.size := by rw [hsz]; exact z_there kz 0 5 (by simp)
  have hF2 := Far.puts (T := fun k => k = q) rfl cs.toList 0 w1 _ ((Far.refl _ w1).alloc (.cells #[.int .i64 0, .int .i64 0, .int .i64 0, .int .i64 0, .int .i64 0] 123))
  have hone := Go.all_oneCell_toArray (hcs.one)
  rw [Array.toArray_toList] at hone
  have hinf : (Tryz.prog.info? 123).map (·.size) = some cs.size := by rw [hsz]; exact infoVc
  clear kz HC
  go_upto_region 2 with (refine wpList_store_mid rfl 123 (.tmp 9) (.tmp 21) rfl q 0 cs rfl rfl ht hinf hone ?_)
  generalize World.setCells _ q 0 _ = w2 at *
  have hb2 := hF2.below (n := w1.heap.size) (Nat.le_refl _) (fun k hk e => by omega)
  have B2 := B1.trans (hb2.mono B1.size)
  have k2 := k1.call hb2
  have c2 := k2.cell
  have S2 := hS0.out.on B2
  have r2 := hr0.out.on B2
  clear hF2 ht hone hinf hcs hsz hb0 hb1 hb2 k0 k1
  go_wp2_with fail
  refine (HG.out _ S2 r2).mono ?_
  rintro e w3 ⟨Ag, cg, rfl, hrg, hfr, hb3⟩
  have B3 := B2.trans (hb3.mono B2.size)
  have V3 := Lib.hid (hV0.out.call B3)
  have r3 := Lib.hid (hr0.out.on B3)
  simp only at hrg
  unfold hbF at hR'
  by_cases h0 : er = 0
  · subst h0
    have hR2 : Hid ((if (spF gs V).2.1 ≠ 0 then ((spF gs V).1, 0, (spF gs V).2) else ((spF gs V).1, dcF ps (spF gs V).2.2)) = R) := Lib.hid (by have := hR'.out; rwa [if_neg (by simp)] at this)
    obtain ⟨n, hng⟩ : ∃ n, gs.length = n := ⟨_, rfl⟩
    have hbB : b < w2.heap.size := by have := B2.size; omega
    simp only [hng] at hlen ⊢
    have hb3s := Lib.hid hb3.size
    have hB3' := Lib.hid B3
    have hn' := Lib.hid hn
    clear HG S2 c2 k2 hR' B1 hb3 hS0 r2 V0 hn hr0 B2
    go_wp2_with fail
    go_loopw [6, 7, 37] (fun v v7 i wr => ∃ (k : Nat) (U : Vm), k ≤ n ∧ i = .int .i64 k ∧ v7 = .slice none 0 0 ∧ Hid (spF gs V = (k + (spF (gs.drop k) U).1, (spF (gs.drop k) U).2)) ∧ wr.ownsRow w3.heap.size 3 1 v k ((gs.take k).map (Value.int .i64)) ∧ Hid (SysIs wr b U) ∧ Far (fun k => k = b) w3 wr) (fun _ _ i _ => n - (intOf i).toNat)
    case atStart => exact ⟨0, V, by omega, rfl, rfl, Lib.hid (by simp), World.ownsRow_nil _ _ _ _, V3, Far.refl _ _⟩
    case round =>
      clear V3
      obtain ⟨k, U, hk, rfl, rfl, hfl, hrow, hU, hF⟩ := hrel
      have hB3s := hb3s.out
      have hlen' := hlen.out
      by_cases hlt : k < n
      · have hlt' : decide ((k : Int) < (n : Int)) = true := by simpa using hlt
        have hts := take_snocI gs k (by omega)
        have hsn := spF_step (by omega) hfl.out
        obtain ⟨rb, ro, rfl, hrb, c5⟩ := hrg.at_ (k := k) (by omega)
        have hrb2 := hfr rb ro rfl
        have d5 := hF.cell c5 (by show ¬ rb = b; omega)
        generalize gs.getD k 0 = x at *
        have HJ := Lib.hid (vsplit_any b (wrap64 (x * 16)) U wr hU.out)
        have hts' := Lib.hid hts
        have hsn' := Lib.hid hsn
        clear c5 hts hsn hfl
        go_wp2_with fail
        refine HJ.out.mono ?_
        rintro e w5 ⟨rfl, V5, F5⟩
        have V5' := Lib.hid V5
        have hrow5 := ownsRow_far hrow F5 (fun g hg h => by have := (hrow.lt g hg).1; omega)
        have hF5 := hF.trans F5
        have d6 := F5.cell d5 (by show ¬ rb = b; omega)
        generalize splitF U (wrap64 (x * 16)) = J at *
        obtain ⟨je, jV⟩ := J
        simp only at hsn' V5'
        have hsn2 := hsn'.out
        clear HJ hU hrow hF F5 V5 hsn' d5
        by_cases hj : je = 0
        · subst hj
          rw [if_pos rfl] at hsn2
          have hsn3 := Lib.hid hsn2
          clear hsn2
          have kN := Blk.new w5 3 #[.int .i64 x]
          have hbN : Below w5.heap.size w5 (w5.alloc (.cells #[.int .i64 x] 3)) := (Below.refl _ _).alloc (Nat.le_refl _) _
          have hs5 := hF5.size
          go_wp2_with (refine wpList_append_own _ rfl (.tmp 49) (.tmp 51) 50 rfl w3.heap.size 3 i0 (.int .i64 0) 1 8 Tryz.underlying50 hi hz0 hz1 hz2 rfl (by decide) _ k ((gs.take k).map (Value.int .i64)) rfl (hrow5.alloc _) ⟨w5.heap.size, 0, none⟩ 1 1 [.int .i64 x] rfl rfl (news_i kN) ints_one (by unfold maxLen; omega) (by omega) (by simp; omega) ?_; intro v' w7 hown' hgrow _; rw [show (gs.take k).map (Value.int .i64) ++ [Value.int .i64 x] = (gs.take k ++ [x]).map (Value.int .i64) by simp] at hown')
          go_roundw
          case rel =>
            have F7 : Far (fun k => w3.heap.size ≤ k) w5 w7 := (Far.of_below hbN).grown hgrow (fun g hg hlt => (hrow5.lt g hg).1)
            have F37 : Far (fun k => k = b) w3 w7 := hF5.trans' F7 (fun i hi h => by omega)
            have F8 := (Far.of_below hbN).grown hgrow (T := fun k => Value.ownBlock _ = some k) (fun g hg _ => hg)
            exact ⟨k + 1, jV, by omega, by go_num, rfl, hsn3, by rw [hts'.out]; exact hown', Lib.hid (V5'.out.far F8 (fun h => by have := (hrow5.lt b h).1; omega) (fun _ _ _ _ _ _ g _ _ _ hc hg => hc.elim fun cr hcr => own_other hrow5 hg hcr (by decide))), F37⟩
          case measure => simp [intOf]; omega
        · have hj' : (je != 0) = true := by simpa using hj
          rw [if_neg hj] at hsn2
          have hR3 : Hid (R = (k, 0, je, jV)) := Lib.hid (by rw [← hR2.out, hsn2, if_pos hj])
          obtain ⟨A', cap', rfl, hru, _, _, hfr2, _⟩ := own_Rd hrow5
          have FF : Far (fun k => k = b) w w5 := (Far.of_below hB3'.out).trans hF5
          have hB3z := hB3'.out.size
          clear hsn2 hR2 hB3'
          go_wp2_with fail
          (try simp only [Exit.inBlock, Exit.then]); refine bodyPost_ret (results_tmp3 rfl _ _ _) rfl ?_
          rw [hR3.out]
          exact ⟨A', cap', none, 0, rfl, hru, fun g o e => by have := hfr2 g o e; omega, by rw [List.take_zero]; exact RU.nil, fun _ _ h => (by cases h), V5'.out, FF⟩
      · obtain rfl : k = n := by omega
        have hlt' : decide ((k : Int) < (k : Int)) = false := by simp
        have hsA : spF gs V = (k, 0, U) := by
          rw [hfl.out, List.drop_of_length_le (by omega)]
          rfl
        have hR3 : Hid ((k, dcF ps U) = R) := Lib.hid (by rw [← hR2.out, hsA, if_neg (by simp)])
        have hrow' := Lib.hid hrow
        have r4 := Lib.hid (show RU wr wr.heap.size A ps from RU.more (fun j hj => by
          obtain ⟨b', o', e, hb', h1, h2⟩ := r3.out j hj
          have hne := hAb _ _ e (by have := hn'.out; omega)
          exact ⟨b', o', e, hb', hF.cell h1 hne, hF.cell h2 hne⟩) hF.size)
        have hnR := hn'.out
        have FW : Far (fun k => k = b) w wr := (Far.of_below hB3'.out).trans hF
        have hU4 := hU
        have hsz4 := hF.size
        have hB3z := hB3'.out.size
        obtain ⟨A', cap', rfl, hrW, _, _, hfW0, _⟩ := own_Rd hrow
        have hfW : ∀ g o, A' = some ⟨g, o, none⟩ → w.heap.size ≤ g := fun g o e => by have := hfW0 g o e; omega
        have hfW' : ∀ g o, A' = some ⟨g, o, none⟩ → ¬ g = b := fun g o e h => by have := hfW0 g o e; omega
        have hbA : b < wr.heap.size := by omega
        clear hfl hsA hR2 hF hU hrow r3 hrg hfr hb3s hnR hfW0
        obtain ⟨wA, rfl⟩ : ∃ wA, wA = wr := ⟨_, rfl⟩
        go_wp2_with fail
        go_loopw [6, 7, 56] (fun v6 v i w4 => v6 = .slice A' k cap' ∧ ∃ (m : Nat) (T : Vm), m ≤ np ∧ i = .int .i64 m ∧ Hid (dcF ps U = (m + (dcF (ps.drop m) T).1, (dcF (ps.drop m) T).2)) ∧ w4.ownsRow wA.heap.size 134 2 v m (spCells (ps.take m)) ∧ Hid (SysIs w4 b T) ∧ Far (fun k => k = b) wA w4) (fun _ _ i _ => np - (intOf i).toNat)
        case atStart => exact ⟨rfl, 0, U, by omega, rfl, Lib.hid (by simp), World.ownsRow_nil _ _ _ _, hU4, Far.refl _ _⟩
        case round =>
          clear hU4
          obtain ⟨rfl, m, T, hmp, rfl, hfl, hrow2, hT, hF2⟩ := hrel
          have hn2 := hn'.out
          have hs4 := hF2.size
          by_cases hlt2 : m < np
          · have hlt2' : decide ((m : Int) < (np : Int)) = true := by simpa using hlt2
            have hsn := dcF_step (by omega) hfl.out
            obtain ⟨rb, ro, rfl, hrb, c5, c6⟩ := r4.out.at_' (k := m) (by omega)
            have hne := hAb _ _ rfl (by omega)
            have d5 := hF2.cell c5 (by show ¬ rb = b; omega)
            have d6 := hF2.cell c6 (by show ¬ rb = b; omega)
            have hts : Hid (spCells (ps.take (m + 1)) = spCells (ps.take m) ++ [.int .i64 (ps.getD m (0, 0)).1, .int .i64 (ps.getD m (0, 0)).2]) := Lib.hid (by rw [z_take (0, 0) ps (by omega), spCells_snoc])
            generalize ps.getD m (0, 0) = x at *
            obtain ⟨xa, xb⟩ := x
            simp only at d5 d6 hts hsn
            have hsn' := Lib.hid hsn
            have kx := Blk.new wr 134 #[.int .i64 xa, .int .i64 xb]
            have hbx : Below wr.heap.size wr (wr.alloc (.cells #[.int .i64 xa, .int .i64 xb] 134)) := (Below.refl _ _).alloc (Nat.le_refl _) _
            have cx := kx.cell
            obtain ⟨gx, hgx⟩ : ∃ gx, wr.heap.size = gx := ⟨_, rfl⟩
            rw [hgx] at kx cx
            have hbz := hT.out.lt
            clear hsn c5 c6 hfl
            go_upto_region 18 with fail
            have Tx := Lib.hid (hT.out.call hbx)
            have rowx := ownsRow_call hrow2 hbx
            have hFx : Far (fun k => k = b) wA _ := hF2.trans (.of_below hbx)
            generalize wr.alloc _ = w5 at *
            try simp only [hgx]
            have HD := Lib.hid (decommit_any b xa xb T w5 Tx.out)
            clear hbx hT hrow2 hF2 d5 d6
            go_wp2_with fail
            refine HD.out.mono ?_
            rintro e w6 ⟨rfl, V6, F6⟩
            have V6' := Lib.hid V6
            have row6 := ownsRow_far rowx F6 (fun g hg h => by have := (rowx.lt g hg).1; omega)
            have hF6 := hFx.trans F6
            have kx6 := F6.blk kx (by show ¬ gx = b; omega)
            generalize bec T xa xb 3 2 1 = J at *
            obtain ⟨je, jV⟩ := J
            simp only at hsn' V6'
            have hsn2 := hsn'.out
            clear HD Tx rowx hFx F6 V6 hsn' kx cx
            by_cases hj : je = 0
            · subst hj
              rw [if_pos rfl] at hsn2
              have hsn3 := Lib.hid hsn2
              have cx := kx6.cell
              have hs6 := hF6.size
              have kN := Blk.new w6 134 #[.int .i64 xa, .int .i64 xb]
              have hbN : Below w6.heap.size w6 (w6.alloc (.cells #[.int .i64 xa, .int .i64 xb] 134)) := (Below.refl _ _).alloc (Nat.le_refl _) _
              clear hsn2
              go_wp2_with (refine wpList_append_own _ rfl (.tmp 71) (.tmp 73) 42 rfl wA.heap.size 134 j0 (.agg #[.int .i64 0, .int .i64 0]) 2 16 Tryz.underlying42 hj hy0 hy1 hy2 rfl (by decide) _ m (spCells (ps.take m)) rfl (row6.alloc _) ⟨w6.heap.size, 0, none⟩ 1 1 [.int .i64 xa, .int .i64 xb] rfl rfl (news_two kN) news_one2 (by unfold maxLen; omega) (by omega) (by simp; omega) ?_; intro v' w7 hown' hgrow _; rw [← hts.out] at hown')
              go_roundw
              case rel =>
                have F7 : Far (fun k => wA.heap.size ≤ k) w6 w7 := (Far.of_below hbN).grown hgrow (fun g hg hlt => (row6.lt g hg).1)
                have F37 : Far (fun k => k = b) wA w7 := hF6.trans' F7 (fun i hi h => by omega)
                have F8 := (Far.of_below hbN).grown hgrow (T := fun k => Value.ownBlock _ = some k) (fun g hg _ => hg)
                exact ⟨rfl, m + 1, jV, by omega, by go_num, hsn3, hown', Lib.hid (V6'.out.far F8 (fun h => by have := (row6.lt b h).1; have := hbA; omega) (fun _ _ _ _ _ _ g _ _ _ hc hg => hc.elim fun cr hcr => own_other row6 hg hcr (by decide))), F37⟩
              case measure => simp [intOf]; omega
            · have hj' : (je != 0) = true := by simpa using hj
              rw [if_neg hj] at hsn2
              have hR4 : Hid (R = (k, m, je, jV)) := Lib.hid (by rw [← hR3.out, hsn2])
              obtain ⟨A5, cap5, rfl, hru5, _, _, hfr5, _⟩ := own_RU row6 (by rw [List.length_take]; omega)
              have FF := FW.trans hF6
              have hrA := hF6.ri hrW hfW'
              clear hsn2 hR3
              go_wp2_with fail
              (try simp only [Exit.inBlock, Exit.then]); refine bodyPost_ret (results_tmp3 rfl _ _ _) rfl ?_
              rw [hR4.out]
              exact ⟨A', cap', A5, cap5, rfl, RI.more hrA hF6.size, hfW, hru5, fun g o e => by have := hfr5 g o e; omega, V6'.out, FF⟩
          · obtain rfl : m = np := by omega
            have hlt2' : decide ((m : Int) < (m : Int)) = false := by simp
            have hsA2 : dcF ps U = (m, 0, T) := by
              rw [hfl.out, List.drop_of_length_le (by omega)]
              rfl
            have hR4 : Hid (R = (k, m, 0, T)) := Lib.hid (by rw [← hR3.out, hsA2])
            obtain ⟨A5, cap5, rfl, hru5, _, _, hfr5, _⟩ := own_RU hrow2 (by rw [List.length_take]; omega)
            have FF := FW.trans hF2
            have hrA := hF2.ri hrW hfW'
            clear hR3 hsA2 hfl
            go_wp2_with fail
            (try simp only [Exit.inBlock, Exit.then]); refine bodyPost_ret (results_tmp3 rfl _ _ _) rfl ?_
            rw [hR4.out]
            exact ⟨A', cap', A5, cap5, rfl, RI.more hrA hF2.size, hfW, hru5, fun g o e => by have := hfr5 g o e; omega, hT.out, FF⟩
  · have h0' : (er != 0) = true := by simpa using h0
    have hR2 := hR'.out
    rw [if_pos h0] at hR2
    subst hR2
    clear HG S2 c2 k2 hR' B1
    go_wp2_with fail
    (try simp only [Exit.inBlock, Exit.then]); refine bodyPost_ret (results_tmp3 rfl _ _ _) rfl ?_
    exact ⟨none, 0, none, 0, rfl, by rw [List.take_zero]; exact RI.nil, fun _ _ h => (by cases h), by rw [List.take_zero]; exact RU.nil, fun _ _ h => (by cases h), V3.out, .of_below B3⟩
set_option maxRecDepth 100000 in
set_option maxHeartbeats 1600000 in
/-- no system to give pages back to -/
theorem hbackNil_any (A : Option Addr) (np cp : Nat) (A1 A2 A3 : Option Addr) (n1 c1 n2 c2 n3 c3 : Nat) (w : World) :
    Calls Tryz.prog 35 #[.pointer none, .agg #[.slice A1 n1 c1, .slice A2 n2 c2, .slice A3 n3 c3], .slice A np cp] w fun e w' => e = .returned (.tuple #[.slice none 0 0, .slice none 0 0, .int .i64 1]) ∧ Below w.heap.size w w' := by
  have HC := Lib.hid (fun W => countsNil_any W)
  have hb0 := (Below.refl w.heap.size w).alloc (Nat.le_refl _) (.cells #[.slice A1 n1 c1, .slice A2 n2 c2, .slice A3 n3 c3] 52)
  go_enter Tryz.func35, Tryz.ntmps35
  go_upto_region 1 with fail
  generalize w.alloc _ = w0 at *
  go_wp2_with fail
  refine (HC.out _).mono ?_
  rintro e w1 ⟨rfl, hb1⟩
  have B1 := hb0.trans (hb1.mono hb0.size)
  have hb2 := B1.alloc B1.size (.cells #[.int .i64 0, .int .i64 0, .int .i64 0, .int .i64 0, .int .i64 0] 123)
  go_wp2_with fail
  (try simp only [Exit.inBlock, Exit.then]); refine bodyPost_ret (results_tmp3 rfl _ _ _) rfl ?_
  exact ⟨rfl, hb2⟩
end Go.Proofs.YtefnnfcfigcikaaGreat
namespace Go.Pol
open Go Go.Proofs Go.RowKit
theorem hjS_good : ∀ (l : List Int) (s : Vm × List Int × Int), GoodV s.1 → GoodV (l.foldl hjS s).1
  | [], _, h => h
  | x :: r, _, h => hjS_good r _ (h.join (wrap64 (x * 16)))
theorem hjF_good {V : Vm} (h : GoodV V) (G : List Int × Int) : GoodV (hjF V G).1 := by
  unfold hjF
  split
  · exact h
  · exact hjS_good _ _ h
/-- a list, an error, and a system of the reference that has become this -/
def RJoinO (B b : Nat) (r : Vm × List Int × Int) (w : World) (e : Ending) (w' : World) : Prop := ∃ (A : Option Addr) (cap : Nat), e = .returned (.tuple #[.slice A r.2.1.length cap, .int .i64 r.2.2]) ∧ RI w' w'.heap.size A r.2.1 ∧ (∀ g o, A = some ⟨g, o, none⟩ → w.heap.size ≤ g) ∧ RefIs w' B b r.1 ∧ Far (fun k => k = b) w w'
end Go.Pol
namespace Go.Proofs.YtefnnfcfigcikaaGreat
open Go Go.Proofs Go.RowKit Go.Pol Go.Shelf
attribute [local go_sem] Oper.semAt_some Go.Pol.wide_fn Go.Pol.wide_depth Go.Pol.wide_fn' Go.Pol.wide_depth'

set_option maxRecDepth 100000 in
set_option maxHeartbeats 3200000 in
theorem rhjoin_any (B b : Nat) (least : Int) (S : Value) (C L : List Sp) (H : List Int) (V : Vm) (w : World) (hV : RefIs w B b V) (hG : GoodV V) (hS : StIs w S C L H) :
    Calls Tryz.prog 31 #[.pointer (some ⟨b, 0, none⟩), S, .int .i64 least] w (RJoinO B b (hjF V (groupsA C L H least)) w) := by
  have HG := Lib.hid (fun W h => rgroups13N_any S C L H least W h)
  have hV0 := Lib.hid hV
  have hS0 := Lib.hid hS
  have hbs := hV.lt
  have hbB := hV.base
  obtain ⟨i0, hi, hz0, hz1, hz2⟩ := info_parts infoIn
  have hlen : Hid ((groupsA C L H least).1.length ≤ 64) := Lib.hid (by
    unfold groupsA
    split
    · simp
    · split
      · simp
      · rw [← groupsN_eq]; exact groupsN_len C L H least 64)
  generalize groupsA C L H least = G at *
  obtain ⟨gs, er⟩ := G
  unfold IntsN at HG
  simp only at hlen HG
  obtain ⟨R, hR⟩ : ∃ R, hjF V (gs, er) = R := ⟨_, rfl⟩
  rw [hR]
  have hR' := Lib.hid hR
  obtain ⟨A1, A2, A3, n1, c1, n2, c2, n3, c3, rfl, _⟩ := hS.ex
  have hb0 := (Below.refl w.heap.size w).alloc (Nat.le_refl _) (.cells #[.slice A1 n1 c1, .slice A2 n2 c2, .slice A3 n3 c3] 52)
  have k0 := Blk.new w 52 #[.slice A1 n1 c1, .slice A2 n2 c2, .slice A3 n3 c3]
  have S0 := hS0.out.on hb0
  have c0 := k0.cell
  clear hS hR hV
  go_enter Tryz.func31, Tryz.ntmps31
  go_upto_region 1 with fail
  generalize w.alloc _ = w0 at *
  go_wp2_with fail
  refine (HG.out _ S0).mono ?_
  rintro e w3 ⟨A, cap, rfl, hr, hfr, hb3⟩
  have B3 := hb0.trans (hb3.mono hb0.size)
  have V3 := Lib.hid (hV0.out.call B3)
  unfold hjF at hR'
  by_cases h0 : er = 0
  · subst h0
    have hR2 : Hid (gs.foldl hjS (V, [], 0) = R) := Lib.hid (by have := hR'.out; rwa [if_neg (by simp)] at this)
    have hGd := Lib.hid (fun k => hjS_good (gs.take k) (V, [], 0) hG)
    obtain ⟨n, hn⟩ : ∃ n, gs.length = n := ⟨_, rfl⟩
    simp only [hn] at hlen ⊢
    have hb3s := Lib.hid hb3.size
    have hb0s := Lib.hid hb0.size
    clear HG S0 k0 c0 hR' hb3 hS0
    go_wp2_with fail
    go_loopw [9, 10, 11, 12] (fun u v c i wr => ∃ (k : Nat) (l : List Int) (ec : Int) (U : Vm) (x : Int), k ≤ n ∧ u = .int .i64 x ∧ i = .int .i64 k ∧ c = .int .i64 ec ∧ Hid ((gs.take k).foldl hjS (V, [], 0) = (U, l, ec)) ∧ l.length ≤ k ∧ wr.ownsRow w3.heap.size 3 1 v l.length (l.map (Value.int .i64)) ∧ Hid (RefIs wr B b U) ∧ Far (fun k => k = b) w3 wr) (fun _ _ _ i _ => n - (intOf i).toNat)
    case atStart => exact ⟨0, [], 0, V, 0, by omega, rfl, rfl, rfl, Lib.hid rfl, by simp, World.ownsRow_nil _ _ _ _, V3, Far.refl _ _⟩
    case round =>
      clear V3
      obtain ⟨k, l, ec, U, x0, hk, rfl, rfl, rfl, hfl, hlk, hrow, hU, hF⟩ := hrel
      have hB3s := hb3s.out
      have hB0s := hb0s.out
      have hlen' := hlen.out
      by_cases hlt : k < n
      · have hlt' : decide ((k : Int) < (n : Int)) = true := by simpa using hlt
        have hts := take_snocI gs k (by omega)
        have hsn : (gs.take (k + 1)).foldl hjS (V, [], 0) = hjS (U, l, ec) (gs.getD k 0) := by rw [hts, List.foldl_append, hfl.out]; rfl
        have hgU : GoodV U := by have := hGd.out k; rw [hfl.out] at this; exact this
        obtain ⟨rb, ro, rfl, hrb, c5⟩ := hr.at_ (k := k) (by omega)
        have hrb2 := hfr rb ro rfl
        have d5 := hF.cell c5 (by show ¬ rb = b; omega)
        generalize gs.getD k 0 = x at *
        have hsn' : Hid ((gs.take (k + 1)).foldl hjS (V, [], 0) = ((Go.Pol.joinF U (wrap64 (x * 16))).2, if (Go.Pol.joinF U (wrap64 (x * 16))).1 = 0 then l ++ [x] else l, if (Go.Pol.joinF U (wrap64 (x * 16))).1 = 0 then ec else if ec = 0 then (Go.Pol.joinF U (wrap64 (x * 16))).1 else ec)) := Lib.hid hsn
        have HJ := Lib.hid (join6_any B b (wrap64 (x * 16)) U wr hU.out hgU)
        clear hts hsn c5 hgU
        go_wp2_with fail
        refine HJ.out.mono ?_
        rintro e w5 ⟨rfl, V5, F5⟩
        have V5' := Lib.hid V5
        have hrow5 := ownsRow_far hrow F5 (fun g hg h => by have := (hrow.lt g hg).1; omega)
        have hF5 := hF.trans F5
        have d6 := F5.cell d5 (by show ¬ rb = b; omega)
        generalize Go.Pol.joinF U (wrap64 (x * 16)) = J at *
        obtain ⟨je, jV⟩ := J
        simp only at hsn' V5'
        have hsn2 := hsn'.out
        clear HJ hU hrow hF F5 V5 hsn' d5
        by_cases hj : je = 0
        · subst hj
          rw [if_pos rfl, if_pos rfl] at hsn2
          have hsn3 := Lib.hid hsn2
          clear hsn2
          obtain ⟨ll, hll⟩ : ∃ ll, l.length = ll := ⟨_, rfl⟩
          rw [hll] at hrow5 hlk
          have kN := Blk.new w5 3 #[.int .i64 x]
          have hbN : Below w5.heap.size w5 (w5.alloc (.cells #[.int .i64 x] 3)) := (Below.refl _ _).alloc (Nat.le_refl _) _
          have hs5 := hF5.size
          go_wp2_with (refine wpList_append_own _ rfl (.tmp 37) (.tmp 42) 50 rfl w3.heap.size 3 i0 (.int .i64 0) 1 8 Tryz.underlying50 hi hz0 hz1 hz2 rfl (by decide) _ ll (l.map (Value.int .i64)) rfl (hrow5.alloc _) ⟨w5.heap.size, 0, none⟩ 1 1 [.int .i64 x] rfl rfl (news_i kN) ints_one (by unfold maxLen; omega) (by omega) (by simp; omega) ?_; intro v' w7 hown' hgrow _; rw [show l.map (Value.int .i64) ++ [Value.int .i64 x] = (l ++ [x]).map (Value.int .i64) by simp] at hown')
          go_roundw
          case rel =>
            have F7 : Far (fun k => w3.heap.size ≤ k) w5 w7 := (Far.of_below hbN).grown hgrow (fun g hg hlt => (hrow5.lt g hg).1)
            have F37 : Far (fun k => k = b) w3 w7 := hF5.trans' F7 (fun i hi h => by omega)
            exact ⟨k + 1, l ++ [x], ec, jV, 0, by omega, rfl, by go_num, rfl, hsn3, by rw [List.length_append, List.length_singleton, hll]; omega, by rw [List.length_append, List.length_singleton, hll]; exact hown', Lib.hid (V5'.out.far F7 (fun k hk => by omega)), F37⟩
          case measure => simp [intOf]; omega
        · have hj' : (je == 0) = false := by simpa using hj
          rw [if_neg hj, if_neg hj] at hsn2
          by_cases he : ec = 0
          · subst he
            rw [if_pos rfl] at hsn2
            have hsn3 := Lib.hid hsn2
            clear hsn2
            go_wp2_with fail
            go_roundw
            case rel => exact ⟨k + 1, l, je, jV, je, by omega, rfl, by go_num, rfl, hsn3, by omega, hrow5, V5', hF5⟩
            case measure => simp [intOf]; omega
          · have he' : (ec == 0) = false := by simpa using he
            rw [if_neg he] at hsn2
            have hsn3 := Lib.hid hsn2
            clear hsn2
            go_wp2_with fail
            go_roundw
            case rel => exact ⟨k + 1, l, ec, jV, je, by omega, rfl, by go_num, rfl, hsn3, by omega, hrow5, V5', hF5⟩
            case measure => simp [intOf]; omega
      · obtain rfl : k = n := by omega
        have hlt' : decide ((k : Int) < (k : Int)) = false := by simp
        have hR3 : R = (U, l, ec) := by rw [← hR2.out, ← hfl.out, List.take_of_length_le (by omega)]
        subst hR3
        obtain ⟨A', cap', rfl, hru, _, _, hfr2, _⟩ := own_Rd hrow
        have FF : Far (fun k => k = b) w wr := (Far.of_below B3).trans hF
        go_wp2_with fail
        go_ret2
        exact ⟨A', cap', rfl, hru, fun g o e => by have := hfr2 g o e; have := B3.size; omega, hU.out, FF⟩
  · have h0' : (er != 0) = true := by simpa using h0
    have hR2 := hR'.out
    rw [if_pos h0] at hR2
    subst hR2
    clear HG S0 c0 k0 hR'
    go_wp2_with fail
    go_ret2
    exact ⟨none, 0, rfl, RI.nil, fun _ _ h => (by cases h), V3.out, .of_below B3⟩
end Go.Proofs.YtefnnfcfigcikaaGreat
namespace Go.Pol
open Go Go.Proofs Go.RowKit
/-- the groups split, the spans given back, an error, and a system of the reference that has become this -/
def RBackO (B b : Nat) (gs : List Int) (ps : List Sp) (r : Nat × Nat × Int × Vm) (w : World) (e : Ending) (w' : World) : Prop :=
  ∃ (A : Option Addr) (cap : Nat) (A' : Option Addr) (cap' : Nat), e = .returned (.tuple #[.slice A r.1 cap, .slice A' r.2.1 cap', .int .i64 r.2.2.1]) ∧ RI w' w'.heap.size A (gs.take r.1) ∧ RU w' w'.heap.size A' (ps.take r.2.1) ∧ RefIs w' B b r.2.2.2 ∧ Far (fun k => k = b) w w'
theorem RU.taken {w : World} {B : Nat} {A : Option Addr} {us : List Sp} (h : RU w B A us) (m : Nat) : RU w B A (us.take m) := fun k hk => by
  have hk2 : k < m ∧ k < us.length := by rw [List.length_take] at hk; omega
  have e : (us.take m).getD k (0, 0) = us.getD k (0, 0) := by simp [List.getD_eq_getElem?_getD, hk2.1]
  rw [e]
  exact h k hk2.2
theorem RI.taken {w : World} {B : Nat} {A : Option Addr} {us : List Int} (h : RI w B A us) (m : Nat) : RI w B A (us.take m) := fun k hk => by
  have hk1 : k < (us.map (Value.int .i64)).length := by rw [List.length_map, List.length_take] at hk; rw [List.length_map]; omega
  obtain ⟨b, o, h1, h2, h3⟩ := h k hk1
  refine ⟨b, o, h1, h2, ?_⟩
  rw [h3]
  simp
end Go.Pol
namespace Go.Proofs.YtefnnfcfigcikaaGreat
open Go Go.Proofs Go.RowKit Go.Pol Go.Shelf
attribute [local go_sem] Oper.semAt_some Go.Pol.wide_fn Go.Pol.wide_depth Go.Pol.wide_fn' Go.Pol.wide_depth'

set_option maxRecDepth 100000 in
set_option maxHeartbeats 3200000 in
theorem rhback_any (B b : Nat) (S : Value) (C L : List Sp) (H : List Int) (A : Option Addr) (np cp : Nat) (ps : List Sp) (V : Vm) (w : World) (hV : RefIs w B b V) (hS : StIs w S C L H) (hn : ps.length = np) (hm : np ≤ 1000) (hcp : np ≤ cp) (hr : RU w w.heap.size A ps) (hAb : ∀ g o, A = some ⟨g, o, none⟩ → 0 < np → g ≠ b) :
    Calls Tryz.prog 36 #[.pointer (some ⟨b, 0, none⟩), S, .slice A np cp] w (RBackO B b (splitA C L H ps).1 ps (hbF V (splitA C L H ps) ps) w) := by
  have HG := Lib.hid (fun W h hr => rsplit13N_any S C L H A np cp ps W h hn (by unfold maxLen; omega) hr)
  have hV0 := Lib.hid hV
  have hS0 := Lib.hid hS
  have hr0 := Lib.hid hr
  have hbs := hV.lt
  have hlen : Hid ((splitB C L H ps).1.length ≤ 64) := Lib.hid (splitB_len C L H ps)
  rw [split_eq]
  generalize splitB C L H ps = G at *
  obtain ⟨gs, er⟩ := G
  unfold IntsNC at HG
  simp only at hlen HG
  obtain ⟨R, hR⟩ : ∃ R, hbF V (gs, er) ps = R := ⟨_, rfl⟩
  rw [hR]
  have hR' := Lib.hid hR
  obtain ⟨A1, A2, A3, n1, c1, n2, c2, n3, c3, rfl, _⟩ := hS.ex
  have hb0 := (Below.refl w.heap.size w).alloc (Nat.le_refl _) (.cells #[.slice A1 n1 c1, .slice A2 n2 c2, .slice A3 n3 c3] 52)
  have k0 := Blk.new w 52 #[.slice A1 n1 c1, .slice A2 n2 c2, .slice A3 n3 c3]
  have S0 := hS0.out.on hb0
  have r0 := hr0.out.on hb0
  have c0 := k0.cell
  clear hS hR hV hr
  go_enter Tryz.func36, Tryz.ntmps36
  go_upto_region 1 with fail
  generalize w.alloc _ = w0 at *
  go_wp2_with fail
  refine (HG.out _ S0 r0).mono ?_
  rintro e w3 ⟨Ag, cg, rfl, hrg, hfr, hcg, hb3⟩
  have B3 := hb0.trans (hb3.mono hb0.size)
  have V3 := Lib.hid (hV0.out.call B3)
  have r3 := Lib.hid (hr0.out.on B3)
  unfold hbF at hR'
  by_cases h0 : er = 0
  · subst h0
    have hR2 : Hid ((if (spF gs V).2.1 ≠ 0 then ((spF gs V).1, 0, (spF gs V).2) else ((spF gs V).1, dcF ps (spF gs V).2.2)) = R) := Lib.hid (by have := hR'.out; rwa [if_neg (by simp)] at this)
    obtain ⟨n, hng⟩ : ∃ n, gs.length = n := ⟨_, rfl⟩
    rw [hng] at hcg
    simp only [hng] at hlen ⊢
    have hb3s := Lib.hid hb3.size
    have hb0s := Lib.hid hb0.size
    have hB3' := Lib.hid B3
    have hn' := Lib.hid hn
    clear HG S0 k0 c0 hR' hb3 hS0 r0 hn hr0
    go_wp2_with fail
    go_loopw [10, 11] (fun u i wr => ∃ (k : Nat) (U : Vm) (x : Int), k ≤ n ∧ u = .int .i64 x ∧ i = .int .i64 k ∧ Hid (spF gs V = (k + (spF (gs.drop k) U).1, (spF (gs.drop k) U).2)) ∧ Hid (RefIs wr B b U) ∧ Far (fun k => k = b) w3 wr) (fun _ i _ => n - (intOf i).toNat)
    case atStart => exact ⟨0, V, 0, by omega, rfl, rfl, Lib.hid (by simp), V3, Far.refl _ _⟩
    case round =>
      clear V3
      obtain ⟨k, U, x0, hk, rfl, rfl, hfl, hU, hF⟩ := hrel
      have hB3s := hb3s.out
      have hB0s := hb0s.out
      have hlen' := hlen.out
      by_cases hlt : k < n
      · have hlt' : decide ((k : Int) < (n : Int)) = true := by simpa using hlt
        have hsn := spF_step (by omega) hfl.out
        obtain ⟨rb, ro, rfl, hrb, c5⟩ := hrg.at_ (k := k) (by omega)
        have hrb2 := hfr rb ro rfl
        have d5 := hF.cell c5 (by show ¬ rb = b; omega)
        generalize gs.getD k 0 = x at *
        have HJ := Lib.hid (split6_any B b (wrap64 (x * 16)) U wr hU.out)
        have hsn' := Lib.hid hsn
        clear c5 hsn hfl
        go_wp2_with fail
        refine HJ.out.mono ?_
        rintro e w5 ⟨rfl, V5, F5⟩
        have V5' := Lib.hid V5
        have hF5 := hF.trans F5
        generalize splitF U (wrap64 (x * 16)) = J at *
        obtain ⟨je, jV⟩ := J
        simp only at hsn' V5'
        have hsn2 := hsn'.out
        clear HJ hU hF F5 V5 hsn' d5
        by_cases hj : je = 0
        · subst hj
          rw [if_pos rfl] at hsn2
          have hsn3 := Lib.hid hsn2
          clear hsn2
          go_wp2_with fail
          go_roundw
          case rel => exact ⟨k + 1, jV, 0, by omega, rfl, by go_num, hsn3, V5', hF5⟩
          case measure => simp [intOf]; omega
        · have hj' : (je != 0) = true := by simpa using hj
          rw [if_neg hj] at hsn2
          have hR3 : Hid (R = (k, 0, je, jV)) := Lib.hid (by rw [← hR2.out, hsn2, if_pos hj])
          have FF : Far (fun k => k = b) w w5 := (Far.of_below hB3'.out).trans hF5
          have hru := (hF5.ri hrg (fun g o e h => by cases e; omega)).taken k
          have hkc : (k : Int) ≤ (cg : Int) := by omega
          have hkn : k ≤ cg := by omega
          have hs5 := hF5.size
          clear hsn2 hR2 hB3'
          go_wp2_with fail
          (try simp only [Exit.inBlock, Exit.then]); refine bodyPost_ret (results_tmp3 rfl _ _ _) rfl ?_
          rw [hR3.out]
          exact ⟨_, _, none, 0, rfl, RI.more hru hs5, by rw [List.take_zero]; exact RU.nil, V5'.out, FF⟩
      · obtain rfl : k = n := by omega
        have hlt' : decide ((k : Int) < (k : Int)) = false := by simp
        have hsA : spF gs V = (k, 0, U) := by
          rw [hfl.out, List.drop_of_length_le (by omega)]
          rfl
        have hR3 : Hid ((k, dcF ps U) = R) := Lib.hid (by rw [← hR2.out, hsA, if_neg (by simp)])
        have r4 := Lib.hid (show RU wr wr.heap.size A ps from RU.more (fun j hj => by
          obtain ⟨b', o', e, hb', h1, h2⟩ := r3.out j hj
          have hne := hAb _ _ e (by have := hn'.out; omega)
          exact ⟨b', o', e, hb', hF.cell h1 hne, hF.cell h2 hne⟩) hF.size)
        have FW : Far (fun k => k = b) w wr := (Far.of_below hB3'.out).trans hF
        have hU4 := hU
        have hfW' : ∀ g o, Ag = some ⟨g, o, none⟩ → ¬ g = b := fun g o e h => by have := hfr g o e; omega
        have hrW : RI wr wr.heap.size Ag gs := RI.more (hF.ri hrg hfW') hF.size
        have hng' := Lib.hid hng
        clear hfl hsA hR2 hF hU r3 hrg hfr hb3s hb0s hng hB3'
        obtain ⟨wA, rfl⟩ : ∃ wA, wA = wr := ⟨_, rfl⟩
        go_wp2_with fail
        go_loopw [10, 12] (fun u i w4 => ∃ (m : Nat) (T : Vm) (x : Int), m ≤ np ∧ u = .int .i64 x ∧ i = .int .i64 m ∧ Hid (dcF ps U = (m + (dcF (ps.drop m) T).1, (dcF (ps.drop m) T).2)) ∧ Hid (RefIs w4 B b T) ∧ Far (fun k => k = b) wA w4) (fun _ i _ => np - (intOf i).toNat)
        case atStart => exact ⟨0, U, _, by omega, rfl, rfl, Lib.hid (by simp), hU4, Far.refl _ _⟩
        case round =>
          clear hU4
          obtain ⟨m, T, x0, hmp, rfl, rfl, hfl, hT, hF2⟩ := hrel
          have hn2 := hn'.out
          by_cases hlt2 : m < np
          · have hlt2' : decide ((m : Int) < (np : Int)) = true := by simpa using hlt2
            have hsn := dcF_step (by omega) hfl.out
            obtain ⟨rb, ro, rfl, hrb, c5, c6⟩ := r4.out.at_' (k := m) (by omega)
            have hne := hAb _ _ rfl (by omega)
            have d5 := hF2.cell c5 (by show ¬ rb = b; omega)
            have d6 := hF2.cell c6 (by show ¬ rb = b; omega)
            generalize ps.getD m (0, 0) = x at *
            obtain ⟨xa, xb⟩ := x
            simp only at d5 d6 hsn
            have hsn' := Lib.hid hsn
            have e1 := fun z : Ext wr => z.cell d5
            have e2 := fun z : Ext wr => z.cell d6
            clear hsn c5 c6 hfl d5 d6
            go_upto_region 13 with fail
            refine region_ext_tail 11 (by kernel_rfl) (by kernel_rfl) ?_
            simp only [List.take_succ_cons, List.take_zero, List.drop_succ_cons, List.drop_zero]
            repeat (go_big_quiet_step (fail))
            refine wpQuiet_nil ?_
            intro z
            go_wp2_with fail
            refine (decommit6_any B b xa xb T z.w (hT.out.call z.le)).mono ?_
            rintro e w6 ⟨rfl, V6, F6⟩
            have V6' := Lib.hid V6
            have hF6 : Far (fun k => k = b) wA w6 := (hF2.trans (.of_below z.le)).trans F6
            generalize bec T xa xb 3 2 1 = J at *
            obtain ⟨je, jV⟩ := J
            simp only at hsn' V6'
            have hsn2 := hsn'.out
            clear hT hF2 F6 V6 hsn' e1 e2
            by_cases hj : je = 0
            · subst hj
              rw [if_pos rfl] at hsn2
              have hsn3 := Lib.hid hsn2
              clear hsn2
              go_wp2_with fail
              go_roundw
              case rel => exact ⟨m + 1, jV, 0, by omega, rfl, by go_num, hsn3, V6', hF6⟩
              case measure => simp [intOf]; omega
            · have hj' : (je != 0) = true := by simpa using hj
              rw [if_neg hj] at hsn2
              have hR4 : Hid (R = (k, m, je, jV)) := Lib.hid (by rw [← hR3.out, hsn2])
              have FF := FW.trans hF6
              have hrA := RI.more (hF6.ri hrW hfW') hF6.size
              have hru5 : RU w6 w6.heap.size (some ⟨rb, ro, none⟩) (ps.take m) := (RU.more (fun j hj => by
                obtain ⟨b', o', e, hb', h1, h2⟩ := r4.out j hj
                have hne := hAb _ _ e (by have := hn'.out; omega)
                exact ⟨b', o', e, hb', hF6.cell h1 hne, hF6.cell h2 hne⟩) hF6.size : RU w6 w6.heap.size (some ⟨rb, ro, none⟩) ps).taken m
              have hmc : m ≤ cp := by omega
              clear hsn2 hR3
              go_upto_region 15 with fail
              refine region_ext (by kernel_rfl) (by kernel_rfl) ?_
              repeat (go_big_quiet_step (fail))
              refine wpQuiet_nil ?_
              rintro w8 ⟨⟨_, hw8⟩, rfl⟩
              go_wp2_with fail
              (try simp only [Exit.inBlock, Exit.then]); refine bodyPost_ret (results_tmp3 rfl _ _ _) rfl ?_
              rw [hR4.out]
              exact ⟨Ag, cg, _, _, rfl, by rw [List.take_of_length_le (by rw [hng'.out]; omega)]; exact RI.more (RI.below hrA hw8) hw8.size, (hru5.below hw8).more hw8.size, V6'.out.call hw8, FF.trans (.of_below hw8)⟩
          · obtain rfl : m = np := by omega
            have hlt2' : decide ((m : Int) < (m : Int)) = false := by simp
            have hsA2 : dcF ps U = (m, 0, T) := by
              rw [hfl.out, List.drop_of_length_le (by omega)]
              rfl
            have hR4 : Hid (R = (k, m, 0, T)) := Lib.hid (by rw [← hR3.out, hsA2])
            have FF := FW.trans hF2
            have hrA := RI.more (hF2.ri hrW hfW') hF2.size
            have hru5 : RU wr wr.heap.size A ps := RU.more (fun j hj => by
              obtain ⟨b', o', e, hb', h1, h2⟩ := r4.out j hj
              have hne := hAb _ _ e (by have := hn'.out; omega)
              exact ⟨b', o', e, hb', hF2.cell h1 hne, hF2.cell h2 hne⟩) hF2.size
            clear hR3 hsA2 hfl
            go_wp2_with fail
            (try simp only [Exit.inBlock, Exit.then]); refine bodyPost_ret (results_tmp3 rfl _ _ _) rfl ?_
            rw [hR4.out]
            exact ⟨Ag, cg, A, cp, rfl, by rw [List.take_of_length_le (by rw [hng'.out]; omega)]; exact hrA, by rw [List.take_of_length_le (by show ps.length ≤ m; omega)]; exact hru5, hT.out, FF⟩
  · have h0' : (er != 0) = true := by simpa using h0
    have hR2 := hR'.out
    rw [if_pos h0] at hR2
    subst hR2
    clear HG S0 k0 c0 hR'
    go_wp2_with fail
    (try simp only [Exit.inBlock, Exit.then]); refine bodyPost_ret (results_tmp3 rfl _ _ _) rfl ?_
    exact ⟨none, 0, none, 0, rfl, by rw [List.take_zero]; exact RI.nil, by rw [List.take_zero]; exact RU.nil, V3.out, .of_below B3⟩
end Go.Proofs.YtefnnfcfigcikaaGreat
namespace Go.Proofs.YtefnnfcfigcikaaGreat
open Go Go.Proofs Go.RowKit Go.Pol Go.Shelf
attribute [local go_sem] Oper.semAt_some Go.Pol.wide_fn Go.Pol.wide_depth Go.Pol.wide_fn' Go.Pol.wide_depth'

theorem eqRu (a b c d : Int) (w : World) : (Op.equalIn 10000 178 (.agg #[.int .i64 a, .int .i64 b, .int .i64 c, .int .i64 d]) (.agg #[.int .i64 a, .int .i64 b, .int .i64 c, .int .i64 d])).run Tryz.prog w = .ok true w := by
  have u3 := Tryz.underlying3
  have a3 := Tryz.isAgg3
  have z3 := Tryz.sizeOf3
  rw [show (10000 : Nat) = 9999 + 1 from rfl]
  go_simp
  try simp
theorem eqRn (a b c : Int) (w : World) : (Op.equalIn 10000 169 (.agg #[.int .i64 a, .int .i64 b, .int .i64 c]) (.agg #[.int .i64 a, .int .i64 b, .int .i64 c])).run Tryz.prog w = .ok true w := by
  have u3 := Tryz.underlying3
  have a3 := Tryz.isAgg3
  have z3 := Tryz.sizeOf3
  rw [show (10000 : Nat) = 9999 + 1 from rfl]
  go_simp
  try simp
set_option maxRecDepth 100000 in
set_option maxHeartbeats 1600000 in
theorem samePlan_any (A A' : Option Addr) (n cap cap' : Nat) (l : List Ru) (w : World) (hn : l.length = n) (hm : n ≤ 1000) (hr : Rd w w.heap.size A (fl ruC l)) (hr' : Rd w w.heap.size A' (fl ruC l)) :
    Calls Tryz.prog 139 #[.agg #[.slice A n cap], .agg #[.slice A' n cap']] w fun e w' => e = .returned (.bool true) ∧ Below w.heap.size w w' := by
  have hb0 := ((Below.refl w.heap.size w).alloc (Nat.le_refl _) (.cells #[.slice A n cap] 35)).alloc (by simp) (.cells #[.slice A' n cap'] 35)
  have k0 := (Blk.new w 35 #[.slice A n cap]).alloc (.cells #[.slice A' n cap'] 35)
  have k1 := Blk.new (w.alloc (.cells #[.slice A n cap] 35)) 35 #[.slice A' n cap']
  have r0 := hr.on_ hb0
  have r1 := hr'.on_ hb0
  obtain ⟨s, hs⟩ : ∃ s, w.heap.size = s := ⟨_, rfl⟩
  rw [World.size_alloc, hs] at k1
  rw [hs] at k0
  have hn' := Lib.hid hn
  have heq := Lib.hid (fun a b c d W => eqRu a b c d W)
  clear hn hr hr'
  go_enter Tryz.func139, Tryz.ntmps139
  go_upto_region 1 with fail
  generalize (w.alloc _).alloc _ = w0 at *
  try simp only [hs]
  have c0 := k0.cell
  have c1 := k1.cell
  have d0 : ((n : Int) != (n : Int)) = false := by simp
  go_upto_region 3 with fail
  clear c0 c1
  have k0' := Lib.hid k0
  have k1' := Lib.hid k1
  clear k0 k1
  go_wp2_with fail
  go_loopw [5] (fun u wr => ∃ i : Nat, i ≤ n ∧ u = .int .i64 i ∧ Below w0.heap.size w0 wr) (fun u _ => n - (intOf u).toNat)
  case atStart => exact ⟨0, by omega, rfl, Below.refl _ _⟩
  case round =>
    obtain ⟨i, hi, rfl, hB⟩ := hrel
    have kr := k0'.out.call hB
    have kq := k1'.out.call hB
    have cr := kr.cell
    by_cases hlt : i < n
    · have hlt' : decide ((i : Int) < (n : Int)) = true := by simpa using hlt
      have hin : (i : Int) < (n : Int) := by omega
      obtain ⟨b, o, rfl, hb, hc⟩ := (r0.on_ hB).elem ruC_len (by omega) ru0 (k := i) (by have := hn'.out; omega)
      obtain ⟨b', o', rfl, hb', hc'⟩ := (r1.on_ hB).elem ruC_len (by omega) ru0 (k := i) (by have := hn'.out; omega)
      generalize l.getD i ru0 = x at *
      obtain ⟨xk, f, e, t⟩ := x
      have x0 := hc 0 _ rfl
      have x1 := hc 1 _ rfl
      have x2 := hc 2 _ rfl
      have x3 := hc 3 _ rfl
      have y0 := hc' 0 _ rfl
      have y1 := hc' 1 _ rfl
      have y2 := hc' 2 _ rfl
      have y3 := hc' 3 _ rfl
      simp only [Nat.add_zero] at x0 y0
      have e0 := fun z : Ext wr => (z.blk kr).cell
      have e1 := fun z : Ext wr => (z.blk kq).cell
      have a0 := fun z : Ext wr => z.cell x0
      have a1 := fun z : Ext wr => z.cell x1
      have a2 := fun z : Ext wr => z.cell x2
      have a3 := fun z : Ext wr => z.cell x3
      have b0 := fun z : Ext wr => z.cell y0
      have b1 := fun z : Ext wr => z.cell y1
      have b2 := fun z : Ext wr => z.cell y2
      have b3 := fun z : Ext wr => z.cell y3
      have hq := fun W => heq.out xk f e t W
      clear hc hc' x0 x1 x2 x3 y0 y1 y2 y3
      go_upto_region 6 with fail
      clear cr
      refine region_ext (by kernel_rfl) (by kernel_rfl) ?_
      repeat (go_big_quiet_step (fail))
      refine wpQuiet_nil ?_
      rintro w2 ⟨⟨_, hw2⟩, rfl⟩
      go_wp2_with fail
      go_roundw
      case rel => exact ⟨i + 1, by omega, by go_num, hB.trans (hw2.mono hB.size)⟩
      case measure => simp [intOf]; omega
    · obtain rfl : i = n := by omega
      have hlt' : decide ((i : Int) < (i : Int)) = false := by simp
      go_wp2_with fail
      go_ret
      exact ⟨rfl, hb0.trans (hB.mono hb0.size)⟩
set_option maxRecDepth 100000 in
set_option maxHeartbeats 1600000 in
theorem sameState_any (A A' : Option Addr) (n cap cap' : Nat) (l : List Ru) (cs hs : Nat → Int) (w : World) (hn : l.length = n) (hm : n ≤ 1000) (hr : Rd w w.heap.size A (fl ruC l)) (hr' : Rd w w.heap.size A' (fl ruC l)) :
    Calls Tryz.prog 85 #[rfV (.slice A n cap) cs hs, rfV (.slice A' n cap') cs hs] w fun e w' => e = .returned (.bool true) ∧ Below w.heap.size w w' := by
  have hb0 := ((Below.refl w.heap.size w).alloc (Nat.le_refl _) (.cells (rfC (.slice A n cap) cs hs).toArray 79)).alloc (by simp) (.cells (rfC (.slice A' n cap') cs hs).toArray 79)
  have k0 := (Blk.new w 79 (rfC (.slice A n cap) cs hs).toArray).alloc (.cells (rfC (.slice A' n cap') cs hs).toArray 79)
  have k1 := Blk.new (w.alloc (.cells (rfC (.slice A n cap) cs hs).toArray 79)) 79 (rfC (.slice A' n cap') cs hs).toArray
  have r0 := hr.on_ hb0
  have r1 := hr'.on_ hb0
  obtain ⟨s, hsz⟩ : ∃ s, w.heap.size = s := ⟨_, rfl⟩
  rw [World.size_alloc, hsz] at k1
  rw [hsz] at k0
  have HP := Lib.hid (fun W h h' => samePlan_any A A' n cap cap' l W hn hm h h')
  have hqc : ∀ W, (Op.equalIn 10000 77 (.agg #[.int .i64 (cs 0), .int .i64 (cs 1), .int .i64 (cs 2), .int .i64 (cs 3), .int .i64 (cs 4), .int .i64 (cs 5), .int .i64 (cs 6)]) (.agg #[.int .i64 (cs 0), .int .i64 (cs 1), .int .i64 (cs 2), .int .i64 (cs 3), .int .i64 (cs 4), .int .i64 (cs 5), .int .i64 (cs 6)])).run Tryz.prog W = .ok true W := fun W => eq7_any cs W
  have hqh : ∀ W, (Op.equalIn 10000 77 (.agg #[.int .i64 (hs 0), .int .i64 (hs 1), .int .i64 (hs 2), .int .i64 (hs 3), .int .i64 (hs 4), .int .i64 (hs 5), .int .i64 (hs 6)]) (.agg #[.int .i64 (hs 0), .int .i64 (hs 1), .int .i64 (hs 2), .int .i64 (hs 3), .int .i64 (hs 4), .int .i64 (hs 5), .int .i64 (hs 6)])).run Tryz.prog W = .ok true W := fun W => eq7_any hs W
  unfold rfC at hb0 k0 k1 r0 r1
  unfold rfV rfC
  clear hn hr hr'
  go_enter Tryz.func85, Tryz.ntmps85
  go_upto_region 1 with fail
  generalize (w.alloc _).alloc _ = w0 at *
  try simp only [hsz]
  have c0 := k0.cell
  have c1 := k1.cell
  go_wp2_with fail
  refine (HP.out _ r0 r1).mono ?_
  rintro e w1 ⟨rfl, hb1⟩
  have k01 := (k0.call hb1).cell
  have k11 := (k1.call hb1).cell
  clear c0 c1 k0 k1 r0 r1 HP
  go_wp2_with fail
  go_ret
  exact ⟨rfl, hb0.trans (hb1.mono hb0.size)⟩
end Go.Proofs.YtefnnfcfigcikaaGreat
