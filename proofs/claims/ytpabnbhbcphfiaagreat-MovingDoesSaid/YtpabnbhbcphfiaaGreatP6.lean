/- Merged texts. Walks of layer 6: the runs of a system as a function value that is ranged over. Walks of layer 6: slices.AppendSeq and slices.Collect over runs that a function value hands out. Words for a region whose operations come in an order of their own: an operation's value, its call; slots written and read. Walks of layer 6: Save's first statement, whose order of evaluation is open. Words for the comparison of arrays of integers, and of the bytes of a page. Walks of layer 6: Save. Walks of the reference of layer 5: what is wrong with a rule, with a plan; is a call refused; how many are. Walks of the reference of layer 5: is a call refused; how many are; is a state one. -/
import Derived.Sort.CutIn
import Derived.DeepKeys
import Derived.Great.BuildSlice
import Derived.Test.YtpabnbhbcphfiaaGreatP5
namespace Go.Proofs.YtpabnbhbcphfiaaGreat
open Go Go.Proofs Go.RowKit Go.Pol Go.Shelf
attribute [local go_sem] Oper.semAt_some Go.Pol.wide_fn Go.Pol.wide_depth Go.Pol.wide_fn' Go.Pol.wide_depth'

theorem vruns_any (b : Nat) (w : World) :
    Calls Tryz.prog 69 #[.pointer (some ⟨b, 0, none⟩)] w fun e w' => e = .returned (.func (.func 133) #[] #[.pointer (some ⟨w.heap.size, 0, none⟩)]) ∧ w' = w.alloc (.cells #[.pointer (some ⟨b, 0, none⟩)] 34) := by
  go_enter Tryz.func69, Tryz.ntmps69
  go_wp2
  go_ret
  exact ⟨by simp, rfl⟩
theorem vruns1_enters : ∀ args w, (callFunc 133 args).run Tryz.prog w = .ok (.enter 133 args) w := enters_of Tryz.func133 (by kernel_rfl) rfl
set_option maxRecDepth 100000 in
set_option maxHeartbeats 1600000 in
theorem vruns1_seq (b B1 : Nat) (V : Vm) (cs : Array Value) (v : Value) (K : Nat → Prop) (w : World) (hKb : K b) (hK1 : K B1)
    (k1 : Blk w B1 34 #[.pointer (some ⟨b, 0, none⟩)]) (kS : Blk w b 133 cs) (hc : SysC cs v V) :
    SeqX Tryz.prog 133 #[.pointer (some ⟨B1, 0, none⟩)] rnA (fun _ => False) K (vrunsL V 1024) w := by
  intro m l J Jx W hW hJ hJx hnew hY h0
  have kB1 := hW.blk k1 (by simpa using hK1)
  have kbS := hW.blk kS (by simpa using hKb)
  have hkd := Lib.hid (fun (wr : World) (h : Blk wr b 133 cs) p (hp : p < 1024) => (h.cell (1 + p * 66)).trans (hc.kind hp))
  refine callsIn_of_wp Tryz.func133 rfl trivial ?_ rfl
  simp only [Tryz.ntmps133, List.size_toArray, List.length_cons, List.length_nil, Nat.reduceAdd, Nat.reduceSub, Array.replicate_succ, Array.replicate_zero, List.push_toArray, List.append_toArray, List.nil_append, List.cons_append]
  clear hW k1 kS hc
  gi_wp2_with fail
  gi_loopw [3] (fun u wr => ∃ p : Nat, p ≤ 1024 ∧ u = .int .i64 p ∧ W.heap.size ≤ wr.heap.size ∧ J (fun _ => False) (vrunsL V p) wr ∧ Blk wr B1 34 #[.pointer (some ⟨b, 0, none⟩)] ∧ Blk wr b 133 cs ∧ Hid (bdy V p)) (fun u _ => 1024 - (intOf u).toNat)
  case atStart => exact ⟨0, by omega, rfl, Nat.le_refl _, h0, kB1, kbS, Lib.hid (.inl rfl)⟩
  case round =>
    clear h0 kB1 kbS
    obtain ⟨p, hp, rfl, hwz, hJs, kB1, kbS, hbd⟩ := hrel
    by_cases hlt : p < 1024
    · have hlt' : decide ((p : Int) < 1024) = true := by rw [decide_eq_true_eq]; omega
      have hpl : (p : Int) < 1024 := by omega
      have hcell := hkd.out wr kbS p hlt
      have c1 := kB1.cell
      obtain ⟨kd, hkdp⟩ : ∃ kd, (V.pg p).kind = kd := ⟨_, rfl⟩
      rw [hkdp] at hcell
      have kX := Blk.new wr 122 #[.int .i64 p, .int .i64 0, .int .i64 kd]
      have hfa : Far (fun _ => False) wr (wr.alloc (.cells #[.int .i64 p, .int .i64 0, .int .i64 kd] 122)) := (Far.refl _ wr).alloc _
      have hJ2 := hJ _ _ _ _ (hnew _ (fun k => k = wr.heap.size) _ wr hJs (fun j hj => .inr (by omega))) (hfa.mono fun _ _ h => h.elim)
      have kB1b := kB1.alloc (.cells #[.int .i64 p, .int .i64 0, .int .i64 kd] 122)
      have kbSb := kbS.alloc (.cells #[.int .i64 p, .int .i64 0, .int .i64 kd] 122)
      have hszb : W.heap.size ≤ (wr.alloc (.cells #[.int .i64 p, .int .i64 0, .int .i64 kd] 122)).heap.size := by simp; omega
      have hbx0 : wr.heap.size < (wr.alloc (.cells #[.int .i64 p, .int .i64 0, .int .i64 kd] 122)).heap.size := by simp
      have hne1 : B1 ≠ wr.heap.size := Nat.ne_of_lt kB1.lt
      have hneb : b ≠ wr.heap.size := Nat.ne_of_lt kbS.lt
      have hkdp' := Lib.hid hkdp
      clear hkdp
      gi_wp2_with fail
      generalize wr.alloc (.cells #[.int .i64 p, .int .i64 0, .int .i64 kd] 122) = wa at *
      generalize wr.heap.size = bx at *
      clear hJs kB1 kbS hfa hwz hcell c1 hlt'
      gi_loopw [3] (fun u wr => ∃ q : Nat, p ≤ q ∧ q ≤ 1024 ∧ u = .int .i64 q ∧ W.heap.size ≤ wr.heap.size ∧ bx < wr.heap.size ∧ J (fun k => k = bx) (vrunsL V p) wr ∧ Blk wr B1 34 #[.pointer (some ⟨b, 0, none⟩)] ∧ Blk wr b 133 cs ∧ Blk wr bx 122 #[.int .i64 p, .int .i64 ((q - p : Nat) : Int), .int .i64 kd] ∧ Hid (∀ r, p ≤ r → r < q → (V.pg r).kind = kd)) (fun u _ => 1024 - (intOf u).toNat)
      case atStart => exact ⟨p, by omega, by omega, rfl, hszb, hbx0, hJ2, kB1b, kbSb, by rw [Nat.sub_self]; exact kX, Lib.hid (fun r h1 h2 => by omega)⟩
      case round =>
        clear hJ2 kB1b kbSb kX hszb hbx0
        obtain ⟨q, hq0, hq1, rfl, hwz, hbx, hJs, kB1, kbS, kX, hall⟩ := hrel
        by_cases hq : q < 1024
        · have hq' : decide ((q : Int) < 1024) = true := by rw [decide_eq_true_eq]; omega
          have hql : (q : Int) < 1024 := by omega
          have e1 := fun z : Ext wr => (z.blk kB1).cell
          have e2 := fun z : Ext wr => (z.blk kX).cell
          have hcell := hkd.out wr kbS q hq
          have e3 := fun z : Ext wr => z.cell hcell
          generalize hgk : (V.pg q).kind = kq at *
          gi_upto_region 3 with fail
          refine wpIn_wide.2 ?_
          by_cases hkq : kq = kd
          · have hkq' : (kq == kd) = true := by simpa using hkq
            have hall2 : Hid (∀ r, p ≤ r → r < q + 1 → (V.pg r).kind = kd) := Lib.hid (fun r h1 h2 => by
              by_cases e : r = q
              · rw [e, hgk, hkq]
              · exact hall.out r h1 (by omega))
            clear hkq hgk hall
            refine region_ext (by kernel_rfl) (by kernel_rfl) ?_
            repeat (go_big_quiet_step (fail))
            refine wpQuiet_nil ?_
            rintro w3 ⟨⟨_, hw3⟩, rfl⟩
            have kX3 := kX.call hw3
            have J3 := hJ _ _ wr w3 hJs (.of_below hw3)
            have hwz3 := Nat.le_trans hwz hw3.size
            have hbx3 := Nat.lt_of_lt_of_le hbx hw3.size
            have kB13 := kB1.call hw3
            have kbS3 := kbS.call hw3
            have cX := kX3.cell
            have fX := kX3.frozen
            have F4 : Far (fun k => k = bx) w3 (w3.setCell ⟨bx, 1, none⟩ (.int .i64 ((q - p + 1 : Nat) : Int))) := Far.setCell (T := fun k => k = bx) (p := ⟨bx, 1, none⟩) (Far.refl _ w3) (fun _ => rfl) _
            have kX4 := kX3.set_ 1 (.int .i64 ((q - p + 1 : Nat) : Int))
            have hcs1 : ((q - p : Nat) : Int) + 1 = ((q - p + 1 : Nat) : Int) := by omega
            have J4 := hJ _ _ w3 _ J3 (F4.mono fun _ _ h => .inr h)
            have kB14 := F4.blk kB13 hne1
            have kbS4 := F4.blk kbS3 hneb
            have hs4 := F4.size
            have hql2 : ((q - p : Nat) : Int) < 2000 := by omega
            have hq0' : q - p + 1 = q + 1 - p := by omega
            rw [hq0'] at kX4
            clear e1 e2 e3 hJs kB1 kbS kX J3 kB13 kbS3 kX3 hw3 F4 hcell
            gi_wp2_with fail
            rw [hq0'] at J4 kB14 kbS4 hs4
            go_roundw
            case rel => exact ⟨q + 1, by omega, by omega, by go_num, by omega, by omega, J4, kB14, kbS4, kX4, hall2⟩
            case measure => simp [intOf]; omega
          · have hkq' : (kq == kd) = false := by simpa using hkq
            have hqp : Hid (p < q) := Lib.hid (by
              rcases Nat.lt_or_ge p q with h | h
              · exact h
              · exfalso
                have : q = p := by omega
                rw [this] at hgk
                exact hkq (hgk.symm.trans hkdp'.out))
            have hbq : Hid (bdy V q) := Lib.hid (.inr (.inl (by
              have := hqp.out
              rw [hgk, hall.out (q - 1) (by omega) (by omega)]
              exact fun h => hkq h.symm)))
            clear hkq hgk hq
            refine region_ext (by kernel_rfl) (by kernel_rfl) ?_
            repeat (go_big_quiet_step (fail))
            refine wpQuiet_nil ?_
            rintro w3 ⟨⟨_, hw3⟩, rfl⟩
            have kX3 := kX.call hw3
            have J3 := hJ _ _ wr w3 hJs (.of_below hw3)
            have hwz3 := Nat.le_trans hwz hw3.size
            have hbx3 := Nat.lt_of_lt_of_le hbx hw3.size
            have kB13 := kB1.call hw3
            have kbS3 := kbS.call hw3
            have cX := kX3.cell
            clear e1 e2 e3 hJs kB1 kbS kX hw3 hcell
            by_cases hk0 : kd = 0
            · subst hk0
              have hR : Hid (vrunsL V q = vrunsL V p) := Lib.hid (by
                have := vruns_free (V := V) (p := p) (q - p) (fun r h1 h2 => hall.out r h1 (by have := hqp.out; omega))
                rwa [show p + (q - p) = q by have := hqp.out; omega] at this)
              have J4 := hnew _ (fun _ => False) _ _ J3 (fun _ h => h.elim)
              rw [← hR.out] at J4
              have hqp2 := hqp.out
              gi_wp2_with fail
              go_roundw
              case rel => exact ⟨q, by omega, rfl, hwz3, J4, kB13, kbS3, hbq⟩
              case measure => simp [intOf]; omega
            · have hk0' : (kd != 0) = true := by simpa using hk0
              have hR : Hid (vrunsL V q = vrunsL V p ++ [((p : Int), ((q - p : Nat) : Int), kd)]) := Lib.hid (by
                have h1 := hqp.out
                have h2 := vruns_same (V := V) (p := p) (c := kd) (hbd.out.elim .inl (fun h => h.elim .inr (fun h => by omega))) hk0 (q - p - 1) (fun r a1 a2 => hall.out r a1 (by omega))
                rw [show q - p - 1 + 1 = q - p by omega, show p + (q - p) = q by omega] at h2
                exact h2)
              have hpre : Hid (vrunsL V p ++ [((p : Int), ((q - p : Nat) : Int), kd)] <+: vrunsL V 1024) := Lib.hid (by
                rw [← hR.out]
                exact vruns_prefix hbq.out (by omega))
              have hqp2 := hqp.out
              obtain ⟨fn, tmps, assign, body, hy, hRd⟩ := hY (m - 1) (fun k => k = bx) (vrunsL V p) ((p : Int), ((q - p : Nat) : Int), kd) w3 J3 (fun k hk => by rw [hk]; exact hbx3) hpre.out
              clear hY hk0
              gi_wp2_with fail
              refine hRd.mono ?_
              rintro e W4 (⟨rfl, hJ4, hF4⟩ | ⟨rfl, hJx4⟩)
              · have J5 := hnew _ (fun _ => False) _ _ hJ4 (fun _ h => h.elim)
                rw [← hR.out] at J5
                gi_wp2_with fail
                go_roundw
                case rel => exact ⟨q, by omega, rfl, Nat.le_trans hwz3 hF4.size, J5, hF4.blk kB13 (fun h => h (.inl hK1)), hF4.blk kbS3 (fun h => h (.inl hKb)), hbq⟩
                case measure => simp [intOf]; omega
              · gi_wp2_with fail
                refine bodyPost_ret (results_none rfl _ _ _) rfl ?_
                exact ⟨⟨_, rfl⟩, .inr ⟨_, _, hpre.out, hJx4⟩⟩
        · obtain rfl : q = 1024 := by omega
          have hq' : decide (((1024 : Nat) : Int) < 1024) = false := by decide
          have hqp : Hid (p < 1024) := Lib.hid hlt
          have hbq : Hid (bdy V 1024) := Lib.hid (.inr (.inr (Nat.le_refl _)))
          have e1 := fun z : Ext wr => (z.blk kB1).cell
          have e2 := fun z : Ext wr => (z.blk kX).cell
          have e3 : True := trivial
          have hcell : True := trivial
          gi_upto_region 3 with fail
          refine wpIn_wide.2 ?_
          refine region_ext (by kernel_rfl) (by kernel_rfl) ?_
          repeat (go_big_quiet_step (fail))
          refine wpQuiet_nil ?_
          rintro w3 ⟨⟨_, hw3⟩, rfl⟩
          have kX3 := kX.call hw3
          have J3 := hJ _ _ wr w3 hJs (.of_below hw3)
          have hwz3 := Nat.le_trans hwz hw3.size
          have hbx3 := Nat.lt_of_lt_of_le hbx hw3.size
          have kB13 := kB1.call hw3
          have kbS3 := kbS.call hw3
          have cX := kX3.cell
          clear e1 e2 e3 hJs kB1 kbS kX hw3 hcell
          by_cases hk0 : kd = 0
          · subst hk0
            have hR : Hid (vrunsL V 1024 = vrunsL V p) := Lib.hid (by
              have := vruns_free (V := V) (p := p) (1024 - p) (fun r h1 h2 => hall.out r h1 (by have := hqp.out; omega))
              rwa [show p + (1024 - p) = 1024 by have := hqp.out; omega] at this)
            have J4 := hnew _ (fun _ => False) _ _ J3 (fun _ h => h.elim)
            rw [← hR.out] at J4
            have hqp2 := hqp.out
            gi_wp2_with fail
            go_roundw
            case rel => exact ⟨1024, by omega, rfl, hwz3, J4, kB13, kbS3, hbq⟩
            case measure => simp [intOf]; omega
          · have hk0' : (kd != 0) = true := by simpa using hk0
            have hR : Hid (vrunsL V 1024 = vrunsL V p ++ [((p : Int), ((1024 - p : Nat) : Int), kd)]) := Lib.hid (by
              have h1 := hqp.out
              have h2 := vruns_same (V := V) (p := p) (c := kd) (hbd.out.elim .inl (fun h => h.elim .inr (fun h => by omega))) hk0 (1024 - p - 1) (fun r a1 a2 => hall.out r a1 (by omega))
              rw [show 1024 - p - 1 + 1 = 1024 - p by omega, show p + (1024 - p) = 1024 by omega] at h2
              exact h2)
            have hpre : Hid (vrunsL V p ++ [((p : Int), ((1024 - p : Nat) : Int), kd)] <+: vrunsL V 1024) := Lib.hid (by
              rw [← hR.out]
              exact vruns_prefix hbq.out (by omega))
            have hqp2 := hqp.out
            obtain ⟨fn, tmps, assign, body, hy, hRd⟩ := hY (m - 1) (fun k => k = bx) (vrunsL V p) ((p : Int), ((1024 - p : Nat) : Int), kd) w3 J3 (fun k hk => by rw [hk]; exact hbx3) hpre.out
            clear hY hk0
            gi_wp2_with fail
            refine hRd.mono ?_
            rintro e W4 (⟨rfl, hJ4, hF4⟩ | ⟨rfl, hJx4⟩)
            · have J5 := hnew _ (fun _ => False) _ _ hJ4 (fun _ h => h.elim)
              rw [← hR.out] at J5
              gi_wp2_with fail
              go_roundw
              case rel => exact ⟨1024, by omega, rfl, Nat.le_trans hwz3 hF4.size, J5, hF4.blk kB13 (fun h => h (.inl hK1)), hF4.blk kbS3 (fun h => h (.inl hKb)), hbq⟩
              case measure => simp [intOf]; omega
            · gi_wp2_with fail
              refine bodyPost_ret (results_none rfl _ _ _) rfl ?_
              exact ⟨⟨_, rfl⟩, .inr ⟨_, _, hpre.out, hJx4⟩⟩
    · obtain rfl : p = 1024 := by omega
      have hlt' : decide (((1024 : Nat) : Int) < 1024) = false := by decide
      gi_wp2_with fail
      go_end0
      exact ⟨⟨_, rfl⟩, .inl ⟨_, hJs⟩⟩
end Go.Proofs.YtpabnbhbcphfiaaGreat
namespace Go.Pol
open Go Go.RowKit
theorem rnC_snoc (bs : List Rn) (x : Rn) : fl rnC (bs ++ [x]) = fl rnC bs ++ [.int .i64 x.1, .int .i64 x.2.1, .int .i64 x.2.2] := by rw [fl_append]; simp [fl, rnC]
theorem news_rn {w : World} {g : Nat} {t : TypeId} {a b c : Int} (h : Blk w g t #[.int .i64 a, .int .i64 b, .int .i64 c]) : ∀ (j : Nat) (u : Value), [Value.int .i64 a, Value.int .i64 b, Value.int .i64 c][j]? = some u → w.cell? ((⟨g, 0, none⟩ : Addr).add j) = some u := by
  intro j u hu
  rw [addr_add0, Nat.zero_add]
  rw [h.cell]
  simpa using hu
theorem news_oneR {a b c : Int} : ∀ u ∈ [Value.int .i64 a, Value.int .i64 b, Value.int .i64 c], u.oneCell' = true := by
  intro u hu
  simp only [List.mem_cons, List.not_mem_nil, or_false] at hu
  rcases hu with rfl | rfl | rfl <;> rfl
/-- a loop over runs whose variable lies in a box -/
theorem rangeXR {P : Program} {g : Operand} {ps : Array Tmp} {assign body : Code} {Q : Exit → Act → World → Prop} {a : Act} {w : World} (ib pb : Nat) (tE : TypeId)
    {gf : Nat} {lb : Array Value} (hg : a.eval g = .func (.func gf) #[] lb) (eg : ∀ args w, (callFunc gf args).run P w = .ok (.enter gf args) w)
    {T K : Nat → Prop} {xs : List Rn} (hseq : SeqX P gf lb rnA T K xs w) (hps : ps = #[pb])
    (hT : ∀ k, T k → k < w.heap.size) (hK : ∀ k, K k → k < w.heap.size)
    (I : (Nat → Prop) → List Rn → World → Prop) (Ix : Code → (Nat → Prop) → List Rn → World → Prop)
    (hI : ∀ X pre A B, I X pre A → Far (fun k => T k ∨ X k ∨ k = w.heap.size ∨ k = w.heap.size + 1) A B → I X pre B)
    (hIx : ∀ c X pre A B, Ix c X pre A → Far (fun k => T k ∨ X k ∨ k = w.heap.size ∨ k = w.heap.size + 1) A B → Ix c X pre B)
    (hnew : ∀ X X' pre A, I X pre A → (∀ k, X' k → X k ∨ A.heap.size ≤ k) → I X' pre A)
    (h0 : I (fun _ => False) [] w)
    (hassign : ∀ (m l : Nat) (x : Rn) (W : World) (C : Act → World → Prop),
      C { tmps := (a.tmps.setIfInBounds pb (rnV x)).setIfInBounds ib (.pointer (some ⟨W.heap.size, 0, none⟩)), defers := [] } (W.alloc (.cells #[.int .i64 x.1, .int .i64 x.2.1, .int .i64 x.2.2] tE)) →
      assign.wpIn (Fence.wide.inRound l) m P (Exit.then C (fun _ _ _ => False)) { tmps := a.tmps.setIfInBounds pb (rnV x), defers := [] } W)
    (hbody : ∀ (m l : Nat) (X : Nat → Prop) (pre : List Rn) (x : Rn) (Bx : Nat) (Wa W : World), w.heap.size + 2 ≤ W.heap.size → (∀ k, X k → k < Wa.heap.size ∧ k ≠ w.heap.size ∧ k ≠ w.heap.size + 1) → I X pre W → pre ++ [x] <+: xs → w.heap.size + 2 ≤ Bx → Blk W Bx tE #[.int .i64 x.1, .int .i64 x.2.1, .int .i64 x.2.2] → Wa.heap.size ≤ Bx →
      body.wpIn (Fence.wide.inRound l) m P (xPost w.heap.size K X I Ix (pre ++ [x]) W) { tmps := (a.tmps.setIfInBounds pb (rnV x)).setIfInBounds ib (.pointer (some ⟨Bx, 0, none⟩)), defers := [] } W)
    (hdone : ∀ (X : Nat → Prop) (W : World), w.heap.size + 2 ≤ W.heap.size → I X xs W → W.heap[w.heap.size]? = some (.deferred (some [])) → Q .normal { a with defers := markOf w.heap.size :: a.defers } W)
    (hstop : ∀ (c : Code) (X : Nat → Prop) (pre : List Rn) (W : World), w.heap.size + 2 ≤ W.heap.size → pre <+: xs → Ix c X pre W → W.heap[w.heap.size]? = some (.deferred (some [])) → c.wp P Q { a with defers := markOf w.heap.size :: a.defers } W) :
    (Code.rangeFunc g ps assign body).wp P Q a w := by
  subst hps
  refine rangeX hg eg hseq (fun _ => rfl) hT hK I Ix hI hIx hnew h0
    (fun N x a' W => ∃ Bx, N ≤ Bx ∧ w.heap.size + 2 ≤ Bx ∧ Blk W Bx tE #[.int .i64 x.1, .int .i64 x.2.1, .int .i64 x.2.2] ∧ a' = { tmps := (a.tmps.setIfInBounds pb (rnV x)).setIfInBounds ib (.pointer (some ⟨Bx, 0, none⟩)), defers := [] })
    (fun N x a' A B ⟨Bx, h0, h1, h2, h3⟩ hf => ⟨Bx, h0, h1, hf.blk h2 (by omega), h3⟩) ?_ ?_ hdone hstop
  · intro m l x W C hs hC
    have e : (#[pb].zip (rnA x)).foldl (fun t (p, v) => t.setIfInBounds p v) a.tmps = a.tmps.setIfInBounds pb (rnV x) := by simp [rnA]
    rw [e]
    exact hassign m l x W C (hC _ _ ((Far.refl _ W).alloc _) ⟨W.heap.size, Nat.le_refl _, hs, Blk.new _ _ _, rfl⟩)
  · rintro m l X pre x a' Wa W hs hX hi ⟨Bx, h0, h1, h2, rfl⟩ hpre _ _
    exact hbody m l X pre x Bx Wa W hs hX hi hpre h1 h2 h0
end Go.Pol
namespace Go.Proofs.YtpabnbhbcphfiaaGreat
open Go Go.Proofs Go.RowKit Go.Pol Go.Shelf
attribute [local go_sem] Oper.semAt_some Go.Pol.wide_fn Go.Pol.wide_depth Go.Pol.wide_fn' Go.Pol.wide_depth'

theorem infoRn : (Tryz.prog.info? 122).map (fun i => (i.zero, i.size, i.bytes)) = some (some (.agg #[.int .i64 0, .int .i64 0, .int .i64 0]), 3, 24) := by kernel_rfl
theorem infoRn_parts : ∃ i0, Tryz.prog.info? 122 = some i0 ∧ i0.zero = some (.agg #[.int .i64 0, .int .i64 0, .int .i64 0]) ∧ i0.size = 3 ∧ i0.bytes = 24 := by
  obtain ⟨i0, h⟩ := info_parts infoRn
  exact ⟨i0, h⟩
set_option maxRecDepth 100000 in
set_option maxHeartbeats 3200000 in
theorem appendSeqR_any (g : Nat) (lb : Array Value) (K : Nat → Prop) (xs : List Rn) (w : World) (hxs : xs.length ≤ 1000000)
    (hseq : SeqX Tryz.prog g lb rnA (fun _ => False) K xs w) (eg : ∀ args w, (callFunc g args).run Tryz.prog w = .ok (.enter g args) w) (hK : ∀ k, K k → k < w.heap.size) :
    Calls Tryz.prog 132 #[.slice none 0 0, .func (.func g) #[] lb] w fun e w' => ∃ v, e = .returned v ∧ w'.ownsRow w.heap.size 122 3 v xs.length (fl rnC xs) ∧ Below w.heap.size w w' := by
  obtain ⟨i0, hi, hz0, hz1, hz2⟩ := infoRn_parts
  obtain ⟨s, hs⟩ : ∃ s, w.heap.size = s := ⟨_, rfl⟩
  obtain ⟨W0, hW0⟩ : ∃ W0, w.alloc (.cells #[.slice none 0 0] 46) = W0 := ⟨_, rfl⟩
  have hs0 : W0.heap.size = s + 1 := by rw [← hW0, ← hs]; simp
  have kO : Blk W0 s 46 #[.slice none 0 0] := by rw [← hW0, ← hs]; exact Blk.new _ _ _
  have hb0 : Below s w W0 := by rw [← hW0, ← hs]; exact (Below.refl w.heap.size w).alloc (Nat.le_refl _) _
  have hF0 : Far (fun _ => False) w W0 := .of_below (by rw [hs]; exact hb0)
  have hW1 := Lib.hid hW0
  clear hW0
  refine calls_of_marks Tryz.func132 rfl ?_
  simp only [Tryz.ntmps132, List.size_toArray, List.length_cons, List.length_nil, Nat.reduceAdd, Nat.reduceSub, Array.replicate_succ, Array.replicate_zero, List.push_toArray, List.append_toArray, List.nil_append, List.cons_append]
  go_wp2_with fail
  rw [hW1.out]
  clear hW1
  have ls1 := kO.lt
  have hlen : ∀ (pre : List Rn) (x : Rn), pre ++ [x] <+: xs → pre.length < 1000000 := fun pre x h => by
    have := h.length_le
    simp at this
    omega
  refine rangeXR 5 7 122 (gf := g) (lb := lb) rfl eg (hseq.later (hF0.mono fun _ _ h => h.elim)) rfl (fun _ h => h.elim) (fun k h => by have := hK k h; omega)
    (fun X pre W => BoxX X W s 46 122 (s + 3) 3 pre.length (fl rnC pre) ∧ Below s w W ∧ ∀ k, X k → s ≤ k)
    (fun _ _ _ _ => False)
    (fun X pre A B h hf => ⟨h.1.far hf (by rintro (h | h | h | h) <;> first | exact h | exact h.elim | omega) (fun g hg => by rintro (h | h | h | h) <;> first | exact h | exact h.elim | omega),
      h.2.1.trans (hf.below (by rw [← hs]; exact h.2.1.size) (fun k hk => by rintro (h' | h' | h' | h'); exact h'; have := h.2.2 k h'; omega; omega; omega)), h.2.2⟩)
    (fun _ _ _ _ _ h _ => h.elim)
    (fun X X' pre A h hX => ⟨h.1.new hX, h.2.1, fun k hk => (hX _ hk).elim (h.2.2 k) (fun h' => by have := h.2.1.size; omega)⟩)
    ⟨⟨_, kO, World.ownsRow_nil _ _ _ _, id, fun _ _ => id⟩, hb0, fun _ h => h.elim⟩ ?assign ?body ?done (fun _ _ _ _ _ _ h _ => h.elim)
  case assign =>
    intro m l x W C hC
    obtain ⟨xn, xc, xl⟩ := x
    simp only [rnV, List.setIfInBounds_toArray, List.set_cons_succ, List.set_cons_zero] at hC ⊢
    gi_wp2
    exact hC
  case body =>
    rintro m l X pre x Bx Wa W hsz hXlt ⟨hbox, hB, hXs⟩ hpre hBx kx hBa
    simp only [List.setIfInBounds_toArray, List.set_cons_succ, List.set_cons_zero]
    have hlt := hlen pre x hpre
    obtain ⟨v, hv, hrow, hXB, hXg⟩ := hbox.ex
    obtain ⟨A', cap', rfl, _⟩ := own_Rd hrow
    obtain ⟨pl, hpl⟩ : ∃ pl, pre.length = pl := ⟨_, rfl⟩
    obtain ⟨xa, xo, xl⟩ := x
    dsimp only at kx
    have cx := kx.cell
    have cv := hv.cell
    have fv := hv.frozen
    have kN := Blk.new W 122 #[.int .i64 xa, .int .i64 xo, .int .i64 xl]
    have hXl2 : ∀ k, X k → k < W.heap.size := fun k hk => by have := (hXlt k hk).1; have := kx.lt; omega
    rw [hpl] at hrow hv cv hlt hXg
    gi_wp2_with (gi_at_builtin; refine wpListIn_append_x _ rfl (.tmp 8) (.tmp 10) 46 rfl (s + 3) 122 i0 (.agg #[.int .i64 0, .int .i64 0, .int .i64 0]) 3 24 Tryz.underlying46 hi hz0 hz1 hz2 rfl (by decide) _ pl (fl rnC pre) rfl (hrow.alloc _) ⟨W.heap.size, 0, none⟩ 1 1 [.int .i64 xa, .int .i64 xo, .int .i64 xl] rfl rfl (news_rn kN) news_oneR (by unfold maxLen; omega) (by omega) (by simp; omega) ?_; intro v' w1 hown' hgrow hblk; rw [← rnC_snoc pre (xa, xo, xl)] at hown'; obtain ⟨hv1, hb2, hf2⟩ := BoxX.appended hv (by decide) hrow hXB hXg hown' hgrow hblk hXl2; obtain ⟨A2, cap2, rfl, _⟩ := own_Rd hown'; have cv1 := hv1.cell; have fv1 := hv1.frozen)
    have hgx : ∀ g, (Value.slice A' pl cap').ownBlock = some g → s + 3 ≤ g ∧ ¬ X g := fun g hg => ⟨(hrow.lt g hg).1, hXg g hg⟩
    have hf3 := hf2 (fun k => k = s ∨ (Value.slice A' pl cap').ownBlock = some k) (.inl rfl) (fun g hg => .inr hg)
    refine ⟨hf3.mono fun k _ h => ?_, ?_, hB.trans (hf3.below (by have := hB.size; omega) fun k hk => ?_), hXs⟩
    · rintro (h' | h' | h' | h')
      · have := hK k h'
        rcases h with h | h
        · omega
        · have := hgx k h; omega
      · rcases h with h | h
        · exact hXB (h ▸ h')
        · exact (hgx k h).2 h'
      · rcases h with h | h
        · omega
        · have := hgx k h; omega
      · rcases h with h | h
        · omega
        · have := hgx k h; omega
    · rw [List.length_append, List.length_singleton, hpl]; exact hb2
    · rintro (h | h)
      · omega
      · have := hgx _ h; omega
  case done =>
    rintro X W hsz ⟨hbox, hB, hXs⟩ hd
    obtain ⟨v, hv, hrow, hXB, hXg⟩ := hbox.ex
    have cv := hv.cell
    obtain ⟨A', cap', rfl, _⟩ := own_Rd hrow
    rw [hs0] at hd hsz
    go_wp2_with fail
    rw [hs0]
    have hfp : Far (fun k => k = s + 1) W (W.putObj (s + 1) (.deferred none)) := Far.putObj (T := fun k => k = s + 1) (Far.refl _ _) (fun _ => rfl) _
    have hrow3 := ownsRow_far hrow hfp (fun g hg h => by have := (hrow.lt g hg).1; omega)
    exact leave_mark (v := .slice A' xs.length cap') hd (by simp [results, Tryz.results132, go_sem]) ⟨_, rfl, ownsRow_base hrow3 (by omega), by rw [hs]; exact hB.trans (hfp.below (by have := hB.size; omega) (fun k hk => by omega))⟩

theorem collectR_any (g : Nat) (lb : Array Value) (K : Nat → Prop) (xs : List Rn) (w : World) (hxs : xs.length ≤ 1000000)
    (hseq : SeqX Tryz.prog g lb rnA (fun _ => False) K xs w) (eg : ∀ args w, (callFunc g args).run Tryz.prog w = .ok (.enter g args) w) (hK : ∀ k, K k → k < w.heap.size) :
    Calls Tryz.prog 68 #[.func (.func g) #[] lb] w fun e w' => ∃ v, e = .returned v ∧ w'.ownsRow w.heap.size 122 3 v xs.length (fl rnC xs) ∧ Below w.heap.size w w' := by
  have HA := Lib.hid (appendSeqR_any g lb K xs w hxs hseq eg hK)
  go_enter Tryz.func68, Tryz.ntmps68
  go_wp2_with (go_at_call 132; refine (HA.out).mono ?_; rintro e w1 ⟨v, rfl, hown, hf⟩)
  go_ret
  exact ⟨v, rfl, hown, hf⟩
end Go.Proofs.YtpabnbhbcphfiaaGreat
namespace Go.Proofs.YtpabnbhbcphfiaaGreat
open Go Go.Proofs Go.RowKit Go.Pol

theorem wp_valU {P : Program} {o : Oper} {a : Act} {w w' : World} {v : Value} {K : Act → World → Prop} {Q : Exit → Act → World → Prop} (h : (execOp a.eval o).run P w = .ok (.value v) w') (hK : K (a.put o.dst v) w') : o.wp P a w K Q := by
  unfold Oper.wp; rw [h]; exact hK
theorem step_plainU {P : Program} {ops : Array Oper} {o : Oper} {a : Act} {w : World} {K : Act → World → Prop} {Q : Exit → Act → World → Prop} {E : Prop} (hg : o.guard = none) (h : o.wp P a w K Q) :
    if Region.wanted o (yielded ops a.tmps) = true then o.wp P a w K Q else E := by
  rw [if_pos (by simp [Region.wanted, hg])]; exact h
theorem putU (a : Act) (t : Nat) (x y : Value) : (a.put (some t) x).put (some t) y = a.put (some t) y := by simp [Act.put]
theorem swapU (a : Act) (t u : Nat) (x y : Value) (h : t ≠ u) : (a.put (some t) x).put (some u) y = (a.put (some u) y).put (some t) x := Act.put_comm a x y (fun d hd he => by cases hd; cases he; exact h rfl)
theorem evalU_same (a : Act) (t : Nat) (x : Value) (h : t < a.tmps.size) : (a.put (some t) x).eval (.tmp t) = x := by simp [Act.eval, Act.put, h]
theorem evalU_ne (a : Act) (t u : Nat) (x : Value) (h : t ≠ u) : (a.put (some t) x).eval (.tmp u) = a.eval (.tmp u) := Act.eval_put (fun d hd he => by cases hd; cases he; exact h rfl)
theorem sizeU (a : Act) (t : Nat) (x : Value) : (a.put (some t) x).tmps.size = a.tmps.size := by simp [Act.put]
/-- the operations of a region of a body, by its number -/
def regOpsU (n : Nat) : Code → Option (Array Oper)
  | .region id ops _ => if id = n then some ops else none
  | .seq a b => match regOpsU n a with
    | some l => some l
    | none => regOpsU n b
  | .block _ c => regOpsU n c
  | .loop c => regOpsU n c
  | .scope c => regOpsU n c
  | .cond _ a b => match regOpsU n a with
    | some l => some l
    | none => regOpsU n b
  | _ => none
/-- a call whose value depends on the world -/
theorem wp_enterV {P : Program} {o : Oper} {a : Act} {w w1 : World} {f : FuncId} {args : Array Value} {C : Value → World → Prop} {K : Act → World → Prop} {Q : Exit → Act → World → Prop} (h : (execOp a.eval o).run P w = .ok (.enter f args) w1)
    (hC : Calls P f args w1 fun e w' => ∃ v, e = .returned v ∧ C v w') (hK : ∀ v w', C v w' → K (a.put o.dst v) w') : o.wp P a w K Q := by
  unfold Oper.wp; rw [h]
  show Calls P f args w1 _
  refine hC.mono ?_
  rintro e w' ⟨v, rfl, hw⟩
  exact hK v w' hw
end Go.Proofs.YtpabnbhbcphfiaaGreat
namespace Go.Pol
open Go Go.RowKit
/-- the cells of a saved state -/
def stC (v1 v2 v3 v4 : Value) (cs hs : Nat → Int) : List Value := v1 :: v2 :: v3 :: rfC v4 cs hs
theorem stC_one {v1 v2 v3 v4 : Value} (h1 : v1.oneCell' = true) (h2 : v2.oneCell' = true) (h3 : v3.oneCell' = true) (h4 : v4.oneCell' = true) (cs hs : Nat → Int) : ∀ x ∈ stC v1 v2 v3 v4 cs hs, x.oneCell' = true := by
  intro x hx
  simp only [stC, List.mem_cons] at hx
  rcases hx with rfl | rfl | rfl | hx
  · exact h1
  · exact h2
  · exact h3
  · exact rfC_one h4 cs hs x hx
end Go.Pol
namespace Go.Proofs.YtpabnbhbcphfiaaGreat
open Go Go.Proofs Go.RowKit Go.Pol Go.Shelf
attribute [local go_sem] Oper.semAt_some Go.Pol.wide_fn Go.Pol.wide_depth Go.Pol.wide_fn' Go.Pol.wide_depth'

theorem wp_storeU {P : Program} {op : Oper} {a : Act} {w : World} {K : Act → World → Prop} {Q : Exit → Act → World → Prop} (ty : TypeId) (x y : Operand) (ho : op.op = .store ty x y) (hd : op.dst = none)
    (b o : Nat) (cells : Array Value) (hx : a.eval x = .pointer (some ⟨b, o, none⟩)) (hy : a.eval y = .agg cells)
    (ht : w.there b o cells.size) (hi : (P.info? ty).map (·.size) = some cells.size) (h1 : cells.all (·.oneCell') = true)
    (h : K a (w.setCells b o cells.toList)) : op.wp P a w K Q :=
  wp_store_mid ty x y ho b o cells hx hy ht hi h1 (by rw [hd]; exact h)
theorem infoSt : (Tryz.prog.info? 53).map (·.size) = some 18 := by kernel_rfl
def lpput (a : Act) (v10 v11 v12 v13 v14 v15 v16 v17 v3 : Value) : Act := ((((((((a.put (some 10) v10).put (some 11) v11).put (some 12) v12).put (some 13) v13).put (some 14) v14).put (some 15) v15).put (some 16) v16).put (some 17) v17).put (some 3) v3
theorem lp_self (a : Act) (hsz : 68 ≤ a.tmps.size) : lpput a (a.eval (.tmp 10)) (a.eval (.tmp 11)) (a.eval (.tmp 12)) (a.eval (.tmp 13)) (a.eval (.tmp 14)) (a.eval (.tmp 15)) (a.eval (.tmp 16)) (a.eval (.tmp 17)) (a.eval (.tmp 3)) = a := by
  have h : ∀ t : Nat, t < 68 → a.put (some t) (a.eval (.tmp t)) = a := fun t ht => by
    have : a.tmps.setIfInBounds t (a.eval (.tmp t)) = a.tmps := by
      apply Array.ext_getElem?
      intro i
      rw [Array.getElem?_setIfInBounds]
      split
      · rename_i e; subst e
        have : t < a.tmps.size := by omega
        simp [Act.eval, this]
      · rfl
    simp only [Act.put, this]
  unfold lpput
  rw [h 10 (by omega), h 11 (by omega), h 12 (by omega), h 13 (by omega), h 14 (by omega), h 15 (by omega), h 16 (by omega), h 17 (by omega), h 3 (by omega)]
section
variable (a : Act) (v10 v11 v12 v13 v14 v15 v16 v17 v3 x : Value)
theorem lp_10 : (lpput a v10 v11 v12 v13 v14 v15 v16 v17 v3).put (some 10) x = lpput a x v11 v12 v13 v14 v15 v16 v17 v3 := by
  unfold lpput
  rw [swapU _ 3 10 _ _ (by omega), swapU _ 17 10 _ _ (by omega), swapU _ 16 10 _ _ (by omega), swapU _ 15 10 _ _ (by omega), swapU _ 14 10 _ _ (by omega), swapU _ 13 10 _ _ (by omega), swapU _ 12 10 _ _ (by omega), swapU _ 11 10 _ _ (by omega), putU]
theorem lp_11 : (lpput a v10 v11 v12 v13 v14 v15 v16 v17 v3).put (some 11) x = lpput a v10 x v12 v13 v14 v15 v16 v17 v3 := by
  unfold lpput
  rw [swapU _ 3 11 _ _ (by omega), swapU _ 17 11 _ _ (by omega), swapU _ 16 11 _ _ (by omega), swapU _ 15 11 _ _ (by omega), swapU _ 14 11 _ _ (by omega), swapU _ 13 11 _ _ (by omega), swapU _ 12 11 _ _ (by omega), putU]
theorem lp_12 : (lpput a v10 v11 v12 v13 v14 v15 v16 v17 v3).put (some 12) x = lpput a v10 v11 x v13 v14 v15 v16 v17 v3 := by
  unfold lpput
  rw [swapU _ 3 12 _ _ (by omega), swapU _ 17 12 _ _ (by omega), swapU _ 16 12 _ _ (by omega), swapU _ 15 12 _ _ (by omega), swapU _ 14 12 _ _ (by omega), swapU _ 13 12 _ _ (by omega), putU]
theorem lp_13 : (lpput a v10 v11 v12 v13 v14 v15 v16 v17 v3).put (some 13) x = lpput a v10 v11 v12 x v14 v15 v16 v17 v3 := by
  unfold lpput
  rw [swapU _ 3 13 _ _ (by omega), swapU _ 17 13 _ _ (by omega), swapU _ 16 13 _ _ (by omega), swapU _ 15 13 _ _ (by omega), swapU _ 14 13 _ _ (by omega), putU]
theorem lp_14 : (lpput a v10 v11 v12 v13 v14 v15 v16 v17 v3).put (some 14) x = lpput a v10 v11 v12 v13 x v15 v16 v17 v3 := by
  unfold lpput
  rw [swapU _ 3 14 _ _ (by omega), swapU _ 17 14 _ _ (by omega), swapU _ 16 14 _ _ (by omega), swapU _ 15 14 _ _ (by omega), putU]
theorem lp_15 : (lpput a v10 v11 v12 v13 v14 v15 v16 v17 v3).put (some 15) x = lpput a v10 v11 v12 v13 v14 x v16 v17 v3 := by
  unfold lpput
  rw [swapU _ 3 15 _ _ (by omega), swapU _ 17 15 _ _ (by omega), swapU _ 16 15 _ _ (by omega), putU]
theorem lp_16 : (lpput a v10 v11 v12 v13 v14 v15 v16 v17 v3).put (some 16) x = lpput a v10 v11 v12 v13 v14 v15 x v17 v3 := by
  unfold lpput
  rw [swapU _ 3 16 _ _ (by omega), swapU _ 17 16 _ _ (by omega), putU]
theorem lp_17 : (lpput a v10 v11 v12 v13 v14 v15 v16 v17 v3).put (some 17) x = lpput a v10 v11 v12 v13 v14 v15 v16 x v3 := by
  unfold lpput
  rw [swapU _ 3 17 _ _ (by omega), putU]
theorem lp_3 : (lpput a v10 v11 v12 v13 v14 v15 v16 v17 v3).put (some 3) x = lpput a v10 v11 v12 v13 v14 v15 v16 v17 x := by
  unfold lpput
  rw [putU]
end
section
variable (a : Act) (hsz : 68 ≤ a.tmps.size) (v10 v11 v12 v13 v14 v15 v16 v17 v3 : Value)
include hsz
theorem lpev_10 : (lpput a v10 v11 v12 v13 v14 v15 v16 v17 v3).eval (.tmp 10) = v10 := by
  unfold lpput
  rw [evalU_ne _ 3 10 _ (by omega), evalU_ne _ 17 10 _ (by omega), evalU_ne _ 16 10 _ (by omega), evalU_ne _ 15 10 _ (by omega), evalU_ne _ 14 10 _ (by omega), evalU_ne _ 13 10 _ (by omega), evalU_ne _ 12 10 _ (by omega), evalU_ne _ 11 10 _ (by omega), evalU_same _ _ _ (by omega)]
theorem lpev_11 : (lpput a v10 v11 v12 v13 v14 v15 v16 v17 v3).eval (.tmp 11) = v11 := by
  unfold lpput
  rw [evalU_ne _ 3 11 _ (by omega), evalU_ne _ 17 11 _ (by omega), evalU_ne _ 16 11 _ (by omega), evalU_ne _ 15 11 _ (by omega), evalU_ne _ 14 11 _ (by omega), evalU_ne _ 13 11 _ (by omega), evalU_ne _ 12 11 _ (by omega), evalU_same _ _ _ (by rw [sizeU]; omega)]
theorem lpev_12 : (lpput a v10 v11 v12 v13 v14 v15 v16 v17 v3).eval (.tmp 12) = v12 := by
  unfold lpput
  rw [evalU_ne _ 3 12 _ (by omega), evalU_ne _ 17 12 _ (by omega), evalU_ne _ 16 12 _ (by omega), evalU_ne _ 15 12 _ (by omega), evalU_ne _ 14 12 _ (by omega), evalU_ne _ 13 12 _ (by omega), evalU_same _ _ _ (by rw [sizeU, sizeU]; omega)]
theorem lpev_13 : (lpput a v10 v11 v12 v13 v14 v15 v16 v17 v3).eval (.tmp 13) = v13 := by
  unfold lpput
  rw [evalU_ne _ 3 13 _ (by omega), evalU_ne _ 17 13 _ (by omega), evalU_ne _ 16 13 _ (by omega), evalU_ne _ 15 13 _ (by omega), evalU_ne _ 14 13 _ (by omega), evalU_same _ _ _ (by rw [sizeU, sizeU, sizeU]; omega)]
theorem lpev_14 : (lpput a v10 v11 v12 v13 v14 v15 v16 v17 v3).eval (.tmp 14) = v14 := by
  unfold lpput
  rw [evalU_ne _ 3 14 _ (by omega), evalU_ne _ 17 14 _ (by omega), evalU_ne _ 16 14 _ (by omega), evalU_ne _ 15 14 _ (by omega), evalU_same _ _ _ (by rw [sizeU, sizeU, sizeU, sizeU]; omega)]
theorem lpev_15 : (lpput a v10 v11 v12 v13 v14 v15 v16 v17 v3).eval (.tmp 15) = v15 := by
  unfold lpput
  rw [evalU_ne _ 3 15 _ (by omega), evalU_ne _ 17 15 _ (by omega), evalU_ne _ 16 15 _ (by omega), evalU_same _ _ _ (by rw [sizeU, sizeU, sizeU, sizeU, sizeU]; omega)]
theorem lpev_16 : (lpput a v10 v11 v12 v13 v14 v15 v16 v17 v3).eval (.tmp 16) = v16 := by
  unfold lpput
  rw [evalU_ne _ 3 16 _ (by omega), evalU_ne _ 17 16 _ (by omega), evalU_same _ _ _ (by rw [sizeU, sizeU, sizeU, sizeU, sizeU, sizeU]; omega)]
theorem lpev_17 : (lpput a v10 v11 v12 v13 v14 v15 v16 v17 v3).eval (.tmp 17) = v17 := by
  unfold lpput
  rw [evalU_ne _ 3 17 _ (by omega), evalU_same _ _ _ (by rw [sizeU, sizeU, sizeU, sizeU, sizeU, sizeU, sizeU]; omega)]
theorem lpev_3 : (lpput a v10 v11 v12 v13 v14 v15 v16 v17 v3).eval (.tmp 3) = v3 := by
  unfold lpput
  rw [evalU_same _ _ _ (by rw [sizeU, sizeU, sizeU, sizeU, sizeU, sizeU, sizeU, sizeU]; omega)]
omit hsz in
theorem lpev_0 : (lpput a v10 v11 v12 v13 v14 v15 v16 v17 v3).eval (.tmp 0) = a.eval (.tmp 0) := by
  unfold lpput
  rw [evalU_ne _ 3 0 _ (by omega), evalU_ne _ 17 0 _ (by omega), evalU_ne _ 16 0 _ (by omega), evalU_ne _ 15 0 _ (by omega), evalU_ne _ 14 0 _ (by omega), evalU_ne _ 13 0 _ (by omega), evalU_ne _ 12 0 _ (by omega), evalU_ne _ 11 0 _ (by omega), evalU_ne _ 10 0 _ (by omega)]
end

noncomputable def saveOps : Array Oper := (Tryz.f16.body.bind (regOpsU 3)).getD #[]
/-- the value of the closure that goes through the runs -/
def clR (B1 : Nat) : Value := .func (.func 133) #[] #[.pointer (some ⟨B1, 0, none⟩)]
def SaveInv (a0 : Act) (w0 : World) (b : Nat) (V : Vm) (rv : Value) (D : Nat → Bool) (a : Act) (w : World) : Prop :=
  ∃ (v10 v11 v12 v13 v14 v15 v16 v17 v3 : Value) (B1 s3 : Nat), a = lpput a0 v10 v11 v12 v13 v14 v15 v16 v17 v3 ∧ Below w0.heap.size w0 w ∧ (D 0 = true → v10 = .pointer (some ⟨b, 0, none⟩)) ∧
    (D 1 = true → v11 = clR B1 ∧ w0.heap.size ≤ B1 ∧ Blk w B1 34 #[.pointer (some ⟨b, 0, none⟩)]) ∧
    (D 2 = true → w.ownsRow w0.heap.size 122 3 v12 (vrunsL V 1024).length (fl rnC (vrunsL V 1024))) ∧
    (D 3 = true → v13 = .pointer (some ⟨b, 0, none⟩)) ∧ (D 4 = true → v14 = .pointer (some ⟨b, 0, none⟩)) ∧ (D 5 = true → v15 = .pointer (some ⟨b, 67585, none⟩)) ∧ (D 6 = true → v16 = rfV rv V.rf.calls V.rf.hits) ∧
    (D 7 = true → v17 = .agg (stC v12 (.slice none 0 0) (.slice none 0 0) rv V.rf.calls V.rf.hits).toArray) ∧
    (D 8 = true → v3 = .pointer (some ⟨s3, 0, none⟩) ∧ w0.heap.size ≤ s3 ∧ Blk w s3 53 (if D 9 = true then (stC v12 (.slice none 0 0) (.slice none 0 0) rv V.rf.calls V.rf.hits).toArray else (stC (.slice none 0 0) (.slice none 0 0) (.slice none 0 0) (.slice none 0 0) (fun _ => 0) (fun _ => 0)).toArray)) ∧
    (D 9 = true → D 8 = true ∧ D 7 = true) ∧ (D 7 = true → D 2 = true ∧ D 6 = true)
attribute [local irreducible] Oper.wp in
set_option maxHeartbeats 3200000 in
theorem save_first {Q : Exit → Act → World → Prop} (a0 : Act) (w0 : World) (b : Nat) (cs : Array Value) (V : Vm) (A : Option Addr) (n cap : Nat) (hsz : 68 ≤ a0.tmps.size) (hp0 : a0.eval (.tmp 0) = .pointer (some ⟨b, 0, none⟩))
    (kS : Blk w0 b 133 cs) (hc : SysC cs (.slice A n cap) V)
    (hQ : ∀ (B1 s3 : Nat) (v12 : Value) (w' : World), w0.heap.size ≤ s3 → Blk w' s3 53 (stC v12 (.slice none 0 0) (.slice none 0 0) (.slice A n cap) V.rf.calls V.rf.hits).toArray → w'.ownsRow w0.heap.size 122 3 v12 (vrunsL V 1024).length (fl rnC (vrunsL V 1024)) → Below w0.heap.size w0 w' →
      Q .normal (lpput a0 (.pointer (some ⟨b, 0, none⟩)) (clR B1) v12 (.pointer (some ⟨b, 0, none⟩)) (.pointer (some ⟨b, 0, none⟩)) (.pointer (some ⟨b, 67585, none⟩)) (rfV (.slice A n cap) V.rf.calls V.rf.hits) (.agg (stC v12 (.slice none 0 0) (.slice none 0 0) (.slice A n cap) V.rf.calls V.rf.hits).toArray) (.pointer (some ⟨s3, 0, none⟩))) w') :
    (Code.region 3 saveOps true).wp Tryz.prog Q a0 w0 := by
  conv => arg 2; arg 2; whnf
  have hbl := kS.lt
  refine region_inv (SaveInv a0 w0 b V (.slice A n cap)) (by kernel_rfl) (by simp [edgesDown, Region.binds]) ?ext ?start ?steps ?fin
  case ext =>
    intro D D' a w h hI
    have e : ∀ i, i < 10 → D i = D' i := h
    have : SaveInv a0 w0 b V (.slice A n cap) D a w = SaveInv a0 w0 b V (.slice A n cap) D' a w := by
      unfold SaveInv
      simp only [e 0 (by omega), e 1 (by omega), e 2 (by omega), e 3 (by omega), e 4 (by omega), e 5 (by omega), e 6 (by omega), e 7 (by omega), e 8 (by omega), e 9 (by omega)]
    exact this ▸ hI
  case start =>
    intro D h
    have n : ∀ i, i < 10 → ¬ (D i = true) := fun i hi => by rw [h i hi]; decide
    exact ⟨_, _, _, _, _, _, _, _, _, 0, 0, (lp_self a0 hsz).symm, (Below.refl _ w0).drew, fun h => absurd h (n 0 (by omega)), fun h => absurd h (n 1 (by omega)), fun h => absurd h (n 2 (by omega)), fun h => absurd h (n 3 (by omega)), fun h => absurd h (n 4 (by omega)), fun h => absurd h (n 5 (by omega)), fun h => absurd h (n 6 (by omega)), fun h => absurd h (n 7 (by omega)), fun h => absurd h (n 8 (by omega)), fun h => absurd h (n 9 (by omega)), fun h => absurd h (n 7 (by omega))⟩
  case fin =>
    rintro a w ⟨v10, v11, v12, v13, v14, v15, v16, v17, v3, B1, s3, rfl, hb, h0, h1, h2, h3, h4, h5, h6, h7, h8, _, _⟩
    obtain rfl := h0 rfl
    obtain ⟨rfl, _, _⟩ := h1 rfl
    obtain rfl := h3 rfl
    obtain rfl := h4 rfl
    obtain rfl := h5 rfl
    obtain rfl := h6 rfl
    obtain rfl := h7 rfl
    obtain ⟨rfl, g8, k8⟩ := h8 rfl
    simp only [if_true] at k8
    exact hQ B1 s3 v12 w g8 k8 (h2 rfl) hb
  case steps =>
    refine ⟨?_, ?_, ?_, ?_, ?_, ?_, ?_, ?_, ?_, ?_, trivial⟩
    all_goals (rintro D a w ⟨v10, v11, v12, v13, v14, v15, v16, v17, v3, B1, s3, rfl, hb, h0, h1, h2, h3, h4, h5, h6, h7, h8, h98, h76⟩ hk he)
    all_goals (refine step_plainU rfl ?_)
    · refine wp_valU (v := .pointer (some ⟨b, 0, none⟩)) (w' := w) (by simp only [execOp, lpev_0, hp0]; simp [go_sem]) ?_
      show SaveInv a0 w0 b V (.slice A n cap) _ ((lpput a0 v10 v11 v12 v13 v14 v15 v16 v17 v3).put (some 10) _) _; rw [lp_10]
      refine ⟨_, _, _, _, _, _, _, _, _, B1, s3, rfl, hb, ?_⟩
      simp only [Nat.reduceBEq, Bool.true_or, Bool.false_or, forall_const]
      exact ⟨trivial, h1, h2, h3, h4, h5, h6, h7, h8, h98, h76⟩
    · have e := h0 (he ⟨0, .data⟩ (by simp) rfl)
      have ev' : (lpput a0 v10 v11 v12 v13 v14 v15 v16 v17 v3).tmps[10]?.getD undef = .pointer (some ⟨b, 0, none⟩) := by
        have := (lpev_10 a0 hsz v10 v11 v12 v13 v14 v15 v16 v17 v3).trans e
        simpa [Act.eval] using this
      refine wp_enterV (f := 69) (args := #[.pointer (some ⟨b, 0, none⟩)]) (w1 := w) (C := fun v w' => v = clR w.heap.size ∧ w' = w.alloc (.cells #[.pointer (some ⟨b, 0, none⟩)] 34)) (by simp only [execOp]; simp [go_sem, ev']) ((vruns_any b w).mono fun e w' ⟨h1, h2⟩ => ⟨_, h1, rfl, h2⟩) ?_
      rintro v w' ⟨rfl, rfl⟩
      show SaveInv a0 w0 b V (.slice A n cap) _ ((lpput a0 v10 v11 v12 v13 v14 v15 v16 v17 v3).put (some 11) _) _; rw [lp_11]
      refine ⟨_, _, _, _, _, _, _, _, _, w.heap.size, s3, rfl, hb.alloc hb.size _, ?_⟩
      simp only [Nat.reduceBEq, Nat.reduceAdd, Bool.true_or, Bool.false_or, forall_const]
      have hbA := (Below.refl w.heap.size w).alloc (Nat.le_refl _) (.cells #[.pointer (some ⟨b, 0, none⟩)] 34)
      exact ⟨h0, ⟨trivial, hb.size, Blk.new _ _ _⟩, fun d => ownsRow_call (h2 d) hbA, h3, h4, h5, h6, h7, fun d => ⟨(h8 d).1, (h8 d).2.1, (h8 d).2.2.call hbA⟩, h98, h76⟩
    · obtain ⟨rfl, g1, k1⟩ := h1 (he ⟨1, .data⟩ (by simp) rfl)
      have ev' : (lpput a0 v10 (clR B1) v12 v13 v14 v15 v16 v17 v3).tmps[11]?.getD undef = clR B1 := by
        have := lpev_11 a0 hsz v10 (clR B1) v12 v13 v14 v15 v16 v17 v3
        simpa [Act.eval] using this
      have hd7 : D 7 = false := by cases h : D 7 with | false => rfl | true => rw [(h76 h).1] at hk; cases hk
      have hd9 : D 9 = false := by
        cases h : D 9 with
        | false => rfl
        | true => rw [(h98 h).2] at hd7; cases hd7
      refine wp_enterV (f := 68) (args := #[clR B1]) (w1 := w) (C := fun v w' => w'.ownsRow w.heap.size 122 3 v (vrunsL V 1024).length (fl rnC (vrunsL V 1024)) ∧ Below w.heap.size w w') (by simp only [execOp]; simp [go_sem, ev']) ((collectR_any _ _ (fun k => k = b ∨ k = B1) (vrunsL V 1024) w (Nat.le_trans (vrunsL_len V 1024) (by omega)) (vruns1_seq b B1 V cs _ _ w (.inl rfl) (.inr rfl) k1 (kS.call hb) hc) vruns1_enters (fun k hk => hk.elim (fun h => by rw [h]; exact Nat.lt_of_lt_of_le hbl hb.size) (fun h => by rw [h]; exact k1.lt))).mono fun e w' ⟨v, h1, h2, h3⟩ => ⟨v, h1, h2, h3⟩) ?_
      rintro v w' ⟨hrow, hbA⟩
      show SaveInv a0 w0 b V (.slice A n cap) _ ((lpput a0 v10 (clR B1) v12 v13 v14 v15 v16 v17 v3).put (some 12) _) _; rw [lp_12]
      refine ⟨_, _, _, _, _, _, _, _, _, B1, s3, rfl, hb.trans (hbA.mono hb.size), ?_⟩
      simp only [Nat.reduceBEq, Nat.reduceAdd, Bool.true_or, Bool.false_or, forall_const]
      simp only [hd7, hd9] at h7 h8 ⊢
      exact ⟨h0, fun _ => ⟨trivial, g1, k1.call hbA⟩, ownsRow_base hrow hb.size, h3, h4, h5, h6, fun d => (by cases d), fun d => ⟨(h8 d).1, (h8 d).2.1, (h8 d).2.2.call hbA⟩, fun d => (by cases d), fun d => (by cases d)⟩
    · refine wp_valU (v := .pointer (some ⟨b, 0, none⟩)) (w' := w) (by simp only [execOp, lpev_0, hp0]; simp [go_sem]) ?_
      show SaveInv a0 w0 b V (.slice A n cap) _ ((lpput a0 v10 v11 v12 v13 v14 v15 v16 v17 v3).put (some 13) _) _; rw [lp_13]
      refine ⟨_, _, _, _, _, _, _, _, _, B1, s3, rfl, hb, ?_⟩
      simp only [Nat.reduceBEq, Nat.reduceAdd, Bool.true_or, Bool.false_or, forall_const]
      exact ⟨h0, h1, h2, trivial, h4, h5, h6, h7, h8, h98, h76⟩
    · have e := h3 (he ⟨3, .data⟩ (by simp) rfl)
      refine wp_valU (v := .pointer (some ⟨b, 0, none⟩)) (w' := w) (by simp only [execOp, lpev_13 _ hsz, e]; simp [go_sem]) ?_
      show SaveInv a0 w0 b V (.slice A n cap) _ ((lpput a0 v10 v11 v12 v13 v14 v15 v16 v17 v3).put (some 14) _) _; rw [lp_14]
      refine ⟨_, _, _, _, _, _, _, _, _, B1, s3, rfl, hb, ?_⟩
      simp only [Nat.reduceBEq, Nat.reduceAdd, Bool.true_or, Bool.false_or, forall_const]
      exact ⟨h0, h1, h2, h3, trivial, h5, h6, h7, h8, h98, h76⟩
    · have e := h4 (he ⟨4, .data⟩ (by simp) rfl)
      refine wp_valU (v := .pointer (some ⟨b, 67585, none⟩)) (w' := w) (by simp only [execOp, lpev_14 _ hsz, e]; simp [go_sem]) ?_
      show SaveInv a0 w0 b V (.slice A n cap) _ ((lpput a0 v10 v11 v12 v13 v14 v15 v16 v17 v3).put (some 15) _) _; rw [lp_15]
      refine ⟨_, _, _, _, _, _, _, _, _, B1, s3, rfl, hb, ?_⟩
      simp only [Nat.reduceBEq, Nat.reduceAdd, Bool.true_or, Bool.false_or, forall_const]
      exact ⟨h0, h1, h2, h3, h4, trivial, h6, h7, h8, h98, h76⟩
    · have e := h5 (he ⟨5, .data⟩ (by simp) rfl)
      have kb := kS.call hb
      have hrng : w.rangeAt b 67585 (rfC (.slice A n cap) V.rf.calls V.rf.hits) := fun j v hj => by
        have hj15 : j < 15 := (List.getElem?_eq_some_iff.1 hj).1
        rw [kb.cell, hc.rf j hj15]; exact hj
      have hd7 : D 7 = false := by cases h : D 7 with | false => rfl | true => rw [(h76 h).2] at hk; cases hk
      refine wp_load_mid 51 (.tmp 15) rfl b 67585 ((lpev_15 _ hsz ..).trans e) (rfC (.slice A n cap) V.rf.calls V.rf.hits) _ hrng Tryz.underlying51 rfl infoRf ?_
      show SaveInv a0 w0 b V (.slice A n cap) _ ((lpput a0 v10 v11 v12 v13 v14 v15 v16 v17 v3).put (some 16) _) _; rw [lp_16]
      refine ⟨_, _, _, _, _, _, _, _, _, B1, s3, rfl, hb, ?_⟩
      simp only [Nat.reduceBEq, Nat.reduceAdd, Bool.true_or, Bool.false_or, forall_const]
      simp only [hd7] at h7 ⊢
      exact ⟨h0, h1, h2, h3, h4, h5, rfl, fun d => (by cases d), h8, fun d => (by rw [(h98 d).2] at hd7; cases hd7), fun d => (by cases d)⟩
    · have d2 := he ⟨2, .data⟩ (by simp) rfl
      have d6 := he ⟨6, .data⟩ (by simp) rfl
      obtain rfl := h6 d6
      obtain ⟨A', cap', rfl, _⟩ := own_Rd (h2 d2)
      have ev12 : (lpput a0 v10 v11 (.slice A' (vrunsL V 1024).length cap') v13 v14 v15 (rfV (.slice A n cap) V.rf.calls V.rf.hits) v17 v3).tmps[12]?.getD undef = .slice A' (vrunsL V 1024).length cap' := by
        have := lpev_12 a0 hsz v10 v11 (.slice A' (vrunsL V 1024).length cap') v13 v14 v15 (rfV (.slice A n cap) V.rf.calls V.rf.hits) v17 v3
        simpa [Act.eval] using this
      have ev16 : (lpput a0 v10 v11 (.slice A' (vrunsL V 1024).length cap') v13 v14 v15 (rfV (.slice A n cap) V.rf.calls V.rf.hits) v17 v3).tmps[16]?.getD undef = rfV (.slice A n cap) V.rf.calls V.rf.hits := by
        have := lpev_16 a0 hsz v10 v11 (.slice A' (vrunsL V 1024).length cap') v13 v14 v15 (rfV (.slice A n cap) V.rf.calls V.rf.hits) v17 v3
        simpa [Act.eval] using this
      refine wp_valU (v := .agg (stC (.slice A' (vrunsL V 1024).length cap') (.slice none 0 0) (.slice none 0 0) (.slice A n cap) V.rf.calls V.rf.hits).toArray) (w' := w) (by
        generalize lpput a0 v10 v11 (.slice A' (vrunsL V 1024).length cap') v13 v14 v15 (rfV (.slice A n cap) V.rf.calls V.rf.hits) v17 v3 = aa at *
        generalize (vrunsL V 1024).length = N at *
        unfold rfV rfC at ev16
        unfold stC rfC
        simp only [execOp]
        simp [go_sem, ev12, ev16]) ?_
      show SaveInv a0 w0 b V (.slice A n cap) _ ((lpput a0 v10 v11 (.slice A' (vrunsL V 1024).length cap') v13 v14 v15 (rfV (.slice A n cap) V.rf.calls V.rf.hits) v17 v3).put (some 17) _) _; rw [lp_17]
      refine ⟨_, _, _, _, _, _, _, _, _, B1, s3, rfl, hb, ?_⟩
      simp only [Nat.reduceBEq, Nat.reduceAdd, Bool.true_or, Bool.false_or, forall_const]
      exact ⟨h0, h1, h2, h3, h4, h5, fun _ => trivial, trivial, h8, fun d => ⟨(h98 d).1, trivial⟩, d2, d6⟩
    · have hd9 : D 9 = false := by cases h : D 9 with | false => rfl | true => rw [(h98 h).1] at hk; cases hk
      have hbA := (Below.refl w.heap.size w).alloc (Nat.le_refl _) (.cells (stC (.slice none 0 0) (.slice none 0 0) (.slice none 0 0) (.slice none 0 0) (fun _ => 0) (fun _ => 0)).toArray 53)
      refine wp_valU (v := .pointer (some ⟨w.heap.size, 0, none⟩)) (w' := w.alloc (.cells (stC (.slice none 0 0) (.slice none 0 0) (.slice none 0 0) (.slice none 0 0) (fun _ => 0) (fun _ => 0)).toArray 53)) (by unfold stC rfC; simp [execOp, go_sem]) ?_
      show SaveInv a0 w0 b V (.slice A n cap) _ ((lpput a0 v10 v11 v12 v13 v14 v15 v16 v17 v3).put (some 3) _) _; rw [lp_3]
      refine ⟨_, _, _, _, _, _, _, _, _, B1, w.heap.size, rfl, hb.alloc hb.size _, ?_⟩
      simp only [Nat.reduceBEq, Nat.reduceAdd, Bool.true_or, Bool.false_or, forall_const]
      simp only [hd9]
      exact ⟨h0, fun d => ⟨(h1 d).1, (h1 d).2.1, (h1 d).2.2.call hbA⟩, fun d => ownsRow_call (h2 d) hbA, h3, h4, h5, h6, h7, ⟨trivial, hb.size, Blk.new _ _ _⟩, fun d => (by cases d), h76⟩
    · have d8 := he ⟨8, .data⟩ (by simp) rfl
      have d7 := he ⟨7, .data⟩ (by simp) rfl
      obtain ⟨d2, d6⟩ := h76 d7
      obtain ⟨rfl, g8, k8⟩ := h8 d8
      obtain rfl := h7 d7
      have hrow := h2 d2
      obtain ⟨A', cap', rfl, _⟩ := own_Rd hrow
      have k8' : Blk w s3 53 (stC (.slice none 0 0) (.slice none 0 0) (.slice none 0 0) (.slice none 0 0) (fun _ => 0) (fun _ => 0)).toArray := by rw [hk] at k8; exact k8
      have hF := Far.puts (T := fun k => k = s3) rfl (stC (.slice A' (vrunsL V 1024).length cap') (.slice none 0 0) (.slice none 0 0) (.slice A n cap) V.rf.calls V.rf.hits) 0 w w (Far.refl _ _)
      have kP := Blk.puts (g := s3) (t := 53) (w := w) (cs := #[]) (stC (.slice A' (vrunsL V 1024).length cap') (.slice none 0 0) (.slice none 0 0) (.slice A n cap) V.rf.calls V.rf.hits) 0 w _ k8'
      rw [putA_all (by rfl)] at kP
      have hs18 : (stC (.slice A' (vrunsL V 1024).length cap') (.slice none 0 0) (.slice none 0 0) (.slice A n cap) V.rf.calls V.rf.hits).toArray.size = 18 := by rw [List.size_toArray]; rfl
      have ht : w.there s3 0 (stC (.slice A' (vrunsL V 1024).length cap') (.slice none 0 0) (.slice none 0 0) (.slice A n cap) V.rf.calls V.rf.hits).toArray.size := by rw [hs18]; exact z_there k8' 0 18 (by rw [List.size_toArray]; exact Nat.le_refl _)
      have hinf : (Tryz.prog.info? 53).map (·.size) = some (stC (.slice A' (vrunsL V 1024).length cap') (.slice none 0 0) (.slice none 0 0) (.slice A n cap) V.rf.calls V.rf.hits).toArray.size := by rw [hs18]; exact infoSt
      refine wp_storeU 53 (.tmp 3) (.tmp 17) rfl rfl s3 0 (stC (.slice A' (vrunsL V 1024).length cap') (.slice none 0 0) (.slice none 0 0) (.slice A n cap) V.rf.calls V.rf.hits).toArray (lpev_3 _ hsz ..) (lpev_17 _ hsz ..) ht hinf (Go.all_oneCell_toArray (stC_one rfl rfl rfl rfl _ _)) ?_
      refine ⟨_, _, _, _, _, _, _, _, _, B1, s3, rfl, hb.trans (hF.below hb.size (fun k hk e => by omega)), ?_⟩
      simp only [Nat.reduceBEq, Nat.reduceAdd, Bool.true_or, Bool.false_or, forall_const, if_true]
      exact ⟨h0, fun d => ⟨(h1 d).1, (h1 d).2.1, hF.blk (h1 d).2.2 (Blk.ne_ (h1 d).2.2 k8' (by decide))⟩, fun _ => ownsRow_far hrow hF (fun g hg h => own_other hrow (hg.trans (congrArg some h)) k8' (by decide)), h3, h4, h5, h6, fun _ => trivial, fun _ => ⟨trivial, g8, kP⟩, ⟨d8, d7⟩, h76⟩
end Go.Proofs.YtpabnbhbcphfiaaGreat
namespace Go.Proofs.YtpabnbhbcphfiaaGreat
open Go Go.Proofs Go.RowKit Go.Pol Go.Shelf
attribute [local go_sem] Oper.semAt_some Go.Pol.wide_fn Go.Pol.wide_depth Go.Pol.wide_fn' Go.Pol.wide_depth'

def arrI (k : IntKind) (n : Nat) (f : Nat → Int) : Array Value := ((List.range n).map fun i => .int k (f i)).toArray
theorem arrI_at {k : IntKind} {n : Nat} {f : Nat → Int} {i : Nat} (h : i < n) : (arrI k n f)[i]? = some (.int k (f i)) := by
  unfold arrI
  rw [List.getElem?_toArray, List.getElem?_map, List.getElem?_range h]; rfl
theorem eqItems_u8 (f g : Nat → Int) (w : World) : ∀ is : List Nat, (∀ i ∈ is, i < 64) → (Op.eqItems 9999 5 1 (arrI .u8 64 f) (arrI .u8 64 g) is).run Tryz.prog w = .ok (is.all fun i => f i == g i) w
  | [], _ => by simp [Op.eqItems]
  | i :: is, h => by
    have ih := eqItems_u8 f g w is (fun j hj => h j (by simp [hj]))
    have h1 := arrI_at (k := .u8) (f := f) (h i (by simp))
    have h2 := arrI_at (k := .u8) (f := g) (h i (by simp))
    have a3 := Tryz.isAgg5
    have he := run_equalIn_int (P := Tryz.prog) w 9998 5 .u8 _ (f i) (g i) Tryz.underlying5
    generalize arrI .u8 64 f = X at *
    generalize arrI .u8 64 g = Y at *
    have p1 : (part 5 X (i * 1)).run Tryz.prog w = .ok (.int .u8 (f i)) w := by simp [part, a3, h1]
    have p2 : (part 5 Y (i * 1)).run Tryz.prog w = .ok (.int .u8 (g i)) w := by simp [part, a3, h2]
    simp only [Op.eqItems, Sem.run_bind, p1, p2, he, Result.andThen_ok, List.all_cons]
    cases f i == g i with
    | false => simp
    | true => simp only [Bool.not_true, Bool.false_eq_true, if_false, Bool.true_and]; exact ih
theorem eq64_any (f g : Nat → Int) (w : World) : (Op.equalIn 10000 85 (.agg (arrI .u8 64 f)) (.agg (arrI .u8 64 g))).run Tryz.prog w = .ok ((List.range 64).all fun i => f i == g i) w := by
  obtain ⟨i0, hi⟩ := info_of_underlying (P := Tryz.prog) Tryz.underlying5
  rw [run_equalIn_array w 9999 _ _ Tryz.underlying85 hi]
  have hc : Tryz.prog.cellsOf 5 = 1 := by kernel_rfl
  rw [hc]
  exact eqItems_u8 f g w _ (fun i hi => List.mem_range.1 hi)
theorem eqItems_i (f : Nat → Int) (w : World) : ∀ is : List Nat, (∀ i ∈ is, i < 7) → (Op.eqItems 9999 3 1 (arrI .i64 7 f) (arrI .i64 7 f) is).run Tryz.prog w = .ok true w
  | [], _ => by simp [Op.eqItems]
  | i :: is, h => by
    have ih := eqItems_i f w is (fun j hj => h j (by simp [hj]))
    have h1 := arrI_at (k := .i64) (f := f) (h i (by simp))
    have a3 := Tryz.isAgg3
    have he := run_equalIn_int (P := Tryz.prog) w 9998 3 .i64 _ (f i) (f i) Tryz.underlying3
    generalize arrI .i64 7 f = X at *
    have p1 : (part 3 X (i * 1)).run Tryz.prog w = .ok (.int .i64 (f i)) w := by simp [part, a3, h1]
    rw [show (f i == f i) = true by simp] at he
    simp only [Op.eqItems, Sem.run_bind, p1, he, Result.andThen_ok, Bool.not_true, Bool.false_eq_true, if_false]
    exact ih
theorem eq7_any (f : Nat → Int) (w : World) : (Op.equalIn 10000 49 (.agg (arrI .i64 7 f)) (.agg (arrI .i64 7 f))).run Tryz.prog w = .ok true w := by
  obtain ⟨i0, hi⟩ := info_of_underlying (P := Tryz.prog) Tryz.underlying3
  rw [run_equalIn_array w 9999 _ _ Tryz.underlying49 hi]
  have hc : Tryz.prog.cellsOf 3 = 1 := by kernel_rfl
  rw [hc]
  exact eqItems_i f w _ (fun i hi => List.mem_range.1 hi)
end Go.Proofs.YtpabnbhbcphfiaaGreat
namespace Go.Pol
open Go Go.RowKit
def daA (p : Int) (f : Nat → Int) : Array Value := (Value.int .i64 p :: (List.range 64).map fun i => Value.int .u8 (f i)).toArray
/-- a saved state in memory: runs, huge groups, pages with bytes, refusals -/
structure VsIs (w : World) (S : Value) (V : Vm) : Prop where
  ex : ∃ (A1 A2 A3 A4 : Option Addr) (n1 c1 n2 c2 n3 c3 n4 c4 : Nat), S = .agg (stC (.slice A1 n1 c1) (.slice A2 n2 c2) (.slice A3 n3 c3) (.slice A4 n4 c4) V.rf.calls V.rf.hits).toArray ∧
    (vrunsL V 1024).length = n1 ∧ Rd w w.heap.size A1 (fl rnC (vrunsL V 1024)) ∧ (hugL V 1024).length = n2 ∧ RI w w.heap.size A2 (hugL V 1024) ∧ (datL V 1024).length = n3 ∧ Rd w w.heap.size A3 (fl (daC V) (datL V 1024)) ∧
    V.rf.rules.length = n4 ∧ Rd w w.heap.size A4 (fl ruC V.rf.rules)
theorem VsIs.on {w w' : World} {S : Value} {V : Vm} (h : VsIs w S V) (hb : Below w.heap.size w w') : VsIs w' S V := by
  obtain ⟨A1, A2, A3, A4, n1, c1, n2, c2, n3, c3, n4, c4, h0, h1, h2, h3, h4, h5, h6, h7, h8⟩ := h.ex
  exact ⟨A1, A2, A3, A4, n1, c1, n2, c2, n3, c3, n4, c4, h0, h1, h2.on_ hb, h3, RI.more (RI.below h4 hb) hb.size, h5, h6.on_ hb, h7, h8.on_ hb⟩
theorem Rd.farN {w w' : World} {N : Nat} {A : Option Addr} {xs : List Value} {T : Nat → Prop} (h : Rd w N A xs) (hF : Far T w w') (hT : ∀ k, k < N → (∃ o, A = some ⟨k, o, none⟩) → ¬ T k) : Rd w' N A xs := fun k hk => by
  obtain ⟨b, o, e, hb, hc⟩ := h k hk
  exact ⟨b, o, e, hb, hF.cell hc (hT b hb ⟨o, e⟩)⟩
def SaveO (V : Vm) (w : World) (e : Ending) (w' : World) : Prop := ∃ S, e = .returned S ∧ VsIs w' S V ∧ Below w.heap.size w w'
theorem nzB_all (g : Pg) : (List.range 64).all (fun i => g.byt i == 0) = !nzB g := by
  unfold nzB
  rw [Bool.eq_iff_iff]
  simp
theorem daC_eq (V : Vm) (p : Nat) : daC V p = (daA p (V.pg p).byt).toList := rfl
end Go.Pol
namespace Go.Proofs.YtpabnbhbcphfiaaGreat
open Go Go.Proofs Go.RowKit Go.Pol Go.Shelf
attribute [local go_sem] Oper.semAt_some Go.Pol.wide_fn Go.Pol.wide_depth Go.Pol.wide_fn' Go.Pol.wide_depth'

theorem z_results_cell1 {P : Program} {fn : Func} {a : Tmp} {t : TypeId} {tmps : Array Value} {w : World} {v : Value} {p : Addr} (h : fn.results = #[.cell a t]) (ha : tmps.getD a undef = .pointer (some p)) (hl : (loadVar t p).run P w = .ok v w) :
    (results fn tmps).run P w = .ok v w := by
  have ha' : tmps[a]?.getD undef = .pointer (some p) := by rw [← ha, Array.getD_eq_getD_getElem?]
  simp [results, h, ha', asAddr, hl]
theorem wpList_buildU {P : Program} {ops : Array Oper} {rest : List Oper} {op : Oper} {a : Act} {w : World} {Q : Exit → Act → World → Prop} (hgd : op.guard = none) (d : Nat) (hd : op.dst = some d) (t : TypeId) (parts : List (Nat × Operand)) (ho : op.op = .build t parts.toArray)
    (vals : List (Nat × Value)) (hv : parts.map (fun x => (x.1, a.eval x.2)) = vals) (cells : Array Value) (hb : P.built t vals = some cells) (h : wpList P ops Q rest (a.put (some d) (.agg cells)) w) : wpList P ops Q (op :: rest) a w :=
  wpList_plain hgd fun K hK => by
    have hb' : P.built t (parts.toArray.map fun (i, x) => (i, a.eval x)).toList = some cells := by
      rw [← hb, ← hv]; simp
    unfold Oper.wp execOp
    simp only [ho, Sem.run_bind, run_build w t _ cells hb', Result.andThen_ok]
    show K (a.put op.dst _) w
    rw [hd]
    exact hK _ _ h
theorem wpList_buildSliceU {P : Program} {ops : Array Oper} {rest : List Oper} {o : Oper} {a : Act} {w : World} {Q : Exit → Act → World → Prop} (hg : o.guard = none) (d : Nat) (hd : o.dst = some d) (t e : TypeId) (len : Nat) (parts : List (Nat × Operand)) (ho : o.op = .buildSlice t len parts.toArray)
    (vals : List (Nat × Value)) (hv : parts.map (fun x => (x.1, a.eval x.2)) = vals) (cells : Array Value) (ie : TypeInfo) (z : Value)
    (hu : P.underlying t = some (.slice e)) (hie : P.info? e = some ie) (hz : ie.zero = some z) (hsmall : ¬ len * ie.size > 2 ^ 24) (hpos : ¬ len * ie.size = 0)
    (hf : Instr.fill (fun i => some (i * ie.size, ie.size)) ((Array.range (len * ie.size)).map (z.cells[· % z.cells.size]!)) vals = some cells)
    (h : wpList P ops Q rest (a.put (some d) (.slice (some ⟨w.heap.size, 0, none⟩) len len)) (w.alloc (.cells cells e))) : wpList P ops Q (o :: rest) a w :=
  wpList_buildSlice hg t e len parts.toArray ho cells ie z hu hie hz hsmall hpos (by rw [← hf, ← hv]; simp) (by rw [hd]; exact h)
theorem infoInQ : (Tryz.prog.info? 3).map (fun i => (i.zero, i.size, i.bytes)) = some (some (.int .i64 0), 1, 8) := by kernel_rfl
theorem infoDa : (Tryz.prog.info? 124).map (fun i => (i.zero, i.size, i.bytes)) = some (some (.agg (daA 0 (fun _ => 0))), 65, 72) := by kernel_rfl
theorem built_da (p : Int) (f : Nat → Int) : Tryz.prog.built 124 [(0, .int .i64 p), (1, .agg (arrI .u8 64 f))] = some (daA p f) := by kernel_rfl
theorem fill_da (p : Int) (f : Nat → Int) : Instr.fill (fun i => some (i * 65, 65)) ((Array.range (1 * 65)).map ((Value.agg (daA 0 (fun _ => 0))).cells[· % (Value.agg (daA 0 (fun _ => 0))).cells.size]!)) [(0, .agg (daA p f))] = some (daA p f) := by kernel_rfl
set_option maxRecDepth 100000 in
set_option maxHeartbeats 3200000 in
theorem save_any (b : Nat) (V : Vm) (w : World) (hV : SysIs w b V) :
    Calls Tryz.prog 16 #[.pointer (some ⟨b, 0, none⟩)] w (SaveO V w) := by
  have hV' := Lib.hid hV
  have hb0 := (Below.refl w.heap.size w).alloc (Nat.le_refl _) (.cells (stC (.slice none 0 0) (.slice none 0 0) (.slice none 0 0) (.slice none 0 0) (fun _ => 0) (fun _ => 0)).toArray 53)
  have k2 := Blk.new w 53 (stC (.slice none 0 0) (.slice none 0 0) (.slice none 0 0) (.slice none 0 0) (fun _ => 0) (fun _ => 0)).toArray
  have V0 := hV.call hb0
  have hbs := hV.lt
  have HI := Lib.hid (fun W h => is_any b V W h)
  obtain ⟨s, hs⟩ : ∃ s, w.heap.size = s := ⟨_, rfl⟩
  have hsz0 : (w.alloc (.cells (stC (.slice none 0 0) (.slice none 0 0) (.slice none 0 0) (.slice none 0 0) (fun _ => 0) (fun _ => 0)).toArray 53)).heap.size = s + 1 := by rw [World.size_alloc, hs]
  rw [hs] at k2
  unfold stC rfC at hb0 k2 V0 hsz0
  clear hV
  go_enter Tryz.func16, Tryz.ntmps16
  go_upto_region 1 with fail
  generalize w.alloc _ = w0 at *
  try simp only [hs]
  go_wp2_with fail
  refine (HI.out _ V0).mono ?_
  rintro e9 w9 ⟨rfl, hw9⟩
  replace hw9 := hw9.symm
  subst hw9
  obtain ⟨cs, A, n, cap, kb, hc, hn, hr, hz, _⟩ := V0.ex
  have hok := V0.ok
  go_upto_region 3 with fail
  refine save_first _ _ b cs V A n cap (Nat.le_of_ble_eq_true rfl) rfl kb hc ?_
  intro B1 s3 v12 w1 hs3 k3 hrow1 hb1
  simp only [lpput, Act.put, List.setIfInBounds_toArray, List.set_cons_succ, List.set_cons_zero]
  obtain ⟨A1, cap1, rfl, r1, _, _, hA1, _⟩ := own_Rd hrow1
  have hA13 : ∀ o, A1 ≠ some ⟨s3, o, none⟩ := fun o e => by
    subst e
    exact own_other hrow1 rfl k3 (by decide)
  obtain ⟨N1, hN1⟩ : ∃ N1, (vrunsL V 1024).length = N1 := ⟨_, rfl⟩
  rw [hN1] at k3 hrow1
  try simp only [hN1]
  have kb1 := kb.call hb1
  have c67 : w1.cell? ⟨b, 67585, none⟩ = some (.slice A n cap) := by rw [kb1.cell]; exact (hc.rf 0 (by omega)).trans rfl
  have hr1 := hr.on_ hb1
  have hlen50 := (chkR_zero.1 hok.plan).1
  have hb1' := Lib.hid hb1
  have k2' := Lib.hid (k2.call hb1)
  have h01 : s + 1 ≤ w0.heap.size := Nat.le_of_eq hsz0.symm
  have B1 : Below s w w1 := by rw [← hs]; exact hb0.trans (hb1.mono (by rw [hs]; omega))
  have HCl := Lib.hid (cloneR_any A n cap V.rf.rules w1 hn (by omega) hz hr1)
  have f3 := k3.frozen
  have c3 := k3.cell
  have hc' := Lib.hid hc
  have hN1' := Lib.hid hN1
  have r1' := Lib.hid r1
  have hAs := Lib.hid hA1
  have k3' := Lib.hid k3
  clear hb1 k2 kb hr hz hok hrow1 V0 HI hn hb0 hc hN1 r1 hA1 hr1 hlen50 k3 c3 f3
  unfold rfV stC rfC
  go_wp2_with fail
  refine HCl.out.mono ?_
  rintro e w2 ⟨v4, rfl, hv4⟩
  obtain ⟨A4, c4, rfl, q1, _, _, q4, q5, hb2⟩ := hv4
  have k32 := k3'.out.call hb2
  have k22 := k2'.out.call hb2
  have kb2 := kb1.call hb2
  have r12 := Lib.hid (r1'.out.below hb2)
  have B2 := B1.trans (hb2.mono (by have := B1.size; omega))
  have c3 := k32.cell
  have f3 := k32.frozen
  have c33 : w2.cell? ⟨s3, 3, none⟩ = some (.slice A n cap) := (k32.cell 3).trans rfl
  have k33 := k32.set_ 3 (.slice A4 V.rf.rules.length c4)
  have F3 : Far (fun k => k = s3) w2 (w2.setCell ⟨s3, 3, none⟩ (.slice A4 V.rf.rules.length c4)) := Far.setCell (T := fun k => k = s3) (p := ⟨s3, 3, none⟩) (Far.refl _ w2) (fun _ => rfl) _
  have hsb1 := kb1.lt
  have hls3 := k3'.out.lt
  clear HCl c67 kb1 c3 k2'
  go_upto_region 5 with fail
  generalize w2.setCell ⟨s3, 3, none⟩ _ = w3 at *
  have k34 : Blk w3 s3 53 (stC (.slice A1 N1 cap1) (.slice none 0 0) (.slice none 0 0) (.slice A4 V.rf.rules.length c4) V.rf.calls V.rf.hits).toArray := k33
  have q13 : Rd w3 w2.heap.size A4 (fl ruC V.rf.rules) := q1.far_ F3 (fun g o e => by have := q4 g o e; show ¬ g = s3; omega)
  have r13 : Rd w3 w1.heap.size A1 (fl rnC (vrunsL V 1024)) := r12.out.farN F3 (fun k _ ⟨o, e⟩ h => hA13 o (h ▸ e))
  have kb3 := F3.blk kb2 (by show ¬ b = s3; omega)
  have k23 := F3.blk k22 (by show ¬ s = s3; omega)
  have B3 := B2.trans (F3.below (by have := B2.size; omega) (fun k hk e => by omega))
  have hsz3 : w2.heap.size ≤ w3.heap.size := F3.size
  have hsz2 := hb2.size
  have q13' := Lib.hid q13
  have r13' := Lib.hid r13
  clear F3 k32 k22 kb2 r12 B2 c33 k33 q13 r13 q1 f3 hb2 k3' r1' B1
  generalize hN4 : V.rf.rules.length = N4 at *
  have hN4' := Lib.hid hN4
  clear hN4
  obtain ⟨i0, hi, hz0, hz1, hz2⟩ := info_parts infoInQ
  obtain ⟨iD, hiD, hzD0, hzD1, hzD2⟩ := info_parts infoDa
  obtain ⟨NB, hNB⟩ : ∃ NB, w3.heap.size = NB := ⟨_, rfl⟩
  go_wp2_with fail
  go_loopw [28] (fun u wr => ∃ (k : Nat) (v2 v3 : Value), k ≤ 1024 ∧ u = .int .i64 k ∧ Blk wr s3 53 (stC (.slice A1 N1 cap1) v2 v3 (.slice A4 N4 c4) V.rf.calls V.rf.hits).toArray ∧
    wr.ownsRow NB 3 1 v2 (hugL V k).length ((hugL V k).map (Value.int .i64)) ∧ wr.ownsRow NB 124 65 v3 (datL V k).length (fl (daC V) (datL V k)) ∧ Far (fun k => k = s3 ∨ NB ≤ k) w3 wr) (fun u _ => 1024 - (intOf u).toNat)
  case atStart => exact ⟨0, _, _, by omega, rfl, k34, World.ownsRow_nil _ _ _ _, World.ownsRow_nil _ _ _ _, Far.refl _ _⟩
  case round =>
    clear k34
    obtain ⟨k, v2, v3, hk, rfl, k3, ro2, ro3, hF⟩ := hrel
    by_cases hlt : k < 1024
    · have hlt' : decide ((k : Int) < 1024) = true := by rw [decide_eq_true_eq]; omega
      have hkl : (k : Int) < 1024 := by omega
      have kbr := hF.blk kb3 (by show ¬ (b = s3 ∨ NB ≤ b); omega)
      have HFi := Lib.hid (vfirst_any (k : Int) wr)
      have hfk : fstB (k : Int) = decide (k % 16 = 0) := by
        unfold fstB
        rw [Bool.eq_iff_iff]
        simp
        omega
      rw [hfk] at HFi
      have hstH : Hid (hugL V (k + 1) = if k % 16 = 0 ∧ (V.pg k).huge = true then hugL V k ++ [(k : Int)] else hugL V k) := Lib.hid rfl
      have hstD : Hid (datL V (k + 1) = if nzB (V.pg k) = true then datL V k ++ [k] else datL V k) := Lib.hid rfl
      have hcH := (kbr.cell (1 + k * 66 + 1)).trans (hc'.out.hug hlt)
      have hlH := hugL_len V k
      have hlD := datL_len V k
      clear hfk
      by_cases hm : k % 16 = 0
      · rw [decide_eq_true hm] at HFi
        cases hh : (V.pg k).huge with
        | true =>
          rw [hh] at hcH
          have hst2 : Hid (hugL V (k + 1) = hugL V k ++ [(k : Int)]) := Lib.hid (by rw [hstH.out, if_pos ⟨hm, hh⟩])
          clear hstH hm hh
          obtain ⟨ll, hll⟩ : ∃ ll, (hugL V k).length = ll := ⟨_, rfl⟩
          rw [hll] at ro2 hlH
          obtain ⟨A2, cap2, rfl, _⟩ := own_Rd ro2
          have kN := Blk.new wr 3 #[.int .i64 (k : Int)]
          have hbN : Below wr.heap.size wr (wr.alloc (.cells #[.int .i64 (k : Int)] 3)) := (Below.refl _ _).alloc (Nat.le_refl _) _
          have hsF := hF.size
          have c3 := k3.cell
          unfold stC rfC at c3
          go_wp2_with fail
          refine HFi.out.mono ?_
          rintro e8 w8 ⟨rfl, hw8⟩
          replace hw8 := hw8.symm
          subst hw8
          go_upto_region 10 with (refine wpList_append_own _ rfl (.tmp 43) (.tmp 45) 47 rfl NB 3 i0 (.int .i64 0) 1 8 Tryz.underlying47 hi hz0 hz1 hz2 rfl (by decide) _ ll ((hugL V k).map (Value.int .i64)) rfl (ro2.alloc _) ⟨wr.heap.size, 0, none⟩ 1 1 [.int .i64 (k : Int)] rfl rfl (news_i kN) ints_one (by unfold maxLen; omega) (by omega) (by simp; omega) ?_; intro v' w7 hown' hgrow _; rw [show (hugL V k).map (Value.int .i64) ++ [Value.int .i64 (k : Int)] = (hugL V k ++ [(k : Int)]).map (Value.int .i64) by simp] at hown'; have F7 : Far (fun g => (Value.slice A2 ll cap2).ownBlock = some g) wr w7 := (Far.of_below hbN).grown hgrow (fun g hg _ => hg); have k37 := F7.blk k3 (fun h => own_other ro2 h k3 (by decide)); have f37 := k37.frozen; have c371 : w7.cell? ⟨s3, 1, none⟩ = some (.slice A2 ll cap2) := (k37.cell 1).trans rfl; obtain ⟨A2n, cap2n, rfl, _⟩ := own_Rd hown'; clear c3)
          have F8 : Far (fun k => k = s3) w7 (w7.setCell ⟨s3, 1, none⟩ (.slice A2n (ll + 1) cap2n)) := Far.setCell (T := fun k => k = s3) (p := ⟨s3, 1, none⟩) (Far.refl _ w7) (fun _ => rfl) _
          have k38 : Blk (w7.setCell ⟨s3, 1, none⟩ (.slice A2n (ll + 1) cap2n)) s3 53 (stC (.slice A1 N1 cap1) (.slice A2n (ll + 1) cap2n) v3 (.slice A4 N4 c4) V.rf.calls V.rf.hits).toArray := k37.set_ 1 _
          have ro28 : (w7.setCell ⟨s3, 1, none⟩ (.slice A2n (ll + 1) cap2n)).ownsRow NB 3 1 (.slice A2n (ll + 1) cap2n) (hugL V (k + 1)).length ((hugL V (k + 1)).map (Value.int .i64)) := by
            rw [hst2.out, List.length_append, List.length_singleton, hll]
            exact ownsRow_far hown' F8 (fun g hg h => own_other hown' (hg.trans (congrArg some h)) k37 (by decide))
          have ro38 := ownsRow_far (ownsRow_far ro3 F7 (fun g hg h => by
            rcases ro2.2 with ⟨hx, _⟩ | ⟨g', cap', cur, hx, _, hkx, _⟩
            · rw [hx] at h; cases h
            · rw [hx] at h
              have e' : g' = g := by injection h
              subst e'
              exact own_other ro3 hg (show Blk wr g' 3 cur from hkx) (by decide))) F8 (fun g hg h => by
            have := (ro3.lt g hg).1
            omega)
          have F38 : Far (fun k => k = s3 ∨ NB ≤ k) w3 (w7.setCell ⟨s3, 1, none⟩ (.slice A2n (ll + 1) cap2n)) := (hF.trans' F7 (fun i hi h => .inr (ro2.lt i h).1)).trans' F8 (fun i hi h => .inl h)
          have kb8 := F8.blk (F7.blk kbr (fun h => by have := (ro2.lt b h).1; omega)) (by show ¬ b = s3; omega)
          clear F7 F8 k37 f37 c371 hown' hgrow ro2 ro3 hF k3 kbr kN hbN hcH hlH hsF HFi
          generalize w7.setCell ⟨s3, 1, none⟩ _ = w8 at *
          generalize (.slice A2n (ll + 1) cap2n : Value) = v2n at *
          obtain ⟨X, hX⟩ : ∃ X, arrI .u8 64 (V.pg k).byt = X := ⟨_, rfl⟩
          have hXs : X.size = 64 := by rw [← hX]; simp [arrI]
          have hra : w8.rangeAt b (1 + k * 66 + 2) X.toList := fun j v hj => by
            rw [← hX] at hj
            have hj64 : j < 64 := by have := (List.getElem?_eq_some_iff.1 hj).1; simpa [arrI] using this
            rw [kb8.cell, show 1 + k * 66 + 2 + j = 1 + k * 66 + (j + 2) by omega, hc'.out.byte hlt hj64, ← hj, Array.getElem?_toList, arrI_at hj64]
          have hinf : (Tryz.prog.info? 85).map (·.size) = some X.size := by rw [hXs]; exact infoKinds
          have hinfl : (Tryz.prog.info? 85).map (·.size) = some X.toList.length := by rw [Array.length_toList]; exact hinf
          have hone : X.all (·.oneCell') = true := by
            rw [← hX]; unfold arrI
            exact Go.all_oneCell_toArray (fun x hx => by simp only [List.mem_map] at hx; obtain ⟨i, _, rfl⟩ := hx; rfl)
          have ht : ∀ Z : Array Value, Z.size = 64 → (w8.alloc (.cells Z 85)).there w8.heap.size 0 X.size := fun Z hZ => z_there (Blk.new w8 _ Z) 0 X.size (by omega)
          have hw9 : ∀ (Z : Array Value) w9, (w8.alloc (.cells Z 85)).setCells w8.heap.size 0 X.toList = w9 → Z.size = 64 → Blk w9 w8.heap.size 85 X ∧ Below w8.heap.size w8 w9 := fun Z w9 h hZ => by
            have kP := Blk.puts (g := w8.heap.size) (t := 85) (w := w8) (cs := #[]) X.toList 0 _ _ (Blk.new w8 85 Z)
            rw [putA_all (by rw [Array.length_toList]; omega)] at kP
            have hF := Far.puts (T := fun k => k = w8.heap.size) rfl X.toList 0 w8 _ ((Far.refl _ w8).alloc (.cells Z 85))
            rw [h] at kP hF
            exact ⟨kP, hF.below (Nat.le_refl _) (fun k hk e => by omega)⟩
          have heq : ∀ W, (Op.equalIn 10000 85 (.agg X) (.agg #[.int .u8 0, .int .u8 0, .int .u8 0, .int .u8 0, .int .u8 0, .int .u8 0, .int .u8 0, .int .u8 0, .int .u8 0, .int .u8 0, .int .u8 0, .int .u8 0, .int .u8 0, .int .u8 0, .int .u8 0, .int .u8 0, .int .u8 0, .int .u8 0, .int .u8 0, .int .u8 0, .int .u8 0, .int .u8 0, .int .u8 0, .int .u8 0, .int .u8 0, .int .u8 0, .int .u8 0, .int .u8 0, .int .u8 0, .int .u8 0, .int .u8 0, .int .u8 0, .int .u8 0, .int .u8 0, .int .u8 0, .int .u8 0, .int .u8 0, .int .u8 0, .int .u8 0, .int .u8 0, .int .u8 0, .int .u8 0, .int .u8 0, .int .u8 0, .int .u8 0, .int .u8 0, .int .u8 0, .int .u8 0, .int .u8 0, .int .u8 0, .int .u8 0, .int .u8 0, .int .u8 0, .int .u8 0, .int .u8 0, .int .u8 0, .int .u8 0, .int .u8 0, .int .u8 0, .int .u8 0, .int .u8 0, .int .u8 0, .int .u8 0, .int .u8 0])).run Tryz.prog W = .ok (!nzB (V.pg k)) W := fun W => by
            have h := eq64_any (V.pg k).byt (fun _ => 0) W
            rw [hX, nzB_all] at h
            exact h
          have hX' := Lib.hid hX
          have hXs' := Lib.hid hXs
          clear hX hXs
          go_upto_region 11 with (first
            | (refine wpList_load_mid rfl 85 (.tmp 53) rfl b (1 + k * 66 + 2) rfl X.toList _ hra Tryz.underlying85 rfl hinfl ?_; rw [Array.toArray_toList])
            | (refine wpList_store_mid rfl 85 (.tmp 5) (.tmp 54) rfl w8.heap.size 0 X rfl rfl (ht _ rfl) hinf hone ?_))
          generalize hW9 : World.setCells _ w8.heap.size 0 X.toList = w9
          obtain ⟨k9, hb9⟩ := hw9 _ _ hW9 rfl
          clear hW9 hw9 ht hra
          have hra9 : w9.rangeAt w8.heap.size 0 X.toList := fun j v hj => by rw [Nat.zero_add, k9.cell]; simpa using hj
          cases hnz : nzB (V.pg k) with
          | false =>
            rw [hnz] at heq
            go_wp2_with (refine wpList_load_mid rfl 85 (.tmp 5) rfl w8.heap.size 0 rfl X.toList _ hra9 Tryz.underlying85 rfl hinfl ?_; rw [Array.toArray_toList])
            go_roundw
            case rel =>
              have hstD2 : datL V (k + 1) = datL V k := by rw [hstD.out, if_neg (by rw [hnz]; decide)]
              exact ⟨k + 1, v2n, v3, by omega, by go_num, k38.call hb9, ownsRow_call ro28 hb9, by rw [hstD2]; exact ownsRow_call ro38 hb9, F38.trans (.of_below hb9)⟩
            case measure => simp [intOf]; omega
          | true =>
            rw [hnz] at heq
            go_upto_region 12 with (refine wpList_load_mid rfl 85 (.tmp 5) rfl w8.heap.size 0 rfl X.toList _ hra9 Tryz.underlying85 rfl hinfl ?_; rw [Array.toArray_toList])
            obtain ⟨D, hD⟩ : ∃ D, daA (k : Int) (V.pg k).byt = D := ⟨_, rfl⟩
            have hbt : Tryz.prog.built 124 [(0, .int .i64 (k : Int)), (1, .agg X)] = some D := by rw [← hD, ← hX'.out]; exact built_da _ _
            have hb171 : ∀ W, (Instr.build 124 #[(0, .int .i64 (k : Int)), (1, .agg X)]).run Tryz.prog W = .ok (.agg D) W := fun W => run_build W _ _ _ hbt
            have hbs := fill_da (k : Int) (V.pg k).byt
            rw [hD] at hbs
            have hDs : D.toList.length = 65 := by rw [← hD]; simp [daA]
            have hDo : ∀ u ∈ D.toList, u.oneCell' = true := by
              intro u hu
              rw [← hD, ← daC_eq] at hu
              exact daC_one V [k] u (by simpa [fl] using hu)
            have hDl : fl (daC V) [k] = D.toList := by rw [← hD, ← daC_eq]; simp [fl]
            have hstD2 : Hid (datL V (k + 1) = datL V k ++ [k]) := Lib.hid (by rw [hstD.out, if_pos hnz])
            obtain ⟨dl, hdl⟩ : ∃ dl, (datL V k).length = dl := ⟨_, rfl⟩
            rw [hdl] at ro38 hlD
            have ro39 := ownsRow_call ro38 hb9
            have k39 := k38.call hb9
            obtain ⟨A3n, cap3n, rfl, _⟩ := own_Rd ro39
            have c39 : w9.cell? ⟨s3, 2, none⟩ = some (.slice A3n dl cap3n) := (k39.cell 2).trans rfl
            clear hD hnz heq
            have hfl : Instr.fill (fun i => some (i * iD.size, iD.size)) ((Array.range (1 * iD.size)).map ((Value.agg (daA 0 (fun _ => 0))).cells[· % (Value.agg (daA 0 (fun _ => 0))).cells.size]!)) [(0, .agg D)] = some D := by rw [hzD1]; exact hbs
            have hs1 : ¬ 1 * iD.size > 2 ^ 24 := by rw [hzD1]; decide
            have hs2 : ¬ 1 * iD.size = 0 := by rw [hzD1]; decide
            have kD := Blk.new w9 124 D
            have hbD : Below w9.heap.size w9 (w9.alloc (.cells D 124)) := (Below.refl _ _).alloc (Nat.le_refl _) _
            have nwD : ∀ (j : Nat) (u : Value), D.toList[j]? = some u → (w9.alloc (.cells D 124)).cell? ((⟨w9.heap.size, 0, none⟩ : Addr).add j) = some u := fun j u hu => by
              rw [addr_add0, Nat.zero_add, kD.cell]; simpa using hu
            have hsF9 := (F38.trans (.of_below hb9)).size
            clear hbs hb171
            go_wp2_with (refine wpList_load_mid rfl 85 (.tmp 5) rfl w8.heap.size 0 rfl X.toList _ hra9 Tryz.underlying85 rfl hinfl ?_; rw [Array.toArray_toList]; refine wpList_buildU rfl 62 rfl 124 [(0, .tmp 60), (1, .tmp 61)] rfl _ rfl D hbt ?_; refine wpList_buildSliceU rfl 63 rfl 48 124 1 [(0, .tmp 62)] rfl _ rfl D iD _ Tryz.underlying48 hiD hzD0 hs1 hs2 hfl ?_; refine wpList_append_own _ rfl (.tmp 59) (.tmp 63) 48 rfl NB 124 iD (.agg (daA 0 (fun _ => 0))) 65 72 Tryz.underlying48 hiD hzD0 hzD1 hzD2 rfl (by decide) _ dl (fl (daC V) (datL V k)) rfl (ro39.alloc _) ⟨w9.heap.size, 0, none⟩ 1 1 D.toList rfl hDs nwD hDo (by unfold maxLen; omega) (by omega) (by simp; omega) ?_; intro v' w10 hown' hgrow _; rw [← hDl, ← fl_append] at hown'; have F10 : Far (fun g => (Value.slice A3n dl cap3n).ownBlock = some g) w9 w10 := (Far.of_below hbD).grown hgrow (fun g hg _ => hg); have k310 := F10.blk k39 (fun h => own_other ro39 h k39 (by decide)); have f310 := k310.frozen; have c310 : w10.cell? ⟨s3, 2, none⟩ = some (.slice A3n dl cap3n) := (k310.cell 2).trans rfl; obtain ⟨A3m, cap3m, rfl, _⟩ := own_Rd hown'; clear c39)
            have F11 : Far (fun k => k = s3) w10 (w10.setCell ⟨s3, 2, none⟩ (.slice A3m (dl + 1) cap3m)) := Far.setCell (T := fun k => k = s3) (p := ⟨s3, 2, none⟩) (Far.refl _ w10) (fun _ => rfl) _
            have k311 : Blk (w10.setCell ⟨s3, 2, none⟩ (.slice A3m (dl + 1) cap3m)) s3 53 (stC (.slice A1 N1 cap1) v2n (.slice A3m (dl + 1) cap3m) (.slice A4 N4 c4) V.rf.calls V.rf.hits).toArray := k310.set_ 2 _
            have ro311 : (w10.setCell ⟨s3, 2, none⟩ (.slice A3m (dl + 1) cap3m)).ownsRow NB 124 65 (.slice A3m (dl + 1) cap3m) (datL V (k + 1)).length (fl (daC V) (datL V (k + 1))) := by
              rw [hstD2.out, List.length_append, List.length_singleton, hdl]
              exact ownsRow_far hown' F11 (fun g hg h => own_other hown' (hg.trans (congrArg some h)) k310 (by decide))
            have ro29 := ownsRow_call ro28 hb9
            have ro211 := ownsRow_far (ownsRow_far ro29 F10 (fun g hg h => by
              rcases ro39.2 with ⟨hx, _⟩ | ⟨g', cap', cur, hx, _, hkx, _⟩
              · rw [hx] at h; cases h
              · rw [hx] at h
                have e' : g' = g := by injection h
                subst e'
                exact own_other ro29 hg (show Blk w9 g' 124 cur from hkx) (by decide))) F11 (fun g hg h => by
              have := (ro29.lt g hg).1
              omega)
            have F311 : Far (fun k => k = s3 ∨ NB ≤ k) w3 (w10.setCell ⟨s3, 2, none⟩ (.slice A3m (dl + 1) cap3m)) := ((F38.trans (.of_below hb9)).trans' F10 (fun i hi h => .inr (ro39.lt i h).1)).trans' F11 (fun i hi h => .inl h)
            go_roundw
            case rel => exact ⟨k + 1, v2n, _, by omega, by go_num, k311, ro211, ro311, F311⟩
            case measure => simp [intOf]; omega
        | false =>
          rw [hh] at hcH
          have hst2 : Hid (hugL V (k + 1) = hugL V k) := Lib.hid (by rw [hstH.out, if_neg (by rw [hh]; simp)])
          clear hstH hm hh
          have k38 := k3
          have ro28 : wr.ownsRow NB 3 1 v2 (hugL V (k + 1)).length ((hugL V (k + 1)).map (Value.int .i64)) := by rw [hst2.out]; exact ro2
          have ro38 := ro3
          have F38 := hF
          have kb8 := kbr
          clear k3 ro2 ro3 hF kbr hlH
          go_upto_region 10 with fail
          refine HFi.out.mono ?_
          rintro e8 w8 ⟨rfl, hw8⟩
          replace hw8 := hw8.symm
          subst hw8
          go_upto_region 10 with fail
          clear HFi hcH
          obtain ⟨X, hX⟩ : ∃ X, arrI .u8 64 (V.pg k).byt = X := ⟨_, rfl⟩
          have hXs : X.size = 64 := by rw [← hX]; simp [arrI]
          have hra : wr.rangeAt b (1 + k * 66 + 2) X.toList := fun j v hj => by
            rw [← hX] at hj
            have hj64 : j < 64 := by have := (List.getElem?_eq_some_iff.1 hj).1; simpa [arrI] using this
            rw [kb8.cell, show 1 + k * 66 + 2 + j = 1 + k * 66 + (j + 2) by omega, hc'.out.byte hlt hj64, ← hj, Array.getElem?_toList, arrI_at hj64]
          have hinf : (Tryz.prog.info? 85).map (·.size) = some X.size := by rw [hXs]; exact infoKinds
          have hinfl : (Tryz.prog.info? 85).map (·.size) = some X.toList.length := by rw [Array.length_toList]; exact hinf
          have hone : X.all (·.oneCell') = true := by
            rw [← hX]; unfold arrI
            exact Go.all_oneCell_toArray (fun x hx => by simp only [List.mem_map] at hx; obtain ⟨i, _, rfl⟩ := hx; rfl)
          have ht : ∀ Z : Array Value, Z.size = 64 → (wr.alloc (.cells Z 85)).there wr.heap.size 0 X.size := fun Z hZ => z_there (Blk.new wr _ Z) 0 X.size (by omega)
          have hw9 : ∀ (Z : Array Value) w9, (wr.alloc (.cells Z 85)).setCells wr.heap.size 0 X.toList = w9 → Z.size = 64 → Blk w9 wr.heap.size 85 X ∧ Below wr.heap.size wr w9 := fun Z w9 h hZ => by
            have kP := Blk.puts (g := wr.heap.size) (t := 85) (w := wr) (cs := #[]) X.toList 0 _ _ (Blk.new wr 85 Z)
            rw [putA_all (by rw [Array.length_toList]; omega)] at kP
            have hF := Far.puts (T := fun k => k = wr.heap.size) rfl X.toList 0 wr _ ((Far.refl _ wr).alloc (.cells Z 85))
            rw [h] at kP hF
            exact ⟨kP, hF.below (Nat.le_refl _) (fun k hk e => by omega)⟩
          have heq : ∀ W, (Op.equalIn 10000 85 (.agg X) (.agg #[.int .u8 0, .int .u8 0, .int .u8 0, .int .u8 0, .int .u8 0, .int .u8 0, .int .u8 0, .int .u8 0, .int .u8 0, .int .u8 0, .int .u8 0, .int .u8 0, .int .u8 0, .int .u8 0, .int .u8 0, .int .u8 0, .int .u8 0, .int .u8 0, .int .u8 0, .int .u8 0, .int .u8 0, .int .u8 0, .int .u8 0, .int .u8 0, .int .u8 0, .int .u8 0, .int .u8 0, .int .u8 0, .int .u8 0, .int .u8 0, .int .u8 0, .int .u8 0, .int .u8 0, .int .u8 0, .int .u8 0, .int .u8 0, .int .u8 0, .int .u8 0, .int .u8 0, .int .u8 0, .int .u8 0, .int .u8 0, .int .u8 0, .int .u8 0, .int .u8 0, .int .u8 0, .int .u8 0, .int .u8 0, .int .u8 0, .int .u8 0, .int .u8 0, .int .u8 0, .int .u8 0, .int .u8 0, .int .u8 0, .int .u8 0, .int .u8 0, .int .u8 0, .int .u8 0, .int .u8 0, .int .u8 0, .int .u8 0, .int .u8 0, .int .u8 0])).run Tryz.prog W = .ok (!nzB (V.pg k)) W := fun W => by
            have h := eq64_any (V.pg k).byt (fun _ => 0) W
            rw [hX, nzB_all] at h
            exact h
          have hX' := Lib.hid hX
          have hXs' := Lib.hid hXs
          clear hX hXs
          go_upto_region 11 with (first
            | (refine wpList_load_mid rfl 85 (.tmp 53) rfl b (1 + k * 66 + 2) rfl X.toList _ hra Tryz.underlying85 rfl hinfl ?_; rw [Array.toArray_toList])
            | (refine wpList_store_mid rfl 85 (.tmp 5) (.tmp 54) rfl wr.heap.size 0 X rfl rfl (ht _ rfl) hinf hone ?_))
          generalize hW9 : World.setCells _ wr.heap.size 0 X.toList = w9
          obtain ⟨k9, hb9⟩ := hw9 _ _ hW9 rfl
          clear hW9 hw9 ht hra
          have hra9 : w9.rangeAt wr.heap.size 0 X.toList := fun j v hj => by rw [Nat.zero_add, k9.cell]; simpa using hj
          cases hnz : nzB (V.pg k) with
          | false =>
            rw [hnz] at heq
            go_wp2_with (refine wpList_load_mid rfl 85 (.tmp 5) rfl wr.heap.size 0 rfl X.toList _ hra9 Tryz.underlying85 rfl hinfl ?_; rw [Array.toArray_toList])
            go_roundw
            case rel =>
              have hstD2 : datL V (k + 1) = datL V k := by rw [hstD.out, if_neg (by rw [hnz]; decide)]
              exact ⟨k + 1, v2, v3, by omega, by go_num, k38.call hb9, ownsRow_call ro28 hb9, by rw [hstD2]; exact ownsRow_call ro38 hb9, F38.trans (.of_below hb9)⟩
            case measure => simp [intOf]; omega
          | true =>
            rw [hnz] at heq
            go_upto_region 12 with (refine wpList_load_mid rfl 85 (.tmp 5) rfl wr.heap.size 0 rfl X.toList _ hra9 Tryz.underlying85 rfl hinfl ?_; rw [Array.toArray_toList])
            obtain ⟨D, hD⟩ : ∃ D, daA (k : Int) (V.pg k).byt = D := ⟨_, rfl⟩
            have hbt : Tryz.prog.built 124 [(0, .int .i64 (k : Int)), (1, .agg X)] = some D := by rw [← hD, ← hX'.out]; exact built_da _ _
            have hb171 : ∀ W, (Instr.build 124 #[(0, .int .i64 (k : Int)), (1, .agg X)]).run Tryz.prog W = .ok (.agg D) W := fun W => run_build W _ _ _ hbt
            have hbs := fill_da (k : Int) (V.pg k).byt
            rw [hD] at hbs
            have hDs : D.toList.length = 65 := by rw [← hD]; simp [daA]
            have hDo : ∀ u ∈ D.toList, u.oneCell' = true := by
              intro u hu
              rw [← hD, ← daC_eq] at hu
              exact daC_one V [k] u (by simpa [fl] using hu)
            have hDl : fl (daC V) [k] = D.toList := by rw [← hD, ← daC_eq]; simp [fl]
            have hstD2 : Hid (datL V (k + 1) = datL V k ++ [k]) := Lib.hid (by rw [hstD.out, if_pos hnz])
            obtain ⟨dl, hdl⟩ : ∃ dl, (datL V k).length = dl := ⟨_, rfl⟩
            rw [hdl] at ro38 hlD
            have ro39 := ownsRow_call ro38 hb9
            have k39 := k38.call hb9
            obtain ⟨A3n, cap3n, rfl, _⟩ := own_Rd ro39
            have c39 : w9.cell? ⟨s3, 2, none⟩ = some (.slice A3n dl cap3n) := (k39.cell 2).trans rfl
            clear hD hnz heq
            have hfl : Instr.fill (fun i => some (i * iD.size, iD.size)) ((Array.range (1 * iD.size)).map ((Value.agg (daA 0 (fun _ => 0))).cells[· % (Value.agg (daA 0 (fun _ => 0))).cells.size]!)) [(0, .agg D)] = some D := by rw [hzD1]; exact hbs
            have hs1 : ¬ 1 * iD.size > 2 ^ 24 := by rw [hzD1]; decide
            have hs2 : ¬ 1 * iD.size = 0 := by rw [hzD1]; decide
            have kD := Blk.new w9 124 D
            have hbD : Below w9.heap.size w9 (w9.alloc (.cells D 124)) := (Below.refl _ _).alloc (Nat.le_refl _) _
            have nwD : ∀ (j : Nat) (u : Value), D.toList[j]? = some u → (w9.alloc (.cells D 124)).cell? ((⟨w9.heap.size, 0, none⟩ : Addr).add j) = some u := fun j u hu => by
              rw [addr_add0, Nat.zero_add, kD.cell]; simpa using hu
            have hsF9 := (F38.trans (.of_below hb9)).size
            clear hbs hb171
            go_wp2_with (refine wpList_load_mid rfl 85 (.tmp 5) rfl wr.heap.size 0 rfl X.toList _ hra9 Tryz.underlying85 rfl hinfl ?_; rw [Array.toArray_toList]; refine wpList_buildU rfl 62 rfl 124 [(0, .tmp 60), (1, .tmp 61)] rfl _ rfl D hbt ?_; refine wpList_buildSliceU rfl 63 rfl 48 124 1 [(0, .tmp 62)] rfl _ rfl D iD _ Tryz.underlying48 hiD hzD0 hs1 hs2 hfl ?_; refine wpList_append_own _ rfl (.tmp 59) (.tmp 63) 48 rfl NB 124 iD (.agg (daA 0 (fun _ => 0))) 65 72 Tryz.underlying48 hiD hzD0 hzD1 hzD2 rfl (by decide) _ dl (fl (daC V) (datL V k)) rfl (ro39.alloc _) ⟨w9.heap.size, 0, none⟩ 1 1 D.toList rfl hDs nwD hDo (by unfold maxLen; omega) (by omega) (by simp; omega) ?_; intro v' w10 hown' hgrow _; rw [← hDl, ← fl_append] at hown'; have F10 : Far (fun g => (Value.slice A3n dl cap3n).ownBlock = some g) w9 w10 := (Far.of_below hbD).grown hgrow (fun g hg _ => hg); have k310 := F10.blk k39 (fun h => own_other ro39 h k39 (by decide)); have f310 := k310.frozen; have c310 : w10.cell? ⟨s3, 2, none⟩ = some (.slice A3n dl cap3n) := (k310.cell 2).trans rfl; obtain ⟨A3m, cap3m, rfl, _⟩ := own_Rd hown'; clear c39)
            have F11 : Far (fun k => k = s3) w10 (w10.setCell ⟨s3, 2, none⟩ (.slice A3m (dl + 1) cap3m)) := Far.setCell (T := fun k => k = s3) (p := ⟨s3, 2, none⟩) (Far.refl _ w10) (fun _ => rfl) _
            have k311 : Blk (w10.setCell ⟨s3, 2, none⟩ (.slice A3m (dl + 1) cap3m)) s3 53 (stC (.slice A1 N1 cap1) v2 (.slice A3m (dl + 1) cap3m) (.slice A4 N4 c4) V.rf.calls V.rf.hits).toArray := k310.set_ 2 _
            have ro311 : (w10.setCell ⟨s3, 2, none⟩ (.slice A3m (dl + 1) cap3m)).ownsRow NB 124 65 (.slice A3m (dl + 1) cap3m) (datL V (k + 1)).length (fl (daC V) (datL V (k + 1))) := by
              rw [hstD2.out, List.length_append, List.length_singleton, hdl]
              exact ownsRow_far hown' F11 (fun g hg h => own_other hown' (hg.trans (congrArg some h)) k310 (by decide))
            have ro29 := ownsRow_call ro28 hb9
            have ro211 := ownsRow_far (ownsRow_far ro29 F10 (fun g hg h => by
              rcases ro39.2 with ⟨hx, _⟩ | ⟨g', cap', cur, hx, _, hkx, _⟩
              · rw [hx] at h; cases h
              · rw [hx] at h
                have e' : g' = g := by injection h
                subst e'
                exact own_other ro29 hg (show Blk w9 g' 124 cur from hkx) (by decide))) F11 (fun g hg h => by
              have := (ro29.lt g hg).1
              omega)
            have F311 : Far (fun k => k = s3 ∨ NB ≤ k) w3 (w10.setCell ⟨s3, 2, none⟩ (.slice A3m (dl + 1) cap3m)) := ((F38.trans (.of_below hb9)).trans' F10 (fun i hi h => .inr (ro39.lt i h).1)).trans' F11 (fun i hi h => .inl h)
            go_roundw
            case rel => exact ⟨k + 1, v2, _, by omega, by go_num, k311, ro211, ro311, F311⟩
            case measure => simp [intOf]; omega
      · rw [decide_eq_false hm] at HFi
        have hst2 : Hid (hugL V (k + 1) = hugL V k) := Lib.hid (by rw [hstH.out, if_neg (fun h => hm h.1)])
        clear hstH hm
        have k38 := k3
        have ro28 : wr.ownsRow NB 3 1 v2 (hugL V (k + 1)).length ((hugL V (k + 1)).map (Value.int .i64)) := by rw [hst2.out]; exact ro2
        have ro38 := ro3
        have F38 := hF
        have kb8 := kbr
        clear k3 ro2 ro3 hF kbr hlH hcH
        go_upto_region 10 with fail
        refine HFi.out.mono ?_
        rintro e8 w8 ⟨rfl, hw8⟩
        replace hw8 := hw8.symm
        subst hw8
        go_upto_region 10 with fail
        clear HFi
        obtain ⟨X, hX⟩ : ∃ X, arrI .u8 64 (V.pg k).byt = X := ⟨_, rfl⟩
        have hXs : X.size = 64 := by rw [← hX]; simp [arrI]
        have hra : wr.rangeAt b (1 + k * 66 + 2) X.toList := fun j v hj => by
          rw [← hX] at hj
          have hj64 : j < 64 := by have := (List.getElem?_eq_some_iff.1 hj).1; simpa [arrI] using this
          rw [kb8.cell, show 1 + k * 66 + 2 + j = 1 + k * 66 + (j + 2) by omega, hc'.out.byte hlt hj64, ← hj, Array.getElem?_toList, arrI_at hj64]
        have hinf : (Tryz.prog.info? 85).map (·.size) = some X.size := by rw [hXs]; exact infoKinds
        have hinfl : (Tryz.prog.info? 85).map (·.size) = some X.toList.length := by rw [Array.length_toList]; exact hinf
        have hone : X.all (·.oneCell') = true := by
          rw [← hX]; unfold arrI
          exact Go.all_oneCell_toArray (fun x hx => by simp only [List.mem_map] at hx; obtain ⟨i, _, rfl⟩ := hx; rfl)
        have ht : ∀ Z : Array Value, Z.size = 64 → (wr.alloc (.cells Z 85)).there wr.heap.size 0 X.size := fun Z hZ => z_there (Blk.new wr _ Z) 0 X.size (by omega)
        have hw9 : ∀ (Z : Array Value) w9, (wr.alloc (.cells Z 85)).setCells wr.heap.size 0 X.toList = w9 → Z.size = 64 → Blk w9 wr.heap.size 85 X ∧ Below wr.heap.size wr w9 := fun Z w9 h hZ => by
          have kP := Blk.puts (g := wr.heap.size) (t := 85) (w := wr) (cs := #[]) X.toList 0 _ _ (Blk.new wr 85 Z)
          rw [putA_all (by rw [Array.length_toList]; omega)] at kP
          have hF := Far.puts (T := fun k => k = wr.heap.size) rfl X.toList 0 wr _ ((Far.refl _ wr).alloc (.cells Z 85))
          rw [h] at kP hF
          exact ⟨kP, hF.below (Nat.le_refl _) (fun k hk e => by omega)⟩
        have heq : ∀ W, (Op.equalIn 10000 85 (.agg X) (.agg #[.int .u8 0, .int .u8 0, .int .u8 0, .int .u8 0, .int .u8 0, .int .u8 0, .int .u8 0, .int .u8 0, .int .u8 0, .int .u8 0, .int .u8 0, .int .u8 0, .int .u8 0, .int .u8 0, .int .u8 0, .int .u8 0, .int .u8 0, .int .u8 0, .int .u8 0, .int .u8 0, .int .u8 0, .int .u8 0, .int .u8 0, .int .u8 0, .int .u8 0, .int .u8 0, .int .u8 0, .int .u8 0, .int .u8 0, .int .u8 0, .int .u8 0, .int .u8 0, .int .u8 0, .int .u8 0, .int .u8 0, .int .u8 0, .int .u8 0, .int .u8 0, .int .u8 0, .int .u8 0, .int .u8 0, .int .u8 0, .int .u8 0, .int .u8 0, .int .u8 0, .int .u8 0, .int .u8 0, .int .u8 0, .int .u8 0, .int .u8 0, .int .u8 0, .int .u8 0, .int .u8 0, .int .u8 0, .int .u8 0, .int .u8 0, .int .u8 0, .int .u8 0, .int .u8 0, .int .u8 0, .int .u8 0, .int .u8 0, .int .u8 0, .int .u8 0])).run Tryz.prog W = .ok (!nzB (V.pg k)) W := fun W => by
          have h := eq64_any (V.pg k).byt (fun _ => 0) W
          rw [hX, nzB_all] at h
          exact h
        have hX' := Lib.hid hX
        have hXs' := Lib.hid hXs
        clear hX hXs
        go_upto_region 11 with (first
          | (refine wpList_load_mid rfl 85 (.tmp 53) rfl b (1 + k * 66 + 2) rfl X.toList _ hra Tryz.underlying85 rfl hinfl ?_; rw [Array.toArray_toList])
          | (refine wpList_store_mid rfl 85 (.tmp 5) (.tmp 54) rfl wr.heap.size 0 X rfl rfl (ht _ rfl) hinf hone ?_))
        generalize hW9 : World.setCells _ wr.heap.size 0 X.toList = w9
        obtain ⟨k9, hb9⟩ := hw9 _ _ hW9 rfl
        clear hW9 hw9 ht hra
        have hra9 : w9.rangeAt wr.heap.size 0 X.toList := fun j v hj => by rw [Nat.zero_add, k9.cell]; simpa using hj
        cases hnz : nzB (V.pg k) with
        | false =>
          rw [hnz] at heq
          go_wp2_with (refine wpList_load_mid rfl 85 (.tmp 5) rfl wr.heap.size 0 rfl X.toList _ hra9 Tryz.underlying85 rfl hinfl ?_; rw [Array.toArray_toList])
          go_roundw
          case rel =>
            have hstD2 : datL V (k + 1) = datL V k := by rw [hstD.out, if_neg (by rw [hnz]; decide)]
            exact ⟨k + 1, v2, v3, by omega, by go_num, k38.call hb9, ownsRow_call ro28 hb9, by rw [hstD2]; exact ownsRow_call ro38 hb9, F38.trans (.of_below hb9)⟩
          case measure => simp [intOf]; omega
        | true =>
          rw [hnz] at heq
          go_upto_region 12 with (refine wpList_load_mid rfl 85 (.tmp 5) rfl wr.heap.size 0 rfl X.toList _ hra9 Tryz.underlying85 rfl hinfl ?_; rw [Array.toArray_toList])
          obtain ⟨D, hD⟩ : ∃ D, daA (k : Int) (V.pg k).byt = D := ⟨_, rfl⟩
          have hbt : Tryz.prog.built 124 [(0, .int .i64 (k : Int)), (1, .agg X)] = some D := by rw [← hD, ← hX'.out]; exact built_da _ _
          have hb171 : ∀ W, (Instr.build 124 #[(0, .int .i64 (k : Int)), (1, .agg X)]).run Tryz.prog W = .ok (.agg D) W := fun W => run_build W _ _ _ hbt
          have hbs := fill_da (k : Int) (V.pg k).byt
          rw [hD] at hbs
          have hDs : D.toList.length = 65 := by rw [← hD]; simp [daA]
          have hDo : ∀ u ∈ D.toList, u.oneCell' = true := by
            intro u hu
            rw [← hD, ← daC_eq] at hu
            exact daC_one V [k] u (by simpa [fl] using hu)
          have hDl : fl (daC V) [k] = D.toList := by rw [← hD, ← daC_eq]; simp [fl]
          have hstD2 : Hid (datL V (k + 1) = datL V k ++ [k]) := Lib.hid (by rw [hstD.out, if_pos hnz])
          obtain ⟨dl, hdl⟩ : ∃ dl, (datL V k).length = dl := ⟨_, rfl⟩
          rw [hdl] at ro38 hlD
          have ro39 := ownsRow_call ro38 hb9
          have k39 := k38.call hb9
          obtain ⟨A3n, cap3n, rfl, _⟩ := own_Rd ro39
          have c39 : w9.cell? ⟨s3, 2, none⟩ = some (.slice A3n dl cap3n) := (k39.cell 2).trans rfl
          clear hD hnz heq
          have hfl : Instr.fill (fun i => some (i * iD.size, iD.size)) ((Array.range (1 * iD.size)).map ((Value.agg (daA 0 (fun _ => 0))).cells[· % (Value.agg (daA 0 (fun _ => 0))).cells.size]!)) [(0, .agg D)] = some D := by rw [hzD1]; exact hbs
          have hs1 : ¬ 1 * iD.size > 2 ^ 24 := by rw [hzD1]; decide
          have hs2 : ¬ 1 * iD.size = 0 := by rw [hzD1]; decide
          have kD := Blk.new w9 124 D
          have hbD : Below w9.heap.size w9 (w9.alloc (.cells D 124)) := (Below.refl _ _).alloc (Nat.le_refl _) _
          have nwD : ∀ (j : Nat) (u : Value), D.toList[j]? = some u → (w9.alloc (.cells D 124)).cell? ((⟨w9.heap.size, 0, none⟩ : Addr).add j) = some u := fun j u hu => by
            rw [addr_add0, Nat.zero_add, kD.cell]; simpa using hu
          have hsF9 := (F38.trans (.of_below hb9)).size
          clear hbs hb171
          go_wp2_with (refine wpList_load_mid rfl 85 (.tmp 5) rfl wr.heap.size 0 rfl X.toList _ hra9 Tryz.underlying85 rfl hinfl ?_; rw [Array.toArray_toList]; refine wpList_buildU rfl 62 rfl 124 [(0, .tmp 60), (1, .tmp 61)] rfl _ rfl D hbt ?_; refine wpList_buildSliceU rfl 63 rfl 48 124 1 [(0, .tmp 62)] rfl _ rfl D iD _ Tryz.underlying48 hiD hzD0 hs1 hs2 hfl ?_; refine wpList_append_own _ rfl (.tmp 59) (.tmp 63) 48 rfl NB 124 iD (.agg (daA 0 (fun _ => 0))) 65 72 Tryz.underlying48 hiD hzD0 hzD1 hzD2 rfl (by decide) _ dl (fl (daC V) (datL V k)) rfl (ro39.alloc _) ⟨w9.heap.size, 0, none⟩ 1 1 D.toList rfl hDs nwD hDo (by unfold maxLen; omega) (by omega) (by simp; omega) ?_; intro v' w10 hown' hgrow _; rw [← hDl, ← fl_append] at hown'; have F10 : Far (fun g => (Value.slice A3n dl cap3n).ownBlock = some g) w9 w10 := (Far.of_below hbD).grown hgrow (fun g hg _ => hg); have k310 := F10.blk k39 (fun h => own_other ro39 h k39 (by decide)); have f310 := k310.frozen; have c310 : w10.cell? ⟨s3, 2, none⟩ = some (.slice A3n dl cap3n) := (k310.cell 2).trans rfl; obtain ⟨A3m, cap3m, rfl, _⟩ := own_Rd hown'; clear c39)
          have F11 : Far (fun k => k = s3) w10 (w10.setCell ⟨s3, 2, none⟩ (.slice A3m (dl + 1) cap3m)) := Far.setCell (T := fun k => k = s3) (p := ⟨s3, 2, none⟩) (Far.refl _ w10) (fun _ => rfl) _
          have k311 : Blk (w10.setCell ⟨s3, 2, none⟩ (.slice A3m (dl + 1) cap3m)) s3 53 (stC (.slice A1 N1 cap1) v2 (.slice A3m (dl + 1) cap3m) (.slice A4 N4 c4) V.rf.calls V.rf.hits).toArray := k310.set_ 2 _
          have ro311 : (w10.setCell ⟨s3, 2, none⟩ (.slice A3m (dl + 1) cap3m)).ownsRow NB 124 65 (.slice A3m (dl + 1) cap3m) (datL V (k + 1)).length (fl (daC V) (datL V (k + 1))) := by
            rw [hstD2.out, List.length_append, List.length_singleton, hdl]
            exact ownsRow_far hown' F11 (fun g hg h => own_other hown' (hg.trans (congrArg some h)) k310 (by decide))
          have ro29 := ownsRow_call ro28 hb9
          have ro211 := ownsRow_far (ownsRow_far ro29 F10 (fun g hg h => by
            rcases ro39.2 with ⟨hx, _⟩ | ⟨g', cap', cur, hx, _, hkx, _⟩
            · rw [hx] at h; cases h
            · rw [hx] at h
              have e' : g' = g := by injection h
              subst e'
              exact own_other ro29 hg (show Blk w9 g' 124 cur from hkx) (by decide))) F11 (fun g hg h => by
            have := (ro29.lt g hg).1
            omega)
          have F311 : Far (fun k => k = s3 ∨ NB ≤ k) w3 (w10.setCell ⟨s3, 2, none⟩ (.slice A3m (dl + 1) cap3m)) := ((F38.trans (.of_below hb9)).trans' F10 (fun i hi h => .inr (ro39.lt i h).1)).trans' F11 (fun i hi h => .inl h)
          go_roundw
          case rel => exact ⟨k + 1, v2, _, by omega, by go_num, k311, ro211, ro311, F311⟩
          case measure => simp [intOf]; omega
    · obtain rfl : k = 1024 := by omega
      have hlt' : decide (((1024 : Nat) : Int) < 1024) = false := by decide
      obtain ⟨A2, cap2, rfl, r2, _, _, g2, _⟩ := own_Rd ro2
      obtain ⟨A3, cap3, rfl, r3, _, _, g3, _⟩ := own_Rd ro3
      have k2r := hF.blk k23 (by show ¬ (s = s3 ∨ NB ≤ s); omega)
      obtain ⟨C18, hC18⟩ : ∃ C18, stC (.slice A1 N1 cap1) (.slice A2 (hugL V 1024).length cap2) (.slice A3 (datL V 1024).length cap3) (.slice A4 N4 c4) V.rf.calls V.rf.hits = C18 := ⟨_, rfl⟩
      have hC18s : C18.length = 18 := by rw [← hC18]; rfl
      have hC18o : C18.toArray.all (·.oneCell') = true := by rw [← hC18]; exact Go.all_oneCell_toArray (stC_one rfl rfl rfl rfl _ _)
      rw [hC18] at k3
      have hra : wr.rangeAt s3 0 C18 := fun j v hj => by rw [Nat.zero_add, k3.cell]; simpa using hj
      have hinf : (Tryz.prog.info? 53).map (·.size) = some C18.length := by rw [hC18s]; exact infoSt
      have hinfa : (Tryz.prog.info? 53).map (·.size) = some C18.toArray.size := by rw [List.size_toArray]; exact hinf
      have ht : wr.there s 0 C18.toArray.size := z_there k2r 0 _ (by rw [List.size_toArray, hC18s]; exact Nat.le_refl _)
      have kP := Blk.puts (g := s) (t := 53) (w := wr) (cs := #[]) C18 0 wr _ k2r
      rw [putA_all (by rw [hC18s]; rfl)] at kP
      have F9 := Far.puts (T := fun k => k = s) rfl C18 0 wr wr (Far.refl _ _)
      have hC' := Lib.hid hC18
      have hs' := Lib.hid hs
      clear hC18 hC18s hs
      go_wp2_with (first
        | (refine wpList_load_mid rfl 53 (.tmp 3) rfl s3 0 rfl C18 _ hra Tryz.underlying53 rfl hinf ?_)
        | (refine wpList_store_mid rfl 53 (.tmp 2) (.tmp 67) rfl s 0 C18.toArray rfl rfl ht hinfa hC18o ?_))
      generalize World.setCells wr s 0 C18 = w9 at *
      have hl9 := run_loadVar_mid (P := Tryz.prog) w9 s 0 53 C18 _ (fun j v hj => by rw [Nat.zero_add, kP.cell]; simpa using hj) Tryz.underlying53 rfl hinf
      refine bodyPost_ret (v := .agg C18.toArray) ?_ rfl ?_
      · exact z_results_cell1 Tryz.results16 rfl hl9
      have q1r := q13'.out.farN hF (fun k hk ⟨o, e⟩ => by
        have := q4 k o e
        show ¬ (k = s3 ∨ NB ≤ k)
        omega)
      have r1r := r13'.out.farN hF (fun k hk ⟨o, e⟩ h => by
        rcases h with h | h
        · exact hA13 o (h ▸ e)
        · omega)
      have hsz9 := F9.size
      have hszr := hF.size
      refine ⟨_, rfl, ⟨A1, A2, A3, A4, N1, cap1, _, cap2, _, cap3, N4, c4, by rw [hC'.out], hN1'.out, ?_, rfl, ?_, rfl, ?_, hN4'.out, ?_⟩, ?_⟩
      · exact (r1r.farN F9 (fun k hk ⟨o, e⟩ h => by have := hAs.out k o e; omega)).more (by omega)
      · exact RI.more (r2.farN F9 (fun k hk ⟨o, e⟩ h => by have := g2 k o e; omega)) hsz9
      · exact (r3.farN F9 (fun k hk ⟨o, e⟩ h => by have := g3 k o e; omega)).more hsz9
      · exact (q1r.farN F9 (fun k hk ⟨o, e⟩ h => by have := q4 k o e; omega)).more (by omega)
      · rw [hs'.out]
        exact B3.trans ((hF.below (by omega) (fun k hk h => by omega)).trans (F9.below (by omega) (fun k hk h => by omega)))
end Go.Proofs.YtpabnbhbcphfiaaGreat
namespace Go.Pol
open Go Go.RowKit
/-- is a number in a range? -/
def inB (n a b : Int) : Bool := decide (a ≤ n) && decide (n ≤ b)
theorem inB_true {n a b : Int} : inB n a b = true ↔ a ≤ n ∧ n ≤ b := by simp [inB]
theorem inB_false {n a b : Int} : inB n a b = false ↔ ¬ (a ≤ n ∧ n ≤ b) := by rw [← inB_true]; simp
theorem rfd_step (l : List Ru) (k n : Int) (i : Nat) (h : i < l.length) : (l.drop i).any (fun x => x.1 == k && rfu x n) = ((l.getD i ru0).1 == k && rfu (l.getD i ru0) n || (l.drop (i + 1)).any (fun x => x.1 == k && rfu x n)) := by
  rw [Go.Pol.drop_cons ru0 l i h, List.any_cons]
end Go.Pol
namespace Go.Proofs.YtpabnbhbcphfiaaGreat
open Go Go.Proofs Go.RowKit Go.Pol Go.Shelf
attribute [local go_sem] Oper.semAt_some Go.Pol.wide_fn Go.Pol.wide_depth Go.Pol.wide_fn' Go.Pol.wide_depth'

theorem in_any (n a b : Int) (w : World) : Calls Tryz.prog 234 #[.int .i64 n, .int .i64 a, .int .i64 b] w fun e w' => e = .returned (.bool (inB n a b)) ∧ w = w' := by
  by_cases h1 : a ≤ n
  · have d1 : decide (a ≤ n) = true := by simpa using h1
    have hE : inB n a b = decide (n ≤ b) := by simp [inB, h1]
    rw [hE]
    clear hE h1
    go_enter Tryz.func234, Tryz.ntmps234
    go_wp2_with fail
    go_ret
    exact ⟨rfl, rfl⟩
  · have d1 : decide (a ≤ n) = false := by simpa using h1
    have hE : inB n a b = false := by simp [inB, h1]
    rw [hE]
    clear hE h1
    go_enter Tryz.func234, Tryz.ntmps234
    go_wp2_with fail
    go_ret
    exact ⟨rfl, rfl⟩
theorem rrule_any (x : Ru) (w : World) : Calls Tryz.prog 221 #[ruV x] w fun e w' => e = .returned (.int .i64 (ruleE x)) ∧ Below w.heap.size w w' := by
  obtain ⟨k, f, e, t⟩ := x
  have hb0 := (Below.refl w.heap.size w).alloc (Nat.le_refl _) (.cells #[.int .i64 k, .int .i64 f, .int .i64 e, .int .i64 t] 136)
  have k0 := Blk.new w 136 #[.int .i64 k, .int .i64 f, .int .i64 e, .int .i64 t]
  have c0 := k0.cell
  clear k0
  obtain ⟨R, hR⟩ : ∃ R, ruleE (k, f, e, t) = R := ⟨_, rfl⟩
  rw [hR]
  unfold ruleE at hR
  simp only at hR
  have H1 := Lib.hid (fun W => in_any k 0 6 W)
  have H2 := Lib.hid (fun W => in_any f 1 10000 W)
  have H3 := Lib.hid (fun W => in_any e 0 12 W)
  have H4 := Lib.hid (fun W => in_any t 0 1000 W)
  have hE : Hid ((inB k 0 6 = false → R = 2) ∧ (inB k 0 6 = true → (inB f 1 10000 && inB e 0 12 && inB t 0 1000) = false → R = 7) ∧
      (inB k 0 6 = true → inB f 1 10000 = true → inB e 0 12 = true → inB t 0 1000 = true → R = if e = 0 ∧ t ≠ 1 then 6 else 0)) := Lib.hid (by
    simp only [Bool.and_eq_false_iff, inB_false, inB_true]
    refine ⟨fun h => ?_, fun h h2 => ?_, fun h h2 h3 h4 => ?_⟩
    · rw [← hR, if_pos (by omega)]
    · rw [← hR, if_neg (by omega), if_pos (by omega)]
    · rw [← hR, if_neg (by omega), if_neg (by omega)])
  generalize inB k 0 6 = b1 at *
  generalize inB f 1 10000 = b2 at *
  generalize inB e 0 12 = b3 at *
  generalize inB t 0 1000 = b4 at *
  clear hR
  go_enter Tryz.func221, Tryz.ntmps221
  go_wp2_with fail
  refine (H1.out _).mono ?_
  rintro e9 w9 ⟨rfl, rfl⟩
  cases b1 with
  | false =>
    have hr := hE.out.1 rfl
    subst hr
    go_wp2_with fail
    go_ret
    exact ⟨rfl, hb0⟩
  | true =>
    have hE2 := Lib.hid (hE.out.2.1 rfl)
    have hE3 := Lib.hid (hE.out.2.2 rfl)
    clear hE H1
    go_wp2_with fail
    refine (H2.out _).mono ?_
    rintro e9 w9 ⟨rfl, rfl⟩
    cases b2 with
    | false =>
      have hr := hE2.out rfl
      subst hr
      go_wp2_with fail
      go_ret
      exact ⟨rfl, hb0⟩
    | true =>
      have hE4 := Lib.hid (hE3.out rfl)
      clear hE3 H2
      go_wp2_with fail
      refine (H3.out _).mono ?_
      rintro e9 w9 ⟨rfl, rfl⟩
      cases b3 with
      | false =>
        have hr := hE2.out rfl
        subst hr
        go_wp2_with fail
        go_ret
        exact ⟨rfl, hb0⟩
      | true =>
        have hE5 := Lib.hid (hE4.out rfl)
        clear hE4 H3
        go_wp2_with fail
        refine (H4.out _).mono ?_
        rintro e9 w9 ⟨rfl, rfl⟩
        cases b4 with
        | false =>
          have hr := hE2.out rfl
          subst hr
          go_wp2_with fail
          go_ret
          exact ⟨rfl, hb0⟩
        | true =>
          have hr := hE5.out rfl
          clear hE5 hE2 H4
          by_cases c9 : e = 0
          · subst c9
            by_cases c10 : t = 1
            · have d10 : (t != 1) = false := by simpa using c10
              rw [if_neg (by omega)] at hr
              subst hr
              clear c10
              go_wp2_with fail
              go_ret
              exact ⟨rfl, hb0⟩
            · have d10 : (t != 1) = true := by simpa using c10
              rw [if_pos ⟨rfl, c10⟩] at hr
              subst hr
              clear c10
              go_wp2_with fail
              go_ret
              exact ⟨rfl, hb0⟩
          · have d9 : (e == 0) = false := by simpa using c9
            rw [if_neg (by omega)] at hr
            subst hr
            clear c9
            go_wp2_with fail
            go_ret
            exact ⟨rfl, hb0⟩
set_option maxRecDepth 100000 in
theorem rplanCheck_any (A : Option Addr) (n cap : Nat) (l : List Ru) (w : World) (hn : l.length = n) (hr : Rd w w.heap.size A (fl ruC l)) :
    Calls Tryz.prog 183 #[.agg #[.slice A n cap]] w fun e w' => e = .returned (.tuple #[.int .i64 (chkR l).1, .int .i64 (chkR l).2]) ∧ Below w.heap.size w w' := by
  have hb0 := (Below.refl w.heap.size w).alloc (Nat.le_refl _) (.cells #[.slice A n cap] 25)
  have k0 := Blk.new w 25 #[.slice A n cap]
  have c0 := k0.cell
  have r0 := hr.on_ hb0
  obtain ⟨R, hR⟩ : ∃ R, chkR l = R := ⟨_, rfl⟩
  rw [hR]
  obtain ⟨ri, re⟩ := R
  unfold chkR at hR
  have hn' := Lib.hid hn
  by_cases h50 : 50 < n
  · have d1 : decide (50 < (n : Int)) = true := by rw [decide_eq_true_eq]; omega
    have hE : Hid ((ri, re) = (0, 3)) := Lib.hid (by rw [← hR, if_pos (by omega)])
    clear hR hr r0 k0 hn h50
    go_enter Tryz.func183, Tryz.ntmps183
    go_wp2_with fail
    go_ret2
    have h := hE.out
    simp only [Prod.mk.injEq] at h
    exact ⟨by rw [h.1, h.2]; rfl, hb0⟩
  · have d1 : decide (50 < (n : Int)) = false := by rw [decide_eq_false_iff_not]; omega
    rw [if_neg (by omega)] at hR
    have hR' := Lib.hid hR
    clear hR hr hn
    obtain ⟨s, hs⟩ : ∃ s, w.heap.size = s := ⟨_, rfl⟩
    have HR := Lib.hid (fun x W => rrule_any x W)
    have hs' := Lib.hid hs
    go_enter Tryz.func183, Tryz.ntmps183
    go_upto_region 3 with fail
    generalize w.alloc (.cells #[.slice A n cap] 25) = w0 at *
    rw [hs] at hb0 k0 c0
    try simp only [hs]
    clear hs
    have k0' := Lib.hid k0
    clear k0
    go_wp2_with fail
    go_loopw [4] (fun u wr => ∃ i : Nat, i ≤ n ∧ u = .int .i64 i ∧ Hid (badF i (l.drop i) = (ri, re)) ∧ Below w0.heap.size w0 wr) (fun u _ => n - (intOf u).toNat)
    case atStart => exact ⟨0, by omega, rfl, Lib.hid hR'.out, Below.refl _ _⟩
    case round =>
      clear hR' c0
      obtain ⟨i, hi, rfl, hR, hB⟩ := hrel
      have kr := k0'.out.call hB
      have cr := kr.cell
      by_cases hlt : i < n
      · have hlt' : decide ((i : Int) < (n : Int)) = true := by simpa using hlt
        have hst := badF_step l i (by have := hn'.out; omega)
        rw [hR.out] at hst
        obtain ⟨b, o, rfl, hb, hc⟩ := (r0.on_ hB).elem ruC_len (by omega) ru0 (k := i) (by have := hn'.out; omega)
        generalize l.getD i ru0 = x at *
        have hcl := HR.out x
        obtain ⟨k, f, e, t⟩ := x
        have x0 := hc 0 _ rfl
        have x1 := hc 1 _ rfl
        have x2 := hc 2 _ rfl
        have x3 := hc 3 _ rfl
        simp only [Nat.add_zero] at x0
        generalize ruleE (k, f, e, t) = er at *
        have hst' := Lib.hid hst
        have hcl' := Lib.hid hcl
        have hin : (i : Int) < (n : Int) := by omega
        clear hc hst hcl
        by_cases he : er = 0
        · subst he
          have hst2 : Hid (badF (i + 1) (l.drop (i + 1)) = (ri, re)) := Lib.hid (by rw [hst'.out, if_neg (by simp)])
          clear hst'
          go_wp2_with fail
          refine (hcl'.out _).mono ?_
          rintro e9 w1 ⟨rfl, hb1⟩
          go_wp2_with fail
          go_roundw
          case rel => exact ⟨i + 1, by omega, by go_num, hst2, hB.trans (hb1.mono hB.size)⟩
          case measure => simp [intOf]; omega
        · have he' : (er != 0) = true := by simpa using he
          have hst2 : Hid ((ri, re) = ((i : Int), er)) := Lib.hid (by rw [hst'.out, if_pos he])
          clear hst' he
          go_wp2_with fail
          refine (hcl'.out _).mono ?_
          rintro e9 w1 ⟨rfl, hb1⟩
          go_wp2_with fail
          go_ret2
          have h := hst2.out
          simp only [Prod.mk.injEq] at h
          exact ⟨by rw [h.1, h.2]; rfl, by rw [hs'.out]; exact hb0.trans ((hB.trans (hb1.mono hB.size)).mono (by have := hb0.size; have := hs'.out; omega))⟩
      · obtain rfl : i = n := by omega
        have hlt' : decide ((i : Int) < (i : Int)) = false := by simp
        have hE : (0, 0) = (ri, re) := by
          have := hR.out
          rw [List.drop_of_length_le (by have := hn'.out; omega)] at this
          exact this
        simp only [Prod.mk.injEq] at hE
        obtain ⟨rfl, rfl⟩ := hE
        go_wp2_with fail
        go_ret2
        exact ⟨rfl, by rw [hs'.out]; exact hb0.trans (hB.mono (by have := hb0.size; have := hs'.out; omega))⟩
end Go.Proofs.YtpabnbhbcphfiaaGreat
namespace Go.Pol
open Go Go.RowKit
/-- a rule's call, as the reference looks for it -/
theorem rfu_ref {x : Ru} {n : Int} (hf : x.2.1 ≤ n) (he : x.2.2.1 ≠ 0) :
    rfu x n = ((x.2.1 + (n - x.2.1) / x.2.2.1 * x.2.2.1 == n) && (decide (x.2.2.2 = 0) || decide ((n - x.2.1) / x.2.2.1 < x.2.2.2))) := by
  have hm : (x.2.1 + (n - x.2.1) / x.2.2.1 * x.2.2.1 == n) = decide ((n - x.2.1) % x.2.2.1 = 0) := by
    rw [Bool.eq_iff_iff, beq_iff_eq, decide_eq_true_eq]
    have := Int.mul_ediv_add_emod (n - x.2.1) x.2.2.1
    rw [Int.mul_comm] at this
    omega
  unfold rfu
  rw [if_neg he, hm, decide_eq_true hf, Bool.true_and]
end Go.Pol
namespace Go.Proofs.YtpabnbhbcphfiaaGreat
open Go Go.Proofs Go.RowKit Go.Pol Go.Shelf
attribute [local go_sem] Oper.semAt_some Go.Pol.wide_fn Go.Pol.wide_depth Go.Pol.wide_fn' Go.Pol.wide_depth'

set_option maxHeartbeats 1600000 in
theorem refuses_any (x : Ru) (k n : Int) (w : World) (hx : ruleE x = 0) (hn : 1 ≤ n ∧ n ≤ 1000000) :
    Calls Tryz.prog 248 #[ruV x, .int .i64 k, .int .i64 n] w fun e w' => e = .returned (.bool (x.1 == k && rfu x n)) ∧ Below w.heap.size w w' := by
  obtain ⟨_, h1, h2, h3, h4⟩ := ruleE_zero.1 hx
  have hrf := fun a b => rfu_ref (x := x) (n := n) a b
  have hlow : n < x.2.1 → rfu x n = false := fun h => by unfold rfu; rw [decide_eq_false (by omega)]; rfl
  have hzero : x.2.1 ≤ n → x.2.2.1 = 0 → rfu x n = (n == x.2.1) := fun h h' => by
    unfold rfu; rw [decide_eq_true h, if_pos h', Bool.true_and]; rw [Bool.eq_iff_iff]; simp
  obtain ⟨xk, f, e, t⟩ := x
  simp only at h1 h2 h3 h4 hrf hlow hzero
  generalize rfu (xk, f, e, t) n = R at *
  have hb0 := (Below.refl w.heap.size w).alloc (Nat.le_refl _) (.cells #[.int .i64 xk, .int .i64 f, .int .i64 e, .int .i64 t] 136)
  have k0 := Blk.new w 136 #[.int .i64 xk, .int .i64 f, .int .i64 e, .int .i64 t]
  have c0 := k0.cell
  by_cases c1 : xk = k
  · subst c1
    have d1 : (xk != xk) = false := by simp
    by_cases c2 : n < f
    · have d2 : decide (n < f) = true := by simpa using c2
      have hE := Lib.hid (hlow c2)
      clear hrf hlow hzero hx h1 h2 h3 h4 c2 k0
      go_enter Tryz.func248, Tryz.ntmps248
      go_wp2_with fail
      go_ret
      exact ⟨z_ret_bool (by simp [hE.out]), hb0⟩
    · have d2 : decide (n < f) = false := by simpa using c2
      by_cases c3 : e = 0
      · subst c3
        have hE := Lib.hid (hzero (by omega) rfl)
        clear hrf hlow hzero hx h1 h2 h3 h4 c2 k0
        go_enter Tryz.func248, Tryz.ntmps248
        go_wp2_with fail
        go_ret
        exact ⟨z_ret_bool (by simp [hE.out]), hb0⟩
      · have d3 : (e == 0) = false := by simpa using c3
        have hE := hrf (by omega) c3
        obtain ⟨q, hq⟩ : ∃ q, (n - f) / e = q := ⟨_, rfl⟩
        have hq0 : 0 ≤ q := by rw [← hq]; exact Int.ediv_nonneg (by omega) (by omega)
        have hqe : q * e ≤ n - f := by rw [← hq]; exact Int.ediv_mul_le _ c3
        have hqe0 : 0 ≤ q * e := Int.mul_nonneg hq0 (by omega)
        have w1 : IntKind.i64.wrap (n - f) = n - f := by rw [IntKind.wrap_i64]; omega
        have w1' : wrap64 (n - f) = n - f := by unfold wrap64; omega
        have tq : Int.tdiv (n - f) e = q := by rw [Int.tdiv_eq_ediv_of_nonneg (by omega)]; exact hq
        have hqn : q ≤ n - f := by
          rw [← hq]
          exact Int.ediv_le_self _ (by omega)
        have w2 : wrap64 q = q := by unfold wrap64; omega
        have w3 : IntKind.i64.wrap (q * e) = q * e := by rw [IntKind.wrap_i64]; omega
        have w3' : wrap64 (q * e) = q * e := by unfold wrap64; omega
        have w4 : IntKind.i64.wrap (f + q * e) = f + q * e := by rw [IntKind.wrap_i64]; omega
        have w4' : wrap64 (f + q * e) = f + q * e := by unfold wrap64; omega
        rw [hq] at hE
        have hE' := Lib.hid hE
        have hne : e ≠ 0 := c3
        have hem1 : ¬ e = -1 := by omega
        clear hrf hlow hzero hx h1 h2 h3 h4 c2 k0 hq hqe hqe0 hqn hq0 hE c3
        by_cases c5 : f + q * e = n
        · have d5 : (f + q * e == n) = true := by simpa using c5
          by_cases c4 : t = 0
          · subst c4
            have hE2 : Hid (true = R) := Lib.hid (by rw [hE'.out, d5]; rfl)
            clear hE' c5
            go_enter Tryz.func248, Tryz.ntmps248
            go_wp2_with fail
            go_ret
            exact ⟨z_ret_bool (by simp [← hE2.out]), hb0⟩
          · have d4 : (t == 0) = false := by simpa using c4
            have hE2 : Hid (decide (q < t) = R) := Lib.hid (by rw [hE'.out, d5, decide_eq_false c4]; rfl)
            clear hE' c5 c4
            go_enter Tryz.func248, Tryz.ntmps248
            go_wp2_with fail
            go_ret
            exact ⟨z_ret_bool (by simp [← hE2.out]), hb0⟩
        · have d5 : (f + q * e == n) = false := by simpa using c5
          have hE2 : Hid (false = R) := Lib.hid (by rw [hE'.out, d5]; rfl)
          clear hE' c5
          go_enter Tryz.func248, Tryz.ntmps248
          go_wp2_with fail
          go_ret
          exact ⟨z_ret_bool (by simp [← hE2.out]), hb0⟩
  · have d1 : (xk != k) = true := by simpa using c1
    have d2 : (xk == k) = false := by simpa using c1
    clear hrf hlow hzero hx h1 h2 h3 h4 k0
    go_enter Tryz.func248, Tryz.ntmps248
    go_wp2_with fail
    go_ret
    exact ⟨z_ret_bool (by simp), hb0⟩
set_option maxRecDepth 100000 in
set_option maxHeartbeats 1600000 in
theorem rrefused_any (A : Option Addr) (n cap : Nat) (l : List Ru) (k nn : Int) (w : World) (hn : l.length = n) (hm : n ≤ 1000) (hok : ∀ x ∈ l, ruleE x = 0) (hnn : 1 ≤ nn ∧ nn ≤ 1000000) (hr : Rd w w.heap.size A (fl ruC l)) :
    Calls Tryz.prog 235 #[.agg #[.slice A n cap], .int .i64 k, .int .i64 nn] w fun e w' => e = .returned (.bool (rfd l k nn)) ∧ Below w.heap.size w w' := by
  have hb0 := (Below.refl w.heap.size w).alloc (Nat.le_refl _) (.cells #[.slice A n cap] 25)
  have k0 := Blk.new w 25 #[.slice A n cap]
  have r0 := hr.on_ hb0
  have HR := Lib.hid (fun (i : Nat) (hi : i < n) W => refuses_any (l.getD i ru0) k nn W (hok _ (z_getD_mem (by omega))) hnn)
  have hst := Lib.hid (fun i h => rfd_step l k nn i h)
  obtain ⟨R, hR⟩ : ∃ R, rfd l k nn = R := ⟨_, rfl⟩
  rw [hR]
  have hR' : Hid (l.any (fun x => x.1 == k && rfu x nn) = R) := Lib.hid hR
  have hn' := Lib.hid hn
  clear hR hr hn hok
  obtain ⟨s, hs⟩ : ∃ s, w.heap.size = s := ⟨_, rfl⟩
  have hs' := Lib.hid hs
  go_enter Tryz.func235, Tryz.ntmps235
  go_upto_region 1 with fail
  generalize w.alloc (.cells #[.slice A n cap] 25) = w0 at *
  rw [hs] at hb0 k0
  try simp only [hs]
  have k0' := Lib.hid k0
  clear k0 hs
  go_wp2_with fail
  go_loopw [7] (fun u wr => ∃ i : Nat, i ≤ n ∧ u = .int .i64 i ∧ Hid ((l.drop i).any (fun x => x.1 == k && rfu x nn) = R) ∧ Below w0.heap.size w0 wr) (fun u _ => n - (intOf u).toNat)
  case atStart => exact ⟨0, by omega, rfl, hR', Below.refl _ _⟩
  case round =>
    clear hR'
    obtain ⟨i, hi, rfl, hR, hB⟩ := hrel
    have kr := k0'.out.call hB
    have cr := kr.cell
    by_cases hlt : i < n
    · have hlt' : decide ((i : Int) < (n : Int)) = true := by simpa using hlt
      have hin : (i : Int) < (n : Int) := by omega
      have hs2 := hst.out i (by have := hn'.out; omega)
      rw [hR.out] at hs2
      have HRi := Lib.hid (HR.out i hlt)
      obtain ⟨b, o, rfl, hb, hc⟩ := (r0.on_ hB).elem ruC_len (by omega) ru0 (k := i) (by have := hn'.out; omega)
      generalize l.getD i ru0 = x at *
      obtain ⟨xk, f, e, t⟩ := x
      have x0 := hc 0 _ rfl
      have x1 := hc 1 _ rfl
      have x2 := hc 2 _ rfl
      have x3 := hc 3 _ rfl
      simp only [Nat.add_zero] at x0
      generalize ((xk, f, e, t).1 == k && rfu (xk, f, e, t) nn) = B at *
      have hs3 := Lib.hid hs2
      clear hc hs2 hR
      cases B with
      | true =>
        go_wp2_with fail
        refine (HRi.out _).mono ?_
        rintro e9 w1 ⟨rfl, hb1⟩
        go_wp2_with fail
        go_ret
        exact ⟨z_ret_bool (by rw [hs3.out]; rfl), by rw [hs'.out]; exact hb0.trans ((hB.trans (hb1.mono hB.size)).mono (by have := hb0.size; have := hs'.out; omega))⟩
      | false =>
        go_wp2_with fail
        refine (HRi.out _).mono ?_
        rintro e9 w1 ⟨rfl, hb1⟩
        go_wp2_with fail
        go_roundw
        case rel => exact ⟨i + 1, by omega, by go_num, Lib.hid (by rw [hs3.out]; rfl), hB.trans (hb1.mono hB.size)⟩
        case measure => simp [intOf]; omega
    · obtain rfl : i = n := by omega
      have hlt' : decide ((i : Int) < (i : Int)) = false := by simp
      have hE := hR.out
      rw [List.drop_of_length_le (by have := hn'.out; omega)] at hE
      have hE' : Hid (false = R) := Lib.hid hE
      clear hE hR
      go_wp2_with fail
      go_ret
      exact ⟨z_ret_bool hE'.out, by rw [hs'.out]; exact hb0.trans (hB.mono (by have := hb0.size; have := hs'.out; omega))⟩
set_option maxRecDepth 100000 in
set_option maxHeartbeats 1600000 in
theorem rhits_any (A : Option Addr) (n cap : Nat) (l : List Ru) (k : Int) (lim : Nat) (w : World) (hn : l.length = n) (hn1 : n ≤ 1000) (hok : ∀ x ∈ l, ruleE x = 0) (hl : lim ≤ 1000000) (hr : Rd w w.heap.size A (fl ruC l)) :
    Calls Tryz.prog 247 #[.agg #[.slice A n cap], .int .i64 k, .int .i64 lim] w fun e w' => e = .returned (.int .i64 (hitN l k lim)) ∧ Below w.heap.size w w' := by
  have hb0 := (Below.refl w.heap.size w).alloc (Nat.le_refl _) (.cells #[.slice A n cap] 25)
  have k0 := Blk.new w 25 #[.slice A n cap]
  have r0 := hr.on_ hb0
  have HR := Lib.hid (fun (i : Nat) (hi : i < lim) W (h : Rd W W.heap.size A (fl ruC l)) => rrefused_any A n cap l k ((i : Int) + 1) W hn hn1 hok ⟨by omega, by omega⟩ h)
  have hst := Lib.hid (fun i => show hitN l k (i + 1) = hitN l k i + if rfd l k ((i : Int) + 1) = true then 1 else 0 from rfl)
  have hbd := Lib.hid (fun i => hitN_bound l k i)
  have h00 : hitN l k 0 = 0 := rfl
  have h00' := Lib.hid h00
  clear hr hn hok h00
  obtain ⟨s, hs⟩ : ∃ s, w.heap.size = s := ⟨_, rfl⟩
  have hs' := Lib.hid hs
  generalize hitN l k = F at *
  go_enter Tryz.func247, Tryz.ntmps247
  go_upto_region 1 with fail
  generalize w.alloc (.cells #[.slice A n cap] 25) = w0 at *
  rw [hs] at hb0 k0
  try simp only [hs]
  have k0' := Lib.hid k0
  clear k0 hs
  go_wp2_with fail
  go_loopw [7, 8] (fun u v wr => ∃ (i : Nat) (c : Int), i ≤ lim ∧ u = .int .i64 c ∧ v = .int .i64 ((i : Int) + 1) ∧ Hid (c = F i) ∧ Below w0.heap.size w0 wr) (fun _ v _ => lim + 1 - (intOf v).toNat)
  case atStart => exact ⟨0, 0, by omega, rfl, rfl, Lib.hid h00'.out.symm, Below.refl _ _⟩
  case round =>
    obtain ⟨i, c, hi, rfl, rfl, hc, hB⟩ := hrel
    have kr := k0'.out.call hB
    have cr := kr.cell
    by_cases hlt : i < lim
    · have hlt' : decide ((i : Int) + 1 ≤ (lim : Int)) = true := by rw [decide_eq_true_eq]; omega
      have HRi := Lib.hid (HR.out i hlt wr (r0.on_ hB))
      have hs2 := hst.out i
      rw [← hc.out] at hs2
      have hcb := hbd.out i
      rw [← hc.out] at hcb
      generalize rfd l k ((i : Int) + 1) = B at *
      have hs3 := Lib.hid hs2
      have hwi : wrap64 ((i : Int) + 1 + 1) = (((i + 1 : Nat) : Int)) + 1 := by unfold wrap64; omega
      clear hs2 hc
      cases B with
      | true =>
        have hwc : wrap64 (c + 1) = c + 1 := by unfold wrap64; omega
        go_wp2_with fail
        refine HRi.out.mono ?_
        rintro e9 w1 ⟨rfl, hb1⟩
        go_wp2_with fail
        go_roundw
        case rel => exact ⟨i + 1, c + 1, by omega, rfl, rfl, Lib.hid (by rw [hs3.out]; rfl), hB.trans (hb1.mono hB.size)⟩
        case measure => simp [intOf]; omega
      | false =>
        go_wp2_with fail
        refine HRi.out.mono ?_
        rintro e9 w1 ⟨rfl, hb1⟩
        go_wp2_with fail
        go_roundw
        case rel => exact ⟨i + 1, c, by omega, rfl, rfl, Lib.hid (by rw [hs3.out]; simp), hB.trans (hb1.mono hB.size)⟩
        case measure => simp [intOf]; omega
    · obtain rfl : i = lim := by omega
      have hlt' : decide ((i : Int) + 1 ≤ (i : Int)) = false := by rw [decide_eq_false_iff_not]; omega
      go_wp2_with fail
      go_ret
      exact ⟨z_ret_int hc.out, by rw [hs'.out]; exact hb0.trans (hB.mono (by have := hb0.size; have := hs'.out; omega))⟩
end Go.Proofs.YtpabnbhbcphfiaaGreat
