/- Walk: the best plan (the program). -/
import Derived.Test.YtifdgabfnnkghaaVWalkP
namespace Go.Pol
/-- .. of the first blocks -/
def mvP (bs : List B3) (c : B3) (i : Nat) : List Nat := (List.range i).filter fun i => overB (bs.getD i b0) c
theorem mvP_succ (bs : List B3) (c : B3) (i : Nat) : mvP bs c (i + 1) = mvP bs c i ++ if overB (bs.getD i b0) c = true then [i] else [] := by
  unfold mvP
  rw [List.range_succ, List.filter_append]
  cases h : overB (bs.getD i b0) c <;> simp only [List.filter_cons, List.filter_nil, h, if_true, Bool.false_eq_true, if_false]
theorem mvP_lt {bs : List B3} {c : B3} {i j : Nat} (h : j ∈ mvP bs c i) : j < i := by
  unfold mvP at h
  exact List.mem_range.1 (List.mem_filter.1 h).1
theorem mvP_len (bs : List B3) (c : B3) (i : Nat) : (mvP bs c i).length ≤ i := by
  unfold mvP
  exact Nat.le_trans (List.length_filter_le _ _) (by simp)
theorem costM_snoc (bs : List B3) (l : List Nat) (i : Nat) : costM bs (l ++ [i]) = costM bs l + pw (bs.getD i b0).2.1 := by simp [costM]
theorem staysM_snoc (bs : List B3) (o : Int) (l : List Nat) (i : Nat) : staysM bs o (l ++ [i]) = (staysM bs o l || ((bs.getD i b0).2.2 || decide (o < (bs.getD i b0).2.1))) := by simp [staysM]
theorem greedy_len (pg : Nat) (bs : List B3) : ∀ (l : List Nat) (m : Nat → Bool), (greedy pg bs m l).length ≤ l.length
  | [], _ => by simp [greedy]
  | i :: r, m => by
    rw [greedy]
    split
    · have := greedy_len pg bs r (markB m (‹Nat› * 2 ^ ordB bs i) (ordB bs i)); simp only [List.length_cons]; omega
    · have := greedy_len pg bs r m; simp only [List.length_cons]; omega
theorem emptyB_len (pg : Nat) (bs : List B3) (c : B3) (l : List Nat) : (emptyB pg bs c l).1.length ≤ l.length := by
  unfold emptyB
  split
  · exact greedy_len _ _ _ _
  · simp
def planU (pg : Nat) (bs : List B3) (o k : Nat) : PlanSt := (List.range k).foldl (stepP pg bs o) ([], 0, false)
theorem planU_succ (pg : Nat) (bs : List B3) (o k : Nat) : planU pg bs o (k + 1) = stepP pg bs o (planU pg bs o k) k := by
  unfold planU
  rw [List.range_succ, List.foldl_append]; rfl
end Go.Pol
namespace Go.Proofs.Ytifdgabfnnkghaa
open Go Go.Proofs Go.RowKit Go.Pol Go.Shelf Go.Deep

set_option maxRecDepth 100000 in
set_option maxHeartbeats 3200000 in
theorem plan_any (pg P : Nat) (A : Option Addr) (n cap : Nat) (bs : List B3) (o : Nat) (w : World) (hP : P ≤ 10) (hpg : pg = 2 ^ P) (ho : o ≤ P) (hn : bs.length = n) (hr : RT w w.heap.size A bs) (ok : okB (pg : Int) bs) (R : PlanSt) (hE : planB pg bs o = R) :
    Calls Try.prog 43 #[.int .i64 pg, .slice A n cap, .int .i64 o] w fun e w' => ∃ (O : Option Addr) (ocap : Nat), e = .returned (.tuple #[.slice O R.1.length ocap, .int .i64 R.2.1, .bool R.2.2]) ∧ RU w' w'.heap.size O R.1 ∧ Below w.heap.size w w' := by
  have hpg1024 : pg ≤ 1024 := by rw [hpg]; exact Nat.pow_le_pow_right (by decide) hP
  have hn64 : n ≤ 64 := by rw [← hn]; exact ok.len
  have hokp := Lib.hid (fun b hb => ins_okPl (pages := (pg : Int)) (by omega) (ok.ins b hb))
  obtain ⟨Q, hQ⟩ : ∃ Q, pg / 2 ^ o = Q := ⟨_, rfl⟩
  have hdv : 2 ^ o ∣ pg := by rw [hpg]; exact Nat.pow_dvd_pow 2 ho
  have hpq : pg = Q * 2 ^ o := by rw [← hQ]; exact (Nat.div_mul_cancel hdv).symm
  have HS := Lib.hid (fun W => size_any (o : Int) W (by omega))
  have HEc := Lib.hid (fun (x : Nat) (hx : x ≤ 1024) W => end_any ((x : Int), (o : Int), false) W ⟨⟨by simp only; omega, by simp only; omega⟩, by simp only; omega, by simp only; omega⟩)
  simp only at HEc
  rw [pw_nat] at HS HEc
  have hins : Hid (∀ (k : Nat), k * 2 ^ o + 2 ^ o ≤ pg → insB (pg : Int) ((k * 2 ^ o : Nat) : Int) (o : Int) = true) := Lib.hid (fun k hk => insB_iff.2 ⟨⟨by omega, by omega⟩, by omega, by rw [pw_nat, ← Int.natCast_emod, Nat.mul_mod_left]; rfl, by rw [pw_nat]; omega⟩)
  have HEm := Lib.hid (fun (k : Nat) (hk : k * 2 ^ o + 2 ^ o ≤ pg) (M : Option Addr) (mn mcap : Nat) (l : List Nat) (W : World) (hW : RT W W.heap.size A bs) (h1 : l.length = mn) (h2 : ∀ i ∈ l, i < n) (h3 : RI W W.heap.size M (l.map fun i : Nat => (i : Int))) (h4 : mn ≤ 64) => empty_any pg P A M n cap mn mcap bs (placeB o k) l W hP hpg hn hW ok (hins.out k hk) h1 h2 h3 _ rfl h4)
  have hstep := Lib.hid (fun k => planU_succ pg bs o k)
  have hfin : Hid (R = planU pg bs o Q) := Lib.hid (by rw [← hE, ← hQ]; rfl)
  obtain ⟨sz, hsz⟩ : ∃ sz, 2 ^ o = sz := ⟨_, rfl⟩
  have hsz1 : 1 ≤ sz := by rw [← hsz]; exact Nat.two_pow_pos o
  have hov : Hid (∀ (b : B3) (k : Nat), overB b (placeB o k) = (decide (b.1 < ((k * sz : Nat) : Int) + (sz : Int)) && decide (((k * sz : Nat) : Int) < b.1 + pw b.2.1))) := Lib.hid (fun b k => by unfold overB; simp only [pw_nat, hsz])
  rw [hsz] at HS HEc HEm hpq
  have hszL := hsz1
  have ho10 : o ≤ 10 := by omega
  have hsz1024 : sz ≤ 1024 := by rw [← hsz]; exact Nat.le_trans (Nat.pow_le_pow_right (by decide) ho10) (by decide)
  have hn' := Lib.hid hn
  have hpq' := Lib.hid hpq
  have hsz' := Lib.hid hsz
  obtain ⟨s, hs⟩ : ∃ s, w.heap.size = s := ⟨_, rfl⟩
  have hrS : RT w s A bs := by rw [← hs]; exact hr
  have hs' := Lib.hid hs
  clear hn hE ok hP hpg ho hQ hdv hpq hins hsz hr
  rw [hs]
  have hb0 : Below s w w := Below.refl _ _
  have hss : s ≤ w.heap.size := by omega
  clear hs
  go_enter Try.func43, Try.ntmps43
  go_wp2_with fail
  go_loopw [6, 7, 8, 9] (fun a b c d wr => ∃ (k x : Nat) (best : List (Int × Int)) (least : Int) (is : Bool) (O : Option Addr) (bl oc : Nat), k ≤ Q ∧ d = .int .i64 x ∧ Hid (x = k * sz) ∧ a = .slice O bl oc ∧ b = .int .i64 least ∧ c = .bool is ∧ RU wr wr.heap.size O best ∧ Hid (best.length = bl) ∧ bl ≤ 64 ∧ (0 ≤ least ∧ least ≤ 100000) ∧ Hid (planU pg bs o k = (best, least, is)) ∧ Below s w wr) (fun _ _ _ d _ => pg - (intOf d).toNat)
  case atStart => exact ⟨0, 0, [], 0, false, none, 0, 0, by omega, rfl, Lib.hid (by simp), rfl, rfl, rfl, RU.nil, Lib.hid rfl, by omega, by omega, Lib.hid rfl, hb0⟩
  case round =>
    obtain ⟨k, x, best, least, is, O, bl, oc, hk, rfl, hx, rfl, rfl, rfl, hO, hbl, hbl64, hleast, hU, hB⟩ := hrel
    have hBs : s ≤ wr.heap.size := by have := hB.size; omega
    by_cases hlt : k < Q
    · have hxs : x + sz ≤ pg := by
        have := Nat.mul_le_mul_right sz (show k + 1 ≤ Q by omega)
        rw [Nat.succ_mul, ← hx.out, ← hpq'.out] at this
        exact this
      have hlt' : decide ((x : Int) < (pg : Int)) = true := by simp; omega
      have hlt2 : decide (x < pg) = true := by simp; omega
      obtain ⟨c, hc⟩ : ∃ c, placeB o k = c := ⟨_, rfl⟩
      have hovc : Hid (∀ b : B3, overB b c = (decide (b.1 < (x : Int) + (sz : Int)) && decide ((x : Int) < b.1 + pw b.2.1))) := Lib.hid (fun b => by rw [← hc, hov.out, ← hx.out])
      have hba := (Below.refl wr.heap.size wr).alloc (Nat.le_refl _) (.cells #[.int .i64 x, .int .i64 o, .bool false] 44)
      have kC := Blk.new wr 44 #[.int .i64 x, .int .i64 o, .bool false]
      obtain ⟨bC, hbC⟩ : ∃ bC, wr.heap.size = bC := ⟨_, rfl⟩
      rw [hbC] at kC
      go_upto_region 5 with fail
      have hBA := hB.trans (hba.mono hBs)
      have hOA := hO.below hba
      have hsA : (wr.alloc (Obj.cells #[Value.int .i64 x, .int .i64 o, .bool false] 44)).heap.size = bC + 1 := by rw [World.size_alloc, hbC]
      rw [hbC] at hOA
      have hsb : s ≤ bC := by omega
      clear hba hB hO hbC hBs
      generalize wr.alloc (Obj.cells #[Value.int .i64 x, .int .i64 o, .bool false] 44) = wA at *
      obtain ⟨i0, hi0, hz0, hz1, hz2⟩ := info_parts info_int
      go_wp2_with fail
      go_loopw [11, 12, 13, 30] (fun d1 d2 v i wr2 => ∃ (j : Nat) (l : List Nat) (z : Int) (sy : Bool), j ≤ n ∧ i = .int .i64 j ∧ d1 = .int .i64 z ∧ d2 = .bool sy ∧ Hid (l = mvP bs c j ∧ z = costM bs l ∧ sy = staysM bs (o : Int) l) ∧ (0 ≤ z ∧ z ≤ 1024 * j) ∧ l.length ≤ j ∧ wr2.ownsRow (bC + 1) 3 1 v l.length (l.map fun i => Value.int .i64 (i : Nat)) ∧ Below (bC + 1) wA wr2) (fun _ _ _ i _ => n - (intOf i).toNat)
      case atStart => exact ⟨0, [], 0, false, by omega, rfl, rfl, rfl, Lib.hid ⟨rfl, rfl, rfl⟩, by omega, by simp, World.ownsRow_nil _ _ _ _, Below.refl _ _⟩
      case round =>
        obtain ⟨j, l, z, sy, hj, rfl, rfl, rfl, hL, hzb, hlj, hrow, hB2⟩ := hrel
        have hB2s := hB2.size
        rw [hsA] at hB2s
        by_cases hjn : j < n
        · have hjn' : decide ((j : Int) < (n : Int)) = true := by simpa using hjn
          have hBt := hBA.trans (hB2.mono (by omega))
          obtain ⟨b, oo, rfl, _, d1, d2, d3⟩ := (hrS.below hBt).at_ (k := j) (by have := hn'.out; omega)
          have hok := hokp.out _ (getD_memB (bs := bs) (k := j) (by have := hn'.out; omega))
          have hms := Lib.hid (mvP_succ bs c j)
          have hcs := Lib.hid (costM_snoc bs l j)
          have hst := Lib.hid (staysM_snoc bs (o : Int) l j)
          have hovj := Lib.hid (hovc.out (bs.getD j b0))
          have HE2 := Lib.hid (fun W => end_any (bs.getD j b0) W hok)
          generalize bs.getD j b0 = y at *
          obtain ⟨ya, yo, yc⟩ := y
          simp only at d1 d2 d3 hcs hst hovj HE2
          obtain ⟨hya, hyo⟩ := hok
          simp only at hya hyo
          have HS2 := Lib.hid (fun W => size_any yo W hyo)
          have hp1 := pw_pos yo
          have hp2 := pw_le hyo.2
          obtain ⟨q, hq⟩ : ∃ q, pw yo = q := ⟨_, rfl⟩
          rw [hq] at HS2 HE2 hp1 hp2
          have hq' := Lib.hid hq
          clear hq
          have kCr : Blk wr bC 44 _ := kC.call (by rw [hsA]; exact hB2)
          have kX := Blk.new wr 44 #[.int .i64 ya, .int .i64 yo, .bool yc]
          have kCx := kCr.alloc (.cells #[.int .i64 ya, .int .i64 yo, .bool yc] 44)
          have hrx := hrow.alloc (.cells #[.int .i64 ya, .int .i64 yo, .bool yc] 44)
          have hBx := hB2.alloc (by omega) (.cells #[.int .i64 ya, .int .i64 yo, .bool yc] 44)
          obtain ⟨bX, hbX⟩ : ∃ bX, wr.heap.size = bX := ⟨_, rfl⟩
          rw [hbX] at kX hB2s
          go_upto_region 10 with fail
          have hsX : (wr.alloc (Obj.cells #[Value.int .i64 ya, .int .i64 yo, .bool yc] 44)).heap.size = bX + 1 := by rw [World.size_alloc, hbX]
          clear hrow hB2 kCr hbX d1 d2 d3 hBt
          generalize wr.alloc (Obj.cells #[Value.int .i64 ya, .int .i64 yo, .bool yc] 44) = wX at *
          have q1 := fun z : Ext wX => (z.blk kX).cell
          have q2 := fun z : Ext wX => (z.blk kCx).cell
          have G1 := Lib.hid (fun z : Ext wX => Ext.call (x := z) (HEc.out x (by omega) z.w))
          have G2 := Lib.hid (fun z : Ext wX => Ext.call (x := z) (HE2.out z.w))
          by_cases o1 : ya < (x : Int) + (sz : Int)
          · have o1' : decide (ya < (x : Int) + (sz : Int)) = true := by simpa using o1
            by_cases o2 : (x : Int) < ya + q
            · have o2' : decide ((x : Int) < ya + q) = true := by simpa using o2
              have hl2 : Hid (mvP bs c (j + 1) = l ++ [j]) := Lib.hid (by rw [hms.out, hovj.out, hq'.out, o1', o2', ← hL.out.1]; rfl)
              clear o1 o2
              refine region_ext (by kernel_rfl) (by kernel_rfl) ?_
              iterate 4 (go_big_quiet_step ((go_at_call 39; exact G1.out _)))
              repeat (go_big_quiet_step ((go_at_call 39; exact G2.out _)))
              refine wpQuiet_nil ?_
              rintro w5 ⟨⟨_, hw5⟩, rfl⟩
              have kX5 := kX.call hw5
              have cX5 := kX5.cell
              have hr5 := ownsRow_call hrx hw5
              have hB5 : Below (bC + 1) wA w5 := hBx.trans (hw5.mono (by omega))
              have hs5 : bX + 1 ≤ w5.heap.size := by have := hw5.size; omega
              have kN := Blk.new w5 3 #[.int .i64 (j : Int)]
              have hL2 : Hid (l ++ [j] = mvP bs c (j + 1) ∧ z + q = costM bs (l ++ [j]) ∧ (sy || (yc || decide ((o : Int) < yo))) = staysM bs (o : Int) (l ++ [j])) := Lib.hid ⟨hl2.out.symm, by rw [hcs.out, ← hL.out.2.1, hq'.out], by rw [hst.out, ← hL.out.2.2]⟩
              clear G1 G2 q1 q2 hw5 hrx hBx kX kCx hL hl2 hcs hst
              go_upto_region 13 with (first
                | (refine wpList_append_own _ rfl (.tmp 46) (.tmp 48) 79 rfl (bC + 1) 3 i0 (.int .i64 0) 1 8 Try.underlying79 hi0 hz0 hz1 hz2 rfl (by decide) _ l.length (l.map fun i => Value.int .i64 (i : Nat)) rfl (hr5.alloc _) ⟨w5.heap.size, 0, none⟩ 1 1 [.int .i64 (j : Int)] rfl rfl (fun j u hu => by rw [addr_add0, Nat.zero_add, kN.cell]; simpa using hu) (fun u hu => by simp only [List.mem_singleton] at hu; subst hu; rfl) (by unfold maxLen; omega) (by omega) (by simp; omega) ?_; intro v' w6 hown' hgrow _; have kX6 := (kX5.alloc (.cells #[.int .i64 (j : Int)] 3)).grown hgrow (fun e => Blk.not_row (kX5.alloc (.cells #[.int .i64 (j : Int)] 3)) (hr5.alloc (.cells #[.int .i64 (j : Int)] 3)) (by decide) e.symm); have cX6 := kX6.cell)
                | (go_at_call 29; refine (HS2.out _).mono ?_; rintro e wS ⟨rfl, hwS⟩; replace hwS := hwS.symm; subst hwS))
              have hB6 : Below (bC + 1) wA w6 := (hB5.alloc (by omega) _).grown hgrow (by simp; omega) (fun j hj => (hr5.lt j hj).1)
              clear hB5 hr5 kN kX5 cX5 hgrow
              cases sy with
              | true =>
                go_wp2_with fail
                go_roundw
                case rel => exact ⟨j + 1, l ++ [j], z + q, true, by omega, by go_num, rfl, rfl, Lib.hid ⟨hL2.out.1, hL2.out.2.1, by rw [← hL2.out.2.2]; simp [*]⟩, by omega, by rw [List.length_append, List.length_singleton]; omega, by rw [List.length_append, List.length_singleton, List.map_append, List.map_singleton]; exact hown', hB6⟩
                case measure => simp [intOf]; omega
              | false =>
                cases yc with
                | true =>
                  go_wp2_with fail
                  go_roundw
                  case rel => exact ⟨j + 1, l ++ [j], z + q, true, by omega, by go_num, rfl, rfl, Lib.hid ⟨hL2.out.1, hL2.out.2.1, by rw [← hL2.out.2.2]; simp [*]⟩, by omega, by rw [List.length_append, List.length_singleton]; omega, by rw [List.length_append, List.length_singleton, List.map_append, List.map_singleton]; exact hown', hB6⟩
                  case measure => simp [intOf]; omega
                | false =>
                  by_cases ho2 : (o : Int) < yo
                  · have ho2' : decide ((o : Int) < yo) = true := by simpa using ho2
                    clear ho2
                    go_wp2_with fail
                    go_roundw
                    case rel => exact ⟨j + 1, l ++ [j], z + q, true, by omega, by go_num, rfl, rfl, Lib.hid ⟨hL2.out.1, hL2.out.2.1, by rw [← hL2.out.2.2]; simp [*]⟩, by omega, by rw [List.length_append, List.length_singleton]; omega, by rw [List.length_append, List.length_singleton, List.map_append, List.map_singleton]; exact hown', hB6⟩
                    case measure => simp [intOf]; omega
                  · have ho2' : decide ((o : Int) < yo) = false := by simpa using ho2
                    clear ho2
                    go_wp2_with fail
                    go_roundw
                    case rel => exact ⟨j + 1, l ++ [j], z + q, false, by omega, by go_num, rfl, rfl, Lib.hid ⟨hL2.out.1, hL2.out.2.1, by rw [← hL2.out.2.2]; simp [*]⟩, by omega, by rw [List.length_append, List.length_singleton]; omega, by rw [List.length_append, List.length_singleton, List.map_append, List.map_singleton]; exact hown', hB6⟩
                    case measure => simp [intOf]; omega
            · have o2' : decide ((x : Int) < ya + q) = false := by simpa using o2
              have hl2 : Hid (mvP bs c (j + 1) = l) := Lib.hid (by rw [hms.out, hovj.out, hq'.out, o1', o2', ← hL.out.1]; simp)
              clear o1 o2
              refine region_ext (by kernel_rfl) (by kernel_rfl) ?_
              iterate 4 (go_big_quiet_step ((go_at_call 39; exact G1.out _)))
              repeat (go_big_quiet_step ((go_at_call 39; exact G2.out _)))
              refine wpQuiet_nil ?_
              rintro w5 ⟨⟨_, hw5⟩, rfl⟩
              have hr5 := ownsRow_call hrx hw5
              have hB5 : Below (bC + 1) wA w5 := hBx.trans (hw5.mono (by omega))
              clear G1 G2 q1 q2 hw5 hrx hBx kX kCx
              go_wp2_with fail
              go_roundw
              case rel => exact ⟨j + 1, l, z, sy, by omega, by go_num, rfl, rfl, Lib.hid ⟨hl2.out.symm, hL.out.2⟩, by omega, by omega, hr5, hB5⟩
              case measure => simp [intOf]; omega
          · have o1' : decide (ya < (x : Int) + (sz : Int)) = false := by simpa using o1
            have hl2 : Hid (mvP bs c (j + 1) = l) := Lib.hid (by rw [hms.out, hovj.out, o1', ← hL.out.1]; simp)
            clear o1
            refine region_ext (by kernel_rfl) (by kernel_rfl) ?_
            repeat (go_big_quiet_step ((go_at_call 39; exact G1.out _)))
            refine wpQuiet_nil ?_
            rintro w5 ⟨⟨_, hw5⟩, rfl⟩
            have hr5 := ownsRow_call hrx hw5
            have hB5 : Below (bC + 1) wA w5 := hBx.trans (hw5.mono (by omega))
            clear G1 G2 q1 q2 hw5 hrx hBx kX kCx
            go_wp2_with fail
            go_roundw
            case rel => exact ⟨j + 1, l, z, sy, by omega, by go_num, rfl, rfl, Lib.hid ⟨hl2.out.symm, hL.out.2⟩, by omega, by omega, hr5, hB5⟩
            case measure => simp [intOf]; omega
        · obtain rfl : j = n := by omega
          have hjn' : decide ((j : Int) < (j : Int)) = false := by simp
          have hl : Hid (movedB bs c = l ∧ z = costM bs l ∧ sy = staysM bs (o : Int) l) := Lib.hid ⟨by unfold movedB; rw [hn'.out]; exact hL.out.1.symm, hL.out.2⟩
          have hlt3 : Hid (∀ i ∈ l, i < j) := Lib.hid (fun i hi => by rw [hL.out.1] at hi; exact mvP_lt hi)
          have hBr := hBA.trans (hB2.mono (by omega))
          have hOr := (hOA.below (hB2.mono (by omega))).more (show bC ≤ wr.heap.size by omega)
          have hoe : (l.map fun i => Value.int .i64 (i : Nat)) = ((l.map fun i : Nat => (i : Int)).map (Value.int .i64)) := by simp
          rw [hoe] at hrow
          have kCr : Blk wr bC 44 _ := kC.call (by rw [hsA]; exact hB2)
          have cCr := kCr.cell
          obtain ⟨A3, c3, rfl, hri3, _⟩ := own_RIx hrow (by simp)
          obtain ⟨ml, hml⟩ : ∃ ml, l.length = ml := ⟨_, rfl⟩
          rw [hml] at hlj ⊢
          have hs1 := hBr.size
          obtain ⟨E, hEE⟩ : ∃ E, emptyB pg bs c l = E := ⟨_, rfl⟩
          have hEl := emptyB_len pg bs c l
          rw [hEE, hml] at hEl
          have hbv : bV (placeB o k) = .agg #[.int .i64 x, .int .i64 o, .bool false] := by rw [hx.out, ← hsz'.out]
          have HX := HEm.out k (by rw [← hx.out]; omega) A3 ml c3 l wr ((hrS.below hBr).more (by omega)) hml hlt3.out hri3 (by omega)
          rw [hbv, hc, hEE] at HX
          obtain ⟨ms, can⟩ := E
          simp only at HX hEl
          have HX' := Lib.hid HX
          have hS2 : Hid (planU pg bs o (k + 1) = if skipP bs o l (best, least, is) = true then (best, least, is) else if (can && (!is || lessP z ms (best, least, is))) = true then (ms, z, true) else (best, least, is)) := Lib.hid (by
            rw [hstep.out, hU.out, stepP, hc, hl.out.1, hEE, ← hl.out.2.1])
          have hSk : Hid (skipP bs o l (best, least, is) = (sy || (is && (decide (least < z) || (decide (z = least) && decide (bl < ml)))))) := Lib.hid (by
            unfold skipP; rw [← hl.out.2.1, ← hl.out.2.2, hbl.out, hml])
          have hml' := Lib.hid hml
          clear hL hlt3 hoe hrow kC hOA hBA hB2 HX hbv hml hEE hri3 kCr hU
          clear hl hs1
          cases sy with
          | true =>
            have hN : Hid (planU pg bs o (k + 1) = (best, least, is)) := Lib.hid (by rw [hS2.out, if_pos (by rw [hSk.out]; simp)])
            clear hS2 hSk HX'
            go_wp2_with (go_at_call 29; refine (HS.out _).mono ?_; rintro e wS ⟨rfl, hwS⟩; replace hwS := hwS.symm; subst hwS)
            go_roundw
            case rel => exact ⟨k + 1, x + sz, best, least, _, O, bl, oc, by omega, by go_num, Lib.hid (by rw [hx.out, Nat.succ_mul]), rfl, rfl, rfl, hOr, hbl, hbl64, hleast, hN, hBr⟩
            case measure => simp [intOf]; omega
          | false =>
            cases is with
            | false =>
              have hN : Hid (planU pg bs o (k + 1) = if can = true then (ms, z, true) else (best, least, false)) := Lib.hid (by rw [hS2.out, if_neg (by rw [hSk.out]; simp)]; simp)
              clear hS2 hSk
              cases can with
              | false =>
                go_upto_region 17 with (go_at_call 55; refine HX'.out.mono ?_; rintro e w7 ⟨O2, oc2, rfl, hO2, hb7⟩)
                have hB7 := hBr.trans (hb7.mono (by omega))
                have hO7 := (hOr.below hb7).more hb7.size
                clear HX' hBr hOr hb7
                have hN2 : Hid (planU pg bs o (k + 1) = (best, least, false)) := Lib.hid (by rw [hN.out]; rfl)
                go_wp2_with (go_at_call 29; refine (HS.out _).mono ?_; rintro e wS ⟨rfl, hwS⟩; replace hwS := hwS.symm; subst hwS)
                go_roundw
                case rel => exact ⟨k + 1, x + sz, best, least, _, O, bl, oc, by omega, by go_num, Lib.hid (by rw [hx.out, Nat.succ_mul]), rfl, rfl, rfl, hO7, hbl, hbl64, hleast, hN2, hB7⟩
                case measure => simp [intOf]; omega
              | true =>
                go_upto_region 17 with (go_at_call 55; refine HX'.out.mono ?_; rintro e w7 ⟨O2, oc2, rfl, hO2, hb7⟩)
                have hB7 := hBr.trans (hb7.mono (by omega))
                have hO7 := (hOr.below hb7).more hb7.size
                clear HX' hBr hOr hb7
                have hN2 : Hid (planU pg bs o (k + 1) = (ms, z, true)) := Lib.hid (by rw [hN.out]; rfl)
                go_wp2_with (go_at_call 29; refine (HS.out _).mono ?_; rintro e wS ⟨rfl, hwS⟩; replace hwS := hwS.symm; subst hwS)
                go_roundw
                case rel => exact ⟨k + 1, x + sz, ms, z, true, O2, ms.length, oc2, by omega, by go_num, Lib.hid (by rw [hx.out, Nat.succ_mul]), rfl, rfl, rfl, hO2, Lib.hid rfl, by omega, by omega, hN2, hB7⟩
                case measure => simp [intOf]; omega
            | true =>
              by_cases g1 : least < z
              · have g1' : decide (least < z) = true := by simpa using g1
                have hN : Hid (planU pg bs o (k + 1) = (best, least, true)) := Lib.hid (by rw [hS2.out, if_pos (by rw [hSk.out, g1']; simp)])
                clear hS2 hSk HX' g1
                go_wp2_with (go_at_call 29; refine (HS.out _).mono ?_; rintro e wS ⟨rfl, hwS⟩; replace hwS := hwS.symm; subst hwS)
                go_roundw
                case rel => exact ⟨k + 1, x + sz, best, least, _, O, bl, oc, by omega, by go_num, Lib.hid (by rw [hx.out, Nat.succ_mul]), rfl, rfl, rfl, hOr, hbl, hbl64, hleast, hN, hBr⟩
                case measure => simp [intOf]; omega
              · have g1' : decide (least < z) = false := by simpa using g1
                by_cases g2 : z = least
                · have g2' : (z == least) = true := by simpa using g2
                  have g2d : decide (z = least) = true := by simpa using g2
                  by_cases g3 : bl < ml
                  · have g3' : decide ((bl : Int) < (ml : Int)) = true := by simpa using g3
                    have g3d : decide (bl < ml) = true := by simpa using g3
                    have hN : Hid (planU pg bs o (k + 1) = (best, least, true)) := Lib.hid (by rw [hS2.out, if_pos (by rw [hSk.out, g1', g2d, g3d]; simp)])
                    clear hS2 hSk HX' g1 g2 g3 g2d
                    go_wp2_with (go_at_call 29; refine (HS.out _).mono ?_; rintro e wS ⟨rfl, hwS⟩; replace hwS := hwS.symm; subst hwS)
                    go_roundw
                    case rel => exact ⟨k + 1, x + sz, best, least, _, O, bl, oc, by omega, by go_num, Lib.hid (by rw [hx.out, Nat.succ_mul]), rfl, rfl, rfl, hOr, hbl, hbl64, hleast, hN, hBr⟩
                    case measure => simp [intOf]; omega
                  · have g3' : decide ((bl : Int) < (ml : Int)) = false := by simpa using g3
                    have g3d : decide (bl < ml) = false := by simpa using g3
                    have hN : Hid (planU pg bs o (k + 1) = if (can && lessP z ms (best, least, true)) = true then (ms, z, true) else (best, least, true)) := Lib.hid (by rw [hS2.out, if_neg (by rw [hSk.out, g1', g2d, g3d]; simp)]; simp)
                    clear hS2 hSk g1 g2 g3 g2d
                    cases can with
                    | false =>
                      go_upto_region 17 with (go_at_call 55; refine HX'.out.mono ?_; rintro e w7 ⟨O2, oc2, rfl, hO2, hb7⟩)
                      have hB7 := hBr.trans (hb7.mono (by omega))
                      have hO7 := (hOr.below hb7).more hb7.size
                      clear HX' hBr hOr hb7
                      have hN2 : Hid (planU pg bs o (k + 1) = (best, least, true)) := Lib.hid (by rw [hN.out]; rfl)
                      go_wp2_with (go_at_call 29; refine (HS.out _).mono ?_; rintro e wS ⟨rfl, hwS⟩; replace hwS := hwS.symm; subst hwS)
                      go_roundw
                      case rel => exact ⟨k + 1, x + sz, best, least, _, O, bl, oc, by omega, by go_num, Lib.hid (by rw [hx.out, Nat.succ_mul]), rfl, rfl, rfl, hO7, hbl, hbl64, hleast, hN2, hB7⟩
                      case measure => simp [intOf]; omega
                    | true =>
                      go_upto_region 17 with (go_at_call 55; refine HX'.out.mono ?_; rintro e w7 ⟨O2, oc2, rfl, hO2, hb7⟩)
                      have hB7 := hBr.trans (hb7.mono (by omega))
                      have hO7 := (hOr.below hb7).more hb7.size
                      clear HX' hBr hOr hb7
                      have HL := Lib.hid (compareL_any O2 O ms.length bl oc2 oc ms best w7 rfl hbl.out (by omega) (by omega) hO2 hO7)
                      obtain ⟨c1, hc1⟩ : ∃ c, cmpI z least = c := ⟨_, rfl⟩
                      obtain ⟨c2, hc2⟩ : ∃ c, cmpI (ms.length : Int) (bl : Int) = c := ⟨_, rfl⟩
                      obtain ⟨c4, hc4⟩ : ∃ c, listN ms best = c := ⟨_, rfl⟩
                      obtain ⟨rr, hrr⟩ : ∃ r, orN [c1, c2, c4] = r := ⟨_, rfl⟩
                      have hN3 : Hid (planU pg bs o (k + 1) = if decide (rr < 0) = true then (ms, z, true) else (best, least, true)) := Lib.hid (by
                        rw [hN.out, Bool.true_and]; unfold lessP; simp only [hbl.out, ← cmpI_cmpN, hc1, hc2, hc4, hrr])
                      have hcb : Hid (∀ y ∈ [c1, c2, c4], -1 ≤ y ∧ y ≤ 1) := Lib.hid (fun y hy => by
                        simp only [List.mem_cons, List.not_mem_nil, or_false] at hy
                        rcases hy with rfl | rfl | rfl
                        · rw [← hc1, cmpI_cmpN]; exact cmpN_bound _ _
                        · rw [← hc2, cmpI_cmpN]; exact cmpN_bound _ _
                        · rw [← hc4]; exact listN_bound _ _)
                      rw [hc4] at HL
                      have hrr' := Lib.hid hrr
                      obtain ⟨m2, hm2⟩ : ∃ m2, ms.length = m2 := ⟨_, rfl⟩
                      rw [hm2] at hc2 HL hEl ⊢
                      have hm2' := Lib.hid hm2
                      have hc1' := Lib.hid hc1
                      have hc2' := Lib.hid hc2
                      clear hN hc1 hc2 hc4 hrr hm2
                      by_cases hneg : rr < 0
                      · have hneg' : decide (rr < 0) = true := by simpa using hneg
                        have hN2 : Hid (planU pg bs o (k + 1) = (ms, z, true)) := Lib.hid (by rw [hN3.out, if_pos hneg'])
                        clear hN3 hneg
                        go_wp2_with (first
                          | (go_at_call 29; refine (HS.out _).mono ?_; rintro e wS ⟨rfl, hwS⟩; replace hwS := hwS.symm; subst hwS)
                          | (go_at_call 38; refine (compare_any _ _ _).mono ?_; rintro e wS ⟨rfl, hwS⟩; replace hwS := hwS.symm; subst hwS; first | rw [hc1'.out] | rw [hc2'.out])
                          | (go_at_call 57; refine HL.out.mono ?_; rintro e w8 ⟨rfl, hb8⟩)
                          | (go_at_call 56; refine (or_any (some ⟨w8.heap.size, 0, none⟩) 3 3 [c1, c2, c4] _ rfl (by omega) (RI_blk [c1, c2, c4] (Blk.new w8 3 _)) hcb.out).mono ?_; rw [hrr'.out]; rintro e w9 ⟨rfl, hb9⟩))
                        have hba8 := hb8.alloc hb8.size (.cells #[.int .i64 c1, .int .i64 c2, .int .i64 c4] 3)
                        have hb79 := hba8.trans (hb9.mono hba8.size)
                        have hB9 := hB7.trans (hb79.mono (by have := hB7.size; omega))
                        have hO9 := (hO2.below hb79).more hb79.size
                        have hP9 := (hO7.below hb79).more hb79.size
                        go_roundw
                        case rel => exact ⟨k + 1, x + sz, ms, z, true, O2, m2, oc2, by omega, by go_num, Lib.hid (by rw [hx.out, Nat.succ_mul]), rfl, rfl, rfl, hO9, hm2', by omega, by omega, hN2, hB9⟩
                        case measure => simp [intOf]; omega
                      · have hneg' : decide (rr < 0) = false := by simpa using hneg
                        have hN2 : Hid (planU pg bs o (k + 1) = (best, least, true)) := Lib.hid (by rw [hN3.out, hneg']; rfl)
                        clear hN3 hneg
                        go_wp2_with (first
                          | (go_at_call 29; refine (HS.out _).mono ?_; rintro e wS ⟨rfl, hwS⟩; replace hwS := hwS.symm; subst hwS)
                          | (go_at_call 38; refine (compare_any _ _ _).mono ?_; rintro e wS ⟨rfl, hwS⟩; replace hwS := hwS.symm; subst hwS; first | rw [hc1'.out] | rw [hc2'.out])
                          | (go_at_call 57; refine HL.out.mono ?_; rintro e w8 ⟨rfl, hb8⟩)
                          | (go_at_call 56; refine (or_any (some ⟨w8.heap.size, 0, none⟩) 3 3 [c1, c2, c4] _ rfl (by omega) (RI_blk [c1, c2, c4] (Blk.new w8 3 _)) hcb.out).mono ?_; rw [hrr'.out]; rintro e w9 ⟨rfl, hb9⟩))
                        have hba8 := hb8.alloc hb8.size (.cells #[.int .i64 c1, .int .i64 c2, .int .i64 c4] 3)
                        have hb79 := hba8.trans (hb9.mono hba8.size)
                        have hB9 := hB7.trans (hb79.mono (by have := hB7.size; omega))
                        have hO9 := (hO2.below hb79).more hb79.size
                        have hP9 := (hO7.below hb79).more hb79.size
                        go_roundw
                        case rel => exact ⟨k + 1, x + sz, best, least, true, O, bl, oc, by omega, by go_num, Lib.hid (by rw [hx.out, Nat.succ_mul]), rfl, rfl, rfl, hP9, hbl, hbl64, hleast, hN2, hB9⟩
                        case measure => simp [intOf]; omega
                · have g2' : (z == least) = false := by simpa using g2
                  have g2d : decide (z = least) = false := by simpa using g2
                  have hN : Hid (planU pg bs o (k + 1) = if (can && lessP z ms (best, least, true)) = true then (ms, z, true) else (best, least, true)) := Lib.hid (by rw [hS2.out, if_neg (by rw [hSk.out, g1', g2d]; simp)]; simp)
                  clear hS2 hSk g1 g2 g2d
                  cases can with
                  | false =>
                    go_upto_region 17 with (go_at_call 55; refine HX'.out.mono ?_; rintro e w7 ⟨O2, oc2, rfl, hO2, hb7⟩)
                    have hB7 := hBr.trans (hb7.mono (by omega))
                    have hO7 := (hOr.below hb7).more hb7.size
                    clear HX' hBr hOr hb7
                    have hN2 : Hid (planU pg bs o (k + 1) = (best, least, true)) := Lib.hid (by rw [hN.out]; rfl)
                    go_wp2_with (go_at_call 29; refine (HS.out _).mono ?_; rintro e wS ⟨rfl, hwS⟩; replace hwS := hwS.symm; subst hwS)
                    go_roundw
                    case rel => exact ⟨k + 1, x + sz, best, least, _, O, bl, oc, by omega, by go_num, Lib.hid (by rw [hx.out, Nat.succ_mul]), rfl, rfl, rfl, hO7, hbl, hbl64, hleast, hN2, hB7⟩
                    case measure => simp [intOf]; omega
                  | true =>
                    go_upto_region 17 with (go_at_call 55; refine HX'.out.mono ?_; rintro e w7 ⟨O2, oc2, rfl, hO2, hb7⟩)
                    have hB7 := hBr.trans (hb7.mono (by omega))
                    have hO7 := (hOr.below hb7).more hb7.size
                    clear HX' hBr hOr hb7
                    have HL := Lib.hid (compareL_any O2 O ms.length bl oc2 oc ms best w7 rfl hbl.out (by omega) (by omega) hO2 hO7)
                    obtain ⟨c1, hc1⟩ : ∃ c, cmpI z least = c := ⟨_, rfl⟩
                    obtain ⟨c2, hc2⟩ : ∃ c, cmpI (ms.length : Int) (bl : Int) = c := ⟨_, rfl⟩
                    obtain ⟨c4, hc4⟩ : ∃ c, listN ms best = c := ⟨_, rfl⟩
                    obtain ⟨rr, hrr⟩ : ∃ r, orN [c1, c2, c4] = r := ⟨_, rfl⟩
                    have hN3 : Hid (planU pg bs o (k + 1) = if decide (rr < 0) = true then (ms, z, true) else (best, least, true)) := Lib.hid (by
                      rw [hN.out, Bool.true_and]; unfold lessP; simp only [hbl.out, ← cmpI_cmpN, hc1, hc2, hc4, hrr])
                    have hcb : Hid (∀ y ∈ [c1, c2, c4], -1 ≤ y ∧ y ≤ 1) := Lib.hid (fun y hy => by
                      simp only [List.mem_cons, List.not_mem_nil, or_false] at hy
                      rcases hy with rfl | rfl | rfl
                      · rw [← hc1, cmpI_cmpN]; exact cmpN_bound _ _
                      · rw [← hc2, cmpI_cmpN]; exact cmpN_bound _ _
                      · rw [← hc4]; exact listN_bound _ _)
                    rw [hc4] at HL
                    have hrr' := Lib.hid hrr
                    obtain ⟨m2, hm2⟩ : ∃ m2, ms.length = m2 := ⟨_, rfl⟩
                    rw [hm2] at hc2 HL hEl ⊢
                    have hm2' := Lib.hid hm2
                    have hc1' := Lib.hid hc1
                    have hc2' := Lib.hid hc2
                    clear hN hc1 hc2 hc4 hrr hm2
                    by_cases hneg : rr < 0
                    · have hneg' : decide (rr < 0) = true := by simpa using hneg
                      have hN2 : Hid (planU pg bs o (k + 1) = (ms, z, true)) := Lib.hid (by rw [hN3.out, if_pos hneg'])
                      clear hN3 hneg
                      go_wp2_with (first
                        | (go_at_call 29; refine (HS.out _).mono ?_; rintro e wS ⟨rfl, hwS⟩; replace hwS := hwS.symm; subst hwS)
                        | (go_at_call 38; refine (compare_any _ _ _).mono ?_; rintro e wS ⟨rfl, hwS⟩; replace hwS := hwS.symm; subst hwS; first | rw [hc1'.out] | rw [hc2'.out])
                        | (go_at_call 57; refine HL.out.mono ?_; rintro e w8 ⟨rfl, hb8⟩)
                        | (go_at_call 56; refine (or_any (some ⟨w8.heap.size, 0, none⟩) 3 3 [c1, c2, c4] _ rfl (by omega) (RI_blk [c1, c2, c4] (Blk.new w8 3 _)) hcb.out).mono ?_; rw [hrr'.out]; rintro e w9 ⟨rfl, hb9⟩))
                      have hba8 := hb8.alloc hb8.size (.cells #[.int .i64 c1, .int .i64 c2, .int .i64 c4] 3)
                      have hb79 := hba8.trans (hb9.mono hba8.size)
                      have hB9 := hB7.trans (hb79.mono (by have := hB7.size; omega))
                      have hO9 := (hO2.below hb79).more hb79.size
                      have hP9 := (hO7.below hb79).more hb79.size
                      go_roundw
                      case rel => exact ⟨k + 1, x + sz, ms, z, true, O2, m2, oc2, by omega, by go_num, Lib.hid (by rw [hx.out, Nat.succ_mul]), rfl, rfl, rfl, hO9, hm2', by omega, by omega, hN2, hB9⟩
                      case measure => simp [intOf]; omega
                    · have hneg' : decide (rr < 0) = false := by simpa using hneg
                      have hN2 : Hid (planU pg bs o (k + 1) = (best, least, true)) := Lib.hid (by rw [hN3.out, hneg']; rfl)
                      clear hN3 hneg
                      go_wp2_with (first
                        | (go_at_call 29; refine (HS.out _).mono ?_; rintro e wS ⟨rfl, hwS⟩; replace hwS := hwS.symm; subst hwS)
                        | (go_at_call 38; refine (compare_any _ _ _).mono ?_; rintro e wS ⟨rfl, hwS⟩; replace hwS := hwS.symm; subst hwS; first | rw [hc1'.out] | rw [hc2'.out])
                        | (go_at_call 57; refine HL.out.mono ?_; rintro e w8 ⟨rfl, hb8⟩)
                        | (go_at_call 56; refine (or_any (some ⟨w8.heap.size, 0, none⟩) 3 3 [c1, c2, c4] _ rfl (by omega) (RI_blk [c1, c2, c4] (Blk.new w8 3 _)) hcb.out).mono ?_; rw [hrr'.out]; rintro e w9 ⟨rfl, hb9⟩))
                      have hba8 := hb8.alloc hb8.size (.cells #[.int .i64 c1, .int .i64 c2, .int .i64 c4] 3)
                      have hb79 := hba8.trans (hb9.mono hba8.size)
                      have hB9 := hB7.trans (hb79.mono (by have := hB7.size; omega))
                      have hO9 := (hO2.below hb79).more hb79.size
                      have hP9 := (hO7.below hb79).more hb79.size
                      go_roundw
                      case rel => exact ⟨k + 1, x + sz, best, least, true, O, bl, oc, by omega, by go_num, Lib.hid (by rw [hx.out, Nat.succ_mul]), rfl, rfl, rfl, hP9, hbl, hbl64, hleast, hN2, hB9⟩
                      case measure => simp [intOf]; omega
    · obtain rfl : k = Q := by omega
      have hxp : x = pg := by rw [hx.out, ← hpq'.out]
      have hlt' : decide ((x : Int) < (pg : Int)) = false := by simp; omega
      have hlt2 : decide (x < pg) = false := by simp; omega
      have hRR : Hid (R = (best, least, is)) := Lib.hid (by rw [hfin.out, hU.out])
      clear hU hxp
      go_wp2_with fail
      (try simp only [Exit.inBlock, Exit.then]); refine bodyPost_ret (results_tmp3 rfl _ _ _) rfl ?_
      rw [hRR.out]
      exact ⟨O, oc, by simp only [hbl.out]; rfl, hO, hB⟩
end Go.Proofs.Ytifdgabfnnkghaa
