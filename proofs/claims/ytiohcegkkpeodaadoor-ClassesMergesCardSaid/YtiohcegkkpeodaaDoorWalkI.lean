/- Walks: Steps of the program. -/
import Derived.Test.YtiohcegkkpeodaaDoorWalkB
import Derived.Test.YtiohcegkkpeodaaDoorSpecS
import Derived.Deep.AppendLies
namespace Go.Proofs.YtiohcegkkpeodaaDoor
open Go Go.Proofs Go.RowKit Go.Pol

theorem info_int_ : (Tryd.prog.info? 3).map (fun i => (i.zero, i.size, i.bytes)) = some (some (.int .i64 0), 1, 8) := by kernel_rfl
theorem up_any (num den : Int) (w : World) (hn : 0 ≤ num ∧ num ≤ 1000000) (hd : 1 ≤ den ∧ den ≤ 8) (u : Int) (hu : upF num den = u) :
    Calls Tryd.prog 36 #[.int .i64 num, .int .i64 den] w fun e w' => e = .returned (.int .i64 u) ∧ w = w' := by
  have h1 : 0 ≤ (num + 8 * den - 1) / (8 * den) := Int.ediv_nonneg (by omega) (by omega)
  have h2 : (num + 8 * den - 1) / (8 * den) ≤ num + 8 * den - 1 := Int.ediv_le_self _ (by omega)
  obtain ⟨q, hq⟩ : ∃ q, (num + 8 * den - 1) / (8 * den) = q := ⟨_, rfl⟩
  rw [hq] at h1 h2
  have HU : Hid (q * 8 = u) := Lib.hid (by rw [← hu, upF, hq])
  clear hu
  go_enter Tryd.func36, Tryd.ntmps36
  go_wp2
  go_ret
  exact ⟨ret_int HU.out, rfl⟩
theorem max0_any (n : Int) (w : World) : Calls Tryd.prog 37 #[.int .i64 n] w fun e w' => e = .returned (.int .i64 (if n < 0 then 0 else n)) ∧ w = w' := by
  by_cases h : n < 0
  · go_enter Tryd.func37, Tryd.ntmps37
    go_wp2
    go_ret
    exact ⟨rfl, rfl⟩
  · go_enter Tryd.func37, Tryd.ntmps37
    go_wp2
    go_ret
    exact ⟨rfl, rfl⟩
/-- the post of Steps: the table in memory of the call's own -/
def TabR (w : World) (l : List Int) (e : Ending) (w' : World) : Prop := ∃ v : Value, e = .returned (.tuple #[.agg #[v], .int .i64 0]) ∧ w'.ownsRow w.heap.size 3 1 v l.length (l.map (Value.int .i64)) ∧ Below w.heap.size w w'
theorem own_callI {w w' : World} {base : Nat} {e : TypeId} {size n : Nat} {v : Value} {xs : List Value} (h : w.ownsRow base e size v n xs) (hb : Below w.heap.size w w') : w'.ownsRow base e size v n xs :=
  h.kept (row := none) ⟨hb.os, hb.tape, hb.output, hb.size, fun i hi _ => hb.block i hi⟩ (by cases v.ownBlock <;> simp)
/-- one class more: what the append leaves -/
theorem steps_app {w wr wa w1 : World} {g cap : Nat} {v : Value} {q : List Int} {l2 u : Int} (hB : Below w.heap.size w wr) (kB : Blk wr w.heap.size 27 #[.slice none 0 0]) (hsz : w.heap.size + 1 ≤ wr.heap.size) (hba : Below wr.heap.size wr wa)
    (hown : wr.ownsRow (w.heap.size + 1) 3 1 v (q.length + 1) ((q ++ [l2]).map (Value.int .i64)))
    (hown1 : w1.ownsRow (w.heap.size + 1) 3 1 (.slice (some ⟨g, 0, none⟩) (q.length + 1 + 1) cap) (q.length + 1 + 1) ((q ++ [l2]).map (Value.int .i64) ++ [.int .i64 u])) (hgrow : wa.grownBy w1 v.ownBlock) :
    Below w.heap.size w w1 ∧ Blk w1 w.heap.size 27 #[.slice none 0 0] ∧ w1.ownsRow (w.heap.size + 1) 3 1 (.slice (some ⟨g, 0, none⟩) (q.length + 1 + 1) cap) ((q ++ [l2]).length + 1) ((q ++ [l2] ++ [u]).map (Value.int .i64)) ∧ w.heap.size + 1 ≤ w1.heap.size := by
  have ha := own_callI hown hba
  have h1 : Below w.heap.size w wa := hB.trans (hba.mono (by omega))
  have hs1 := hba.size
  have hs2 := hgrow.size
  refine ⟨h1.grown hgrow (by omega) (fun k hk => by have := (ha.lt k hk).1; omega), (kB.call hba).grown hgrow (fun e => ?_), ?_, by omega⟩
  · have := (ha.lt w.heap.size e.symm).1; omega
  · rw [List.map_append, List.length_append]; exact hown1
set_option maxHeartbeats 800000 in
theorem steps_ok (mn mx per : Int) (w : World) (h : okS mn mx per = true) :
    Calls Tryd.prog 26 #[.int .i64 mn, .int .i64 mx, .int .i64 per] w (TabR w (stepsL mn mx per)) := by
  obtain ⟨⟨a1, a2⟩, a3, ⟨a4, a5⟩, a6, a7, a8⟩ := okS_iff.1 h
  have s1 : isSz mn = true := isSz_iff.2 ⟨a1, a2⟩
  have s2 : isSz mx = true := isSz_iff.2 ⟨a4, a5⟩
  have s3 : (mn % 8 != 0) = false := by simp [a3]
  have s4 : decide (mx < mn) = false := by simp; omega
  have s5 : decide (per < 1) = false := by simp; omega
  have s6 : decide (8 < per) = false := by simp; omega
  have a9 : 8 ≤ mn := by omega
  have HS : Hid (stepsL mn mx per = (outF mx per 4096 mn [] mn).1 ++ [if 4096 < (outF mx per 4096 mn [] mn).2 then 4096 else (outF mx per 4096 mn [] mn).2]) := Lib.hid rfl
  obtain ⟨R, hR⟩ : ∃ R, outF mx per 4096 mn [] mn = R := ⟨_, rfl⟩
  rw [hR] at HS
  have HR := Lib.hid hR
  clear hR a3 h
  obtain ⟨i0, hi0, hz0, hz1, hz2⟩ := info_parts info_int_
  have HI := Lib.hid (And.intro hi0 (And.intro hz0 (And.intro hz1 hz2)))
  clear hi0 hz0 hz1 hz2
  generalize stepsL mn mx per = SL at *
  go_enter Tryd.func26, Tryd.ntmps26
  go_wp2_with (go_at_call 18; refine (isSize_any _ _).mono ?_; rintro e w' ⟨rfl, rfl⟩)
  have hB0 : Below w.heap.size w ((w.alloc (.cells #[.slice none 0 0] 27)).alloc (.cells #[.int .i64 mn] 3)) := ((Below.refl _ _).alloc (Nat.le_refl _) _).alloc (by simp) _
  have kB0 := (Blk.new w 27 #[.slice none 0 0]).alloc (.cells #[.int .i64 mn] 3)
  have own0 := World.ownsRow_lit (base := w.heap.size + 1) (e := 3) (size := 1) (w.alloc (.cells #[.slice none 0 0] 27)) #[.int .i64 mn] 1 (by simp) (by unfold maxLen; omega) rfl
  clear s1 s2 s3 s4 s5 s6
  go_loopw [8, 9, 10] (fun s8 s9 s10 wr => ∃ (p : List Int) (last base : Int) (v : Value) (f : Nat), v = s8 ∧ s9 = .int .i64 last ∧ s10 = .int .i64 base ∧ 8 ≤ base ∧ base ≤ 8200 ∧ 8 ≤ last ∧ last ≤ 8200 ∧ Hid (base ≤ last ∨ mx ≤ last) ∧ mx - base ≤ f ∧ Below w.heap.size w wr ∧ Blk wr w.heap.size 27 #[.slice none 0 0] ∧ w.heap.size + 1 ≤ wr.heap.size ∧ wr.ownsRow (w.heap.size + 1) 3 1 v (p.length + 1) ((p ++ [last]).map (Value.int .i64)) ∧ (p.length : Int) + 1 ≤ last ∧ Hid (outF mx per f base p last = R)) (fun _ _ s10 _ => (10000 - intOf s10).toNat)
  case atStart => exact ⟨[], mn, mn, _, 4096, rfl, rfl, rfl, by omega, by omega, by omega, by omega, Lib.hid (.inl (by omega)), by omega, hB0, kB0, by simp, by simpa using own0, by simp; omega, HR⟩
  case round =>
    clear hB0 kB0 own0
    obtain ⟨p, last, base, v, f, rfl, rfl, rfl, b1, b2, b3, b4, hbl, hf, hB, kB, hsz, hown, hlen, hL⟩ := hrel
    by_cases hlt : last < mx
    · have b5 : base ≤ last := by rcases hbl.out with h | h <;> omega
      obtain ⟨f, rfl⟩ : ∃ g, f = g + 1 := ⟨f - 1, by omega⟩
      have HL2 : Hid (outF mx per f (base * 2) (innF mx per base 9 1 p last).1 (innF mx per base 9 1 p last).2 = R) := Lib.hid (by rw [← hL.out, outF, if_pos hlt])
      clear hL hbl
      go_wp2_with fail
      go_loopw [8, 9, 11] (fun s8 s9 s11 wx => ∃ (q : List Int) (l2 i : Int) (v2 : Value) (g : Nat), v2 = s8 ∧ s9 = .int .i64 l2 ∧ s11 = .int .i64 i ∧ 1 ≤ i ∧ i ≤ per + 1 ∧ per + 1 - i ≤ g ∧ base ≤ l2 ∧ l2 ≤ 8200 ∧ Below w.heap.size w wx ∧ Blk wx w.heap.size 27 #[.slice none 0 0] ∧ w.heap.size + 1 ≤ wx.heap.size ∧ wx.ownsRow (w.heap.size + 1) 3 1 v2 (q.length + 1) ((q ++ [l2]).map (Value.int .i64)) ∧ (q.length : Int) + 1 ≤ l2 ∧ Hid (i = 1 ∨ upF (base * (per + (i - 1))) per ≤ l2) ∧ Hid (innF mx per base 9 1 p last = innF mx per base g i q l2)) (fun _ _ s11 _ => (10 - intOf s11).toNat)
      case atStart => exact ⟨p, last, 1, v, 9, rfl, rfl, rfl, by omega, by omega, by omega, by omega, by omega, hB, kB, hsz, hown, hlen, Lib.hid (.inl rfl), Lib.hid rfl⟩
      case round =>
        clear hB kB hsz hown hlen
        obtain ⟨q, l2, i, v2, g, rfl, rfl, rfl, c1, c2, c3, c4, c5, hB, kB, hsz, hown, hlen, hup, hI⟩ := hrel
        by_cases hi : i ≤ per
        · by_cases hl : l2 < mx
          · obtain ⟨g, rfl⟩ : ∃ k, g = k + 1 := ⟨g - 1, by omega⟩
            have u1 := upF_lt base per i (by omega) a7 hi
            have u2 := upF_pos base per i (by omega) a7 (by omega)
            have hN := mul_abs base (per + i) 4096 16 (by omega) (by omega)
            have hN0 := Int.mul_nonneg (show 0 ≤ base by omega) (show 0 ≤ per + i by omega)
            have HE1 := Lib.hid (innF_more mx per base g i q l2 hi hl)
            have HE2 := Lib.hid (innF_pass mx per base g i q l2 hi hl)
            have hwN : wrap64 (base * (per + i)) = base * (per + i) := IntWalk.wrap64_in _ (by omega)
            have hu3 : Hid (upF (base * (per + (i + 1 - 1))) per = upF (base * (per + i)) per) := Lib.hid (by rw [show i + 1 - 1 = i by omega])
            obtain ⟨u, hu⟩ : ∃ u, upF (base * (per + i)) per = u := ⟨_, rfl⟩
            rw [hu] at HE1 HE2 u1 u2 hu3
            have HUP := Lib.hid (fun W => up_any (base * (per + i)) per W (by omega) (by omega) u hu)
            clear hu
            by_cases hm : l2 < u
            · have hbA : Below wr.heap.size wr (wr.alloc (.cells #[.int .i64 u] 3)) := (Below.refl _ _).alloc (Nat.le_refl _) _
              have hownA := own_callI hown hbA
              have hnews := World.news_of_block (w := wr.alloc (Obj.cells #[.int .i64 u] 3)) (heap_alloc_new wr _)
              have hone : ∀ z ∈ [Value.int .i64 u], z.oneCell' = true := by intro z hz; simp only [List.mem_singleton] at hz; subst hz; rfl
              have h63 : q.length + 1 + 1 ≤ maxLen := by unfold maxLen; omega
              have hbase : w.heap.size + 1 ≤ (wr.alloc (Obj.cells #[.int .i64 u] 3)).heap.size := by have := hbA.size; omega
              go_wp2_with (first
                | (go_at_call 36; refine (HUP.out _).mono ?_; rintro e w' ⟨rfl, rfl⟩)
                | (refine wpList_append_lies _ (by rfl) (.tmp 69) (.tmp 71) 25 (by rfl) (w.heap.size + 1) 3 i0 (.int .i64 0) 1 8 Tryd.underlying25 HI.out.1 HI.out.2.1 HI.out.2.2.1 HI.out.2.2.2 rfl (by omega) v2 (q.length + 1) ((q ++ [l2]).map (Value.int .i64)) (by rfl) hownA ⟨wr.heap.size, 0, none⟩ 1 1 [.int .i64 u] (by rfl) (by rfl) hnews hone (by omega) h63 (by omega) hbase (wr.heap.size + 1) (by simp) ?_; intro gg cap' w1 hown1 hgrow hat hlt))
              obtain ⟨hB1, kB1, own1, sz1⟩ := steps_app hB kB hsz hbA hown hown1 hgrow
              go_roundw
              case rel => exact ⟨q ++ [l2], u, i + 1, _, g, rfl, rfl, rfl, by omega, by omega, by omega, by omega, by omega, hB1, kB1, sz1, own1, by simp; omega, Lib.hid (.inr (by rw [hu3.out]; omega)), Lib.hid (by rw [hI.out, HE1.out hm])⟩
              case measure => simp [intOf]; omega
            · go_wp2_with (go_at_call 36; refine (HUP.out _).mono ?_; rintro e w' ⟨rfl, rfl⟩)
              go_roundw
              case rel => exact ⟨q, l2, i + 1, v2, g, rfl, rfl, rfl, by omega, by omega, by omega, by omega, by omega, hB, kB, hsz, hown, by omega, Lib.hid (.inr (by rw [hu3.out]; omega)), Lib.hid (by rw [hI.out, HE2.out hm])⟩
              case measure => simp [intOf]; omega
          · have HE := Lib.hid (innF_end mx per base g i q l2 (by omega))
            go_wp2_with fail
            go_roundw
            case rel => exact ⟨q, l2, base * 2, v2, f, rfl, rfl, by go_num, by omega, by omega, by omega, by omega, Lib.hid (.inr (by omega)), by omega, hB, kB, hsz, hown, hlen, Lib.hid (by rw [← HL2.out, hI.out, HE.out])⟩
            case measure => simp [intOf]; omega
        · have HE := Lib.hid (innF_end mx per base g i q l2 (by omega))
          have hfull : base * 2 ≤ l2 := by
            rcases hup.out with h | h
            · omega
            · have e : i - 1 = per := by omega
              rw [e] at h
              have := upF_full base per a7
              omega
          have hd : decide (i ≤ per) = false := by simp; omega
          go_wp2_with fail
          go_roundw
          case rel => exact ⟨q, l2, base * 2, v2, f, rfl, rfl, by go_num, by omega, by omega, by omega, by omega, Lib.hid (.inl hfull), by omega, hB, kB, hsz, hown, hlen, Lib.hid (by rw [← HL2.out, hI.out, HE.out])⟩
          case measure => simp [intOf]; omega
    · have HE := Lib.hid (outF_end mx per f base p last hlt)
      have HR1 : Hid (R = (p, last)) := Lib.hid (by rw [← hL.out, HE.out])
      obtain ⟨g, cap, rfl, hg1, hg2⟩ := hown.form (by omega)
      obtain ⟨m, hm⟩ : ∃ m, p.length = m := ⟨_, rfl⟩
      have l1 := hown.cellAt p.length (by omega)
      rw [show ((p ++ [last]).map (Value.int .i64))[p.length]? = some (.int .i64 last) by simp, hm] at l1
      have l2 := hown.frozenAt m
      rw [hm] at hown hlen ⊢
      have HM := Lib.hid hm
      obtain ⟨d, hd⟩ : ∃ d, (if last - 4096 < 0 then 0 else last - 4096) = d := ⟨_, rfl⟩
      have hd0 : 0 ≤ d ∧ d ≤ 8200 := by rw [← hd]; split <;> omega
      have hd1 : Hid ((if 4096 < last then 4096 else last) = last - d) := Lib.hid (by rw [← hd]; split <;> split <;> omega)
      have HMX : Hid (∀ x : Ext wr, Calls Tryd.prog 37 #[.int .i64 (last - 4096)] x.w fun e w'' => e = .returned (.int .i64 d) ∧ ∃ y : Ext wr, w'' = y.w) := Lib.hid (fun x => by rw [← hd]; exact Ext.same (max0_any _ _))
      have hlt9 : decide (last < mx) = false := by simp; omega
      clear hm hd HE hL hlt hbl HI i0
      have q1 := fun x : Ext wr => x.cell l1
      have q2 := fun x : Ext wr => x.frozen l1 l2
      go_wp2_with fail
      refine region_ext_tail 14 (by kernel_rfl) (by kernel_rfl) ?_
      simp only [List.take_succ_cons, List.take_zero, List.drop_succ_cons, List.drop_zero]
      repeat (go_big_quiet_step (((go_at_call 37; exact HMX.out _))))
      refine wpQuiet_nil ?_
      intro z
      have own9 := ((own_callI hown z.le).stored m (.int .i64 (last - d))).1
      have kB9 := (z.blk kB).far (p := ⟨g, m, none⟩) (by simp only; omega) (.int .i64 (last - d))
      have hB9 := (hB.trans (z.le.mono hB.size)).setCell (p := ⟨g, m, none⟩) (by simp only; omega) (.int .i64 (last - d))
      have c9 := kB9.cell
      have f9 := kB9.frozen
      go_wp2_with fail
      have hfin : Hid (SL = p ++ [last - d]) := Lib.hid (by rw [HS.out, HR1.out]; simp only; rw [hd1.out])
      have hlst : ((p ++ [last]).map (Value.int .i64)).set m (.int .i64 (last - d)) = (p ++ [last - d]).map (Value.int .i64) := by
        rw [← HM.out]; simp
      rw [hlst] at own9
      have own8 := ownsRow_setCell_below own9 (a := ⟨w.heap.size, 0, none⟩) (by simp only; omega) (.slice (some ⟨g, 0, none⟩) (m + 1) cap)
      have hB8 := hB9.setCell (p := ⟨w.heap.size, 0, none⟩) (by simp) (.slice (some ⟨g, 0, none⟩) (m + 1) cap)
      have hml : SL.length = m + 1 := by rw [hfin.out, ← HM.out]; simp
      refine bodyPost_ret (v := .tuple #[.agg #[.slice (some ⟨g, 0, none⟩) (m + 1) cap], .int .i64 0]) (by simp [results, Tryd.results26, go_sem, c9]) rfl ⟨_, rfl, ?_, hB8⟩
      rw [hml, hfin.out]
      exact ⟨own8.1, own8.2.imp id (fun ⟨g, c, cur, e1, e2, e3⟩ => ⟨g, c, cur, e1, by omega, e3⟩)⟩
end Go.Proofs.YtiohcegkkpeodaaDoor
