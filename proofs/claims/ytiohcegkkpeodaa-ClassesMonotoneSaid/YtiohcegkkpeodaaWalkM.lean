/- Walks: Steps of the reference; Steps of both where a number is refused. -/
import Derived.Test.YtiohcegkkpeodaaWalkI
namespace Go.Pol
theorem upF_more (num per nx : Int) (hp : 1 ≤ per) (hm : nx % 8 = 0) (h : nx * per < num) : nx + 8 ≤ upF num per := by
  have h1 := upF_lo num per (by omega)
  have h2 : nx < upF num per := by
    by_cases e : nx < upF num per
    · exact e
    · exfalso
      have := Int.mul_le_mul_of_nonneg_right (show upF num per ≤ nx by omega) (show 0 ≤ per by omega)
      omega
  have := upF_mod num per
  omega
theorem upF_here (num per nx : Int) (hp : 1 ≤ per) (hm : nx % 8 = 0) (hle : nx ≤ upF num per) (h : num ≤ nx * per) : upF num per = nx := by
  have h1 := upF_hi num per (by omega)
  have h3 : nx * per + 8 * per = (nx + 8) * per := by rw [Int.add_mul]
  have h2 : upF num per < nx + 8 := Int.lt_of_mul_lt_mul_right (show upF num per * per < (nx + 8) * per by omega) (by omega)
  have := upF_mod num per
  omega
end Go.Pol
namespace Go.Proofs.Ytiohcegkkpeodaa
open Go Go.Proofs Go.RowKit Go.Pol
set_option maxHeartbeats 800000 in
theorem refSteps_ok (mn mx per : Int) (w : World) (h : okS mn mx per = true) :
    Calls Try.prog 15 #[.int .i64 mn, .int .i64 mx, .int .i64 per] w (TabR w (stepsL mn mx per)) := by
  obtain ⟨⟨a1, a2⟩, a3, ⟨a4, a5⟩, a6, a7, a8⟩ := okS_iff.1 h
  have s1 : isSz mn = true := isSz_iff.2 ⟨a1, a2⟩
  have s2 : isSz mx = true := isSz_iff.2 ⟨a4, a5⟩
  have s3 : (mn % 8 != 0) = false := by simp [a3]
  have s4 : decide (mx < mn) = false := by simp; omega
  have s5 : decide (per < 1) = false := by simp; omega
  have s6 : decide (8 < per) = false := by simp; omega
  have a9 : 8 ≤ mn := by omega
  have HS : Hid (stepsL mn mx per = (outF mx per 4096 mn [] mn).1 ++ [if 4096 < (outF mx per 4096 mn [] mn).2 then 4096 else (outF mx per 4096 mn [] mn).2]) := Lib.hid rfl
  obtain ⟨R, hR⟩ : ∃ R, outF mx per 4096 mn [] mn = R := ⟨_, rfl⟩
  rw [hR] at HS
  have HR := Lib.hid hR
  clear hR a3 h
  obtain ⟨i0, hi0, hz0, hz1, hz2⟩ := info_parts info_int_
  have HI := Lib.hid (And.intro hi0 (And.intro hz0 (And.intro hz1 hz2)))
  clear hi0 hz0 hz1 hz2
  generalize stepsL mn mx per = SL at *
  go_enter Try.func15, Try.ntmps15
  go_wp2_with (go_at_call 37; refine (refSize_any _ _).mono ?_; rintro e w' ⟨rfl, rfl⟩)
  have hB0 : Below w.heap.size w ((w.alloc (.cells #[.slice none 0 0] 24)).alloc (.cells #[.int .i64 mn] 3)) := ((Below.refl _ _).alloc (Nat.le_refl _) _).alloc (by simp) _
  have kB0 := (Blk.new w 24 #[.slice none 0 0]).alloc (.cells #[.int .i64 mn] 3)
  have own0 := World.ownsRow_lit (base := w.heap.size + 1) (e := 3) (size := 1) (w.alloc (.cells #[.slice none 0 0] 24)) #[.int .i64 mn] 1 (by simp) (by unfold maxLen; omega) rfl
  clear s1 s2 s3 s4 s5 s6
  go_loopw [8, 9] (fun s8 s9 wr => ∃ (p : List Int) (last base : Int) (v : Value) (f : Nat), v = s8 ∧ s9 = .int .i64 base ∧ 8 ≤ base ∧ base ≤ 8200 ∧ 8 ≤ last ∧ last ≤ 8200 ∧ Hid (base ≤ last ∨ mx ≤ last) ∧ mx - base ≤ f ∧ Below w.heap.size w wr ∧ Blk wr w.heap.size 24 #[.slice none 0 0] ∧ w.heap.size + 1 ≤ wr.heap.size ∧ wr.ownsRow (w.heap.size + 1) 3 1 v (p.length + 1) ((p ++ [last]).map (Value.int .i64)) ∧ (p.length : Int) + 1 ≤ last ∧ Hid (outF mx per f base p last = R)) (fun _ s9 _ => (10000 - intOf s9).toNat)
  case atStart => exact ⟨[], mn, mn, _, 4096, rfl, rfl, by omega, by omega, by omega, by omega, Lib.hid (.inl (by omega)), by omega, hB0, kB0, by simp, by simpa using own0, by simp; omega, HR⟩
  case round =>
    clear hB0 kB0 own0
    obtain ⟨p, last, base, v, f, rfl, rfl, b1, b2, b3, b4, hbl, hf, hB, kB, hsz, hown, hlen, hL⟩ := hrel
    obtain ⟨g0, cap0, rfl, hg1, hg2⟩ := hown.form (by omega)
    obtain ⟨m0, hm0⟩ : ∃ m, p.length = m := ⟨_, rfl⟩
    have l1 := hown.cellAt p.length (by omega)
    rw [show ((p ++ [last]).map (Value.int .i64))[p.length]? = some (.int .i64 last) by simp, hm0] at l1
    have l2 := hown.frozenAt m0
    rw [hm0] at hown hlen ⊢
    have HM0 := Lib.hid hm0
    clear hm0
    by_cases hlt : last < mx
    · have b5 : base ≤ last := by rcases hbl.out with h | h <;> omega
      obtain ⟨f, rfl⟩ : ∃ g, f = g + 1 := ⟨f - 1, by omega⟩
      have HL2 : Hid (outF mx per f (base * 2) (innF mx per base 9 1 p last).1 (innF mx per base 9 1 p last).2 = R) := Lib.hid (by rw [← hL.out, outF, if_pos hlt])
      clear hL hbl
      go_wp2_with fail
      clear l1 l2
      go_loopw [8, 10] (fun s8 s10 wx => ∃ (q : List Int) (l2 i : Int) (v2 : Value) (g : Nat), v2 = s8 ∧ s10 = .int .i64 i ∧ 1 ≤ i ∧ i ≤ per + 1 ∧ per + 1 - i ≤ g ∧ base ≤ l2 ∧ l2 ≤ 8200 ∧ Below w.heap.size w wx ∧ Blk wx w.heap.size 24 #[.slice none 0 0] ∧ w.heap.size + 1 ≤ wx.heap.size ∧ wx.ownsRow (w.heap.size + 1) 3 1 v2 (q.length + 1) ((q ++ [l2]).map (Value.int .i64)) ∧ (q.length : Int) + 1 ≤ l2 ∧ Hid (i = 1 ∨ upF (base * (per + (i - 1))) per ≤ l2) ∧ Hid (innF mx per base 9 1 p last = innF mx per base g i q l2)) (fun _ s10 _ => (10 - intOf s10).toNat)
      case atStart => exact ⟨p, last, 1, _, 9, rfl, rfl, by omega, by omega, by omega, by omega, by omega, hB, kB, hsz, by rw [HM0.out]; exact hown, by rw [HM0.out]; exact hlen, Lib.hid (.inl rfl), Lib.hid rfl⟩
      case round =>
        clear hB kB hsz hown hlen hg1 hg2
        obtain ⟨q, l2, i, v2, g, rfl, rfl, c1, c2, c3, c4, c5, hB, kB, hsz, hown, hlen, hup, hI⟩ := hrel
        obtain ⟨gg, cap, rfl, hg1, hg2⟩ := hown.form (by omega)
        obtain ⟨m, hm⟩ : ∃ m, q.length = m := ⟨_, rfl⟩
        have d1 := hown.cellAt q.length (by omega)
        rw [show ((q ++ [l2]).map (Value.int .i64))[q.length]? = some (.int .i64 l2) by simp, hm] at d1
        rw [hm] at hown hlen ⊢
        have HM := Lib.hid hm
        clear hm
        by_cases hi : i ≤ per
        · by_cases hl : l2 < mx
          · obtain ⟨g, rfl⟩ : ∃ k, g = k + 1 := ⟨g - 1, by omega⟩
            have u1 := upF_lt base per i (by omega) a7 hi
            have u2 := upF_pos base per i (by omega) a7 (by omega)
            have HE1 := Lib.hid (innF_more mx per base g i q l2 hi hl)
            have HE2 := Lib.hid (innF_pass mx per base g i q l2 hi hl)
            have hu3 : Hid (upF (base * (per + (i + 1 - 1))) per = upF (base * (per + i)) per) := Lib.hid (by rw [show i + 1 - 1 = i by omega])
            have HX1 := Lib.hid (fun nx => upF_more (base * (per + i)) per nx a7)
            have HX2 := Lib.hid (fun nx => upF_here (base * (per + i)) per nx a7)
            rw [Int.mul_add] at HX1 HX2
            have hu8 := upF_mod (base * (per + i)) per
            obtain ⟨u, hu⟩ : ∃ u, upF (base * (per + i)) per = u := ⟨_, rfl⟩
            rw [← Int.mul_add] at HX1 HX2
            rw [hu] at HE1 HE2 u1 u2 hu3 HX1 HX2 hu8
            rw [Int.mul_add] at HX1 HX2
            clear hu
            have p1 := mul_abs base per 4096 8 (by omega) (by omega)
            have p2 := mul_abs base i 4096 8 (by omega) (by omega)
            have w1 := mul_wrap64 base per (by omega) (by omega)
            have w2 := mul_wrap64 base i (by omega) (by omega)
            go_wp2_with fail
            go_loop [11] (fun s11 => ∃ nx : Int, s11 = .int .i64 nx ∧ nx % 8 = 0 ∧ 8 ≤ nx ∧ nx ≤ u) (fun s11 => (u - intOf s11).toNat)
            case atStart => exact ⟨8, rfl, by omega, by omega, by omega⟩
            case round =>
              obtain ⟨nx, rfl, x1, x2, x3⟩ := hrel
              have w3 := mul_wrap64 nx per (by omega) (by omega)
              by_cases hx : nx * per < base * per + base * i
              · have x4 := HX1.out nx x1 hx
                go_wp2_with fail
                go_round
                case rel => exact ⟨nx + 8, rfl, by omega, by omega, by omega⟩
                case measure => simp [intOf]; omega
              · obtain rfl := HX2.out nx x1 x3 (by omega)
                by_cases hm : l2 < u
                · have hbA : Below wr.heap.size wr (wr.alloc (.cells #[.int .i64 u] 3)) := (Below.refl _ _).alloc (Nat.le_refl _) _
                  have hownA := own_callI hown hbA
                  have hnews := World.news_of_block (w := wr.alloc (Obj.cells #[.int .i64 u] 3)) (heap_alloc_new wr _)
                  have hone : ∀ z ∈ [Value.int .i64 u], z.oneCell' = true := by intro z hz; simp only [List.mem_singleton] at hz; subst hz; rfl
                  have h63 : m + 1 + 1 ≤ maxLen := by unfold maxLen; omega
                  have hbase : w.heap.size + 1 ≤ (wr.alloc (Obj.cells #[.int .i64 u] 3)).heap.size := by have := hbA.size; omega
                  go_wp2_with (refine wpList_append_lies _ (by rfl) (.tmp 88) (.tmp 90) 22 (by rfl) (w.heap.size + 1) 3 i0 (.int .i64 0) 1 8 Try.underlying22 HI.out.1 HI.out.2.1 HI.out.2.2.1 HI.out.2.2.2 rfl (by omega) (.slice (some ⟨gg, 0, none⟩) (m + 1) cap) (m + 1) ((q ++ [l2]).map (Value.int .i64)) (by rfl) hownA ⟨wr.heap.size, 0, none⟩ 1 1 [.int .i64 u] (by rfl) (by rfl) hnews hone (by omega) h63 (by omega) hbase (wr.heap.size + 1) (by simp) ?_; intro gn cap' w1 hown1 hgrow hat hlt)
                  rw [← HM.out] at hown hown1 hlen
                  obtain ⟨hB1, kB1, own1, sz1⟩ := steps_app hB kB hsz hbA hown hown1 hgrow
                  have hfr : Value.slice (some ⟨gn, 0, none⟩) (m + 1 + 1) cap' = .slice (some ⟨gn, 0, none⟩) (q.length + 1 + 1) cap' := by rw [HM.out]
                  go_roundw
                  case rel => exact ⟨q ++ [l2], u, i + 1, _, g, hfr.symm, rfl, by omega, by omega, by omega, by omega, by omega, hB1, kB1, sz1, own1, by simp; omega, Lib.hid (.inr (by rw [hu3.out]; omega)), Lib.hid (by rw [hI.out, HE1.out hm])⟩
                  case measure => simp [intOf]; omega
                · go_wp2_with fail
                  go_roundw
                  case rel => exact ⟨q, l2, i + 1, _, g, rfl, rfl, by omega, by omega, by omega, by omega, by omega, hB, kB, hsz, by rw [HM.out]; exact hown, by rw [HM.out]; omega, Lib.hid (.inr (by rw [hu3.out]; omega)), Lib.hid (by rw [hI.out, HE2.out (by omega)])⟩
                  case measure => simp [intOf]; omega
          · have HE := Lib.hid (innF_end mx per base g i q l2 (by omega))
            go_wp2_with fail
            go_roundw
            case rel => exact ⟨q, l2, base * 2, _, f, rfl, by congr 1; omega, by omega, by omega, by omega, by omega, Lib.hid (.inr (by omega)), by omega, hB, kB, hsz, by rw [HM.out]; exact hown, by rw [HM.out]; exact hlen, Lib.hid (by rw [← HL2.out, hI.out, HE.out])⟩
            case measure => simp [intOf]; omega
        · have HE := Lib.hid (innF_end mx per base g i q l2 (by omega))
          have hfull : base * 2 ≤ l2 := by
            rcases hup.out with h | h
            · omega
            · have e : i - 1 = per := by omega
              rw [e] at h
              have := upF_full base per a7
              omega
          have hd : decide (i ≤ per) = false := by simp; omega
          go_wp2_with fail
          go_roundw
          case rel => exact ⟨q, l2, base * 2, _, f, rfl, by congr 1; omega, by omega, by omega, by omega, by omega, Lib.hid (.inl hfull), by omega, hB, kB, hsz, by rw [HM.out]; exact hown, by rw [HM.out]; exact hlen, Lib.hid (by rw [← HL2.out, hI.out, HE.out])⟩
          case measure => simp [intOf]; omega
    · have HE := Lib.hid (outF_end mx per f base p last hlt)
      have HR1 : Hid (R = (p, last)) := Lib.hid (by rw [← hL.out, HE.out])
      have kBc := kB.cell
      have kBf := kB.frozen
      clear HE hL hbl
      by_cases hgt : 4096 < last
      · have hfin : Hid (SL = p ++ [4096]) := Lib.hid (by rw [HS.out, HR1.out]; simp only; rw [if_pos hgt])
        have own9 := (hown.stored m0 (.int .i64 4096)).1
        have hlst : ((p ++ [last]).map (Value.int .i64)).set m0 (.int .i64 4096) = (p ++ [4096]).map (Value.int .i64) := by
          rw [← HM0.out]; simp
        rw [hlst] at own9
        have kB9 := kB.far (p := ⟨g0, m0, none⟩) (by simp only; omega) (.int .i64 4096)
        have hB9 := hB.setCell (p := ⟨g0, m0, none⟩) (by simp only; omega) (.int .i64 4096)
        have own8 := ownsRow_setCell_below own9 (a := ⟨w.heap.size, 0, none⟩) (by simp only; omega) (.slice (some ⟨g0, 0, none⟩) (m0 + 1) cap0)
        have hB8 := hB9.setCell (p := ⟨w.heap.size, 0, none⟩) (by simp) (.slice (some ⟨g0, 0, none⟩) (m0 + 1) cap0)
        have hml : SL.length = m0 + 1 := by rw [hfin.out, ← HM0.out]; simp
        have c9 := kB9.cell
        have f9 := kB9.frozen
        go_wp2_with fail
        refine bodyPost_ret (v := .tuple #[.agg #[.slice (some ⟨g0, 0, none⟩) (m0 + 1) cap0], .int .i64 0]) (by simp [results, Try.results15, go_sem, c9]) rfl ⟨_, rfl, ?_, hB8⟩
        rw [hml, hfin.out]
        exact ⟨own8.1, own8.2.imp id (fun ⟨g, c, cur, e1, e2, e3⟩ => ⟨g, c, cur, e1, by omega, e3⟩)⟩
      · have hfin : Hid (SL = p ++ [last]) := Lib.hid (by rw [HS.out, HR1.out]; simp only; rw [if_neg hgt])
        have own8 := ownsRow_setCell_below hown (a := ⟨w.heap.size, 0, none⟩) (by simp only; omega) (.slice (some ⟨g0, 0, none⟩) (m0 + 1) cap0)
        have hB8 := hB.setCell (p := ⟨w.heap.size, 0, none⟩) (by simp) (.slice (some ⟨g0, 0, none⟩) (m0 + 1) cap0)
        have hml : SL.length = m0 + 1 := by rw [hfin.out, ← HM0.out]; simp
        go_wp2_with fail
        refine bodyPost_ret (v := .tuple #[.agg #[.slice (some ⟨g0, 0, none⟩) (m0 + 1) cap0], .int .i64 0]) (by simp [results, Try.results15, go_sem, kBc]) rfl ⟨_, rfl, ?_, hB8⟩
        rw [hml, hfin.out]
        exact ⟨own8.1, own8.2.imp id (fun ⟨g, c, cur, e1, e2, e3⟩ => ⟨g, c, cur, e1, by omega, e3⟩)⟩
/-- a table and an error -/
def TabER (w : World) (r : List Int × Int) (e : Ending) (w' : World) : Prop := ∃ v : Value, e = .returned (.tuple #[.agg #[v], .int .i64 r.2]) ∧ w'.ownsRow w.heap.size 3 1 v r.1.length (r.1.map (Value.int .i64)) ∧ Below w.heap.size w w'
theorem steps_no (mn mx per : Int) (w : World) (h : okS mn mx per = false) : Calls Try.prog 14 #[.int .i64 mn, .int .i64 mx, .int .i64 per] w (TabER w ([], 7)) := by
  have hb : Below w.heap.size w (w.alloc (.cells #[.slice none 0 0] 24)) := (Below.refl _ _).alloc (Nat.le_refl _) _
  by_cases s1 : isSz mn = true
  case neg =>
    have s1' : isSz mn = false := by simpa using s1
    clear s1
    go_enter Try.func14, Try.ntmps14
    go_wp2_with (go_at_call 34; refine (isSize_any _ _).mono ?_; rintro e w' ⟨rfl, rfl⟩)
    exact bodyPost_ret (v := .tuple #[.agg #[.slice none 0 0], .int .i64 7]) (by simp [results, Try.results14, go_sem]) rfl ⟨_, rfl, World.ownsRow_nil _ _ _ _, hb⟩
  case pos =>
    have q1 := isSz_iff.1 s1
    by_cases s2 : mn % 8 = 0
    case neg =>
      have s2' : (mn % 8 != 0) = true := by simpa using s2
      clear s2 h
      go_enter Try.func14, Try.ntmps14
      go_wp2_with (go_at_call 34; refine (isSize_any _ _).mono ?_; rintro e w' ⟨rfl, rfl⟩)
      exact bodyPost_ret (v := .tuple #[.agg #[.slice none 0 0], .int .i64 7]) (by simp [results, Try.results14, go_sem]) rfl ⟨_, rfl, World.ownsRow_nil _ _ _ _, hb⟩
    case pos =>
      have s2' : (mn % 8 != 0) = false := by simpa using s2
      by_cases s3 : isSz mx = true
      case neg =>
        have s3' : isSz mx = false := by simpa using s3
        clear s3 s2 h
        go_enter Try.func14, Try.ntmps14
        go_wp2_with (go_at_call 34; refine (isSize_any _ _).mono ?_; rintro e w' ⟨rfl, rfl⟩)
        exact bodyPost_ret (v := .tuple #[.agg #[.slice none 0 0], .int .i64 7]) (by simp [results, Try.results14, go_sem]) rfl ⟨_, rfl, World.ownsRow_nil _ _ _ _, hb⟩
      case pos =>
        by_cases s4 : mx < mn
        · have s4' : decide (mx < mn) = true := by simpa using s4
          clear s2 h
          go_enter Try.func14, Try.ntmps14
          go_wp2_with (go_at_call 34; refine (isSize_any _ _).mono ?_; rintro e w' ⟨rfl, rfl⟩)
          exact bodyPost_ret (v := .tuple #[.agg #[.slice none 0 0], .int .i64 7]) (by simp [results, Try.results14, go_sem]) rfl ⟨_, rfl, World.ownsRow_nil _ _ _ _, hb⟩
        · have s4' : decide (mx < mn) = false := by simpa using s4
          by_cases s5 : per < 1
          · have s5' : decide (per < 1) = true := by simpa using s5
            clear s2 h
            go_enter Try.func14, Try.ntmps14
            go_wp2_with (go_at_call 34; refine (isSize_any _ _).mono ?_; rintro e w' ⟨rfl, rfl⟩)
            exact bodyPost_ret (v := .tuple #[.agg #[.slice none 0 0], .int .i64 7]) (by simp [results, Try.results14, go_sem]) rfl ⟨_, rfl, World.ownsRow_nil _ _ _ _, hb⟩
          · have s5' : decide (per < 1) = false := by simpa using s5
            by_cases s6 : 8 < per
            · have s6' : decide (8 < per) = true := by simpa using s6
              clear s2 h
              go_enter Try.func14, Try.ntmps14
              go_wp2_with (go_at_call 34; refine (isSize_any _ _).mono ?_; rintro e w' ⟨rfl, rfl⟩)
              exact bodyPost_ret (v := .tuple #[.agg #[.slice none 0 0], .int .i64 7]) (by simp [results, Try.results14, go_sem]) rfl ⟨_, rfl, World.ownsRow_nil _ _ _ _, hb⟩
            · exfalso
              have := (okS_iff (mn := mn) (mx := mx) (per := per)).2 ⟨isSz_iff.1 s1, s2, isSz_iff.1 s3, by omega, by omega, by omega⟩
              rw [h] at this
              cases this
theorem refSteps_no (mn mx per : Int) (w : World) (h : okS mn mx per = false) : Calls Try.prog 15 #[.int .i64 mn, .int .i64 mx, .int .i64 per] w (TabER w ([], 7)) := by
  have hb : Below w.heap.size w (w.alloc (.cells #[.slice none 0 0] 24)) := (Below.refl _ _).alloc (Nat.le_refl _) _
  by_cases s1 : isSz mn = true
  case neg =>
    have s1' : isSz mn = false := by simpa using s1
    clear s1
    go_enter Try.func15, Try.ntmps15
    go_wp2_with (go_at_call 37; refine (refSize_any _ _).mono ?_; rintro e w' ⟨rfl, rfl⟩)
    exact bodyPost_ret (v := .tuple #[.agg #[.slice none 0 0], .int .i64 7]) (by simp [results, Try.results15, go_sem]) rfl ⟨_, rfl, World.ownsRow_nil _ _ _ _, hb⟩
  case pos =>
    have q1 := isSz_iff.1 s1
    by_cases s2 : mn % 8 = 0
    case neg =>
      have s2' : (mn % 8 != 0) = true := by simpa using s2
      clear s2 h
      go_enter Try.func15, Try.ntmps15
      go_wp2_with (go_at_call 37; refine (refSize_any _ _).mono ?_; rintro e w' ⟨rfl, rfl⟩)
      exact bodyPost_ret (v := .tuple #[.agg #[.slice none 0 0], .int .i64 7]) (by simp [results, Try.results15, go_sem]) rfl ⟨_, rfl, World.ownsRow_nil _ _ _ _, hb⟩
    case pos =>
      have s2' : (mn % 8 != 0) = false := by simpa using s2
      by_cases s3 : isSz mx = true
      case neg =>
        have s3' : isSz mx = false := by simpa using s3
        clear s3 s2 h
        go_enter Try.func15, Try.ntmps15
        go_wp2_with (go_at_call 37; refine (refSize_any _ _).mono ?_; rintro e w' ⟨rfl, rfl⟩)
        exact bodyPost_ret (v := .tuple #[.agg #[.slice none 0 0], .int .i64 7]) (by simp [results, Try.results15, go_sem]) rfl ⟨_, rfl, World.ownsRow_nil _ _ _ _, hb⟩
      case pos =>
        by_cases s4 : mx < mn
        · have s4' : decide (mx < mn) = true := by simpa using s4
          clear s2 h
          go_enter Try.func15, Try.ntmps15
          go_wp2_with (go_at_call 37; refine (refSize_any _ _).mono ?_; rintro e w' ⟨rfl, rfl⟩)
          exact bodyPost_ret (v := .tuple #[.agg #[.slice none 0 0], .int .i64 7]) (by simp [results, Try.results15, go_sem]) rfl ⟨_, rfl, World.ownsRow_nil _ _ _ _, hb⟩
        · have s4' : decide (mx < mn) = false := by simpa using s4
          by_cases s5 : per < 1
          · have s5' : decide (per < 1) = true := by simpa using s5
            clear s2 h
            go_enter Try.func15, Try.ntmps15
            go_wp2_with (go_at_call 37; refine (refSize_any _ _).mono ?_; rintro e w' ⟨rfl, rfl⟩)
            exact bodyPost_ret (v := .tuple #[.agg #[.slice none 0 0], .int .i64 7]) (by simp [results, Try.results15, go_sem]) rfl ⟨_, rfl, World.ownsRow_nil _ _ _ _, hb⟩
          · have s5' : decide (per < 1) = false := by simpa using s5
            by_cases s6 : 8 < per
            · have s6' : decide (8 < per) = true := by simpa using s6
              clear s2 h
              go_enter Try.func15, Try.ntmps15
              go_wp2_with (go_at_call 37; refine (refSize_any _ _).mono ?_; rintro e w' ⟨rfl, rfl⟩)
              exact bodyPost_ret (v := .tuple #[.agg #[.slice none 0 0], .int .i64 7]) (by simp [results, Try.results15, go_sem]) rfl ⟨_, rfl, World.ownsRow_nil _ _ _ _, hb⟩
            · exfalso
              have := (okS_iff (mn := mn) (mx := mx) (per := per)).2 ⟨isSz_iff.1 s1, s2, isSz_iff.1 s3, by omega, by omega, by omega⟩
              rw [h] at this
              cases this
theorem steps_any (mn mx per : Int) (w : World) : Calls Try.prog 14 #[.int .i64 mn, .int .i64 mx, .int .i64 per] w (TabER w (stepsF mn mx per)) := by
  cases h : okS mn mx per
  · rw [stepsF, if_neg (by simp [h])]; exact steps_no mn mx per w h
  · rw [stepsF, if_pos h]; exact steps_ok mn mx per w h
theorem refSteps_any (mn mx per : Int) (w : World) : Calls Try.prog 15 #[.int .i64 mn, .int .i64 mx, .int .i64 per] w (TabER w (stepsF mn mx per)) := by
  cases h : okS mn mx per
  · rw [stepsF, if_neg (by simp [h])]; exact refSteps_no mn mx per w h
  · rw [stepsF, if_pos h]; exact refSteps_ok mn mx per w h
end Go.Proofs.Ytiohcegkkpeodaa
