/- Walks: the main body of Best. -/
import Derived.Test.YtiohcegkkpeodaaDoorWalkF
import Derived.Deep.CutBlock
import Derived.Deep.RegionHeldLaw
import Derived.Deep.AppendLies
namespace Go.Proofs.YtiohcegkkpeodaaDoor
open Go Go.Proofs Go.RowKit Go.Pol

theorem info_int : (Tryd.prog.info? 3).map (fun i => (i.zero, i.size, i.bytes)) = some (some (.int .i64 0), 1, 8) := by kernel_rfl

theorem own_low {w : World} {base : Nat} {e : TypeId} {size n : Nat} {v : Value} {xs : List Value} (h : w.ownsRow base e size v n xs) {b : Nat} (hb : b < base) : some b ≠ v.ownBlock := by
  rcases h.2 with ⟨rfl, _⟩ | ⟨g, cap, cur, rfl, hg, _⟩
  · simp [Value.ownBlock]
  · simp only [Value.ownBlock]; intro e1; injection e1; omega
theorem own_mono {w : World} {base base' : Nat} {e : TypeId} {size n : Nat} {v : Value} {xs : List Value} (h : w.ownsRow base e size v n xs) (hb : base' ≤ base) : w.ownsRow base' e size v n xs :=
  ⟨h.1, h.2.imp id (fun ⟨g, c, cur, e1, e2, e3⟩ => ⟨g, c, cur, e1, by omega, e3⟩)⟩
theorem app_round {wq wa w1 : World} {bt g cap : Nat} {T : TypeId} {v : Value} {n : Nat} {xs ys : List Value} (hsq : bt + 1 ≤ wq.heap.size) (hbW : Below wq.heap.size wq wa) (hownW : wa.ownsRow (bt + 1) 3 1 v n xs)
    (hown1 : w1.ownsRow (bt + 1) 3 1 (.slice (some ⟨g, 0, none⟩) (n + 1) cap) (n + 1) (xs ++ ys)) (hgrow : wa.grownBy w1 v.ownBlock) (kT1 : Blk w1 bt T #[v]) :
    Below bt wq (w1.setCell ⟨bt, 0, none⟩ (.slice (some ⟨g, 0, none⟩) (n + 1) cap)) ∧ Blk (w1.setCell ⟨bt, 0, none⟩ (.slice (some ⟨g, 0, none⟩) (n + 1) cap)) bt T #[.slice (some ⟨g, 0, none⟩) (n + 1) cap] ∧
    (w1.setCell ⟨bt, 0, none⟩ (.slice (some ⟨g, 0, none⟩) (n + 1) cap)).ownsRow (bt + 1) 3 1 (.slice (some ⟨g, 0, none⟩) (n + 1) cap) (n + 1) (xs ++ ys) ∧ bt + 1 ≤ (w1.setCell ⟨bt, 0, none⟩ (.slice (some ⟨g, 0, none⟩) (n + 1) cap)).heap.size := by
  have hb1 : Below bt wq w1 := (hbW.mono (by omega)).grown hgrow (by have := hbW.size; omega) (fun k hk => by have := (hownW.lt k hk).1; omega)
  have hb2 := hb1.setCell (p := ⟨bt, 0, none⟩) (Nat.le_refl _) (.slice (some ⟨g, 0, none⟩) (n + 1) cap)
  refine ⟨hb2, ?_, ownsRow_setCell_below hown1 (by simp) _, ?_⟩
  · have := kT1.set_ 0 (.slice (some ⟨g, 0, none⟩) (n + 1) cap); simpa using this
  · have := hb2.size; omega
set_option maxRecDepth 100000
set_option maxHeartbeats 4000000 in
theorem best_ok (A : Option Addr) (n cap : Nat) (us : List (Int × Int)) (k : Int) (w : World) (hn : us.length = n) (hm : n ≤ maxLen) (hr : RU w w.heap.size A us) (he : chkU us = 0) (hn1 : 1 ≤ n) (hk1 : 1 ≤ k) (hk2 : k ≤ 64) (K : Nat) (hK : K = min k.toNat n) :
    Calls Tryd.prog 7 #[.slice A n cap, .int .i64 k] w fun e w' => ∃ v : Value, e = .returned (.tuple #[.agg #[v], .int .i64 (rowF us K 0), .int .i64 0]) ∧ w'.ownsRow w.heap.size 3 1 v (recon us (mSel us K K) 0).length ((recon us (mSel us K K) 0).map (Value.int .i64)) ∧ Below w.heap.size w w' := by
  have HCK := Lib.hid (fun W (h : RU W W.heap.size A us) => checkUse_any A n cap us W hn hm h)
  unfold maxLen at hm
  have hn' := Lib.hid hn
  clear hn
  have hb0 : Below w.heap.size w ((w.alloc (Obj.cells #[Value.slice A n cap] 31)).alloc (Obj.cells #[Value.slice none 0 0] 27)) := ((Below.refl _ _).alloc (Nat.le_refl _) _).alloc (by simp) _
  have hr0 := (hr.below hb0).more (B' := ((w.alloc (Obj.cells #[Value.slice A n cap] 31)).alloc (Obj.cells #[Value.slice none 0 0] 27)).heap.size) (by simp; omega)
  have hk1' : decide (k < 1) = false := by simp; omega
  have hk2' : decide (64 < k) = false := by simp; omega
  have hn0 : ((n : Int) == 0) = false := by simp; omega
  have he' : (chkU us != 0) = false := by simpa using he
  have hok := Lib.hid (chkU_ok he)
  clear he
  go_enter Tryd.func7, Tryd.ntmps7
  go_upto_region 9 with (go_at_call 20; refine (HCK.out _ hr0).mono ?_; rintro e w1 ⟨rfl, hq⟩; have k1 := (((Blk.new w 31 #[Value.slice A n cap]).alloc (.cells #[Value.slice none 0 0] 27)).call hq); have k2 := (Blk.new (w.alloc (.cells #[Value.slice A n cap] 31)) 27 #[Value.slice none 0 0]).call hq; have c1 := k1.cell; have c2 := k2.cell)
  have hn200 : n ≤ 200 := by have := hok.out.len; have := hn'.out; omega
  have hK1 : 1 ≤ K := by omega
  have hK2 : K ≤ n := by omega
  have hK3 : K ≤ 64 := by omega
  have hK' := Lib.hid hK
  clear hK
  go_cut [1] (fun s wx => s = .int .i64 K ∧ wx = w1)
  case first =>
    go_wp2_with fail
    all_goals (go_meet; exact ⟨by congr 1; have := hK'.out; omega, rfl⟩)
  case rest =>
    obtain ⟨rfl, rfl⟩ := hcut
    have hb1 : Below w.heap.size w wc := hb0.trans (hq.mono (by simp; omega))
    have hsz1 : w.heap.size + 2 ≤ wc.heap.size := by have := hq.size; simpa using this
    have k2' : Blk wc (w.heap.size + 1) 27 #[Value.slice none 0 0] := by simpa using k2
    clear hq hr0 hb0 hk1' hk2' hn0 he' HCK c1 c2 hk1 hk2 hK' k2 k
    generalize chkU us = ck
    go_upto_region 10 with fail
    refine best_makes _ _ n (by omega) rfl rfl ?_
    intro bo bb go gb w2 ho1 ho2 ho3 ho4 hne1 hne2 kbo kbb kgo kgb hbw
    simp only [bput, Act.put, List.setIfInBounds_toArray, List.set_cons_succ, List.set_cons_zero]
    rw [show ((n + 1 : Nat) : Int) = (n : Int) + 1 by omega]
    have hb2 := hb1.trans (hbw.mono hb1.size)
    have kU := k1.call hbw
    have kR := k2'.call hbw
    have ru := hr.below hb2
    rw [fints_replicate] at kgo kgb
    have hBN : BN w bo bb go gb := ⟨by omega, by omega, by omega, by omega, hne1, hne2, kbo.ne_ kgo (by decide), kbo.ne_ kgb (by decide), kbb.ne_ kgo (by decide), kbb.ne_ kgb (by decide)⟩
    have hBM : BM us A n cap w bo bb go gb (fun s => if s ≤ 0 then objF us s else 0) (fun s => if s ≤ 0 then bytF us s else 0) w2 :=
      BM.congr ⟨hb2, kU, kR, kbo, kbb, kgo, kgb, ru⟩ (fun t _ => by split <;> rename_i e <;> simp at e <;> simp [e, objF]) (fun t _ => by split <;> rename_i e <;> simp at e <;> simp [e, bytF])
    clear hb1 k1 k2' hbw hb2 kU kR ru kbo kbb kgo kgb ho1 ho2 ho3 ho4 hne1 hne2 hsz1
    have cu := hBM.cu
    go_wp2
    clear cu
    go_loopw [56] (fun i wr => ∃ t : Nat, t ≤ n ∧ i = .int .i64 t ∧ BM us A n cap w bo bb go gb (fun s => if s ≤ t then objF us s else 0) (fun s => if s ≤ t then bytF us s else 0) wr) (fun i _ => n - (intOf i).toNat)
    case atStart => exact ⟨0, by omega, rfl, hBM⟩
    case round =>
      clear hBM
      obtain ⟨t, ht, rfl, hBM⟩ := hrel
      by_cases hlt : t < n
      · as_aux_lemma =>
        obtain ⟨ub, uo, rfl, _, hc, hd⟩ := RU.at_' hBM.us_ (k := t) (by have := hn'.out; omega)
        have hu := hok.out.at_ t (by have := hn'.out; omega)
        have htb := hok.out.tb t (by have := hn'.out; omega)
        have hob := hok.out.obj (i := t) (j := t) (Nat.le_refl _) (by have := hn'.out; omega)
        have hbb := hok.out.byt (i := t) (j := t) (Nat.le_refl _) (by have := hn'.out; omega)
        have eo := Lib.hid (show objF us (t + 1) = objF us t + (us.getD t (0,0)).2 from rfl)
        have eb := Lib.hid (show bytF us (t + 1) = bytF us t + (us.getD t (0,0)).2 * (us.getD t (0,0)).1 from rfl)
        generalize us.getD t (0,0) = u at *
        obtain ⟨sz, tm⟩ := u
        dsimp only at hc hd hu htb
        obtain ⟨hu1, hu2, hu3, hu4, _⟩ := hu
        obtain ⟨hob1, _, hob2⟩ := hob
        obtain ⟨hbb1, _, hbb2⟩ := hbb
        obtain ⟨htb1, htb2⟩ := htb
        go_upto_region 14 with fail
        obtain ⟨W1, hW1⟩ : ∃ W1, wr.alloc (.cells #[.int .i64 sz, .int .i64 tm] 48) = W1 := ⟨_, rfl⟩
        have kx : Blk W1 wr.heap.size 48 #[.int .i64 sz, .int .i64 tm] := by rw [← hW1]; exact Blk.new _ _ _
        have hBM1 := hBM.alloc (.cells #[.int .i64 sz, .int .i64 tm] 48)
        rw [hW1] at hBM1 ⊢
        clear hW1 hBM hc hd
        have e1 := fun x : Ext W1 => x.cell hBM1.co
        have e2 := fun x : Ext W1 => x.cell ((hBM1.oc t (by omega)).trans (by rw [if_pos (Nat.le_refl _)]))
        have e3 := fun x : Ext W1 => (x.blk kx).cell
        have e4 := fun x : Ext W1 => x.cell (hBM1.oc (t + 1) (by omega))
        have e5 := fun x : Ext W1 => (x.blk hBM1.og).frozen
        refine region_ext_tail 10 (by kernel_rfl) (by kernel_rfl) ?_
        simp only [List.take_succ_cons, List.take_zero, List.drop_succ_cons, List.drop_zero]
        repeat (go_big_quiet_step (fail))
        refine wpQuiet_nil ?_
        intro z
        go_wp2_with fail
        have hBM2 := (hBM1.call z.le).seto hBN (t + 1) (objF us t + tm)
        have kx2 := (z.blk kx).far (p := ⟨go, t + 1, none⟩) (kx.ne_ hBM1.og (by decide)) (.int .i64 (objF us t + tm))
        obtain ⟨W2, hW2⟩ : ∃ W2, z.w.setCell ⟨go, t + 1, none⟩ (.int .i64 (objF us t + tm)) = W2 := ⟨_, rfl⟩
        rw [hW2] at hBM2 kx2 ⊢
        clear hW2 z hBM1 kx e1 e2 e3 e4 e5
        have e1 := fun x : Ext W2 => x.cell hBM2.cb
        have e2 := fun x : Ext W2 => x.cell ((hBM2.bc t (by omega)).trans (by rw [if_pos (Nat.le_refl _)]))
        have e3 := fun x : Ext W2 => (x.blk kx2).cell
        have e4 := fun x : Ext W2 => x.cell (hBM2.bc (t + 1) (by omega))
        have e5 := fun x : Ext W2 => (x.blk hBM2.bg).frozen
        have hwm : IntKind.i64.wrap (tm * sz) = tm * sz := IntWalk.i64_in _ (by omega)
        have hwm2 : IntKind.i64.wrap (bytF us t + tm * sz) = bytF us t + tm * sz := IntWalk.i64_in _ (by omega)
        refine region_ext_tail 13 (by kernel_rfl) (by kernel_rfl) ?_
        simp only [List.take_succ_cons, List.take_zero, List.drop_succ_cons, List.drop_zero]
        repeat (go_big_quiet_step (fail))
        refine wpQuiet_nil ?_
        intro z
        go_wp2_with fail
        go_roundw
        case rel =>
          refine ⟨t + 1, by omega, by go_num, BM.congr ((hBM2.call z.le).setb hBN (t + 1) (bytF us t + tm * sz)) ?_ ?_⟩
          · intro s hs
            by_cases h1 : s = t + 1
            · rw [if_pos h1, if_pos (by omega), h1, eo.out]
            · rw [if_neg h1]
              by_cases h2 : s ≤ t
              · rw [if_pos h2, if_pos (by omega)]
              · rw [if_neg h2, if_neg (by omega)]
          · intro s hs
            by_cases h1 : s = t + 1
            · rw [if_pos h1, if_pos (by omega), h1, eb.out]
            · rw [if_neg h1]
              by_cases h2 : s ≤ t
              · rw [if_pos h2, if_pos (by omega)]
              · rw [if_neg h2, if_neg (by omega)]
        case measure => simp [intOf]; omega
      · obtain rfl : n = t := by omega
        have hBM1 : BM us A n cap w bo bb go gb (objF us) (bytF us) wr := hBM.congr (fun s hs => if_pos (by omega)) (fun s hs => if_pos (by omega))
        clear hBM hlt
        have hmk2 : ∀ W : World, (Instr.makeSlice 50 (.int .i64 ((K : Int) + 1)) (.int .i64 ((K : Int) + 1))).run Tryd.prog W = .ok (.slice (some ⟨W.heap.size, 0, none⟩) (K + 1) (K + 1)) (W.alloc (.cells (Array.replicate (K + 1) (.slice none 0 0)) 46)) := fun W => by
          obtain ⟨i0, hi0, hz0, hz1, hz2⟩ := info_parts info_s69
          exact run_makeI (P := Tryd.prog) 50 46 i0 (.slice none 0 0) Tryd.underlying50 hi0 hz0 rfl hz1 .i64 .i64 (K + 1) (by rw [hz2]; omega) (by omega) W
        go_upto_region 19 with fail
        clear hmk2
        have kL := Blk.new wr 46 (Array.replicate (K + 1) (.slice none 0 0))
        have hBM2 := hBM1.alloc (.cells (Array.replicate (K + 1) (.slice none 0 0)) 46)
        obtain ⟨W1, hW1⟩ : ∃ W1, wr.alloc (.cells (Array.replicate (K + 1) (.slice none 0 0)) 46) = W1 := ⟨_, rfl⟩
        rw [hW1] at kL hBM2 ⊢
        have hgL0 : wr.heap.size = wr.heap.size := rfl
        obtain ⟨gL, hgL⟩ : ∃ gL, wr.heap.size = gL := ⟨_, rfl⟩
        have hgL1 : w.heap.size + 2 ≤ gL := by have := hBM1.r.lt; omega
        have hgL2 : bo ≠ gL := by have := hBM1.o.lt; omega
        have hgL3 : bb ≠ gL := by have := hBM1.b.lt; omega
        have hgL4 : go ≠ gL := by have := hBM1.og.lt; omega
        have hgL5 : gb ≠ gL := by have := hBM1.bg.lt; omega
        rw [hgL] at kL ⊢
        clear hW1 hBM1 hgL hgL0
        go_wp2_with (go_at_call 22; refine (repeat_at _ (-1) _ (n + 1) _ (by omega) (Blk.new _ _ _) (by omega) (by omega)).mono ?_; rintro e W2 ⟨g0, rfl, hg0, hq2, k0⟩; have kL2 := (kL.alloc _).call hq2; have cL := kL2.cell; have fL := kL2.frozen; have hBM3 := (hBM2.alloc _).call hq2; rw [fints_ints] at k0; have c0 := (k0.cell n).trans (fints_get _ _ _ (by omega)); have f0 := k0.frozen)
        have hW3 : RC us n K w gL go gb (fun _ => g0) 0 (rowF us 0) ((W2.setCell ⟨gL, 0, none⟩ (.slice (some ⟨g0, 0, none⟩) (n + 1) (n + 1))).setCell ⟨g0, n, none⟩ (.int .i64 0)) := by
          rw [lcells_zero (fun _ => g0) K n] at kL2
          have h1 := kL2.set_ 0 (.slice (some ⟨g0, 0, none⟩) (n + 1) (n + 1))
          rw [lcells_set _ _ _ _ _ (by omega)] at h1
          have hne : gL ≠ g0 := kL2.ne_ k0 (by decide)
          have h2 := (k0.far (p := ⟨gL, 0, none⟩) (Ne.symm hne) (.slice (some ⟨g0, 0, none⟩) (n + 1) (n + 1))).set_ n (.int .i64 0)
          rw [fints_set] at h2
          refine ⟨?_, fun j hj => absurd hj (by omega), ?_, fun i j hi hj hij => absurd hij (by omega), fun j hj => ?_⟩
          · have h3 := h1.far (p := ⟨g0, n, none⟩) hne (.int .i64 0)
            have e : lcells (fun j => if j = 0 then g0 else g0) (0 + 1) K n = lcells (fun _ => g0) (0 + 1) K n := by congr 1; funext j; split <;> rfl
            rwa [e] at h3
          · rw [fints_congr (g := fun s => if s = n then 0 else -1)]
            · exact h2
            · intro s hs
              show rowF us 0 s = _
              rw [rowF, hn'.out]
          · have := hBM2.og.lt; have := hBM2.bg.lt; have := hBM2.r.lt
            simp only [World.size_alloc] at hg0
            refine ⟨by omega, by omega, by omega⟩
        have hW4 := (hBM3.far (p := ⟨gL, 0, none⟩) hgL1 hgL2 hgL3 hgL4 hgL5 (.slice (some ⟨g0, 0, none⟩) (n + 1) (n + 1))).far (p := ⟨g0, n, none⟩) (by have := hBM2.r.lt; simp only [World.size_alloc] at hg0; simp only; omega) (by have := hBM2.o.lt; simp only [World.size_alloc] at hg0; simp only; omega) (by have := hBM2.b.lt; simp only [World.size_alloc] at hg0; simp only; omega) (by have := hBM2.og.lt; simp only [World.size_alloc] at hg0; simp only; omega) (by have := hBM2.bg.lt; simp only [World.size_alloc] at hg0; simp only; omega) (.int .i64 0)
        obtain ⟨W5, hW5⟩ : ∃ W5, (W2.setCell ⟨gL, 0, none⟩ (.slice (some ⟨g0, 0, none⟩) (n + 1) (n + 1))).setCell ⟨g0, n, none⟩ (.int .i64 0) = W5 := ⟨_, rfl⟩
        rw [hW5] at hW3 hW4 ⊢
        clear hW5 kL2 cL fL k0 c0 f0 hBM3 hq2 hBM2 kL
        clear hg0
        go_loopw [15] (fun s15 wr => ∃ (p : Nat) (G : Nat → Nat), p ≤ K ∧ s15 = .int .i64 ((p : Int) + 1) ∧ BM us A n cap w bo bb go gb (objF us) (bytF us) wr ∧ RC us n K w gL go gb G p (rowF us p) wr) (fun s15 _ => K + 1 - (intOf s15).toNat)
        case atStart => exact ⟨0, _, by omega, rfl, hW4, hW3⟩
        case round =>
          clear hW3 hW4
          obtain ⟨p, G, hp, rfl, hBM, hRC⟩ := hrel
          by_cases hpK : p < K
          · as_aux_lemma =>
            have hBM1 := hBM.alloc (.cells #[Value.int .i64 (-1)] 2)
            have hLc := hRC.L
            go_wp2_with (go_at_call 22; refine (repeat_at _ (-1) _ (n + 1) _ (by omega) (Blk.new _ _ _) (by omega) (by omega)).mono ?_; rintro e W2 ⟨g1, rfl, hg1, hq2, k1⟩; have kL2 := (hLc.alloc _).call hq2; have cL := (kL2.cell (p + 1)).trans (lcells_get _ _ _ _ _ (by omega)); have fL := kL2.frozen)
            have hbq : Below wr.heap.size wr W2 := ((Below.refl _ wr).alloc (Nat.le_refl _) _).trans (hq2.mono (by simp))
            have hRC1 := hRC.next (fun _ _ => rfl) hpK g1 _ W2 hbq (by simp only [World.size_alloc] at hg1; omega) (-1) (by rw [← fints_ints]; exact k1) hBM.og.lt hBM.bg.lt (by have := hBM.r.lt; omega) rfl
            have hBM2 := (hBM.call hbq).far (p := ⟨gL, p + 1, none⟩) hgL1 hgL2 hgL3 hgL4 hgL5 (.slice (some ⟨g1, 0, none⟩) (n + 1) (n + 1))
            obtain ⟨W3, hW3⟩ : ∃ W3, W2.setCell ⟨gL, p + 1, none⟩ (.slice (some ⟨g1, 0, none⟩) (n + 1) (n + 1)) = W3 := ⟨_, rfl⟩
            obtain ⟨G1, hG1⟩ : ∃ G1 : Nat → Nat, (fun j => if j = p + 1 then g1 else G j) = G1 := ⟨_, rfl⟩
            rw [hW3] at hRC1 hBM2 ⊢
            rw [hG1] at hRC1
            clear hW3 hG1 hbq hq2 k1 kL2 cL fL hg1 hLc hBM1 hBM hRC
            go_loopw [115] (fun s115 wr => ∃ i : Nat, i ≤ n ∧ s115 = .int .i64 i ∧ BM us A n cap w bo bb go gb (objF us) (bytF us) wr ∧ RC us n K w gL go gb G1 (p + 1) (fun s => if s < i then cellL us (rowF us p) s (n - s) else -1) wr) (fun s115 _ => n - (intOf s115).toNat)
            case atStart => exact ⟨0, by omega, rfl, hBM2, hRC1.congr (fun s hs => by rw [if_neg (by omega)])⟩
            case round =>
              clear hBM2 hRC1
              obtain ⟨i, hi, rfl, hBM, hRC⟩ := hrel
              by_cases hin : i < n
              · as_aux_lemma =>
                have hRC1 : RC us n K w gL go gb G1 (p + 1) (fun s => if s < i then cellL us (rowF us p) s (n - s) else if s = i then cellL us (rowF us p) i (i - i) else -1) wr := hRC.congr (fun s hs => by
                  by_cases h1 : s < i
                  · rw [if_pos h1, if_pos h1]
                  · rw [if_neg h1, if_neg h1]
                    by_cases h2 : s = i
                    · rw [if_pos h2, Nat.sub_self]; rfl
                    · rw [if_neg h2])
                clear hRC
                go_wp2_with fail
                go_loopw [17] (fun s17 wr => ∃ j : Nat, i ≤ j ∧ j ≤ n ∧ s17 = .int .i64 j ∧ BM us A n cap w bo bb go gb (objF us) (bytF us) wr ∧ RC us n K w gL go gb G1 (p + 1) (fun s => if s < i then cellL us (rowF us p) s (n - s) else if s = i then cellL us (rowF us p) i (j - i) else -1) wr) (fun s17 _ => n - (intOf s17).toNat)
                case atStart => exact ⟨i, by omega, by omega, rfl, hBM, hRC1⟩
                case round =>
                  clear hBM hRC1
                  obtain ⟨j, hij, hj, rfl, hBM, hRC⟩ := hrel
                  by_cases hjn : j < n
                  · as_aux_lemma =>
                    have l1 := hRC.cL p (by omega) (by omega)
                    have l2 := hRC.cL (p + 1) (by omega) (by omega)
                    have l3 := hRC.cr p (j + 1) (by omega) (by omega)
                    have l4 := (hRC.cc i (by omega)).trans (by rw [if_neg (by omega), if_pos rfl])
                    have hst := Lib.hid (cellL_step us (rowF us p) i j hij)
                    have hcost := hok.out.cost hij (by have := hn'.out; omega)
                    have hrow := okU.row_bd hok.out p (j + 1)
                    have hcell := okU.cell_bd hok.out (rowF us p) (900000000000 * p) (by omega) (fun q _ => okU.row_bd hok.out p q) i (j - i) (by have := hn'.out; omega)
                    obtain ⟨hc0, hc1⟩ := hcost
                    obtain ⟨hr0, hr1⟩ := hrow
                    obtain ⟨hl0, hl1⟩ := hcell
                    obtain ⟨cst, hcst⟩ : ∃ c, costF us i j = c := ⟨_, rfl⟩
                    obtain ⟨rest, hrest⟩ : ∃ c, rowF us p (j + 1) = c := ⟨_, rfl⟩
                    obtain ⟨cur, hcur⟩ : ∃ c, cellL us (rowF us p) i (j - i) = c := ⟨_, rfl⟩
                    rw [hcst] at hc0 hc1
                    rw [hrest] at hr0 hr1 l3
                    rw [hcur] at hl0 hl1 l4
                    rw [hcst, hrest, hcur] at hst
                    have HCC := Lib.hid (fun x => cost_bm' hok.out hn'.out hBM i j hij hjn (by omega) cst hcst x)
                    replace hcst := Lib.hid hcst
                    replace hcur := Lib.hid hcur
                    clear hrest
                    have q1 := fun x : Ext wr => x.cell l1
                    have q2 := fun x : Ext wr => x.cell l2
                    have q4 := fun x : Ext wr => x.cell l4
                    have hpK' : p ≤ 64 := by omega
                    by_cases ha : 0 ≤ rest
                    · have ha' : decide (0 ≤ rest) = true := by simpa using ha
                      by_cases hb : cur < 0
                      · as_aux_lemma =>
                        have hb' : decide (cur < 0) = true := by simpa using hb
                        go_upto_region 32 with fail
                        refine region_ext (by kernel_rfl) (by kernel_rfl) ?_
                        repeat (go_big_quiet_step ((go_at_call 21; exact HCC.out _)))
                        refine wpQuiet_nil ?_
                        rintro wq ⟨⟨_, hq⟩, rfl⟩
                        have hBMq := hBM.call hq
                        have hRCq := hRC.call hq
                        go_upto_region 33 with fail
                        have HCC2 := Lib.hid (fun x => cost_bm' hok.out hn'.out hBMq i j hij hjn (by omega) cst hcst.out x)
                        have q5 := fun x : Ext wq => x.cell (hRCq.cL (p + 1) (by omega) (by omega))
                        have q6 := fun x : Ext wq => x.cell ((hRCq.cc i (by omega)).trans (by rw [if_neg (by omega), if_pos rfl]))
                        have q7 := fun x : Ext wq => (x.blk hRCq.cur).frozen
                        refine region_ext_tail 11 (by kernel_rfl) (by kernel_rfl) ?_
                        simp only [List.take_succ_cons, List.take_zero, List.drop_succ_cons, List.drop_zero]
                        repeat (go_big_quiet_step ((go_at_call 21; exact HCC2.out _)))
                        refine wpQuiet_nil ?_
                        intro z
                        go_wp2_with fail
                        go_roundw
                        case rel =>
                          have hno := hRCq.no (p + 1) (Nat.le_refl _)
                          refine ⟨j + 1, by omega, by omega, by go_num, (hBMq.call z.le).far (p := ⟨G1 (p + 1), i, none⟩) hno.2.2 (hBMq.o.ne_ hRCq.cur (by decide)) (hBMq.b.ne_ hRCq.cur (by decide)) (Ne.symm hno.1) (Ne.symm hno.2.1) _, ((hRCq.call z.le).set_ i (cst + rest)).congr (fun s hs => ?_)⟩
                          by_cases h1 : s = i
                          · rw [if_pos h1, h1, if_neg (by omega), if_pos rfl, hst.out, if_pos (by omega)]
                          · rw [if_neg h1]
                            by_cases h2 : s < i
                            · rw [if_pos h2, if_pos h2]
                            · rw [if_neg h2, if_neg h2, if_neg h1, if_neg h1]
                        case measure => simp [intOf]; omega
                      · have hb' : decide (cur < 0) = false := by simp; omega
                        by_cases hd : cst + rest < cur
                        · as_aux_lemma =>
                          have hd' : decide (cst + rest < cur) = true := by simpa using hd
                          go_upto_region 32 with fail
                          refine region_ext (by kernel_rfl) (by kernel_rfl) ?_
                          repeat (go_big_quiet_step ((go_at_call 21; exact HCC.out _)))
                          refine wpQuiet_nil ?_
                          rintro wq ⟨⟨_, hq⟩, rfl⟩
                          have hBMq := hBM.call hq
                          have hRCq := hRC.call hq
                          go_upto_region 33 with fail
                          have HCC2 := Lib.hid (fun x => cost_bm' hok.out hn'.out hBMq i j hij hjn (by omega) cst hcst.out x)
                          have q5 := fun x : Ext wq => x.cell (hRCq.cL (p + 1) (by omega) (by omega))
                          have q6 := fun x : Ext wq => x.cell ((hRCq.cc i (by omega)).trans (by rw [if_neg (by omega), if_pos rfl]))
                          have q7 := fun x : Ext wq => (x.blk hRCq.cur).frozen
                          refine region_ext_tail 11 (by kernel_rfl) (by kernel_rfl) ?_
                          simp only [List.take_succ_cons, List.take_zero, List.drop_succ_cons, List.drop_zero]
                          repeat (go_big_quiet_step ((go_at_call 21; exact HCC2.out _)))
                          refine wpQuiet_nil ?_
                          intro z
                          go_wp2_with fail
                          go_roundw
                          case rel =>
                            have hno := hRCq.no (p + 1) (Nat.le_refl _)
                            refine ⟨j + 1, by omega, by omega, by go_num, (hBMq.call z.le).far (p := ⟨G1 (p + 1), i, none⟩) hno.2.2 (hBMq.o.ne_ hRCq.cur (by decide)) (hBMq.b.ne_ hRCq.cur (by decide)) (Ne.symm hno.1) (Ne.symm hno.2.1) _, ((hRCq.call z.le).set_ i (cst + rest)).congr (fun s hs => ?_)⟩
                            by_cases h1 : s = i
                            · rw [if_pos h1, h1, if_neg (by omega), if_pos rfl, hst.out, if_pos (by omega)]
                            · rw [if_neg h1]
                              by_cases h2 : s < i
                              · rw [if_pos h2, if_pos h2]
                              · rw [if_neg h2, if_neg h2, if_neg h1, if_neg h1]
                          case measure => simp [intOf]; omega
                        · as_aux_lemma =>
                          have hd' : decide (cst + rest < cur) = false := by simp; omega
                          go_upto_region 32 with fail
                          refine region_ext (by kernel_rfl) (by kernel_rfl) ?_
                          repeat (go_big_quiet_step ((go_at_call 21; exact HCC.out _)))
                          refine wpQuiet_nil ?_
                          rintro wq ⟨⟨_, hq⟩, rfl⟩
                          have hBMq := hBM.call hq
                          have hRCq := hRC.call hq
                          go_wp2_with fail
                          go_roundw
                          case rel =>
                            refine ⟨j + 1, by omega, by omega, by go_num, hBMq, hRCq.congr (fun s hs => ?_)⟩
                            by_cases h2 : s < i
                            · rw [if_pos h2, if_pos h2]
                            · rw [if_neg h2, if_neg h2]
                              by_cases h1 : s = i
                              · rw [if_pos h1, if_pos h1, hst.out, if_neg (by omega)]; exact hcur.out
                              · rw [if_neg h1, if_neg h1]
                          case measure => simp [intOf]; omega
                    · as_aux_lemma =>
                      have ha' : decide (0 ≤ rest) = false := by simp; omega
                      go_upto_region 32 with fail
                      refine region_ext (by kernel_rfl) (by kernel_rfl) ?_
                      repeat (go_big_quiet_step ((go_at_call 21; exact HCC.out _)))
                      refine wpQuiet_nil ?_
                      rintro wq ⟨⟨_, hq⟩, rfl⟩
                      have hBMq := hBM.call hq
                      have hRCq := hRC.call hq
                      go_wp2_with fail
                      go_roundw
                      case rel =>
                        refine ⟨j + 1, by omega, by omega, by go_num, hBMq, hRCq.congr (fun s hs => ?_)⟩
                        by_cases h2 : s < i
                        · rw [if_pos h2, if_pos h2]
                        · rw [if_neg h2, if_neg h2]
                          by_cases h1 : s = i
                          · rw [if_pos h1, if_pos h1, hst.out, if_neg (by omega)]; exact hcur.out
                          · rw [if_neg h1, if_neg h1]
                      case measure => simp [intOf]; omega
                  · as_aux_lemma =>
                    obtain rfl : n = j := by omega
                    go_wp2_with fail
                    go_roundw
                    case rel =>
                      refine ⟨i + 1, by omega, by go_num, hBM, hRC.congr (fun s hs => ?_)⟩
                      by_cases h2 : s < i
                      · rw [if_pos h2, if_pos (by omega)]
                      · rw [if_neg h2]
                        by_cases h1 : s = i
                        · rw [if_pos h1, if_pos (by omega), h1]
                        · rw [if_neg h1, if_neg (by omega)]
                    case measure => simp [intOf]; omega
              · as_aux_lemma =>
                obtain rfl : n = i := by omega
                go_wp2_with fail
                go_roundw
                case rel =>
                  refine ⟨p + 1, G1, by omega, by go_num, hBM, hRC.congr (fun s hs => ?_)⟩
                  rw [rowF, hn'.out]
                case measure => simp [intOf]; omega
          · obtain rfl : K = p := by omega
            have hr0K : Hid (0 ≤ rowF us K 0) := Lib.hid (row_nonneg hok.out K 0 (by omega) (by have := hn'.out; omega))
            go_upto_block 9 with fail
            go_cut [19] (fun s19 wx => ∃ q : Nat, q + 1 ≤ K ∧ s19 = .int .i64 ((q : Int) + 1) ∧ BM us A n cap w bo bb go gb (objF us) (bytF us) wx ∧ RC us n K w gL go gb G K (rowF us K) wx ∧ Hid (mSel us K K = q + 1))
            case rest =>
              as_aux_lemma =>
              clear hBM hRC
              obtain ⟨q, hq, rfl, hBM, hRC, hS⟩ := hcut
              have hM := mSel_row us K K rfl (by omega)
              rw [hS.out] at hM
              have hR0 : Hid (0 ≤ rowF us (q + 1) 0) := Lib.hid (by rw [hM]; exact row_nonneg hok.out K 0 (by omega) (by have := hn'.out; omega))
              clear hM
              obtain ⟨i0, hi0, hz0, hz1, hz2⟩ := info_parts info_int
              have HI := Lib.hid (And.intro hi0 (And.intro hz0 (And.intro hz1 hz2)))
              clear hi0 hz0 hz1 hz2
              obtain ⟨bt, hbt⟩ : ∃ bt, wc.heap.size = bt := ⟨_, rfl⟩
              have lo := hBM.o.lt
              have lb := hBM.b.lt
              have log := hBM.og.lt
              have lbg := hBM.bg.lt
              have lr := hBM.r.lt
              have lL := hRC.L.lt
              have lG := Lib.hid (fun j hj => hRC.lt j hj)
              have kT := Blk.new wc 27 #[.slice none 0 0]
              have hBM1 := hBM.alloc (.cells #[.slice none 0 0] 27)
              have hRC1 := hRC.alloc (.cells #[.slice none 0 0] 27)
              have hsz : bt + 1 ≤ (wc.alloc (.cells #[.slice none 0 0] 27)).heap.size := by simp; omega
              rw [hbt] at kT lo lb log lbg lr lL lG
              go_wp2_with fail
              obtain ⟨W1, hW1⟩ : ∃ W1, wc.alloc (.cells #[.slice none 0 0] 27) = W1 := ⟨_, rfl⟩
              rw [hW1] at kT hBM1 hRC1 hsz ⊢
              clear hW1 hbt hBM hRC
              go_loopw [19, 21] (fun s19 s21 wr => ∃ (c i : Nat) (x : Int) (acc : List Int) (v : Value), i ≤ n ∧ s19 = .int .i64 x ∧ x = c ∧ s21 = .int .i64 i ∧ c ≤ K ∧ (i < n → 1 ≤ c) ∧ Hid (0 ≤ rowF us c i) ∧ bt + 1 ≤ wr.heap.size ∧ BM us A n cap w bo bb go gb (objF us) (bytF us) wr ∧ RC us n K w gL go gb G K (rowF us K) wr ∧ Blk wr bt 27 #[v] ∧ wr.ownsRow (bt + 1) 3 1 v acc.length (acc.map (Value.int .i64)) ∧ acc.length ≤ i ∧ Hid (acc ++ recon us c i = recon us (q + 1) 0)) (fun _ s21 _ => n - (intOf s21).toNat)
              case atStart => exact ⟨q + 1, 0, _, [], .slice none 0 0, by omega, rfl, by omega, rfl, by omega, by omega, hR0, hsz, hBM1, hRC1, kT, World.ownsRow_nil _ _ _ _, by simp, Lib.hid rfl⟩
              case round =>
                clear hBM1 hRC1 kT hsz
                obtain ⟨c, i, x, acc, v, hi, rfl, hx, rfl, hc, hc1, hrow, hsz, hBM, hRC, kT, hown, hacc, hL⟩ := hrel
                by_cases hin : i < n
                · as_aux_lemma =>
                  obtain ⟨c, rfl⟩ : ∃ d, c = d + 1 := ⟨c - 1, by have := hc1 hin; omega⟩
                  obtain rfl : x = (c : Int) + 1 := by omega
                  clear hx
                  have hlt : i < us.length := by have := hn'.out; omega
                  obtain ⟨j0, h1, h2, h3, h4⟩ := row_attain us c i hlt hrow.out
                  have hj0 : j0 < n := by have := hn'.out; omega
                  have HJ := Lib.hid (show 0 ≤ rowF us c (j0 + 1) ∧ costF us i j0 + rowF us c (j0 + 1) = rowF us (c + 1) i from ⟨h3, h4⟩)
                  clear h2 h3 h4 hlt hc1
                  go_wp2_with fail
                  go_loopw [22] (fun s22 wx => ∃ j : Nat, i ≤ j ∧ j ≤ j0 ∧ s22 = .int .i64 j ∧ bt + 1 ≤ wx.heap.size ∧ BM us A n cap w bo bb go gb (objF us) (bytF us) wx ∧ RC us n K w gL go gb G K (rowF us K) wx ∧ Blk wx bt 27 #[v] ∧ wx.ownsRow (bt + 1) 3 1 v acc.length (acc.map (Value.int .i64)) ∧ Hid (pickF us (c + 1) i (n - j) j = pickF us (c + 1) i (n - i) i)) (fun s22 _ => j0 - (intOf s22).toNat)
                  case atStart => exact ⟨i, Nat.le_refl _, h1, rfl, hsz, hBM, hRC, kT, hown, Lib.hid rfl⟩
                  case round =>
                    clear hBM hRC kT hsz hown
                    obtain ⟨j, hij, hj, rfl, hsz, hBM, hRC, kT, hown, hP⟩ := hrel
                    have hjn : j < n := by omega
                    have hpf : Hid (pickF us (c + 1) i (n - j) j = if rowF us c (j + 1) < 0 ∨ costF us i j + rowF us c (j + 1) ≠ rowF us (c + 1) i then pickF us (c + 1) i (n - (j + 1)) (j + 1) else j) := Lib.hid (by rw [show n - j = n - (j + 1) + 1 by omega, pickF]; rfl)
                    have hjj : Hid (rowF us c (j + 1) < 0 ∨ costF us i j + rowF us c (j + 1) ≠ rowF us (c + 1) i → j < j0) := Lib.hid (by
                      intro h
                      by_cases e : j = j0
                      · exfalso; subst e; have := HJ.out; omega
                      · omega)
                    have l1 := hRC.cL c (by omega) (by omega)
                    have l2 := hRC.cL (c + 1) (by omega) (by omega)
                    have l3 := hRC.ca c (j + 1) (by omega) (by omega)
                    have l4 := hRC.ca (c + 1) i (by omega) (by omega)
                    have hcost := hok.out.cost hij (by have := hn'.out; omega)
                    have hrb := okU.row_bd hok.out c (j + 1)
                    obtain ⟨hc0, hc1⟩ := hcost
                    obtain ⟨hr0, hr1⟩ := hrb
                    obtain ⟨cst, hcst⟩ : ∃ c, costF us i j = c := ⟨_, rfl⟩
                    obtain ⟨rest, hrest⟩ : ∃ x, rowF us c (j + 1) = x := ⟨_, rfl⟩
                    obtain ⟨cur, hcur⟩ : ∃ x, rowF us (c + 1) i = x := ⟨_, rfl⟩
                    rw [hcst] at hc0 hc1
                    rw [hrest] at hr0 hr1 l3
                    rw [hcur] at l4
                    rw [hcst, hrest, hcur] at hpf hjj
                    have HCC := Lib.hid (fun x => cost_bm' hok.out hn'.out hBM i j hij hjn (by omega) cst hcst x)
                    replace hcst := Lib.hid hcst
                    replace hcur := Lib.hid hcur
                    replace hrest := Lib.hid hrest
                    have q1 := fun x : Ext wr => x.cell l1
                    have q2 := fun x : Ext wr => x.cell l2
                    have q3 := fun x : Ext wr => x.cell l3
                    have q4 := fun x : Ext wr => x.cell l4
                    have hc64 : c ≤ 64 := by omega
                    by_cases ha : rest < 0
                    · as_aux_lemma =>
                      have ha' : decide (rest < 0) = true := by simpa using ha
                      have hjl := hjj.out (Or.inl ha)
                      go_upto_region 43 with fail
                      refine region_ext (by kernel_rfl) (by kernel_rfl) ?_
                      repeat (go_big_quiet_step (((go_at_call 21; exact HCC.out _))))
                      refine wpQuiet_nil ?_
                      rintro wq ⟨⟨_, hwq⟩, rfl⟩
                      go_wp2_with fail
                      go_roundw
                      case rel => exact ⟨j + 1, by omega, by omega, by go_num, by have := hwq.size; omega, hBM.call hwq, hRC.call hwq, kT.call hwq, own_call hown hwq, Lib.hid (by rw [← hP.out, hpf.out, if_pos (Or.inl ha)])⟩
                      case measure => simp [intOf]; omega
                    · have ha' : decide (rest < 0) = false := by simp; omega
                      by_cases hd : cst + rest = cur
                      · as_aux_lemma =>
                        have hd' : (cst + rest != cur) = false := by simpa using hd
                        have hpk : Hid (pickF us (c + 1) i (n - i) i = j) := Lib.hid (by rw [← hP.out, hpf.out, if_neg (by rintro (h | h); exact ha h; exact h hd)])
                        go_upto_region 43 with fail
                        refine region_ext (by kernel_rfl) (by kernel_rfl) ?_
                        repeat (go_big_quiet_step (((go_at_call 21; exact HCC.out _))))
                        refine wpQuiet_nil ?_
                        rintro wq ⟨⟨_, hwq⟩, rfl⟩
                        go_upto_region 45 with fail
                        have kTq := kT.call hwq
                        have hownq := own_call hown hwq
                        have hBMq := hBM.call hwq
                        have hRCq := hRC.call hwq
                        obtain ⟨ua, uo, rfl, hua, huc, _⟩ := RU.at_' hBMq.us_ (k := j) (by have := hn'.out; omega)
                        obtain ⟨sz, hsz'⟩ : ∃ z, (us.getD j (0, 0)).1 = z := ⟨_, rfl⟩
                        rw [hsz'] at huc
                        replace hsz' := Lib.hid hsz'
                        have hcu := hBMq.cu
                        have hcb : wq.cell? ⟨bt, 0, none⟩ = some v := kTq.cell 0
                        have hsq : bt + 1 ≤ wq.heap.size := by have := hwq.size; omega
                        have hbW : Below wq.heap.size wq ((wq.alloc (Obj.cells #[.int .i64 sz] 3)).drew) := ((Below.refl _ _).alloc (Nat.le_refl _) _).drew
                        have hownW := own_call hownq hbW
                        have hnews := World.news_of_block (w := (wq.alloc (Obj.cells #[.int .i64 sz] 3)).drew) (heap_alloc_new wq _)
                        have hone : ∀ u ∈ [Value.int .i64 sz], u.oneCell' = true := by intro u hu; simp only [List.mem_singleton] at hu; subst hu; rfl
                        have n1 := own_low hownq (b := bt) (by omega)
                        have n2 := own_low hownq (b := w.heap.size) (by omega)
                        have n3 := own_low hownq (b := ua) (by omega)
                        have h63 : acc.length + 1 ≤ maxLen := by unfold maxLen; omega
                        have hbase : bt + 1 ≤ ((wq.alloc (Obj.cells #[.int .i64 sz] 3)).drew).heap.size := by have := hbW.size; omega
                        have kTW := kTq.call hbW
                        have hcb2 : ((wq.alloc (Obj.cells #[.int .i64 sz] 3)).drew).cell? ⟨bt, 0, none⟩ = some v := kTW.cell 0
                        have hcb3 : (wq.alloc (Obj.cells #[.int .i64 sz] 3)).cell? ⟨bt, 0, none⟩ = some v := kTW.cell 0
                        go_region_law ((refine step_append_lies _ (by rfl) (.tmp 238) (.tmp 244) 25 (by rfl) (bt + 1) 3 i0 (.int .i64 0) 1 8 Tryd.underlying25 HI.out.1 HI.out.2.1 HI.out.2.2.1 HI.out.2.2.2 rfl (by omega) v acc.length (acc.map (Value.int .i64)) (by rfl) hownW ⟨wq.heap.size, 0, none⟩ 1 1 [.int .i64 sz] (by rfl) (by rfl) hnews hone (by omega) h63 (by omega) hbase (wq.heap.size + 1) (by simp) ?_; intro g cap' w1 hown1 hgrow hat hlt; have kT1 : Blk w1 bt 27 #[v] := (hgrow.block bt (by simp; omega) n1).trans kTW; have f1 := kT1.frozen 0; have f2 : w1.cell? ⟨bt, 0, none⟩ = some v := kT1.cell 0))
                        all_goals (obtain ⟨hb9, kT9, own9, sz9⟩ := app_round hsq hbW hownW hown1 hgrow kT1)
                        all_goals (have hBM9 := hBMq.under hb9 (by omega) lo lb log lbg)
                        all_goals (have hRC9 := hRCq.below hb9 lL lG.out)
                        all_goals (clear hb9 hown1 hgrow hat hlt kT1 f1 f2)
                        all_goals (go_wp2_with fail)
                        all_goals
                          go_roundw
                          case rel =>
                            have h0c : 0 ≤ rowF us c (j + 1) := by have := hrest.out; omega
                            refine ⟨c, j + 1, (c : Int), acc ++ [sz], _, by omega, rfl, rfl, by go_num, by omega, (fun h => ?_), Lib.hid h0c, sz9, hBM9, hRC9, kT9, by rw [List.map_append, List.length_append]; exact own9, by rw [List.length_append]; simp only [List.length_cons, List.length_nil]; omega, Lib.hid ?_⟩
                            · by_cases e : c = 0
                              · exfalso; subst e; have := row_zero us (j + 1) h0c; have := hn'.out; omega
                              · omega
                            · rw [← hL.out, recon, if_pos (by have := hn'.out; omega), hn'.out, hpk.out, hsz'.out, List.append_assoc]; rfl
                          case measure => simp [intOf]; omega
                      · as_aux_lemma =>
                        have hd' : (cst + rest != cur) = true := by simpa using hd
                        have hjl := hjj.out (Or.inr hd)
                        go_upto_region 43 with fail
                        refine region_ext (by kernel_rfl) (by kernel_rfl) ?_
                        repeat (go_big_quiet_step (((go_at_call 21; exact HCC.out _))))
                        refine wpQuiet_nil ?_
                        rintro wq ⟨⟨_, hwq⟩, rfl⟩
                        go_wp2_with fail
                        go_roundw
                        case rel => exact ⟨j + 1, by omega, by omega, by go_num, by have := hwq.size; omega, hBM.call hwq, hRC.call hwq, kT.call hwq, own_call hown hwq, Lib.hid (by rw [← hP.out, hpf.out, if_pos (Or.inr hd)])⟩
                        case measure => simp [intOf]; omega
                · as_aux_lemma =>
                  obtain rfl : n = i := by omega
                  obtain ⟨vp, va, vb, rfl⟩ : ∃ p a b, v = .slice p a b := by
                    rcases hown.2 with ⟨h, _⟩ | ⟨g, cap', cur, h, _⟩
                    · exact ⟨_, _, _, h⟩
                    · exact ⟨_, _, _, h⟩
                  have hc0 : Hid (c = 0) := Lib.hid (row_end us c (by rw [hn'.out]; exact hrow.out))
                  have hacc9 : Hid (acc = recon us (q + 1) 0) := Lib.hid (by have := hL.out; rw [hc0.out, recon, List.append_nil] at this; exact this)
                  obtain ⟨fin, hfin⟩ : ∃ x, rowF us K 0 = x := ⟨_, rfl⟩
                  have l1 := hRC.cL K (by omega) (by omega)
                  have l2 := hRC.ca K 0 (by omega) (by omega)
                  rw [hfin] at l2
                  have HF := Lib.hid hfin
                  clear hfin
                  have l3 := kT.cell 0
                  have l4 := hBM.r.cell 0
                  have l5 := hBM.r.frozen 0
                  have n1 : ¬ w.heap.size + 1 = bt := by omega
                  have n2 : ¬ w.heap.size + 1 = gL := by omega
                  have n3 : ¬ w.heap.size + 1 = G K := by have := (hRC.no K (Nat.le_refl _)).2.2; omega
                  have hBd : Below wr.heap.size wr wr.drew := (Below.refl _ wr).drew
                  have hBM8 := (hBM.call hBd).below.setCell (p := ⟨w.heap.size + 1, 0, none⟩) (by simp) (.slice vp va vb)
                  have own8 := own_mono (base' := w.heap.size) (ownsRow_setCell_below (own_call hown hBd) (a := ⟨w.heap.size + 1, 0, none⟩) (by simp only; omega) (.slice vp va vb)) (by omega)
                  have hfin : Ending.returned (.tuple #[.agg #[.slice vp va vb], .int .i64 fin, .int .i64 0]) = .returned (.tuple #[.agg #[.slice vp va vb], .int .i64 (rowF us K 0), .int .i64 0]) := by rw [HF.out]
                  have HFIN := Lib.hid hfin
                  clear hfin
                  go_wp2_with fail
                  go_region_held (fun w' => w'.cell? ⟨bt, 0, none⟩ = some (.slice vp va vb) ∧ w'.cell? ⟨gL, K, none⟩ = some (.slice (some ⟨G K, 0, none⟩) (n + 1) (n + 1)) ∧ w'.cell? ⟨G K, 0, none⟩ = some (.int .i64 fin)) (go_keep) (fail)
                  go_wp2_with fail
                  refine bodyPost_ret (v := .tuple #[.agg #[.slice vp va vb], .int .i64 fin, .int .i64 0]) (by simp [results, Tryd.results7, go_sem, l4]) rfl ⟨_, HFIN.out, ?_, hBM8⟩
                  rw [hS.out, ← hacc9.out]
                  exact own8
            case first =>
            as_aux_lemma =>
            go_wp2_with fail
            go_loopw [19] (fun s19 wr => ∃ q : Nat, q + 1 ≤ K ∧ s19 = .int .i64 ((q : Int) + 1) ∧ BM us A n cap w bo bb go gb (objF us) (bytF us) wr ∧ RC us n K w gL go gb G K (rowF us K) wr ∧ Hid (mSel us K K = mSel us K (q + 1))) (fun s19 _ => (intOf s19).toNat)
            case atStart => exact ⟨K - 1, by omega, by congr 1; omega, hBM, hRC, Lib.hid (by congr 1; omega)⟩
            case round =>
              clear hBM hRC
              obtain ⟨q, hq, rfl, hBM, hRC, hS⟩ := hrel
              have l1 := hRC.cL q (by omega) (by omega)
              have l2 := hRC.cL K (by omega) (by omega)
              have l3 := hRC.ca q 0 (by omega) (by omega)
              have l4 := hRC.ca K 0 (by omega) (by omega)
              have hst := Lib.hid (show mSel us K (q + 1) = if 1 ≤ q ∧ rowF us q 0 = rowF us K 0 then mSel us K q else q + 1 from rfl)
              obtain ⟨x1, hx1⟩ : ∃ x, rowF us q 0 = x := ⟨_, rfl⟩
              obtain ⟨x2, hx2⟩ : ∃ x, rowF us K 0 = x := ⟨_, rfl⟩
              rw [hx1] at l3 hst
              rw [hx2] at l4 hst
              replace hx1 := Lib.hid hx1
              replace hx2 := Lib.hid hx2
              have q1 := fun x : Ext wr => x.cell l1
              have q2 := fun x : Ext wr => x.cell l2
              have q3 := fun x : Ext wr => x.cell l3
              have q4 := fun x : Ext wr => x.cell l4
              have l1' := fun k : Nat => l1
              by_cases hg : 1 ≤ q
              · as_aux_lemma =>
                have hg1 : decide ((1 : Int) < (q : Int) + 1) = true := by simp; omega
                have hg2 : decide (0 < q) = true := by simp; omega
                by_cases hx : x1 = x2
                · have hx' : (x1 == x2) = true := by simpa using hx
                  have hS2 : Hid (mSel us K K = mSel us K (q - 1 + 1)) := Lib.hid (by rw [hS.out, hst.out, if_pos ⟨hg, hx⟩]; congr 1; omega)
                  clear hx
                  go_upto_region 36 with fail
                  refine region_ext (by kernel_rfl) (by kernel_rfl) ?_
                  repeat (go_big_quiet_step (fail))
                  refine wpQuiet_nil ?_
                  rintro wq ⟨⟨_, hwq⟩, rfl⟩
                  go_wp2_with fail
                  go_roundw
                  case rel => exact ⟨q - 1, by omega, by congr 1; omega, hBM.call hwq, hRC.call hwq, hS2⟩
                  case measure => simp only [intOf]; omega
                · have hx' : (x1 == x2) = false := by simpa using hx
                  have hS2 : Hid (mSel us K K = q + 1) := Lib.hid (by rw [hS.out, hst.out, if_neg (fun h => hx h.2)])
                  clear hx
                  go_upto_region 36 with fail
                  refine region_ext (by kernel_rfl) (by kernel_rfl) ?_
                  repeat (go_big_quiet_step (fail))
                  refine wpQuiet_nil ?_
                  rintro wq ⟨⟨_, hwq⟩, rfl⟩
                  go_wp2_with fail
                  go_meet
                  exact ⟨q, hq, rfl, hBM.call hwq, hRC.call hwq, hS2⟩
              · have hg1 : decide ((1 : Int) < (q : Int) + 1) = false := by simp; omega
                have hg2 : decide (0 < q) = false := by simp; omega
                have hS2 : Hid (mSel us K K = q + 1) := Lib.hid (by rw [hS.out, hst.out, if_neg (fun h => hg h.1)])
                go_upto_region 36 with fail
                refine region_ext (by kernel_rfl) (by kernel_rfl) ?_
                repeat (go_big_quiet_step (fail))
                refine wpQuiet_nil ?_
                rintro wq ⟨⟨_, hwq⟩, rfl⟩
                go_wp2_with fail
                go_meet
                exact ⟨q, hq, rfl, hBM.call hwq, hRC.call hwq, hS2⟩
end Go.Proofs.YtiohcegkkpeodaaDoor
