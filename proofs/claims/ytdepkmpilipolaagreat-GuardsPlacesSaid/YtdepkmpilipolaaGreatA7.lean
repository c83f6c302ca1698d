/- Merged texts. Walks of the reference of layer 6: Save. Walks of the library: slices.Insert of a span at the front: into no list. A law of no program: copy of elements of several cells each. Walks of the library: slices.Insert of a span at the front of a list whose capacity is spent: the append. Laws of no program: a row of elements of two cells into whose front an element is put. Walks of the library: slices.Insert of a span at the front of a list that is not empty. Walks of the library: slices.Insert of a span at the front of a list that has room; any list. Walks of layer 11 over a system: what Place defers, where the guard stays. What the functions of layer 24 compute, as plain functions; no program in sight. Walks of the reference of layer 6: Release, Protect, Kind, Read. Walks of law 24: the reference's system that is as the program's. Walks of law 11: the reference's system that is as the program's. Walks: the reference of layer 11. Walks of layer 11's reference over a system: Lift. Walks of layer 11's reference over a system: Place. Walks of layer 11 over a system: Place. Walks of the references of layers 5 and 6: two equal plans, states and saved states are equal. -/
import Derived.Laws.AppendOwnNone
import Derived.Deep.CutRange
import Derived.OwnWalk
import Derived.Laws.CopyRow
import Derived.Lib.AppendZerosOnto
import Derived.Deep.DeepAppendWide
import Derived.Lib.Overlaps
import Derived.Shelf.RegionOpenPlain
import Derived.Laws.Externs
import Derived.Test.YtdepkmpilipolaaGreatA6
namespace Go.Proofs.YtdepkmpilipolaaGreat
open Go Go.Proofs Go.RowKit Go.Pol Go.Shelf
attribute [local go_sem] Oper.semAt_some Go.Pol.wide_fn Go.Pol.wide_depth Go.Pol.wide_fn' Go.Pol.wide_depth'

/-- an append of a list that may be nil -/
theorem wpList_append_opt {P : Program} {w : World} {ops : Array Oper} {rest : List Oper} {o : Oper} {a : Act} {Q : Exit → Act → World → Prop} (hgd : o.guard = none) (s x : Operand) (t : TypeId)
    (ho : o.op = .call { callee := .builtin .append, args := #[s, x], argTypes := #[t, t] })
    (base : Nat) (e : TypeId) (i : TypeInfo) (z : Value) (size bytes : Nat) (ht : P.underlying t = some (.slice e)) (hi : P.info? e = some i) (hz : i.zero = some z)
    (hsize : i.size = size) (hby : i.bytes = bytes) (hzs : z.cells.size = size) (hsz : 0 < size)
    (v : Value) (n : Nat) (xs : List Value) (hs : a.eval s = v) (hown : w.ownsRow base e size v n xs)
    (A : Option Addr) (m c : Nat) (news : List Value) (hx : a.eval x = .slice A m c) (hA : A = none → m = 0 ∧ c = 0) (hl : news.length = m * size) (hnews : ∀ ad, A = some ad → ∀ j u, news[j]? = some u → w.cell? (ad.add j) = some u) (h1 : ∀ u ∈ news, u.oneCell' = true)
    (h63 : n + m ≤ maxLen) (hbytes : (n + m) * bytes ≤ 140737488355328) (hbase : base ≤ w.heap.size)
    (h : ∀ v' w', w'.ownsRow base e size v' (n + m) (xs ++ news) → w.grownBy w' v.ownBlock → wpList P ops Q rest (a.put o.dst v') w') : wpList P ops Q (o :: rest) a w := by
  cases A with
  | none =>
    obtain ⟨rfl, rfl⟩ := hA rfl
    have hn : news = [] := List.eq_nil_of_length_eq_zero (by rw [hl]; simp)
    subst hn
    exact wpList_append_own_none hgd s x t ho base e i size ht hi v n xs hs hown hx (h v w (by simpa using hown) (World.grownBy.refl _ _))
  | some ad => exact wpList_append_own _ hgd s x t ho base e i z size bytes ht hi hz hsize hby hzs hsz v n xs hs hown ad m c news hx hl (hnews ad rfl) h1 h63 hbytes hbase fun v' w' h2 h3 _ => h v' w' h2 h3
set_option maxRecDepth 100000 in
set_option maxHeartbeats 3200000 in
theorem save6_any (B b : Nat) (V : Vm) (w : World) (hV : RefIs w B b V) (hG : GoodV V) :
    Calls Tryz.prog 13 #[.pointer (some ⟨b, 0, none⟩)] w (SaveO V w) := by
  obtain ⟨cs, A, n, cap, kb, hc, hn, hr, hBb, hok⟩ := hV.ex
  have hbl := kb.lt
  have hb0 := (Below.refl w.heap.size w).alloc (Nat.le_refl _) (.cells (stC (.slice none 0 0) (.slice none 0 0) (.slice none 0 0) (.slice none 0 0) (fun _ => 0) (fun _ => 0)).toArray 53)
  have k2 := Blk.new w 53 (stC (.slice none 0 0) (.slice none 0 0) (.slice none 0 0) (.slice none 0 0) (fun _ => 0) (fun _ => 0)).toArray
  have kb0 := kb.call hb0
  obtain ⟨s, hs⟩ : ∃ s, w.heap.size = s := ⟨_, rfl⟩
  have hsz0 : (w.alloc (.cells (stC (.slice none 0 0) (.slice none 0 0) (.slice none 0 0) (.slice none 0 0) (fun _ => 0) (fun _ => 0)).toArray 53)).heap.size = s + 1 := by rw [World.size_alloc, hs]
  have hr0 : Rd (w.alloc (.cells (stC (.slice none 0 0) (.slice none 0 0) (.slice none 0 0) (.slice none 0 0) (fun _ => 0) (fun _ => 0)).toArray 53)) B A (fl ruC V.rf.rules) := hr.keepB (T := fun _ => False) (Far.of_below hb0) (fun _ h => h.elim)
  rw [hs] at k2
  unfold stC rfC at hb0 k2 hsz0 kb0 hr0
  have hc' := Lib.hid hc
  clear hV kb hr
  go_enter Tryz.func13, Tryz.ntmps13
  go_upto_region 1 with fail
  generalize w.alloc _ = w0 at *
  try simp only [hs]
  have hrng : w0.rangeAt b 66624 (rfC (.slice A n cap) V.rf.calls V.rf.hits) := fun j v hj => by
    have hj15 : j < 15 := (List.getElem?_eq_some_iff.1 hj).1
    rw [kb0.cell, hc'.out.rf j hj15]; exact hj
  have k3 := Blk.new w0 53 (stC (.slice none 0 0) (.slice none 0 0) (.slice none 0 0) (.slice A n cap) V.rf.calls V.rf.hits).toArray
  have hb1 := (Below.refl w0.heap.size w0).alloc (Nat.le_refl _) (.cells (stC (.slice none 0 0) (.slice none 0 0) (.slice none 0 0) (.slice A n cap) V.rf.calls V.rf.hits).toArray 53)
  have k21 := k2.call hb1
  have kb1 := kb0.call hb1
  have hr1 := hr0.keepB (T := fun _ => False) (Far.of_below hb1) (fun _ h => h.elim)
  have hsz1 : (w0.alloc (.cells (stC (.slice none 0 0) (.slice none 0 0) (.slice none 0 0) (.slice A n cap) V.rf.calls V.rf.hits).toArray 53)).heap.size = s + 2 := by rw [World.size_alloc, hsz0]
  rw [hsz0] at k3
  unfold stC rfC at k3 hb1 k21 kb1 hr1 hsz1
  clear k2 kb0 hr0 hc
  go_upto_region 2 with (refine wpList_load_mid rfl 51 (.tmp 8) rfl b 66624 rfl (rfC (.slice A n cap) V.rf.calls V.rf.hits) _ hrng Tryz.underlying51 rfl infoRf ?_; unfold rfC)
  generalize w0.alloc _ = w1 at *
  try simp only [hsz0]
  obtain ⟨iR, hiR, hzR0, hzR1, hzR2⟩ := infoRu_parts
  have hlen50 := (chkR_zero.1 hok.plan).1
  have hn1 := hn.1
  have hn50 : n ≤ 50 := by omega
  have c67 : w1.cell? ⟨b, 66624, none⟩ = some (.slice A n cap) := by rw [kb1.cell]; exact (hc'.out.rf 0 (by omega)).trans rfl
  have c67E : (w1.alloc (.cells #[] 88)).cell? ⟨b, 66624, none⟩ = some (.slice A n cap) := by rw [(kb1.alloc _).cell]; exact (hc'.out.rf 0 (by omega)).trans rfl
  have hbE : Below w1.heap.size w1 (w1.alloc (.cells #[] 88)) := (Below.refl _ _).alloc (Nat.le_refl _) _
  have hrE := hr1.keepB (T := fun _ => False) (Far.of_below hbE) (fun _ h => h.elim)
  have hA0 : A = none → n = 0 ∧ cap = 0 := fun h => by
    refine ⟨?_, hn.2 h⟩
    rw [← hn.1]
    cases hru : V.rf.rules with
    | nil => rfl
    | cons x r =>
      obtain ⟨b', o, e, _⟩ := hr1 0 (by rw [hru, fl_len ruC_len]; simp)
      rw [h] at e
      cases e
  have hnewsE : ∀ ad, A = some ad → ∀ (j : Nat) (u : Value), (fl ruC V.rf.rules)[j]? = some u → (w1.alloc (.cells #[] 88)).cell? (ad.add j) = some u := fun ad h j u hj => by
    obtain ⟨hlt, e⟩ := List.getElem?_eq_some_iff.1 hj
    obtain ⟨b', o, e', _, hc⟩ := hrE j hlt
    rw [h] at e'; cases e'
    rw [addr_add0, hc, e]
  have k3' := Lib.hid k3
  have c33 : w1.cell? ⟨s + 1, 3, none⟩ = some (.slice A n cap) := (k3.cell 3).trans rfl
  have hsz1' := Lib.hid hsz1
  clear k3 hrng hr1 hrE hsz1
  go_upto_region 3 with (refine wpList_append_opt rfl (.tmp 11) (.tmp 17) 23 rfl w1.heap.size 88 iR (.agg #[.int .i64 0, .int .i64 0, .int .i64 0, .int .i64 0]) 4 32 Tryz.underlying23 hiR hzR0 hzR1 hzR2 rfl (by decide) _ 0 [] rfl (World.ownsRow_made w1 _ _ (Nat.le_refl _) (by unfold maxLen; omega) rfl) A n cap (fl ruC V.rf.rules) rfl hA0 (by rw [fl_len ruC_len, hn1]) hnewsE (ruC_one V.rf.rules) (by unfold maxLen; omega) (by omega) (by simp) ?_; intro v' w2 hown' hgrow; have hb2 : Below w1.heap.size w1 w2 := hbE.grown hgrow (by simp) (fun j hj => by cases hj; exact Nat.le_refl _); have k32 := k3'.out.call hb2; have f32 := k32.frozen; have c32 : w2.cell? ⟨s + 1, 3, none⟩ = some (.slice A n cap) := (k32.cell 3).trans rfl; rw [Nat.zero_add, List.nil_append] at hown'; obtain ⟨A4, c4, rfl, q1, _, _, q4, _⟩ := own_Rd hown'; clear c33)
  have k33 := k32.set_ 3 (.slice A4 n c4)
  have F3 : Far (fun k => k = s + 1) w2 (w2.setCell ⟨s + 1, 3, none⟩ (.slice A4 n c4)) := Far.setCell (T := fun k => k = s + 1) (p := ⟨s + 1, 3, none⟩) (Far.refl _ w2) (fun _ => rfl) _
  have kb2 := kb1.call hb2
  have k22 := k21.call hb2
  have hsz1 := hsz1'.out
  have hs0 : s + 1 ≤ w0.heap.size := Nat.le_of_eq hsz0.symm
  have hb0s : Below s w w0 := by rw [← hs]; exact hb0
  have B1 : Below s w w1 := hb0s.trans (hb1.mono (by omega))
  have B2 : Below s w w2 := B1.trans (hb2.mono (by omega))
  generalize w2.setCell ⟨s + 1, 3, none⟩ (.slice A4 n c4) = w3 at *
  have k34 : Blk w3 (s + 1) 53 (stC (.slice none 0 0) (.slice none 0 0) (.slice none 0 0) (.slice A4 n c4) V.rf.calls V.rf.hits).toArray := k33
  have q13 : Rd w3 w2.heap.size A4 (fl ruC V.rf.rules) := q1.far_ F3 (fun g o e => by have := q4 g o e; show ¬ g = s + 1; omega)
  have hbs : b < s := by rw [← hs]; exact hbl
  have kb3 := F3.blk kb2 (by show ¬ b = s + 1; omega)
  have k23 := F3.blk k22 (by show ¬ s = s + 1; omega)
  have hsz2 := hb2.size
  have hsz3 : w2.heap.size ≤ w3.heap.size := F3.size
  have B3 : Below s w w3 := B2.trans (F3.below (by omega) (fun k hk e => by omega))
  have q13' := Lib.hid q13
  have q4' : Hid (∀ (b o : Nat), A4 = some ⟨b, o, none⟩ → s + 2 ≤ b) := Lib.hid (fun b' o e => by have := q4 b' o e; omega)
  have B3' := Lib.hid B3
  have hG' := Lib.hid hG
  have hN4' := Lib.hid hn1
  have hn50' := Lib.hid hn50
  have hs' := Lib.hid hs
  have hsw2 : s + 2 ≤ w2.heap.size := by omega
  clear F3 k32 k22 kb2 B2 k33 q13 q1 f32 hb2 k3' B1 c32 k21 kb1 hb1 hb0 hb0s hsz1 hsz1' hsz0 hs0 hn hn1 hok hnewsE hA0 c67 c67E hbE hgrow q4 B3 hG hlen50 iR hiR hzR0 hzR1 hzR2 hown' hs hbl
  obtain ⟨NB, hNB⟩ : ∃ NB, w3.heap.size = NB := ⟨_, rfl⟩
  have hsNB : s + 2 ≤ NB := by omega
  go_wp2_with fail
  go_loopw [4] (fun u wr => ∃ (k : Nat) (v1 v2 v3 : Value), k ≤ 1024 ∧ u = .int .i64 k ∧ Blk wr (s + 1) 53 (stC v1 v2 v3 (.slice A4 n c4) V.rf.calls V.rf.hits).toArray ∧
    wr.ownsRow NB 73 3 v1 (vrunsL V k).length (fl rnC (vrunsL V k)) ∧ wr.ownsRow NB 3 1 v2 (hugL V k).length ((hugL V k).map (Value.int .i64)) ∧ wr.ownsRow NB 76 65 v3 (datL V k).length (fl (daC V) (datL V k)) ∧ Far (fun k => k = s + 1 ∨ NB ≤ k) w3 wr) (fun u _ => 1024 - (intOf u).toNat)
  case atStart => exact ⟨0, _, _, _, by omega, rfl, k34, World.ownsRow_nil _ _ _ _, World.ownsRow_nil _ _ _ _, World.ownsRow_nil _ _ _ _, Far.refl _ _⟩
  case round =>
    clear k34
    obtain ⟨k, v1, v2, v3, hk, rfl, k3, ro1, ro2, ro3, hF⟩ := hrel
    by_cases hlt : k < 1024
    · have hlt' : decide ((k : Int) < 1024) = true := by rw [decide_eq_true_eq]; omega
      have hkl : (k : Int) < 1024 := by omega
      have kbr := hF.blk kb3 (by show ¬ (b = s + 1 ∨ NB ≤ b); omega)
      have hcK := (kbr.cell k).trans (hc'.out.kind k hlt)
      have c3 := k3.cell
      have f3 := k3.frozen
      unfold stC rfC at c3
      obtain ⟨kd, hkd⟩ : ∃ kd, (V.pg k).kind = kd := ⟨_, rfl⟩
      rw [hkd] at hcK
      have hlR := vrunsL_len V k
      obtain ⟨i0, hi, hz0, hz1, hz2⟩ := info_parts infoInQ
      have hsF := hF.size
      obtain ⟨A1, cap1, rfl, _⟩ := own_Rd ro1
      obtain ⟨N1, hN1⟩ : ∃ N1, (vrunsL V k).length = N1 := ⟨_, rfl⟩
      rw [hN1] at ro1 k3 c3 hlR
      try simp only [hN1]
      have hN1' := Lib.hid hN1
      clear hN1
      go_upto_if 35 with fail
      go_cut [4, 5] from 26 to 124 (fun s4 s5 W => s4 = .int .i64 (k : Int) ∧ ∃ v1, Blk W (s + 1) 53 (stC v1 v2 v3 (.slice A4 n c4) V.rf.calls V.rf.hits).toArray ∧ W.ownsRow NB 73 3 v1 (vrunsL V (k + 1)).length (fl rnC (vrunsL V (k + 1))) ∧ W.ownsRow NB 3 1 v2 (hugL V (k)).length ((hugL V (k)).map (Value.int .i64)) ∧ W.ownsRow NB 76 65 v3 (datL V k).length (fl (daC V) (datL V k)) ∧ Far (fun k => k = s + 1 ∨ NB ≤ k) w3 W)
      case first =>
        by_cases h0 : kd = 0
        · have h0' : (kd != 0) = false := by simpa using h0
          have e1 : vrunsL V (k + 1) = vrunsL V k := by rw [vrunsL_succ, if_pos (hkd.trans h0)]
          have hE := Lib.hid e1
          clear h0 e1 hkd
          go_wp2_with fail
          go_meet
          case rel => exact ⟨rfl, _, k3, by rw [hE.out, hN1'.out]; exact ro1, ro2, ro3, hF⟩
        · have h0' : (kd != 0) = true := by simpa using h0
          have q1 := fun z : Ext wr => z.cell hcK
          by_cases hs2 : 0 < k ∧ (V.pg (k - 1)).kind = kd
          · obtain ⟨m, hm⟩ : ∃ m, m + 1 = k := ⟨k - 1, by omega⟩
            have hkm : (V.pg m).kind = kd := by have := hs2.2; rwa [show k - 1 = m by omega] at this
            have hcM := (kbr.cell m).trans (hc'.out.kind m (by omega))
            rw [hkm] at hcM
            have q2 := fun z : Ext wr => z.cell hcM
            have hk1 : (k : Int) - 1 = (m : Int) := by omega
            have hk0 : decide (0 < k) = true := by rw [decide_eq_true_eq]; omega
            have hml : (m : Int) < 1024 := by omega
            obtain ⟨l, x, hlx⟩ : ∃ l x, vrunsL V k = l ++ [x] := by
              rcases List.eq_nil_or_concat (vrunsL V k) with h | ⟨l, y, h⟩
              · obtain ⟨t, h1, h2⟩ := vruns_pre (V := V) (q := 0) (.inl rfl) k
                rw [Nat.zero_add] at h1 h2
                have ht : t = [] := by have := h1.symm.trans h; simpa [vrunsL] using this
                exact absurd ht (h2 hs2.1 (by rw [hs2.2]; exact h0))
              · exact ⟨l, y, by rw [h, List.concat_eq_append]⟩
            have hx := vruns_last (V := V) k (by omega) x (by rw [hlx]; simp)
            have e1 : vrunsL V (k + 1) = l ++ [(x.1, x.2.1 + 1, x.2.2)] := by
              rw [vrunsL_succ, if_neg (by rw [hkd]; exact h0), if_pos ⟨hs2.1, by rw [hs2.2, hkd]⟩, hlx, bumpR_snoc]
            obtain ⟨ll, hll⟩ : ∃ ll, l.length = ll := ⟨_, rfl⟩
            have hNl : ll + 1 = N1 := by rw [← hN1'.out, hlx, List.length_append, hll]; rfl
            obtain ⟨g, rfl⟩ : ∃ g, A1 = some ⟨g, 0, none⟩ := by
              have ro1' := ro1
              rw [← hNl] at ro1'
              obtain ⟨g, cap', e⟩ := ownsRow_succ ro1'
              simp only [Value.slice.injEq] at e
              exact ⟨g, e.1⟩
            have hgl := ro1.lt g rfl
            have hNi : (N1 : Int) - 1 = (ll : Int) := by omega
            have hlN : (ll : Int) < (N1 : Int) := by omega
            have hcx : wr.cell? ⟨g, ll * 3 + 1, none⟩ = some (.int .i64 x.2.1) := by
              rw [ro1.cellAt _ (by omega), hlx, fl_append, List.getElem?_append_right (by rw [fl_len rnC_len, hll]; omega), fl_len rnC_len, hll, show ll * 3 + 1 - ll * 3 = 1 by omega]
              rfl
            have hE := Lib.hid e1
            have hll' := Lib.hid hll
            have hlx' := Lib.hid hlx
            have hNl' := Lib.hid hNl
            obtain ⟨xa, xb, xc⟩ := x
            simp only at hx hcx
            clear h0 hs2 hkd hkm e1 hll hlx hNl hcM hcK hm
            go_upto_region 8 with fail
            refine region_ext (by kernel_rfl) (by kernel_rfl) ?_
            repeat (go_big_quiet_step (fail))
            refine wpQuiet_nil ?_
            rintro w8 ⟨⟨_, hw8⟩, rfl⟩
            have k38 := k3.call hw8
            have ro18 := ownsRow_call ro1 hw8
            have ro28 := ownsRow_call ro2 hw8
            have ro38 := ownsRow_call ro3 hw8
            have F8 : Far (fun k => k = s + 1 ∨ NB ≤ k) w3 w8 := hF.trans (.of_below hw8)
            have cg : w8.cell? ⟨g, ll * 3 + 1, none⟩ = some (.int .i64 xb) := (hw8.cell (p := ⟨g, ll * 3 + 1, none⟩) hgl.2).trans hcx
            have fg := ro18.frozenAt (ll * 3 + 1)
            have c38 := k38.cell
            unfold stC rfC at c38
            clear c3 f3 k3 ro1 ro2 ro3 hF hcx q1 q2 hw8
            go_wp2_with fail
            go_meet
            case rel =>
              have FS : Far (fun i => i = g) w8 (w8.setCell ⟨g, ll * 3 + 1, none⟩ (.int .i64 (xb + 1))) := Far.setCell (T := fun i => i = g) (p := ⟨g, ll * 3 + 1, none⟩) (Far.refl _ w8) (fun _ => rfl) _
              have FR := FS.mono (T' := fun i => i = s + 1 ∨ (Value.slice (some ⟨g, 0, none⟩) N1 cap1).ownBlock = some i) (fun i _ h => .inr (by rw [h]; rfl))
              have hb := own_bump (v := .int .i64 (xb + 1)) ro18 (i := ll * 3 + 1) (by have := hNl'.out; omega)
              refine ⟨rfl, _, FS.blk k38 (by show ¬ s + 1 = g; omega), ?_, row_kept ro28 ro18 (by decide) (by omega) FR, row_kept ro38 ro18 (by decide) (by omega) FR, F8.trans' FS (fun i hi h => .inr (by rw [h]; exact hgl.1))⟩
              rw [hE.out, fl_bump l (xa, xb, xc), ← hlx'.out, List.length_append, List.length_singleton, hll'.out, hNl'.out]
              exact hb
          · have hE : Hid (vrunsL V (k + 1) = vrunsL V k ++ [((k : Int), 1, kd)]) := Lib.hid (by
              rw [vrunsL_succ, if_neg (by rw [hkd]; exact h0), if_neg (by rw [hkd]; exact hs2), hkd])
            have HR : ∀ w8 : World, Below wr.heap.size wr w8 → True := fun _ _ => trivial
            by_cases hk00 : k = 0
            · have hk0 : decide (0 < k) = false := by rw [decide_eq_false_iff_not]; omega
              clear h0 hs2 hkd hk00 HR
              go_upto_region 8 with fail
              refine region_ext (by kernel_rfl) (by kernel_rfl) ?_
              repeat (go_big_quiet_step (fail))
              refine wpQuiet_nil ?_
              rintro w8 ⟨⟨_, hw8⟩, rfl⟩
              have k38 := k3.call hw8
              have ro18 := ownsRow_call ro1 hw8
              have ro28 := ownsRow_call ro2 hw8
              have ro38 := ownsRow_call ro3 hw8
              have kb8 := kbr.call hw8
              have F8 : Far (fun k => k = s + 1 ∨ NB ≤ k) w3 w8 := hF.trans (.of_below hw8)
              have hcK8 := (hw8.cell (p := ⟨b, k, none⟩) kbr.lt).trans hcK
              have hNBW : NB ≤ (w8).heap.size := by have := F8.size; omega
              clear c3 f3 k3 ro1 ro2 ro3 hF q1 hcK hw8
              go_upto_region 10 with fail
              refine save6_run b (s + 1) k NB N1 _ _ kd _ _ w8 hkl (by omega) kb8.lt k38.lt hNBW (by omega) (by omega) hcK8 k38 ((k38.cell 0).trans rfl) ro18 ?_
              intro x64 x65 x66 x67 x68 x69 x70 x71 x72 x73 x74 x75 x76 w10 A1' cap1' hsz10 k310 ro110 F310
              clear hcK8
              go_wp2_with fail
              go_meet
              case rel =>
                refine ⟨rfl, _, k310, ?_, row_kept ro28 ro18 (by decide) (by omega) F310, row_kept ro38 ro18 (by decide) (by omega) F310, F8.trans' F310 (fun i hi h => h.elim .inl (fun h => .inr (ro18.lt i h).1))⟩
                rw [hE.out, List.length_append, List.length_singleton, hN1'.out, fl_append, show fl rnC [((k : Int), (1 : Int), kd)] = rnC ((k : Int), 1, kd) by simp [fl]]
                exact ro110
            · obtain ⟨m, hm⟩ : ∃ m, m + 1 = k := ⟨k - 1, by omega⟩
              obtain ⟨km, hkm⟩ : ∃ km, (V.pg m).kind = km := ⟨_, rfl⟩
              have hcM := (kbr.cell m).trans (hc'.out.kind m (by omega))
              rw [hkm] at hcM
              have q2 := fun z : Ext wr => z.cell hcM
              have hk1 : (k : Int) - 1 = (m : Int) := by omega
              have hk0 : decide (0 < k) = true := by rw [decide_eq_true_eq]; omega
              have hml : (m : Int) < 1024 := by omega
              have hKK : (km == kd) = false := by
                rw [beq_eq_false_iff_ne]
                intro h
                exact hs2 ⟨by omega, by rw [show k - 1 = m by omega, hkm]; exact h⟩
              clear h0 hs2 hkd hkm hk00 HR hm hcM
              go_upto_region 8 with fail
              refine region_ext (by kernel_rfl) (by kernel_rfl) ?_
              repeat (go_big_quiet_step (fail))
              refine wpQuiet_nil ?_
              rintro w8 ⟨⟨_, hw8⟩, rfl⟩
              clear q2
              have k38 := k3.call hw8
              have ro18 := ownsRow_call ro1 hw8
              have ro28 := ownsRow_call ro2 hw8
              have ro38 := ownsRow_call ro3 hw8
              have kb8 := kbr.call hw8
              have F8 : Far (fun k => k = s + 1 ∨ NB ≤ k) w3 w8 := hF.trans (.of_below hw8)
              have hcK8 := (hw8.cell (p := ⟨b, k, none⟩) kbr.lt).trans hcK
              have hNBW : NB ≤ (w8).heap.size := by have := F8.size; omega
              clear c3 f3 k3 ro1 ro2 ro3 hF q1 hcK hw8
              go_upto_region 10 with fail
              refine save6_run b (s + 1) k NB N1 _ _ kd _ _ w8 hkl (by omega) kb8.lt k38.lt hNBW (by omega) (by omega) hcK8 k38 ((k38.cell 0).trans rfl) ro18 ?_
              intro x64 x65 x66 x67 x68 x69 x70 x71 x72 x73 x74 x75 x76 w10 A1' cap1' hsz10 k310 ro110 F310
              clear hcK8
              go_wp2_with fail
              go_meet
              case rel =>
                refine ⟨rfl, _, k310, ?_, row_kept ro28 ro18 (by decide) (by omega) F310, row_kept ro38 ro18 (by decide) (by omega) F310, F8.trans' F310 (fun i hi h => h.elim .inl (fun h => .inr (ro18.lt i h).1))⟩
                rw [hE.out, List.length_append, List.length_singleton, hN1'.out, fl_append, show fl rnC [((k : Int), (1 : Int), kd)] = rnC ((k : Int), 1, kd) by simp [fl]]
                exact ro110
      case rest =>
        obtain ⟨rfl, v1', k38, ro18, ro28, ro38, F38⟩ := hcut
        have kb8 := F38.blk kb3 (by show ¬ (b = s + 1 ∨ NB ≤ b); omega)
        have hcH := (kb8.cell (1024 + k / 16)).trans (hc'.out.huge k hlt)
        obtain ⟨q, hq, hqz⟩ : ∃ q : Nat, Int.tdiv (k : Int) 16 = (q : Int) ∧ k / 16 = q := ⟨k / 16, by rw [Int.tdiv_eq_ediv_of_nonneg (by omega)]; omega, rfl⟩
        rw [hqz] at hcH
        have hql : (q : Int) < 64 := by omega
        obtain ⟨hg, hhg⟩ : ∃ hg, (V.pg k).huge = hg := ⟨_, rfl⟩
        rw [hhg] at hcH
        have hstH : Hid (hugL V (k + 1) = if k % 16 = 0 ∧ hg = true then hugL V k ++ [(k : Int)] else hugL V k) := Lib.hid (by rw [← hhg]; rfl)
        have hstD : Hid (datL V (k + 1) = if nzB (V.pg k) = true then datL V k ++ [k] else datL V k) := Lib.hid rfl
        have hlH := hugL_len V k
        have hlD := datL_len V k
        clear hqz hhg k3 ro1 ro2 ro3 hF kbr c3 f3 hcK hlR hsF hN1' hkd
        go_upto_region 11 with fail
        go_cut [4, 88] from 26 to 124 (fun s4 s88 W => s4 = .int .i64 (k : Int) ∧ s88 = .bool (decide (k % 16 = 0) && hg) ∧ W = wc)
        case first =>
          by_cases hm : k % 16 = 0
          · have hrm : Int.tmod (k : Int) 16 = 0 := by rw [Int.tmod_eq_emod_of_nonneg (by omega)]; omega
            have hE := Lib.hid (decide_eq_true hm)
            clear hstH hstD hm
            go_wp2_with fail
            go_meet
            case rel => exact ⟨rfl, by rw [hE.out, Bool.true_and], rfl⟩
          · obtain ⟨rm, hrm, hrz⟩ : ∃ rm, Int.tmod (k : Int) 16 = rm ∧ (rm == 0) = false := ⟨_, rfl, by
              rw [Int.tmod_eq_emod_of_nonneg (by omega)]
              simp; omega⟩
            have hE := Lib.hid (decide_eq_false hm)
            clear hstH hstD hm
            go_wp2_with fail
            go_meet
            case rel => exact ⟨rfl, by rw [hE.out, Bool.false_and], rfl⟩
        case rest =>
          obtain ⟨rfl, rfl, hw⟩ := hcut
          subst hw
          have hst3 : Hid (hugL V (k + 1) = if (decide (k % 16 = 0) && hg) = true then hugL V k ++ [(k : Int)] else hugL V k) := Lib.hid (by
            rw [hstH.out]
            simp only [Bool.and_eq_true, decide_eq_true_eq])
          generalize (decide (k % 16 = 0) && hg) = gb at *
          clear hstH hcH
          go_upto_if 88 with fail
          go_cut [4] from 26 to 124 (fun s4 W => s4 = .int .i64 (k : Int) ∧ ∃ v2, Blk W (s + 1) 53 (stC v1' v2 v3 (.slice A4 n c4) V.rf.calls V.rf.hits).toArray ∧ W.ownsRow NB 73 3 v1' (vrunsL V (k + 1)).length (fl rnC (vrunsL V (k + 1))) ∧ W.ownsRow NB 3 1 v2 (hugL V (k + 1)).length ((hugL V (k + 1)).map (Value.int .i64)) ∧ W.ownsRow NB 76 65 v3 (datL V k).length (fl (daC V) (datL V k)) ∧ Far (fun k => k = s + 1 ∨ NB ≤ k) w3 W)
          case first =>
            clear hstD hlD
            cases gb with
            | true =>
              have hst2 : Hid (hugL V (k + 1) = hugL V k ++ [(k : Int)]) := Lib.hid (by rw [hst3.out, if_pos rfl])
              clear hst3
              obtain ⟨A2, cap2, rfl, _⟩ := own_Rd ro28
              obtain ⟨ll, hll⟩ : ∃ ll, (hugL V k).length = ll := ⟨_, rfl⟩
              rw [hll] at ro28 hlH k38
              try simp only [hll]
              have kN := Blk.new wc 3 #[.int .i64 (k : Int)]
              have hbN : Below wc.heap.size wc (wc.alloc (.cells #[.int .i64 (k : Int)] 3)) := (Below.refl _ _).alloc (Nat.le_refl _) _
              have hsF := F38.size
              have c38 := k38.cell
              unfold stC rfC at c38
              go_wp2_with (refine wpList_append_own _ rfl (.tmp 90) (.tmp 92) 47 rfl NB 3 i0 (.int .i64 0) 1 8 Tryz.underlying47 hi hz0 hz1 hz2 rfl (by decide) _ ll ((hugL V k).map (Value.int .i64)) rfl (ro28.alloc _) ⟨wc.heap.size, 0, none⟩ 1 1 [.int .i64 (k : Int)] rfl rfl (news_i kN) ints_one (by unfold maxLen; omega) (by omega) (by simp; omega) ?_; intro v' w7 hown' hgrow _; rw [show (hugL V k).map (Value.int .i64) ++ [Value.int .i64 (k : Int)] = (hugL V k ++ [(k : Int)]).map (Value.int .i64) by simp] at hown'; have F7 : Far (fun g => (Value.slice A2 ll cap2).ownBlock = some g) wc w7 := (Far.of_below hbN).grown hgrow (fun g hg _ => hg); have k37 := F7.blk k38 (fun h => own_other ro28 h k38 (by decide)); have f37 := k37.frozen; have c371 : w7.cell? ⟨s + 1, 1, none⟩ = some (.slice A2 ll cap2) := (k37.cell 1).trans rfl; obtain ⟨A2n, cap2n, rfl, _⟩ := own_Rd hown'; clear c38)
              go_meet
              case rel =>
                have F8 : Far (fun g => g = s + 1 ∨ (Value.slice A2 ll cap2).ownBlock = some g) wc (w7.setCell ⟨s + 1, 1, none⟩ (.slice A2n (ll + 1) cap2n)) := (F7.mono (T' := fun g => g = s + 1 ∨ (Value.slice A2 ll cap2).ownBlock = some g) (fun g _ h => .inr h)).setCell (p := ⟨s + 1, 1, none⟩) (fun _ => .inl rfl) _
                have F81 : Far (fun k => k = s + 1) w7 (w7.setCell ⟨s + 1, 1, none⟩ (.slice A2n (ll + 1) cap2n)) := Far.setCell (T := fun k => k = s + 1) (p := ⟨s + 1, 1, none⟩) (Far.refl _ w7) (fun _ => rfl) _
                refine ⟨rfl, _, k37.set_ 1 (.slice A2n (ll + 1) cap2n), row_kept ro18 ro28 (by decide) (by omega) F8, ?_, row_kept ro38 ro28 (by decide) (by omega) F8, F38.trans' F8 (fun i hi h => h.elim .inl (fun h => .inr (ro28.lt i h).1))⟩
                rw [hst2.out, List.length_append, List.length_singleton, hll]
                exact ownsRow_far hown' F81 (fun g hg h => own_other hown' (hg.trans (congrArg some h)) k37 (by decide))
            | false =>
              have hst2 : Hid (hugL V (k + 1) = hugL V k) := Lib.hid (by rw [hst3.out, if_neg (by decide)])
              clear hst3
              go_wp2_with fail
              go_meet
              case rel => exact ⟨rfl, _, k38, ro18, by rw [hst2.out]; exact ro28, ro38, F38⟩
          case rest =>
            obtain ⟨rfl, v2', k39, ro19, ro29, ro39, F39⟩ := hcut
            clear hst3 k38 ro18 ro28 ro38 F38 kb8 hlH
            have kb9 := F39.blk kb3 (by show ¬ (b = s + 1 ∨ NB ≤ b); omega)
            obtain ⟨A3, cap3, rfl, _⟩ := own_Rd ro39
            go_upto_region 13 with fail
            have hcK9 := (kb9.cell k).trans (hc'.out.kind k hlt)
            have c39 := k39.cell
            unfold stC rfC at c39
            by_cases hk2 : (V.pg k).kind = 2
            · rw [hk2] at hcK9
              clear hk2
              obtain ⟨X, hX⟩ : ∃ X, arrI .u8 64 (V.pg k).byt = X := ⟨_, rfl⟩
              have hXs : X.size = 64 := by rw [← hX]; simp [arrI]
              have hra : wc.rangeAt b (1088 + k * 64) X.toList := fun j v hj => by
                rw [← hX] at hj
                have hj64 : j < 64 := by have := (List.getElem?_eq_some_iff.1 hj).1; simpa [arrI] using this
                rw [kb9.cell, hc'.out.byt k hlt j hj64, ← hj, Array.getElem?_toList, arrI_at hj64]
              have hinfl : (Tryz.prog.info? 74).map (·.size) = some X.toList.length := by rw [Array.length_toList, hXs]; exact infoKinds
              have heq : ∀ W, (Op.equalIn 10000 74 (.agg X) (.agg #[.int .u8 0, .int .u8 0, .int .u8 0, .int .u8 0, .int .u8 0, .int .u8 0, .int .u8 0, .int .u8 0, .int .u8 0, .int .u8 0, .int .u8 0, .int .u8 0, .int .u8 0, .int .u8 0, .int .u8 0, .int .u8 0, .int .u8 0, .int .u8 0, .int .u8 0, .int .u8 0, .int .u8 0, .int .u8 0, .int .u8 0, .int .u8 0, .int .u8 0, .int .u8 0, .int .u8 0, .int .u8 0, .int .u8 0, .int .u8 0, .int .u8 0, .int .u8 0, .int .u8 0, .int .u8 0, .int .u8 0, .int .u8 0, .int .u8 0, .int .u8 0, .int .u8 0, .int .u8 0, .int .u8 0, .int .u8 0, .int .u8 0, .int .u8 0, .int .u8 0, .int .u8 0, .int .u8 0, .int .u8 0, .int .u8 0, .int .u8 0, .int .u8 0, .int .u8 0, .int .u8 0, .int .u8 0, .int .u8 0, .int .u8 0, .int .u8 0, .int .u8 0, .int .u8 0, .int .u8 0, .int .u8 0, .int .u8 0, .int .u8 0, .int .u8 0])).run Tryz.prog W = .ok (!nzB (V.pg k)) W := fun W => by
                have h := eq64_any (V.pg k).byt (fun _ => 0) W
                rw [hX, nzB_all] at h
                exact h
              have hra' : wc.rangeAt b (1088 + k * 64) (arrI .u8 64 (V.pg k).byt).toList := by rw [hX]; exact hra
              clear hX hXs
              cases hnz : nzB (V.pg k) with
              | false =>
                rw [hnz] at heq
                have hstD2 : Hid (datL V (k + 1) = datL V k) := Lib.hid (by rw [hstD.out, if_neg (by rw [hnz]; decide)])
                clear hstD hnz hra'
                go_wp2_with (refine wpList_load_midW 74 (.tmp 107) rfl rfl b (1088 + k * 64) rfl X.toList _ hra Tryz.underlying74 rfl hinfl ?_; rw [Array.toArray_toList])
                go_roundw
                case rel => exact ⟨k + 1, _, v2', _, by omega, by go_num, k39, ro19, ro29, by rw [hstD2.out]; exact ro39, F39⟩
                case measure => simp [intOf]; omega
              | true =>
                rw [hnz] at heq
                have hstD2 : Hid (datL V (k + 1) = datL V k ++ [k]) := Lib.hid (by rw [hstD.out, if_pos hnz])
                clear hstD hnz
                go_upto_region 14 with (refine wpList_load_midW 74 (.tmp 107) rfl rfl b (1088 + k * 64) rfl X.toList _ hra Tryz.underlying74 rfl hinfl ?_; rw [Array.toArray_toList])
                have hNBW : NB ≤ wc.heap.size := by have := F39.size; omega
                refine save6_dat b (s + 1) k NB _ _ _ (V.pg k).byt _ _ _ hkl (by omega) kb9.lt k39.lt hNBW (by omega) (by omega) hra' k39 ((k39.cell 2).trans rfl) ro39 ?_
                intro x112 x113 x114 x115 x116 x117 x118 x119 x120 x121 x122 x123 x124 w14 A3' cap3' hsz14 k314 ro314 F314
                clear c39 hcK9 heq hra hra'
                go_wp2_with fail
                go_roundw
                case rel =>
                  refine ⟨k + 1, _, v2', _, by omega, by go_num, k314, row_kept ro19 ro39 (by decide) (by omega) F314, row_kept ro29 ro39 (by decide) (by omega) F314, ?_, F39.trans' F314 (fun i hi h => h.elim .inl (fun h => .inr (ro39.lt i h).1))⟩
                  rw [hstD2.out, List.length_append, List.length_singleton, fl_append, show fl (daC V) [k] = (daA (k : Int) (V.pg k).byt).toList by rw [← daC_eq]; simp [fl]]
                  exact ro314
                case measure => simp [intOf]; omega
            · have hk2' : ((V.pg k).kind == 2) = false := by simpa using hk2
              have hstD2 : Hid (datL V (k + 1) = datL V k) := Lib.hid (by rw [hstD.out, if_neg (by
                have h := nzB_false.2 (fun j _ => hG'.out.byt k hlt hk2 j)
                rw [h]; decide)])
              clear hstD hk2
              go_wp2_with fail
              go_roundw
              case rel => exact ⟨k + 1, _, v2', _, by omega, by go_num, k39, ro19, ro29, by rw [hstD2.out]; exact ro39, F39⟩
              case measure => simp [intOf]; omega
    · obtain rfl : k = 1024 := by omega
      have hlt' : decide (((1024 : Nat) : Int) < 1024) = false := by decide
      obtain ⟨A1, cap1, rfl, r1, _, _, g1, _⟩ := own_Rd ro1
      obtain ⟨A2, cap2, rfl, r2, _, _, g2, _⟩ := own_Rd ro2
      obtain ⟨A3, cap3, rfl, r3, _, _, g3, _⟩ := own_Rd ro3
      have k2r := hF.blk k23 (by show ¬ (s = s + 1 ∨ NB ≤ s); omega)
      obtain ⟨C18, hC18⟩ : ∃ C18, stC (.slice A1 (vrunsL V 1024).length cap1) (.slice A2 (hugL V 1024).length cap2) (.slice A3 (datL V 1024).length cap3) (.slice A4 n c4) V.rf.calls V.rf.hits = C18 := ⟨_, rfl⟩
      have hC18s : C18.length = 18 := by rw [← hC18]; rfl
      have hC18o : C18.toArray.all (·.oneCell') = true := by rw [← hC18]; exact Go.all_oneCell_toArray (stC_one rfl rfl rfl rfl _ _)
      rw [hC18] at k3
      have hra : wr.rangeAt (s + 1) 0 C18 := fun j v hj => by rw [Nat.zero_add, k3.cell]; simpa using hj
      have hinf : (Tryz.prog.info? 53).map (·.size) = some C18.length := by rw [hC18s]; exact infoSt
      have hinfa : (Tryz.prog.info? 53).map (·.size) = some C18.toArray.size := by rw [List.size_toArray]; exact hinf
      have ht : wr.there s 0 C18.toArray.size := z_there k2r 0 _ (by rw [List.size_toArray, hC18s]; exact Nat.le_refl _)
      have kP := Blk.puts (g := s) (t := 53) (w := wr) (cs := #[]) C18 0 wr _ k2r
      rw [putA_all (by rw [hC18s]; rfl)] at kP
      have F9 := Far.puts (T := fun k => k = s) rfl C18 0 wr wr (Far.refl _ _)
      have hC' := Lib.hid hC18
      clear hC18 hC18s
      go_wp2_with (first
        | (refine wpList_load_mid rfl 53 (.tmp 3) rfl (s + 1) 0 rfl C18 _ hra Tryz.underlying53 rfl hinf ?_)
        | (refine wpList_store_mid rfl 53 (.tmp 2) (.tmp 125) rfl s 0 C18.toArray rfl rfl ht hinfa hC18o ?_))
      generalize World.setCells wr s 0 C18 = w9 at *
      have hl9 := run_loadVar_mid (P := Tryz.prog) w9 s 0 53 C18 _ (fun j v hj => by rw [Nat.zero_add, kP.cell]; simpa using hj) Tryz.underlying53 rfl hinf
      refine bodyPost_ret (v := .agg C18.toArray) ?_ rfl ?_
      · exact z_results_cell1 Tryz.results13 rfl hl9
      have q1r := q13'.out.farN hF (fun k hk ⟨o, e⟩ => by
        have := q4'.out k o e
        show ¬ (k = s + 1 ∨ NB ≤ k)
        omega)
      have hsz9 := F9.size
      have hszr := hF.size
      refine ⟨_, rfl, ⟨A1, A2, A3, A4, _, cap1, _, cap2, _, cap3, n, c4, by rw [hC'.out], rfl, ?_, rfl, ?_, rfl, ?_, hN4'.out, ?_⟩, ?_⟩
      · exact (r1.farN F9 (fun k hk ⟨o, e⟩ h => by have := g1 k o e; omega)).more hsz9
      · exact RI.more (r2.farN F9 (fun k hk ⟨o, e⟩ h => by have := g2 k o e; omega)) hsz9
      · exact (r3.farN F9 (fun k hk ⟨o, e⟩ h => by have := g3 k o e; omega)).more hsz9
      · exact (q1r.farN F9 (fun k hk ⟨o, e⟩ h => by have := q4'.out k o e; omega)).more (by omega)
      · rw [hs'.out]
        exact B3'.out.trans ((hF.below (by omega) (fun k hk h => by omega)).trans (F9.below (by omega) (fun k hk h => by omega)))
end Go.Proofs.YtdepkmpilipolaaGreat
namespace Go.Proofs.YtdepkmpilipolaaGreat
open Go Go.Proofs Go.RowKit Go.Pol Go.Shelf
attribute [local go_sem] Oper.semAt_some Go.Pol.wide_fn Go.Pol.wide_depth Go.Pol.wide_fn' Go.Pol.wide_depth'

set_option maxRecDepth 100000 in
set_option maxHeartbeats 1600000 in
theorem insNil_any (base g : Nat) (xa xb : Int) (w : World) (k : Blk w g 64 #[.int .i64 xa, .int .i64 xb]) (hb : base ≤ w.heap.size) :
    Calls Tryz.prog 35 #[.slice none 0 0, .int .i64 0, .slice (some ⟨g, 0, none⟩) 1 1] w fun e w' => ∃ v, e = .returned v ∧ w'.ownsRow base 64 2 v 1 [.int .i64 xa, .int .i64 xb] ∧ Below w.heap.size w w' := by
  obtain ⟨j0, hj, hy0, hy1, hy2⟩ := infoSp_parts
  have hrow := World.ownsRow_nil w base 64 2
  go_enter Tryz.func35, Tryz.ntmps35
  go_wp2_with (refine wpList_append_own _ rfl (.tmp 23) (.tmp 24) 22 rfl base 64 j0 (.agg #[.int .i64 0, .int .i64 0]) 2 16 Tryz.underlying22 hj hy0 hy1 hy2 rfl (by decide) _ 0 [] rfl hrow ⟨g, 0, none⟩ 1 1 [.int .i64 xa, .int .i64 xb] rfl rfl (news_two k) news_one2 (by unfold maxLen; omega) (by omega) hb ?_; intro v' w7 hown' hgrow _)
  go_ret
  exact ⟨v', rfl, by simpa using hown', (Below.refl _ _).grown hgrow (Nat.le_refl _) (fun j hj => by cases hj)⟩
end Go.Proofs.YtdepkmpilipolaaGreat
namespace Go.Pol
open Go Go.RowKit
/-- copy(d, s) at elements of sz cells: the row of the block d lies in afterwards -/
theorem run_copy_rowN {P : Program} (w : World) (dT sT ty elem : TypeId) (sz g o dLen dCap : Nat) (a : Addr) (sLen sCap m : Nat) (cur : Array Value) (t : TypeId) (cs : List Value)
    (hu : P.underlying dT = some (.slice elem)) (hs : (P.info? elem).map (·.size) = some sz)
    (hg : w.heap[g]? = some (.cells cur t (0, 0))) (hm : Nat.min sLen dLen = m) (hn : cs.length = m * sz)
    (hsrc : ∀ j v, cs[j]? = some v → w.cell? (a.add j) = some v) (hfit : o + cs.length ≤ cur.size) (h1 : ∀ v ∈ cs, v.oneCell' = true) :
    (Builtin.copy_ #[dT, sT] ty #[.slice (some ⟨g, o, none⟩) dLen dCap, .slice (some a) sLen sCap]).run P w =
      .ok (goInt m) (w.setRow g (cur.toList.take o ++ cs ++ cur.toList.drop (o + cs.length)).toArray) := by
  have hl := run_loadCells_list (P := P) w a cs hsrc
  have hst := run_storeCells_at P g o t cs 0 cur w hg (by simpa using hfit) h1
  cases hq : P.info? elem with
  | none => simp [hq] at hs
  | some i =>
    have hi : i.size = sz := by simpa [hq] using hs
    simp [Builtin.copy_, run_underlying hu, Builtin.lenOf, Builtin.firstCells, sizeOf, typeInfo, hq, hi, hm, ← hn, hl, hst]
end Go.Pol
namespace Go.Proofs.YtdepkmpilipolaaGreat
open Go Go.Proofs Go.RowKit Go.Pol Go.Shelf
attribute [local go_sem] Oper.semAt_some Go.Pol.wide_fn Go.Pol.wide_depth Go.Pol.wide_fn' Go.Pol.wide_depth'

/-- room for one more is made in a new block -/
theorem appZ (ad : Addr) (n c : Nat) (hc : c < n + 1) (hn : n ≤ 512) (ty : TypeId) (w : World) :
    (Builtin.append_ #[22, 3] ty #[.slice (some ad) 0 c, .int .i64 ((n + 1 : Nat) : Int)]).run Tryz.prog w =
      .ok (.slice (some ⟨w.heap.size, 0, none⟩) (n + 1) (grownCap w (n + 1) c 64)) (w.drew.alloc (.cells (#[] ++ Builtin.zeroCells #[.int .i64 0, .int .i64 0] (n + 1) ++ Builtin.zeroCells #[.int .i64 0, .int .i64 0] (grownCap w (n + 1) c 64 - (n + 1))) 64)) := by
  obtain ⟨j0, hj, hy0, hy1, hy2⟩ := infoSp_parts
  have h := Lib.run_append_grow_zeros (P := Tryz.prog) w 22 3 ty 64 j0 _ .i64 .i64 Tryz.underlying22 Tryz.underlying3 hj hy0 (some ad) 0 c [] (by
    rw [hy1]
    exact run_firstCells_some w.drew 2 0 ad 0 c [] rfl (fun j v hv => by cases hv)) (n + 1) (by omega) (by omega) (by omega) (by omega) (by rw [hy2]; omega) (by rw [hy2]; exact growslice_fits_wide (by omega) (by omega))
  rw [Nat.zero_add] at h
  exact h
end Go.Proofs.YtdepkmpilipolaaGreat
namespace Go.Pol
open Go Go.RowKit
/-- the same, of an operation of a region that draws -/
theorem step_copy_runW {P : Program} {ops : Array Oper} {o : Oper} {a : Act} {w : World} {K : Act → World → Prop} {Q : Exit → Act → World → Prop} {E : Prop}
    (hg : o.guard = none) (d x : Operand) (dT sT : TypeId) (hop : o.op = Op.call { callee := Callee.builtin Builtin.copy, args := #[d, x], argTypes := #[dT, sT] })
    (v u : Value) (hd : a.eval d = v) (hx : a.eval x = u) {v' : Value} {w' : World} (hr : (Builtin.copy_ #[dT, sT] o.type #[v, u]).run P w = .ok v' w') (hK : K (a.put o.dst v') w') :
    if Region.wanted o (yielded ops a.tmps) = true then Oper.wp P o a w K Q else E := by
  have hw : Region.wanted o (yielded ops a.tmps) = true := by simp [Region.wanted, hg]
  rw [if_pos hw]
  unfold Oper.wp
  simp [execOp, hop, resolve, invoke, builtin, hd, hx, hr, Result.andThen]
  exact hK
/-- the cells once the first copy is done -/
def insrtB (cur : List Value) (xa xb : Value) : List Value := cur.take 0 ++ [xa, xb] ++ cur.drop (0 + 2)
/-- the cells once both copies are done -/
def insrtC (cur xs : List Value) (xa xb : Value) : List Value := xa :: xb :: xs ++ cur.drop (2 + xs.length)
theorem insrtC_grow (cur xs : List Value) (xa xb : Value) : (insrtB cur xa xb).take 2 ++ xs ++ (insrtB cur xa xb).drop (2 + xs.length) = insrtC cur xs xa xb := by
  unfold insrtB insrtC
  simp [Nat.add_comm 2 xs.length, List.drop_append]
theorem insrtC_room (cur xs : List Value) (xa xb : Value) (h : 2 ≤ cur.length) : insrtB (cur.take 2 ++ xs ++ cur.drop (2 + xs.length)) xa xb = insrtC cur xs xa xb := by
  unfold insrtB insrtC
  obtain ⟨a, b, r, rfl⟩ : ∃ a b r, cur = a :: b :: r := by
    match cur, h with
    | a :: b :: r, _ => exact ⟨a, b, r, rfl⟩
  simp
theorem insrtC_len (cur xs : List Value) (xa xb : Value) (h : 2 + xs.length ≤ cur.length) : (insrtC cur xs xa xb).length = cur.length := by
  unfold insrtC
  simp
  omega
theorem spCells_oneW (us : List Sp) : ∀ u ∈ spCells us, u.oneCell' = true := by
  intro u hu
  unfold spCells at hu
  rw [List.mem_flatMap] at hu
  obtain ⟨x, _, h⟩ := hu
  rcases List.mem_cons.1 h with rfl | h
  · rfl
  · rcases List.mem_cons.1 h with rfl | h
    · rfl
    · cases h
theorem setRow_own {w : World} {g base n c : Nat} {t : TypeId} {cur cs : Array Value} {xs : List Value} (hg : w.heap[g]? = some (.cells cur t (0, 0))) (hb : base ≤ g) (hc : n ≤ c) (hcm : c ≤ maxLen) (hs : cs.size = c * 2) (hl : xs.length = n * 2) (hx : cs.toList.take (n * 2) = xs) :
    (w.setRow g cs).ownsRow base t 2 (.slice (some ⟨g, 0, none⟩) n c) n xs :=
  ⟨hl, .inr ⟨g, c, cs, rfl, hb, setRow_heap _ _ _ _ _ _ hg, hc, hcm, hs, hx⟩⟩
end Go.Pol
namespace Go.Proofs.YtdepkmpilipolaaGreat
open Go Go.Proofs Go.RowKit Go.Pol Go.Shelf
attribute [local go_sem] Oper.semAt_some Go.Pol.wide_fn Go.Pol.wide_depth Go.Pol.wide_fn' Go.Pol.wide_depth'

theorem infoSpS2 : (Tryz.prog.info? 64).map (·.size) = some 2 := by kernel_rfl
theorem blk_setRow {w : World} {g : Nat} {t : TypeId} {cs cur : Array Value} (h : Blk w g t cur) : Blk (w.setRow g cs) g t cs := setRow_heap _ _ _ _ _ _ h
theorem blk_setRow_far {w : World} {g k : Nat} {t : TypeId} {cs cur : Array Value} (h : Blk w k t cur) (hne : k ≠ g) : Blk (w.setRow g cs) k t cur := by
  show (w.setRow g cs).heap[k]? = _
  rw [setRow_other _ _ _ _ hne]; exact h
set_option maxRecDepth 100000 in
set_option maxHeartbeats 400000 in
theorem insGrow_walk (g gx n c G q : Nat) (w W1 W2 W3 : World) (hn0 : 0 < n) (hn : n ≤ 512) (hnc : n ≤ c) (hc : c < n + 1) (hGn : n + 1 ≤ G) (hGm : G ≤ maxLen)
    (hap : ∀ ty, (Builtin.append_ #[22, 3] ty #[.slice (some ⟨g, 0, none⟩) 0 c, .int .i64 ((n : Int) + 1)]).run Tryz.prog w = .ok (.slice (some ⟨q, 0, none⟩) (n + 1) G) W1)
    (hcA : ∀ ty, (Builtin.copy_ #[22, 22] ty #[.slice (some ⟨q, 0, none⟩) (n + 1) G, .slice (some ⟨gx, 0, none⟩) 1 1]).run Tryz.prog W1 = .ok (goInt 1) W2)
    (hcB : ∀ ty, (Builtin.copy_ #[22, 22] ty #[.slice (some ⟨q, 2, none⟩) n (G - 1), .slice (some ⟨g, 0, none⟩) n c]).run Tryz.prog W2.drew = .ok (goInt n) W3) :
    Calls Tryz.prog 35 #[.slice (some ⟨g, 0, none⟩) n c, .int .i64 0, .slice (some ⟨gx, 0, none⟩) 1 1] w fun e w' => e = .returned (.slice (some ⟨q, 0, none⟩) (n + 1) G) ∧ w' = W3 := by
  have hcd : decide ((c : Int) < (n : Int) + 1) = true := by rw [decide_eq_true_eq]; omega
  have hn0' : ((0 : Int) == (n : Int)) = false := by rw [beq_eq_false_iff_ne]; omega
  have hwr : IntKind.i64.wrap ((n : Int) + 1) = (n : Int) + 1 := by rw [IntKind.wrap_i64]; omega
  have hcB' := Lib.hid hcB
  have hcA' := Lib.hid hcA
  have hap' := Lib.hid hap
  unfold maxLen at hGm
  clear hcA hcB hap
  go_enter Tryz.func35, Tryz.ntmps35
  go_upto_region 9 with fail
  go_upto_region 10 with (at_builtin; refine Lib.wpList_append_run _ rfl _ _ _ _ rfl _ _ rfl rfl _ _ (hap'.out _) ?_)
  go_upto_region 11 with (simp only [hcA'.out, Result.andThen_ok])
  have hw1 : IntKind.i64.wrap 1 = 1 := by rw [IntKind.wrap_i64]; rfl
  have hb1 : (1 : Int) ≤ (n : Int) + 1 := by omega
  have hG1 : ¬ (G = 1) := by omega
  have hc0 : ¬ (c = 0) := by omega
  have mixed : Tryz.prog.follows Departure.mixedOrders = true := by kernel_rfl
  go_region_law_o (refine step_copy_runW rfl _ _ 22 22 rfl (.slice (some ⟨q, 2, none⟩) n (G - 1)) (.slice (some ⟨g, 0, none⟩) n c) (by simp [Act.eval, Act.put]) (by simp [Act.eval, Act.put]) (hcB'.out _) ?_)
  go_wp2_with fail
  go_ret
  exact ⟨rfl, rfl⟩
set_option maxRecDepth 100000 in
set_option maxHeartbeats 1600000 in
/-- there is no room: a new row -/
theorem insGrow_any (base g gx n c : Nat) (xa xb : Int) (L : List Sp) (w : World) (hL : L.length = n) (hn0 : 0 < n) (hn : n ≤ 512) (hc : c < n + 1) (hrow : w.ownsRow base 64 2 (.slice (some ⟨g, 0, none⟩) n c) n (spCells L)) (k : Blk w gx 64 #[.int .i64 xa, .int .i64 xb]) (hb : base ≤ w.heap.size) :
    Calls Tryz.prog 35 #[.slice (some ⟨g, 0, none⟩) n c, .int .i64 0, .slice (some ⟨gx, 0, none⟩) 1 1] w fun e w' => ∃ v, e = .returned v ∧ w'.ownsRow base 64 2 v (n + 1) (.int .i64 xa :: .int .i64 xb :: spCells L) ∧ Far (fun k => k = g) w w' := by
  obtain ⟨G, hG⟩ : ∃ G, grownCap w (n + 1) c 64 = G := ⟨_, rfl⟩
  have hGn := grownCap_ge w (n + 1) c 64
  have hGm := grownCap_le_maxLen w (n + 1) c 64 (by unfold maxLen; omega)
  rw [hG] at hGn hGm
  obtain ⟨q, hq⟩ : ∃ q, w.heap.size = q := ⟨_, rfl⟩
  obtain ⟨hgq, hnc⟩ : g < q ∧ n ≤ c := by
    rcases hrow.2 with ⟨h, _⟩ | ⟨g', cap, cur, h, _, hk, h3, _⟩
    · cases h
    · cases h; rw [← hq]; exact ⟨Blk.lt hk, h3⟩
  have hxq : gx < q := by rw [← hq]; exact k.lt
  have hlc : (spCells L).length = n * 2 := by rw [spCells_len, hL]
  obtain ⟨ROW, hROW⟩ : ∃ ROW : Array Value, #[] ++ Builtin.zeroCells #[.int .i64 0, .int .i64 0] (n + 1) ++ Builtin.zeroCells #[.int .i64 0, .int .i64 0] (G - (n + 1)) = ROW := ⟨_, rfl⟩
  have hRs : ROW.size = G * 2 := by rw [← hROW]; simp [Builtin.zeroCells]; omega
  obtain ⟨W1, hW1⟩ : ∃ W1, w.drew.alloc (.cells ROW 64) = W1 := ⟨_, rfl⟩
  have hap : ∀ ty, (Builtin.append_ #[22, 3] ty #[.slice (some ⟨g, 0, none⟩) 0 c, .int .i64 ((n : Int) + 1)]).run Tryz.prog w = .ok (.slice (some ⟨q, 0, none⟩) (n + 1) G) W1 := fun ty => by
    have h := appZ ⟨g, 0, none⟩ n c hc hn ty w
    rw [hG, hROW, hW1, hq] at h
    rw [show ((n : Int) + 1) = ((n + 1 : Nat) : Int) by omega]
    exact h
  have k1 : Blk W1 q 64 ROW := by rw [← hW1, ← hq]; exact Blk.new w.drew _ _
  have hF1 : Far (fun _ => False) w W1 := by rw [← hW1]; exact (Far.refl _ w).drew.alloc _
  have kx1 := hF1.blk k (fun h => h)
  obtain ⟨W2, hW2⟩ : ∃ W2, W1.setRow q (ROW.toList.take 0 ++ [Value.int .i64 xa, Value.int .i64 xb] ++ ROW.toList.drop (0 + [Value.int .i64 xa, .int .i64 xb].length)).toArray = W2 := ⟨_, rfl⟩
  have hcA : ∀ ty, (Builtin.copy_ #[22, 22] ty #[.slice (some ⟨q, 0, none⟩) (n + 1) G, .slice (some ⟨gx, 0, none⟩) 1 1]).run Tryz.prog W1 = .ok (goInt 1) W2 := fun ty => by
    rw [← hW2]
    exact run_copy_rowN W1 _ _ ty 64 2 q 0 (n + 1) G ⟨gx, 0, none⟩ 1 1 1 ROW _ [.int .i64 xa, .int .i64 xb] Tryz.underlying22 infoSpS2 k1 (by simp only [Nat.min_def]; split <;> omega) rfl (news_two kx1) (by simp; omega) news_one2
  have hR0 : ROW.toList.length = G * 2 := by simpa using hRs
  have k2 : Blk W2 q 64 (insrtB ROW.toList (.int .i64 xa) (.int .i64 xb)).toArray := by rw [← hW2]; exact blk_setRow k1
  have hF2 : Far (fun k => q ≤ k) w W2 := by
    rw [← hW2]
    exact (hF1.mono (fun _ _ h => h.elim)).trans' (T' := fun k => k = q) ⟨rfl, rfl, rfl, by simp [World.setRow], fun _ _ hT => setRow_other _ _ _ _ hT⟩ (fun i hi e => by omega)
  have hsrc : ∀ (j : Nat) (v : Value), (spCells L)[j]? = some v → W2.drew.cell? (Addr.add ⟨g, 0, none⟩ j) = some v := fun j v hj => by
    have h0 := hrow.cells (g := g) rfl j v hj
    rw [addr_add0] at h0 ⊢
    exact (hF2.drew).cell h0 (by show ¬ q ≤ g; omega)
  have hBl : (insrtB ROW.toList (.int .i64 xa) (.int .i64 xb)).length = G * 2 := by unfold insrtB; simp; omega
  obtain ⟨W3, hW3⟩ : ∃ W3, W2.drew.setRow q ((insrtB ROW.toList (.int .i64 xa) (.int .i64 xb)).toArray.toList.take 2 ++ spCells L ++ (insrtB ROW.toList (.int .i64 xa) (.int .i64 xb)).toArray.toList.drop (2 + (spCells L).length)).toArray = W3 := ⟨_, rfl⟩
  have hcB : ∀ ty, (Builtin.copy_ #[22, 22] ty #[.slice (some ⟨q, 2, none⟩) n (G - 1), .slice (some ⟨g, 0, none⟩) n c]).run Tryz.prog W2.drew = .ok (goInt n) W3 := fun ty => by
    rw [← hW3]
    exact run_copy_rowN W2.drew _ _ ty 64 2 q 2 n (G - 1) ⟨g, 0, none⟩ n c n _ _ (spCells L) Tryz.underlying22 infoSpS2 k2.drew (by simp only [Nat.min_def]; split <;> omega) hlc hsrc (by rw [hlc, List.size_toArray, hBl]; omega) (spCells_oneW L)
  have hown : W3.ownsRow base 64 2 (.slice (some ⟨q, 0, none⟩) (n + 1) G) (n + 1) (.int .i64 xa :: .int .i64 xb :: spCells L) := by
    rw [← hW3, List.toList_toArray, insrtC_grow]
    refine setRow_own k2.drew (by omega) hGn hGm (by rw [List.size_toArray, insrtC_len _ _ _ _ (by rw [hlc, hR0]; omega), hR0]) (by simp only [List.length_cons, hlc]; omega) ?_
    rw [List.toList_toArray]
    unfold insrtC
    rw [List.take_append_of_le_length (by simp only [List.length_cons, hlc]; omega), List.take_of_length_le (by simp only [List.length_cons, hlc]; omega)]
  have hF3 : Far (fun k => k = g) w W3 := by
    rw [← hW3]
    exact ((hF2.drew).mono (fun i hi h => by omega)).trans' (T' := fun k => k = q) ⟨rfl, rfl, rfl, by simp [World.setRow], fun _ _ hT => setRow_other _ _ _ _ hT⟩ (fun i hi e => by omega)
  refine (insGrow_walk g gx n c G q w W1 W2 W3 hn0 hn hnc hc hGn hGm hap hcA hcB).mono ?_
  rintro e w' ⟨rfl, rfl⟩
  exact ⟨_, rfl, hown, hF3⟩
end Go.Proofs.YtdepkmpilipolaaGreat
namespace Go.Proofs.YtdepkmpilipolaaGreat
open Go Go.Proofs Go.RowKit Go.Pol Go.Shelf
attribute [local go_sem] Oper.semAt_some Go.Pol.wide_fn Go.Pol.wide_depth Go.Pol.wide_fn' Go.Pol.wide_depth'

theorem overlaps_no (w : World) (a b : Addr) (la ca lb cb : Nat) (hne : a.block ≠ b.block) (tA tB : TypeId) (kA kB : Nat) (hsa : w.shape? a.block = some (tA, kA)) (hsb : w.shape? b.block = some (tB, kB)) (hkB : kB ≠ 0) (hfa : w.frozen? a = false) (hfe : w.frozen? { block := a.block, off := kA } = false) :
    (callFunc 57 #[.slice (some a) la ca, .slice (some b) lb cb]).run Tryz.prog w = .ok (.value (.bool false)) w := by
  have hz : ∀ w, (Go.sizeOf 64).run Tryz.prog w = .ok 2 w := fun w => by
    obtain ⟨j0, hj, hy0, hy1, hy2⟩ := infoSp_parts
    simp [sizeOf, typeInfo, hj, hy1]
  rw [run_callFunc_extern Tryz.func57 (by kernel_rfl) (by kernel_rfl) (by kernel_rfl) (e := Extern.SlicesOverlaps.overlaps #[22, 22] #[4]) (by kernel_rfl),
    Lib.run_overlaps_apart w 22 4 64 Tryz.underlying22 2 hz a b la ca lb cb hne tA tB kA kB hsa hsb hkB hfa hfe]
  rfl
set_option maxRecDepth 100000 in
set_option maxHeartbeats 800000 in
theorem insRoom_walk (g gx n c : Nat) (w W2 W3 : World) (hn0 : 0 < n) (hn : n ≤ 512) (hc : n + 1 ≤ c) (hcm : c ≤ maxLen)
    (hov : (callFunc 57 #[.slice (some ⟨gx, 0, none⟩) 1 1, .slice (some ⟨g, 2, none⟩) n (c - 1)]).run Tryz.prog w = .ok (.value (.bool false)) w)
    (hcA : ∀ ty, (Builtin.copy_ #[22, 22] ty #[.slice (some ⟨g, 2, none⟩) n (c - 1), .slice (some ⟨g, 0, none⟩) (n + 1) c]).run Tryz.prog w.drew = .ok (goInt n) W2)
    (hcB : ∀ ty, (Builtin.copy_ #[22, 22] ty #[.slice (some ⟨g, 0, none⟩) (n + 1) c, .slice (some ⟨gx, 0, none⟩) 1 1]).run Tryz.prog W2 = .ok (goInt 1) W3) :
    Calls Tryz.prog 35 #[.slice (some ⟨g, 0, none⟩) n c, .int .i64 0, .slice (some ⟨gx, 0, none⟩) 1 1] w fun e w' => e = .returned (.slice (some ⟨g, 0, none⟩) (n + 1) c) ∧ w' = W3 := by
  have hcd : decide ((c : Int) < (n : Int) + 1) = false := by rw [decide_eq_false_iff_not]; omega
  have hn0' : ((0 : Int) == (n : Int)) = false := by rw [beq_eq_false_iff_ne]; omega
  have hwr : IntKind.i64.wrap ((n : Int) + 1) = (n : Int) + 1 := by rw [IntKind.wrap_i64]; omega
  have hw1 : IntKind.i64.wrap 1 = 1 := by rw [IntKind.wrap_i64]; rfl
  have hb1 : (1 : Int) ≤ (n : Int) + 1 := by omega
  have hb0 : (0 : Int) ≤ (n : Int) + 1 := by omega
  have hG1 : ¬ (c = 1) := by omega
  have hc0 : ¬ (c = 0) := by omega
  have hnc1 : (n : Int) + 1 ≤ (c : Int) := by omega
  have hcB' := Lib.hid hcB
  have hcA' := Lib.hid hcA
  have hov' := Lib.hid hov
  have hc63 : c ≤ 9223372036854775807 := by unfold maxLen at hcm; omega
  have mixed : Tryz.prog.follows Departure.mixedOrders = true := by kernel_rfl
  clear hcA hcB hov hcm
  go_enter Tryz.func35, Tryz.ntmps35
  go_upto_region 14 with fail
  go_upto_region 15 with (simp only [hov'.out])
  go_region_law_o (refine step_copy_runW rfl _ _ 22 22 rfl (.slice (some ⟨g, 2, none⟩) n (c - 1)) (.slice (some ⟨g, 0, none⟩) (n + 1) c) (by simp [Act.eval, Act.put]) (by simp [Act.eval, Act.put]) (hcA'.out _) ?_)
  go_wp2_with (simp only [hcB'.out, Result.andThen_ok])
  go_ret
  exact ⟨rfl, rfl⟩
set_option maxRecDepth 100000 in
set_option maxHeartbeats 1600000 in
/-- there is room: in place -/
theorem insRoom_any (base g gx n c : Nat) (xa xb : Int) (L : List Sp) (w : World) (hL : L.length = n) (hn0 : 0 < n) (hn : n ≤ 512) (hc : n + 1 ≤ c) (hrow : w.ownsRow base 64 2 (.slice (some ⟨g, 0, none⟩) n c) n (spCells L)) (k : Blk w gx 64 #[.int .i64 xa, .int .i64 xb]) (hne : gx ≠ g) :
    Calls Tryz.prog 35 #[.slice (some ⟨g, 0, none⟩) n c, .int .i64 0, .slice (some ⟨gx, 0, none⟩) 1 1] w fun e w' => ∃ v, e = .returned v ∧ w'.ownsRow base 64 2 v (n + 1) (.int .i64 xa :: .int .i64 xb :: spCells L) ∧ Far (fun k => k = g) w w' := by
  obtain ⟨cur, hbg, hk, hcm, hcs, htk⟩ : ∃ cur : Array Value, base ≤ g ∧ Blk w g 64 cur ∧ c ≤ maxLen ∧ cur.size = c * 2 ∧ cur.toList.take (n * 2) = spCells L := by
    rcases hrow.2 with ⟨h, _⟩ | ⟨g', cap, cur, h, h1, h2, h3, h4, h5, h6⟩
    · cases h
    · cases h; exact ⟨cur, h1, h2, h4, h5, h6⟩
  have hlc : (spCells L).length = n * 2 := by rw [spCells_len, hL]
  have hR0 : cur.toList.length = c * 2 := by simpa using hcs
  have hov : (callFunc 57 #[.slice (some ⟨gx, 0, none⟩) 1 1, .slice (some ⟨g, 2, none⟩) n (c - 1)]).run Tryz.prog w = .ok (.value (.bool false)) w :=
    overlaps_no w _ _ _ _ _ _ hne 64 64 2 (c * 2) (by
      have : w.heap[gx]? = _ := k
      simp [World.shape?, this]) (by
      have : w.heap[g]? = _ := hk
      simp [World.shape?, this, hcs]) (by omega) (k.frozen 0) (k.frozen 2)
  obtain ⟨W2, hW2⟩ : ∃ W2, w.drew.setRow g (cur.toList.take 2 ++ spCells L ++ cur.toList.drop (2 + (spCells L).length)).toArray = W2 := ⟨_, rfl⟩
  have hsrc : ∀ (j : Nat) (v : Value), (spCells L)[j]? = some v → w.drew.cell? (Addr.add ⟨g, 0, none⟩ j) = some v := fun j v hj => hrow.cells (g := g) rfl j v hj
  have hcA : ∀ ty, (Builtin.copy_ #[22, 22] ty #[.slice (some ⟨g, 2, none⟩) n (c - 1), .slice (some ⟨g, 0, none⟩) (n + 1) c]).run Tryz.prog w.drew = .ok (goInt n) W2 := fun ty => by
    rw [← hW2]
    exact run_copy_rowN w.drew _ _ ty 64 2 g 2 n (c - 1) ⟨g, 0, none⟩ (n + 1) c n cur _ (spCells L) Tryz.underlying22 infoSpS2 hk.drew (by simp only [Nat.min_def]; split <;> omega) hlc hsrc (by omega) (spCells_oneW L)
  have k2 : Blk W2 g 64 (cur.toList.take 2 ++ spCells L ++ cur.toList.drop (2 + (spCells L).length)).toArray := by rw [← hW2]; exact blk_setRow hk.drew
  have kx2 : Blk W2 gx 64 #[.int .i64 xa, .int .i64 xb] := by rw [← hW2]; exact blk_setRow_far k.drew hne
  have hF2 : Far (fun k => k = g) w W2 := by
    rw [← hW2]
    exact (Far.refl _ w).drew.trans' (T' := fun k => k = g) ⟨rfl, rfl, rfl, by simp [World.setRow], fun _ _ hT => setRow_other _ _ _ _ hT⟩ (fun i hi e => by omega)
  obtain ⟨ROW, hROW⟩ : ∃ ROW, cur.toList.take 2 ++ spCells L ++ cur.toList.drop (2 + (spCells L).length) = ROW := ⟨_, rfl⟩
  have hRl : ROW.length = c * 2 := by rw [← hROW]; simp only [List.length_append, List.length_take, List.length_drop, hlc, hR0]; omega
  rw [hROW] at k2
  obtain ⟨W3, hW3⟩ : ∃ W3, W2.setRow g (ROW.toArray.toList.take 0 ++ [Value.int .i64 xa, Value.int .i64 xb] ++ ROW.toArray.toList.drop (0 + [Value.int .i64 xa, .int .i64 xb].length)).toArray = W3 := ⟨_, rfl⟩
  have hcB : ∀ ty, (Builtin.copy_ #[22, 22] ty #[.slice (some ⟨g, 0, none⟩) (n + 1) c, .slice (some ⟨gx, 0, none⟩) 1 1]).run Tryz.prog W2 = .ok (goInt 1) W3 := fun ty => by
    rw [← hW3]
    exact run_copy_rowN W2 _ _ ty 64 2 g 0 (n + 1) c ⟨gx, 0, none⟩ 1 1 1 _ _ [.int .i64 xa, .int .i64 xb] Tryz.underlying22 infoSpS2 k2 (by simp only [Nat.min_def]; split <;> omega) rfl (news_two kx2) (by simp; omega) news_one2
  have hown : W3.ownsRow base 64 2 (.slice (some ⟨g, 0, none⟩) (n + 1) c) (n + 1) (.int .i64 xa :: .int .i64 xb :: spCells L) := by
    have he : ROW.toArray.toList.take 0 ++ [Value.int .i64 xa, Value.int .i64 xb] ++ ROW.toArray.toList.drop (0 + [Value.int .i64 xa, .int .i64 xb].length) = insrtC cur.toList (spCells L) (.int .i64 xa) (.int .i64 xb) := by
      rw [List.toList_toArray, ← hROW]
      exact insrtC_room _ _ _ _ (by rw [hR0]; omega)
    rw [← hW3, he]
    refine setRow_own k2 hbg hc hcm (by rw [List.size_toArray, insrtC_len _ _ _ _ (by rw [hlc, hR0]; omega), hR0]) (by simp only [List.length_cons, hlc]; omega) ?_
    rw [List.toList_toArray]
    unfold insrtC
    rw [List.take_append_of_le_length (by simp only [List.length_cons, hlc]; omega), List.take_of_length_le (by simp only [List.length_cons, hlc]; omega)]
  have hF3 : Far (fun k => k = g) w W3 := by
    rw [← hW3]
    exact hF2.trans' (T' := fun k => k = g) ⟨rfl, rfl, rfl, by simp [World.setRow], fun _ _ hT => setRow_other _ _ _ _ hT⟩ (fun i hi e => by omega)
  refine (insRoom_walk g gx n c w W2 W3 hn0 hn hc hcm hov hcA hcB).mono ?_
  rintro e w' ⟨rfl, rfl⟩
  exact ⟨_, rfl, hown, hF3⟩
end Go.Proofs.YtdepkmpilipolaaGreat
namespace Go.Proofs.YtdepkmpilipolaaGreat
open Go Go.Proofs Go.RowKit Go.Pol Go.Shelf
attribute [local go_sem] Oper.semAt_some Go.Pol.wide_fn Go.Pol.wide_depth Go.Pol.wide_fn' Go.Pol.wide_depth'

theorem ins_any (base gx : Nat) (xa xb : Int) (L : List Sp) (v3 : Value) (w : World) (hL : L.length ≤ 512) (hn : L = [] → v3 = .slice none 0 0) (hrow : w.ownsRow base 64 2 v3 L.length (spCells L)) (k : Blk w gx 64 #[.int .i64 xa, .int .i64 xb]) (hne : v3.ownBlock ≠ some gx) (hb : base ≤ w.heap.size) :
    Calls Tryz.prog 35 #[v3, .int .i64 0, .slice (some ⟨gx, 0, none⟩) 1 1] w fun e w' => ∃ v, e = .returned v ∧ w'.ownsRow base 64 2 v (L.length + 1) (spCells ((xa, xb) :: L)) ∧ Far (fun k => v3.ownBlock = some k) w w' := by
  by_cases h0 : L = []
  · subst h0
    rw [hn rfl]
    refine (insNil_any base gx xa xb w k hb).mono ?_
    rintro e w' ⟨v, rfl, h1, h2⟩
    exact ⟨v, rfl, h1, (Far.of_below h2)⟩
  · have hl0 : 0 < L.length := List.length_pos_iff.2 h0
    rcases hrow.2 with ⟨_, h⟩ | ⟨g, c, cur, rfl, h1, h2, h3, h4, h5, h6⟩
    · omega
    · have hf : (Value.slice (some ⟨g, 0, none⟩) L.length c).ownBlock = some g := rfl
      by_cases hc : c < L.length + 1
      · refine (insGrow_any base g gx L.length c xa xb L w rfl hl0 hL hc hrow k hb).mono ?_
        rintro e w' ⟨v, rfl, q1, q2⟩
        exact ⟨v, rfl, q1, q2.mono (fun k _ e => by rw [hf, e])⟩
      · refine (insRoom_any base g gx L.length c xa xb L w rfl hl0 hL (by omega) hrow k (fun e => hne (by rw [hf, e]))).mono ?_
        rintro e w' ⟨v, rfl, q1, q2⟩
        exact ⟨v, rfl, q1, q2.mono (fun k _ e => by rw [hf, e])⟩
set_option maxRecDepth 100000 in
set_option maxHeartbeats 1600000 in
/-- a guard stays -/
theorem place1Bad_any (b p0 p1 p2 p3 base : Nat) (er xa xb : Int) (V : Vm) (v3 : Value) (L : List Sp) (w : World) (hV : SysIs w b V) (he : er ≠ 0) (k0 : Blk w p0 35 #[.int .i64 er]) (k1 : Blk w p1 34 #[.pointer (some ⟨b, 0, none⟩)]) (k2 : Blk w p2 64 #[.int .i64 xa, .int .i64 xb])
    (k3 : Blk w p3 22 #[v3]) (hL : L.length ≤ 512) (hn : L = [] → v3 = .slice none 0 0) (hrow : w.ownsRow base 64 2 v3 L.length (spCells L)) (hb : base ≤ w.heap.size) (hp3 : p3 < base) (hbb : b < base) (h23 : p2 ≠ b) (hpb : p3 ≠ b)
    (h0 : (bec V xa xb 4 3 1).1 ≠ 0) :
    CallsD Tryz.prog 34 #[.pointer (some ⟨p0, 0, none⟩), .pointer (some ⟨p1, 0, none⟩), .pointer (some ⟨p2, 0, none⟩), .pointer (some ⟨p3, 0, none⟩)] .returning w fun e u' w' => u' = .returning ∧ ((∃ v, e = .returned v) ∧
      ∃ v', Blk w' p3 22 #[v'] ∧ w'.ownsRow base 64 2 v' (L.length + 1) (spCells ((xa, xb) :: L)) ∧ SysIs w' b (bec V xa xb 4 3 1).2 ∧ Far (fun k => k = b ∨ k = p3 ∨ base ≤ k) w w') := by
  have c0 := k0.cell
  have c1 := k1.cell
  have c2 := k2.cell
  have he' : (er != 0) = true := by simpa using he
  have HD := Lib.hid (unguard_any b xa xb V w hV)
  generalize bec V xa xb 4 3 1 = J at *
  obtain ⟨je, jV⟩ := J
  have h0' : (je != 0) = true := by simpa using h0
  simp only at HD
  clear he hV h0
  go_enter_d Tryz.func34, Tryz.ntmps34
  go_wp2_with fail
  refine HD.out.mono ?_
  rintro e w1 ⟨rfl, hS, hF⟩
  have k31 := hF.blk k3 hpb
  have k21 := hF.blk k2 h23
  have row1 := ownsRow_far hrow hF (fun g hg h => by have := (hrow.lt g hg).1; omega)
  have hs1 := hF.size
  have d2 := k21.cell
  have d3 := k31.cell
  have f3 := k31.frozen
  have kq := Blk.new w1 64 #[.int .i64 xa, .int .i64 xb]
  have hbq : Below w1.heap.size w1 (w1.alloc (.cells #[.int .i64 xa, .int .i64 xb] 64)) := (Below.refl _ _).alloc (Nat.le_refl _) _
  have rowq := ownsRow_call row1 hbq
  have hneq : v3.ownBlock ≠ some w1.heap.size := fun e => by have := (row1.lt _ e).2; omega
  have HI := Lib.hid (ins_any base w1.heap.size xa xb L v3 _ hL hn rowq kq hneq (by have := hbq.size; omega))
  have hS' := Lib.hid (hS.call hbq)
  have hF' := Lib.hid (hF.trans (Far.of_below hbq))
  have k3q := Lib.hid (k31.call hbq)
  have hlt := Lib.hid (fun g (e : v3.ownBlock = some g) => rowq.lt g e)
  have hrq := Lib.hid rowq
  clear HD hS hrow c0 c1 c2 k0 k1 k2 k3 row1 hF k31 k21 rowq hbq kq hneq
  go_wp2_with fail
  refine HI.out.mono ?_
  rintro e w3 ⟨v', rfl, row3, hF3⟩
  obtain ⟨A5, cap5, rfl, _⟩ := own_RU row3 rfl
  have k33 := hF3.blk k3q.out (fun e => by have := (hlt.out _ e).1; omega)
  have hS3 := Lib.hid (hS'.out.far hF3 (fun e => by have := (hlt.out _ e).1; omega) (fun _ _ _ _ _ _ g _ _ _ hc hg => hc.elim fun cr hcr => own_other hrq.out hg hcr (by decide)))
  have f3 := k33.frozen
  have c3 := k33.cell
  have row3' := Lib.hid row3
  have hFF : Far (fun k => k = b ∨ k = p3 ∨ base ≤ k) w w3 := (hF'.out.mono (fun k _ e => .inl e)).trans (hF3.mono (fun k _ e => .inr (.inr (hlt.out k e).1)))
  have hFF' := Lib.hid hFF
  have k3' := Lib.hid k33
  clear HI d2 d3 f3 k33 row3 hFF hF3 hS' hF' k3q hlt hrq
  have f3 := k3'.out.frozen
  go_wp2_with fail
  have k4 := k3'.out.set_ 0 (.slice A5 (L.length + 1) cap5)
  have F4 : Far (fun k => k = p3) w3 (w3.setCell ⟨p3, 0, none⟩ (.slice A5 (L.length + 1) cap5)) := Far.setCell (T := fun k => k = p3) (p := ⟨p3, 0, none⟩) (Far.refl _ _) (fun _ => rfl) _
  have row4 := ownsRow_far row3'.out F4 (fun g hg h => by have := (row3'.out.lt g hg).1; omega)
  exact ⟨rfl, _, by simp [results, Tryz.results34, go_sem]; rfl, ⟨_, rfl⟩, _, k4, row4, hS3.out.far F4 (fun e => hpb e.symm) (fun _ _ _ _ _ _ g _ _ _ hc e => hc.elim fun cr hcr => Blk.ne_ hcr k3'.out (by decide) e), hFF'.out.trans (F4.mono (fun k _ e => .inr (.inl e)))⟩
end Go.Proofs.YtdepkmpilipolaaGreat
namespace Go.Pol
/-- a block: page, order, pinned -/
abbrev B3 := Int × Int × Bool
abbrev b0 : B3 := (0, 0, false)
end Go.Pol
namespace Go.Proofs.YtdepkmpilipolaaGreat
open Go Go.Proofs Go.RowKit Go.Pol Go.Shelf
attribute [local go_sem] Oper.semAt_some Go.Pol.wide_fn Go.Pol.wide_depth Go.Pol.wide_fn' Go.Pol.wide_depth'

theorem guard6_any (B b : Nat) (a n : Int) (V : Vm) (w : World) (hV : RefIs w B b V) :
    Calls Tryz.prog 31 #[.pointer (some ⟨b, 0, none⟩), .int .i64 a, .int .i64 n, .bool true] w fun e w' => e = .returned (.int .i64 (bec V a n 4 1 3).1) ∧ RefTo B b (bec V a n 4 1 3).2 w w' := by
  have HC := Lib.hid (change_any B b a n 1 3 4 V w hV (by decide))
  clear hV
  generalize bec V a n 4 1 3 = R at *
  go_enter Tryz.func31, Tryz.ntmps31
  go_wp2_with fail
  refine HC.out.mono ?_
  rintro e w1 ⟨rfl, h1, h2⟩
  go_wp2_with fail
  go_ret
  exact ⟨rfl, h1, h2⟩
end Go.Proofs.YtdepkmpilipolaaGreat
namespace Go.Pol
open Go Go.RowKit
theorem foldl_goodV {α : Type} {f : Vm → α → Vm} (hf : ∀ V x, GoodV V → GoodV (f V x)) : ∀ (l : List α) (V : Vm), GoodV V → GoodV (l.foldl f V)
  | [], _, h => h
  | x :: r, V, h => foldl_goodV hf r (f V x) (hf V x h)
theorem GoodV.res {V : Vm} (h : GoodV V) (x : Int × Int) : GoodV (resS V x) := h.bec _ _ _ _ _ (by omega)
theorem GoodV.com {V : Vm} (h : GoodV V) (x : Int × Int) : GoodV (comS V x) := h.bec _ _ _ _ _ (by omega)
theorem GoodV.gua {V : Vm} (h : GoodV V) (x : Int × Int) : GoodV (guaS V x) := h.bec _ _ _ _ _ (by omega)
end Go.Pol
namespace Go.Pol
open Go Go.RowKit
theorem sysE_good (rs cs gs l) : GoodV (sysE rs cs gs l) :=
  GoodV.plan (foldl_goodV (fun _ x h => h.gua x) gs _ (foldl_goodV (fun _ x h => h.com x) cs _ (foldl_goodV (fun _ x h => h.res x) rs newVm GoodV.new))) l
/-- the reference's system is handed back, with what is said of its plan -/
def RefOE (B : Nat) (V : Vm) (er : Int) (w : World) (e : Ending) (w' : World) : Prop := ∃ b, e = .returned (.tuple #[.pointer (some ⟨b, 0, none⟩), .int .i64 er]) ∧ RefIs w' B b V ∧ w.heap.size ≤ b ∧ Below w.heap.size w w'
end Go.Pol
namespace Go.Proofs.YtdepkmpilipolaaGreat
open Go Go.Proofs Go.RowKit Go.Pol Go.Shelf
attribute [local go_sem] Oper.semAt_some Go.Pol.wide_fn Go.Pol.wide_depth Go.Pol.wide_fn' Go.Pol.wide_depth'

set_option maxRecDepth 100000 in
set_option maxHeartbeats 3200000 in
theorem mirror11_any (B0 : Nat) (A1 A2 A3 Ar : Option Addr) (n1 c1 n2 c2 n3 c3 nr cr : Nat) (rs cs gs : List (Int × Int)) (l : List Ru) (w : World)
    (h1 : rs.length = n1) (h2 : cs.length = n2) (h3 : gs.length = n3) (hl : l.length = nr) (hm : (n1 ≤ 1000 ∧ n2 ≤ 1000 ∧ n3 ≤ 1000) ∧ nr ≤ 1000) (hz : Ar = none → cr = 0)
    (r1 : RU w w.heap.size A1 rs) (r2 : RU w w.heap.size A2 cs) (r3 : RU w w.heap.size A3 gs) (hBw : B0 ≤ w.heap.size) (rr : Rd w B0 Ar (fl ruC l)) :
    Calls Tryz.prog 7 #[.agg #[.slice A1 n1 c1, .slice A2 n2 c2, .slice A3 n3 c3, .slice Ar nr cr]] w (RefOE B0 (sysE rs cs gs l) (chkR l).2 w) := by
  obtain ⟨⟨hm1, hm2, hm3⟩, hm6⟩ := hm
  obtain ⟨P, hP⟩ : ∃ P, sysE rs cs gs l = P := ⟨_, rfl⟩
  rw [hP]
  have hP' : Hid (planF (gs.foldl guaS (cs.foldl comS (rs.foldl resS newVm))) l = P) := Lib.hid hP
  clear hP
  have HN := Lib.hid (fun W h => new6_any B0 W h)
  have hb0 := (Below.refl w.heap.size w).alloc (Nat.le_refl _) (.cells #[.slice A1 n1 c1, .slice A2 n2 c2, .slice A3 n3 c3, .slice Ar nr cr] 27)
  have k0 := Blk.new w 27 #[.slice A1 n1 c1, .slice A2 n2 c2, .slice A3 n3 c3, .slice Ar nr cr]
  obtain ⟨s, hs0⟩ : ∃ s, w.heap.size = s := ⟨_, rfl⟩
  have hsz0 : (w.alloc (.cells #[.slice A1 n1 c1, .slice A2 n2 c2, .slice A3 n3 c3, .slice Ar nr cr] 27)).heap.size = s + 1 := by rw [World.size_alloc, hs0]
  have r10 := Lib.hid (r1.below hb0)
  have r20 := Lib.hid (r2.below hb0)
  have r30 := Lib.hid (r3.below hb0)
  have rr0 := Lib.hid (rr.below (hb0.mono hBw))
  rw [hs0] at k0 hb0 r10 r20 r30 hBw
  clear r1 r2 r3 rr
  go_enter Tryz.func7, Tryz.ntmps7
  go_upto_region 1 with fail
  generalize w.alloc _ = w0 at *
  go_wp2_with fail
  unfold RNewO at HN
  refine (HN.out w0 (by omega)).mono ?_
  rintro e w1 ⟨b, rfl, V1, hbb, hb1⟩
  rw [hsz0] at hb1 hbb
  have hV0 := Lib.hid V1
  have hB0 := hb1
  clear V1 hb1 HN
  go_wp2_with fail
  go_loopw [6] (fun u wr => ∃ k : Nat, k ≤ n1 ∧ u = .int .i64 k ∧ Below (s + 1) w0 wr ∧ Hid (RefIs wr B0 b ((rs.take k).foldl resS newVm))) (fun u _ => n1 - (intOf u).toNat)
  case atStart => exact ⟨0, by omega, rfl, hB0, by simpa using hV0⟩
  clear hV0 hB0
  obtain ⟨k, hk, rfl, hB, hV⟩ := hrel
  have kb := k0.below hB (by omega)
  have c0 := kb.cell
  by_cases hlt : k < n1
  case pos =>
    have hlt' : decide ((k : Int) < (n1 : Int)) = true := by simpa using hlt
    have hstep : (rs.take (k + 1)).foldl resS newVm = resS ((rs.take k).foldl resS newVm) (rs.getD k (0, 0)) := by
      rw [z_take (0, 0) rs (by omega), List.foldl_append]
      rfl
    have hstep' := Lib.hid hstep
    obtain ⟨ub, uo, rfl, hub, hc, hd⟩ := (r10.out.below (hB.mono (by omega))).at_' (k := k) (by omega)
    generalize rs.getD k (0, 0) = x at *
    generalize (rs.take k).foldl resS newVm = V at *
    obtain ⟨xa, xn⟩ := x
    simp only at hc hd
    have e0 := fun x : Ext wr => (x.blk kb).cell
    have e1 := fun x : Ext wr => x.cell hc
    have e2 := fun x : Ext wr => x.cell hd
    clear hstep hc hd
    go_upto_region 5 with fail
    clear c0
    refine region_ext_tail 13 (by kernel_rfl) (by kernel_rfl) ?_
    simp only [List.take_succ_cons, List.take_zero, List.drop_succ_cons, List.drop_zero]
    repeat (go_big_quiet_step (fail))
    refine wpQuiet_nil ?_
    intro z
    go_wp2_with fail
    refine (reserve6_any B0 b xa xn V z.w (hV.out.call z.le)).mono ?_
    rintro e w2 ⟨rfl, V2, F2⟩
    have hB2 := (hB.trans (z.le.mono (by have := hB.size; omega))).trans (F2.below (by have := hB.size; have := z.le.size; omega) (fun k hk e => by omega))
    have V2' := Lib.hid V2
    clear e0 e1 e2 hV F2 V2
    go_wp2_with fail
    go_roundw
    case rel => exact ⟨k + 1, by omega, by go_num, hB2, Lib.hid (by rw [hstep'.out]; exact V2'.out)⟩
    case measure => simp [intOf]; omega
  obtain rfl : k = n1 := by omega
  have hlt' : decide ((k : Int) < (k : Int)) = false := by simp
  have hV2 : Hid (RefIs wr B0 b (rs.foldl resS newVm)) := Lib.hid (by have := hV.out; rwa [show k = rs.length from (by omega), List.take_length] at this)
  generalize rs.foldl resS newVm = Va at *
  clear hV
  go_wp2_with fail
  clear hlt' c0 hlt
  have hB0 := hB
  have hV0 := hV2
  clear hB hV2 kb hk
  go_loopw [7] (fun u wr => ∃ k : Nat, k ≤ n2 ∧ u = .int .i64 k ∧ Below (s + 1) w0 wr ∧ Hid (RefIs wr B0 b ((cs.take k).foldl comS Va))) (fun u _ => n2 - (intOf u).toNat)
  case atStart => exact ⟨0, by omega, rfl, hB0, by simpa using hV0⟩
  clear hV0 hB0
  obtain ⟨k, hk, rfl, hB, hV⟩ := hrel
  have kb := k0.below hB (by omega)
  have c0 := kb.cell
  by_cases hlt : k < n2
  case pos =>
    have hlt' : decide ((k : Int) < (n2 : Int)) = true := by simpa using hlt
    have hstep : (cs.take (k + 1)).foldl comS Va = comS ((cs.take k).foldl comS Va) (cs.getD k (0, 0)) := by
      rw [z_take (0, 0) cs (by omega), List.foldl_append]
      rfl
    have hstep' := Lib.hid hstep
    obtain ⟨ub, uo, rfl, hub, hc, hd⟩ := (r20.out.below (hB.mono (by omega))).at_' (k := k) (by omega)
    generalize cs.getD k (0, 0) = x at *
    generalize (cs.take k).foldl comS Va = V at *
    obtain ⟨xa, xn⟩ := x
    simp only at hc hd
    have e0 := fun x : Ext wr => (x.blk kb).cell
    have e1 := fun x : Ext wr => x.cell hc
    have e2 := fun x : Ext wr => x.cell hd
    clear hstep hc hd
    go_upto_region 9 with fail
    clear c0
    refine region_ext_tail 13 (by kernel_rfl) (by kernel_rfl) ?_
    simp only [List.take_succ_cons, List.take_zero, List.drop_succ_cons, List.drop_zero]
    repeat (go_big_quiet_step (fail))
    refine wpQuiet_nil ?_
    intro z
    go_wp2_with fail
    refine (commit6_any B0 b xa xn V z.w (hV.out.call z.le)).mono ?_
    rintro e w2 ⟨rfl, V2, F2⟩
    have hB2 := (hB.trans (z.le.mono (by have := hB.size; omega))).trans (F2.below (by have := hB.size; have := z.le.size; omega) (fun k hk e => by omega))
    have V2' := Lib.hid V2
    clear e0 e1 e2 hV F2 V2
    go_wp2_with fail
    go_roundw
    case rel => exact ⟨k + 1, by omega, by go_num, hB2, Lib.hid (by rw [hstep'.out]; exact V2'.out)⟩
    case measure => simp [intOf]; omega
  obtain rfl : k = n2 := by omega
  have hlt' : decide ((k : Int) < (k : Int)) = false := by simp
  have hV2 : Hid (RefIs wr B0 b (cs.foldl comS Va)) := Lib.hid (by have := hV.out; rwa [show k = cs.length from (by omega), List.take_length] at this)
  generalize cs.foldl comS Va = Vb at *
  clear hV
  go_wp2_with fail
  clear hlt' c0 hlt
  have hB0 := hB
  have hV0 := hV2
  clear hB hV2 kb hk
  go_loopw [8] (fun u wr => ∃ k : Nat, k ≤ n3 ∧ u = .int .i64 k ∧ Below (s + 1) w0 wr ∧ Hid (RefIs wr B0 b ((gs.take k).foldl guaS Vb))) (fun u _ => n3 - (intOf u).toNat)
  case atStart => exact ⟨0, by omega, rfl, hB0, by simpa using hV0⟩
  clear hV0 hB0
  obtain ⟨k, hk, rfl, hB, hV⟩ := hrel
  have kb := k0.below hB (by omega)
  have c0 := kb.cell
  by_cases hlt : k < n3
  case pos =>
    have hlt' : decide ((k : Int) < (n3 : Int)) = true := by simpa using hlt
    have hstep : (gs.take (k + 1)).foldl guaS Vb = guaS ((gs.take k).foldl guaS Vb) (gs.getD k (0, 0)) := by
      rw [z_take (0, 0) gs (by omega), List.foldl_append]
      rfl
    have hstep' := Lib.hid hstep
    obtain ⟨ub, uo, rfl, hub, hc, hd⟩ := (r30.out.below (hB.mono (by omega))).at_' (k := k) (by omega)
    generalize gs.getD k (0, 0) = x at *
    generalize (gs.take k).foldl guaS Vb = V at *
    obtain ⟨xa, xn⟩ := x
    simp only at hc hd
    have e0 := fun x : Ext wr => (x.blk kb).cell
    have e1 := fun x : Ext wr => x.cell hc
    have e2 := fun x : Ext wr => x.cell hd
    clear hstep hc hd
    go_upto_region 13 with fail
    clear c0
    refine region_ext_tail 13 (by kernel_rfl) (by kernel_rfl) ?_
    simp only [List.take_succ_cons, List.take_zero, List.drop_succ_cons, List.drop_zero]
    repeat (go_big_quiet_step (fail))
    refine wpQuiet_nil ?_
    intro z
    go_wp2_with fail
    refine (guard6_any B0 b xa xn V z.w (hV.out.call z.le)).mono ?_
    rintro e w2 ⟨rfl, V2, F2⟩
    have hB2 := (hB.trans (z.le.mono (by have := hB.size; omega))).trans (F2.below (by have := hB.size; have := z.le.size; omega) (fun k hk e => by omega))
    have V2' := Lib.hid V2
    clear e0 e1 e2 hV F2 V2
    go_wp2_with fail
    go_roundw
    case rel => exact ⟨k + 1, by omega, by go_num, hB2, Lib.hid (by rw [hstep'.out]; exact V2'.out)⟩
    case measure => simp [intOf]; omega
  obtain rfl : k = n3 := by omega
  have hlt' : decide ((k : Int) < (k : Int)) = false := by simp
  have hV2 : Hid (RefIs wr B0 b (gs.foldl guaS Vb)) := Lib.hid (by have := hV.out; rwa [show k = gs.length from (by omega), List.take_length] at this)
  generalize gs.foldl guaS Vb = Vc at *
  clear hV
  go_wp2_with fail
  clear hlt' c0 hlt
  have hB0 := hB
  have hV0 := hV2
  clear hB hV2 kb hk
  have HP := Lib.hid (plan6_any B0 b Ar nr cr l _ wr hV0.out hl hz (rr0.out.below (hB0.mono (by omega))))
  go_wp2_with fail
  refine HP.out.mono ?_
  rintro e w2 ⟨rfl, V2, F2⟩
  have hB2 := hb0.trans ((hB0.trans (F2.below (by have := hB0.size; omega) (fun k hk e => by omega))).mono (by omega))
  have V2' := Lib.hid V2
  clear HP hV0 F2 V2 hB0
  go_wp2_with fail
  go_ret2
  exact ⟨b, rfl, by rw [← hP'.out]; exact V2'.out, by omega, by rw [hs0]; exact hB2⟩
end Go.Proofs.YtdepkmpilipolaaGreat
namespace Go.Proofs.YtdepkmpilipolaaGreat
open Go Go.Proofs Go.RowKit Go.Pol

set_option maxHeartbeats 400000 in
theorem refGuards_any (pg n f b ev : Int) (w : World) :
    Calls Tryz.prog 36 #[planV pg n f b ev] w (SpansR w (guardsF pg n f b ev) (chkG pg n f b ev)) := by
  unfold guardsF
  have HC := Lib.hid (fun W => rgcheck_any pg n f b ev W)
  have hb0 := (Below.refl w.heap.size w).alloc (Nat.le_refl _) (.cells (planC pg n f b ev) 31)
  have k0 := Blk.new w 31 (planC pg n f b ev)
  have c0 := k0.cell
  by_cases hc : chkG pg n f b ev = 0
  · have hp := chkG_zero.1 hc
    rw [hc] at HC ⊢
    rw [if_pos rfl]
    have HS := Lib.hid (fun W => refset_any pg n f b ev false W hp _ (setM_false hp))
    clear hp hc
    generalize gapsF (runsL pg n f b ev) (pg, n) = G at *
    go_enter Tryz.func36, Tryz.ntmps36
    go_wp2_with (first
      | (go_at_call 59; refine (HC.out _).mono ?_; rintro e w1 ⟨rfl, hq⟩; have k1 := k0.call hq; have c1 := k1.cell)
      | (go_at_call 60; refine (HS.out _).mono ?_; rintro e w2 ⟨A, cap, rfl, hru, h1, h2, h3, hq2⟩))
    go_ret2
    have hb1 := hb0.trans (hq.mono hb0.size)
    exact ⟨A, cap, rfl, hru, h1, h2, fun b o e => by have := h3 b o e; have := hb1.size; omega, hb1.trans (hq2.mono hb1.size)⟩
  · rw [if_neg hc]
    generalize chkG pg n f b ev = er at *
    have hc' : (er != 0) = true := by simpa using hc
    clear hc
    go_enter Tryz.func36, Tryz.ntmps36
    go_wp2_with (go_at_call 59; refine (HC.out _).mono ?_; rintro e w1 ⟨rfl, hq⟩)
    go_ret2
    exact ⟨none, 0, rfl, RU.nil, by simp, by unfold maxLen; omega, fun b o e => (by cases e), hb0.trans (hq.mono hb0.size)⟩

end Go.Proofs.YtdepkmpilipolaaGreat
namespace Go.Pol
open Go Go.RowKit
/-- spans and an error are handed back, the reference's system changed -/
def SpanRef (B b : Nat) (r : List Sp × Int × Vm) (w : World) (e : Ending) (w' : World) : Prop :=
  ∃ (A : Option Addr) (cap : Nat), e = .returned (.tuple #[.slice A r.1.length cap, .int .i64 r.2.1]) ∧ RU w' w'.heap.size A r.1 ∧ (∀ g o, A = some ⟨g, o, none⟩ → w.heap.size ≤ g) ∧ r.1.length ≤ maxLen ∧ RefIs w' B b r.2.2 ∧ Far (fun k => k = b) w w'
end Go.Pol
namespace Go.Proofs.YtdepkmpilipolaaGreat
open Go Go.Proofs Go.RowKit Go.Pol Go.Shelf
attribute [local go_sem] Oper.semAt_some Go.Pol.wide_fn Go.Pol.wide_depth Go.Pol.wide_fn' Go.Pol.wide_depth'

theorem unguard6_any (B b : Nat) (a n : Int) (V : Vm) (w : World) (hV : RefIs w B b V) :
    Calls Tryz.prog 31 #[.pointer (some ⟨b, 0, none⟩), .int .i64 a, .int .i64 n, .bool false] w fun e w' => e = .returned (.int .i64 (bec V a n 4 3 1).1) ∧ RefTo B b (bec V a n 4 3 1).2 w w' := by
  have HC := Lib.hid (change_any B b a n 3 1 4 V w hV (by decide))
  clear hV
  generalize bec V a n 4 3 1 = R at *
  go_enter Tryz.func31, Tryz.ntmps31
  go_wp2_with fail
  refine HC.out.mono ?_
  rintro e w1 ⟨rfl, h1, h2⟩
  go_wp2_with fail
  go_ret
  exact ⟨rfl, h1, h2⟩
set_option maxRecDepth 100000 in
set_option maxHeartbeats 3200000 in
theorem refLift_any (B b : Nat) (pg n f bk ev : Int) (V : Vm) (w : World) (hV : RefIs w B b V) (hGl : (guardsF pg n f bk ev).length ≤ 512) :
    Calls Tryz.prog 15 #[.pointer (some ⟨b, 0, none⟩), planV pg n f bk ev] w (SpanRef B b (liftG V (chkG pg n f bk ev) (guardsF pg n f bk ev)) w) := by
  obtain ⟨j0, hj, hy0, hy1, hy2⟩ := infoSp_parts
  have hb0 := (Below.refl w.heap.size w).alloc (Nat.le_refl _) (.cells (planC pg n f bk ev) 31)
  have k0 := Blk.new w 31 (planC pg n f bk ev)
  have HA := Lib.hid (fun W => refGuards_any pg n f bk ev W)
  have V0 := hV.call hb0
  have hbw := hV.lt
  have hBb := hV.base
  have c0 := k0.cell
  obtain ⟨R, hR⟩ : ∃ R, liftG V (chkG pg n f bk ev) (guardsF pg n f bk ev) = R := ⟨_, rfl⟩
  rw [hR]
  have hR' := Lib.hid hR
  unfold liftG at hR'
  generalize chkG pg n f bk ev = ck at *
  generalize guardsF pg n f bk ev = G at *
  unfold SpansR at HA
  obtain ⟨gn, hgn⟩ : ∃ gn, G.length = gn := ⟨_, rfl⟩
  rw [hgn] at HA hGl
  have hgn' := Lib.hid hgn
  clear hV hR hgn
  by_cases h0 : ck = 0
  case neg =>
    have h0' : (ck != 0) = true := by simpa using h0
    have hR2 : Hid (R = ([], ck, V)) := Lib.hid (by rw [← hR'.out, if_neg h0])
    clear hR' h0
    go_enter Tryz.func15, Tryz.ntmps15
    go_wp2_with fail
    refine (HA.out _).mono ?_
    rintro e w1 ⟨A1, c1, rfl, g1, g2, g3, g4, g5⟩
    have B1 := hb0.trans (g5.mono hb0.size)
    have V1 := V0.call g5
    clear HA V0
    go_wp2_with fail
    go_ret2
    rw [hR2.out]
    exact ⟨none, 0, rfl, RU.nil, fun _ _ h => (by cases h), by unfold maxLen; simp, V1, .of_below B1⟩
  case pos =>
    subst h0
    have hR2 : Hid (G.foldl lftStep ([], 0, V) = R) := Lib.hid (by rw [← hR'.out, if_pos rfl])
    clear hR'
    go_enter Tryz.func15, Tryz.ntmps15
    go_wp2_with fail
    refine (HA.out (w.alloc (.cells (planC pg n f bk ev) 31))).mono ?_
    rintro e w1 ⟨A1, c1, rfl, g1, g2, g3, g4, g5⟩
    have B1 := hb0.trans (g5.mono hb0.size)
    have V1 := Lib.hid (V0.call g5)
    have hs1 := B1.size
    have hA1 : ∀ g o, A1 = some ⟨g, o, none⟩ → ¬ g = b := fun g o e h => by have := g4 g o e; have := hb0.size; omega
    have g1' := Lib.hid g1
    have hgm : gn ≤ maxLen := by omega
    have hgm' := Lib.hid hgm
    have hA1' := Lib.hid hA1
    unfold maxLen at hgm
    have hB1 := Lib.hid B1
    clear HA V0 g1 g2 g3 g4 g5 hA1 c0 k0 hb0 B1
    go_wp2_with fail
    go_loopw [7, 8, 9, 10] (fun v7 v4 v5 i wr => ∃ (k : Nat) (L : List Sp) (er z7 : Int) (T : Vm), k ≤ gn ∧ i = .int .i64 k ∧ v5 = .int .i64 er ∧ v7 = .int .i64 z7 ∧ L.length ≤ k ∧ Hid ((G.drop k).foldl lftStep (L, er, T) = R) ∧ wr.ownsRow w1.heap.size 64 2 v4 L.length (spCells L) ∧ Hid (RefIs wr B b T) ∧ Far (fun k => k = b) w1 wr) (fun _ _ _ i _ => gn - (intOf i).toNat)
    case atStart => exact ⟨0, [], 0, _, V, by omega, rfl, rfl, rfl, by simp, Lib.hid (by simpa using hR2.out), World.ownsRow_nil _ _ _ _, V1, Far.refl _ _⟩
    case round =>
      clear V1
      obtain ⟨k, L, er, z7, T, hk, rfl, rfl, rfl, hL, hfl, hrow, hT, hF⟩ := hrel
      have hs4 := hF.size
      have hbz := hT.out.lt
      by_cases hlt : k < gn
      · have hlt' : decide ((k : Int) < (gn : Int)) = true := by simpa using hlt
        obtain ⟨rb, ro, rfl, hrb, c5, c6⟩ := g1'.out.at_' (k := k) (by have := hgn'.out; omega)
        have hne := hA1'.out _ _ rfl
        have d5 := hF.cell c5 (by show ¬ rb = b; omega)
        have d6 := hF.cell c6 (by show ¬ rb = b; omega)
        have hsn := hfl.out
        rw [Go.Pol.drop_cons (0, 0) G k (by have := hgn'.out; omega), List.foldl_cons] at hsn
        generalize G.getD k (0, 0) = x at *
        obtain ⟨xa, xb⟩ := x
        rw [show lftStep (L, er, T) (xa, xb) = (if (bec T xa xb 4 3 1).1 = 0 then L else L ++ [(xa, xb)], if (bec T xa xb 4 3 1).1 = 0 then er else if er = 0 then (bec T xa xb 4 3 1).1 else er, (bec T xa xb 4 3 1).2) from rfl] at hsn
        simp only at d5 d6
        have hsn' := Lib.hid hsn
        have e1 := fun x : Ext wr => x.cell d5
        have e2 := fun x : Ext wr => x.cell d6
        clear hsn c5 c6 hfl
        go_upto_region 9 with fail
        refine region_ext_tail 11 (by kernel_rfl) (by kernel_rfl) ?_
        simp only [List.take_succ_cons, List.take_zero, List.drop_succ_cons, List.drop_zero]
        repeat (go_big_quiet_step (fail))
        refine wpQuiet_nil ?_
        intro z
        have Tx := Lib.hid (hT.out.call z.le)
        have rowx := ownsRow_call hrow z.le
        have hFx : Far (fun k => k = b) w1 z.w := hF.trans (.of_below z.le)
        have HD := Lib.hid (unguard6_any B b xa xb T z.w Tx.out)
        have f5 := z.cell d5
        have f6 := z.cell d6
        clear hT hrow hF d5 d6 e1 e2
        go_wp2_with fail
        refine HD.out.mono ?_
        rintro e w6 ⟨rfl, V6, F6⟩
        have V6' := Lib.hid V6
        have row6 := ownsRow_far rowx F6 (fun g hg h => by have := (rowx.lt g hg).1; omega)
        have hF6 := hFx.trans F6
        have d5 := F6.cell f5 (by show ¬ rb = b; omega)
        have d6 := F6.cell f6 (by show ¬ rb = b; omega)
        generalize bec T xa xb 4 3 1 = J at *
        obtain ⟨je, jV⟩ := J
        simp only at hsn' V6'
        have hsn2 := hsn'.out
        clear HD Tx rowx hFx F6 V6 hsn' f5 f6
        by_cases hj2 : je = 0
        · subst hj2
          rw [if_pos rfl, if_pos rfl] at hsn2
          have hsn3 := Lib.hid hsn2
          clear hsn2 d5 d6
          go_wp2_with fail
          go_roundw
          case rel => exact ⟨k + 1, L, er, _, jV, by omega, by go_num, rfl, rfl, by omega, hsn3, row6, V6', hF6⟩
          case measure => simp [intOf]; omega
        · have hj' : (je != 0) = true := by simpa using hj2
          rw [if_neg hj2, if_neg hj2] at hsn2
          have hsn3 := Lib.hid hsn2
          have hs6 := hF6.size
          have hsc := Lib.hid (spCells_snoc L (xa, xb))
          have kN := Blk.new w6 64 #[.int .i64 xa, .int .i64 xb]
          have hbN : Below w6.heap.size w6 (w6.alloc (.cells #[.int .i64 xa, .int .i64 xb] 64)) := (Below.refl _ _).alloc (Nat.le_refl _) _
          clear hsn2 hj2
          by_cases he : er = 0
          · subst he
            have hsn4 := hsn3.out
            rw [if_pos rfl] at hsn4
            have hsn5 := Lib.hid hsn4
            clear hsn3 hsn4
            go_wp2_with (refine wpList_append_own _ rfl (.tmp 39) (.tmp 44) 22 rfl w1.heap.size 64 j0 (.agg #[.int .i64 0, .int .i64 0]) 2 16 Tryz.underlying22 hj hy0 hy1 hy2 rfl (by decide) _ L.length (spCells L) rfl (row6.alloc _) ⟨w6.heap.size, 0, none⟩ 1 1 [.int .i64 xa, .int .i64 xb] rfl rfl (news_two kN) news_one2 (by unfold maxLen; omega) (by omega) (by simp; omega) ?_; intro v' w7 hown' hgrow _; rw [← hsc.out] at hown')
            go_roundw
            case rel =>
              have F7 : Far (fun k => w1.heap.size ≤ k) w6 w7 := (Far.of_below hbN).grown hgrow (fun g hg hlt => (row6.lt g hg).1)
              have F37 : Far (fun k => k = b) w1 w7 := hF6.trans' F7 (fun i hi h => by omega)
              exact ⟨k + 1, L ++ [(xa, xb)], _, _, jV, by omega, by go_num, rfl, rfl, by rw [List.length_append]; exact Nat.succ_le_succ hL, hsn5, by rw [List.length_append]; exact hown', Lib.hid (V6'.out.far F7 (fun k h => by omega)), F37⟩
            case measure => simp [intOf]; omega
          · have he' : (er == 0) = false := by simpa using he
            have hsn4 := hsn3.out
            rw [if_neg he] at hsn4
            have hsn5 := Lib.hid hsn4
            clear hsn3 hsn4 he
            go_wp2_with (refine wpList_append_own _ rfl (.tmp 39) (.tmp 44) 22 rfl w1.heap.size 64 j0 (.agg #[.int .i64 0, .int .i64 0]) 2 16 Tryz.underlying22 hj hy0 hy1 hy2 rfl (by decide) _ L.length (spCells L) rfl (row6.alloc _) ⟨w6.heap.size, 0, none⟩ 1 1 [.int .i64 xa, .int .i64 xb] rfl rfl (news_two kN) news_one2 (by unfold maxLen; omega) (by omega) (by simp; omega) ?_; intro v' w7 hown' hgrow _; rw [← hsc.out] at hown')
            go_roundw
            case rel =>
              have F7 : Far (fun k => w1.heap.size ≤ k) w6 w7 := (Far.of_below hbN).grown hgrow (fun g hg hlt => (row6.lt g hg).1)
              have F37 : Far (fun k => k = b) w1 w7 := hF6.trans' F7 (fun i hi h => by omega)
              exact ⟨k + 1, L ++ [(xa, xb)], _, _, jV, by omega, by go_num, rfl, rfl, by rw [List.length_append]; exact Nat.succ_le_succ hL, hsn5, by rw [List.length_append]; exact hown', Lib.hid (V6'.out.far F7 (fun k h => by omega)), F37⟩
            case measure => simp [intOf]; omega
      · obtain rfl : k = gn := by omega
        have hlt' : decide ((k : Int) < (k : Int)) = false := by simp
        have hR3 : Hid (R = (L, er, T)) := Lib.hid (by rw [← hfl.out, List.drop_of_length_le (by have := hgn'.out; omega)]; rfl)
        obtain ⟨A5, cap5, rfl, hru5, _, _, hfr5, _⟩ := own_RU hrow rfl
        have FF := (Far.of_below hB1.out).trans hF
        clear hR2 hfl
        go_wp2_with fail
        go_ret2
        rw [hR3.out]
        exact ⟨A5, cap5, rfl, hru5, fun g o e => by have := hfr5 g o e; omega, by have := hgm'.out; show L.length ≤ maxLen; omega, hT.out, FF⟩
end Go.Proofs.YtdepkmpilipolaaGreat
namespace Go.Pol
open Go Go.RowKit
/-- one guard is taken away again -/
def undoStep (S : List Sp × Vm) (x : Sp) : List Sp × Vm := (if (bec S.2 x.1 x.2 4 3 1).1 = 0 then S.1 else x :: S.1, (bec S.2 x.1 x.2 4 3 1).2)
/-- guards are placed one after the other (those that are placed: the latest first) -/
def plcL (G : List Sp) : List Sp → List Sp → Vm → List Sp × Int × Vm
  | _, [], V => (G, 0, V)
  | d, x :: r, V => if (bec V x.1 x.2 4 1 3).1 = 0 then plcL G (x :: d) r (bec V x.1 x.2 4 1 3).2 else ((d.foldl undoStep ([], (bec V x.1 x.2 4 1 3).2)).1, (bec V x.1 x.2 4 1 3).1, (d.foldl undoStep ([], (bec V x.1 x.2 4 1 3).2)).2)
/-- what Place does -/
def placeG (V : Vm) (ck : Int) (G : List Sp) : List Sp × Int × Vm := if ck = 0 then plcL G [] G V else ([], ck, V)
theorem own_one {w : World} {base : Nat} {e : TypeId} {a b : Value} (hb : base ≤ w.heap.size) : (w.alloc (.cells #[a, b] e)).ownsRow base e 2 (.slice (some ⟨w.heap.size, 0, none⟩) 1 1) 1 [a, b] :=
  ⟨rfl, .inr ⟨w.heap.size, 1, #[a, b], rfl, hb, heap_alloc_new w _, Nat.le_refl _, by unfold maxLen; omega, rfl, rfl⟩⟩
end Go.Pol
namespace Go.Proofs.YtdepkmpilipolaaGreat
open Go Go.Proofs Go.RowKit Go.Pol Go.Shelf
attribute [local go_sem] Oper.semAt_some Go.Pol.wide_fn Go.Pol.wide_depth Go.Pol.wide_fn' Go.Pol.wide_depth'

set_option maxRecDepth 100000 in
set_option maxHeartbeats 3200000 in
theorem refPlace_any (B b : Nat) (pg n f bk ev : Int) (V : Vm) (w : World) (hV : RefIs w B b V) (hGl : (guardsF pg n f bk ev).length ≤ 512) :
    Calls Tryz.prog 9 #[.pointer (some ⟨b, 0, none⟩), planV pg n f bk ev] w (SpanRef B b (placeG V (chkG pg n f bk ev) (guardsF pg n f bk ev)) w) := by
  obtain ⟨j0, hj, hy0, hy1, hy2⟩ := infoSp_parts
  have hb0 := (Below.refl w.heap.size w).alloc (Nat.le_refl _) (.cells (planC pg n f bk ev) 31)
  have k0 := Blk.new w 31 (planC pg n f bk ev)
  have HA := Lib.hid (fun W => refGuards_any pg n f bk ev W)
  have V0 := hV.call hb0
  have hbw := hV.lt
  have hBb := hV.base
  have c0 := k0.cell
  obtain ⟨R, hR⟩ : ∃ R, placeG V (chkG pg n f bk ev) (guardsF pg n f bk ev) = R := ⟨_, rfl⟩
  rw [hR]
  have hR' := Lib.hid hR
  unfold placeG at hR'
  generalize chkG pg n f bk ev = ck at *
  generalize guardsF pg n f bk ev = G at *
  unfold SpansR at HA
  obtain ⟨gn, hgn⟩ : ∃ gn, G.length = gn := ⟨_, rfl⟩
  rw [hgn] at HA hGl
  have hgn' := Lib.hid hgn
  clear hV hR hgn
  by_cases h0 : ck = 0
  case neg =>
    have h0' : (ck != 0) = true := by simpa using h0
    have hR2 : Hid (R = ([], ck, V)) := Lib.hid (by rw [← hR'.out, if_neg h0])
    clear hR' h0
    go_enter Tryz.func9, Tryz.ntmps9
    go_wp2_with fail
    refine (HA.out _).mono ?_
    rintro e w1 ⟨A1, c1, rfl, g1, g2, g3, g4, g5⟩
    have B1 := hb0.trans (g5.mono hb0.size)
    have V1 := V0.call g5
    clear HA V0
    go_wp2_with fail
    go_ret2
    rw [hR2.out]
    exact ⟨none, 0, rfl, RU.nil, fun _ _ h => (by cases h), by unfold maxLen; simp, V1, .of_below B1⟩
  case pos =>
    subst h0
    have hR2 : Hid (plcL G [] G V = R) := Lib.hid (by rw [← hR'.out, if_pos rfl])
    clear hR'
    go_enter Tryz.func9, Tryz.ntmps9
    go_wp2_with fail
    refine (HA.out (w.alloc (.cells (planC pg n f bk ev) 31))).mono ?_
    rintro e w1 ⟨A1, c1, rfl, g1, g2, g3, g4, g5⟩
    have B1 := hb0.trans (g5.mono hb0.size)
    have V1 := Lib.hid (V0.call g5)
    have hs1 := B1.size
    have hA1 : ∀ g o, A1 = some ⟨g, o, none⟩ → ¬ g = b := fun g o e h => by have := g4 g o e; have := hb0.size; omega
    have hA1w : ∀ g o, A1 = some ⟨g, o, none⟩ → w.heap.size ≤ g := fun g o e => by have := g4 g o e; have := hb0.size; omega
    have g1' := Lib.hid g1
    have hgm : gn ≤ maxLen := by omega
    have hgm' := Lib.hid hgm
    have hA1' := Lib.hid hA1
    have hA1w' := Lib.hid hA1w
    unfold maxLen at hgm
    have hB1 := Lib.hid B1
    clear HA V0 g1 g2 g3 g4 g5 hA1 hA1w c0 k0 hb0 B1
    go_wp2_with fail
    go_loopw [7, 8] (fun v7 i wr => ∃ (k : Nat) (z7 : Int) (T : Vm), k ≤ gn ∧ i = .int .i64 k ∧ v7 = .int .i64 z7 ∧ Hid (plcL G (G.take k).reverse (G.drop k) T = R) ∧ Hid (RefIs wr B b T) ∧ Far (fun k => k = b) w1 wr) (fun _ i _ => gn - (intOf i).toNat)
    case atStart => exact ⟨0, _, V, by omega, rfl, rfl, Lib.hid (by simpa using hR2.out), V1, Far.refl _ _⟩
    case round =>
      clear V1
      obtain ⟨k, z7, T, hk, rfl, rfl, hfl, hT, hF⟩ := hrel
      have hs4 := hF.size
      have hbz := hT.out.lt
      by_cases hlt : k < gn
      · have hlt' : decide ((k : Int) < (gn : Int)) = true := by simpa using hlt
        obtain ⟨rb, ro, hAe, hrb, c5, c6⟩ := g1'.out.at_' (k := k) (by have := hgn'.out; omega)
        subst hAe
        have hne := hA1'.out _ _ rfl
        have hgA := hA1w'.out _ _ rfl
        have d5 := hF.cell c5 (by show ¬ rb = b; omega)
        have d6 := hF.cell c6 (by show ¬ rb = b; omega)
        have hsn := hfl.out
        rw [Go.Pol.drop_cons (0, 0) G k (by have := hgn'.out; omega), plcL] at hsn
        have htk : Hid ((G.take (k + 1)).reverse = G.getD k (0, 0) :: (G.take k).reverse) := Lib.hid (by rw [z_take (0, 0) G (by have := hgn'.out; omega), List.reverse_append]; rfl)
        generalize G.getD k (0, 0) = x at *
        obtain ⟨xa, xb⟩ := x
        simp only at d5 d6 hsn
        have hsn' := Lib.hid hsn
        have e1 := fun x : Ext wr => x.cell d5
        have e2 := fun x : Ext wr => x.cell d6
        clear hsn c5 c6 hfl
        go_upto_region 7 with fail
        refine region_ext_tail 11 (by kernel_rfl) (by kernel_rfl) ?_
        simp only [List.take_succ_cons, List.take_zero, List.drop_succ_cons, List.drop_zero]
        repeat (go_big_quiet_step (fail))
        refine wpQuiet_nil ?_
        intro z
        have Tx := Lib.hid (hT.out.call z.le)
        have hFx : Far (fun k => k = b) w1 z.w := hF.trans (.of_below z.le)
        have HD := Lib.hid (guard6_any B b xa xb T z.w Tx.out)
        clear hT hF d5 d6 e1 e2
        go_wp2_with fail
        refine HD.out.mono ?_
        rintro e w6 ⟨rfl, V6, F6⟩
        have V6' := Lib.hid V6
        have hF6 := hFx.trans F6
        generalize bec T xa xb 4 1 3 = J at *
        obtain ⟨je, jV⟩ := J
        simp only at hsn' V6'
        have hsn2 := hsn'.out
        clear HD Tx hFx F6 V6 hsn'
        by_cases hj2 : je = 0
        · subst hj2
          rw [if_pos rfl] at hsn2
          have hsn3 := Lib.hid hsn2
          clear hsn2
          go_wp2_with fail
          go_roundw
          case rel => exact ⟨k + 1, _, jV, by omega, by go_num, rfl, by rw [htk.out]; exact hsn3, V6', hF6⟩
          case measure => simp [intOf]; omega
        · have hj' : (je == 0) = false := by simpa using hj2
          rw [if_neg hj2] at hsn2
          obtain ⟨D, hD⟩ : ∃ D, (G.take k).reverse.foldl undoStep ([], jV) = D := ⟨_, rfl⟩
          rw [hD] at hsn2
          have hR3 := Lib.hid hsn2
          have hD' := Lib.hid hD
          have hs6 := hF6.size
          clear hsn2 hj2 hD htk
          go_wp2_with fail
          go_loopw [9, 10] (fun v9 i wz => ∃ (m : Nat) (y : Int) (L : List Sp) (U : Vm), m ≤ k ∧ i = .int .i64 y ∧ y = (m : Int) - 1 ∧ L.length + m ≤ k ∧ Hid ((G.take m).reverse.foldl undoStep (L, U) = D) ∧ wz.ownsRow w1.heap.size 64 2 v9 L.length (spCells L) ∧ Hid (RefIs wz B b U) ∧ Far (fun k => k = b) w1 wz) (fun _ i _ => ((intOf i) + 1).toNat)
          case atStart => exact ⟨k, (k : Int) - 1, [], jV, by omega, by go_num, rfl, by simp, hD', World.ownsRow_nil _ _ _ _, V6', hF6⟩
          case round =>
            clear hF6 V6' hD'
            obtain ⟨m, y, L, U, hmk, rfl, hy, hLm, hfl2, hrow, hU, hF7⟩ := hrel
            have hs7 := hF7.size
            have hbz7 := hU.out.lt
            by_cases hm0 : m = 0
            · subst hm0
              have hyd : decide (0 ≤ y) = false := by rw [decide_eq_false_iff_not]; omega
              have hR4 : Hid (R = (L, je, U)) := Lib.hid (by rw [← hR3.out, ← hfl2.out]; rfl)
              obtain ⟨A5, cap5, rfl, hru5, _, _, hfr5, _⟩ := own_RU hrow rfl
              have FF := (Far.of_below hB1.out).trans hF7
              clear hR3 hfl2 hy
              go_wp2_with fail
              go_ret2
              rw [hR4.out]
              exact ⟨A5, cap5, rfl, hru5, fun g o e => by have := hfr5 g o e; omega, by have := hgm'.out; show L.length ≤ maxLen; omega, hU.out, FF⟩
            · obtain ⟨q, hq⟩ : ∃ q : Nat, m = q + 1 := ⟨m - 1, by omega⟩
              subst hq
              have hyq : y = (q : Int) := by omega
              subst hyq
              have hyd : decide ((0 : Int) ≤ (q : Int)) = true := by rw [decide_eq_true_eq]; omega
              have hqg : q < gn := by omega
              obtain ⟨rb2, ro2, hAe2, hrb2, c5, c6⟩ := g1'.out.at_' (k := q) (by have := hgn'.out; omega)
              cases hAe2
              have d5 := hF7.cell c5 (by show ¬ rb = b; omega)
              have d6 := hF7.cell c6 (by show ¬ rb = b; omega)
              have hsn := hfl2.out
              rw [z_take (0, 0) G (by have := hgn'.out; omega), List.reverse_append, List.reverse_singleton, List.singleton_append, List.foldl_cons] at hsn
              generalize G.getD q (0, 0) = x at *
              obtain ⟨ya, yb⟩ := x
              rw [show undoStep (L, U) (ya, yb) = (if (bec U ya yb 4 3 1).1 = 0 then L else (ya, yb) :: L, (bec U ya yb 4 3 1).2) from rfl] at hsn
              simp only at d5 d6
              have hsn' := Lib.hid hsn
              have e1 := fun x : Ext wr => x.cell d5
              have e2 := fun x : Ext wr => x.cell d6
              clear hsn c5 c6 hfl2 hy hm0
              go_upto_region 13 with fail
              refine region_ext_tail 11 (by kernel_rfl) (by kernel_rfl) ?_
              simp only [List.take_succ_cons, List.take_zero, List.drop_succ_cons, List.drop_zero]
              repeat (go_big_quiet_step (fail))
              refine wpQuiet_nil ?_
              intro z2
              have Tx := Lib.hid (hU.out.call z2.le)
              have rowx := ownsRow_call hrow z2.le
              have hFx : Far (fun k => k = b) w1 z2.w := hF7.trans (.of_below z2.le)
              have HD := Lib.hid (unguard6_any B b ya yb U z2.w Tx.out)
              have f5 := z2.cell d5
              have f6 := z2.cell d6
              clear hU hrow hF7 d5 d6 e1 e2
              go_wp2_with fail
              refine HD.out.mono ?_
              rintro e w8 ⟨rfl, V8, F8⟩
              have V8' := Lib.hid V8
              have row8 := ownsRow_far rowx F8 (fun g hg h => by have := (rowx.lt g hg).1; omega)
              have hF8 := hFx.trans F8
              have d5 := F8.cell f5 (by show ¬ rb = b; omega)
              have d6 := F8.cell f6 (by show ¬ rb = b; omega)
              generalize bec U ya yb 4 3 1 = K2 at *
              obtain ⟨ke, kV⟩ := K2
              simp only at hsn' V8'
              have hsn2 := hsn'.out
              clear HD Tx rowx hFx F8 V8 hsn' f5 f6
              by_cases hk2 : ke = 0
              · subst hk2
                rw [if_pos rfl] at hsn2
                have hsn3 := Lib.hid hsn2
                clear hsn2 d5 d6
                go_wp2_with fail
                go_roundw
                case rel => exact ⟨q, (q : Int) - 1, L, kV, by omega, by go_num, rfl, by omega, hsn3, row8, V8', hF8⟩
                case measure => simp [intOf]
              · have hk' : (ke != 0) = true := by simpa using hk2
                rw [if_neg hk2] at hsn2
                have hsn3 := Lib.hid hsn2
                have hs8 := hF8.size
                have hlc := Lib.hid (spCells_len L)
                have kN := Blk.new w8 64 #[.int .i64 ya, .int .i64 yb]
                have hbN : Below w8.heap.size w8 (w8.alloc (.cells #[.int .i64 ya, .int .i64 yb] 64)) := (Below.refl _ _).alloc (Nat.le_refl _) _
                obtain ⟨A5, cap5, rfl, hru5, _, _, hfr5, _⟩ := own_RU row8 rfl
                have ho : (w8.alloc (.cells #[.int .i64 ya, .int .i64 yb] 64)).ownsRow w1.heap.size 64 2 (.slice (some ⟨w8.heap.size, 0, none⟩) 1 1) 1 [.int .i64 ya, .int .i64 yb] := own_one (by omega)
                have hA5 : A5 = none → L.length = 0 ∧ cap5 = 0 := fun e => by
                  subst e
                  rcases row8.2 with h | ⟨g, c, cur, h, _⟩
                  · simp_all
                  · cases h
                have hnw : ∀ ad, A5 = some ad → ∀ j u, (spCells L)[j]? = some u → (w8.alloc (.cells #[.int .i64 ya, .int .i64 yb] 64)).cell? (ad.add j) = some u := fun ad he j u hu => by
                  rcases ru_src (hru5.on hbN) with ⟨e, _⟩ | ⟨ad2, e, h⟩
                  · rw [e] at he; cases he
                  · rw [e] at he; cases he; exact h j u hu
                have h1o := spCells_one L
                clear hsn2 hk2 row8
                go_wp2_with (refine wpList_append_opt rfl (.tmp 62) (.tmp 63) 22 rfl w1.heap.size 64 j0 (.agg #[.int .i64 0, .int .i64 0]) 2 16 Tryz.underlying22 hj hy0 hy1 hy2 rfl (by decide) _ 1 [.int .i64 ya, .int .i64 yb] rfl ho A5 L.length cap5 (spCells L) rfl hA5 hlc.out hnw h1o (by unfold maxLen; omega) (by omega) (by simp; omega) ?_; intro v' w9 hown' hgrow)
                go_roundw
                case rel =>
                  have F7 : Far (fun k => w1.heap.size ≤ k) w8 w9 := (Far.of_below hbN).grown hgrow (fun g hg hlt => (ho.lt g hg).1)
                  have F37 : Far (fun k => k = b) w1 w9 := hF8.trans' F7 (fun i hi h => by omega)
                  exact ⟨q, (q : Int) - 1, (ya, yb) :: L, kV, by omega, by go_num, rfl, by rw [List.length_cons]; omega, hsn3, by rw [List.length_cons, Nat.add_comm]; exact hown', Lib.hid (V8'.out.far F7 (fun k h => by omega)), F37⟩
                case measure => simp [intOf]
      · obtain rfl : k = gn := by omega
        have hlt' : decide ((k : Int) < (k : Int)) = false := by simp
        have hR3 : Hid (R = (G, 0, T)) := Lib.hid (by rw [← hfl.out, List.drop_of_length_le (by have := hgn'.out; omega)]; rfl)
        have hru := Lib.hid ((hF.ru g1'.out (fun g o e => hA1'.out g o e)).more hF.size)
        have FF := (Far.of_below hB1.out).trans hF
        clear hR2 hfl
        go_wp2_with fail
        go_ret2
        rw [hR3.out]
        exact ⟨A1, c1, by rw [hgn'.out]; rfl, hru.out, hA1w'.out, by have := hgm'.out; have := hgn'.out; show G.length ≤ maxLen; omega, hT.out, FF⟩
end Go.Proofs.YtdepkmpilipolaaGreat
namespace Go.Pol
open Go Go.RowKit
/-- the boxes of the spans that were made guards, latest first -/
def PlB (w : World) (lo hi : Nat) : List Nat → List Sp → Prop
  | [], [] => True
  | p :: ps, x :: xs => (lo ≤ p ∧ p < hi ∧ Blk w p 64 #[.int .i64 x.1, .int .i64 x.2]) ∧ PlB w lo hi ps xs
  | _, _ => False
theorem PlB.far {w w' : World} {T : Nat → Prop} {lo hi : Nat} (hF : Far T w w') (hT : ∀ k, lo ≤ k → k < hi → ¬ T k) : ∀ (ps : List Nat) (xs : List Sp), PlB w lo hi ps xs → PlB w' lo hi ps xs
  | [], [], _ => trivial
  | [], _ :: _, h => h
  | _ :: _, [], h => h
  | _ :: ps, _ :: xs, h => ⟨⟨h.1.1, h.1.2.1, hF.blk h.1.2.2 (hT _ h.1.1 h.1.2.1)⟩, PlB.far hF hT ps xs h.2⟩
theorem PlB.more {w : World} {lo hi hi' : Nat} (hh : hi ≤ hi') : ∀ (ps : List Nat) (xs : List Sp), PlB w lo hi ps xs → PlB w lo hi' ps xs
  | [], [], _ => trivial
  | [], _ :: _, h => h
  | _ :: _, [], h => h
  | _ :: ps, _ :: xs, h => ⟨⟨h.1.1, Nat.lt_of_lt_of_le h.1.2.1 hh, h.1.2.2⟩, PlB.more hh ps xs h.2⟩
end Go.Pol
namespace Go.Proofs.YtdepkmpilipolaaGreat
open Go Go.Proofs Go.RowKit Go.Pol Go.Shelf
attribute [local go_sem] Oper.semAt_some Go.Pol.wide_fn Go.Pol.wide_depth Go.Pol.wide_fn' Go.Pol.wide_depth'

/-- a call that Place defers -/
def plD (s p : Nat) : Deferred := { target := .fn (.func 34) #[.pointer (some ⟨s + 3, 0, none⟩), .pointer (some ⟨s, 0, none⟩), .pointer (some ⟨p, 0, none⟩), .pointer (some ⟨s + 2, 0, none⟩)], args := #[] }
theorem place1_enters : ∀ args w, (callFunc 34 args).run Tryz.prog w = .ok (.enter 34 args) w := enters_of Tryz.func34 (by kernel_rfl) rfl
theorem plD_enters (s p : Nat) (w : World) : (invoke (plD s p).target (plD s p).args).run Tryz.prog w = .ok (.enter 34 #[.pointer (some ⟨s + 3, 0, none⟩), .pointer (some ⟨s, 0, none⟩), .pointer (some ⟨p, 0, none⟩), .pointer (some ⟨s + 2, 0, none⟩)]) w := place1_enters _ w
/-- the cells of what is handed back -/
def StS (g4 g5 : Nat) (x : Int) (W : World) : Prop := W.cell? ⟨g4, 0, none⟩ = some (.slice none 0 0) ∧ W.cell? ⟨g5, 0, none⟩ = some (.int .i64 x)
/-- what lies in memory while the deferred calls are made -/
def PlI (b s base : Nat) (je : Int) (R : List Sp × Vm) (w0 : World) (ds : List Deferred) (w : World) : Prop :=
  ∃ (Ds : List Nat) (D L : List Sp) (U : Vm) (v3 : Value), ds = Ds.map (plD s) ∧ PlB w (s + 4) base Ds D ∧ Blk w (s + 3) 35 #[.int .i64 je] ∧ Blk w s 34 #[.pointer (some ⟨b, 0, none⟩)] ∧ Blk w (s + 2) 22 #[v3] ∧
    w.ownsRow base 64 2 v3 L.length (spCells L) ∧ (L = [] → v3 = .slice none 0 0) ∧ L.length + D.length ≤ 512 ∧ SysIs w b U ∧ D.foldl undoStep (L, U) = R ∧ Far (fun k => k = b) w0 w ∧ base ≤ w.heap.size
theorem plI_step (b s base : Nat) (je : Int) (R : List Sp × Vm) (w0 : World) (hs : w0.heap.size = s) (hb : b < s) (hbase : s + 4 ≤ base) (hje : je ≠ 0) (d : Deferred) (ds : List Deferred) (w : World) (h : PlI b s base je R w0 (d :: ds) w) :
    ∃ fv cap f args, d.target = .fn fv cap ∧ (invoke d.target d.args).run Tryz.prog w = .ok (.enter f args) w ∧ CallsD Tryz.prog f args .returning w (fun e u' w' => u' = .returning ∧ ((∃ v, e = .returned v) ∧ PlI b s base je R w0 ds w')) := by
  obtain ⟨Ds, D, L, U, v3, h1, h2, k0, k1, k3, hrow, hn, hl, hV, hR, hF, hbs⟩ := h
  match Ds, D, h1, h2 with
  | p :: ps, x :: xs, h1, h2 =>
    rw [List.map_cons] at h1
    obtain ⟨rfl, rfl⟩ := List.cons.inj h1
    obtain ⟨⟨q1, q2, k2⟩, h2⟩ := h2
    obtain ⟨xa, xb⟩ := x
    rw [List.length_cons] at hl
    rw [List.foldl_cons, show undoStep (L, U) (xa, xb) = (if (bec U xa xb 4 3 1).1 = 0 then L else (xa, xb) :: L, (bec U xa xb 4 3 1).2) from rfl] at hR
    refine ⟨_, _, _, _, rfl, plD_enters s p w, ?_⟩
    by_cases hz : (bec U xa xb 4 3 1).1 = 0
    · rw [if_pos hz] at hR
      refine (place1Un_any b (s + 3) s p (s + 2) je xa xb U w hV hje k0 k1 k2 hz).mono ?_
      rintro e u' w' ⟨rfl, hv, hS, hF'⟩
      refine ⟨rfl, hv, ps, xs, L, _, v3, rfl, PlB.far hF' (fun k hk _ h => by omega) _ _ h2, hF'.blk k0 (by omega), hF'.blk k1 (by omega), hF'.blk k3 (by omega), ownsRow_far hrow hF' (fun g hg h => by have := (hrow.lt g hg).1; omega), hn, by omega, hS, hR, hF.trans hF', by have := hF'.size; omega⟩
    · rw [if_neg hz] at hR
      refine (place1Bad_any b (s + 3) s p (s + 2) base je xa xb U v3 L w hV hje k0 k1 k2 k3 (by omega) hn hrow hbs (by omega) (by omega) (by omega) (by omega) hz).mono ?_
      rintro e u' w' ⟨rfl, hv, v', k3', row', hS, hF'⟩
      refine ⟨rfl, hv, ps, xs, (xa, xb) :: L, _, v', rfl, PlB.far hF' (fun k hk hk2 h => by omega) _ _ h2, hF'.blk k0 (by omega), hF'.blk k1 (by omega), k3', row', fun h => (by cases h), by rw [List.length_cons]; omega, hS, hR, hF.trans' hF' (fun i hi h => by omega), by have := hF'.size; omega⟩
set_option maxRecDepth 100000 in
set_option maxHeartbeats 3200000 in
theorem gplace_any (b : Nat) (pg n f bk ev : Int) (V : Vm) (w : World) (hV : SysIs w b V) (hK : KindOk V) (hGl : (guardsF pg n f bk ev).length ≤ 512) :
    Calls Tryz.prog 8 #[.pointer (some ⟨b, 0, none⟩), planV pg n f bk ev] w (SpanSys b (placeG V (chkG pg n f bk ev) (guardsF pg n f bk ev)) w) := by
  have HA := Lib.hid (fun W h => askG_any b pg n f bk ev V W h hK)
  obtain ⟨w0, hw0, hsz, hB0, k1, k2, k3, k4⟩ := place_boxes (.pointer (some ⟨b, 0, none⟩)) (planC pg n f bk ev) w
  obtain ⟨s, hs⟩ : ∃ s, w.heap.size = s := ⟨_, rfl⟩
  have hbs : b < s := by rw [← hs]; exact hV.lt
  have V0 := hV.call hB0
  rw [hs] at k1 k2 k3 k4 hsz
  obtain ⟨R, hR⟩ : ∃ R, placeG V (chkG pg n f bk ev) (guardsF pg n f bk ev) = R := ⟨_, rfl⟩
  rw [hR]
  have hR' := Lib.hid hR
  unfold placeG at hR'
  generalize chkG pg n f bk ev = ck at *
  generalize guardsF pg n f bk ev = G at *
  unfold SpansOwn at HA
  obtain ⟨gn, hgn⟩ : ∃ gn, G.length = gn := ⟨_, rfl⟩
  rw [hgn] at HA hGl
  have hgn' := Lib.hid hgn
  clear hR hgn hV hK
  by_cases h0 : ck = 0
  case neg =>
    have h0' : (ck != 0) = true := by simpa using h0
    have hR2 : Hid (R = ([], ck, V)) := Lib.hid (by rw [← hR'.out, if_neg h0])
    clear hR' h0
    go_enter_defers Tryz.func8, Tryz.ntmps8
    go_upto_region 1 with fail
    unfold planC at hw0
    try simp only [hs]
    rw [← hw0]
    have c1 := k1.cell
    have c2 := k2.cell
    clear hw0
    go_wp2_with fail
    refine (HA.out _ V0).mono ?_
    rintro e w1 ⟨A1, cc1, rfl, g1, g2, g3, g4, hb1, g6⟩
    have k51 := k4.call hb1
    have k41 := k3.call hb1
    have B1 := hB0.trans (hb1.mono hB0.size)
    have V1 := V0.call hb1
    have f5 := k51.frozen
    have c5 := k51.cell
    have hb2 : Below w.heap.size w (w1.setCell ⟨s + 1 + 1 + 1, 0, none⟩ (.int .i64 ck)) := B1.setCell (p := ⟨s + 1 + 1 + 1, 0, none⟩) (by show w.heap.size ≤ s + 1 + 1 + 1; omega) _
    have F2 : Far (fun k => k = s + 3) w1 (w1.setCell ⟨s + 3, 0, none⟩ (.int .i64 ck)) := Far.setCell (T := fun k => k = s + 3) (p := ⟨s + 3, 0, none⟩) (Far.refl _ _) (fun _ => rfl) _
    have V2 := V1.far F2 (by omega) (fun _ _ _ _ _ _ g _ _ _ hc e => hc.elim fun cr hcr => Blk.ne_ hcr k51 (by decide) e)
    have k52 := k51.set_ 0 (.int .i64 ck)
    have k42 := F2.blk k41 (by show ¬ s + 2 = s + 3; omega)
    clear HA c1 c2 k1 k2 k3 k4 hB0 hb1 k41 k51 F2 B1
    go_upto_region 2 with fail
    generalize w1.setCell _ _ = w2 at *
    clear c5 f5
    have c5 := k52.cell
    go_upto_region 3 with fail
    clear c5
    have Vd : SysIs w2.drew b V := V2.call ((Below.refl _ w2).drew)
    refine wp_noPanic ?_
    refine wp_region_T (ErS (s + 1 + 1 + 1) ck) [2] (by kernel_rfl) ?_
    have kd4 := k42.drew
    have kd5 := k52.drew
    have hBd := (hb2).drew
    generalize (w2).drew = wd at *
    have hS : ErS (s + 1 + 1 + 1) ck wd := ⟨kd5.cell 0, trivial⟩
    have fz4 := kd4.frozen
    refine' wpAnyT_take (i := 0) (v := _) ?hiT0 (by kernel_rfl) ?hQT0 (Or.inl ⟨?hwT0, ?hyT0⟩) hS ?reT0
    case hiT0 => (simp only [List.getElem?_toArray, List.getElem?_cons_zero]; rfl)
    case hQT0 => exact fun _ _ _ h => h
    case hwT0 => rfl
    case hyT0 => (intro wS hSw; obtain ⟨_, _⟩ := hSw; go_simp; (try with_reducible rfl))
    try simp only [Act.put, List.setIfInBounds_toArray, List.set_cons_zero, List.set_cons_succ]
    refine wpAnyT_ready (rs := [1]) (by kernel_rfl) (by simp) ?_
    refine' AllReadyT.cons ?hi1 (fun K hK => ?st1) AllReadyT.nil
    case hi1 => (simp only [List.getElem?_toArray, List.getElem?_cons_succ, List.getElem?_cons_zero]; rfl)
    have z4 := kd4.cell
    go_simp
    refine hK.out _ _ (fun _ => ⟨((Far.setCell (T := fun k => k = s + 2) (p := ⟨s + 1 + 1, 0, none⟩) (Far.refl _ wd) (fun _ => rfl) (.slice none 0 0)).cell (kd5.cell 0) (by show ¬ s + 3 = s + 2; omega)), trivial⟩) (fun _ => ?_)
    clear hK K fz4 z4 hS
    have Fx : Far (fun k => k = s + 2) wd (wd.setCell ⟨s + 2, 0, none⟩ (.slice none 0 0)) := Far.setCell (T := fun k => k = s + 2) (p := ⟨s + 2, 0, none⟩) (Far.refl _ _) (fun _ => rfl) _
    have ke4 := kd4.set_ 0 (.slice none 0 0)
    have ke5 := Fx.blk kd5 (by show ¬ s + 3 = s + 2; omega)
    have hBe : Below w.heap.size w (wd.setCell ⟨s + 1 + 1, 0, none⟩ (.slice none 0 0)) := hBd.setCell (p := ⟨s + 1 + 1, 0, none⟩) (by show w.heap.size ≤ s + 1 + 1; omega) _
    generalize wd.setCell _ _ = we at *
    try simp only [Act.put, List.setIfInBounds_toArray, List.set_cons_zero, List.set_cons_succ]
    have fz5 := ke5.frozen
    have z5 := ke5.cell
    refine wpAnyT_ready (rs := [2]) (by kernel_rfl) (by simp) ?_
    refine' AllReadyT.cons ?hi2 (fun K hK => ?st2) AllReadyT.nil
    case hi2 => (simp only [List.getElem?_toArray, List.getElem?_cons_succ, List.getElem?_cons_zero]; rfl)
    go_simp
    refine hK.out _ _ (fun h => by cases h) (fun _ => ?_)
    clear hK K fz5 z5
    have Fy : Far (fun k => k = s + 3) we (we.setCell ⟨s + 3, 0, none⟩ (.int .i64 ck)) := Far.setCell (T := fun k => k = s + 3) (p := ⟨s + 3, 0, none⟩) (Far.refl _ _) (fun _ => rfl) _
    have kf5 := ke5.set_ 0 (.int .i64 ck)
    have kf4 := Fy.blk ke4 (by show ¬ s + 2 = s + 3; omega)
    have hend : Below w.heap.size w (we.setCell ⟨s + 1 + 1 + 1, 0, none⟩ (.int .i64 ck)) := hBe.setCell (p := ⟨s + 1 + 1 + 1, 0, none⟩) (by show w.heap.size ≤ s + 1 + 1 + 1; omega) _
    generalize we.setCell _ _ = wf at *
    try simp only [Act.put, List.setIfInBounds_toArray, List.set_cons_zero, List.set_cons_succ]
    refine wpAnyT_done (by kernel_rfl) ?_ _
    refine noPanic_normal ?_
    have c4 := kf4.cell
    have c5 := kf5.cell
    go_wp2_with fail
    have Ve := Vd.far Fx (by omega) (fun _ _ _ _ _ _ g _ _ _ hc e => hc.elim fun cr hcr => Blk.ne_ hcr kd4 (by decide) e)
    have Vf := Ve.far Fy (by omega) (fun _ _ _ _ _ _ g _ _ _ hc e => hc.elim fun cr hcr => Blk.ne_ hcr ke5 (by decide) e)
    rw [hR2.out]
    refine ⟨_, ?_, none, 0, rfl, RU.nil, fun _ _ h => (by cases h), by unfold maxLen; simp, Vf, .of_below hend⟩
    simp [results, Tryz.results8, go_sem, c4, c5]
  case pos =>
    subst h0
    have hR2 : Hid (plcL G [] G V = R) := Lib.hid (by rw [← hR'.out, if_pos rfl])
    clear hR'
    go_enter_defers Tryz.func8, Tryz.ntmps8
    go_upto_region 1 with fail
    unfold planC at hw0
    try simp only [hs]
    rw [← hw0]
    have c1 := k1.cell
    have c2 := k2.cell
    clear hw0
    go_wp2_with fail
    refine (HA.out _ V0).mono ?_
    rintro e w1 ⟨A1, cc1, rfl, g1, g2, g3, g4, hb1, g6⟩
    have k51 := k4.call hb1
    have k41 := k3.call hb1
    have k11 := k1.call hb1
    have B1 := hB0.trans (hb1.mono hB0.size)
    have V1 := V0.call hb1
    have f5 := k51.frozen
    have c5 := k51.cell
    clear HA c1 c2 k1 k2 k3 k4
    go_upto_region 4 with fail
    have F2 : Far (fun k => k = s + 3) w1 (w1.setCell ⟨s + 3, 0, none⟩ (.int .i64 0)) := Far.setCell (T := fun k => k = s + 3) (p := ⟨s + 3, 0, none⟩) (Far.refl _ _) (fun _ => rfl) _
    have k52 := k51.set_ 0 (.int .i64 0)
    have k42 := F2.blk k41 (by show ¬ s + 2 = s + 3; omega)
    have k12 := F2.blk k11 (by show ¬ s = s + 3; omega)
    have V2 := V1.far F2 (by omega) (fun _ _ _ _ _ _ g _ _ _ hc e => hc.elim fun cr hcr => Blk.ne_ hcr k51 (by decide) e)
    have hF2 : Far (fun _ => False) w (w1.setCell ⟨s + 1 + 1 + 1, 0, none⟩ (.int .i64 0)) := (Far.of_below B1).trans' F2 (fun i hi e => by omega)
    have hs2 := F2.size
    have hA1 : ∀ g o, A1 = some ⟨g, o, none⟩ → s + 4 ≤ g := fun g o e => by have := g4 g o e; omega
    have g12 := Lib.hid ((F2.ru g1 (fun g o e h => by have := hA1 g o e; omega)).more F2.size)
    have hw4 : s + 4 ≤ w1.heap.size := by have := hb1.size; omega
    clear c5 f5 k51 k41 k11 F2 B1 V1 hb1 g1 V0 hB0
    generalize w1.setCell _ _ = w2 at *
    have hgm : gn ≤ maxLen := by unfold maxLen; omega
    unfold maxLen at hgm
    have hA1' := Lib.hid hA1
    have hF2' := Lib.hid hF2
    have hs' := Lib.hid hs
    have hsz2 : s + 4 ≤ w2.heap.size := by omega
    clear hA1 hF2 hs hsz g2 g3 g4 g6
    go_wp2_with fail
    refine wp_loop (fun a wr => ∃ (k : Nat) (Ds : List Nat) (T : Vm) (u8 u21 u22 u23 u24 u25 u26 u27 u28 u29 u30 u31 u32 u33 u34 u35 : Value), a = { tmps := #[.pointer (some ⟨b, 0, none⟩), planV pg n f bk ev, .pointer (some ⟨s, 0, none⟩), .pointer (some ⟨s + 1, 0, none⟩), .pointer (some ⟨s + 1 + 1, 0, none⟩), .pointer (some ⟨s + 1 + 1 + 1, 0, none⟩), .slice A1 gn cc1, undef, u8, .tuple #[.slice A1 gn cc1, .int .i64 0], .pointer (some ⟨b, 0, none⟩), .agg #[.int .i64 pg, .int .i64 n, .int .i64 f, .int .i64 bk, .int .i64 ev], .tuple #[.slice A1 gn cc1, .int .i64 0], .slice A1 gn cc1, .int .i64 0, .int .i64 0, .bool false, undef, .slice A1 gn cc1, .int .i64 gn, .int .i64 k, u21, u22, u23, u24, u25, u26, u27, u28, u29, u30, u31, u32, u33, u34, u35, undef], defers := Ds.map (plD s) } ∧ k ≤ gn ∧ Hid (plcL G (G.take k).reverse (G.drop k) T = R) ∧ PlB wr (s + 4) wr.heap.size Ds (G.take k).reverse ∧ Hid (SysIs wr b T) ∧ Blk wr s 34 #[.pointer (some ⟨b, 0, none⟩)] ∧ Blk wr (s + 2) 22 #[.slice none 0 0] ∧ Blk wr (s + 3) 35 #[.int .i64 0] ∧ Far (fun k => k = b ∨ k = s + 3) w2 wr) (fun a _ => gn - (intOf (a.tmps.getD 20 undef)).toNat) ?_ ?_
    · exact ⟨0, [], V, _, _, _, _, _, _, _, _, _, _, _, _, _, _, _, _, rfl, by omega, Lib.hid (by simpa using hR2.out), trivial, Lib.hid V2, k12, k42, k52, Far.refl _ _⟩
    · rintro a wr ⟨k, Ds, T, u8, u21, u22, u23, u24, u25, u26, u27, u28, u29, u30, u31, u32, u33, u34, u35, rfl, hk, hfl, hBx, hT, q1, q2, q3, hF⟩
      have hsz4 := hF.size
      by_cases hlt : k < gn
      · have hlt' : decide ((k : Int) < (gn : Int)) = true := by simpa using hlt
        obtain ⟨rb, ro, hAe, hrb, c5, c6⟩ := g12.out.at_' (k := k) (by have := hgn'.out; omega)
        have hrs := hA1'.out _ _ hAe
        subst hAe
        have d5 := hF.cell c5 (by show ¬ (rb = b ∨ rb = s + 3); omega)
        have d6 := hF.cell c6 (by show ¬ (rb = b ∨ rb = s + 3); omega)
        have hsn := hfl.out
        rw [Go.Pol.drop_cons (0, 0) G k (by have := hgn'.out; omega), plcL] at hsn
        have htk : Hid ((G.take (k + 1)).reverse = G.getD k (0, 0) :: (G.take k).reverse) := Lib.hid (by rw [z_take (0, 0) G (by have := hgn'.out; omega), List.reverse_append]; rfl)
        generalize G.getD k (0, 0) = x at *
        obtain ⟨xa, xb⟩ := x
        simp only at d5 d6 hsn
        have hsn' := Lib.hid hsn
        have e1 := q1.cell
        clear hsn c5 c6 hfl
        go_upto_region 7 with fail
        have kx := Blk.new wr 64 #[.int .i64 xa, .int .i64 xb]
        have hbx : Below wr.heap.size wr (wr.alloc (.cells #[.int .i64 xa, .int .i64 xb] 64)) := (Below.refl _ _).alloc (Nat.le_refl _) _
        obtain ⟨p, hp⟩ : ∃ p, wr.heap.size = p := ⟨_, rfl⟩
        have hzx : (wr.alloc (.cells #[.int .i64 xa, .int .i64 xb] 64)).heap.size = p + 1 := by simp [hp]
        have hBx2 := Lib.hid (PlB.far (Far.of_below hbx) (T := fun _ => False) (fun _ _ _ h => h) _ _ hBx)
        have Tx := Lib.hid (hT.out.call hbx)
        have r1 := q1.call hbx
        have r2 := q2.call hbx
        have r3 := q3.call hbx
        have hFx : Far (fun k => k = b ∨ k = s + 3) w2 _ := hF.trans (.of_below hbx)
        rw [hp] at kx
        generalize wr.alloc _ = w5 at *
        try simp only [hp]
        have HD := Lib.hid (guard_any b xa xb T w5 Tx.out)
        have cx := kx.cell
        have e2 := r1.cell
        clear hbx hT hF d5 d6 e1 q1 q2 q3 hBx
        go_wp2_with fail
        refine HD.out.mono ?_
        rintro e w6 ⟨rfl, V6, F6⟩
        have r1' := F6.blk r1 (by omega)
        have r2' := F6.blk r2 (by omega)
        have r3' := F6.blk r3 (by omega)
        have kx' := F6.blk kx (by omega)
        rw [hp] at hBx2
        have hBx3 := Lib.hid (PlB.far F6 (fun k h1 h2 e => by omega) _ _ hBx2.out)
        have hF6 : Far (fun k => k = b ∨ k = s + 3) w2 w6 := hFx.trans (F6.mono (fun _ _ e => .inl e))
        have hz6 : p + 1 ≤ w6.heap.size := by have := F6.size; omega
        generalize bec T xa xb 4 1 3 = J at *
        obtain ⟨je, jV⟩ := J
        simp only at hsn' V6
        have f3 := r3'.frozen
        have c63 := r3'.cell
        have k37 := r3'.set_ 0 (.int .i64 je)
        have F7 : Far (fun k => k = s + 3) w6 (w6.setCell ⟨s + 3, 0, none⟩ (.int .i64 je)) := Far.setCell (T := fun k => k = s + 3) (p := ⟨s + 3, 0, none⟩) (Far.refl _ _) (fun _ => rfl) _
        have V7 := V6.far F7 (by omega) (fun _ _ _ _ _ _ g _ _ _ hc e => hc.elim fun cr hcr => Blk.ne_ hcr r3' (by decide) e)
        have k17 := F7.blk r1' (by omega)
        have k27 := F7.blk r2' (by omega)
        have kx7 := F7.blk kx' (by omega)
        have hB7 := Lib.hid (PlB.far F7 (fun k h1 h2 e => by omega) _ _ hBx3.out)
        have hF7 : Far (fun k => k = b ∨ k = s + 3) w2 (w6.setCell ⟨s + 1 + 1 + 1, 0, none⟩ (.int .i64 je)) := hF6.trans (F7.mono (fun _ _ e => .inr e))
        have hz7 : p + 1 ≤ (w6.setCell ⟨s + 1 + 1 + 1, 0, none⟩ (.int .i64 je)).heap.size := Nat.le_trans hz6 F7.size
        have hsn2 := hsn'.out
        clear HD Tx r1 r2 r3 hFx F6 V6 kx cx e2 r1' r2' kx' hBx2 hBx3 hF6 hz6 F7 hsn'
        go_upto_region 8 with fail
        generalize w6.setCell _ _ = w7 at *
        clear r3' f3 c63
        have c3 := k37.cell
        by_cases hj2 : je = 0
        · subst hj2
          rw [if_pos rfl] at hsn2
          have hsn3 := Lib.hid hsn2
          clear hsn2
          go_upto_region 11 with fail
          go_wp2_with fail
          rw [show ((k : Int) + 1) = ((k + 1 : Nat) : Int) by omega]
          refine ⟨⟨k + 1, p :: Ds, jV, _, _, _, _, _, _, _, _, _, _, _, _, _, _, _, _, rfl, by omega, by rw [htk.out]; exact hsn3, ?_, Lib.hid V7, k17, k27, k37, hF7⟩, ?_⟩
          · rw [htk.out]
            exact ⟨⟨by omega, by omega, kx7⟩, PlB.more (by omega) _ _ hB7.out⟩
          · simp [intOf]; omega
        · have hj' : (je != 0) = true := by simpa using hj2
          rw [if_neg hj2] at hsn2
          have hsn3 := Lib.hid hsn2
          clear hsn2
          go_upto_region 9 with fail
          refine wp_noPanic ?_
          refine wp_region_T (StS (s + 1 + 1) (s + 1 + 1 + 1) je) [3] (by kernel_rfl) ?_
          have kd4 := k27.drew
          have kd5 := k37.drew
          have kd1 := k17.drew
          have Vd : SysIs w7.drew b jV := V7.call ((Below.refl _ w7).drew)
          have hBd := Lib.hid (PlB.far (T := fun _ => False) ((Far.refl _ w7).drew) (fun _ _ _ h => h) _ _ hB7.out)
          have hFd : Far (fun k => k = b ∨ k = s + 3) w2 w7.drew := hF7.drew
          have hzd : p + 1 ≤ w7.drew.heap.size := hz7
          clear k27 k37 k17 V7 hB7 hF7 c3 kx7 hz7
          generalize w7.drew = wd at *
          have hS : StS (s + 1 + 1) (s + 1 + 1 + 1) je wd := ⟨kd4.cell 0, kd5.cell 0⟩
          refine' wpAnyT_take (i := 0) (v := _) ?hiT0u (by kernel_rfl) ?hQT0u (Or.inl ⟨?hwT0u, ?hyT0u⟩) hS ?reT0u
          case hiT0u => (simp only [List.getElem?_toArray, List.getElem?_cons_succ, List.getElem?_cons_zero]; rfl)
          case hQT0u => exact fun _ _ _ h => h
          case hwT0u => rfl
          case hyT0u => (intro wS hSw; obtain ⟨_, _⟩ := hSw; go_simp; (try with_reducible rfl))
          try simp only [Act.put, List.setIfInBounds_toArray, List.set_cons_zero, List.set_cons_succ]
          refine' wpAnyT_take (i := 1) (v := _) ?hiT1u (by kernel_rfl) ?hQT1u (Or.inl ⟨?hwT1u, ?hyT1u⟩) hS ?reT1u
          case hiT1u => (simp only [List.getElem?_toArray, List.getElem?_cons_succ, List.getElem?_cons_zero]; rfl)
          case hQT1u => exact fun _ _ _ h => h
          case hwT1u => rfl
          case hyT1u => (intro wS hSw; obtain ⟨_, _⟩ := hSw; go_simp; (try with_reducible rfl))
          try simp only [Act.put, List.setIfInBounds_toArray, List.set_cons_zero, List.set_cons_succ]
          refine wpAnyT_ready (rs := [2]) (by kernel_rfl) (by simp) ?_
          refine' AllReadyT.cons ?hiu2 (fun K hK => ?stu2) AllReadyT.nil
          case hiu2 => (simp only [List.getElem?_toArray, List.getElem?_cons_succ, List.getElem?_cons_zero]; rfl)
          have z4 := kd4.cell
          have fz4 := kd4.frozen
          go_simp
          have Fx : Far (fun k => k = s + 2) wd (wd.setCell ⟨s + 2, 0, none⟩ (.slice none 0 0)) := Far.setCell (T := fun k => k = s + 2) (p := ⟨s + 2, 0, none⟩) (Far.refl _ wd) (fun _ => rfl) _
          have ke4 := kd4.set_ 0 (.slice none 0 0)
          have ke5 := Fx.blk kd5 (by omega)
          refine hK.out _ _ (fun _ => ⟨ke4.cell 0, ke5.cell 0⟩) (fun _ => ?_)
          have ke1 := Fx.blk kd1 (by omega)
          have Ve := Vd.far Fx (by omega) (fun _ _ _ _ _ _ g _ _ _ hc e => hc.elim fun cr hcr => Blk.ne_ hcr kd4 (by decide) e)
          have hBe := Lib.hid (PlB.far Fx (fun k h1 h2 e => by omega) _ _ hBd.out)
          have hFe : Far (fun k => k = b ∨ k = s + 3 ∨ k = s + 2) w2 (wd.setCell ⟨s + 2, 0, none⟩ (.slice none 0 0)) := (hFd.mono (fun k _ e => by omega)).trans (Fx.mono (fun k _ e => by omega))
          have hze : p ≤ (wd.setCell ⟨s + 2, 0, none⟩ (.slice none 0 0)).heap.size := Nat.le_trans (by omega) Fx.size
          clear hK K fz4 z4 hS Fx hzd hFd hBd Vd kd1 kd4 kd5
          generalize wd.setCell _ _ = we at *
          have fz5 := ke5.frozen
          have z5 := ke5.cell
          refine wpAnyT_ready (rs := [3]) (by kernel_rfl) (by simp) ?_
          refine' AllReadyT.cons ?hiu3 (fun K hK => ?stu3) AllReadyT.nil
          case hiu3 => (simp only [List.getElem?_toArray, List.getElem?_cons_succ, List.getElem?_cons_zero]; rfl)
          go_simp
          refine hK.out _ _ (fun h => by cases h) (fun _ => ?_)
          have Fy : Far (fun k => k = s + 3) we (we.setCell ⟨s + 3, 0, none⟩ (.int .i64 je)) := Far.setCell (T := fun k => k = s + 3) (p := ⟨s + 3, 0, none⟩) (Far.refl _ we) (fun _ => rfl) _
          have kf5 := ke5.set_ 0 (.int .i64 je)
          have kf4 := Fy.blk ke4 (by omega)
          have kf1 := Fy.blk ke1 (by omega)
          have hzf : p ≤ (we.setCell ⟨s + 3, 0, none⟩ (.int .i64 je)).heap.size := Nat.le_trans hze Fy.size
          have Vf := Ve.far Fy (by omega) (fun _ _ _ _ _ _ g _ _ _ hc e => hc.elim fun cr hcr => Blk.ne_ hcr ke5 (by decide) e)
          have hBf := Lib.hid (PlB.more hzf _ _ (PlB.far Fy (fun k h1 h2 e => by omega) _ _ hBe.out))
          have hFf : Far (fun k => k = b ∨ k = s + 3 ∨ k = s + 2) w2 (we.setCell ⟨s + 1 + 1 + 1, 0, none⟩ (.int .i64 je)) := hFe.trans (Fy.mono (fun k _ e => by omega))
          clear hK K fz5 z5 ke1 ke4 ke5 Ve hBe hFe
          generalize we.setCell _ _ = wf at *
          refine wpAnyT_done (by kernel_rfl) ?_ _
          refine noPanic_normal ?_
          go_wp2_with fail
          obtain ⟨Df, hDf⟩ : ∃ Df, (G.take k).reverse.foldl undoStep ([], jV) = Df := ⟨_, rfl⟩
          have hR3 : R = (Df.1, je, Df.2) := by rw [← hsn3.out, hDf]
          refine leaves_inv (PlI b s wf.heap.size je Df w) ?_ (fun d ds w' h => plI_step b s wf.heap.size je Df w hs'.out hbs (by omega) hj2 d ds w' h) _ wf ?_
          · rintro w' ⟨Ds', D', L', U', v3, g1, g2, g5, _, g4, grow, _, gl, gV, gR, gF, gz⟩
            have hD0 : D' = [] := by
              have : Ds' = [] := List.map_eq_nil_iff.1 g1.symm
              subst this
              match D', g2 with
              | [], _ => rfl
            subst hD0
            rw [hR3, ← gR]
            obtain ⟨A5, cap5, rfl, hru5, _, _, hfr5, _⟩ := own_RU grow rfl
            have x4 := g4.cell
            have x5 := g5.cell
            refine ⟨_, ?_, A5, cap5, rfl, hru5, fun g o e => by have := hfr5 g o e; have := hs'.out; omega, ?_, gV, gF⟩
            · simp [results, Tryz.results8, go_sem, x4, x5]
            · unfold maxLen
              show L'.length ≤ _
              omega
          · exact ⟨Ds, (G.take k).reverse, [], jV, _, rfl, hBf.out, kf5, kf1, kf4, World.ownsRow_nil _ _ _ _, fun _ => rfl, by simp only [List.length_nil, List.length_reverse, List.length_take]; omega, Vf, hDf, (hF2'.out.mono (fun _ _ h => h.elim)).trans' hFf (fun i hi e => by have := hs'.out; omega), Nat.le_refl _⟩
      · obtain rfl : k = gn := by omega
        have hlt' : decide ((k : Int) < (k : Int)) = false := by simp
        have hR3 : Hid (R = (G, 0, T)) := Lib.hid (by rw [← hfl.out, List.drop_of_length_le (by have := hgn'.out; omega)]; rfl)
        have f4 := q2.frozen
        have c4 := q2.cell
        have Fx : Far (fun k => k = s + 2) wr (wr.setCell ⟨s + 2, 0, none⟩ (.slice A1 k cc1)) := Far.setCell (T := fun k => k = s + 2) (p := ⟨s + 2, 0, none⟩) (Far.refl _ _) (fun _ => rfl) _
        have f5 := (Fx.blk q3 (by omega)).frozen
        have c5 := (Fx.blk q3 (by omega)).cell
        have ke4 := q2.set_ 0 (.slice A1 k cc1)
        have ke5 := Fx.blk q3 (by omega)
        have Ve := hT.out.far Fx (by omega) (fun _ _ _ _ _ _ g _ _ _ hc e => hc.elim fun cr hcr => Blk.ne_ hcr q2 (by decide) e)
        go_wp2_with fail
        have Fy : Far (fun k => k = s + 3) (wr.setCell ⟨s + 2, 0, none⟩ (.slice A1 k cc1)) ((wr.setCell ⟨s + 2, 0, none⟩ (.slice A1 k cc1)).setCell ⟨s + 3, 0, none⟩ (.int .i64 0)) := Far.setCell (T := fun k => k = s + 3) (p := ⟨s + 3, 0, none⟩) (Far.refl _ _) (fun _ => rfl) _
        have kf5 := ke5.set_ 0 (.int .i64 0)
        have kf4 := Fy.blk ke4 (by omega)
        have Vf := Ve.far Fy (by omega) (fun _ _ _ _ _ _ g _ _ _ hc e => hc.elim fun cr hcr => Blk.ne_ hcr ke5 (by decide) e)
        have hFf := ((hF.mono (T' := fun k => k = b ∨ k = s + 3 ∨ k = s + 2) (fun k _ e => by omega)).trans (Fx.mono (fun k _ e => by omega))).trans (Fy.mono (fun k _ e => by omega))
        have g15 := ((hF.ru g12.out (fun g o e h => by have := hA1'.out g o e; omega)).more hF.size)
        have g16 := (Fx.ru g15 (fun g o e h => by have := hA1'.out g o e; omega)).more Fx.size
        have g17 := (Fy.ru g16 (fun g o e h => by have := hA1'.out g o e; omega)).more Fy.size
        have x4 := kf4.cell
        have x5 := kf5.cell
        clear f4 c4 f5 c5 Fx Fy ke4 ke5 Ve q2 q3 g15 g16
        generalize (wr.setCell _ _).setCell _ _ = wf at *
        refine leaves_inv (fun ds w' => w' = wf ∧ ∃ Ds' : List Nat, ds = Ds'.map (plD s)) ?_ ?_ _ wf ⟨rfl, Ds, rfl⟩
        · rintro w' ⟨rfl, _⟩
          rw [hR3.out]
          refine ⟨_, ?_, A1, cc1, by rw [hgn'.out], g17, fun g o e => by have := hA1'.out g o e; have := hs'.out; omega, ?_, Vf, (hF2'.out.mono (fun _ _ h => h.elim)).trans' hFf (fun i hi e => by have := hs'.out; omega)⟩
          · simp [results, Tryz.results8, go_sem, x4, x5]
          · have := hgn'.out
            unfold maxLen
            show G.length ≤ _
            omega
        · rintro d ds w' ⟨rfl, Ds', hds⟩
          match Ds', hds with
          | p :: ps, hds =>
            rw [List.map_cons] at hds
            obtain ⟨rfl, rfl⟩ := List.cons.inj hds
            refine ⟨_, _, _, _, rfl, plD_enters s p w', (place1Ok_any (s + 3) s p (s + 2) w' kf5).mono ?_⟩
            rintro e u' w3 ⟨rfl, hv, rfl⟩
            exact ⟨rfl, hv, rfl, ps, rfl⟩
end Go.Proofs.YtdepkmpilipolaaGreat
namespace Go.Proofs.YtdepkmpilipolaaGreat
open Go Go.Proofs Go.RowKit Go.Pol Go.Shelf
attribute [local go_sem] Oper.semAt_some Go.Pol.wide_fn Go.Pol.wide_depth Go.Pol.wide_fn' Go.Pol.wide_depth'

theorem eqRu (a b c d : Int) (w : World) : (Op.equalIn 10000 88 (.agg #[.int .i64 a, .int .i64 b, .int .i64 c, .int .i64 d]) (.agg #[.int .i64 a, .int .i64 b, .int .i64 c, .int .i64 d])).run Tryz.prog w = .ok true w := by
  have u3 := Tryz.underlying3
  have a3 := Tryz.isAgg3
  have z3 := Tryz.sizeOf3
  rw [show (10000 : Nat) = 9999 + 1 from rfl]
  go_simp
  try simp
theorem eqRn (a b c : Int) (w : World) : (Op.equalIn 10000 73 (.agg #[.int .i64 a, .int .i64 b, .int .i64 c]) (.agg #[.int .i64 a, .int .i64 b, .int .i64 c])).run Tryz.prog w = .ok true w := by
  have u3 := Tryz.underlying3
  have a3 := Tryz.isAgg3
  have z3 := Tryz.sizeOf3
  rw [show (10000 : Nat) = 9999 + 1 from rfl]
  go_simp
  try simp
set_option maxRecDepth 100000 in
set_option maxHeartbeats 1600000 in
theorem samePlan_any (A A' : Option Addr) (n cap cap' : Nat) (l : List Ru) (w : World) (hn : l.length = n) (hm : n ≤ 1000) (hr : Rd w w.heap.size A (fl ruC l)) (hr' : Rd w w.heap.size A' (fl ruC l)) :
    Calls Tryz.prog 61 #[.agg #[.slice A n cap], .agg #[.slice A' n cap']] w fun e w' => e = .returned (.bool true) ∧ Below w.heap.size w w' := by
  have hb0 := ((Below.refl w.heap.size w).alloc (Nat.le_refl _) (.cells #[.slice A n cap] 25)).alloc (by simp) (.cells #[.slice A' n cap'] 25)
  have k0 := (Blk.new w 25 #[.slice A n cap]).alloc (.cells #[.slice A' n cap'] 25)
  have k1 := Blk.new (w.alloc (.cells #[.slice A n cap] 25)) 25 #[.slice A' n cap']
  have r0 := hr.on_ hb0
  have r1 := hr'.on_ hb0
  obtain ⟨s, hs⟩ : ∃ s, w.heap.size = s := ⟨_, rfl⟩
  rw [World.size_alloc, hs] at k1
  rw [hs] at k0
  have hn' := Lib.hid hn
  have heq := Lib.hid (fun a b c d W => eqRu a b c d W)
  clear hn hr hr'
  go_enter Tryz.func61, Tryz.ntmps61
  go_upto_region 1 with fail
  generalize (w.alloc _).alloc _ = w0 at *
  try simp only [hs]
  have c0 := k0.cell
  have c1 := k1.cell
  have d0 : ((n : Int) != (n : Int)) = false := by simp
  go_upto_region 3 with fail
  clear c0 c1
  have k0' := Lib.hid k0
  have k1' := Lib.hid k1
  clear k0 k1
  go_wp2_with fail
  go_loopw [5] (fun u wr => ∃ i : Nat, i ≤ n ∧ u = .int .i64 i ∧ Below w0.heap.size w0 wr) (fun u _ => n - (intOf u).toNat)
  case atStart => exact ⟨0, by omega, rfl, Below.refl _ _⟩
  case round =>
    obtain ⟨i, hi, rfl, hB⟩ := hrel
    have kr := k0'.out.call hB
    have kq := k1'.out.call hB
    have cr := kr.cell
    by_cases hlt : i < n
    · have hlt' : decide ((i : Int) < (n : Int)) = true := by simpa using hlt
      have hin : (i : Int) < (n : Int) := by omega
      obtain ⟨b, o, rfl, hb, hc⟩ := (r0.on_ hB).elem ruC_len (by omega) ru0 (k := i) (by have := hn'.out; omega)
      obtain ⟨b', o', rfl, hb', hc'⟩ := (r1.on_ hB).elem ruC_len (by omega) ru0 (k := i) (by have := hn'.out; omega)
      generalize l.getD i ru0 = x at *
      obtain ⟨xk, f, e, t⟩ := x
      have x0 := hc 0 _ rfl
      have x1 := hc 1 _ rfl
      have x2 := hc 2 _ rfl
      have x3 := hc 3 _ rfl
      have y0 := hc' 0 _ rfl
      have y1 := hc' 1 _ rfl
      have y2 := hc' 2 _ rfl
      have y3 := hc' 3 _ rfl
      simp only [Nat.add_zero] at x0 y0
      have e0 := fun z : Ext wr => (z.blk kr).cell
      have e1 := fun z : Ext wr => (z.blk kq).cell
      have a0 := fun z : Ext wr => z.cell x0
      have a1 := fun z : Ext wr => z.cell x1
      have a2 := fun z : Ext wr => z.cell x2
      have a3 := fun z : Ext wr => z.cell x3
      have b0 := fun z : Ext wr => z.cell y0
      have b1 := fun z : Ext wr => z.cell y1
      have b2 := fun z : Ext wr => z.cell y2
      have b3 := fun z : Ext wr => z.cell y3
      have hq := fun W => heq.out xk f e t W
      clear hc hc' x0 x1 x2 x3 y0 y1 y2 y3
      go_upto_region 6 with fail
      clear cr
      refine region_ext (by kernel_rfl) (by kernel_rfl) ?_
      repeat (go_big_quiet_step (fail))
      refine wpQuiet_nil ?_
      rintro w2 ⟨⟨_, hw2⟩, rfl⟩
      go_wp2_with fail
      go_roundw
      case rel => exact ⟨i + 1, by omega, by go_num, hB.trans (hw2.mono hB.size)⟩
      case measure => simp [intOf]; omega
    · obtain rfl : i = n := by omega
      have hlt' : decide ((i : Int) < (i : Int)) = false := by simp
      go_wp2_with fail
      go_ret
      exact ⟨rfl, hb0.trans (hB.mono hb0.size)⟩
set_option maxRecDepth 100000 in
set_option maxHeartbeats 1600000 in
theorem sameState_any (A A' : Option Addr) (n cap cap' : Nat) (l : List Ru) (cs hs : Nat → Int) (w : World) (hn : l.length = n) (hm : n ≤ 1000) (hr : Rd w w.heap.size A (fl ruC l)) (hr' : Rd w w.heap.size A' (fl ruC l)) :
    Calls Tryz.prog 37 #[rfV (.slice A n cap) cs hs, rfV (.slice A' n cap') cs hs] w fun e w' => e = .returned (.bool true) ∧ Below w.heap.size w w' := by
  have hb0 := ((Below.refl w.heap.size w).alloc (Nat.le_refl _) (.cells (rfC (.slice A n cap) cs hs).toArray 51)).alloc (by simp) (.cells (rfC (.slice A' n cap') cs hs).toArray 51)
  have k0 := (Blk.new w 51 (rfC (.slice A n cap) cs hs).toArray).alloc (.cells (rfC (.slice A' n cap') cs hs).toArray 51)
  have k1 := Blk.new (w.alloc (.cells (rfC (.slice A n cap) cs hs).toArray 51)) 51 (rfC (.slice A' n cap') cs hs).toArray
  have r0 := hr.on_ hb0
  have r1 := hr'.on_ hb0
  obtain ⟨s, hsz⟩ : ∃ s, w.heap.size = s := ⟨_, rfl⟩
  rw [World.size_alloc, hsz] at k1
  rw [hsz] at k0
  have HP := Lib.hid (fun W h h' => samePlan_any A A' n cap cap' l W hn hm h h')
  have hqc : ∀ W, (Op.equalIn 10000 49 (.agg #[.int .i64 (cs 0), .int .i64 (cs 1), .int .i64 (cs 2), .int .i64 (cs 3), .int .i64 (cs 4), .int .i64 (cs 5), .int .i64 (cs 6)]) (.agg #[.int .i64 (cs 0), .int .i64 (cs 1), .int .i64 (cs 2), .int .i64 (cs 3), .int .i64 (cs 4), .int .i64 (cs 5), .int .i64 (cs 6)])).run Tryz.prog W = .ok true W := fun W => eq7_any cs W
  have hqh : ∀ W, (Op.equalIn 10000 49 (.agg #[.int .i64 (hs 0), .int .i64 (hs 1), .int .i64 (hs 2), .int .i64 (hs 3), .int .i64 (hs 4), .int .i64 (hs 5), .int .i64 (hs 6)]) (.agg #[.int .i64 (hs 0), .int .i64 (hs 1), .int .i64 (hs 2), .int .i64 (hs 3), .int .i64 (hs 4), .int .i64 (hs 5), .int .i64 (hs 6)])).run Tryz.prog W = .ok true W := fun W => eq7_any hs W
  unfold rfC at hb0 k0 k1 r0 r1
  unfold rfV rfC
  clear hn hr hr'
  go_enter Tryz.func37, Tryz.ntmps37
  go_upto_region 1 with fail
  generalize (w.alloc _).alloc _ = w0 at *
  try simp only [hsz]
  have c0 := k0.cell
  have c1 := k1.cell
  go_wp2_with fail
  refine (HP.out _ r0 r1).mono ?_
  rintro e w1 ⟨rfl, hb1⟩
  have k01 := (k0.call hb1).cell
  have k11 := (k1.call hb1).cell
  clear c0 c1 k0 k1 r0 r1 HP
  go_wp2_with fail
  go_ret
  exact ⟨rfl, hb0.trans (hb1.mono hb0.size)⟩
end Go.Proofs.YtdepkmpilipolaaGreat
