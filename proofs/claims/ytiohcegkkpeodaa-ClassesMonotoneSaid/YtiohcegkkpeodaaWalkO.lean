/- Walks: all sets of sizes are tried (the reference of Best). -/
import Derived.Test.YtiohcegkkpeodaaWalkN
import Derived.Laws.AppendOwnNone
namespace Go.Pol
open Go Go.RowKit
/-- what yields in whatever world may come first -/
theorem wpAnyT_firstW {P : Program} {ops : Array Oper} {Q : Exit → Act → World → Prop} {md : Region.Mode} {S : World → Prop} {tl : List Nat} {i : Nat} {oi : Oper} {v : Value} (hi : ops[i]? = some oi) (hsel : ∀ (j : Nat) (o : Oper) cs b, ops[j]? = some o → o.op ≠ .select cs b)
    (hQ : ∀ c a w, Q (.panic c) (a.put oi.dst v) w → Q (.panic c) a w) (hti : tl.contains i = true) :
    ∀ (fuel : Nat) (listed : Array Bool) (a : Act) (w : World),
      (∀ j oj, ops[j]? = some oj → j ≠ i → listed.getD j true = false → (∀ e ∈ oj.after, Region.binds md e = true → e.on ≠ i) → oi.apart ops oj = true) →
      i ∈ Region.ready md ops listed → YieldsIf P ops (fun _ => True) oi v a →
      wpAnyT P md ops Q S tl fuel (listed.setIfInBounds i true) (a.put oi.dst v) w → wpAnyT P md ops Q S tl (fuel + 1) listed a w := by
  have hno : ∀ w : World, tl.contains i = false → S w := fun w h => by rw [hti] at h; cases h
  intro fuel
  induction fuel with
  | zero =>
    intro listed a w _ hr hy H
    refine ⟨fun h => (by rw [h] at hr; cases hr), fun j hj => ?_⟩
    by_cases hji : j = i
    · subst hji; exact hy.wpOp hi trivial ⟨hno w, H⟩
    · have := ready_mono hj hji
      rw [H.1] at this
      cases this
  | succ fuel ih =>
    intro listed a w hfree hr hy H
    refine ⟨fun h => (by rw [h] at hr; cases hr), fun j hj => ?_⟩
    by_cases hji : j = i
    · subst hji; exact hy.wpOp hi trivial ⟨hno w, H⟩
    · have h1 := H.2 j (ready_mono hj hji)
      obtain ⟨hjun, oj, hoj, hall⟩ := mem_ready.1 hj
      have hun : listed.getD i false = false := getD_both (mem_ready.1 hr).1
      have hnot : ∀ e ∈ oj.after, Region.binds md e = true → e.on ≠ i := fun e he hb heq => by
        have h1 := hall e he hb
        rw [heq, hun] at h1
        cases h1
      have h2 := wpOp_putIf hoj (hfree j oj hoj hji hjun hnot) (fun cs b => hsel i oi cs b hi) (fun cs b => hsel j oj cs b hoj) hQ hy h1
      have hfree' : ∀ k ok, ops[k]? = some ok → k ≠ i → (listed.setIfInBounds j true).getD k true = false →
          (∀ e ∈ ok.after, Region.binds md e = true → e.on ≠ i) → oi.apart ops ok = true := fun k ok hk hki hun hno => by
        refine hfree k ok hk hki ?_ hno
        by_cases hjk : j = k
        · subst hjk; exact hjun
        · rw [getD_set_ne true hjk] at hun; exact hun
      refine wpOp_mono (fun a' w' h3 => ⟨h3.2.1, ih (listed.setIfInBounds j true) a' w' hfree' (ready_mono hr (Ne.symm hji)) h3.1 ?_⟩) h2
      rw [Array.setIfInBounds_comm _ _ hji]
      exact h3.2.2
theorem wpAnyT_takeW {P : Program} {ops : Array Oper} {Q : Exit → Act → World → Prop} {md : Region.Mode} {S : World → Prop} {tl : List Nat} {i : Nat} {oi : Oper} {v : Value} {fuel : Nat} {listed : Array Bool} {a : Act} {w : World} (hi : ops[i]? = some oi)
    (hB : (Region.noSelect ops && Region.free md ops listed i && (Region.ready md ops listed).contains i && tl.contains i) = true)
    (hQ : ∀ c a w, Q (.panic c) (a.put oi.dst v) w → Q (.panic c) a w) (hy : YieldsIf P ops (fun _ => True) oi v a)
    (h : wpAnyT P md ops Q S tl fuel (listed.setIfInBounds i true) (a.put oi.dst v) w) : wpAnyT P md ops Q S tl (fuel + 1) listed a w := by
  simp only [Bool.and_eq_true] at hB
  obtain ⟨⟨⟨h1, h2⟩, h3⟩, h5⟩ := hB
  exact wpAnyT_firstW hi (Region.noSelect_spec h1) hQ h5 fuel listed a w (Region.free_spec hi h2) (by simpa using h3) hy h
/-- what is appended: a nil slice, or a slice that reads as a list that is not empty -/
def Src (w : World) (src : Value) (ys : List Value) : Prop :=
  (src = .slice none 0 0 ∧ ys = []) ∨ ∃ b o c, src = .slice (some ⟨b, o, none⟩) ys.length c ∧ 0 < ys.length ∧ ∀ j u, ys[j]? = some u → w.cell? ⟨b, o + j, none⟩ = some u
theorem run_app {P : Program} (w : World) (t ty : TypeId) (base : Nat) (e : TypeId) (i : TypeInfo) (z : Value) (bytes : Nat) (ht : P.underlying t = some (.slice e)) (hi : P.info? e = some i) (hz : i.zero = some z)
    (hsize : i.size = 1) (hby : i.bytes = bytes) (hzs : z.cells.size = 1) (v : Value) (n : Nat) (xs : List Value) (hown : w.ownsRow base e 1 v n xs)
    (src : Value) (ys : List Value) (hsrc : Src w src ys) (h1 : ∀ u ∈ ys, u.oneCell' = true) (h63 : n + ys.length ≤ maxLen) (hbytes : (n + ys.length) * bytes ≤ 140737488355328) (hbase : base ≤ w.heap.size) :
    ∃ v' w', (Builtin.append_ #[t, t] ty #[v, src]).run P w = .ok v' w' ∧ w'.ownsRow base e 1 v' (n + ys.length) (xs ++ ys) ∧ w.grownBy w' v.ownBlock := by
  rcases hsrc with ⟨rfl, rfl⟩ | ⟨b, o, c, rfl, hpos, hc⟩
  · refine ⟨v, w, run_append_owned_none (P := P) (w := w) base t ty e i 1 ht hi v n xs hown, by simpa using hown, World.grownBy.refl _ _⟩
  · obtain ⟨g, cap, w', hr, h2, h3, _, _⟩ := run_append_lies (P := P) w t ty base e i z 1 bytes ht hi hz hsize hby hzs (by omega) v n xs hown ⟨b, o, none⟩ ys.length c ys (by omega) (fun j u hj => by rw [addr_add0]; exact hc j u hj) h1 hpos h63 hbytes hbase _ rfl
    exact ⟨_, w', hr, h2, h3⟩
theorem wp_app {P : Program} {w : World} {o : Oper} {a : Act} {K : Act → World → Prop} {Q : Exit → Act → World → Prop} (s x : Operand) (t : TypeId)
    (ho : o.op = .call { callee := .builtin .append, args := #[s, x], argTypes := #[t, t] })
    (base : Nat) (e : TypeId) (i : TypeInfo) (z : Value) (bytes : Nat) (ht : P.underlying t = some (.slice e)) (hi : P.info? e = some i) (hz : i.zero = some z)
    (hsize : i.size = 1) (hby : i.bytes = bytes) (hzs : z.cells.size = 1) (v : Value) (n : Nat) (xs : List Value) (hs : a.eval s = v) (hown : w.ownsRow base e 1 v n xs)
    (src : Value) (ys : List Value) (hx : a.eval x = src) (hsrc : Src w src ys) (h1 : ∀ u ∈ ys, u.oneCell' = true) (h63 : n + ys.length ≤ maxLen) (hbytes : (n + ys.length) * bytes ≤ 140737488355328) (hbase : base ≤ w.heap.size)
    (h : ∀ v' w', w'.ownsRow base e 1 v' (n + ys.length) (xs ++ ys) → w.grownBy w' v.ownBlock → K (a.put o.dst v') w') : o.wp P a w K Q := by
  obtain ⟨v', w', hr, h2, h3⟩ := run_app (P := P) w t o.type base e i z bytes ht hi hz hsize hby hzs v n xs hown src ys hsrc h1 h63 hbytes hbase
  unfold Oper.wp execOp
  simp only [ho, resolve, invoke, builtin, Sem.run_bind, Sem.run_pure, Result.andThen_ok, List.map_toArray, List.map_cons, List.map_nil, hs, hx, hr]
  exact h v' w' h2 h3
theorem wpList_app {P : Program} {w : World} {ops : Array Oper} {rest : List Oper} {o : Oper} {a : Act} {Q : Exit → Act → World → Prop} (hgd : o.guard = none) (s x : Operand) (t : TypeId)
    (ho : o.op = .call { callee := .builtin .append, args := #[s, x], argTypes := #[t, t] })
    (base : Nat) (e : TypeId) (i : TypeInfo) (z : Value) (bytes : Nat) (ht : P.underlying t = some (.slice e)) (hi : P.info? e = some i) (hz : i.zero = some z)
    (hsize : i.size = 1) (hby : i.bytes = bytes) (hzs : z.cells.size = 1) (v : Value) (n : Nat) (xs : List Value) (hs : a.eval s = v) (hown : w.ownsRow base e 1 v n xs)
    (src : Value) (ys : List Value) (hx : a.eval x = src) (hsrc : Src w src ys) (h1 : ∀ u ∈ ys, u.oneCell' = true) (h63 : n + ys.length ≤ maxLen) (hbytes : (n + ys.length) * bytes ≤ 140737488355328) (hbase : base ≤ w.heap.size)
    (h : ∀ v' w', w'.ownsRow base e 1 v' (n + ys.length) (xs ++ ys) → w.grownBy w' v.ownBlock → wpList P ops Q rest (a.put o.dst v') w') : wpList P ops Q (o :: rest) a w :=
  wpList_plain hgd fun _ hK => wp_app s x t ho base e i z bytes ht hi hz hsize hby hzs v n xs hs hown src ys hx hsrc h1 h63 hbytes hbase fun v' w' h2 h3 => hK _ _ (h v' w' h2 h3)
theorem step_app {P : Program} {w : World} {ops : Array Oper} {o : Oper} {a : Act} {K : Act → World → Prop} {Q : Exit → Act → World → Prop} {E : Prop} (hgd : o.guard = none) (s x : Operand) (t : TypeId)
    (ho : o.op = .call { callee := .builtin .append, args := #[s, x], argTypes := #[t, t] })
    (base : Nat) (e : TypeId) (i : TypeInfo) (z : Value) (bytes : Nat) (ht : P.underlying t = some (.slice e)) (hi : P.info? e = some i) (hz : i.zero = some z)
    (hsize : i.size = 1) (hby : i.bytes = bytes) (hzs : z.cells.size = 1) (v : Value) (n : Nat) (xs : List Value) (hs : a.eval s = v) (hown : w.ownsRow base e 1 v n xs)
    (src : Value) (ys : List Value) (hx : a.eval x = src) (hsrc : Src w src ys) (h1 : ∀ u ∈ ys, u.oneCell' = true) (h63 : n + ys.length ≤ maxLen) (hbytes : (n + ys.length) * bytes ≤ 140737488355328) (hbase : base ≤ w.heap.size)
    (h : ∀ v' w', w'.ownsRow base e 1 v' (n + ys.length) (xs ++ ys) → w.grownBy w' v.ownBlock → K (a.put o.dst v') w') : if Region.wanted o (yielded ops a.tmps) = true then Oper.wp P o a w K Q else E := by
  rw [if_pos (by simp [Region.wanted, hgd])]
  exact wp_app s x t ho base e i z bytes ht hi hz hsize hby hzs v n xs hs hown src ys hx hsrc h1 h63 hbytes hbase h
/-- a slice that reads as a list is what may be appended -/
theorem Src.of {w : World} {B : Nat} {A : Option Addr} {xs : List Int} {cap : Nat} (h : RI w B A xs) (h0 : xs = [] → A = none ∧ cap = 0) : Src w (.slice A xs.length cap) (xs.map (Value.int .i64)) := by
  cases xs with
  | nil => obtain ⟨rfl, rfl⟩ := h0 rfl; exact .inl ⟨rfl, rfl⟩
  | cons x r =>
    obtain ⟨b, o, rfl, _, _⟩ := h 0 (by simp)
    refine .inr ⟨b, o, cap, by simp, by simp, fun j u hj => ?_⟩
    have hjl : j < ((x :: r).map (Value.int .i64)).length := (List.getElem?_eq_some_iff.1 hj).1
    obtain ⟨b', o', e, _, hc⟩ := h j hjl
    obtain ⟨rfl, rfl⟩ : b = b' ∧ o = o' := by simpa using e
    rw [hc, ← hj, List.getElem?_eq_getElem hjl]
theorem Src.one {w : World} {g : Nat} {t : TypeId} {x : Value} (h : Blk w g t #[x]) : Src w (.slice (some ⟨g, 0, none⟩) 1 1) [x] :=
  .inr ⟨g, 0, 1, rfl, by simp, fun j u hj => by
    cases j with
    | zero => rw [← hj]; exact h.cell 0
    | succ j => simp at hj⟩
theorem one_ints (xs : List Int) : ∀ u ∈ xs.map (Value.int .i64), u.oneCell' = true := fun u hu => by
  obtain ⟨x, _, rfl⟩ := List.mem_map.1 hu; rfl
theorem chooseF_len (us : List (Int × Int)) (k M : Nat) : ∀ (d : Nat) (l : List Int) (st : List Int × Int), l.length + d ≤ M → st.1.length ≤ M → (chooseF us k d l st).1.length ≤ M
  | 0, l, st, hl, hs => by
    unfold chooseF leafF
    split
    · exact hs
    · split
      · exact hs
      · split
        · simpa using hl
        · exact hs
  | d + 1, l, st, hl, hs => by
    unfold chooseF
    split
    · exact hs
    · exact chooseF_len us k M d l _ (by omega) (chooseF_len us k M d _ st (by simp; omega) hs)
end Go.Pol
namespace Go.Proofs.Ytiohcegkkpeodaa
open Go Go.Proofs Go.RowKit Go.Pol
def ChR (w : World) (B : Option Addr) (best : List Int) (r : List Int × Int) (e : Ending) (w' : World) : Prop := ∃ (A : Option Addr) (cap : Nat), e = .returned (.tuple #[.agg #[.slice A r.1.length cap], .int .i64 r.2]) ∧ RI w' w'.heap.size A r.1 ∧ Below w.heap.size w w' ∧ ((A = B ∧ r.1 = best) ∨ ∀ b o, A = some ⟨b, o, none⟩ → w.heap.size ≤ b)
theorem own_RI' {w : World} {base n : Nat} {v : Value} {xs : List Int} (hn : n = xs.length) (h : w.ownsRow base 3 1 v n (xs.map (Value.int .i64))) : ∃ (A : Option Addr) (cap : Nat), v = .slice A xs.length cap ∧ RI w w.heap.size A xs ∧ (∀ b o, A = some ⟨b, o, none⟩ → base ≤ b) ∧ (xs = [] ∨ A ≠ none) := by
  subst hn
  have hv := h
  rcases h.2 with ⟨rfl, h0⟩ | ⟨g, cap, cur, rfl, hg, hk, _⟩
  · obtain rfl : xs = [] := List.eq_nil_of_length_eq_zero h0
    exact ⟨none, 0, rfl, RI.nil, (fun b o h => by cases h), .inl rfl⟩
  · refine ⟨_, cap, rfl, fun k hk' => ?_, (fun b o h => by injection h with h; injection h with h; omega), .inr (by simp)⟩
    have hk2 : k < xs.length := by simpa using hk'
    have hc := hv.cellAt k (by omega)
    refine ⟨g, 0, rfl, Blk.lt hk, ?_⟩
    rw [Nat.zero_add, hc]
    exact List.getElem?_eq_getElem hk'
theorem RI.set_ {w : World} {A : Option Addr} {xs : List Int} (h : RI w w.heap.size A xs) {p : Addr} (v : Value) (hp : ∀ b o, A = some ⟨b, o, none⟩ → p.block ≠ b) : RI (w.setCell p v) (w.setCell p v).heap.size A xs := fun k hk => by
  obtain ⟨b, o, e, hb, hc⟩ := h k hk
  refine ⟨b, o, e, by simpa [World.setCell] using hb, (World.cell?_setCell_other _ _ _ v (fun e2 => hp b o e (by rw [e2]))).trans hc⟩
theorem RI.set2 {w : World} {A : Option Addr} {xs : List Int} (h : RI w w.heap.size A xs) {p : Addr} (v : Value) (hp : xs ≠ [] → ∀ b o, A = some ⟨b, o, none⟩ → p.block ≠ b) : RI (w.setCell p v) (w.setCell p v).heap.size A xs := by
  by_cases e : xs = []
  · subst e; exact RI.nil
  · exact RI.set_ h v (hp e)
theorem cho_ab {w w1 : World} {A B : Option Addr} {best best2 : List Int} (hb : RI w w.heap.size B best) (hq : (A = B ∧ best2 = best) ∨ ∀ b o, A = some ⟨b, o, none⟩ → w1.heap.size ≤ b) (_h0 : w.heap.size ≤ w1.heap.size) (h1 : w.heap.size + 2 ≤ w1.heap.size) :
    best2 ≠ [] → ∀ b o, A = some ⟨b, o, none⟩ → b < w.heap.size ∨ w.heap.size + 2 ≤ b := by
  intro hne b o e
  rcases hq with ⟨rfl, rfl⟩ | h
  · obtain ⟨b', o', e', hlt, _⟩ := RI.at_ hb (k := 0) (List.length_pos_iff.2 hne)
    rw [e] at e'
    injection e' with e'
    injection e' with e1
    left; omega
  · right; have := h b o e; omega
theorem RI.later' {w w' : World} {A : Option Addr} {xs : List Int} (h : RI w w.heap.size A xs) (hb : Below w.heap.size w w') : RI w' w'.heap.size A xs := (h.below hb).more hb.size
theorem RU.later' {w w' : World} {A : Option Addr} {us : List (Int × Int)} (h : RU w w.heap.size A us) (hb : Below w.heap.size w w') : RU w' w'.heap.size A us := (h.below hb).more hb.size
theorem info_intO : (Try.prog.info? 3).map (fun i => (i.zero, i.size, i.bytes)) = some (some (.int .i64 0), 1, 8) := by kernel_rfl
set_option maxHeartbeats 800000 in
theorem choose_prune (us : List (Int × Int)) (n k ucap d : Nat) (U : Option Addr) (l best : List Int) (L B : Option Addr) (lcap bcap : Nat) (least fr : Int) (w : World) (hk : k < l.length) (_hl : l.length ≤ 1000) (hb : RI w w.heap.size B best) :
    Calls Try.prog 40 #[.slice U n ucap, .int .i64 k, .int .i64 fr, .slice L l.length lcap, .agg #[.slice B best.length bcap], .int .i64 least] w (ChR w B best (chooseF us k d l (best, least))) := by
  have HE : chooseF us k d l (best, least) = (best, least) := by cases d <;> (unfold chooseF; rw [if_pos hk])
  rw [HE]
  clear HE
  have k1 := (Blk.new w 24 #[.slice B best.length bcap]).alloc (.cells #[.slice none 0 0] 24)
  have c1 := k1.cell
  have hB1 := ((Below.refl w.heap.size w).alloc (Nat.le_refl _) (.cells #[.slice B best.length bcap] 24)).alloc (by simp) (.cells #[.slice none 0 0] 24)
  have hB2 := ((Below.refl w.heap.size w).alloc (Nat.le_refl _) (.cells #[.slice B best.length bcap] 24)).alloc (by simp) (.cells #[.slice B best.length bcap] 24)
  generalize hbl : best.length = bl at *
  have HBL := Lib.hid hbl
  clear hbl
  generalize l.length = ln at *
  go_enter Try.func40, Try.ntmps40
  go_wp2_with fail
  exact bodyPost_ret (v := .tuple #[.agg #[.slice B bl bcap], .int .i64 least]) (by simp [results, Try.results40, go_sem]) rfl ⟨B, bcap, by rw [HBL.out], RI.later' hb hB2, hB2, .inl ⟨rfl, rfl⟩⟩
theorem leaf_none {us : List (Int × Int)} {l : List Int} (h : wstL l 0 us = none) (st : List Int × Int) : leafF us l st = st := by simp only [leafF, h]
theorem leaf_some {us : List (Int × Int)} {l : List Int} {m : Int} (h : wstL l 0 us = some m) (st : List Int × Int) : leafF us l st = if st.1.length = 0 ∨ m < st.2 ∨ (m = st.2 ∧ befB l st.1 = true) then (l, m) else st := by simp only [leafF, h]
set_option maxHeartbeats 1600000 in
theorem choose_leaf (us : List (Int × Int)) (n k ucap : Nat) (U : Option Addr) (l best : List Int) (L B : Option Addr) (lcap bcap : Nat) (least : Int) (w : World) (hn : us.length = n) (hok : okU us) (hk : ¬ k < l.length) (hl : l.length ≤ 200) (hbn : best.length ≤ 200)
    (hLr : RI w w.heap.size L l) (hL0 : l = [] → L = none ∧ lcap = 0) (hlx : ∀ x ∈ l, 1 ≤ x ∧ x ≤ 4096) (hb : RI w w.heap.size B best) (hu : RU w w.heap.size U us) :
    Calls Try.prog 40 #[.slice U n ucap, .int .i64 k, .int .i64 n, .slice L l.length lcap, .agg #[.slice B best.length bcap], .int .i64 least] w (ChR w B best (chooseF us k 0 l (best, least))) := by
  have hC : chooseF us k 0 l (best, least) = leafF us l (best, least) := by unfold chooseF; rw [if_neg hk]
  rw [hC]
  clear hC
  have hn200 : n ≤ 200 := by have := hok.len; omega
  have k0 := (Blk.new w 24 #[.slice B best.length bcap]).alloc (.cells #[.slice none 0 0] 24)
  have kR := Blk.new (w.alloc (.cells #[.slice B best.length bcap] 24)) 24 #[.slice none 0 0]
  have hB1 := ((Below.refl w.heap.size w).alloc (Nat.le_refl _) (.cells #[.slice B best.length bcap] 24)).alloc (by simp) (.cells #[.slice none 0 0] 24)
  rw [World.size_alloc] at kR
  obtain ⟨W1, hW1⟩ : ∃ W, (w.alloc (.cells #[.slice B best.length bcap] 24)).alloc (.cells #[.slice none 0 0] 24) = W := ⟨_, rfl⟩
  rw [hW1] at k0 kR hB1
  have own1 := World.ownsRow_lit (base := W1.heap.size) (e := 3) (size := 1) W1 #[] 0 (Nat.le_refl _) (by unfold maxLen; omega) rfl
  have hbE := (Below.refl W1.heap.size W1).alloc (Nat.le_refl _) (.cells #[] 3)
  have hB2 := hB1.trans (hbE.mono hB1.size)
  have hL2 := RI.later' hLr hB2
  have hsrc := Src.of (cap := lcap) hL2 hL0
  have hone := one_ints l
  have h63 : 0 + (l.map (Value.int .i64)).length ≤ maxLen := by unfold maxLen; simp; omega
  have hby : (0 + (l.map (Value.int .i64)).length) * 8 ≤ 140737488355328 := by simp; omega
  have hsz : W1.heap.size ≤ (W1.alloc (.cells #[] 3)).heap.size := hbE.size
  have kx0 := k0.call hbE
  have kxR := kR.call hbE
  obtain ⟨i0, hi0, hz0, hz1, hz2⟩ := info_parts info_intO
  have HI := Lib.hid (And.intro hi0 (And.intro hz0 (And.intro hz1 hz2)))
  clear hi0 hz0 hz1 hz2
  generalize hbl : best.length = bl at *
  have HBL := Lib.hid hbl
  clear hbl
  obtain ⟨ln, hln⟩ : ∃ ln, l.length = ln := ⟨_, rfl⟩
  rw [hln] at hk hl hsrc ⊢
  have HLN := Lib.hid hln
  clear hln
  have HW1 := Lib.hid hW1
  go_enter Try.func40, Try.ntmps40
  go_wp2_with (refine wpList_app (by rfl) (.tmp 27) (.tmp 28) 22 (by rfl) W1.heap.size 3 i0 (.int .i64 0) 8 Try.underlying22 HI.out.1 HI.out.2.1 HI.out.2.2.1 HI.out.2.2.2 rfl (.slice (some ⟨W1.heap.size, 0, none⟩) 0 0) 0 #[].toList (by rfl) own1 (.slice L ln lcap) (l.map (Value.int .i64)) (by rfl) hsrc hone h63 hby hsz ?_; intro v1 w1 own2 hgr; have own3 : w1.ownsRow W1.heap.size 3 1 v1 l.length (l.map (Value.int .i64)) := (by simpa using own2); obtain ⟨A1, c1, rfl, hr1, hA1, _⟩ := own_RI' rfl own3; rw [HLN.out])
  have hg2 : Below W1.heap.size W1 w1 := hbE.grown hgr hsz (fun j hj => by simp only [Value.ownBlock] at hj; injection hj with hj; omega)
  have ky0 := k0.call hg2
  have kyR := kR.call hg2
  have hBy := hB1.trans (hg2.mono hB1.size)
  clear own1 own2 own3 hgr hsrc hone h63 hby hsz kx0 kxR hbE hB2 hL2 k0 kR hB1 hg2 hW1
  have kT := Blk.new w1 24 #[.slice A1 ln c1]
  have hbz := (Below.refl w1.heap.size w1).alloc (Nat.le_refl _) (.cells #[.slice A1 ln c1] 24)
  have kz0 := ky0.call hbz
  have kzR := kyR.call hbz
  have hrz := RI.later' hr1 hbz
  have hBz := hBy.trans (hbz.mono hBy.size)
  have hW1s := kyR.lt
  have hX : ∀ j, j < l.length → 1 ≤ l.getD j 0 ∧ l.getD j 0 ≤ 4096 := fun j hj => hlx _ (by rw [List.getD_eq_getElem?_getD, List.getElem?_eq_getElem hj]; simp)
  have HWS := Lib.hid (refWst_any A1 U ln c1 n ucap l us _ HLN.out hn (by unfold maxLen; omega) hrz (RU.later' hu hBz) hX hok)
  have HBF := Lib.hid (fun W (h1 : RI W W.heap.size A1 l) (h2 : RI W W.heap.size B best) => before_any A1 B ln bl c1 bcap l best W HLN.out (by unfold maxLen; omega) HBL.out (by unfold maxLen; omega) h1 h2)
  have hW1b : w.heap.size + 2 ≤ W1.heap.size := by rw [← HW1.out]; simp
  clear hX hlx hL0 hLr hn hok HW1 hr1
  cases hw : wstL l 0 us with
  | none =>
    have HE := Lib.hid (leaf_none hw (best, least))
    have HR : wstR l us = (0, false) := by simp only [wstR, hw]
    rw [HR] at HWS
    clear HR hw
    generalize leafF us l (best, least) = RR at *
    go_wp2_with fail
    refine HWS.out.mono ?_
    rintro e w3 ⟨rfl, hb3⟩
    have kb0 := kz0.call hb3
    have kbR := kzR.call hb3
    have kbT := (kT.call hb3)
    have hB3 := hBz.trans (hb3.mono hBz.size)
    clear HBF HWS kz0 kzR kT ky0 kyR hBz hBy hrz hbz hb3
    have z0 := kb0.cell
    have zR := kbR.cell
    have fR := kbR.frozen
    have zT := kbT.cell
    have hBs := hB3.setCell (p := ⟨w.heap.size + 1, 0, none⟩) (by simp) (.slice B bl bcap)
    go_wp2_with fail
    rw [HE.out]
    exact bodyPost_ret (v := .tuple #[.agg #[.slice B bl bcap], .int .i64 least]) (by simp [results, Try.results40, go_sem, zR]) rfl ⟨B, bcap, by rw [HBL.out], RI.later' hb hBs, hBs, .inl ⟨rfl, rfl⟩⟩
  | some mm =>
    have HR : wstR l us = (mm, true) := by simp only [wstR, hw]
    rw [HR] at HWS
    have HQ := Lib.hid (leaf_some hw (best, least))
    clear HR hw
    generalize leafF us l (best, least) = RR at *
    go_wp2_with fail
    refine HWS.out.mono ?_
    rintro e w3 ⟨rfl, hb3⟩
    have kb0 := kz0.call hb3
    have kbR := kzR.call hb3
    have kbT := (kT.call hb3)
    have hB3 := hBz.trans (hb3.mono hBz.size)
    have hr3 := RI.later' hrz hb3
    have hbb3 := RI.later' hb hB3
    clear HWS kz0 kzR kT ky0 kyR hBz hBy hrz hbz hb3
    by_cases h1 : bl = 0
    · have h1' : ((bl : Int) == 0) = true := by simp; omega
      have HE : Hid (RR = (l, mm)) := Lib.hid (by rw [HQ.out, if_pos (.inl (by rw [← h1]; exact HBL.out))])
      clear h1 HQ HBF
      have z0 := kb0.cell
      have zR := kbR.cell
      have fR := kbR.frozen
      have zT := kbT.cell
      have hBs := hB3.setCell (p := ⟨w.heap.size + 1, 0, none⟩) (by simp) (.slice A1 ln c1)
      have hrs := RI.set_ hr3 (p := ⟨w.heap.size + 1, 0, none⟩) (.slice A1 ln c1) (fun b o e => by have := hA1 b o e; simp only; omega)
      go_wp2_with fail
      rw [HE.out]
      exact bodyPost_ret (v := .tuple #[.agg #[.slice A1 ln c1], .int .i64 mm]) (by simp [results, Try.results40, go_sem, zR]) rfl ⟨A1, c1, by rw [HLN.out], hrs, hBs, .inr (fun b o e => by have := hA1 b o e; omega)⟩
    · have h1' : ((bl : Int) == 0) = false := by simp; omega
      by_cases h2 : mm < least
      · have h2' : decide (mm < least) = true := by simpa using h2
        have HE : Hid (RR = (l, mm)) := Lib.hid (by rw [HQ.out, if_pos (.inr (.inl h2))])
        clear h1 HQ HBF
        have z0 := kb0.cell
        have zR := kbR.cell
        have fR := kbR.frozen
        have zT := kbT.cell
        have hBs := hB3.setCell (p := ⟨w.heap.size + 1, 0, none⟩) (by simp) (.slice A1 ln c1)
        have hrs := RI.set_ hr3 (p := ⟨w.heap.size + 1, 0, none⟩) (.slice A1 ln c1) (fun b o e => by have := hA1 b o e; simp only; omega)
        go_wp2_with fail
        rw [HE.out]
        exact bodyPost_ret (v := .tuple #[.agg #[.slice A1 ln c1], .int .i64 mm]) (by simp [results, Try.results40, go_sem, zR]) rfl ⟨A1, c1, by rw [HLN.out], hrs, hBs, .inr (fun b o e => by have := hA1 b o e; omega)⟩
      · have h2' : decide (mm < least) = false := by simpa using h2
        by_cases h3 : mm = least
        · have h3' : (mm == least) = true := by simpa using h3
          have HE4 : Hid (befB l best = true → RR = (l, mm)) := Lib.hid (fun h => by rw [HQ.out, if_pos (.inr (.inr ⟨h3, h⟩))])
          have HE5 : Hid (befB l best = false → RR = (best, least)) := Lib.hid (fun h => by rw [HQ.out, if_neg (by rintro (x | x | ⟨_, x⟩); exact h1 (by rw [← HBL.out]; exact x); exact h2 x; rw [h] at x; cases x)])
          clear h1 h3 HQ
          have z0 := kb0.cell
          have zR := kbR.cell
          have fR := kbR.frozen
          have zT := kbT.cell
          cases hbf : befB l best with
          | true =>
            have HE := Lib.hid (HE4.out hbf)
            have HBC := Lib.hid (HBF.out w3 hr3 hbb3)
            rw [hbf] at HBC
            clear HE4 HE5 HBF hbf
            go_wp2_with fail
            refine HBC.out.mono ?_
            rintro e w4 ⟨rfl, hb4⟩
            have kc0 := kb0.call hb4
            have kcR := kbR.call hb4
            have kcT := kbT.call hb4
            have hB4 := hB3.trans (hb4.mono hB3.size)
            have hr4 := RI.later' hr3 hb4
            clear HBC z0 zR fR zT kb0 kbR kbT hB3 hr3 hbb3 hb4
            have z0 := kc0.cell
            have zR := kcR.cell
            have fR := kcR.frozen
            have zT := kcT.cell
            have hBs := hB4.setCell (p := ⟨w.heap.size + 1, 0, none⟩) (by simp) (.slice A1 ln c1)
            have hrs := RI.set_ hr4 (p := ⟨w.heap.size + 1, 0, none⟩) (.slice A1 ln c1) (fun b o e => by have := hA1 b o e; simp only; omega)
            go_wp2_with fail
            rw [HE.out]
            exact bodyPost_ret (v := .tuple #[.agg #[.slice A1 ln c1], .int .i64 mm]) (by simp [results, Try.results40, go_sem, zR]) rfl ⟨A1, c1, by rw [HLN.out], hrs, hBs, .inr (fun b o e => by have := hA1 b o e; omega)⟩
          | false =>
            have HE := Lib.hid (HE5.out hbf)
            have HBC := Lib.hid (HBF.out w3 hr3 hbb3)
            rw [hbf] at HBC
            clear HE4 HE5 HBF hbf
            go_wp2_with fail
            refine HBC.out.mono ?_
            rintro e w4 ⟨rfl, hb4⟩
            have kc0 := kb0.call hb4
            have kcR := kbR.call hb4
            have kcT := kbT.call hb4
            have hB4 := hB3.trans (hb4.mono hB3.size)
            clear HBC z0 zR fR zT kb0 kbR kbT hB3 hr3 hbb3 hb4
            have z0 := kc0.cell
            have zR := kcR.cell
            have fR := kcR.frozen
            have zT := kcT.cell
            have hBs := hB4.setCell (p := ⟨w.heap.size + 1, 0, none⟩) (by simp) (.slice B bl bcap)
            go_wp2_with fail
            rw [HE.out]
            exact bodyPost_ret (v := .tuple #[.agg #[.slice B bl bcap], .int .i64 least]) (by simp [results, Try.results40, go_sem, zR]) rfl ⟨B, bcap, by rw [HBL.out], RI.later' hb hBs, hBs, .inl ⟨rfl, rfl⟩⟩
        · have h3' : (mm == least) = false := by simpa using h3
          have HE : Hid (RR = (best, least)) := Lib.hid (by rw [HQ.out, if_neg (by rintro (x | x | ⟨x, _⟩); exact h1 (by rw [← HBL.out]; exact x); exact h2 x; exact h3 x)])
          clear h1 h3 HQ HBF
          have z0 := kb0.cell
          have zR := kbR.cell
          have fR := kbR.frozen
          have zT := kbT.cell
          have hBs := hB3.setCell (p := ⟨w.heap.size + 1, 0, none⟩) (by simp) (.slice B bl bcap)
          go_wp2_with fail
          rw [HE.out]
          exact bodyPost_ret (v := .tuple #[.agg #[.slice B bl bcap], .int .i64 least]) (by simp [results, Try.results40, go_sem, zR]) rfl ⟨B, bcap, by rw [HBL.out], RI.later' hb hBs, hBs, .inl ⟨rfl, rfl⟩⟩
def ChS (ub ua : Nat) (x : Int) (bx : Nat) (v : Value) (w' : World) : Prop := w'.cell? ⟨ub, ua, none⟩ = some (.int .i64 x) ∧ w'.cell? ⟨bx, 0, none⟩ = some v
theorem ChS.later {ub ua bx : Nat} {x : Int} {v : Value} {w w' : World} {B : Nat} (h : ChS ub ua x bx v w) (hb : Below B w w') (h1 : ub < B) (h2 : bx < B) : ChS ub ua x bx v w' :=
  ⟨(hb.cell (p := ⟨ub, ua, none⟩) h1).trans h.1, (hb.cell (p := ⟨bx, 0, none⟩) h2).trans h.2⟩
set_option maxHeartbeats 3200000 in
theorem choose_any (us : List (Int × Int)) (n k ucap : Nat) (U : Option Addr) (hn : us.length = n) (hok : okU us) : ∀ (d : Nat) (l best : List Int) (L B : Option Addr) (lcap bcap : Nat) (least fr : Int) (w : World), fr = (n : Int) - d → d ≤ n → l.length + d ≤ n → best.length ≤ n →
    RI w w.heap.size L l → (l = [] → L = none ∧ lcap = 0) → (∀ x ∈ l, 1 ≤ x ∧ x ≤ 4096) → RI w w.heap.size B best → RU w w.heap.size U us →
    Calls Try.prog 40 #[.slice U n ucap, .int .i64 k, .int .i64 fr, .slice L l.length lcap, .agg #[.slice B best.length bcap], .int .i64 least] w (ChR w B best (chooseF us k d l (best, least))) := by
  have hn200 : n ≤ 200 := by have := hok.len; omega
  intro d
  induction d with
  | zero =>
    intro l best L B lcap bcap least fr w hfr hd hl hbn hLr hL0 hlx hb hu
    obtain rfl : fr = n := by omega
    by_cases hk : k < l.length
    · exact choose_prune us n k ucap 0 U l best L B lcap bcap least n w hk (by omega) hb
    · exact choose_leaf us n k ucap U l best L B lcap bcap least w hn hok hk (by omega) (by omega) hLr hL0 hlx hb hu
  | succ d ih =>
    intro l best L B lcap bcap least fr w hfr hd hl hbn hLr hL0 hlx hb hu
    by_cases hk : k < l.length
    · exact choose_prune us n k ucap (d + 1) U l best L B lcap bcap least fr w hk (by omega) hb
    · have HIH := Lib.hid ih
      clear ih
      obtain ⟨j, hj⟩ : ∃ j : Nat, n - (d + 1) = j := ⟨_, rfl⟩
      have hjn : j < n := by omega
      have hjd : j + d + 1 = n := by omega
      obtain rfl : fr = j := by omega
      have HC : Hid (chooseF us k (d + 1) l (best, least) = chooseF us k d l (chooseF us k d (l ++ [szU us j]) (best, least))) := Lib.hid (by
        conv => lhs; unfold chooseF
        rw [if_neg hk, hn, hj])
      clear hfr hj hd
      generalize chooseF us k (d + 1) l (best, least) = RR at *
      have hsx := hok.at_ j (by omega)
      obtain ⟨ub, uo, rfl, hub, hcx, _⟩ := RU.at_' hu (k := j) (by omega)
      obtain ⟨x, hx⟩ : ∃ x, szU us j = x := ⟨_, rfl⟩
      have hx' : (us.getD j (0,0)).1 = x := hx
      rw [hx] at HC
      rw [hx'] at hcx hsx
      obtain ⟨hx1, hx2, _⟩ := hsx
      clear hx hx'
      have HN := Lib.hid hn
      have HOK := Lib.hid hok
      clear hn hok
      have k0 := (Blk.new w 24 #[.slice B best.length bcap]).alloc (.cells #[.slice none 0 0] 24)
      have kR := Blk.new (w.alloc (.cells #[.slice B best.length bcap] 24)) 24 #[.slice none 0 0]
      have hB1 := ((Below.refl w.heap.size w).alloc (Nat.le_refl _) (.cells #[.slice B best.length bcap] 24)).alloc (by simp) (.cells #[.slice none 0 0] 24)
      rw [World.size_alloc] at kR
      have hsz1 : w.heap.size + 2 = ((w.alloc (.cells #[.slice B best.length bcap] 24)).alloc (.cells #[.slice none 0 0] 24)).heap.size := by simp
      obtain ⟨W1, hW1⟩ : ∃ W, (w.alloc (.cells #[.slice B best.length bcap] 24)).alloc (.cells #[.slice none 0 0] 24) = W := ⟨_, rfl⟩
      rw [hW1] at k0 kR hB1 hsz1
      have hlt1 : w.heap.size + 2 ≤ W1.heap.size := by omega
      clear hsz1
      obtain ⟨i0, hi0, hz0, hz1, hz2⟩ := info_parts info_intO
      have HI := Lib.hid (And.intro hi0 (And.intro hz0 (And.intro hz1 hz2)))
      clear hi0 hz0 hz1 hz2
      generalize hbl : best.length = bl at *
      have HBL := Lib.hid hbl
      clear hbl
      obtain ⟨ln, hln⟩ : ∃ ln, l.length = ln := ⟨_, rfl⟩
      rw [hln] at hk hl ⊢
      have HLN := Lib.hid hln
      clear hln
      have hjn' : ((j : Int) == n) = false := by simp; omega
      have hS0 : ChS ub (uo + j * 2) x w.heap.size (.slice B bl bcap) W1 := ⟨(hB1.cell (p := ⟨ub, uo + j * 2, none⟩) hub).trans hcx, k0.cell 0⟩
      have HL1 := RI.later' hLr hB1
      go_enter Try.func40, Try.ntmps40
      go_upto_region 9 with fail
      clear hW1
      refine wp_region_T (ChS ub (uo + j * 2) x w.heap.size (.slice B bl bcap)) [18, 19, 20, 21] (by kernel_rfl) ?_
      have hS : ChS ub (uo + j * 2) x w.heap.size (.slice B bl bcap) W1.drew := hS0
      refine' wpAnyT_take (i := 0) (v := _) ?hiT0 (by kernel_rfl) ?hQT0 (Or.inl ⟨?hwT0, ?hyT0⟩) hS ?reT0
      case hiT0 => (simp only [List.getElem?_toArray, List.getElem?_cons_zero]; rfl)
      case hQT0 => exact fun _ _ _ h => h
      case hwT0 => rfl
      case hyT0 => (intro wS hSw; obtain ⟨_, _⟩ := hSw; go_simp; (try with_reducible rfl))
      try simp only [Act.put, List.setIfInBounds_toArray, List.set_cons_zero, List.set_cons_succ]
      refine' wpAnyT_take (i := 1) (v := _) ?hiT1 (by kernel_rfl) ?hQT1 (Or.inl ⟨?hwT1, ?hyT1⟩) hS ?reT1
      case hiT1 => (simp only [List.getElem?_toArray, List.getElem?_cons_succ, List.getElem?_cons_zero]; rfl)
      case hQT1 => exact fun _ _ _ h => h
      case hwT1 => rfl
      case hyT1 => (intro wS hSw; obtain ⟨_, _⟩ := hSw; go_simp; (try with_reducible rfl))
      try simp only [Act.put, List.setIfInBounds_toArray, List.set_cons_zero, List.set_cons_succ]
      refine' wpAnyT_take (i := 2) (v := _) ?hiT2 (by kernel_rfl) ?hQT2 (Or.inl ⟨?hwT2, ?hyT2⟩) hS ?reT2
      case hiT2 => (simp only [List.getElem?_toArray, List.getElem?_cons_succ, List.getElem?_cons_zero]; rfl)
      case hQT2 => exact fun _ _ _ h => h
      case hwT2 => rfl
      case hyT2 => (intro wS hSw; obtain ⟨_, _⟩ := hSw; go_simp; (try with_reducible rfl))
      try simp only [Act.put, List.setIfInBounds_toArray, List.set_cons_zero, List.set_cons_succ]
      refine' wpAnyT_take (i := 3) (v := _) ?hiT3 (by kernel_rfl) ?hQT3 (Or.inl ⟨?hwT3, ?hyT3⟩) hS ?reT3
      case hiT3 => (simp only [List.getElem?_toArray, List.getElem?_cons_succ, List.getElem?_cons_zero]; rfl)
      case hQT3 => exact fun _ _ _ h => h
      case hwT3 => rfl
      case hyT3 => (intro wS hSw; obtain ⟨_, _⟩ := hSw; go_simp; (try with_reducible rfl))
      try simp only [Act.put, List.setIfInBounds_toArray, List.set_cons_zero, List.set_cons_succ]
      refine' wpAnyT_take (i := 5) (v := _) ?hiT5 (by kernel_rfl) ?hQT5 (Or.inl ⟨?hwT5, ?hyT5⟩) hS ?reT5
      case hiT5 => (simp only [List.getElem?_toArray, List.getElem?_cons_succ, List.getElem?_cons_zero]; rfl)
      case hQT5 => exact fun _ _ _ h => h
      case hwT5 => rfl
      case hyT5 => (intro wS hSw; obtain ⟨_, _⟩ := hSw; go_simp; (try with_reducible rfl))
      try simp only [Act.put, List.setIfInBounds_toArray, List.set_cons_zero, List.set_cons_succ]
      refine' wpAnyT_take (i := 7) (v := _) ?hiT7 (by kernel_rfl) ?hQT7 (Or.inl ⟨?hwT7, ?hyT7⟩) hS ?reT7
      case hiT7 => (simp only [List.getElem?_toArray, List.getElem?_cons_succ, List.getElem?_cons_zero]; rfl)
      case hQT7 => exact fun _ _ _ h => h
      case hwT7 => rfl
      case hyT7 => (intro wS hSw; obtain ⟨_, _⟩ := hSw; go_simp; (try with_reducible rfl))
      try simp only [Act.put, List.setIfInBounds_toArray, List.set_cons_zero, List.set_cons_succ]
      refine' wpAnyT_take (i := 8) (v := _) ?hiT8 (by kernel_rfl) ?hQT8 (Or.inl ⟨?hwT8, ?hyT8⟩) hS ?reT8
      case hiT8 => (simp only [List.getElem?_toArray, List.getElem?_cons_succ, List.getElem?_cons_zero]; rfl)
      case hQT8 => exact fun _ _ _ h => h
      case hwT8 => rfl
      case hyT8 => (intro wS hSw; obtain ⟨_, _⟩ := hSw; go_simp; (try with_reducible rfl))
      try simp only [Act.put, List.setIfInBounds_toArray, List.set_cons_zero, List.set_cons_succ]
      refine' wpAnyT_take (i := 9) (v := _) ?hiT9 (by kernel_rfl) ?hQT9 (Or.inl ⟨?hwT9, ?hyT9⟩) hS ?reT9
      case hiT9 => (simp only [List.getElem?_toArray, List.getElem?_cons_succ, List.getElem?_cons_zero]; rfl)
      case hQT9 => exact fun _ _ _ h => h
      case hwT9 => rfl
      case hyT9 => (intro wS hSw; obtain ⟨_, _⟩ := hSw; go_simp; (try with_reducible rfl))
      try simp only [Act.put, List.setIfInBounds_toArray, List.set_cons_zero, List.set_cons_succ]
      refine' wpAnyT_take (i := 10) (v := _) ?hiT10 (by kernel_rfl) ?hQT10 (Or.inl ⟨?hwT10, ?hyT10⟩) hS ?reT10
      case hiT10 => (simp only [List.getElem?_toArray, List.getElem?_cons_succ, List.getElem?_cons_zero]; rfl)
      case hQT10 => exact fun _ _ _ h => h
      case hwT10 => rfl
      case hyT10 => (intro wS hSw; obtain ⟨_, _⟩ := hSw; go_simp; (try with_reducible rfl))
      try simp only [Act.put, List.setIfInBounds_toArray, List.set_cons_zero, List.set_cons_succ]
      refine' wpAnyT_take (i := 11) (v := _) ?hiT11 (by kernel_rfl) ?hQT11 (Or.inl ⟨?hwT11, ?hyT11⟩) hS ?reT11
      case hiT11 => (simp only [List.getElem?_toArray, List.getElem?_cons_succ, List.getElem?_cons_zero]; rfl)
      case hQT11 => exact fun _ _ _ h => h
      case hwT11 => rfl
      case hyT11 => (intro wS hSw; obtain ⟨_, _⟩ := hSw; go_simp; (try with_reducible rfl))
      try simp only [Act.put, List.setIfInBounds_toArray, List.set_cons_zero, List.set_cons_succ]
      refine' wpAnyT_take (i := 14) (v := _) ?hiT14 (by kernel_rfl) ?hQT14 (Or.inl ⟨?hwT14, ?hyT14⟩) hS ?reT14
      case hiT14 => (simp only [List.getElem?_toArray, List.getElem?_cons_succ, List.getElem?_cons_zero]; rfl)
      case hQT14 => exact fun _ _ _ h => h
      case hwT14 => rfl
      case hyT14 => (intro wS hSw; obtain ⟨_, _⟩ := hSw; go_simp; (try with_reducible rfl))
      try simp only [Act.put, List.setIfInBounds_toArray, List.set_cons_zero, List.set_cons_succ]
      refine' wpAnyT_take (i := 15) (v := _) ?hiT15 (by kernel_rfl) ?hQT15 (Or.inl ⟨?hwT15, ?hyT15⟩) hS ?reT15
      case hiT15 => (simp only [List.getElem?_toArray, List.getElem?_cons_succ, List.getElem?_cons_zero]; rfl)
      case hQT15 => exact fun _ _ _ h => h
      case hwT15 => rfl
      case hyT15 => (intro wS hSw; obtain ⟨_, _⟩ := hSw; go_simp; (try with_reducible rfl))
      try simp only [Act.put, List.setIfInBounds_toArray, List.set_cons_zero, List.set_cons_succ]
      have hsrc := fun (Wx : World) (h : Below W1.heap.size W1 Wx) => Src.of (cap := lcap) (RI.later' HL1 h) hL0
      rw [HLN.out] at hsrc
      have HSRC := Lib.hid hsrc
      clear hsrc
      have hone := one_ints l
      have honeX : ∀ u ∈ [Value.int .i64 x], u.oneCell' = true := by intro u hu; simp only [List.mem_singleton] at hu; subst hu; rfl
      have h63 : 0 + (l.map (Value.int .i64)).length ≤ maxLen := by unfold maxLen; rw [List.length_map, HLN.out]; omega
      have hby : (0 + (l.map (Value.int .i64)).length) * 8 ≤ 140737488355328 := by rw [List.length_map, HLN.out]; omega
      obtain ⟨l2, hl2⟩ : ∃ l2, l ++ [x] = l2 := ⟨_, rfl⟩
      have HL2 := Lib.hid hl2
      rw [hl2] at HC
      clear hl2
      obtain ⟨R1, hR1⟩ : ∃ r, chooseF us k d l2 (best, least) = r := ⟨_, rfl⟩
      have hb2n := chooseF_len us k n d l2 (best, least) (by rw [← HL2.out, List.length_append, HLN.out]; simp only [List.length_cons, List.length_nil]; omega) (by simp only; rw [HBL.out]; exact hbn)
      rw [hR1] at HC hb2n
      obtain ⟨best2, least2⟩ := R1
      simp only at hb2n
      have HR1 := Lib.hid hR1
      clear hR1
      obtain ⟨bl2, hbl2⟩ : ∃ m, best2.length = m := ⟨_, rfl⟩
      rw [hbl2] at hb2n
      have HBL2 := Lib.hid hbl2
      clear hbl2
      refine wpAnyT_ready (rs := [4, 12]) (by kernel_rfl) (by simp) ?_
      refine' AllReadyT.cons ?hiA (fun K hK => ?stA) ?moA
      case hiA => (simp only [List.getElem?_toArray, List.getElem?_cons_succ, List.getElem?_cons_zero]; rfl)
      case stA =>
        go_simp
        have hb4 := ((Below.refl W1.heap.size W1).alloc (Nat.le_refl _) (.cells #[] 3)).drew
        have own4 := (World.ownsRow_lit (base := W1.heap.size) (e := 3) (size := 1) W1 #[] 0 (Nat.le_refl _) (by unfold maxLen; omega) rfl).drew
        refine hK.out _ _ (fun _ => hS0.later hb4 (by omega) (by omega)) (fun hS => ?_)
        clear hK K
        replace hS := hS rfl
        refine wpAnyT_ready (rs := [6, 12]) (by kernel_rfl) (by simp) ?_
        refine' AllReadyT.cons ?hiA1 (fun K hK => ?stA1) ?moA1
        case hiA1 => (simp only [List.getElem?_toArray, List.getElem?_cons_succ, List.getElem?_cons_zero]; rfl)
        case stA1 =>
          refine step_app (by rfl) (.tmp 68) (.tmp 69) 22 (by rfl) W1.heap.size 3 i0 (.int .i64 0) 8 Try.underlying22 HI.out.1 HI.out.2.1 HI.out.2.2.1 HI.out.2.2.2 rfl (.slice (some ⟨W1.heap.size, 0, none⟩) 0 0) 0 [] (by rfl) own4 (.slice L ln lcap) (l.map (Value.int .i64)) (by rfl) (HSRC.out _ hb4) hone h63 hby hb4.size ?_
          intro v6 w6 own6 gr6
          have hb6 : Below W1.heap.size W1 w6 := hb4.grown gr6 hb4.size (fun i hi => (own4.lt i hi).1)
          refine hK.out _ _ (fun _ => hS0.later hb6 (by omega) (by omega)) (fun hS => ?_)
          clear hK K
          replace hS := hS rfl
          simp only [Act.put, List.setIfInBounds_toArray, List.set_cons_zero, List.set_cons_succ]
          refine wpAnyT_ready (rs := [12]) (by kernel_rfl) (by simp) ?_
          refine' AllReadyT.cons ?hiA2 (fun K hK => ?stA2) AllReadyT.nil
          case hiA2 => (simp only [List.getElem?_toArray, List.getElem?_cons_succ, List.getElem?_cons_zero]; rfl)
          go_simp
          have hb12 := hb6.alloc hb6.size (.cells #[.int .i64 x] 3)
          have own12 := own6.alloc (.cells #[.int .i64 x] 3)
          have kX := Blk.new w6 3 #[.int .i64 x]
          refine hK.out _ _ (fun _ => hS0.later hb12 (by omega) (by omega)) (fun hS => ?_)
          clear hK K
          replace hS := hS rfl
          refine wpAnyT_ready (rs := [13]) (by kernel_rfl) (by simp) ?_
          refine' AllReadyT.cons ?hi13A (fun K hK => ?st13A) AllReadyT.nil
          case hi13A => (simp only [List.getElem?_toArray, List.getElem?_cons_succ, List.getElem?_cons_zero]; rfl)
          refine step_app (by rfl) (.tmp 70) (.tmp 76) 22 (by rfl) W1.heap.size 3 i0 (.int .i64 0) 8 Try.underlying22 HI.out.1 HI.out.2.1 HI.out.2.2.1 HI.out.2.2.2 rfl v6 (0 + (l.map (Value.int .i64)).length) (([] : List Value) ++ l.map (Value.int .i64)) (by rfl) own12 (.slice (some ⟨w6.heap.size, 0, none⟩) 1 1) [.int .i64 x] (by rfl) (Src.one kX) honeX (by simp only [List.length_map, HLN.out, List.length_cons, List.length_nil]; unfold maxLen; omega) (by simp only [List.length_map, HLN.out, List.length_cons, List.length_nil]; omega) (hb12).size ?_
          intro v13 w13 own13 gr13
          have hb13 : Below W1.heap.size W1 w13 := (hb12).grown gr13 (hb12).size (fun i hi => ((own12).lt i hi).1)
          have own13' : w13.ownsRow W1.heap.size 3 1 v13 l2.length (l2.map (Value.int .i64)) := by rw [← HL2.out]; simpa using own13
          obtain ⟨A3, c3, rfl, hr3, _, hne3⟩ := own_RI' rfl own13'
          refine hK.out _ _ (fun _ => hS0.later hb13 (by omega) (by omega)) (fun hS => ?_)
          clear hK K
          replace hS := hS rfl
          clear own13 gr13 own13'
          try simp only [Act.put, List.setIfInBounds_toArray, List.set_cons_zero, List.set_cons_succ]
          refine wpAnyT_ready (rs := [16]) (by kernel_rfl) (by simp) ?_
          refine' AllReadyT.cons ?hi16A (fun K hK => ?st16A) AllReadyT.nil
          case hi16A => (simp only [List.getElem?_toArray, List.getElem?_cons_succ, List.getElem?_cons_zero]; rfl)
          go_simp
          have hB13 := hB1.trans (hb13.mono hB1.size)
          have HI2 := HIH.out l2 best A3 B c3 bcap least (IntKind.i64.wrap ((j : Int) + 1)) w13 (by rw [IntWalk.i64_in _ (by omega)]; omega) (by omega) (by rw [← HL2.out, List.length_append, HLN.out]; simp only [List.length_cons, List.length_nil]; omega) (by rw [HBL.out]; exact hbn) hr3 (fun h => absurd h (by rw [← HL2.out]; simp)) (fun y hy => by rw [← HL2.out] at hy; rcases List.mem_append.1 hy with h | h; exact hlx y h; simp only [List.mem_singleton] at h; omega) (RI.later' hb hB13) (RU.later' hu hB13)
          rw [HR1.out, HBL.out] at HI2
          refine HI2.mono ?_
          rintro e w16 ⟨A16, c16, rfl, hr16, hb16, hq16⟩
          try simp only at hr16 hq16 ⊢
          rw [HBL2.out]
          have hb16' := hb13.trans (hb16.mono hb13.size)
          have kb16 := k0.call hb16'
          have kR16 := kR.call hb16'
          have hB16 := hB13.trans (hb16.mono hB13.size)
          have hAb := cho_ab hb hq16 (hB13.size) (by have := hb13.size; omega)
          have hq16' : (A16 = B ∧ best2 = best) ∨ ∀ b o, A16 = some ⟨b, o, none⟩ → w.heap.size ≤ b := hq16.imp id (fun h b o e => by have := h b o e; have := hB13.size; omega)
          refine hK.out _ _ (fun _ => hS0.later hb16' (by omega) (by omega)) (fun hS => ?_)
          clear hK K
          replace hS := hS rfl
          clear HI2 hr3 hne3 hb13 hb16 hB13 hq16
          try simp only [Act.put, List.setIfInBounds_toArray, List.set_cons_zero, List.set_cons_succ]
          refine' wpAnyT_take (i := 17) (v := _) ?hiT17A (by kernel_rfl) ?hQT17A (Or.inl ⟨?hwT17A, ?hyT17A⟩) hS ?reT17A
          case hiT17A => (simp only [List.getElem?_toArray, List.getElem?_cons_succ, List.getElem?_cons_zero]; rfl)
          case hQT17A => exact fun _ _ _ h => h
          case hwT17A => rfl
          case hyT17A => (intro wS hSw; obtain ⟨_, _⟩ := hSw; go_simp; (try with_reducible rfl))
          try simp only [Act.put, List.setIfInBounds_toArray, List.set_cons_zero, List.set_cons_succ]
          refine' wpAnyT_takeW (i := 18) (v := _) ?hiT18A (by kernel_rfl) ?hQT18A (Or.inl ⟨?hwT18A, ?hyT18A⟩) ?reT18A
          case hiT18A => (simp only [List.getElem?_toArray, List.getElem?_cons_succ, List.getElem?_cons_zero]; rfl)
          case hQT18A => exact fun _ _ _ h => h
          case hwT18A => rfl
          case hyT18A => (intro wS hSw; go_simp; (try with_reducible rfl))
          try simp only [Act.put, List.setIfInBounds_toArray, List.set_cons_zero, List.set_cons_succ]
          refine' wpAnyT_takeW (i := 19) (v := _) ?hiT19A (by kernel_rfl) ?hQT19A (Or.inl ⟨?hwT19A, ?hyT19A⟩) ?reT19A
          case hiT19A => (simp only [List.getElem?_toArray, List.getElem?_cons_succ, List.getElem?_cons_zero]; rfl)
          case hQT19A => exact fun _ _ _ h => h
          case hwT19A => rfl
          case hyT19A => (intro wS hSw; go_simp; (try with_reducible rfl))
          try simp only [Act.put, List.setIfInBounds_toArray, List.set_cons_zero, List.set_cons_succ]
          have cb16 := kb16.cell
          have fb16 := kb16.frozen
          refine wpAnyT_ready (rs := [20]) (by kernel_rfl) (by simp) ?_
          refine' AllReadyT.cons ?hi20A (fun K hK => ?st20A) AllReadyT.nil
          case hi20A => (simp only [List.getElem?_toArray, List.getElem?_cons_succ, List.getElem?_cons_zero]; rfl)
          go_simp
          refine hK.out _ _ (fun h => absurd h (by decide)) (fun _ => ?_)
          clear hK K hS
          refine wpAnyT_ready (rs := [21]) (by kernel_rfl) (by simp) ?_
          refine' AllReadyT.cons ?hi21A (fun K hK => ?st21A) AllReadyT.nil
          case hi21A => (simp only [List.getElem?_toArray, List.getElem?_cons_succ, List.getElem?_cons_zero]; rfl)
          go_simp
          refine hK.out _ _ (fun h => absurd h (by decide)) (fun _ => ?_)
          clear hK K
          refine wpAnyT_done (by kernel_rfl) ?_ _
          have kb20 := kb16.set_ 0 (.slice A16 bl2 c16)
          have kR20 := kR16.far (p := ⟨w.heap.size, 0, none⟩) (by simp) (.slice A16 bl2 c16)
          have hB20 := hB16.setCell (p := ⟨w.heap.size, 0, none⟩) (Nat.le_refl _) (.slice A16 bl2 c16)
          have hr20 := RI.set2 hr16 (p := ⟨w.heap.size, 0, none⟩) (.slice A16 bl2 c16) (fun hne b o e => by have := hAb hne b o e; simp only; omega)
          have hs20 : w.heap.size + 2 ≤ (w16.setCell ⟨w.heap.size, 0, none⟩ (.slice A16 bl2 c16)).heap.size := by have := hb16'.size; simp [World.setCell]; omega
          clear kb16 kR16 hB16 hr16 hb16' cb16 fb16
          have cb20 := kb20.cell
          have HI3 := HIH.out l best2 L A16 lcap c16 least2 ((j : Int) + 1) _ (by omega) (by omega) (by rw [HLN.out]; omega) (by rw [HBL2.out]; exact hb2n) (RI.later' hLr hB20) hL0 hlx hr20 (RU.later' hu hB20)
          rw [HLN.out, HBL2.out, ← HC.out] at HI3
          go_wp2_with fail
          refine HI3.mono ?_
          clear HI3
          rintro e w21 ⟨A21, c21, rfl, hr21, hb21, hq21⟩
          have kR21 := kR20.call hb21
          have hB21 := (hB20.trans (hb21.mono hB20.size)).setCell (p := ⟨w.heap.size + 1, 0, none⟩) (by simp) (.slice A21 RR.1.length c21)
          have hr22 := RI.set2 hr21 (p := ⟨w.heap.size + 1, 0, none⟩) (.slice A21 RR.1.length c21) (fun hne b o e => by
            rcases hq21 with ⟨h1, h2⟩ | h
            · subst h1; have := hAb (by rw [← h2]; exact hne) b o e; simp only; omega
            · have := h b o e; simp only; omega)
          have hqf : (A21 = B ∧ RR.1 = best) ∨ ∀ b o, A21 = some ⟨b, o, none⟩ → w.heap.size ≤ b := by
            rcases hq21 with ⟨h1, h2⟩ | h
            · rcases hq16' with ⟨h3, h4⟩ | h3
              · exact .inl ⟨h1.trans h3, h2.trans h4⟩
              · exact .inr (fun b o e => h3 b o (by rw [← h1]; exact e))
            · exact .inr (fun b o e => by have := h b o e; omega)
          have cR21 := kR21.cell
          have fR21 := kR21.frozen
          clear hq21 hq16' hAb hr21 hb21 kR20 hB20 hr20 kb20 cb20
          obtain ⟨R2, hR2⟩ : ∃ R2 : Nat, RR.1.length = R2 := ⟨_, rfl⟩
          rw [hR2] at hB21 hr22 ⊢
          have HR2 := Lib.hid hR2
          clear hR2
          go_wp2_with fail
          exact bodyPost_ret (v := .tuple #[.agg #[.slice A21 R2 c21], .int .i64 RR.2]) (by simp [results, Try.results40, go_sem, cR21]) rfl ⟨A21, c21, by rw [HR2.out], hr22, hB21, hqf⟩
        refine' AllReadyT.cons ?hiB1 (fun K hK => ?stB1) AllReadyT.nil
        case hiB1 => (simp only [List.getElem?_toArray, List.getElem?_cons_succ, List.getElem?_cons_zero]; rfl)
        go_simp
        have hb12 := hb4.alloc hb4.size (.cells #[.int .i64 x] 3)
        have own12 := own4.alloc (.cells #[.int .i64 x] 3)
        have kX := Blk.new (W1.alloc (.cells #[] 3)) 3 #[.int .i64 x]
        rw [World.size_alloc] at kX
        refine hK.out _ _ (fun _ => hS0.later hb12 (by omega) (by omega)) (fun hS => ?_)
        clear hK K
        replace hS := hS rfl
        try simp only [Act.put, List.setIfInBounds_toArray, List.set_cons_zero, List.set_cons_succ]
        refine wpAnyT_ready (rs := [6]) (by kernel_rfl) (by simp) ?_
        refine' AllReadyT.cons ?hiB2 (fun K hK => ?stB2) AllReadyT.nil
        case hiB2 => (simp only [List.getElem?_toArray, List.getElem?_cons_succ, List.getElem?_cons_zero]; rfl)
        refine step_app (by rfl) (.tmp 68) (.tmp 69) 22 (by rfl) W1.heap.size 3 i0 (.int .i64 0) 8 Try.underlying22 HI.out.1 HI.out.2.1 HI.out.2.2.1 HI.out.2.2.2 rfl (.slice (some ⟨W1.heap.size, 0, none⟩) 0 0) 0 [] (by rfl) own12 (.slice L ln lcap) (l.map (Value.int .i64)) (by rfl) (HSRC.out _ hb12) hone h63 hby hb12.size ?_
        intro v6 w6 own6 gr6
        have hb6 : Below W1.heap.size W1 w6 := hb12.grown gr6 hb12.size (fun i hi => (own12.lt i hi).1)
        have kX6 := Blk.grown (row := (Value.slice (some ⟨W1.heap.size, 0, none⟩) 0 0).ownBlock) (Blk.drew kX) gr6 (by simp [Value.ownBlock])
        refine hK.out _ _ (fun _ => hS0.later hb6 (by omega) (by omega)) (fun hS => ?_)
        clear hK K
        replace hS := hS rfl
        try simp only [Act.put, List.setIfInBounds_toArray, List.set_cons_zero, List.set_cons_succ]
        refine wpAnyT_ready (rs := [13]) (by kernel_rfl) (by simp) ?_
        refine' AllReadyT.cons ?hi13B (fun K hK => ?st13B) AllReadyT.nil
        case hi13B => (simp only [List.getElem?_toArray, List.getElem?_cons_succ, List.getElem?_cons_zero]; rfl)
        refine step_app (by rfl) (.tmp 70) (.tmp 76) 22 (by rfl) W1.heap.size 3 i0 (.int .i64 0) 8 Try.underlying22 HI.out.1 HI.out.2.1 HI.out.2.2.1 HI.out.2.2.2 rfl v6 (0 + (l.map (Value.int .i64)).length) (([] : List Value) ++ l.map (Value.int .i64)) (by rfl) own6 (.slice (some ⟨(W1.heap.size + 1), 0, none⟩) 1 1) [.int .i64 x] (by rfl) (Src.one kX6) honeX (by simp only [List.length_map, HLN.out, List.length_cons, List.length_nil]; unfold maxLen; omega) (by simp only [List.length_map, HLN.out, List.length_cons, List.length_nil]; omega) (hb6).size ?_
        intro v13 w13 own13 gr13
        have hb13 : Below W1.heap.size W1 w13 := (hb6).grown gr13 (hb6).size (fun i hi => ((own6).lt i hi).1)
        have own13' : w13.ownsRow W1.heap.size 3 1 v13 l2.length (l2.map (Value.int .i64)) := by rw [← HL2.out]; simpa using own13
        obtain ⟨A3, c3, rfl, hr3, _, hne3⟩ := own_RI' rfl own13'
        refine hK.out _ _ (fun _ => hS0.later hb13 (by omega) (by omega)) (fun hS => ?_)
        clear hK K
        replace hS := hS rfl
        clear own13 gr13 own13'
        try simp only [Act.put, List.setIfInBounds_toArray, List.set_cons_zero, List.set_cons_succ]
        refine wpAnyT_ready (rs := [16]) (by kernel_rfl) (by simp) ?_
        refine' AllReadyT.cons ?hi16B (fun K hK => ?st16B) AllReadyT.nil
        case hi16B => (simp only [List.getElem?_toArray, List.getElem?_cons_succ, List.getElem?_cons_zero]; rfl)
        go_simp
        have hB13 := hB1.trans (hb13.mono hB1.size)
        have HI2 := HIH.out l2 best A3 B c3 bcap least (IntKind.i64.wrap ((j : Int) + 1)) w13 (by rw [IntWalk.i64_in _ (by omega)]; omega) (by omega) (by rw [← HL2.out, List.length_append, HLN.out]; simp only [List.length_cons, List.length_nil]; omega) (by rw [HBL.out]; exact hbn) hr3 (fun h => absurd h (by rw [← HL2.out]; simp)) (fun y hy => by rw [← HL2.out] at hy; rcases List.mem_append.1 hy with h | h; exact hlx y h; simp only [List.mem_singleton] at h; omega) (RI.later' hb hB13) (RU.later' hu hB13)
        rw [HR1.out, HBL.out] at HI2
        refine HI2.mono ?_
        rintro e w16 ⟨A16, c16, rfl, hr16, hb16, hq16⟩
        try simp only at hr16 hq16 ⊢
        rw [HBL2.out]
        have hb16' := hb13.trans (hb16.mono hb13.size)
        have kb16 := k0.call hb16'
        have kR16 := kR.call hb16'
        have hB16 := hB13.trans (hb16.mono hB13.size)
        have hAb := cho_ab hb hq16 (hB13.size) (by have := hb13.size; omega)
        have hq16' : (A16 = B ∧ best2 = best) ∨ ∀ b o, A16 = some ⟨b, o, none⟩ → w.heap.size ≤ b := hq16.imp id (fun h b o e => by have := h b o e; have := hB13.size; omega)
        refine hK.out _ _ (fun _ => hS0.later hb16' (by omega) (by omega)) (fun hS => ?_)
        clear hK K
        replace hS := hS rfl
        clear HI2 hr3 hne3 hb13 hb16 hB13 hq16
        try simp only [Act.put, List.setIfInBounds_toArray, List.set_cons_zero, List.set_cons_succ]
        refine' wpAnyT_take (i := 17) (v := _) ?hiT17B (by kernel_rfl) ?hQT17B (Or.inl ⟨?hwT17B, ?hyT17B⟩) hS ?reT17B
        case hiT17B => (simp only [List.getElem?_toArray, List.getElem?_cons_succ, List.getElem?_cons_zero]; rfl)
        case hQT17B => exact fun _ _ _ h => h
        case hwT17B => rfl
        case hyT17B => (intro wS hSw; obtain ⟨_, _⟩ := hSw; go_simp; (try with_reducible rfl))
        try simp only [Act.put, List.setIfInBounds_toArray, List.set_cons_zero, List.set_cons_succ]
        refine' wpAnyT_takeW (i := 18) (v := _) ?hiT18B (by kernel_rfl) ?hQT18B (Or.inl ⟨?hwT18B, ?hyT18B⟩) ?reT18B
        case hiT18B => (simp only [List.getElem?_toArray, List.getElem?_cons_succ, List.getElem?_cons_zero]; rfl)
        case hQT18B => exact fun _ _ _ h => h
        case hwT18B => rfl
        case hyT18B => (intro wS hSw; go_simp; (try with_reducible rfl))
        try simp only [Act.put, List.setIfInBounds_toArray, List.set_cons_zero, List.set_cons_succ]
        refine' wpAnyT_takeW (i := 19) (v := _) ?hiT19B (by kernel_rfl) ?hQT19B (Or.inl ⟨?hwT19B, ?hyT19B⟩) ?reT19B
        case hiT19B => (simp only [List.getElem?_toArray, List.getElem?_cons_succ, List.getElem?_cons_zero]; rfl)
        case hQT19B => exact fun _ _ _ h => h
        case hwT19B => rfl
        case hyT19B => (intro wS hSw; go_simp; (try with_reducible rfl))
        try simp only [Act.put, List.setIfInBounds_toArray, List.set_cons_zero, List.set_cons_succ]
        have cb16 := kb16.cell
        have fb16 := kb16.frozen
        refine wpAnyT_ready (rs := [20]) (by kernel_rfl) (by simp) ?_
        refine' AllReadyT.cons ?hi20B (fun K hK => ?st20B) AllReadyT.nil
        case hi20B => (simp only [List.getElem?_toArray, List.getElem?_cons_succ, List.getElem?_cons_zero]; rfl)
        go_simp
        refine hK.out _ _ (fun h => absurd h (by decide)) (fun _ => ?_)
        clear hK K hS
        refine wpAnyT_ready (rs := [21]) (by kernel_rfl) (by simp) ?_
        refine' AllReadyT.cons ?hi21B (fun K hK => ?st21B) AllReadyT.nil
        case hi21B => (simp only [List.getElem?_toArray, List.getElem?_cons_succ, List.getElem?_cons_zero]; rfl)
        go_simp
        refine hK.out _ _ (fun h => absurd h (by decide)) (fun _ => ?_)
        clear hK K
        refine wpAnyT_done (by kernel_rfl) ?_ _
        have kb20 := kb16.set_ 0 (.slice A16 bl2 c16)
        have kR20 := kR16.far (p := ⟨w.heap.size, 0, none⟩) (by simp) (.slice A16 bl2 c16)
        have hB20 := hB16.setCell (p := ⟨w.heap.size, 0, none⟩) (Nat.le_refl _) (.slice A16 bl2 c16)
        have hr20 := RI.set2 hr16 (p := ⟨w.heap.size, 0, none⟩) (.slice A16 bl2 c16) (fun hne b o e => by have := hAb hne b o e; simp only; omega)
        have hs20 : w.heap.size + 2 ≤ (w16.setCell ⟨w.heap.size, 0, none⟩ (.slice A16 bl2 c16)).heap.size := by have := hb16'.size; simp [World.setCell]; omega
        clear kb16 kR16 hB16 hr16 hb16' cb16 fb16
        have cb20 := kb20.cell
        have HI3 := HIH.out l best2 L A16 lcap c16 least2 ((j : Int) + 1) _ (by omega) (by omega) (by rw [HLN.out]; omega) (by rw [HBL2.out]; exact hb2n) (RI.later' hLr hB20) hL0 hlx hr20 (RU.later' hu hB20)
        rw [HLN.out, HBL2.out, ← HC.out] at HI3
        go_wp2_with fail
        refine HI3.mono ?_
        clear HI3
        rintro e w21 ⟨A21, c21, rfl, hr21, hb21, hq21⟩
        have kR21 := kR20.call hb21
        have hB21 := (hB20.trans (hb21.mono hB20.size)).setCell (p := ⟨w.heap.size + 1, 0, none⟩) (by simp) (.slice A21 RR.1.length c21)
        have hr22 := RI.set2 hr21 (p := ⟨w.heap.size + 1, 0, none⟩) (.slice A21 RR.1.length c21) (fun hne b o e => by
          rcases hq21 with ⟨h1, h2⟩ | h
          · subst h1; have := hAb (by rw [← h2]; exact hne) b o e; simp only; omega
          · have := h b o e; simp only; omega)
        have hqf : (A21 = B ∧ RR.1 = best) ∨ ∀ b o, A21 = some ⟨b, o, none⟩ → w.heap.size ≤ b := by
          rcases hq21 with ⟨h1, h2⟩ | h
          · rcases hq16' with ⟨h3, h4⟩ | h3
            · exact .inl ⟨h1.trans h3, h2.trans h4⟩
            · exact .inr (fun b o e => h3 b o (by rw [← h1]; exact e))
          · exact .inr (fun b o e => by have := h b o e; omega)
        have cR21 := kR21.cell
        have fR21 := kR21.frozen
        clear hq21 hq16' hAb hr21 hb21 kR20 hB20 hr20 kb20 cb20
        obtain ⟨R2, hR2⟩ : ∃ R2 : Nat, RR.1.length = R2 := ⟨_, rfl⟩
        rw [hR2] at hB21 hr22 ⊢
        have HR2 := Lib.hid hR2
        clear hR2
        go_wp2_with fail
        exact bodyPost_ret (v := .tuple #[.agg #[.slice A21 R2 c21], .int .i64 RR.2]) (by simp [results, Try.results40, go_sem, cR21]) rfl ⟨A21, c21, by rw [HR2.out], hr22, hB21, hqf⟩
      refine' AllReadyT.cons ?hiC1 (fun K hK => ?stC1) AllReadyT.nil
      case hiC1 => (simp only [List.getElem?_toArray, List.getElem?_cons_succ, List.getElem?_cons_zero]; rfl)
      go_simp
      have hb12 := ((Below.refl W1.heap.size W1).alloc (Nat.le_refl _) (.cells #[.int .i64 x] 3)).drew
      have kX := Blk.new W1 3 #[.int .i64 x]
      refine hK.out _ _ (fun _ => hS0.later hb12 (by omega) (by omega)) (fun hS => ?_)
      clear hK K
      replace hS := hS rfl
      try simp only [Act.put, List.setIfInBounds_toArray, List.set_cons_zero, List.set_cons_succ]
      refine wpAnyT_ready (rs := [4]) (by kernel_rfl) (by simp) ?_
      refine' AllReadyT.cons ?hiC2 (fun K hK => ?stC2) AllReadyT.nil
      case hiC2 => (simp only [List.getElem?_toArray, List.getElem?_cons_succ, List.getElem?_cons_zero]; rfl)
      go_simp
      have hb4 := hb12.alloc hb12.size (.cells #[] 3)
      have own4 := World.ownsRow_lit (base := W1.heap.size) (e := 3) (size := 1) (W1.alloc (.cells #[.int .i64 x] 3)) #[] 0 (by simp) (by unfold maxLen; omega) rfl
      rw [World.size_alloc] at own4
      have kX4 := kX.alloc (.cells #[] 3)
      refine hK.out _ _ (fun _ => hS0.later hb4 (by omega) (by omega)) (fun hS => ?_)
      clear hK K
      replace hS := hS rfl
      try simp only [Act.put, List.setIfInBounds_toArray, List.set_cons_zero, List.set_cons_succ]
      refine wpAnyT_ready (rs := [6]) (by kernel_rfl) (by simp) ?_
      refine' AllReadyT.cons ?hiC3 (fun K hK => ?stC3) AllReadyT.nil
      case hiC3 => (simp only [List.getElem?_toArray, List.getElem?_cons_succ, List.getElem?_cons_zero]; rfl)
      refine step_app (by rfl) (.tmp 68) (.tmp 69) 22 (by rfl) W1.heap.size 3 i0 (.int .i64 0) 8 Try.underlying22 HI.out.1 HI.out.2.1 HI.out.2.2.1 HI.out.2.2.2 rfl (.slice (some ⟨W1.heap.size + 1, 0, none⟩) 0 0) 0 [] (by rfl) own4 (.slice L ln lcap) (l.map (Value.int .i64)) (by rfl) (HSRC.out _ hb4) hone h63 hby hb4.size ?_
      intro v6 w6 own6 gr6
      have hb6 : Below W1.heap.size W1 w6 := hb4.grown gr6 hb4.size (fun i hi => (own4.lt i hi).1)
      have kX6 := Blk.grown (row := (Value.slice (some ⟨W1.heap.size + 1, 0, none⟩) 0 0).ownBlock) (Blk.drew kX4) gr6 (by simp [Value.ownBlock])
      refine hK.out _ _ (fun _ => hS0.later hb6 (by omega) (by omega)) (fun hS => ?_)
      clear hK K
      replace hS := hS rfl
      try simp only [Act.put, List.setIfInBounds_toArray, List.set_cons_zero, List.set_cons_succ]
      refine wpAnyT_ready (rs := [13]) (by kernel_rfl) (by simp) ?_
      refine' AllReadyT.cons ?hi13C (fun K hK => ?st13C) AllReadyT.nil
      case hi13C => (simp only [List.getElem?_toArray, List.getElem?_cons_succ, List.getElem?_cons_zero]; rfl)
      refine step_app (by rfl) (.tmp 70) (.tmp 76) 22 (by rfl) W1.heap.size 3 i0 (.int .i64 0) 8 Try.underlying22 HI.out.1 HI.out.2.1 HI.out.2.2.1 HI.out.2.2.2 rfl v6 (0 + (l.map (Value.int .i64)).length) (([] : List Value) ++ l.map (Value.int .i64)) (by rfl) own6 (.slice (some ⟨W1.heap.size, 0, none⟩) 1 1) [.int .i64 x] (by rfl) (Src.one kX6) honeX (by simp only [List.length_map, HLN.out, List.length_cons, List.length_nil]; unfold maxLen; omega) (by simp only [List.length_map, HLN.out, List.length_cons, List.length_nil]; omega) (hb6).size ?_
      intro v13 w13 own13 gr13
      have hb13 : Below W1.heap.size W1 w13 := (hb6).grown gr13 (hb6).size (fun i hi => ((own6).lt i hi).1)
      have own13' : w13.ownsRow W1.heap.size 3 1 v13 l2.length (l2.map (Value.int .i64)) := by rw [← HL2.out]; simpa using own13
      obtain ⟨A3, c3, rfl, hr3, _, hne3⟩ := own_RI' rfl own13'
      refine hK.out _ _ (fun _ => hS0.later hb13 (by omega) (by omega)) (fun hS => ?_)
      clear hK K
      replace hS := hS rfl
      clear own13 gr13 own13'
      try simp only [Act.put, List.setIfInBounds_toArray, List.set_cons_zero, List.set_cons_succ]
      refine wpAnyT_ready (rs := [16]) (by kernel_rfl) (by simp) ?_
      refine' AllReadyT.cons ?hi16C (fun K hK => ?st16C) AllReadyT.nil
      case hi16C => (simp only [List.getElem?_toArray, List.getElem?_cons_succ, List.getElem?_cons_zero]; rfl)
      go_simp
      have hB13 := hB1.trans (hb13.mono hB1.size)
      have HI2 := HIH.out l2 best A3 B c3 bcap least (IntKind.i64.wrap ((j : Int) + 1)) w13 (by rw [IntWalk.i64_in _ (by omega)]; omega) (by omega) (by rw [← HL2.out, List.length_append, HLN.out]; simp only [List.length_cons, List.length_nil]; omega) (by rw [HBL.out]; exact hbn) hr3 (fun h => absurd h (by rw [← HL2.out]; simp)) (fun y hy => by rw [← HL2.out] at hy; rcases List.mem_append.1 hy with h | h; exact hlx y h; simp only [List.mem_singleton] at h; omega) (RI.later' hb hB13) (RU.later' hu hB13)
      rw [HR1.out, HBL.out] at HI2
      refine HI2.mono ?_
      rintro e w16 ⟨A16, c16, rfl, hr16, hb16, hq16⟩
      try simp only at hr16 hq16 ⊢
      rw [HBL2.out]
      have hb16' := hb13.trans (hb16.mono hb13.size)
      have kb16 := k0.call hb16'
      have kR16 := kR.call hb16'
      have hB16 := hB13.trans (hb16.mono hB13.size)
      have hAb := cho_ab hb hq16 (hB13.size) (by have := hb13.size; omega)
      have hq16' : (A16 = B ∧ best2 = best) ∨ ∀ b o, A16 = some ⟨b, o, none⟩ → w.heap.size ≤ b := hq16.imp id (fun h b o e => by have := h b o e; have := hB13.size; omega)
      refine hK.out _ _ (fun _ => hS0.later hb16' (by omega) (by omega)) (fun hS => ?_)
      clear hK K
      replace hS := hS rfl
      clear HI2 hr3 hne3 hb13 hb16 hB13 hq16
      try simp only [Act.put, List.setIfInBounds_toArray, List.set_cons_zero, List.set_cons_succ]
      refine' wpAnyT_take (i := 17) (v := _) ?hiT17C (by kernel_rfl) ?hQT17C (Or.inl ⟨?hwT17C, ?hyT17C⟩) hS ?reT17C
      case hiT17C => (simp only [List.getElem?_toArray, List.getElem?_cons_succ, List.getElem?_cons_zero]; rfl)
      case hQT17C => exact fun _ _ _ h => h
      case hwT17C => rfl
      case hyT17C => (intro wS hSw; obtain ⟨_, _⟩ := hSw; go_simp; (try with_reducible rfl))
      try simp only [Act.put, List.setIfInBounds_toArray, List.set_cons_zero, List.set_cons_succ]
      refine' wpAnyT_takeW (i := 18) (v := _) ?hiT18C (by kernel_rfl) ?hQT18C (Or.inl ⟨?hwT18C, ?hyT18C⟩) ?reT18C
      case hiT18C => (simp only [List.getElem?_toArray, List.getElem?_cons_succ, List.getElem?_cons_zero]; rfl)
      case hQT18C => exact fun _ _ _ h => h
      case hwT18C => rfl
      case hyT18C => (intro wS hSw; go_simp; (try with_reducible rfl))
      try simp only [Act.put, List.setIfInBounds_toArray, List.set_cons_zero, List.set_cons_succ]
      refine' wpAnyT_takeW (i := 19) (v := _) ?hiT19C (by kernel_rfl) ?hQT19C (Or.inl ⟨?hwT19C, ?hyT19C⟩) ?reT19C
      case hiT19C => (simp only [List.getElem?_toArray, List.getElem?_cons_succ, List.getElem?_cons_zero]; rfl)
      case hQT19C => exact fun _ _ _ h => h
      case hwT19C => rfl
      case hyT19C => (intro wS hSw; go_simp; (try with_reducible rfl))
      try simp only [Act.put, List.setIfInBounds_toArray, List.set_cons_zero, List.set_cons_succ]
      have cb16 := kb16.cell
      have fb16 := kb16.frozen
      refine wpAnyT_ready (rs := [20]) (by kernel_rfl) (by simp) ?_
      refine' AllReadyT.cons ?hi20C (fun K hK => ?st20C) AllReadyT.nil
      case hi20C => (simp only [List.getElem?_toArray, List.getElem?_cons_succ, List.getElem?_cons_zero]; rfl)
      go_simp
      refine hK.out _ _ (fun h => absurd h (by decide)) (fun _ => ?_)
      clear hK K hS
      refine wpAnyT_ready (rs := [21]) (by kernel_rfl) (by simp) ?_
      refine' AllReadyT.cons ?hi21C (fun K hK => ?st21C) AllReadyT.nil
      case hi21C => (simp only [List.getElem?_toArray, List.getElem?_cons_succ, List.getElem?_cons_zero]; rfl)
      go_simp
      refine hK.out _ _ (fun h => absurd h (by decide)) (fun _ => ?_)
      clear hK K
      refine wpAnyT_done (by kernel_rfl) ?_ _
      have kb20 := kb16.set_ 0 (.slice A16 bl2 c16)
      have kR20 := kR16.far (p := ⟨w.heap.size, 0, none⟩) (by simp) (.slice A16 bl2 c16)
      have hB20 := hB16.setCell (p := ⟨w.heap.size, 0, none⟩) (Nat.le_refl _) (.slice A16 bl2 c16)
      have hr20 := RI.set2 hr16 (p := ⟨w.heap.size, 0, none⟩) (.slice A16 bl2 c16) (fun hne b o e => by have := hAb hne b o e; simp only; omega)
      have hs20 : w.heap.size + 2 ≤ (w16.setCell ⟨w.heap.size, 0, none⟩ (.slice A16 bl2 c16)).heap.size := by have := hb16'.size; simp [World.setCell]; omega
      clear kb16 kR16 hB16 hr16 hb16' cb16 fb16
      have cb20 := kb20.cell
      have HI3 := HIH.out l best2 L A16 lcap c16 least2 ((j : Int) + 1) _ (by omega) (by omega) (by rw [HLN.out]; omega) (by rw [HBL2.out]; exact hb2n) (RI.later' hLr hB20) hL0 hlx hr20 (RU.later' hu hB20)
      rw [HLN.out, HBL2.out, ← HC.out] at HI3
      go_wp2_with fail
      refine HI3.mono ?_
      clear HI3
      rintro e w21 ⟨A21, c21, rfl, hr21, hb21, hq21⟩
      have kR21 := kR20.call hb21
      have hB21 := (hB20.trans (hb21.mono hB20.size)).setCell (p := ⟨w.heap.size + 1, 0, none⟩) (by simp) (.slice A21 RR.1.length c21)
      have hr22 := RI.set2 hr21 (p := ⟨w.heap.size + 1, 0, none⟩) (.slice A21 RR.1.length c21) (fun hne b o e => by
        rcases hq21 with ⟨h1, h2⟩ | h
        · subst h1; have := hAb (by rw [← h2]; exact hne) b o e; simp only; omega
        · have := h b o e; simp only; omega)
      have hqf : (A21 = B ∧ RR.1 = best) ∨ ∀ b o, A21 = some ⟨b, o, none⟩ → w.heap.size ≤ b := by
        rcases hq21 with ⟨h1, h2⟩ | h
        · rcases hq16' with ⟨h3, h4⟩ | h3
          · exact .inl ⟨h1.trans h3, h2.trans h4⟩
          · exact .inr (fun b o e => h3 b o (by rw [← h1]; exact e))
        · exact .inr (fun b o e => by have := h b o e; omega)
      have cR21 := kR21.cell
      have fR21 := kR21.frozen
      clear hq21 hq16' hAb hr21 hb21 kR20 hB20 hr20 kb20 cb20
      obtain ⟨R2, hR2⟩ : ∃ R2 : Nat, RR.1.length = R2 := ⟨_, rfl⟩
      rw [hR2] at hB21 hr22 ⊢
      have HR2 := Lib.hid hR2
      clear hR2
      go_wp2_with fail
      exact bodyPost_ret (v := .tuple #[.agg #[.slice A21 R2 c21], .int .i64 RR.2]) (by simp [results, Try.results40, go_sem, cR21]) rfl ⟨A21, c21, by rw [HR2.out], hr22, hB21, hqf⟩
end Go.Proofs.Ytiohcegkkpeodaa
