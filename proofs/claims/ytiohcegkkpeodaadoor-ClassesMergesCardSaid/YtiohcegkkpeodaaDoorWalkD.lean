/- Walks: slices.Repeat at one element; what a run of entries costs. -/
import Derived.Test.YtiohcegkkpeodaaDoorWalkA
import Derived.Test.YtiohcegkkpeodaaDoorSpecB
namespace Go.Proofs.YtiohcegkkpeodaaDoor
open Go Go.Proofs Go.RowKit Go.Pol
theorem and_mask (n : Int) (h : 0 ≤ n ∧ n ≤ 4294967295) : bits .and .u64 n 4294967295 = n := by
  have e : bits .and .u64 n 4294967295 = IntKind.u64.wrap ((BitVec.ofInt 64 n &&& BitVec.ofInt 64 4294967295).toNat : Int) := rfl
  obtain ⟨k, rfl⟩ := Int.eq_ofNat_of_zero_le h.1
  rw [e, BitVec.toNat_and]
  have h1 : (BitVec.ofInt 64 (k : Int)).toNat = k := by rw [BitVec.ofInt_natCast, BitVec.toNat_ofNat]; exact Nat.mod_eq_of_lt (by omega)
  have h2 : (BitVec.ofInt 64 4294967295).toNat = 2^32 - 1 := by decide
  rw [h1, h2, Nat.and_two_pow_sub_one_eq_mod, Nat.mod_eq_of_lt (by omega)]
  exact IntWalk.u64_in _ (by omega)
theorem mul64_one (n : Int) (h0 : 0 ≤ n) (h1 : n ≤ 4294967295) (w : World) :
    Calls Tryd.prog 45 #[.int .u64 1, .int .u64 n] w fun e w' => e = .returned (.tuple #[.int .u64 0, .int .u64 n]) ∧ w = w' := by
  have e1 : bits .and .u64 n 4294967295 = n := and_mask n ⟨h0, h1⟩
  have e2 : bits .and .u64 1 4294967295 = 1 := and_mask 1 ⟨by omega, by omega⟩
  have e4 : bits .and .u64 0 4294967295 = 0 := and_mask 0 ⟨by omega, by omega⟩
  have e3 : n / 4294967296 = 0 := by omega
  go_enter Tryd.func45, Tryd.ntmps45
  go_wp2
  go_ret2
  exact ⟨rfl, rfl⟩
theorem mul_one_ (n : Int) (h0 : 0 ≤ n) (h1 : n ≤ 4294967295) (w : World) :
    Calls Tryd.prog 34 #[.int .u64 1, .int .u64 n] w fun e w' => e = .returned (.tuple #[.int .u64 0, .int .u64 n]) ∧ w = w' := by
  go_enter Tryd.func34, Tryd.ntmps34
  go_wp2_with (go_at_call 45; refine (mul64_one _ h0 h1 _).mono ?_; rintro e w' ⟨rfl, rfl⟩)
  go_ret2
  exact ⟨rfl, rfl⟩
theorem splice_double {α : Type} (m n : Nat) (x z : α) : splice (List.replicate m x ++ List.replicate (n - m) z) m (List.replicate (min m (n - m)) x) = List.replicate (m + min m (n - m)) x ++ List.replicate (n - (m + min m (n - m))) z := by
  unfold splice
  rw [List.take_append_of_le_length (by simp), List.take_of_length_le (by simp), List.length_replicate, List.drop_append, List.drop_of_length_le (by simp), List.length_replicate, List.nil_append, List.drop_replicate, ← List.append_assoc, List.replicate_append_replicate]
  congr 2
  omega
theorem info_i64 : (Tryd.prog.info? 2).map (fun i => (i.zero, i.size, i.bytes)) = some (some (.int .i64 0), 1, 8) := by kernel_rfl
set_option maxHeartbeats 400000 in
set_option maxRecDepth 20000 in
theorem repeat_any (w : World) (x : Int) (g n : Nat) (hk : Blk w g 2 #[.int .i64 x]) (hn : 1 ≤ n) (hn2 : n ≤ 1000) :
    Calls Tryd.prog 22 #[.slice (some ⟨g, 0, none⟩) 1 1, .int .i64 n] w fun e w' => ∃ g', e = .returned (.slice (some ⟨g', 0, none⟩) n n) ∧ w.heap.size ≤ g' ∧ Below w.heap.size w w' ∧ Blk w' g' 2 (ints (List.replicate n x)) := by
  obtain ⟨i0, hi0, hz0, hz1, hz2⟩ := info_parts info_i64
  have hmk := fun W => run_makeI (P := Tryd.prog) 46 2 i0 (.int .i64 0) Tryd.underlying46 hi0 hz0 rfl hz1 .i64 .i64 n (by rw [hz2]; omega) (by omega) W
  have c1 := hk.cell
  have l1 := hk.lt
  have hz := Lib.hid (And.intro hi0 (And.intro hz0 (And.intro hz1 hz2)))
  clear hi0 hz0 hz1 hz2
  go_enter Tryd.func22, Tryd.ntmps22
  have hx1 : Hid (∃ c : List Value, c = [Value.int .i64 x]) := Lib.hid ⟨_, rfl⟩
  go_wp2_with (first
    | (go_at_call 34; refine (mul_one_ _ (by omega) (by omega) _).mono ?_; rintro e w' ⟨rfl, rfl⟩)
    | (refine wpList_copy_splice rfl (.tmp 31) (.tmp 32) 46 46 rfl 2 Tryd.underlying46 (by kernel_rfl) (some ⟨w.heap.size, 0, none⟩) (some ⟨g, 0, none⟩) n n 1 1 rfl rfl w.heap.size 0 (List.replicate n (Value.int .i64 0)) 2 ?c0 [Value.int .i64 x] ?c1 ?c2 ?c3 ?c4 w.heap.size w ?c5 (Nat.le_refl _) ?_; rotate_right 1; intro w1 HG hB1))
  case c0 => rw [List.toArray_replicate]; exact Blk.new w _ _
  case c1 => show 1 = min 1 n; omega
  case c3 => simp; omega
  case c4 => intro v hv; simp at hv; subst hv; rfl
  case c5 => exact (Below.refl _ _).alloc (Nat.le_refl _) _
  have HG2 : Hid (w1.heap[w.heap.size]? = some (.cells (List.replicate 1 (Value.int .i64 x) ++ List.replicate (n - 1) (Value.int .i64 0)).toArray 2)) := Lib.hid (by
    rw [HG.out]; obtain ⟨m, rfl⟩ : ∃ m, n = m + 1 := ⟨n - 1, by omega⟩
    simp [splice, List.replicate_succ])
  clear HG hmk c1
  generalize decide ((9223372036854775807 : Int) < n) = b1
  generalize decide ((n : Int) < 0) = b2
  go_loopw [8] (fun i wr => ∃ m : Nat, 1 ≤ m ∧ m ≤ n ∧ i = .int .i64 m ∧ Below w.heap.size w wr ∧ Hid (wr.heap[w.heap.size]? = some (.cells (List.replicate m (Value.int .i64 x) ++ List.replicate (n - m) (Value.int .i64 0)).toArray 2))) (fun i _ => n - (intOf i).toNat)
  case atStart => exact ⟨1, by omega, by omega, rfl, hB1, HG2⟩
  case round =>
    obtain ⟨m, hm1, hm, rfl, hB, HG⟩ := hrel
    by_cases hlt : m < n
    · have hne : ¬ n = m := by omega
      have hsz := Lib.hid (show (Tryd.prog.info? 2).map (·.size) = some 1 by kernel_rfl)
      go_wp2
      have s1 := Lib.hid (show (List.replicate (min m (n - m)) (Value.int .i64 x)).length = Nat.min m (n - m) by simp)
      have s2 := Lib.hid (show 0 < (List.replicate (min m (n - m)) (Value.int .i64 x)).length → (some ⟨w.heap.size, m, none⟩ : Option Addr) = some ⟨w.heap.size, m, none⟩ ∧ ∃ ad, (some ⟨w.heap.size, 0, none⟩ : Option Addr) = some ad ∧ ∀ j v, (List.replicate (min m (n - m)) (Value.int .i64 x))[j]? = some v → wr.drew.cell? (ad.add j) = some v by
        refine fun _ => ⟨rfl, _, rfl, fun j v hj => ?_⟩
        rw [addr_add0, Nat.zero_add]
        have hk : Blk wr.drew w.heap.size 2 (List.replicate m (Value.int .i64 x) ++ List.replicate (n - m) (Value.int .i64 0)).toArray := HG.out
        rw [hk.cell]
        simp only [List.getElem?_replicate] at hj
        split at hj
        · rename_i h; rw [← hj]; simp only [List.getElem?_toArray]; rw [List.getElem?_append_left (by simp; omega), List.getElem?_replicate, if_pos (by omega)]
        · cases hj)
      have s3 := Lib.hid (show m + (List.replicate (min m (n - m)) (Value.int .i64 x)).length ≤ (List.replicate m (Value.int .i64 x) ++ List.replicate (n - m) (Value.int .i64 0)).length by simp; omega)
      have s4 := Lib.hid (show ∀ v ∈ List.replicate (min m (n - m)) (Value.int .i64 x), v.oneCell' = true by intro v hv; rw [(List.mem_replicate.1 hv).2]; rfl)
      have hw : IntKind.i64.wrap ((m : Int) + ((min m (n - m) : Nat) : Int)) = ((m + min m (n - m) : Nat) : Int) := by rw [IntWalk.i64_in _ (by omega)]; omega
      go_region_law (refine step_copy_splice rfl (.tmp 41) (.tmp 44) 46 46 rfl 2 Tryd.underlying46 hsz.out (some ⟨w.heap.size, m, none⟩) (some ⟨w.heap.size, 0, none⟩) (n - m) (n - m) m n (by simp [Act.eval, Act.put]) (by simp [Act.eval, Act.put]) w.heap.size m (List.replicate m (Value.int .i64 x) ++ List.replicate (n - m) (Value.int .i64 0)) 2 HG.out (List.replicate (min m (n - m)) (Value.int .i64 x)) s1.out s2.out s3.out s4.out w.heap.size w hB.drew (Nat.le_refl _) ?_; intro w2 HG2 hB2)
      go_wp2
      go_roundw
      case rel =>
        refine ⟨m + min m (n - m), by omega, by omega, by omega, Lib.hid ?_⟩
        rw [HG2.out]
        rw [splice_double]
      case measure => simp [intOf]; omega
    · obtain rfl : n = m := by omega
      go_wp2
      go_ret
      exact ⟨_, rfl, Nat.le_refl _, hB, by have := HG.out; simp only [Nat.sub_self, List.replicate_zero, List.append_nil] at this; show _ = _; rw [this]; simp [ints]⟩

theorem repeat_at (w : World) (x : Int) (g n : Nat) (c : Int) (hc : c = (n : Int)) (hk : Blk w g 2 #[.int .i64 x]) (hn : 1 ≤ n) (hn2 : n ≤ 1000) :
    Calls Tryd.prog 22 #[.slice (some ⟨g, 0, none⟩) 1 1, .int .i64 c] w fun e w' => ∃ g', e = .returned (.slice (some ⟨g', 0, none⟩) n n) ∧ w.heap.size ≤ g' ∧ Below w.heap.size w w' ∧ Blk w' g' 2 (ints (List.replicate n x)) := by
  subst hc; exact repeat_any w x g n hk hn hn2

/-- what a run of entries costs with one class -/
theorem cost_any (w : World) (i j : Nat) (n : Nat) (bo bu bb go gb ua uo : Nat) (cap c1 c2 : Nat) (o1 o0 s b1 b0 : Int) (hij : i ≤ j) (hj : j < n) (hn : n ≤ 1000)
    (h1 : w.cell? ⟨bo, 0, none⟩ = some (.slice (some ⟨go, 0, none⟩) (n + 1) c1)) (h2 : w.cell? ⟨bu, 0, none⟩ = some (.slice (some ⟨ua, uo, none⟩) n cap)) (h3 : w.cell? ⟨bb, 0, none⟩ = some (.slice (some ⟨gb, 0, none⟩) (n + 1) c2))
    (e1 : w.cell? ⟨go, j + 1, none⟩ = some (.int .i64 o1)) (e0 : w.cell? ⟨go, i, none⟩ = some (.int .i64 o0)) (es : w.cell? ⟨ua, uo + j * 2, none⟩ = some (.int .i64 s))
    (f1 : w.cell? ⟨gb, j + 1, none⟩ = some (.int .i64 b1)) (f0 : w.cell? ⟨gb, i, none⟩ = some (.int .i64 b0))
    (ho : 0 ≤ o0 ∧ o0 ≤ o1 ∧ o1 ≤ 1000000000) (hs : 0 ≤ s ∧ s ≤ 4096) (hb : 0 ≤ b0 ∧ b0 ≤ b1 ∧ b1 ≤ 1000000000000) :
    Calls Tryd.prog 21 #[.int .i64 i, .int .i64 j, .pointer (some ⟨bo, 0, none⟩), .pointer (some ⟨bu, 0, none⟩), .pointer (some ⟨bb, 0, none⟩)] w fun e w' => e = .returned (.int .i64 ((o1 - o0) * s - (b1 - b0))) ∧ ∃ q, w' = w.drewN q := by
  obtain ⟨ho1, ho2, ho3⟩ := ho
  obtain ⟨hs1, hs2⟩ := hs
  obtain ⟨hb1, hb2, hb3⟩ := hb
  have hm := mul_abs (o1 - o0) s 1000000000 4096 (by omega) (by omega)
  have hw : IntKind.i64.wrap ((o1 - o0) * s) = (o1 - o0) * s := IntWalk.i64_in _ (by omega)
  obtain ⟨p, hp⟩ : ∃ p, (o1 - o0) * s = p := ⟨_, rfl⟩
  rw [hp] at hm hw ⊢
  have hp' : (o1 - o0) * s = p := hp
  clear hp
  go_enter Tryd.func21, Tryd.ntmps21
  go_wp2
  refine wp_region_quiet_lit (by kernel_rfl) (by kernel_rfl) ?_
  repeat (go_big_quiet_step (fail))
  refine wpQuiet_nil ?_
  rintro _ ⟨nq, rfl⟩
  go_wp2
  go_ret
  exact ⟨rfl, _, rfl⟩
end Go.Proofs.YtiohcegkkpeodaaDoor
