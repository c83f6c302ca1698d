/- Walks: what Pieces hands back; the law's list of what such a function value goes through. -/
import Derived.Test.YtjmmgoijnhnnaaaGreatT20
namespace Go.Proofs.YtjmmgoijnhnnaaaGreat
open Go Go.Proofs Go.RowKit Go.Pol Go.Shelf
attribute [local go_sem] Oper.semAt_some Go.Pol.wide_fn Go.Pol.wide_depth Go.Pol.wide_fn' Go.Pol.wide_depth'
theorem pieces_enters : ∀ args w, (callFunc 189 args).run Tryz.prog w = .ok (.enter 189 args) w := enters_of Tryz.func189 (by kernel_rfl) rfl
set_option maxHeartbeats 800000 in
theorem piecesTop_own (A : Option Addr) (n cap : Nat) (us : List Sp) (size : Int) (w : World) (hn : us.length = n) (hm : n ≤ 1000000) (hr : RU w w.heap.size A us) :
  Calls Tryz.prog 133 #[.slice A n cap, .int .i64 size] w fun e w' => ∃ (lb : Array Value) (K : Nat → Prop), e = .returned (.func (.func 189) #[] lb) ∧
   SeqX Tryz.prog 189 lb spA (fun _ => False) K (piecesF us size) w' ∧ (∀ k, K k → w.heap.size ≤ k ∧ k < w'.heap.size) ∧ Below w.heap.size w w' := by
 have hb0 := ((Below.refl w.heap.size w).alloc (Nat.le_refl _) (.cells #[.slice A n cap] 41)).alloc (by simp) (.cells #[.int .i64 size] 3)
 have k1 := (Blk.new w 41 #[.slice A n cap]).alloc (.cells #[.int .i64 size] 3)
 have k2 := Blk.new (w.alloc (.cells #[.slice A n cap] 41)) 3 #[.int .i64 size]
 rw [World.size_alloc] at k2
 have r0 : RU ((w.alloc (.cells #[.slice A n cap] 41)).alloc (.cells #[.int .i64 size] 3)) _ A us := hr.on hb0
 have HK := Lib.hid (clone_any A n cap us _ hn hm r0)
 have z1 := k1.cell
 have hsz : ((w.alloc (.cells #[.slice A n cap] 41)).alloc (.cells #[.int .i64 size] 3)).heap.size = w.heap.size + 2 := by simp
 go_enter Tryz.func133, Tryz.ntmps133
 go_wp2_with fail
 refine HK.out.mono ?_
 rintro e w1 ⟨v, rfl, hrow, hb1⟩
 have B1 := hb0.trans (hb1.mono hb0.size)
 have k1b := k1.call hb1
 have k2b := k2.call hb1
 have f1 := k1b.frozen
 have z1b := k1b.cell
 have hs1 := B1.size
 clear HK
 obtain ⟨A2, cap2, rfl⟩ := own_nil_iff hrow hn
 go_wp2_with fail
 go_ret
 have k1c := k1b.set_ 0 (.slice A2 n cap2)
 have k2c := k2b.far (p := ⟨w.heap.size, 0, none⟩) (by show w.heap.size + 1 ≠ w.heap.size; omega) (.slice A2 n cap2)
 have hfar : Far (fun k => k = w.heap.size) w1 (w1.setCell ⟨w.heap.size, 0, none⟩ (.slice A2 n cap2)) := Far.setCell (T := fun k => k = w.heap.size) (p := ⟨w.heap.size, 0, none⟩) (Far.refl _ _) (fun _ => rfl) _
 have hrow2 := ownsRow_far hrow hfar (fun g hg e => by have := (hrow.lt g hg).1; omega)
 have B2 := B1.trans (hfar.below hs1 (fun k hk h => by omega))
 generalize w1.setCell ⟨w.heap.size, 0, none⟩ (.slice A2 n cap2) = w2 at *
 obtain ⟨A3, cap3, he, hru, h1, h2, h3, _⟩ := own_RU hrow2 hn
 cases he
 refine ⟨_, fun k => k = w.heap.size ∨ k = w.heap.size + 1 ∨ (us ≠ [] ∧ ∃ o, A2 = some ⟨k, o, none⟩), rfl, pieces1_seq A2 n cap2 us size w.heap.size (w.heap.size + 1) _ w2 (.inl rfl) (.inr (.inl rfl)) (by simpa using k1c) k2c hn (by unfold maxLen; omega) hru (fun h b o e => .inr (.inr ⟨h, o, e⟩)), ?_, B2⟩
 rintro k (rfl | rfl | ⟨h, o, e⟩)
 ·exact ⟨Nat.le_refl _, k1c.lt⟩
 ·exact ⟨by omega, k2c.lt⟩
 ·exact ⟨by have := h3 k o e; omega, ru_lt hru h e⟩
end Go.Proofs.YtjmmgoijnhnnaaaGreat
