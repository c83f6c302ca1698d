/- Walks of layer 12 (commit): the first bytes of the pages in use. -/
import Derived.Test.YtjmmgoijnhnnaaaGreatT35
namespace Go.Pol
open Go Go.RowKit
structure BytAt (W : World) (A : Option Addr) (xs : List Int) : Prop where
 rd : Rd W W.heap.size A (xs.map (Value.int .u8))
 ty : ∀ b o, A = some ⟨b, o, none⟩ → ∃ cs, Blk W b 5 cs
theorem BytAt.far {W W' : World} {A : Option Addr} {xs : List Int} {T : Nat → Prop} (h : BytAt W A xs) (hF : Far T W W') (hT : ∀ g cs, Blk W g 5 cs → ¬ T g) : BytAt W' A xs := by
 refine ⟨(h.rd.far_ hF (fun b o e => ?_)).more hF.size, fun b o e => ?_⟩
 ·obtain ⟨cs, hc⟩ := h.ty b o e
  exact hT b cs hc
 ·obtain ⟨cs, hc⟩ := h.ty b o e
  exact ⟨cs, hF.blk hc (hT b cs hc)⟩
theorem BytAt.call {W W' : World} {A : Option Addr} {xs : List Int} (h : BytAt W A xs) (hb : Below W.heap.size W W') : BytAt W' A xs := h.far (T := fun _ => False) (Far.of_below hb) (fun _ _ _ => id)
end Go.Pol
namespace Go.Proofs.YtjmmgoijnhnnaaaGreat
open Go Go.Proofs Go.RowKit Go.Pol Go.Shelf
attribute [local go_sem] Oper.semAt_some Go.Pol.wide_fn Go.Pol.wide_depth Go.Pol.wide_fn' Go.Pol.wide_depth'
theorem infoB8 : (Tryz.prog.info? 5).map (fun i => (i.zero, i.size, i.bytes)) = some (some (.int .u8 0), 1, 1) := by kernel_rfl
theorem infoB8_parts : ∃ i0, Tryz.prog.info? 5 = some i0 ∧ i0.zero = some (.int .u8 0) ∧ i0.size = 1 ∧ i0.bytes = 1 := by
 obtain ⟨i0, h⟩ := info_parts infoB8
 exact ⟨i0, h⟩
set_option maxRecDepth 100000 in
set_option maxHeartbeats 3200000 in
theorem bytes_any (N y bs bb : Nat) (V : Vm) (L : List Nd) (r : Cr) (w : World) (h : PlyAt w N y bs bb V L r) :
  Calls Tryz.prog 33 #[.pointer (some ⟨y, 0, none⟩)] w fun e w' => (∃ (A : Option Addr) (cap : Nat), e = .returned (.slice A (8 * r.live.toNat) cap) ∧ BytAt w' A (byL V (runsL r.pg r.n r.f r.bk r.ev) r.live.toNat) ∧ 8 * r.live.toNat ≤ cap ∧ cap ≤ maxLen) ∧ Below w.heap.size w w' := by
 have hOk : 0 < r.live → CrOk r := fun hl => by
  rcases h.inv.kept with h1 | h1
  ·rw [h1] at hl; exact absurd hl (by decide)
  ·exact h1
 have hlv : 0 ≤ r.live ∧ r.live ≤ 1024 := by
  rcases h.inv.kept with h1 | h1
  ·rw [h1]; decide
  ·exact ⟨h1.live0, Int.le_trans h1.live1 h1.us1⟩
 have HN := Lib.hid (fun (i : Int) (W : World) => refNth_any r.pg r.n r.f r.bk r.ev i W (nthC r i) rfl)
 have HR := Lib.hid (fun (a : Int) (W : World) (h : SysIs W bs V) => read_any bs a V W h)
 obtain ⟨pg, nn, f, bk, ev, node, live, K, cl⟩ := r
 have hPH := Lib.hid h
 simp only at hOk hlv HN ⊢
 obtain ⟨m, rfl⟩ : ∃ m : Nat, live = m := ⟨live.toNat, by omega⟩
 rw [Int.toNat_natCast]
 obtain ⟨i0, hi0, hz0, hz1, hz2⟩ := infoB8_parts
 unfold planV at HN
 clear h
 go_enter Tryz.func33, Tryz.ntmps33
 go_upto_region 3 with fail
 go_loopw [3, 4] (fun u3 u4 wr => ∃ n : Nat, u4 = .int .i64 n ∧ n ≤ m ∧ wr.ownsRow w.heap.size 5 1 u3 (8 * n) ((byL V (runsL pg nn f bk ev) n).map (Value.int .u8)) ∧ Below w.heap.size w wr) (fun _ u4 _ => m - (intOf u4).toNat)
 case atStart => exact ⟨0, rfl, by omega, World.ownsRow_nil _ _ _ _, Below.refl _ _⟩
 case round =>
  obtain ⟨n, rfl, hnm, hrow, hB⟩ := hrel
  have hP := Lib.hid (hPH.out.call hB)
  obtain ⟨A, cap, ky, _, _, _⟩ := hP.out.two
  have cy := ky.cell
  by_cases hlt : n < m
  ·have d1 : decide ((n : Int) < (m : Int)) = true := by simpa using hlt
   have d2 : decide ((n : Int) < 1024) = true := by simp; omega
   have ho := hOk (by omega)
   have hus := ho.live1
   rw [ho.us] at hus
   simp only at hus
   obtain ⟨q1, _, _, q4, q5, _⟩ := parts_nth ho.plan n (by simp only; omega)
   have hnc : nthC ⟨pg, nn, f, bk, ev, node, m, K, cl⟩ n = ((nthF (runsL pg nn f bk ev) n).1, 0) := by
    unfold nthC
    rw [if_pos (chkG_zero.2 ho.plan)]
    simp only
    simp only at q1
    rw [q1]
   simp only at q1 q4 q5
   have hby : Hid (byL V (runsL pg nn f bk ev) (n + 1) = byL V (runsL pg nn f bk ev) n ++ pgB V (nthF (runsL pg nn f bk ev) n).1) := Lib.hid rfl
   have HNn := HN.out n wr
   rw [hnc] at HNn
   rw [q1] at HNn hby
   generalize pageAt (runsL pg nn f bk ev) n = p at *
   clear ho hus q1 hnc
   go_wp2_with fail
   refine HNn.mono ?_
   rintro e w1 ⟨rfl, hb1⟩
   have hP1 := Lib.hid (hP.out.call hb1)
   have hrow1 := ownsRow_call hrow hb1
   have B1 := hB.trans (hb1.mono hB.size)
   clear hrow hB hb1 HNn ky cy hP
   go_upto_region 7 with fail
   go_loopw [3, 7] (fun u3 u7 wr => ∃ k : Nat, u7 = .int .i64 k ∧ k ≤ 8 ∧ wr.ownsRow w.heap.size 5 1 u3 (8 * n + k) ((byL V (runsL pg nn f bk ev) n ++ (pgB V p).take k).map (Value.int .u8)) ∧ Below w.heap.size w wr) (fun _ u7 _ => 8 - (intOf u7).toNat)
   case atStart => exact ⟨0, rfl, by omega, by simpa using hrow1, B1⟩
   case round =>
    obtain ⟨k, rfl, hk8, hrow2, B2⟩ := hrel
    have hP2 := Lib.hid (hPH.out.call B2)
    obtain ⟨A, cap, ky, _, _, _⟩ := hP2.out.two
    have cy := ky.cell
    by_cases hlk : k < 8
    ·have d3 : decide ((k : Int) < 8) = true := by simp; omega
     have hR := HR.out (p * 64 + k) wr hP2.out.sys
     rw [show (if whF V (p * 64 + (k : Int)) = 0 then (V.pg ((p * 64 + (k : Int)) / 64).toNat).byt ((p * 64 + (k : Int)) % 64).toNat else 0) = rdB V (p * 64 + (k : Int)) from rfl] at hR
     have hbt := Lib.hid (pgB_take V p hlk)
     generalize rdB V (p * 64 + (k : Int)) = x at *
     generalize whF V (p * 64 + (k : Int)) = ee at *
     go_wp2_with fail
     refine hR.mono ?_
     rintro e w3 ⟨rfl, hw3⟩
     replace hw3 := hw3.symm
     subst hw3
     have kN := Blk.new wr 5 #[.int .u8 x]
     have hBs := B2.size
     go_upto_region 8 with (at_builtin; refine wpList_append_own _ rfl (.tmp 49) (.tmp 51) 96 rfl w.heap.size 5 i0 (.int .u8 0) 1 1 Tryz.underlying96 hi0 hz0 hz1 hz2 rfl (by decide) _ (8 * n + k) ((byL V (runsL pg nn f bk ev) n ++ (pgB V p).take k).map (Value.int .u8)) rfl (hrow2.alloc _) ⟨wr.heap.size, 0, none⟩ 1 1 [.int .u8 x] rfl rfl (news_list (l := [.int .u8 x]) kN) (fun u hu => by simp only [List.mem_singleton] at hu; subst hu; rfl) (by unfold maxLen; omega) (by omega) (by simp; omega) ?_; intro v' w4 hown' hgrow _)
     have B4 := (B2.alloc B2.size (.cells #[.int .u8 x] 5)).grown hgrow (by rw [World.size_alloc]; have := B2.size; omega) (fun k hk => (hrow2.lt k hk).1)
     have hown4 : w4.ownsRow w.heap.size 5 1 v' (8 * n + (k + 1)) ((byL V (runsL pg nn f bk ev) n ++ (pgB V p).take (k + 1)).map (Value.int .u8)) := by
      rw [hbt.out, ← List.append_assoc, List.map_append]
      exact hown'
     clear hown' hrow2 hgrow kN cy
     go_wp2_with fail
     go_roundw
     case rel => exact ⟨k + 1, by go_num, by omega, hown4, B4⟩
     case measure => simp [intOf]; omega
    ·obtain rfl : k = 8 := by omega
     have hrow5 : wr.ownsRow w.heap.size 5 1 u3 (8 * (n + 1)) ((byL V (runsL pg nn f bk ev) (n + 1)).map (Value.int .u8)) := by
      rw [hby.out]
      rw [List.take_of_length_le (by rw [pgB_len]; exact Nat.le_refl _)] at hrow2
      exact hrow2
     clear hrow2
     go_wp2_with fail
     go_roundw
     case rel => exact ⟨n + 1, by go_num, by omega, hrow5, B2⟩
     case measure => simp [intOf]; omega
  ·obtain rfl : n = m := by omega
   have d1 : decide ((n : Int) < (n : Int)) = false := by simp
   go_wp2_with fail
   go_ret
   obtain ⟨A', cap', he, hrd, hn, hm, _, _, hty⟩ := own_Rdt hrow
   exact ⟨⟨A', cap', by rw [he]; rfl, ⟨hrd, hty⟩, hn, hm⟩, hB⟩
end Go.Proofs.YtjmmgoijnhnnaaaGreat
