/- Layer 3 (sha): the reference's words of a block. -/
import Derived.Test.YthgpapnbnapdhaaS2
set_option linter.unusedVariables false
set_option linter.unusedSimpArgs false
namespace Go.Vm
open Go.Proofs
set_option maxRecDepth 100000
theorem words_num (b : List UInt8) (t : Nat) : IntKind.u32.wrap (IntKind.u32.wrap (IntKind.u32.wrap (IntKind.u32.wrap (IntKind.u32.wrap ((b.getD (4 * t) 0).toNat : Int) * 16777216) + IntKind.u32.wrap (IntKind.u32.wrap ((b.getD (4 * t + 1) 0).toNat : Int) * 65536)) + IntKind.u32.wrap (IntKind.u32.wrap ((b.getD (4 * t + 2) 0).toNat : Int) * 256)) + IntKind.u32.wrap ((b.getD (4 * t + 3) 0).toNat : Int)) = ((wd b t).toNat : Int) := by
  have h0 := (b.getD (4 * t) 0).toNat_lt
  have h1 := (b.getD (4 * t + 1) 0).toNat_lt
  have h2 := (b.getD (4 * t + 2) 0).toNat_lt
  have h3 := (b.getD (4 * t + 3) 0).toNat_lt
  rw [wd_num]
  simp only [u32_wrap]
  omega
theorem words_spec (b : List UInt8) (hbl : b.length = 64) (H : List VB) :
    VCalls Try.prog 143 [.agg (b.map byteSV)] H (fun r H' => r = .agg ((sch b 64).map U) ∧ H' = H) := by
  have hc5 : Try.prog.cellsOf 5 = 1 := by kernel_rfl
  have hc94 : Try.prog.cellsOf 94 = 1 := by kernel_rfl
  have hlb : (b.map byteSV).length = 64 := by rw [List.length_map, hbl]
  refine kcalls Try.func143 rfl (by kernel_rfl) rfl ?_
  intro R0 h0 hb
  (conv => whnf)
  refine kwp_loop (S := Nat) (fun t => [(1, .ptr (H.length + 0) 0), (2, .ptr (H.length + 1) 0), (3, .ptr (H.length + 2) 0), (4, I t)]) (fun t => ⟨H.length, H, [.box (b.map byteSV), .box (List.replicate 64 (U 0)), .box ((sch b t).map U)]⟩) (fun t => t ≤ 64) (fun t => 64 - t) 0 (by omega) (tsub_cons rfl (tsub_cons rfl (tsub_cons rfl (tsub_cons rfl tsub_nil)))) rfl (fun i hi => ⟨rfl, rfl⟩) ?_
  intro t ht
  rcases Nat.lt_or_ge t 64 with hlt | hge
  · have hle : 0 + ((t : Nat) : Int).toNat * Try.prog.cellsOf 94 + 1 ≤ ((sch b t).map U).length := by rw [hc94, Int.toNat_natCast, List.length_map, sch_len]; omega
    rcases Nat.lt_or_ge t 16 with h16 | h16
    · have hw1 : IntKind.i64.wrap (4 * (t : Int)) = ((4 * t : Nat) : Int) := by rw [IntWalk.i64_in _ (by omega)]; omega
      have hv1 : IntKind.i64.wrap (IntKind.i64.wrap (4 * (t : Int)) + 1) = ((4 * t + 1 : Nat) : Int) := by rw [hw1, IntWalk.i64_in _ (by omega)]; omega
      have hv2 : IntKind.i64.wrap (IntKind.i64.wrap (4 * (t : Int)) + 2) = ((4 * t + 2 : Nat) : Int) := by rw [hw1, IntWalk.i64_in _ (by omega)]; omega
      have hv3 : IntKind.i64.wrap (IntKind.i64.wrap (4 * (t : Int)) + 3) = ((4 * t + 3 : Nat) : Int) := by rw [hw1, IntWalk.i64_in _ (by omega)]; omega
      have hg0 := @get_b b (0 + (IntKind.i64.wrap (4 * (t : Int))).toNat * Try.prog.cellsOf 5) (4 * t) (by rw [hw1, hc5, Int.toNat_natCast]; omega) (by omega)
      have hg1 := @get_b b (0 + (IntKind.i64.wrap (IntKind.i64.wrap (4 * (t : Int)) + 1)).toNat * Try.prog.cellsOf 5) (4 * t + 1) (by rw [hv1, hc5, Int.toNat_natCast]; omega) (by omega)
      have hg2 := @get_b b (0 + (IntKind.i64.wrap (IntKind.i64.wrap (4 * (t : Int)) + 2)).toNat * Try.prog.cellsOf 5) (4 * t + 2) (by rw [hv2, hc5, Int.toNat_natCast]; omega) (by omega)
      have hg3 := @get_b b (0 + (IntKind.i64.wrap (IntKind.i64.wrap (4 * (t : Int)) + 3)).toNat * Try.prog.cellsOf 5) (4 * t + 3) (by rw [hv3, hc5, Int.toNat_natCast]; omega) (by omega)
      repeat' (first | (conv => whnf) | skip); (first | (refine VIf.mk (fun _ => ?_) (fun h => absurd (by omega) h)) | (refine VReq.mk (by omega) ?_) | (refine VReq.mk (by rw [hw1]; omega) ?_) | (refine VReq.mk (by rw [hv1]; omega) ?_) | (refine VReq.mk (by rw [hv2]; omega) ?_) | (refine VReq.mk (by rw [hv3]; omega) ?_) | (refine VReq.mk (by kernel_rfl) ?_) | (refine VReq.mk hle ?_) | (refine kwp_draw (by kernel_rfl) (by kernel_rfl) rfl ?_) | (refine kbox_top rfl rfl ?_) | (refine kset_top rfl ?_) | (refine kget_some hg0 ?_) | (refine kget_some hg1 ?_) | (refine kget_some hg2 ?_) | (refine kget_some hg3 ?_) | (refine KEnd.mk ?_))
      refine ⟨t + 1, hlt, by omega, tsub_cons rfl (tsub_cons rfl (tsub_cons rfl (tsub_cons (congrArg I (inc64 (by omega))) tsub_nil))), ?_⟩
      refine congrArg (fun z => KH.mk H.length H [.box (b.map byteSV), .box (List.replicate 64 (U 0)), .box z]) ?_
      rw [sch, nxt, if_pos h16]
      exact put_U hc94 rfl (by rw [sch_len]; exact hlt) (words_num b t)
    · have hw3 : IntKind.i64.wrap ((t : Int) - 2) = ((t - 2 : Nat) : Int) := by rw [IntWalk.i64_in _ (by omega)]; omega
      have hw4 : IntKind.i64.wrap ((t : Int) - 7) = ((t - 7 : Nat) : Int) := by rw [IntWalk.i64_in _ (by omega)]; omega
      have hw5 : IntKind.i64.wrap ((t : Int) - 15) = ((t - 15 : Nat) : Int) := by rw [IntWalk.i64_in _ (by omega)]; omega
      have hw6 : IntKind.i64.wrap ((t : Int) - 16) = ((t - 16 : Nat) : Int) := by rw [IntWalk.i64_in _ (by omega)]; omega
      have hg1 := @get_U Try.prog 94 hc94 (sch b t) _ _ hw3 (by rw [sch_len]; omega)
      have hg2 := @get_U Try.prog 94 hc94 (sch b t) _ _ hw4 (by rw [sch_len]; omega)
      have hg3 := @get_U Try.prog 94 hc94 (sch b t) _ _ hw5 (by rw [sch_len]; omega)
      have hg4 := @get_U Try.prog 94 hc94 (sch b t) _ _ hw6 (by rw [sch_len]; omega)
      repeat' (first | (conv => whnf) | skip); (first | (refine VIf.mk (fun _ => ?_) (fun h => absurd (by omega) h)) | (refine VIf.mk (fun h => absurd h (by omega)) (fun _ => ?_)) | (refine VReq.mk (HExt.refl _) ?_) | (refine VReq.mk (by omega) ?_) | (refine VReq.mk (by rw [hw3]; omega) ?_) | (refine VReq.mk (by rw [hw4]; omega) ?_) | (refine VReq.mk (by rw [hw5]; omega) ?_) | (refine VReq.mk (by rw [hw6]; omega) ?_) | (refine VReq.mk (by kernel_rfl) ?_) | (refine VReq.mk hle ?_))
      refine kwp_draw (by kernel_rfl) (by kernel_rfl) rfl ?_
      repeat' (first | (conv => whnf) | skip); (first | (refine VIf.mk (fun _ => ?_) (fun h => absurd (by omega) h)) | (refine VIf.mk (fun h => absurd h (by omega)) (fun _ => ?_)) | (refine VReq.mk (HExt.refl _) ?_) | (refine VReq.mk (by omega) ?_) | (refine VReq.mk (by rw [hw3]; omega) ?_) | (refine VReq.mk (by rw [hw4]; omega) ?_) | (refine VReq.mk (by rw [hw5]; omega) ?_) | (refine VReq.mk (by rw [hw6]; omega) ?_) | (refine VReq.mk (by kernel_rfl) ?_) | (refine VReq.mk hle ?_) | (refine kwp_draw_in [0, 1, 3, 6, 7, 9, 10, 11, 12, 14, 16, 19, 20, 23, 24, 25, 26, 2, 4, 5, 8, 13, 15, 17, 18, 21, 22, 27, 28, 29] [2, 4, 15, 17] (by kernel_rfl) (by kernel_rfl) (by kernel_rfl) rfl ?_) | (refine kcall_pure (r03r_spec _ _ (by decide) _) rfl ?_) | (refine kbox_top rfl rfl ?_) | (refine kset_top rfl ?_) | (refine kget_some hg1 ?_) | (refine kget_some hg2 ?_) | (refine kget_some hg3 ?_) | (refine kget_some hg4 ?_) | (refine KEnd.mk ?_))
      refine ⟨t + 1, hlt, by omega, tsub_cons rfl (tsub_cons rfl (tsub_cons rfl (tsub_cons (congrArg I (inc64 (by omega))) tsub_nil))), ?_⟩
      refine congrArg (fun z => KH.mk H.length H [.box (b.map byteSV), .box (List.replicate 64 (U 0)), .box z]) ?_
      rw [sch, nxt, if_neg (by omega)]
      refine put_U hc94 rfl (by rw [sch_len]; exact hlt) ?_
      rw [show (Int.toNat 10) = 10 from rfl, show (Int.toNat 3) = 3 from rfl, uShr _ 10 (by omega), uShr _ 3 (by omega), uXor, uXor, uXor, uXor, uAdd, uAdd, uAdd]
      rfl
  · obtain rfl : t = 64 := by omega
    have hl : ((sch b 64).map U).length = 64 := by rw [List.length_map, sch_len]
    have hc121 : Try.prog.cellsOf 121 = 64 := by kernel_rfl
    have htk : ((((sch b 64).map U).drop 0).take (Try.prog.cellsOf 121)) = (sch b 64).map U := by rw [hc121]; exact take_drop0 hl
    have hlp : lput (List.replicate 64 (U 0)) 0 ((sch b 64).map U) = (sch b 64).map U := lput_whole (by rw [hl, List.length_replicate])
    repeat' (first | (conv => whnf) | skip); (first | (refine VIf.mk (fun h => absurd h (by omega)) (fun _ => ?_)) | (refine VReq.mk (by kernel_rfl) ?_) | (refine VReq.mk (by rw [hc121, List.drop_zero, hl]; exact Nat.le_refl 64) ?_) | (refine kbox_top rfl rfl ?_) | (rw [htk]; refine VReq.mk (cellsU _) ?_) | (refine VReq.mk (hl.trans hc121.symm) ?_) | (refine VReq.mk (by rw [hl, List.length_replicate]; exact Nat.le_refl 64) ?_) | (refine kset_top rfl ?_; rw [hlp]) | (rw [htk]; refine kdone_pure h0 (belU _) ⟨rfl, rfl⟩))
end Go.Vm
