/- Layer 3 (sha): schedule and words: what they compute. -/
import Derived.Test.YthgpapnbnapdhaaS1
set_option linter.unusedVariables false
set_option linter.unusedSimpArgs false
namespace Go.Vm
open Go.Proofs
set_option maxRecDepth 100000
theorem schedule_spec (b : List UInt8) (hbl : b.length = 64) (id : Nat) (H : List VB) (hH : H[id]? = some (.box (b.map byteSV))) :
    VCalls Try.prog 133 [.ptr id 0] H (fun r H' => r = .agg ((sch b 64).map U) ∧ H' = H) := by
  have hc5 : Try.prog.cellsOf 5 = 1 := by kernel_rfl
  have hc94 : Try.prog.cellsOf 94 = 1 := by kernel_rfl
  have hid : id < H.length := lt_of_some hH
  refine kcalls Try.func133 rfl (by kernel_rfl) rfl ?_
  intro R0 h0 hb
  (conv => whnf)
  refine kwp_loop (S := Nat) (fun t => [(0, .ptr id 0), (2, .ptr (H.length + 0) 0), (3, .ptr (H.length + 1) 0), (7, I t)]) (fun t => ⟨H.length, H, [.box (List.replicate 64 (U 0)), .box ((sch b t).map U)]⟩) (fun t => t ≤ 64) (fun t => 64 - t) 0 (by omega) (tsub_cons rfl (tsub_cons rfl (tsub_cons rfl (tsub_cons rfl tsub_nil)))) rfl (fun i hi => ⟨rfl, rfl⟩) ?_
  intro t ht
  rcases Nat.lt_or_ge t 64 with hlt | hge
  · have hw1 : IntKind.i64.wrap (4 * (t : Int)) = ((4 * t : Nat) : Int) := by rw [IntWalk.i64_in _ (by omega)]; omega
    have hw2 : IntKind.i64.wrap (IntKind.i64.wrap (4 * (t : Int)) + 4) = ((4 * t + 4 : Nat) : Int) := by rw [hw1, IntWalk.i64_in _ (by omega)]; omega
    rcases Nat.lt_or_ge t 16 with h16 | h16
    · repeat' (first | (conv => whnf) | skip); (first | (refine VIf.mk (fun _ => ?_) (fun h => absurd (by omega) h)) | (refine VReq.mk (by rw [hw2]; omega) ?_) | (refine VReq.mk (by rw [hw2, hw1]; omega) ?_))
      have eb : SV.bsl id (0 + (IntKind.i64.wrap (4 * (t : Int))).toNat * Try.prog.cellsOf 5) (Try.prog.cellsOf 5) ((IntKind.i64.wrap (IntKind.i64.wrap (4 * (t : Int)) + 4)).toNat - (IntKind.i64.wrap (4 * (t : Int))).toNat) (64 - (IntKind.i64.wrap (4 * (t : Int))).toNat) = .bsl id (4 * t) 1 4 (64 - 4 * t) := by
        rw [hw2, hw1, hc5, Int.toNat_natCast, Int.toNat_natCast]
        congr 1 <;> omega
      have el : I (((IntKind.i64.wrap (IntKind.i64.wrap (4 * (t : Int)) + 4)).toNat - (IntKind.i64.wrap (4 * (t : Int))).toNat : Nat) : Int) = I 4 := by
        rw [hw2, hw1, Int.toNat_natCast, Int.toNat_natCast, show 4 * t + 4 - 4 * t = 4 by omega]; rfl
      refine kwp_loop (S := Nat) (fun j => [(0, .ptr id 0), (2, .ptr (H.length + 0) 0), (3, .ptr (H.length + 1) 0), (4, I t), (7, I t), (19, .bsl id (4 * t) 1 4 (64 - 4 * t)), (20, I 4), (21, I j)]) (fun j => ⟨H.length, H, [.box (List.replicate 64 (U 0)), .box (((sch b t).set t (acc b t j)).map U)]⟩) (fun j => j ≤ 4) (fun j => 4 - j) 0 (by omega) (tsub_cons rfl (tsub_cons rfl (tsub_cons rfl (tsub_cons rfl (tsub_cons rfl (tsub_cons eb (tsub_cons el (tsub_cons rfl tsub_nil)))))))) (by rw [sch_acc0 b hlt]) (fun i hi => ⟨rfl, rfl⟩) ?_
      intro j hj
      rcases Nat.lt_or_ge j 4 with hj4 | hj4
      · have hg1 := @get_b b (4 * t + ((j : Nat) : Int).toNat * 1) (4 * t + j) (by rw [Int.toNat_natCast]; omega) (by omega)
        have hg2 := @get_U Try.prog 94 hc94 ((sch b t).set t (acc b t j)) (t : Int) t rfl (by rw [List.length_set, sch_len]; exact hlt)
        have hle : 0 + ((t : Nat) : Int).toNat * Try.prog.cellsOf 94 + 1 ≤ (((sch b t).set t (acc b t j)).map U).length := by rw [hc94, Int.toNat_natCast, List.length_map, List.length_set, sch_len]; omega
        repeat' (first | (conv => whnf) | skip); (first | (refine VIf.mk (fun _ => ?_) (fun h => absurd (by omega) h)) | (refine VReq.mk (by omega) ?_) | (refine VReq.mk ⟨by omega, by omega, hc5.symm⟩ ?_) | (refine VReq.mk (by kernel_rfl) ?_) | (refine VReq.mk hle ?_) | (refine kbox_base hH ?_) | (refine kbox_top rfl rfl ?_) | (refine kset_top rfl ?_) | (refine kget_some hg1 ?_) | (refine kget_some hg2 ?_) | (refine KEnd.mk ?_))
        refine ⟨j + 1, hj4, by omega, tsub_cons rfl (tsub_cons rfl (tsub_cons rfl (tsub_cons rfl (tsub_cons rfl (tsub_cons rfl (tsub_cons rfl (tsub_cons (congrArg I (inc64 (by omega))) tsub_nil))))))), ?_⟩
        refine congrArg (fun z => KH.mk H.length H [.box (List.replicate 64 (U 0)), .box z]) ?_
        refine (put_U hc94 rfl (by rw [List.length_set, sch_len]; exact hlt) (x := acc b t (j + 1)) ?_).trans (by rw [List.set_set])
        have e1 : ((sch b t).set t (acc b t j)).getD t 0 = acc b t j := by
          rw [List.getD_eq_getElem?_getD, List.getElem?_set_self (by rw [sch_len]; exact hlt)]; rfl
        rw [e1, u8_u32]
        have := uShl (acc b t j) 8 (by omega)
        rw [show (Int.toNat 8) = 8 from rfl, this, uOr]
        rfl
      · obtain rfl : j = 4 := by omega
        repeat' (first | (conv => whnf) | skip); (first | (refine VIf.mk (fun h => absurd h (by omega)) (fun _ => ?_)) | (refine KEnd.mk ?_))
        exact ⟨t + 1, hlt, by omega, tsub_cons rfl (tsub_cons rfl (tsub_cons rfl (tsub_cons (congrArg I (inc64 (by omega))) tsub_nil))), by rw [sch_acc4 b h16]⟩
    · have hw3 : IntKind.i64.wrap ((t : Int) - 2) = ((t - 2 : Nat) : Int) := by rw [IntWalk.i64_in _ (by omega)]; omega
      have hw4 : IntKind.i64.wrap ((t : Int) - 7) = ((t - 7 : Nat) : Int) := by rw [IntWalk.i64_in _ (by omega)]; omega
      have hw5 : IntKind.i64.wrap ((t : Int) - 15) = ((t - 15 : Nat) : Int) := by rw [IntWalk.i64_in _ (by omega)]; omega
      have hw6 : IntKind.i64.wrap ((t : Int) - 16) = ((t - 16 : Nat) : Int) := by rw [IntWalk.i64_in _ (by omega)]; omega
      have hg1 := @get_U Try.prog 94 hc94 (sch b t) _ _ hw3 (by rw [sch_len]; omega)
      have hg2 := @get_U Try.prog 94 hc94 (sch b t) _ _ hw4 (by rw [sch_len]; omega)
      have hg3 := @get_U Try.prog 94 hc94 (sch b t) _ _ hw5 (by rw [sch_len]; omega)
      have hg4 := @get_U Try.prog 94 hc94 (sch b t) _ _ hw6 (by rw [sch_len]; omega)
      have hle : 0 + ((t : Nat) : Int).toNat * Try.prog.cellsOf 94 + 1 ≤ ((sch b t).map U).length := by rw [hc94, Int.toNat_natCast, List.length_map, sch_len]; omega
      repeat' (first | (conv => whnf) | skip); (first | (refine VIf.mk (fun _ => ?_) (fun h => absurd (by omega) h)) | (refine VIf.mk (fun h => absurd h (by omega)) (fun _ => ?_)) | (refine VReq.mk (HExt.refl _) ?_) | (refine VReq.mk (by omega) ?_) | (refine VReq.mk (by rw [hw3]; omega) ?_) | (refine VReq.mk (by rw [hw4]; omega) ?_) | (refine VReq.mk (by rw [hw5]; omega) ?_) | (refine VReq.mk (by rw [hw6]; omega) ?_) | (refine VReq.mk (by kernel_rfl) ?_) | (refine VReq.mk hle ?_) | (refine kwp_draw_in [0, 1, 2, 3, 4, 6, 7, 8, 9, 11, 12, 13, 14, 17, 18, 19, 20, 5, 10, 15, 16, 21, 22, 23] [5, 15] (by kernel_rfl) (by kernel_rfl) (by kernel_rfl) rfl ?_) | (refine kcall_pure (lowA_spec _ _) rfl ?_) | (refine kcall_pure (lowB_spec _ _) rfl ?_) | (refine kbox_top rfl rfl ?_) | (refine kset_top rfl ?_) | (refine kget_some hg1 ?_) | (refine kget_some hg2 ?_) | (refine kget_some hg3 ?_) | (refine kget_some hg4 ?_) | (refine KEnd.mk ?_))
      refine ⟨t + 1, hlt, by omega, tsub_cons rfl (tsub_cons rfl (tsub_cons rfl (tsub_cons (congrArg I (inc64 (by omega))) tsub_nil))), ?_⟩
      refine congrArg (fun z => KH.mk H.length H [.box (List.replicate 64 (U 0)), .box z]) ?_
      rw [sch, nxt, if_neg (by omega)]
      exact put_U hc94 rfl (by rw [sch_len]; exact hlt) (by rw [uAdd, uAdd, uAdd])
  · obtain rfl : t = 64 := by omega
    have hl : ((sch b 64).map U).length = 64 := by rw [List.length_map, sch_len]
    have hc121 : Try.prog.cellsOf 121 = 64 := by kernel_rfl
    have htk : ((((sch b 64).map U).drop 0).take (Try.prog.cellsOf 121)) = (sch b 64).map U := by rw [hc121]; exact take_drop0 hl
    have hlp : lput (List.replicate 64 (U 0)) 0 ((sch b 64).map U) = (sch b 64).map U := lput_whole (by rw [hl, List.length_replicate])
    repeat' (first | (conv => whnf) | skip); (first | (refine VIf.mk (fun h => absurd h (by omega)) (fun _ => ?_)) | (refine VReq.mk (by kernel_rfl) ?_) | (refine VReq.mk (by rw [hc121, List.drop_zero, hl]; exact Nat.le_refl 64) ?_) | (refine kbox_top rfl rfl ?_) | (rw [htk]; refine VReq.mk (cellsU _) ?_) | (refine VReq.mk (hl.trans hc121.symm) ?_) | (refine VReq.mk (by rw [hl, List.length_replicate]; exact Nat.le_refl 64) ?_) | (refine kset_top rfl ?_; rw [hlp]) | (rw [htk]; refine kdone_pure h0 (belU _) ⟨rfl, rfl⟩))
end Go.Vm
