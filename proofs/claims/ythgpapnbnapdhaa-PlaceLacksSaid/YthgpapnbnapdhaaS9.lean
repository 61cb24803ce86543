/- Layer 3 (sha): words as bytes. -/
import Derived.Test.YthgpapnbnapdhaaS8
set_option linter.unusedVariables false
set_option linter.unusedSimpArgs false
namespace Go.Vm
open Go.Proofs
set_option maxRecDepth 100000
def tell (s : V8) : List UInt8 := s.w.flatMap fun x => [byt x.toNat 24, byt x.toNat 16, byt x.toNat 8, byt x.toNat 0]
theorem tell_len (s : V8) : (tell s).length = 32 := rfl
def tlb (s : V8) (m : Nat) : List UInt8 := (tell s).take m ++ List.replicate (32 - m) 0
theorem tlb_len (s : V8) {m : Nat} (h : m ≤ 32) : (tlb s m).length = 32 := by simp [tlb, tell_len]; omega
theorem tlb_set (s : V8) {m : Nat} (h : m < 32) : (tlb s m).set m ((tell s).getD m 0) = tlb s (m + 1) := by
  unfold tlb
  have hl : ((tell s).take m).length = m := by rw [List.length_take, tell_len]; omega
  have hm : m < (tell s).length := by rw [tell_len]; omega
  have e1 : (tell s).take (m + 1) = (tell s).take m ++ [(tell s)[m]] := by rw [List.take_add_one, List.getElem?_eq_getElem hm, Option.toList_some]
  have e2 : (tell s).getD m 0 = (tell s)[m] := by rw [List.getD_eq_getElem?_getD, List.getElem?_eq_getElem hm]; rfl
  rw [List.set_append, if_neg (by omega), hl, Nat.sub_self, show 32 - m = (32 - (m + 1)) + 1 by omega, List.replicate_succ, List.set_cons_zero, e1, e2]
  simp only [List.append_assoc, List.cons_append, List.nil_append]
theorem tell_at (s : V8) {i j : Nat} (hi : i < 8) (hj : j < 4) : (tell s).getD (4 * i + j) 0 = byt (s.w.getD i 0).toNat (24 - 8 * j) := by
  obtain rfl | rfl | rfl | rfl | rfl | rfl | rfl | rfl : i = 0 ∨ i = 1 ∨ i = 2 ∨ i = 3 ∨ i = 4 ∨ i = 5 ∨ i = 6 ∨ i = 7 := by omega
  all_goals (obtain rfl | rfl | rfl | rfl : j = 0 ∨ j = 1 ∨ j = 2 ∨ j = 3 := by omega)
  all_goals rfl
theorem u32_byt (x : BitVec 32) {k : Nat} (hk : k ≤ 32) : SV.v (.int .u8 (IntKind.u8.wrap ((x.toNat : Int).fdiv (2 ^ min k IntKind.u32.bits)))) = byteSV (byt x.toNat k) := by
  rw [byt_sv]
  have h1 : min k IntKind.u32.bits = k := by have : IntKind.u32.bits = 32 := rfl; omega
  rw [h1, Int.fdiv_eq_ediv_of_nonneg _ (Int.pow_nonneg (by omega)), u8_wrap]
  have : ((x.toNat : Nat) : Int) / 2 ^ k = ((x.toNat / 2 ^ k : Nat) : Int) := by simp
  rw [this]
  congr 2
theorem w_at (s : V8) {i : Nat} (hi : i < 8) : (s.l)[((i : Nat) : Int).toNat]? = some (U (s.w.getD i 0)) := by
  obtain rfl | rfl | rfl | rfl | rfl | rfl | rfl | rfl : i = 0 ∨ i = 1 ∨ i = 2 ∨ i = 3 ∨ i = 4 ∨ i = 5 ∨ i = 6 ∨ i = 7 := by omega
  all_goals rfl
theorem told_spec (s : V8) (H : List VB) : VCalls Try.prog 111 [.agg s.l] H (fun r H' => r = .v (.string ⟨(tell s).toArray⟩) ∧ H' = H) := by
  have hc5 : Try.prog.cellsOf 5 = 1 := by kernel_rfl
  have hc94 : Try.prog.cellsOf 94 = 1 := by kernel_rfl
  have hc128 : Try.prog.cellsOf 128 = 32 := by kernel_rfl
  have hc100 : Try.prog.cellsOf 100 = 8 := by kernel_rfl
  have htk : ((s.l).drop 0).take (Try.prog.cellsOf 100) = s.l := by rw [hc100]; rfl
  refine kcalls Try.func111 rfl (by kernel_rfl) rfl ?_
  intro R0 h0 hb
  repeat' (first | (conv => whnf) | skip); (first | (refine kbox_top rfl rfl ?_) | (refine VReq.mk (by rw [hc100]; exact Nat.le_refl 8) ?_) | (refine VReq.mk (by kernel_rfl) ?_))
  rw [htk]
  (conv => whnf)
  refine kwp_loop (S := Nat) (fun i => [(3, .ptr (H.length + 1) 0), (7, .agg s.l), (8, I i)]) (fun i => ⟨H.length, H, [.box s.l, .box ((tlb s (4 * i)).map byteSV)]⟩) (fun i => i ≤ 8) (fun i => 8 - i) 0 (by omega) (tsub_cons rfl (tsub_cons rfl (tsub_cons rfl tsub_nil))) rfl (fun i hi => ⟨rfl, rfl⟩) ?_
  intro i hi
  rcases Nat.lt_or_ge i 8 with hlt | hge
  · have hg : (s.l)[((i : Nat) : Int).toNat * Try.prog.cellsOf 94]? = some (U (s.w.getD i 0)) := by rw [hc94, Nat.mul_one]; exact w_at s hlt
    repeat' (first | (conv => whnf) | skip); (first | (refine VIf.mk (fun _ => ?_) (fun h => absurd (by omega) h)) | (refine VReq.mk (by omega) ?_) | (refine VReq.mk ⟨by omega, by omega⟩ ?_) | (refine kget_some hg ?_) | (refine VReq.mk (by kernel_rfl) ?_))
    (conv => whnf)
    refine kwp_loop (S := Nat) (fun j => [(3, .ptr (H.length + 1) 0), (7, .agg s.l), (8, I i), (4, I i), (5, U (s.w.getD i 0)), (12, I j)]) (fun j => ⟨H.length, H, [.box s.l, .box ((tlb s (4 * i + j)).map byteSV)]⟩) (fun j => j ≤ 4) (fun j => 4 - j) 0 (by omega) (tsub_cons rfl (tsub_cons rfl (tsub_cons rfl (tsub_cons rfl (tsub_cons rfl (tsub_cons rfl tsub_nil)))))) rfl (fun i hi => ⟨rfl, rfl⟩) ?_
    intro j hj
    rcases Nat.lt_or_ge j 4 with hlt4 | hge4
    · have hw1 : IntKind.i64.wrap (IntKind.i64.wrap (4 * (i : Int)) + (j : Int)) = ((4 * i + j : Nat) : Int) := by rw [IntWalk.i64_in (4 * _) (by omega), IntWalk.i64_in _ (by omega)]; omega
      have hw2 : IntKind.i64.wrap (24 - IntKind.i64.wrap (8 * (j : Int))) = ((24 - 8 * j : Nat) : Int) := by rw [IntWalk.i64_in (8 * _) (by omega), IntWalk.i64_in _ (by omega)]; omega
      have hle : 0 + (IntKind.i64.wrap (IntKind.i64.wrap (4 * (i : Int)) + (j : Int))).toNat * Try.prog.cellsOf 5 + 1 ≤ ((tlb s (4 * i + j)).map byteSV).length := by rw [hw1, hc5, List.length_map, tlb_len s (by omega)]; omega
      repeat' (first | (conv => whnf) | skip); (first | (refine VIf.mk (fun _ => ?_) (fun h => absurd (by omega) h)) | (refine VReq.mk (by rw [hw1]; omega) ?_) | (refine VReq.mk (by rw [hw2]; omega) ?_) | (refine VReq.mk hle ?_) | (refine kbox_top rfl rfl ?_) | (refine kset_top rfl ?_) | (refine VReq.mk (by kernel_rfl) ?_) | (refine KEnd.mk ?_))
      refine ⟨j + 1, hlt4, by omega, tsub_cons rfl (tsub_cons rfl (tsub_cons rfl (tsub_cons rfl (tsub_cons rfl (tsub_cons (congrArg I (inc64 (by omega))) tsub_nil))))), ?_⟩
      refine congrArg (fun z => KH.mk H.length H [.box s.l, .box z]) ?_
      have hk : 4 * i + j < 32 := by omega
      rw [hw1, hw2, hc5, Int.toNat_natCast, Int.toNat_natCast, Nat.zero_add, Nat.mul_one, lput_one (by rw [List.length_map, tlb_len s (by omega)]; exact hk), show 4 * i + (j + 1) = 4 * i + j + 1 by omega, ← tlb_set s hk, tell_at s hlt hlt4, List.map_set, u32_byt _ (by omega)]
    · obtain rfl : j = 4 := by omega
      repeat' (first | (conv => whnf) | skip); (first | (refine VIf.mk (fun h => absurd h (by omega)) (fun _ => ?_)) | (refine KEnd.mk ?_))
      exact ⟨i + 1, hlt, by omega, tsub_cons rfl (tsub_cons rfl (tsub_cons (congrArg I (inc64 (by omega))) tsub_nil)), rfl⟩
  · obtain rfl : i = 8 := by omega
    have e32 : tlb s (4 * 8) = tell s := by unfold tlb; rw [List.take_of_length_le (by rw [tell_len]; decide)]; simp
    rw [e32]
    have hbl : ((tell s).map byteSV).length = 32 := by rw [List.length_map, tell_len]
    have hbt : (((tell s).map byteSV).drop (0 + 0 * Try.prog.cellsOf 5)).take (32 - 0) = (tell s).map byteSV := by rw [Nat.zero_mul]; exact take_drop0 hbl
    repeat' (first | (conv => whnf) | skip); (first | (refine VIf.mk (fun h => absurd h (by omega)) (fun _ => ?_)) | (refine VReq.mk (by omega) ?_) | (refine VReq.mk (Nat.le_refl 32) ?_) | (refine kbox_top rfl rfl ?_) | (refine VReq.mk ⟨hc5, by rw [hbl]; omega, by rw [hbt]; exact isCellB _⟩ ?_) | (refine VReq.mk rfl ?_) | (refine ⟨⟨tell s, hbt, ?_⟩⟩) | (refine kdone_pure h0 (by simp) ⟨rfl, rfl⟩))
end Go.Vm
