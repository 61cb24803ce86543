/- Layer 3 (sha): what stands behind a text. (Printed by gen7.py.) -/
import Derived.Test.YthgpapnbnapdhaaS6
set_option linter.unusedVariables false
set_option linter.unusedSimpArgs false
namespace Go.Vm
open Go.Proofs
set_option maxRecDepth 100000
def zpad (n : Nat) : Nat := (119 - n % 64) % 64
def byt (m k : Nat) : UInt8 := UInt8.ofNat (m >>> k)
def be8 (m : Nat) : List UInt8 := [byt m 56, byt m 48, byt m 40, byt m 32, byt m 24, byt m 16, byt m 8, byt m 0]
def padL (n : Nat) : List UInt8 := 128 :: (List.replicate (zpad n) 0 ++ be8 (8 * n))
theorem padL_len (n : Nat) : (padL n).length = zpad n + 9 := by simp [padL, be8]
theorem u64_wrap (n : Int) : IntKind.u64.wrap n = n % 18446744073709551616 := by
  simp only [IntKind.wrap, IntKind.bits, IntKind.signed, Bool.false_and, Bool.false_eq_true, if_false]
  rfl
theorem u8_wrap (n : Int) : IntKind.u8.wrap n = n % 256 := by
  simp only [IntKind.wrap, IntKind.bits, IntKind.signed, Bool.false_and, Bool.false_eq_true, if_false]
  rfl
theorem byt_sv (m k : Nat) : byteSV (byt m k) = .v (.int .u8 ((m / 2 ^ k % 256 : Nat) : Int)) := by
  unfold byteSV byt
  rw [UInt8.toNat_ofNat', Nat.shiftRight_eq_div_pow]
theorem shr_byt {m k : Nat} (hk : k ≤ 64) : IntKind.u8.wrap (((m : Nat) : Int).fdiv (2 ^ min k IntKind.u64.bits)) = ((m / 2 ^ k % 256 : Nat) : Int) := by
  have h1 : min k IntKind.u64.bits = k := by have : IntKind.u64.bits = 64 := rfl; omega
  rw [h1, Int.fdiv_eq_ediv_of_nonneg _ (Int.pow_nonneg (by omega)), u8_wrap]
  have : ((m : Nat) : Int) / 2 ^ k = ((m / 2 ^ k : Nat) : Int) := by simp
  rw [this]; omega
theorem zpad_int (n : Nat) (hn : n ≤ 1000000) : IntKind.i64.wrap (IntKind.i64.wrap (1 + (IntKind.i64.wrap (119 - ((n : Nat) : Int).tmod 64)).tmod 64) + 8) = ((zpad n + 9 : Nat) : Int) := by
  have h1 : ((n : Nat) : Int).tmod 64 = ((n % 64 : Nat) : Int) := by rw [Int.tmod_eq_emod_of_nonneg (by omega)]; omega
  have h2 : IntKind.i64.wrap (119 - ((n % 64 : Nat) : Int)) = ((119 - n % 64 : Nat) : Int) := by rw [IntWalk.i64_in _ (by omega)]; omega
  have h3 : ((119 - n % 64 : Nat) : Int).tmod 64 = ((zpad n : Nat) : Int) := by rw [Int.tmod_eq_emod_of_nonneg (by omega)]; unfold zpad; omega
  have h4 : zpad n < 64 := by unfold zpad; omega
  rw [h1, h2, h3, IntWalk.i64_in (1 + _) (by omega), IntWalk.i64_in _ (by omega)]
  omega
theorem clamp_n (n : Nat) (hn : n ≤ 1000000) : min (max ((n : Nat) : Int) 0) 576460752303423488 = (n : Int) := by omega
/-- The bytes of the length, so far. -/
def tl (m : Nat) : Nat → List UInt8
  | 0 => [0, 0, 0, 0, 0, 0, 0, 0]
  | 1 => [0, 0, 0, 0, 0, 0, 0, byt m 0]
  | 2 => [0, 0, 0, 0, 0, 0, byt m 8, byt m 0]
  | 3 => [0, 0, 0, 0, 0, byt m 16, byt m 8, byt m 0]
  | 4 => [0, 0, 0, 0, byt m 24, byt m 16, byt m 8, byt m 0]
  | 5 => [0, 0, 0, byt m 32, byt m 24, byt m 16, byt m 8, byt m 0]
  | 6 => [0, 0, byt m 40, byt m 32, byt m 24, byt m 16, byt m 8, byt m 0]
  | 7 => [0, byt m 48, byt m 40, byt m 32, byt m 24, byt m 16, byt m 8, byt m 0]
  | _ => be8 m
def padS (n i : Nat) : List UInt8 := 128 :: (List.replicate (zpad n) 0 ++ tl (8 * n) i)
theorem tl_len (m : Nat) {i : Nat} (h : i ≤ 8) : (tl m i).length = 8 := by
  obtain rfl | rfl | rfl | rfl | rfl | rfl | rfl | rfl | rfl : i = 0 ∨ i = 1 ∨ i = 2 ∨ i = 3 ∨ i = 4 ∨ i = 5 ∨ i = 6 ∨ i = 7 ∨ i = 8 := by omega
  all_goals rfl
theorem padS_len (n : Nat) {i : Nat} (h : i ≤ 8) : (padS n i).length = zpad n + 9 := by simp [padS, tl_len _ h]
theorem padS_set (n i k : Nat) (b : UInt8) : (padS n i).set (zpad n + 1 + k) b = 128 :: (List.replicate (zpad n) 0 ++ (tl (8 * n) i).set k b) := by
  unfold padS
  rw [show zpad n + 1 + k = (zpad n + k) + 1 by omega, List.set_cons_succ, List.set_append, if_neg (by simp)]
  congr 3
  simp
theorem padS_step (n i : Nat) (h : i < 8) : (padS n i).set (zpad n + 8 - i) (byt (8 * n) (8 * i)) = padS n (i + 1) := by
  rw [show zpad n + 8 - i = zpad n + 1 + (7 - i) by omega, padS_set]
  unfold padS
  obtain rfl | rfl | rfl | rfl | rfl | rfl | rfl | rfl : i = 0 ∨ i = 1 ∨ i = 2 ∨ i = 3 ∨ i = 4 ∨ i = 5 ∨ i = 6 ∨ i = 7 := by omega
  all_goals rfl
theorem bytesP {xs : List UInt8} : ∀ x, x ∈ xs.map byteSV → SV.Bel 0 x := fun x hx => by
  obtain ⟨c, _, rfl⟩ := List.mem_map.1 hx; exact .v _
theorem elemPut_b (old : UInt8) (v : SV) (h : v.isCell = true) : elemPut (byteSV old) 0 [v] = v := rfl
theorem pad_spec (n : Nat) (hn : n ≤ 1000000) (H : List VB) : VCalls Try.prog 110 [I n] H (fun r H' => r = .list 1 false ((padL n).map byteSV) ∧ H' = H) := by
  have hc5 : Try.prog.cellsOf 5 = 1 := by kernel_rfl
  have hz4 := zpad_int n hn
  have hz : zpad n < 64 := by unfold zpad; omega
  refine kcalls Try.func110 rfl (by kernel_rfl) rfl ?_
  intro R0 h0 hb
  repeat' (first | (conv => whnf) | skip); (first | (refine VReq.mk (by decide) ?_))
  rw [clamp_n n hn]
  (conv => whnf)
  rw [hz4]
  refine kmake (e := 5) (z := [byteSV 0]) (x := byteSV 0) rfl (by kernel_rfl) (by kernel_rfl) (by kernel_rfl) (by kernel_rfl) (by rw [hc5]; exact Nat.le_refl 1) rfl (by rw [show Try.prog.bytesOf 5 = 1 by kernel_rfl]; decide) (Nat.le_refl _) (by omega) ?_
  repeat' (first | (conv => whnf) | skip); (first | (refine krow_top (j := 0) rfl rfl ?_) | (refine VReq.mk ⟨by omega, by omega, rfl, rfl, by rw [List.length_replicate]; omega⟩ ?_) | (refine VReq.mk rfl ?_) | (refine kget_some (show (List.replicate (zpad n + 9) (byteSV 0))[0]? = some (byteSV 0) from rfl) ?_) | (refine VReq.mk (by decide) ?_) | (refine kset_top (j := 0) rfl ?_) | (refine VReq.mk (by kernel_rfl) ?_))
  have hpn : ((padS n 0).map byteSV).length = zpad n + 9 := by rw [List.length_map, padS_len n (by omega)]
  have hw0 : IntKind.u64.wrap (IntKind.u64.wrap ((n : Nat) : Int) * 2 ^ min (Int.toNat 3) IntKind.u64.bits) = ((8 * n : Nat) : Int) := by
    rw [show (min (Int.toNat 3) IntKind.u64.bits) = 3 from rfl, u64_wrap, u64_wrap]; omega
  have hw1 : ∀ i : Nat, i < 8 → IntKind.i64.wrap (IntKind.i64.wrap (((zpad n + 9 : Nat) : Int) - 1) - ((i : Nat) : Int)) = ((zpad n + 8 - i : Nat) : Int) := fun i hi => by
    rw [IntWalk.i64_in (_ - 1) (by omega), IntWalk.i64_in _ (by omega)]; omega
  have hw2 : ∀ i : Nat, i < 8 → IntKind.i64.wrap (8 * ((i : Nat) : Int)) = ((8 * i : Nat) : Int) := fun i hi => by
    rw [IntWalk.i64_in _ (by omega)]; omega
  refine kwp_loop (S := Nat) (fun i => [(4, .slc (H.length + 0) 0 0 (zpad n + 9)), (5, .v (.int .u64 ((8 * n : Nat) : Int))), (23, I i)]) (fun i => ⟨H.length, H, [.row 0 1 ((padS n i).map byteSV)]⟩) (fun i => i ≤ 8) (fun i => 8 - i) 0 (by omega) (tsub_cons rfl (tsub_cons (congrArg (fun z : Int => SV.v (.int .u64 z)) hw0) (tsub_cons rfl tsub_nil))) (by
    rw [hc5]
    refine congrArg (fun z => KH.mk H.length H [.row 0 1 z]) ?_
    show (List.replicate (zpad n + 8 + 1) (byteSV 0)).set 0 (byteSV 128) = _
    rw [List.replicate_succ, List.set_cons_zero, padS, List.map_cons, List.map_append, List.map_replicate]
    congr 1
    exact (List.replicate_append_replicate (n := zpad n) (m := 8) (a := byteSV 0)).symm) (fun i hi => ⟨rfl, rfl⟩) ?_
  intro i hi
  rcases Nat.lt_or_ge i 8 with hlt | hge
  · have hg : ((padS n i).map byteSV)[0 + (IntKind.i64.wrap (IntKind.i64.wrap (((zpad n + 9 : Nat) : Int) - 1) - ((i : Nat) : Int))).toNat]? = some (byteSV ((padS n i).getD (zpad n + 8 - i) 0)) := by
      rw [hw1 i hlt, Nat.zero_add, Int.toNat_natCast, List.getElem?_map, List.getElem?_eq_getElem (by rw [padS_len n hi]; omega), List.getD_eq_getElem?_getD, List.getElem?_eq_getElem (by rw [padS_len n hi]; omega)]; rfl
    have hlen : ((padS n i).map byteSV).length = zpad n + 9 := by rw [List.length_map, padS_len n hi]
    repeat' (first | (conv => whnf) | skip); (first | (refine VIf.mk (fun _ => ?_) (fun h => absurd (by omega) h)) | (refine krow_top (j := 0) rfl rfl ?_) | (refine VReq.mk ⟨by rw [hw1 i hlt]; omega, by rw [hw1 i hlt]; omega, rfl, hc5.symm, by rw [hlen]; omega⟩ ?_) | (refine VReq.mk rfl ?_) | (refine kget_some hg ?_) | (refine VReq.mk (by rw [hw2 i hlt]; omega) ?_) | (refine VReq.mk (by decide) ?_) | (refine kset_top (j := 0) rfl ?_) | (refine VReq.mk (by kernel_rfl) ?_) | (refine VReq.mk (Nat.le_refl 1) ?_) | (refine KEnd.mk ?_))
    refine ⟨i + 1, hlt, by omega, tsub_cons rfl (tsub_cons rfl (tsub_cons (congrArg I (inc64 (by omega))) tsub_nil)), ?_⟩
    refine congrArg (fun z => KH.mk H.length H [.row 0 1 z]) ?_
    rw [hw1 i hlt, hw2 i hlt, Nat.zero_add, Int.toNat_natCast, Int.toNat_natCast, ← padS_step n i hlt, List.map_set, byt_sv]
    refine congrArg (List.set _ _) ?_
    show SV.v (.int .u8 _) = _
    rw [shr_byt (by omega)]
  · obtain rfl : i = 8 := by omega
    have hlen : ((padS n 8).map byteSV).length = zpad n + 9 := by rw [List.length_map, padS_len n hi]
    repeat' (first | (conv => whnf) | skip); (first | (refine VIf.mk (fun h => absurd h (by omega)) (fun _ => ?_)))
    exact kdone_row (j := 0) h0 rfl hlen.symm (fun x hx => (bytesP x hx).mono (Nat.zero_le _)) ⟨rfl, rfl⟩
end Go.Vm
