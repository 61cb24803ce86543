/- Layers nums, peers, baileyref12: what the functions compute; PeersMeet, peers.Match, slices.SortFunc of numbers (F0 to F7). -/
import Derived.IntWalk
import Derived.Test.YthgpapnbnapdhaaVC
import Derived.Test.YthgpapnbnapdhaaProg
import Derived.KernelRfl
import Derived.RangeFuncNested
import Derived.RangeFuncBound
import Derived.RangeFuncCalls
import Derived.RangeFuncLeaves
import Derived.Shelf.Abstract
import Derived.Shelf.RegionOpen
import Derived.WalkKit
import Derived.OwnWalkIn
import Derived.TacticsInMore
import Derived.LoopNIn
import Derived.LoopIn
/- Bits of numbers: plain laws. -/
set_option linter.unusedVariables false
set_option linter.unusedSimpArgs false
namespace Go.Vm
abbrev I (n : Int) : SV := .v (.int .i64 n)
abbrev B (b : Bool) : SV := .v (.bool b)
/-- Bit i of a number. -/
def tb (c : Int) (i : Nat) : Bool := (BitVec.ofInt 64 c).getLsbD i
def bitv (i : Int) : Int := if 0 ≤ i ∧ i ≤ 61 then 2 ^ i.toNat else 0
def has61 (c i : Int) : Bool := decide (0 ≤ i ∧ i ≤ 61) && tb c i.toNat
def mem7 (c i : Int) : Bool := decide (0 ≤ i ∧ i ≤ 6) && tb c i.toNat
def cnt (c : Int) : Nat := (tb c 0).toNat + (tb c 1).toNat + (tb c 2).toNat + (tb c 3).toNat + (tb c 4).toNat + (tb c 5).toNat + (tb c 6).toNat
theorem mem7_has {c i : Int} : (decide (0 ≤ i ∧ i ≤ 6) && has61 c i) = mem7 c i := by
  unfold has61 mem7
  by_cases h : 0 ≤ i ∧ i ≤ 6
  · have h2 : 0 ≤ i ∧ i ≤ 61 := by omega
    simp [h, h2]
  · simp [h]
theorem ofInt_pow {k : Nat} (hk : k ≤ 61) : BitVec.ofInt 64 (2 ^ k : Int) = BitVec.twoPow 64 k := by
  apply BitVec.eq_of_toNat_eq
  rw [BitVec.toNat_ofInt, BitVec.toNat_twoPow]
  have h1 : (2 : Int) ^ k = ((2 ^ k : Nat) : Int) := by simp
  rw [h1]
  omega
theorem pow_lt {k : Nat} (hk : k ≤ 61) : (2 : Nat) ^ k ≤ 2305843009213693952 := by
  have : (2 : Nat) ^ k ≤ 2 ^ 61 := Nat.pow_le_pow_right (by omega) hk
  simpa using this
theorem and_bitv (c i : Int) : (IntKind.i64.wrap ((BitVec.ofInt IntKind.i64.bits c &&& BitVec.ofInt IntKind.i64.bits (bitv i)).toNat : Int) = 0) ↔ has61 c i = false := by
  unfold bitv has61 tb
  by_cases h : 0 ≤ i ∧ i ≤ 61
  · rw [if_pos h]
    have hk : i.toNat ≤ 61 := by omega
    show IntKind.i64.wrap ((BitVec.ofInt 64 c &&& BitVec.ofInt 64 (2 ^ i.toNat)).toNat : Int) = 0 ↔ _
    rw [ofInt_pow hk, BitVec.and_twoPow]
    have hp := pow_lt hk
    have hpos : 0 < (2 : Nat) ^ i.toNat := Nat.pow_pos (by omega)
    cases hb : (BitVec.ofInt 64 c).getLsbD i.toNat
    · simp [h, IntWalk.i64_in 0 (by omega)]
    · simp only [if_true, BitVec.toNat_twoPow, h, and_self, decide_true, Bool.and_true, Bool.true_eq_false, iff_false]
      rw [Nat.mod_eq_of_lt (by omega), IntWalk.i64_in _ (by omega)]
      omega
  · rw [if_neg h]
    simp [h, IntWalk.i64_in 0 (by omega)]
theorem u64_toNat (c : Int) : IntKind.u64.wrap c = ((BitVec.ofInt 64 c).toNat : Int) := by
  rw [BitVec.toNat_ofInt]
  simp only [IntKind.wrap, IntKind.bits, IntKind.signed, Bool.false_and, Bool.false_eq_true, if_false]
  omega
theorem shr_rem (c : Int) (k : Nat) (hk : k ≤ 61) : ((IntKind.u64.wrap c).fdiv (2 ^ min k IntKind.u64.bits)).tmod 2 = 1 ↔ tb c k = true := by
  rw [u64_toNat]
  have h1 : min k IntKind.u64.bits = k := by simp [IntKind.bits]; omega
  rw [h1]
  unfold tb
  rw [← BitVec.testBit_toNat, Nat.testBit_eq_decide_div_mod_eq]
  have h2 : ((BitVec.ofInt 64 c).toNat : Int).fdiv (2 ^ k) = (((BitVec.ofInt 64 c).toNat / 2 ^ k : Nat) : Int) := by
    rw [Int.fdiv_eq_ediv_of_nonneg _ (by exact Int.pow_nonneg (by omega))]
    simp
  rw [h2]
  have h3 : ((((BitVec.ofInt 64 c).toNat / 2 ^ k : Nat) : Int)).tmod 2 = (((BitVec.ofInt 64 c).toNat / 2 ^ k % 2 : Nat) : Int) := by
    rw [Int.tmod_eq_emod_of_nonneg (Int.natCast_nonneg _)]
    simp
  rw [h3, decide_eq_true_iff]
  generalize (BitVec.ofInt 64 c).toNat / 2 ^ k % 2 = z
  constructor <;> intro h <;> omega
/-- The seven lowest bits, as a number. -/
def lo7 (c : Int) : Nat := (BitVec.ofInt 64 c &&& 127#64).toNat
theorem lo7_lt (c : Int) : lo7 c < 128 := by
  unfold lo7
  rw [BitVec.toNat_and]
  exact Nat.lt_of_le_of_lt Nat.and_le_right (by decide)
theorem tb_lo7 (c : Int) (i : Nat) (hi : i ≤ 6) : tb c i = (lo7 c).testBit i := by
  unfold tb lo7
  rw [BitVec.testBit_toNat, BitVec.getLsbD_and]
  have : (127#64).getLsbD i = true := by
    have : ∀ i, i < 7 → (127#64).getLsbD i = true := by decide
    exact this i (by omega)
  rw [this, Bool.and_true]
def pop7 (n : Nat) : Nat := (n.testBit 0).toNat + (n.testBit 1).toNat + (n.testBit 2).toNat + (n.testBit 3).toNat + (n.testBit 4).toNat + (n.testBit 5).toNat + (n.testBit 6).toNat
theorem cnt_pop (c : Int) : cnt c = pop7 (lo7 c) := by
  simp only [cnt, pop7, tb_lo7 c 0 (by omega), tb_lo7 c 1 (by omega), tb_lo7 c 2 (by omega), tb_lo7 c 3 (by omega), tb_lo7 c 4 (by omega), tb_lo7 c 5 (by omega), tb_lo7 c 6 (by omega)]
theorem and127 (c : Int) : IntKind.i64.wrap ((BitVec.ofInt IntKind.i64.bits c &&& BitVec.ofInt IntKind.i64.bits 127).toNat : Int) = (lo7 c : Int) := by
  have h := lo7_lt c
  exact IntWalk.i64_in (lo7 c : Int) (by omega)
end Go.Vm

/- Layers nums, peers: what the functions compute. (Printed by gen1.py.) -/
set_option linter.unusedVariables false
set_option linter.unusedSimpArgs false
namespace Go.Vm
open Go.Proofs
set_option maxRecDepth 100000
theorem within_spec (n lo hi : Int) (H : List VB) : VCalls Try.prog 54 [I n, I lo, I hi] H (fun r H' => r = B (decide (lo ≤ n ∧ n ≤ hi)) ∧ H' = H) := by
  refine kcalls Try.func54 rfl (by kernel_rfl) rfl ?_
  intro R0 h0 hb
  repeat' (first | (conv => whnf) | skip); (first | (refine VIf.mk (fun _ => ?_) (fun _ => ?_)) | (refine VReq.mk ?_ ?_) | (refine kdone_pure h0 (by simp) ⟨?_, rfl⟩))
  all_goals (simp_all <;> omega)
theorem bit_spec (i : Int) (H : List VB) : VCalls Try.prog 78 [I i] H (fun r H' => r = I (bitv i) ∧ H' = H) := by
  refine kcalls Try.func78 rfl (by kernel_rfl) rfl ?_
  intro R0 h0 hb
  repeat' (first | (conv => whnf) | skip); (first | (refine VIf.mk (fun _ => ?_) (fun _ => ?_)) | (refine VReq.mk ?_ ?_) | (refine kcall_bool (within_spec _ _ _ _) rfl (fun _ => ?_) (fun _ => ?_)) | (refine kdone_pure h0 (by simp) ⟨?_, rfl⟩))
  · rename_i h; exact (of_decide_eq_true h).1
  · rename_i h; have h' := of_decide_eq_true h
    have hp := pow_lt (k := i.toNat) (by omega)
    have h1 : min i.toNat IntKind.i64.bits = i.toNat := by have : IntKind.i64.bits = 64 := rfl; omega
    obtain ⟨m, hm⟩ : ∃ m, 2 ^ i.toNat = m := ⟨_, rfl⟩
    have h2 : (2 : Int) ^ i.toNat = (m : Int) := by rw [← hm]; simp
    rw [hm] at hp
    rw [h1, Int.one_mul, bitv, if_pos h', IntWalk.i64_in ((2 : Int) ^ i.toNat) (by rw [h2]; omega)]
  · rename_i h; rw [bitv, if_neg (of_decide_eq_false h)]
theorem has_spec (c i : Int) (H : List VB) : VCalls Try.prog 56 [I c, I i] H (fun r H' => r = B (has61 c i) ∧ H' = H) := by
  refine kcalls Try.func56 rfl (by kernel_rfl) rfl ?_
  intro R0 h0 hb
  repeat' (first | (conv => whnf) | skip); (first | (refine VIf.mk (fun _ => ?_) (fun _ => ?_)) | (refine VReq.mk ?_ ?_) | (refine kcall_pure (bit_spec _ _) rfl ?_) | (refine kdone_pure h0 (by simp) ⟨?_, rfl⟩))
  · rename_i h; rw [(and_bitv c i).1 h]
  · rename_i h; have : has61 c i = true := by
      cases hh : has61 c i
      · exact absurd ((and_bitv c i).2 hh) h
      · rfl
    rw [this]
theorem ones_spec (n : Nat) (hn : n < 128) (H : List VB) : VCalls Try.prog 80 [.v (.int .u64 n)] H (fun r H' => r = I (pop7 n) ∧ H' = H) := by
  refine kcalls Try.func80 rfl (by kernel_rfl) rfl ?_
  intro R0 h0 hb
  repeat' (first | (conv => whnf) | skip); (first | (refine VIf.mk (fun _ => ?_) (fun _ => ?_)) | (refine VReq.mk ?_ ?_) | (refine kdone_pure h0 (by simp) ⟨?_, rfl⟩))
  all_goals try decide
  refine congrArg (fun z : Int => SV.v (.int .i64 z)) ?_
  clear h0 hb
  revert n
  decide +kernel
theorem bits_spec (n : Nat) (hn : n < 128) (H : List VB) : VCalls Try.prog 64 [I n] H (fun r H' => r = I (pop7 n) ∧ H' = H) := by
  have hw : IntKind.u64.wrap (IntKind.i64.wrap ((BitVec.ofInt IntKind.i64.bits (n : Int) &&& BitVec.ofInt IntKind.i64.bits 4611686018427387903).toNat : Int)) = n := by
    revert n
    decide +kernel
  refine kcalls Try.func64 rfl (by kernel_rfl) rfl ?_
  intro R0 h0 hb
  repeat' (first | (conv => whnf) | skip); (first | (refine VIf.mk (fun _ => ?_) (fun _ => ?_)) | (refine VReq.mk ?_ ?_) | (refine kcall_pure (by rw [hw]; exact ones_spec n hn _) rfl ?_) | (refine kdone_pure h0 (by simp) ⟨?_, rfl⟩))
  rfl
theorem r01has_spec (c i : Int) (H : List VB) : VCalls Try.prog 63 [I c, I i] H (fun r H' => r = B (has61 c i) ∧ H' = H) := by
  refine kcalls Try.func63 rfl (by kernel_rfl) rfl ?_
  intro R0 h0 hb
  repeat' (first | (conv => whnf) | skip); (first | (refine VIf.mk (fun _ => ?_) (fun _ => ?_)) | (refine VReq.mk ?_ ?_) | (refine kdone_pure h0 (by simp) ⟨?_, rfl⟩))
  all_goals try simp only [has61]
  · assumption
  · decide
  · rename_i h1 h2 h3
    rw [(shr_rem c i.toNat (by omega)).1 h3]; simp [h1, h2]
  · rename_i h1 h2 h3
    have : tb c i.toNat = false := by cases hh : tb c i.toNat; rfl; exact absurd ((shr_rem c i.toNat (by omega)).2 hh) h3
    rw [this]; simp
  · rename_i h1 h2
    simp [h2]
  · rename_i h1
    have : ¬ (0 ≤ i ∧ i ≤ 61) := fun h => h1 h.1
    simp [this]
theorem r12has_spec (c i : Int) (H : List VB) : VCalls Try.prog 28 [I c, I i] H (fun r H' => r = B (mem7 c i) ∧ H' = H) := by
  refine kcalls Try.func28 rfl (by kernel_rfl) rfl ?_
  intro R0 h0 hb
  repeat' (first | (conv => whnf) | skip); (first | (refine VIf.mk (fun _ => ?_) (fun _ => ?_)) | (refine VReq.mk ?_ ?_) | (refine kcall_bool (r01has_spec _ _ _) rfl (fun _ => ?_) (fun _ => ?_)) | (refine kdone_pure h0 (by simp) ⟨?_, rfl⟩))
  · rename_i h1 h2 h3; rw [← mem7_has, h3]; simp [h1, h2]
  · rename_i h1 h2 h3; rw [← mem7_has, h3]; simp
  · rename_i h1 h2; have : ¬ (0 ≤ i ∧ i ≤ 6) := fun h => h2 h.2
    simp [mem7, this]
  · rename_i h1; have : ¬ (0 ≤ i ∧ i ≤ 6) := fun h => h1 h.1
    simp [mem7, this]
theorem phas_spec (c i : Int) (H : List VB) : VCalls Try.prog 18 [I c, I i] H (fun r H' => r = B (mem7 c i) ∧ H' = H) := by
  refine kcalls Try.func18 rfl (by kernel_rfl) rfl ?_
  intro R0 h0 hb
  repeat' (first | (conv => whnf) | skip); (first | (refine VIf.mk (fun _ => ?_) (fun _ => ?_)) | (refine VReq.mk ?_ ?_) | (refine kcall_bool (within_spec _ _ _ _) rfl (fun _ => ?_) (fun _ => ?_)) | (refine kcall_bool (has_spec _ _ _) rfl (fun _ => ?_) (fun _ => ?_)) | (refine kdone_pure h0 (by simp) ⟨?_, rfl⟩))
  · rename_i h1 h2; rw [← mem7_has, h1, h2]; rfl
  · rename_i h1 h2; rw [← mem7_has, h1, h2]; rfl
  · rename_i h1; rw [← mem7_has, h1]; rfl
def chk (c : Int) : Int := if 1 ≤ c ∧ c ≤ 127 then 0 else 1
theorem pcheck_spec (c : Int) (H : List VB) : VCalls Try.prog 16 [I c] H (fun r H' => r = I (chk c) ∧ H' = H) := by
  refine kcalls Try.func16 rfl (by kernel_rfl) rfl ?_
  intro R0 h0 hb
  repeat' (first | (conv => whnf) | skip); (first | (refine VIf.mk (fun _ => ?_) (fun _ => ?_)) | (refine VReq.mk ?_ ?_) | (refine kcall_bool (within_spec _ _ _ _) rfl (fun _ => ?_) (fun _ => ?_)) | (refine kdone_pure h0 (by simp) ⟨?_, rfl⟩))
  · rename_i h; rw [chk, if_pos (of_decide_eq_true h)]
  · rename_i h; rw [chk, if_neg (of_decide_eq_false h)]
theorem r12check_spec (c : Int) (H : List VB) : VCalls Try.prog 27 [I c] H (fun r H' => r = I (chk c) ∧ H' = H) := by
  refine kcalls Try.func27 rfl (by kernel_rfl) rfl ?_
  intro R0 h0 hb
  repeat' (first | (conv => whnf) | skip); (first | (refine VIf.mk (fun _ => ?_) (fun _ => ?_)) | (refine VReq.mk ?_ ?_) | (refine kdone_pure h0 (by simp) ⟨?_, rfl⟩))
  all_goals unfold chk
  all_goals (first | (rw [if_pos (by omega)]) | (rw [if_neg (by omega)]))
theorem pcount_spec (c : Int) (H : List VB) : VCalls Try.prog 29 [I c] H (fun r H' => r = I (cnt c) ∧ H' = H) := by
  refine kcalls Try.func29 rfl (by kernel_rfl) rfl ?_
  intro R0 h0 hb
  repeat' (first | (conv => whnf) | skip); (first | (refine VIf.mk (fun _ => ?_) (fun _ => ?_)) | (refine VReq.mk ?_ ?_) | (refine kcall_pure (by rw [and127]; exact bits_spec (lo7 c) (lo7_lt c) _) rfl ?_) | (refine kdone_pure h0 (by simp) ⟨?_, rfl⟩))
  rw [cnt_pop]
theorem cnt_le (c : Int) : cnt c ≤ 7 := by
  have h : ∀ b : Bool, b.toNat ≤ 1 := by decide
  have := h (tb c 0); have := h (tb c 1); have := h (tb c 2); have := h (tb c 3); have := h (tb c 4); have := h (tb c 5); have := h (tb c 6)
  unfold cnt; omega
theorem half (c : Int) : IntKind.i64.wrap ((cnt c : Int).tdiv 2) = (cnt c / 2 : Nat) := by
  have := cnt_le c
  rw [IntWalk.i64_quo _ _ (by omega)]
  omega
theorem penough_spec (c n : Int) (H : List VB) : VCalls Try.prog 55 [I c, I n] H (fun r H' => r = B (decide (((cnt c / 2 : Nat) : Int) < n)) ∧ H' = H) := by
  refine kcalls Try.func55 rfl (by kernel_rfl) rfl ?_
  intro R0 h0 hb
  repeat' (first | (conv => whnf) | skip); (first | (refine VIf.mk (fun _ => ?_) (fun _ => ?_)) | (refine VReq.mk ?_ ?_) | (refine kcall_pure (pcount_spec _ _) rfl ?_) | (refine kdone_pure h0 (by simp) ⟨?_, rfl⟩))
  · decide
  all_goals rename_i h
  all_goals rw [half] at h
  · rw [decide_eq_true h]
  · rw [decide_eq_false h]
def andI (a b : Int) : Int := IntKind.i64.wrap ((BitVec.ofInt IntKind.i64.bits a &&& BitVec.ofInt IntKind.i64.bits b).toNat : Int)
def xorI (a b : Int) : Int := IntKind.i64.wrap ((BitVec.ofInt IntKind.i64.bits a ^^^ BitVec.ofInt IntKind.i64.bits b).toNat : Int)
/-- More than half. -/
def quo (c y : Int) : Bool := decide (0 < cnt (andI c y)) && decide (cnt c / 2 < cnt (andI c y))
theorem pquorum_spec (c y : Int) (H : List VB) : VCalls Try.prog 17 [I c, I y] H (fun r H' => r = B (quo c y) ∧ H' = H) := by
  refine kcalls Try.func17 rfl (by kernel_rfl) rfl ?_
  intro R0 h0 hb
  repeat' (first | (conv => whnf) | skip); (first | (refine VIf.mk (fun _ => ?_) (fun _ => ?_)) | (refine VReq.mk ?_ ?_) | (refine kcall_pure (pcount_spec _ _) rfl ?_) | (refine kcall_bool (penough_spec _ _ _) rfl (fun _ => ?_) (fun _ => ?_)) | (refine kdone_pure h0 (by simp) ⟨?_, rfl⟩))
  all_goals unfold quo
  · rename_i h1 h2
    have h3 := of_decide_eq_true h2
    rw [decide_eq_true (by exact Int.ofNat_lt.1 h1), decide_eq_true (by exact Int.ofNat_lt.1 h3)]; rfl
  · rename_i h1 h2
    have h3 := of_decide_eq_false h2
    rw [decide_eq_false (p := cnt c / 2 < _) (by exact fun h => h3 (Int.ofNat_lt.2 h)), Bool.and_false]
  · rename_i h1
    rw [decide_eq_false (by exact fun h => h1 (Int.ofNat_lt.2 h)), Bool.false_and]
/-- May members become others? -/
def chg (o c : Int) : Int := if chk o = 0 ∧ chk c = 0 ∧ cnt (xorI o c) = 1 then 0 else 19
theorem pchange_spec (o c : Int) (H : List VB) : VCalls Try.prog 14 [I o, I c] H (fun r H' => r = I (chg o c) ∧ H' = H) := by
  refine kcalls Try.func14 rfl (by kernel_rfl) rfl ?_
  intro R0 h0 hb
  repeat' (first | (conv => whnf) | skip); (first | (refine VIf.mk (fun _ => ?_) (fun _ => ?_)) | (refine VReq.mk ?_ ?_) | (refine kcall_pure (pcheck_spec _ _) rfl ?_) | (refine kcall_pure (pcount_spec _ _) rfl ?_) | (refine kdone_pure h0 (by simp) ⟨?_, rfl⟩))
  all_goals unfold chg
  · rename_i h1 h2 h3; rw [if_pos ⟨h1, h2, by exact Int.ofNat_inj.1 h3⟩]
  · rename_i h1 h2 h3; rw [if_neg (by exact fun h => h3 (by exact congrArg Int.ofNat h.2.2))]
  · rename_i h1 h2; rw [if_neg (by exact fun h => h2 h.2.1)]
  · rename_i h1; rw [if_neg (by exact fun h => h1 h.1)]
end Go.Vm

/- Layer baileyref12: what the functions compute. -/
set_option linter.unusedVariables false
set_option linter.unusedSimpArgs false
namespace Go.Vm
open Go.Proofs
set_option maxRecDepth 100000
theorem inc64 {i : Nat} (h : i < 4611686018427387904) : IntKind.i64.wrap ((i : Int) + 1) = ((i + 1 : Nat) : Int) := by
  rw [IntWalk.i64_in _ (by omega)]; omega
/-- The members below n. -/
def mems (c : Int) (n : Nat) : List SV := ((List.range n).filter (tb c ·)).map fun i : Nat => I i
theorem mems_succ (c : Int) (n : Nat) : mems c (n + 1) = if tb c n = true then mems c n ++ [I n] else mems c n := by
  unfold mems
  rw [List.range_succ, List.filter_append, List.map_append]
  cases h : tb c n <;> simp [h]
theorem mems_len (c : Int) (n : Nat) : (mems c n).length ≤ n := by
  unfold mems
  rw [List.length_map]
  exact Nat.le_trans (List.length_filter_le _ _) (by simp)
theorem mems_bel (c : Int) (n k : Nat) : ∀ x, x ∈ mems c n → SV.Bel k x := fun x hx => by
  obtain ⟨i, _, rfl⟩ := List.mem_map.1 hx
  exact .v _
theorem mem7_nat {c : Int} {i : Nat} (h : i < 7) : mem7 c i = tb c i := by unfold mem7; rw [decide_eq_true (by omega)]; rfl
theorem mems_cnt (c : Int) : (mems c 7).length = cnt c := by
  have h : ∀ n, (mems c (n + 1)).length = (mems c n).length + (tb c n).toNat := fun n => by
    rw [mems_succ]; cases tb c n <;> simp
  rw [h, h, h, h, h, h, h]
  simp [mems, cnt]
theorem r12list_spec (c : Int) (H : List VB) : VCalls Try.prog 35 [I c] H (fun r H' => r = .list 1 false (mems c 7) ∧ H' = H) := by
  refine kcalls Try.func35 rfl (by kernel_rfl) rfl ?_
  intro R0 h0 hb
  conv => whnf
  refine kwp_nilrow 3 1 rfl rfl ?_
  refine kwp_loop (S := Nat) (fun i => [(0, I c), (3, .slc (H.length + 0) (mems c i).length 0 (mems c i).length), (4, I i)]) (fun i => ⟨H.length, H, [.row (mems c i).length 1 (mems c i)]⟩) (fun i => i ≤ 7) (fun i => 7 - i) 0 (by omega) (tsub_cons rfl (tsub_cons rfl (tsub_cons rfl tsub_nil))) rfl (fun i hi => ⟨rfl, rfl⟩) ?_
  intro i hi
  have hl := mems_len c i
  repeat' (first | (conv => whnf) | skip); (first | (refine VIf.mk (fun _ => ?_) (fun _ => ?_)) | (refine VReq.mk (by kernel_rfl) ?_) | (refine kcall_bool (r12has_spec _ _ _) rfl (fun _ => ?_) (fun _ => ?_)) | (refine kdone_row h0 rfl rfl ?_ ⟨?_, rfl⟩) | (refine KEnd.mk ?_) | (refine kb_append_top (n := 1) (ys := [I i]) rfl (by kernel_rfl) rfl rfl rfl (by simp only [List.length_cons, List.length_nil]; omega) (by simp [SV.cells, svCell, svValid, Value.oneCell']) ?_))
  · rename_i h1 h2
    have h3 := mems_succ c i
    rw [if_pos (by rw [← mem7_nat (by omega)]; exact h2)] at h3
    refine ⟨i + 1, by omega, by omega, tsub_cons rfl (tsub_cons ?_ (tsub_cons ?_ tsub_nil)), ?_⟩
    · show SV.slc (H.length + 0) ((mems c i).length + 1) 0 (mems c i ++ [I i]).length = _
      rw [h3, List.length_append]; rfl
    · exact congrArg I (inc64 (by omega))
    · rw [h3]; simp
  · rename_i h1 h2
    have h3 := mems_succ c i
    rw [if_neg (by rw [← mem7_nat (by omega), h2]; simp)] at h3
    refine ⟨i + 1, by omega, by omega, tsub_cons rfl (tsub_cons ?_ (tsub_cons ?_ tsub_nil)), ?_⟩
    · rw [h3]; rfl
    · exact congrArg I (inc64 (by omega))
    · rw [h3]
  · exact mems_bel c i _
  · rename_i h1
    have : i = 7 := by omega
    rw [this]
theorem r12count_spec (c : Int) (H : List VB) : VCalls Try.prog 30 [I c] H (fun r H' => r = I (cnt c) ∧ H' = H) := by
  refine kcalls Try.func30 rfl (by kernel_rfl) rfl ?_
  intro R0 h0 hb
  repeat' (first | (conv => whnf) | skip); (first | (refine VIf.mk (fun _ => ?_) (fun _ => ?_)) | (refine VReq.mk (by kernel_rfl) ?_) | (refine kcall_pure (r12list_spec _ _) rfl ?_) | (refine kdone_pure h0 (by simp) ⟨?_, rfl⟩))
  rw [mems_cnt]
/-- How many bits of the first n differ. -/
def dif (o c : Int) : Nat → Nat
  | 0 => 0
  | n + 1 => dif o c n + (tb o n ^^ tb c n).toNat
theorem dif_le (o c : Int) : ∀ n, dif o c n ≤ n
  | 0 => Nat.le_refl _
  | n + 1 => by
    have := dif_le o c n
    have h : ∀ b : Bool, b.toNat ≤ 1 := by decide
    have := h (tb o n ^^ tb c n)
    simp only [dif]; omega
theorem r12change_spec (o c : Int) (H : List VB) : VCalls Try.prog 15 [I o, I c] H (fun r H' => r = I (if chk o = 0 ∧ chk c = 0 ∧ dif o c 7 = 1 then 0 else 19) ∧ H' = H) := by
  refine kcalls Try.func15 rfl (by kernel_rfl) rfl ?_
  intro R0 h0 hb
  conv => whnf
  refine kwp_loop (S := Nat) (fun i => [(0, I o), (1, I c), (5, I (dif o c i)), (6, I i)]) (fun i => ⟨H.length, H, []⟩) (fun i => i ≤ 7) (fun i => 7 - i) 0 (by omega) (tsub_cons rfl (tsub_cons rfl (tsub_cons rfl (tsub_cons rfl tsub_nil)))) rfl (fun i hi => ⟨rfl, rfl⟩) ?_
  intro i hi
  have hd := dif_le o c i
  repeat' (first | (conv => whnf) | skip); (first | (refine VIf.mk (fun _ => ?_) (fun _ => ?_)) | (refine VReq.mk (by kernel_rfl) ?_) | (refine kcall_bool (r12has_spec _ _ _) rfl (fun _ => ?_) (fun _ => ?_)) | (refine kcall_pure (r12check_spec _ _) rfl ?_) | (refine kdone_pure h0 (by simp) ⟨?_, rfl⟩) | (refine KEnd.mk ?_))
  case refine_1.refine_1.refine_1 =>
    rename_i h1 h2 h3
    rw [mem7_nat (by omega)] at h2 h3
    exact ⟨i + 1, by omega, by omega, tsub_cons rfl (tsub_cons rfl (tsub_cons (by show I _ = I _; simp only [dif, h2, h3]; rfl) (tsub_cons (congrArg I (inc64 (by omega))) tsub_nil))), rfl⟩
  case refine_1.refine_1.refine_2 =>
    rename_i h1 h2 h3
    rw [mem7_nat (by omega)] at h2 h3
    exact ⟨i + 1, by omega, by omega, tsub_cons rfl (tsub_cons rfl (tsub_cons (by simp only [dif, h2, h3]; exact congrArg I (inc64 (by omega))) (tsub_cons (congrArg I (inc64 (by omega))) tsub_nil))), rfl⟩
  case refine_1.refine_2.refine_1 =>
    rename_i h1 h2 h3
    rw [mem7_nat (by omega)] at h2 h3
    exact ⟨i + 1, by omega, by omega, tsub_cons rfl (tsub_cons rfl (tsub_cons (by simp only [dif, h2, h3]; exact congrArg I (inc64 (by omega))) (tsub_cons (congrArg I (inc64 (by omega))) tsub_nil))), rfl⟩
  case refine_1.refine_2.refine_2 =>
    rename_i h1 h2 h3
    rw [mem7_nat (by omega)] at h2 h3
    exact ⟨i + 1, by omega, by omega, tsub_cons rfl (tsub_cons rfl (tsub_cons (by show I _ = I _; simp only [dif, h2, h3]; rfl) (tsub_cons (congrArg I (inc64 (by omega))) tsub_nil))), rfl⟩
  · rename_i h0 h1 h2 h3; obtain rfl : i = 7 := by omega
    rw [if_pos ⟨h1, h2, by omega⟩]
  · rename_i h0 h1 h2 h3; obtain rfl : i = 7 := by omega
    rw [if_neg (fun h => h3 (by omega))]
  · rename_i h3; rw [if_neg (fun h => h3 h.2.1)]
  · rename_i h3; rw [if_neg (fun h => h3 h.1)]
theorem mems_get {c : Int} {n k : Nat} (h : k < (mems c n).length) : ∃ j : Nat, j < n ∧ tb c j = true ∧ (mems c n)[k]? = some (I j) := by
  rw [List.getElem?_eq_getElem h]
  have hm := List.getElem_mem h
  obtain ⟨j, hj, e⟩ := List.mem_map.1 hm
  obtain ⟨h1, h2⟩ := List.mem_filter.1 hj
  exact ⟨j, by simpa using h1, h2, by rw [← e]⟩
/-- How many of a list a number has. -/
def cntIn (y : Int) : List SV → Nat
  | [] => 0
  | x :: xs => (match x with | .v (.int _ j) => (tb y j.toNat).toNat | _ => 0) + cntIn y xs
theorem cntIn_append (y : Int) : ∀ xs ys : List SV, cntIn y (xs ++ ys) = cntIn y xs + cntIn y ys
  | [], ys => by simp [cntIn]
  | x :: xs, ys => by simp only [List.cons_append, cntIn, cntIn_append y xs ys]; omega
theorem cntIn_le (y : Int) : ∀ xs : List SV, cntIn y xs ≤ xs.length
  | [] => Nat.le_refl _
  | x :: xs => by
    have := cntIn_le y xs
    have h : ∀ b : Bool, b.toNat ≤ 1 := by decide
    simp only [cntIn, List.length_cons]
    split
    · have := h (tb y ‹Int›.toNat); omega
    · omega
theorem cntIn_mems (c y : Int) : cntIn y (mems c 7) = (tb c 0 && tb y 0).toNat + (tb c 1 && tb y 1).toNat + (tb c 2 && tb y 2).toNat + (tb c 3 && tb y 3).toNat + (tb c 4 && tb y 4).toNat + (tb c 5 && tb y 5).toNat + (tb c 6 && tb y 6).toNat := by
  have h : ∀ n, cntIn y (mems c (n + 1)) = cntIn y (mems c n) + (tb c n && tb y n).toNat := fun n => by
    rw [mems_succ]
    cases tb c n
    · simp
    · simp [cntIn_append, cntIn]
  rw [h, h, h, h, h, h, h]
  simp [mems, cntIn]
theorem r12quorum_spec (c y : Int) (H : List VB) : VCalls Try.prog 31 [I c, I y] H (fun r H' => r = B (decide ((mems c 7).length < 2 * cntIn y (mems c 7))) ∧ H' = H) := by
  refine kcalls Try.func31 rfl (by kernel_rfl) rfl ?_
  intro R0 h0 hb
  have hl := mems_len c 7
  repeat' (first | (conv => whnf) | skip); (first | (refine kcall_pure (r12list_spec _ _) rfl ?_))
  refine kwp_loop (S := Nat) (fun i => [(0, I c), (1, I y), (5, I (cntIn y ((mems c 7).take i))), (6, .list 1 false (mems c 7)), (7, I i)]) (fun i => ⟨H.length, H, []⟩) (fun i => i ≤ (mems c 7).length) (fun i => (mems c 7).length - i) 0 (by omega) (tsub_cons rfl (tsub_cons rfl (tsub_cons rfl (tsub_cons rfl (tsub_cons rfl tsub_nil))))) rfl (fun i hi => ⟨rfl, rfl⟩) ?_
  intro i hi
  have hd := cntIn_le y ((mems c 7).take i)
  have hd2 : ((mems c 7).take i).length ≤ 7 := by simp; omega
  rcases Nat.lt_or_ge i (mems c 7).length with hlt | hge
  · obtain ⟨j, hj, hjt, hg⟩ := mems_get hlt
    have htk : (mems c 7).take (i + 1) = (mems c 7).take i ++ [I j] := by rw [List.take_add_one, hg]; rfl
    repeat' (first | (conv => whnf) | skip); (first | (refine VIf.mk (fun _ => ?_) (fun _ => by omega)) | (refine VIf.mk (fun _ => ?_) (fun _ => ?_)) | (refine VReq.mk (by kernel_rfl) ?_) | (refine VReq.mk ⟨by kernel_rfl, by omega⟩ ?_) | (refine kget_some hg ?_) | (refine kget_some rfl ?_) | (refine kcall_bool (r12has_spec _ _ _) rfl (fun _ => ?_) (fun _ => ?_)) | (refine kdone_pure h0 (by simp) ⟨?_, rfl⟩) | (refine KEnd.mk ?_))
    all_goals rename_i h1 h2
    all_goals rw [mem7_nat (by omega)] at h2
    · refine ⟨i + 1, hlt, by omega, tsub_cons rfl (tsub_cons rfl (tsub_cons ?_ (tsub_cons rfl (tsub_cons (congrArg I (inc64 (by omega))) tsub_nil)))), rfl⟩
      rw [htk, cntIn_append]
      simp only [cntIn, Int.toNat_natCast, h2]
      exact congrArg I (inc64 (by omega))
    · refine ⟨i + 1, hlt, by omega, tsub_cons rfl (tsub_cons rfl (tsub_cons ?_ (tsub_cons rfl (tsub_cons (congrArg I (inc64 (by omega))) tsub_nil)))), rfl⟩
      rw [htk, cntIn_append]
      simp only [cntIn, Int.toNat_natCast, h2]
      rfl
  · have : i = (mems c 7).length := by omega
    subst this
    repeat' (first | (conv => whnf) | skip); (first | (refine VIf.mk (fun _ => by omega) (fun _ => ?_)) | (refine VIf.mk (fun _ => ?_) (fun _ => ?_)) | (refine VReq.mk (by kernel_rfl) ?_) | (refine kdone_pure h0 (by simp) ⟨?_, rfl⟩) | (refine KEnd.mk ?_))
    all_goals rename_i h1 h2
    all_goals rw [List.take_length] at *
    all_goals rw [IntWalk.i64_in _ (by omega)] at h2
    · rw [decide_eq_true (by omega)]
    · rw [decide_eq_false (by omega)]
end Go.Vm

/- peers.members: the iterator's contract. -/
set_option linter.unusedVariables false
set_option linter.unusedSimpArgs false
namespace Go.Vm
open Go.RowKit Go.Shelf Go.Proofs
abbrev Wd : Fence := WF none
theorem cell_kept {w w' : World} (hg : w.grownBy w' none) {b o : Nat} {v : Value} (h : w.cell? ⟨b, o, none⟩ = some v) : w'.cell? ⟨b, o, none⟩ = some v := by
  have hb : b < w.heap.size := by
    rcases Nat.lt_or_ge b w.heap.size with h1 | h1
    · exact h1
    · simp [World.cell?, Array.getElem?_eq_none h1] at h
  exact (World.cell?_of_block (hg.block b hb (by simp))).trans h
theorem grow0 {w : World} {R' : Env} (e : Ext (env0 w) R') : w.grownBy R'.w none :=
  ⟨e.os, e.tape, e.output, e.size, fun k hk _ => e.keep k hk fun id a h _ => by obtain ⟨b, h1, _⟩ := h; simp [env0] at h1⟩
theorem phas_in (n : Nat) (c i : Int) (w : World) : CallsIn Wd n Try.prog 18 #[.int .i64 c, .int .i64 i] w fun e w' => e = .returned (.bool (mem7 c i)) ∧ w.grownBy w' none := by
  refine callsIn_WF (((phas_spec c i []).2 (env0 w) _ (hrep0 w) rfl (repL_vs _ [.int .i64 c, .int .i64 i])).mono ?_)
  rintro e w' ⟨v, r, R', rfl, rfl, h1, h2, h3, rfl, h4⟩
  rw [rep_v.1 h3]
  exact ⟨rfl, grow0 h1⟩
abbrev M7 := { x : Int // 0 ≤ x ∧ x < 7 }
/-- The members below n, as numbers. -/
def memA (c : Int) : Nat → List M7
  | 0 => []
  | n + 1 => if h : tb c n = true ∧ n < 7 then memA c n ++ [⟨n, by omega⟩] else memA c n
theorem memA_no {c : Int} {n : Nat} (h : tb c n = false) : memA c (n + 1) = memA c n := by simp [memA, h]
theorem memA_yes {c k : Int} (h0 : 0 ≤ k ∧ k < 7) (h : tb c k.toNat = true) : memA c (k.toNat + 1) = memA c k.toNat ++ [⟨k, h0⟩] := by
  have h7 : k.toNat < 7 := by omega
  have hk : ((k.toNat : Nat) : Int) = k := by omega
  simp only [memA, h, h7, and_self, dite_true, hk]
theorem memA_len (c : Int) : ∀ n, (memA c n).length ≤ n
  | 0 => Nat.le_refl _
  | n + 1 => by
    have := memA_len c n
    unfold memA
    split
    · simp; omega
    · omega
theorem memA_prefix (c : Int) : ∀ (n k : Nat), memA c n <+: memA c (n + k)
  | n, 0 => List.prefix_refl _
  | n, k + 1 => by
    refine (memA_prefix c n k).trans ?_
    rw [← Nat.add_assoc]
    show _ <+: memA c (n + k + 1)
    conv => rhs; unfold memA
    split
    · exact List.prefix_append _ _
    · exact List.prefix_refl _
set_option maxRecDepth 100000 in
set_option maxHeartbeats 1000000 in
theorem members1_in {F : Fence} (hHas : ∀ (n : Nat) (c i : Int) (w : World), CallsIn F n Try.prog 18 #[.int .i64 c, .int .i64 i] w fun e w' => e = .returned (.bool (mem7 c i)) ∧ w.grownBy w' none) (hro : F.round = none) (h76 : F.fn 76) (h18 : F.fn 18) (n : Nat) (hn : 1 ≤ n) (l Bm o : Nat) (c : Int) (J Jx : List M7 → World → Prop)
    (hY : ∀ pre x W, J pre W → pre.length < 7 → YieldAt F (n - 1) Try.prog l #[.int .i64 x.1] W fun e W' =>
      (e = .returned (.bool true) ∧ J (pre ++ [x]) W' ∧ W'.cell? ⟨Bm, o, none⟩ = W.cell? ⟨Bm, o, none⟩) ∨ (e = .returned (.bool false) ∧ Jx (pre ++ [x]) W'))
    (W : World) (hJ : AbidesFrom W.heap.size J) (hBm : W.cell? ⟨Bm, o, none⟩ = some (.int .i64 c)) (h0 : J [] W) :
    CallsIn F n Try.prog 76 #[.func (.yield l) #[] #[], .pointer (some ⟨Bm, o, none⟩)] W fun e W' => (∃ v, e = .returned v) ∧
      ((∃ ys, ys = memA c 7 ∧ J ys W') ∨ (∃ pre, pre <+: memA c 7 ∧ Jx pre W')) := by
  refine callsIn_of_wp Try.func76 rfl h76 ?_ hro
  simp only [Try.ntmps76, List.size_toArray, List.length_cons, List.length_nil, Nat.reduceAdd, Nat.reduceSub, Array.replicate_succ, Array.replicate_zero, List.push_toArray, List.append_toArray, List.nil_append, List.cons_append]
  gi_wp2
  gi_loopw [4] (fun p wr => ∃ k : Int, p = .int .i64 k ∧ 0 ≤ k ∧ k ≤ 7 ∧ wr.cell? ⟨Bm, o, none⟩ = some (.int .i64 c) ∧ J (memA c k.toNat) wr)
    (fun p wr => 7 - (intOf p).toNat)
  case atStart =>
    exact ⟨0, rfl, by omega, by omega, hBm, h0⟩
  case round =>
    obtain ⟨k, rfl, hk0, hk7, hc, hJs⟩ := hrel
    by_cases hlt : k < 7
    · have hm : mem7 c k = tb c k.toNat := by unfold mem7; rw [decide_eq_true (by omega)]; rfl
      cases hb : tb c k.toNat with
      | false =>
        rw [hb] at hm
        have hs : memA c (k.toNat + 1) = memA c k.toNat := memA_no hb
        gi_wp2_with (gi_at_call 18; refine (hHas _ c k _).mono ?_; rw [hm]; rintro e w' ⟨rfl, hg⟩)
        refine ⟨fun _ h => (by cases h), ?_⟩
        gi_wp2
        go_roundw
        case rel =>
          refine ⟨k + 1, ?_, by omega, by omega, (cell_kept hg hc), ?_⟩
          · first | rfl | simp | (congr 1; omega)
          · rw [show (k + 1).toNat = k.toNat + 1 by omega, hs]
            exact hJ _ _ _ none hJs hg (fun r e => by cases e)
        case measure => simp [intOf]; omega
      | true =>
        rw [hb] at hm
        have hs : memA c (k.toNat + 1) = memA c k.toNat ++ [⟨k, hk0, hlt⟩] := memA_yes ⟨hk0, hlt⟩ hb
        have hlen := memA_len c k.toNat
        gi_wp2_with (gi_at_call 18; refine (hHas _ c k _).mono ?_; rw [hm]; rintro e w' ⟨rfl, hg⟩; have hJ2 : J (memA c k.toNat) w' := hJ _ _ _ none hJs hg (fun r e => by cases e); obtain ⟨fn, tmps, assign, body, hy, hR⟩ := hY (memA c k.toNat) ⟨k, hk0, hlt⟩ w' hJ2 (by omega))
        have hc2 := cell_kept hg hc
        refine hR.mono ?_
        rintro e W3 (⟨rfl, hJ3, hk3⟩ | ⟨rfl, hJx3⟩)
        · have hc3 := hk3.trans hc2
          gi_wp2
          go_roundw
          case rel =>
            refine ⟨k + 1, ?_, by omega, by omega, hc3, ?_⟩
            · first | rfl | simp | (congr 1; omega)
            · rw [show (k + 1).toNat = k.toNat + 1 by omega, hs]
              exact hJ3
          case measure => simp [intOf]; omega
        · gi_wp2
          refine bodyPost_ret (results_none rfl _ _ _) rfl ?_
          refine ⟨⟨_, rfl⟩, .inr ⟨_, ?_, hJx3⟩⟩
          rw [← hs, show (7 : Nat) = k.toNat + 1 + (6 - k.toNat) by omega]
          exact memA_prefix c _ _
    · have : k = 7 := by omega
      subst this
      gi_wp2
      go_end0
      exact ⟨⟨_, rfl⟩, .inl hJs⟩
/-- The iterator that peers.members hands back. -/
theorem members_stops (n : Nat) (hn : 1 ≤ n) (Bm o : Nat) (c : Int) (w : World) (hc : w.cell? ⟨Bm, o, none⟩ = some (.int .i64 c)) :
    SeqStopsK Wd n Try.prog 76 #[.pointer (some ⟨Bm, o, none⟩)] (fun x : M7 => #[Value.int .i64 x.1]) (SameAt Bm o) (fun ys => ys = memA c 7) (fun pre => pre <+: memA c 7) 7 w := fun l J Jx W hW hJ _ hY h0 => by
  have hb : Bm < w.heap.size := by
    rcases Nat.lt_or_ge Bm w.heap.size with h1 | h1
    · exact h1
    · simp [World.cell?, Array.getElem?_eq_none h1] at hc
  exact members1_in phas_in rfl trivial trivial n hn l Bm o c J Jx hY W hJ ((hW.cell (p := ⟨Bm, o, none⟩) hb).trans hc) h0
end Go.Vm

/- slices.SortFunc over a few numbers. -/
set_option linter.unusedVariables false
set_option linter.unusedSimpArgs false
namespace Go.Vm
open Go.Proofs
set_option maxRecDepth 100000
/-- What a comparison of numbers computes. -/
def CmpIs (P : Program) (f : FuncId) (cmp : Int → Int → Int) : Prop := ∀ (x y : Int) (H : List VB), VCalls P f [I x, I y] H fun r H' => r = I (cmp x y) ∧ H' = H
def rowI (g : Nat) (ys : List Int) : VB := .row g 1 (ys.map I)
def swp (ys : List Int) (j : Nat) : List Int := (ys.set j (ys.getD (j - 1) 0)).set (j - 1) (ys.getD j 0)
/-- Sorted up to i, but for what stands at j. -/
def Srt (cmp : Int → Int → Int) (ys : List Int) (i j : Nat) : Prop := ∀ p q, p < q → q ≤ i → q ≠ j → ¬ cmp (ys.getD q 0) (ys.getD p 0) < 0
theorem getI {ys : List Int} {k : Nat} (h : k < ys.length) : (ys.map I)[k]? = some (I (ys.getD k 0)) := by
  rw [List.getElem?_map, List.getElem?_eq_getElem h, List.getD_eq_getElem?_getD, List.getElem?_eq_getElem h]; rfl
theorem swp_len (ys : List Int) (j : Nat) : (swp ys j).length = ys.length := by simp [swp]
theorem swp_get {ys : List Int} {j : Nat} (hj : 0 < j) (hl : j < ys.length) (k : Nat) : (swp ys j).getD k 0 = if k = j - 1 then ys.getD j 0 else if k = j then ys.getD (j - 1) 0 else ys.getD k 0 := by
  unfold swp
  simp only [List.getD_eq_getElem?_getD, List.getElem?_set, List.length_set]
  by_cases h1 : k = j - 1
  · subst h1
    have : j - 1 < ys.length := by omega
    simp [this]
  · have h1' : ¬ j - 1 = k := fun h => h1 h.symm
    rw [if_neg h1', if_neg h1]
    by_cases h2 : k = j
    · subst h2; simp [hl]
    · have h2' : ¬ j = k := fun h => h2 h.symm
      rw [if_neg h2', if_neg h2]
theorem swp_perm {ys : List Int} {j : Nat} (hj : 0 < j) (hl : j < ys.length) : (swp ys j).Perm ys := by
  have := @List.set_set_perm _ ys j (j - 1) hl (by omega)
  unfold swp
  rw [List.getD_eq_getElem?_getD, List.getElem?_eq_getElem (by omega), List.getD_eq_getElem?_getD, List.getElem?_eq_getElem hl]
  exact this
theorem srt_done {cmp : Int → Int → Int} (htr : ∀ a b c, ¬ cmp a b < 0 → ¬ cmp b c < 0 → ¬ cmp a c < 0) {zs : List Int} {i j : Nat} (h : Srt cmp zs i j) (hx : j = 0 ∨ ¬ cmp (zs.getD j 0) (zs.getD (j - 1) 0) < 0) : Srt cmp zs (i + 1) (i + 1) := by
  intro p q hpq hq hne
  by_cases hqj : q = j
  · subst hqj
    rcases hx with hx | hx
    · omega
    · by_cases hp : p = q - 1
      · subst hp; exact hx
      · exact htr _ _ _ hx (h p (q - 1) (by omega) (by omega) (by omega))
  · exact h p q hpq (by omega) hqj
theorem srt_swap {cmp : Int → Int → Int} (has : ∀ a b, cmp a b < 0 → ¬ cmp b a < 0) {zs : List Int} {i j : Nat} (h : Srt cmp zs i j) (hj : 0 < j) (hji : j ≤ i) (hil : i < zs.length) (hl : cmp (zs.getD j 0) (zs.getD (j - 1) 0) < 0) : Srt cmp (swp zs j) i (j - 1) := by
  intro p q hpq hq hne
  rw [swp_get hj (by omega), swp_get hj (by omega), if_neg hne]
  by_cases hqj : q = j
  · subst hqj
    rw [if_pos rfl]
    by_cases hp : p = q - 1
    · rw [if_pos hp]; exact has _ _ hl
    · rw [if_neg hp, if_neg (by omega)]
      exact h p (q - 1) (by omega) (by omega) (by omega)
  · rw [if_neg hqj]
    by_cases hp : p = j - 1
    · rw [if_pos hp]; exact h j q (by omega) hq hqj
    · rw [if_neg hp]
      by_cases hp2 : p = j
      · rw [if_pos hp2]; exact h (j - 1) q (by omega) hq hqj
      · rw [if_neg hp2]; exact h p q hpq hq hqj
theorem ins_spec {f : FuncId} {cmp : Int → Int → Int} (hcmp : CmpIs Try.prog f cmp) (has : ∀ a b, cmp a b < 0 → ¬ cmp b a < 0) (htr : ∀ a b c, ¬ cmp a b < 0 → ¬ cmp b c < 0 → ¬ cmp a c < 0) (H : List VB) (id g : Nat) (xs : List Int) (hr : H[id]? = some (rowI g xs)) (hl : xs.length ≤ 12) :
    VCalls Try.prog 100 [.slc id g 0 xs.length, I 0, I xs.length, .fn f []] H (fun r H' => ∃ ys : List Int, ys.Perm xs ∧ Srt cmp ys xs.length xs.length ∧ r = .tup [] ∧ H' = H.set id (rowI g ys)) := by
  refine kcalls Try.func100 rfl (by kernel_rfl) rfl ?_
  intro R0 h0 hb
  have hid : id < H.length := lt_of_some hr
  (conv => whnf)
  refine kwp_loop (S := Nat × List Int) (fun s => [(0, .slc id g 0 xs.length), (1, I 0), (2, I xs.length), (3, .fn f []), (8, I s.1)]) (fun s => ⟨H.length, H.set id (rowI g s.2), []⟩) (fun s => s.2.Perm xs ∧ 1 ≤ s.1 ∧ s.1 ≤ 13 ∧ (s.1 ≤ xs.length ∨ xs.length ≤ 1) ∧ Srt cmp s.2 s.1 s.1) (fun s => 13 - s.1) (1, xs) ⟨List.Perm.refl _, by dsimp only; omega, by dsimp only; omega, by dsimp only; omega, fun p q h1 h2 h3 => by dsimp only at *; omega⟩ (tsub_cons rfl (tsub_cons rfl (tsub_cons rfl (tsub_cons rfl (tsub_cons rfl tsub_nil))))) (by simp [set_same_id hr]) (fun s hs => ⟨by simp [KH.ok], rfl⟩) ?_
  rintro ⟨i, ys⟩ ⟨hp, hi1, hi2, hi3, hs⟩
  have hlen := hp.length_eq
  simp only at hp hi1 hi2 hi3 hs hlen
  rcases Nat.lt_or_ge i xs.length with hlt | hge
  · repeat' (first | (conv => whnf) | skip); (first | (refine VIf.mk (fun _ => ?_) (fun _ => by omega)) | (refine VReq.mk (by kernel_rfl) ?_) | (refine VReq.mk ⟨by kernel_rfl, by omega⟩ ?_))
    (conv => whnf)
    refine kwp_loop (S := Nat × List Int) (fun s => [(0, .slc id g 0 xs.length), (1, I 0), (2, I xs.length), (3, .fn f []), (8, I i), (9, I s.1)]) (fun s => ⟨H.length, H.set id (rowI g s.2), []⟩) (fun s => s.2.Perm xs ∧ s.1 ≤ i ∧ Srt cmp s.2 i s.1) (fun s => s.1) (i, ys) ⟨hp, Nat.le_refl _, hs⟩ (tsub_cons rfl (tsub_cons rfl (tsub_cons rfl (tsub_cons rfl (tsub_cons rfl (tsub_cons rfl tsub_nil)))))) rfl (fun s hs => ⟨by simp [KH.ok], rfl⟩) ?_
    rintro ⟨j, zs⟩ ⟨hq, hj, hz⟩
    simp only at hq hj hz
    have hlz := hq.length_eq
    have hrow : (H.set id (rowI g zs))[id]? = some (.row g 1 (zs.map I)) := by simp [hid, rowI]
    have hmap : (zs.map I).length = xs.length := by simp [hlz]
    rcases Nat.eq_zero_or_pos j with hj0 | hjp
    · subst hj0
      repeat' (first | (conv => whnf) | skip); (first | (refine VIf.mk (fun _ => by omega) (fun _ => ?_)) | (refine VReq.mk (by kernel_rfl) ?_) | (refine kwp_draw (by kernel_rfl) (by kernel_rfl) (by simp [KH.ok]) ?_) | (refine krow_base hrow ?_) | (refine KEnd.mk ?_))
      exact ⟨(i + 1, zs), ⟨hq, by dsimp only; omega, by dsimp only; omega, by dsimp only; omega, srt_done htr hz (.inl rfl)⟩, by dsimp only; omega, tsub_cons rfl (tsub_cons rfl (tsub_cons rfl (tsub_cons rfl (tsub_cons (congrArg I (inc64 (by omega))) tsub_nil)))), rfl⟩
    · have hw : IntKind.i64.wrap ((j : Int) - 1) = ((j - 1 : Nat) : Int) := by rw [IntWalk.i64_in _ (by omega)]; omega
      have hg0 : (zs.map I)[0 + ((j : Nat) : Int).toNat]? = some (I (zs.getD j 0)) := by rw [Nat.zero_add, Int.toNat_natCast]; exact getI (by omega)
      have hg1 : (zs.map I)[0 + (IntKind.i64.wrap ((j : Int) - 1)).toNat]? = some (I (zs.getD (j - 1) 0)) := by rw [hw, Nat.zero_add, Int.toNat_natCast]; exact getI (by omega)
      have hg2 : ∀ v, ((zs.map I).set (0 + ((j : Nat) : Int).toNat) v)[0 + (IntKind.i64.wrap ((j : Int) - 1)).toNat]? = some (I (zs.getD (j - 1) 0)) := fun v => by
        rw [hw, Nat.zero_add, Nat.zero_add, Int.toNat_natCast, Int.toNat_natCast, List.getElem?_set_ne (by omega)]; exact getI (by omega)
      repeat' (first | (conv => whnf) | skip); (first | (refine VIf.mk (fun _ => ?_) (fun _ => by omega)) | (refine VIf.mk (fun _ => ?_) (fun _ => ?_)) | (refine VReq.mk (by kernel_rfl) ?_) | (refine VReq.mk ⟨by dsimp only; rw [hw]; omega, by dsimp only; rw [hw]; omega, rfl, by kernel_rfl, by rw [List.length_set]; omega⟩ ?_) | (refine VReq.mk (by show _ ≤ _; exact Nat.le_refl 1) ?_) | (refine kget_some (hg2 _) ?_) | (refine VReq.mk ⟨by dsimp only; omega, by dsimp only; omega, rfl, by kernel_rfl, by omega⟩ ?_) | (refine VReq.mk ⟨by dsimp only; rw [hw]; omega, by dsimp only; rw [hw]; omega, rfl, by kernel_rfl, by omega⟩ ?_) | (refine kwp_draw (by kernel_rfl) (by kernel_rfl) (by simp [KH.ok]) ?_) | (refine krow_base hrow ?_) | (refine kget_some hg0 ?_) | (refine kget_some hg1 ?_) | (refine kget_some rfl ?_) | (refine kcall_pure (hcmp _ _ _) (by simp [KH.ok]) ?_) | (refine krow_base (List.getElem?_set_self (by simpa using hid)) ?_) | (refine kset_base (by simp) (by simpa using hid) ?_) | (refine KEnd.mk ?_))
      · rename_i h1 h2 h3
        refine ⟨(j - 1, swp zs j), ⟨(swp_perm hjp (by omega)).trans hq, by dsimp only; omega, srt_swap has hz hjp hj (by omega) h3⟩, by dsimp only; omega, tsub_cons rfl (tsub_cons rfl (tsub_cons rfl (tsub_cons rfl (tsub_cons rfl (tsub_cons (congrArg I hw) tsub_nil))))), ?_⟩
        refine congrArg (fun b => KH.mk H.length b []) ?_
        rw [List.set_set, List.set_set]
        refine congrArg (fun b => H.set id b) ?_
        simp only [rowI, swp, List.map_set, hw, Nat.zero_add, Int.toNat_natCast]
        rfl
      · rename_i h1 h2 h3
        exact ⟨(i + 1, zs), ⟨hq, by dsimp only; omega, by dsimp only; omega, by dsimp only; omega, srt_done htr hz (.inr h3)⟩, by dsimp only; omega, tsub_cons rfl (tsub_cons rfl (tsub_cons rfl (tsub_cons rfl (tsub_cons (congrArg I (inc64 (by omega))) tsub_nil)))), rfl⟩
  · repeat' (first | (conv => whnf) | skip); (first | (refine VIf.mk (fun _ => by omega) (fun _ => ?_)) | (refine VReq.mk (by kernel_rfl) ?_) | (refine kdone_keep ?_) | (refine KEnd.mk ?_))
    refine ⟨ys, hp, ?_, rfl, by simp [KH.flat]⟩
    rcases hi3 with h | h
    · obtain rfl : i = xs.length := by omega
      exact hs
    · intro p q h1 h2 h3; omega
theorem pdq_spec {f : FuncId} {cmp : Int → Int → Int} (hcmp : CmpIs Try.prog f cmp) (has : ∀ a b, cmp a b < 0 → ¬ cmp b a < 0) (htr : ∀ a b c, ¬ cmp a b < 0 → ¬ cmp b c < 0 → ¬ cmp a c < 0) (H : List VB) (id g : Nat) (xs : List Int) (hr : H[id]? = some (rowI g xs)) (hl : xs.length ≤ 12) (lim : Int) :
    VCalls Try.prog 77 [.slc id g 0 xs.length, I 0, I xs.length, I lim, .fn f []] H (fun r H' => ∃ ys : List Int, ys.Perm xs ∧ Srt cmp ys xs.length xs.length ∧ r = .tup [] ∧ H' = H.set id (rowI g ys)) := by
  refine kcalls Try.func77 rfl (by kernel_rfl) rfl ?_
  intro R0 h0 hb
  have hw : IntKind.i64.wrap ((xs.length : Int) - 0) = (xs.length : Int) := by rw [IntWalk.i64_in _ (by omega)]; omega
  (conv => whnf)
  refine kwp_loop (S := Unit) (fun s => [(0, .slc id g 0 xs.length), (1, I 0), (2, I xs.length), (3, I lim), (4, .fn f []), (10, B true), (11, B true)]) (fun s => ⟨H.length, H, []⟩) (fun s => True) (fun s => 0) () trivial (tsub_cons rfl (tsub_cons rfl (tsub_cons rfl (tsub_cons rfl (tsub_cons rfl (tsub_cons rfl (tsub_cons rfl tsub_nil))))))) rfl (fun s hs => ⟨rfl, rfl⟩) ?_
  intro s hs
  repeat' (first | (conv => whnf) | skip); (first | (refine VIf.mk (fun _ => ?_) (fun h => absurd (by rw [hw]; omega) h)) | (refine KEnd.mk ?_))
  refine ⟨VCalls.mono (ins_spec hcmp has htr _ id g xs (flat_get_base hr) hl) fun r H' ⟨ys, hp, hsr, er, e⟩ => ⟨⟨H.length, H.set id (rowI g ys), []⟩, by rw [e]; simp [KH.flat], by simp [KH.ok], rfl, ?_⟩⟩
  subst er
  repeat' (first | (conv => whnf) | skip); (first | (refine kdone_keep ?_) | (refine KEnd.mk ?_))
  exact ⟨ys, hp, hsr, rfl, by simp [KH.flat]⟩
theorem len64_spec (x : Nat) (hx : x < 256) (H : List VB) : VCalls Try.prog 99 [.v (.int .u64 x)] H (fun r H' => (∃ n, r = I n) ∧ H' = H) := by
  refine kcalls Try.func99 rfl (by kernel_rfl) rfl ?_
  intro R0 h0 hb
  have hu : IntKind.u8.wrap (x : Int) = (x : Int) := IntWalk.u8_in _ (by omega)
  repeat' (first | (conv => whnf) | skip); (first | (refine VIf.mk (fun _ => by omega) (fun _ => ?_)) | (refine VReq.mk ⟨by rw [hu]; omega, Nat.lt_of_lt_of_le (m := 256) (by rw [hu]; omega) (by decide +kernel)⟩ ?_) | (refine kdone_pure h0 (by simp) ⟨⟨_, rfl⟩, rfl⟩))
theorem len_spec (x : Nat) (hx : x < 256) (H : List VB) : VCalls Try.prog 75 [.v (.int .u64 x)] H (fun r H' => (∃ n, r = I n) ∧ H' = H) := by
  refine kcalls Try.func75 rfl (by kernel_rfl) rfl ?_
  intro R0 h0 hb
  repeat' (first | (conv => whnf) | skip); (first | (refine kcall_some (len64_spec x hx _) rfl ?_; rintro r ⟨n, rfl⟩) | (refine kdone_pure h0 (by simp) ⟨⟨_, rfl⟩, rfl⟩))
theorem sort_spec {f : FuncId} {cmp : Int → Int → Int} (hcmp : CmpIs Try.prog f cmp) (has : ∀ a b, cmp a b < 0 → ¬ cmp b a < 0) (htr : ∀ a b c, ¬ cmp a b < 0 → ¬ cmp b c < 0 → ¬ cmp a c < 0) (H : List VB) (id g : Nat) (xs : List Int) (hr : H[id]? = some (rowI g xs)) (hl : xs.length ≤ 12) :
    VCalls Try.prog 52 [.slc id g 0 xs.length, .fn f []] H (fun r H' => ∃ ys : List Int, ys.Perm xs ∧ Srt cmp ys xs.length xs.length ∧ r = .tup [] ∧ H' = H.set id (rowI g ys)) := by
  refine kcalls Try.func52 rfl (by kernel_rfl) rfl ?_
  intro R0 h0 hb
  have hw : IntKind.u64.wrap (xs.length : Int) = (xs.length : Int) := IntWalk.u64_in _ (by omega)
  repeat' (first | (conv => whnf) | skip); (first | (refine krow_base hr ?_) | (refine VReq.mk (by kernel_rfl) ?_) | (refine kcall_some (p := fun r => ∃ n, r = I n) (by rw [hw]; exact len_spec xs.length (by omega) _) rfl ?_; rintro r ⟨n, rfl⟩) | (refine kdone_keep ?_))
  refine ⟨VCalls.mono (pdq_spec hcmp has htr _ id g xs (flat_get_base hr) hl n) fun r H' ⟨ys, hp, hsr, er, e⟩ => ⟨⟨H.length, H.set id (rowI g ys), []⟩, by rw [e]; simp [KH.flat], by simp [KH.ok], rfl, ?_⟩⟩
  subst er
  repeat' (first | (conv => whnf) | skip); (first | (refine kdone_keep ?_) | (refine KEnd.mk ?_))
  exact ⟨ys, hp, hsr, rfl, by simp [KH.flat]⟩
end Go.Vm

/- peers.Match: what it computes. -/
set_option linter.unusedVariables false
set_option linter.unusedSimpArgs false
namespace Go.Vm
open Go.Proofs
set_option maxRecDepth 100000
def cmpD (a b : Int) : Int := if b < a then -1 else if a < b then 1 else 0
theorem cmpD_spec : CmpIs Try.prog 53 cmpD := by
  intro x y H
  refine kcalls Try.func53 rfl (by kernel_rfl) rfl ?_
  intro R0 h0 hb
  repeat' (first | (conv => whnf) | skip); (first | (refine VIf.mk (fun _ => ?_) (fun _ => ?_)) | (refine kdone_pure h0 (by simp) ⟨?_, rfl⟩))
  all_goals unfold cmpD
  · rename_i h1; rw [if_pos h1]
  · rename_i h1 h2; rw [if_neg h1, if_pos h2]
  · rename_i h1 h2; rw [if_neg h1, if_neg h2]
theorem cmpD_as : ∀ a b, cmpD a b < 0 → ¬ cmpD b a < 0 := by
  intro a b; unfold cmpD; split <;> split <;> (try split) <;> omega
theorem cmpD_tr : ∀ a b c, ¬ cmpD a b < 0 → ¬ cmpD b c < 0 → ¬ cmpD a c < 0 := by
  intro a b c; unfold cmpD; repeat' split
  all_goals omega
theorem members_spec (c : Int) (H : List VB) : VCalls Try.prog 51 [I c] H (fun r H' => r = .fn 76 [.ptr H.length 0] ∧ H' = H ++ [.box [I c]]) := by
  refine kcalls Try.func51 rfl (by kernel_rfl) rfl ?_
  intro R0 h0 hb
  repeat' (first | (conv => whnf) | skip); (first | (refine VReq.mk (by kernel_rfl) ?_) | (refine kdone_keep ⟨?_, ?_⟩))
  · rfl
  · simp [KH.flat]
/-- What the members have. -/
def hav (c : Int) (ms : List Int) (pre : List M7) : List Int := pre.map fun x => ms.getD x.1.toNat 0
def mH (H : List VB) (c : Int) (ms : List Int) (pre : List M7) : KH :=
  match pre with
  | [] => ⟨H.length, H, [.box (ms.map I), .box [.v (.slice none 0 0)], .box [I c]]⟩
  | x :: r => ⟨H.length, H, [.box (ms.map I), .box [.slc (H.length + 3) r.length 0 (r.length + 1)], .box [I c], rowI r.length (hav c ms (x :: r))]⟩
/-- What more than half of some numbers are at least. -/
def MatOk (l : List Int) (v : Int) : Prop := (l = [] ∧ v = 0) ∨ (l ≠ [] ∧ ∃ ys : List Int, ys.Perm l ∧ Srt cmpD ys l.length l.length ∧ v = ys.getD (l.length / 2) 0)
theorem mH_nm {H : List VB} (nm : NoMap H) (c : Int) (ms : List Int) (pre : List M7) : NoMap (mH H c ms pre).flat := by
  cases pre with
  | nil => exact noMap_append (X := [.box (ms.map I), .box [.v (.slice none 0 0)], .box [I c]]) nm (by intro b hb es he; subst he; simp at hb)
  | cons x r => exact noMap_append (X := [.box (ms.map I), .box [.slc (H.length + 3) r.length 0 (r.length + 1)], .box [I c], .row r.length 1 ((hav c ms (x :: r)).map I)]) nm (by intro b hb es he; subst he; simp at hb)
theorem match_spec (c m0 m1 m2 m3 m4 m5 m6 : Int) (H : List VB) (nm : NoMap H) : VCalls Try.prog 11 [I c, .agg [I m0, I m1, I m2, I m3, I m4, I m5, I m6]] H (fun r H' => ∃ v, MatOk (hav c [m0, m1, m2, m3, m4, m5, m6] (memA c 7)) v ∧ r = I v ∧ H' = H) := by
  refine kcalls_marks Try.func11 rfl (by kernel_rfl) rfl ?_
  intro R0 h0 hb
  refine kwps_pre rfl ?_
  (conv => whnf)
  refine kwps_pre rfl ?_
  (conv => whnf)
  refine kwps_seq (kwps_pre rfl ?_)
  (conv => whnf)
  refine ⟨(members_spec c _).mono ?_⟩
  rintro r H' ⟨e1, e2⟩
  have e2' : H' = KH.flat ⟨H.length, H, [VB.box [I m0, I m1, I m2, I m3, I m4, I m5, I m6], .box [.v (.slice none 0 0)]]⟩ ++ [.box [I c]] := e2
  clear e2
  refine ⟨mH H c [m0, m1, m2, m3, m4, m5, m6] [], by rw [e2']; simp [mH, KH.flat], rfl, rfl, ?_⟩
  clear e2'
  have hlen : (KH.flat ⟨H.length, H, [VB.box [I m0, I m1, I m2, I m3, I m4, I m5, I m6], .box [.v (.slice none 0 0)]]⟩).length = H.length + 2 := by simp [KH.flat]
  have e3 : r = .fn 76 [.ptr (H.length + 2) 0] := e1.trans (congrArg (fun k => SV.fn 76 [.ptr k 0]) hlen)
  subst e3
  (conv => whnf)
  refine kwps_block (kwps_range (α := M7) (enc := fun x => x.1) (xs := memA c 7) (NN := 7) (mH H c [m0, m1, m2, m3, m4, m5, m6]) (fun b o w hw => members_stops 1 (by omega) b o c w hw) rfl (by kernel_rfl) ?nm rfl ?hid rfl rfl ?ok ?body ?done)
  case nm => exact fun pre => mH_nm nm c _ pre
  case hid =>
    intro pre
    cases pre with
    | nil => exact flat_get_top (n0 := H.length) rfl 2
    | cons x r => exact flat_get_top (n0 := H.length) rfl 2
  case ok => intro pre; cases pre <;> exact ⟨rfl, rfl⟩
  case body =>
    intro R1 pre x hlt h1 hb1
    clear e1 hlen
    have hc3 : Try.prog.cellsOf 3 = 1 := by kernel_rfl
    have hget : (([I m0, I m1, I m2, I m3, I m4, I m5, I m6] : List SV).drop (0 + x.1.toNat * Try.prog.cellsOf 3))[0]? = some (I ([m0, m1, m2, m3, m4, m5, m6].getD x.1.toNat 0)) := by
      rw [hc3]
      have hk : x.1.toNat < 7 := by have := x.2; omega
      generalize x.1.toNat = k at hk
      rcases k with _ | _ | _ | _ | _ | _ | _ | k <;> first | rfl | omega
    cases pre with
    | nil =>
      repeat' (first | (conv => whnf) | skip); (first | (refine VIf.mk (fun _ => ?_) (fun _ => ?_)) | (refine VReq.mk (by kernel_rfl) ?_) | (refine VReq.mk x.2 ?_) | (refine kwp_draw (by kernel_rfl) (by kernel_rfl) rfl ?_) | (refine kbox_top rfl rfl ?_) | (refine kget_some hget ?_) | (refine kget_some rfl ?_) | (refine kb_append_nil (n := 1) (ys := [I ([m0, m1, m2, m3, m4, m5, m6].getD x.1.toNat 0)]) rfl (by kernel_rfl) rfl (by simp only [List.length_cons, List.length_nil]; omega) ?_) | (refine krow_top rfl rfl ?_) | (refine VReq.mk rfl ?_) | (refine VReq.mk (Nat.le_refl 1) ?_) | (refine kset_top rfl ?_) | (refine KEnd.mk ?_))
      rfl
    | cons y r =>
      have hl : (hav c [m0, m1, m2, m3, m4, m5, m6] (y :: r)).length = r.length + 1 := by simp [hav]
      have hlt' : r.length < 7 := by simp at hlt; omega
      repeat' (first | (conv => whnf) | skip); (first | (refine VIf.mk (fun _ => ?_) (fun _ => ?_)) | (refine VReq.mk (by kernel_rfl) ?_) | (refine VReq.mk x.2 ?_) | (refine kwp_draw (by kernel_rfl) (by kernel_rfl) rfl ?_) | (refine kbox_top rfl rfl ?_) | (refine kget_some hget ?_) | (refine kget_some rfl ?_) | (refine kb_append_top (n := 1) (ys := [I ([m0, m1, m2, m3, m4, m5, m6].getD x.1.toNat 0)]) rfl (by kernel_rfl) rfl (by rw [List.length_map, hl]) rfl (by rw [List.length_map, hl]; simp only [List.length_cons, List.length_nil]; omega) (by simp [SV.cells, svCell, svValid, Value.oneCell']) ?_) | (refine krow_top rfl rfl ?_) | (refine VReq.mk rfl ?_) | (refine VReq.mk (Nat.le_refl 1) ?_) | (refine kset_top rfl ?_) | (refine KEnd.mk ?_))
      have e3 : (hav c [m0, m1, m2, m3, m4, m5, m6] (y :: r ++ [x])).map I = (hav c [m0, m1, m2, m3, m4, m5, m6] (y :: r)).map I ++ [I ([m0, m1, m2, m3, m4, m5, m6].getD x.1.toNat 0)] := by simp [hav]
      show KH.mk H.length H [VB.box _, VB.box [SV.slc (H.length + 3) (r.length + 1) 0 (List.map I (hav c [m0, m1, m2, m3, m4, m5, m6] (y :: r)) ++ [I _]).length], VB.box [I c], VB.row (r.length + 1) 1 (List.map I (hav c [m0, m1, m2, m3, m4, m5, m6] (y :: r)) ++ [I _])] =
        KH.mk H.length H [VB.box _, VB.box [SV.slc (H.length + 3) (r ++ [x]).length 0 ((r ++ [x]).length + 1)], VB.box [I c], VB.row (r ++ [x]).length 1 ((hav c [m0, m1, m2, m3, m4, m5, m6] (y :: r ++ [x])).map I)]
      rw [e3]
      simp [hl]
  case done =>
    clear e1 hlen
    (conv => whnf)
    have hln := memA_len c 7
    cases hmem : memA c 7 with
    | nil =>
      refine kwpm_of rfl ?_ ?_
      · exact mH_nm nm c _ _
      intro R2 hR2 hb2
      repeat' (first | (conv => whnf) | skip); (first | (refine VIf.mk (fun _ => ?_) (fun h => absurd rfl h)) | (refine VReq.mk (by kernel_rfl) ?_) | (refine kbox_top rfl rfl ?_) | (refine kget_some rfl ?_) | (refine krow_top rfl rfl ?_) | (refine VReq.mk rfl ?_))
      (conv => whnf)
      refine ⟨mH_nm nm c _ _, ?_⟩
      (conv => whnf)
      exact kdone_pure h0 (by simp) ⟨0, .inl ⟨rfl, rfl⟩, rfl, rfl⟩
    | cons y r =>
      have hl : (hav c [m0, m1, m2, m3, m4, m5, m6] (y :: r)).length = r.length + 1 := by simp [hav]
      rw [hmem] at hln
      simp only [List.length_cons] at hln
      refine kwpm_of rfl ?_ ?_
      · exact mH_nm nm c _ _
      intro R2 hR2 hb2
      repeat' (first | (conv => whnf) | skip); (first | (refine VIf.mk (fun _ => by omega) (fun h => ?_)) | (refine VReq.mk (by kernel_rfl) ?_) | (refine kbox_top rfl rfl ?_) | (refine kget_some rfl ?_) | (refine krow_top rfl rfl ?_) | (refine VReq.mk rfl ?_))
      have hsort := sort_spec cmpD_spec cmpD_as cmpD_tr (mH H c [m0, m1, m2, m3, m4, m5, m6] (y :: r)).flat (H.length + 3) r.length (hav c [m0, m1, m2, m3, m4, m5, m6] (y :: r)) (flat_get_top (n0 := H.length) rfl 3) (by omega)
      rw [hl] at hsort
      refine ⟨VCalls.mono hsort ?_⟩
      rintro r' H2 ⟨ys, hp, hs, er, e⟩
      subst er
      have hyl : ys.length = r.length + 1 := hp.length_eq.trans hl
      refine ⟨⟨H.length, H, [.box ([m0, m1, m2, m3, m4, m5, m6].map I), .box [.slc (H.length + 3) r.length 0 (r.length + 1)], .box [I c], rowI r.length ys]⟩, by rw [e]; exact (flat_set_top (n0 := H.length) (top := [.box ([m0, m1, m2, m3, m4, m5, m6].map I), .box [.slc (H.length + 3) r.length 0 (r.length + 1)], .box [I c], rowI r.length (hav c [m0, m1, m2, m3, m4, m5, m6] (y :: r))]) rfl 3 _).symm, rfl, rfl, ?_⟩
      have hw : IntKind.i64.wrap (((r.length + 1 : Nat) : Int).tdiv 2) = (((r.length + 1) / 2 : Nat) : Int) := by
        rw [IntWalk.i64_quo _ _ (by omega)]; omega
      have hgt : (ys.map I)[0 + (IntKind.i64.wrap (((r.length + 1 : Nat) : Int).tdiv 2)).toNat]? = some (I (ys.getD ((r.length + 1) / 2) 0)) := by
        rw [hw, Nat.zero_add, Int.toNat_natCast]; exact getI (by omega)
      repeat' (first | (conv => whnf) | skip); (first | (refine VReq.mk (by kernel_rfl) ?_) | (refine VReq.mk (by decide) ?_) | (refine kwp_draw (by kernel_rfl) (by kernel_rfl) rfl ?_) | (refine kbox_top rfl rfl ?_) | (refine kget_some hgt ?_) | (refine kget_some rfl ?_) | (refine krow_top rfl rfl ?_) | (refine VReq.mk rfl ?_) | (refine VReq.mk ⟨by rw [hw]; omega, by rw [hw]; omega, rfl, by kernel_rfl, by rw [List.length_map]; omega⟩ ?_))
      (conv => whnf)
      refine ⟨?_, ?_⟩
      · exact noMap_append (X := [.box ([m0, m1, m2, m3, m4, m5, m6].map I), .box [.slc (H.length + 3) r.length 0 (r.length + 1)], .box [I c], .row r.length 1 (ys.map I)]) nm (by intro b hb es he; subst he; simp at hb)
      · (conv => whnf)
        exact kdone_pure h0 (by simp) ⟨_, .inr ⟨by simp [hav], ys, hp, by rw [hl]; exact hs, by rw [hl]⟩, rfl, rfl⟩
end Go.Vm

/- Layer 12: the plain laws; awake. -/
set_option linter.unusedVariables false
set_option linter.unusedSimpArgs false
namespace Go.Vm
open Go.Proofs
set_option maxRecDepth 100000
theorem cmpD_ge {a b : Int} : ¬ cmpD a b < 0 ↔ a ≤ b := by
  unfold cmpD; split
  · omega
  · split <;> omega
/-- What stands in the midst of the numbers: more than half are at least it, and of the greater ones there is no majority. -/
theorem matOk_count {l : List Int} {v : Int} (h : MatOk l v) (hne : l ≠ []) : v ∈ l ∧ l.length / 2 < l.countP (fun x => decide (v ≤ x)) ∧ l.countP (fun x => decide (v < x)) ≤ l.length / 2 := by
  rcases h with ⟨h, _⟩ | ⟨_, ys, hp, hs, hv⟩
  · exact absurd h hne
  · have hlen := hp.length_eq
    have hpos : 0 < l.length := List.length_pos_iff.2 hne
    have hk : l.length / 2 < ys.length := by omega
    have hget : ∀ i (hi : i < ys.length), ys.getD i 0 = ys[i] := fun i hi => by rw [List.getD_eq_getElem?_getD, List.getElem?_eq_getElem hi]; rfl
    rw [hget _ hk] at hv
    refine ⟨hp.mem_iff.1 (hv ▸ List.getElem_mem hk), ?_, ?_⟩
    · rw [← hp.countP_eq, ← List.take_append_drop (l.length / 2 + 1) ys, List.countP_append]
      have h1 : (ys.take (l.length / 2 + 1)).countP (fun x => decide (v ≤ x)) = (ys.take (l.length / 2 + 1)).length := by
        rw [List.countP_eq_length]
        intro x hx
        obtain ⟨i, hi, rfl⟩ := List.getElem_of_mem hx
        have hi' : i < l.length / 2 + 1 := by simp at hi; omega
        rw [List.getElem_take]
        rcases Nat.lt_or_ge i (l.length / 2) with h2 | h2
        · have := hs i (l.length / 2) h2 (by omega) (by omega)
          rw [hget _ hk, hget _ (by omega), cmpD_ge] at this
          simpa [hv] using this
        · have : i = l.length / 2 := by omega
          subst this
          simp [hv]
      rw [h1, List.length_take]
      omega
    · rw [← hp.countP_eq]
      conv => lhs; rw [← List.take_append_drop (l.length / 2) ys, List.countP_append]
      have h1 : (ys.drop (l.length / 2)).countP (fun x => decide (v < x)) = 0 := by
        rw [List.countP_eq_zero]
        intro x hx
        obtain ⟨i, hi, rfl⟩ := List.getElem_of_mem hx
        rw [List.getElem_drop]
        simp only [List.length_drop] at hi
        rcases Nat.eq_zero_or_pos i with h2 | h2
        · subst h2; simp [hv]
        · have := hs (l.length / 2) (l.length / 2 + i) (by omega) (by omega) (by omega)
          rw [hget _ hk, hget _ (by omega), cmpD_ge] at this
          simp [hv]; omega
      have h2 := List.countP_le_length (p := fun x => decide (v < x)) (l := ys.take (l.length / 2))
      rw [List.length_take] at h2
      omega
theorem match_awake {v : Int} (h : MatOk (hav 7 [5, 3, 4, 0, 0, 0, 0] (memA 7 7)) v) : v = 4 := by
  have e : hav 7 [5, 3, 4, 0, 0, 0, 0] (memA 7 7) = [5, 3, 4] := by decide +kernel
  rw [e] at h
  obtain ⟨h1, h2, h3⟩ := matOk_count h (by simp)
  simp at h1
  rcases h1 with rfl | rfl | rfl
  · revert h2; decide
  · revert h3; decide
  · rfl
theorem awake_spec (H : List VB) (nm : NoMap H) : VCalls Try.prog 13 [] H (fun r H' => r = B true ∧ H' = H) := by
  refine kcalls Try.func13 rfl (by kernel_rfl) rfl ?_
  intro R0 h0 hb
  have nm' : NoMap (KH.flat ⟨H.length, H, []⟩) := by simpa [KH.flat] using nm
  repeat' (first | (conv => whnf) | skip); (first | (refine kcall_bool (pquorum_spec 7 3 _) rfl (fun _ => ?_) (fun h => absurd h (by decide +kernel))) | (refine kcall_bool (pquorum_spec 7 1 _) rfl (fun h => absurd h (by decide +kernel)) (fun _ => ?_)) | (refine VReq.mk (by kernel_rfl) ?_) | (refine VReq.mk ⟨by kernel_rfl, by decide +kernel⟩ ?_) | (refine kcall_some (p := fun r => r = I 4) ((match_spec 7 5 3 4 0 0 0 0 _ nm').mono fun r H' ⟨v, hv, e1, e2⟩ => ⟨by rw [e1, match_awake hv], e2⟩) rfl ?_; rintro r rfl) | (refine kcall_pure (pchange_spec 7 15 _) rfl ?_) | (refine VIf.mk (fun _ => ?_) (fun h => absurd (by decide +kernel) h)) | (refine kdone_pure h0 (by simp) ⟨?_, rfl⟩))
  rfl
end Go.Vm

/- PeersMeet: the walk and the plain law. -/
set_option linter.unusedVariables false
set_option linter.unusedSimpArgs false
namespace Go.Vm
open Go.Proofs
set_option maxRecDepth 100000
theorem ofInt_wrap (x : BitVec 64) : BitVec.ofInt 64 (IntKind.i64.wrap (x.toNat : Int)) = x := by
  apply BitVec.eq_of_toNat_eq
  rw [BitVec.toNat_ofInt, IntKind.wrap_i64]
  have := x.isLt
  omega
theorem tb_and (a b : Int) (i : Nat) : tb (andI a b) i = (tb a i && tb b i) := by
  unfold tb andI
  show (BitVec.ofInt 64 (IntKind.i64.wrap ((BitVec.ofInt 64 a &&& BitVec.ofInt 64 b).toNat : Int))).getLsbD i = _
  rw [ofInt_wrap, BitVec.getLsbD_and]
theorem tb_xor (a b : Int) (i : Nat) : tb (xorI a b) i = (tb a i ^^ tb b i) := by
  unfold tb xorI
  show (BitVec.ofInt 64 (IntKind.i64.wrap ((BitVec.ofInt 64 a ^^^ BitVec.ofInt 64 b).toNat : Int))).getLsbD i = _
  rw [ofInt_wrap, BitVec.getLsbD_xor]
/-- The sum over the seven. -/
def sm (f : Nat → Nat) : Nat := f 0 + f 1 + f 2 + f 3 + f 4 + f 5 + f 6
theorem sm_le {f g : Nat → Nat} (h : ∀ i, i < 7 → f i ≤ g i) : sm f ≤ sm g := by
  have := h 0 (by omega); have := h 1 (by omega); have := h 2 (by omega); have := h 3 (by omega); have := h 4 (by omega); have := h 5 (by omega); have := h 6 (by omega)
  unfold sm; omega
theorem sm_add (f g : Nat → Nat) : sm (fun i => f i + g i) = sm f + sm g := by unfold sm; dsimp only; omega
theorem cnt_sm (c : Int) : cnt c = sm fun i => (tb c i).toNat := rfl
theorem dif_sm (o c : Int) : dif o c 7 = sm fun i => (tb o i ^^ tb c i).toNat := by simp [dif, sm]
theorem dif_cnt (o c : Int) : cnt (xorI o c) = dif o c 7 := by
  rw [cnt_sm, dif_sm]
  simp only [tb_xor]
theorem meet_law {o c a b : Int} (h1 : quo o a = true) (h2 : quo c b = true) (hd : dif o c 7 ≤ 1) (hn : ∀ i, i < 7 → (tb a i && tb b i) = false) : False := by
  unfold quo at h1 h2
  simp only [Bool.and_eq_true, decide_eq_true_eq] at h1 h2
  have e1 : cnt (andI o a) = sm fun i => (tb o i && tb a i).toNat := by rw [cnt_sm]; simp only [tb_and]
  have e2 : cnt (andI c b) = sm fun i => (tb c i && tb b i).toNat := by rw [cnt_sm]; simp only [tb_and]
  have k1 : ∀ p q r s : Bool, (r && s) = false → (p && r).toNat + (q && s).toNat ≤ p.toNat + (q && !p).toNat := by decide
  have k2 : ∀ p q : Bool, q.toNat + (p && !q).toNat ≤ p.toNat + (q && !p).toNat ∧ p.toNat + (q && !p).toNat ≤ q.toNat + (p && !q).toNat := by decide
  have k3 : ∀ p q : Bool, (p && !q).toNat + (q && !p).toNat ≤ (p ^^ q).toNat := by decide
  have s1 : sm (fun i => (tb o i && tb a i).toNat) + sm (fun i => (tb c i && tb b i).toNat) ≤ sm (fun i => (tb o i).toNat) + sm (fun i => (tb c i && !tb o i).toNat) := by
    rw [← sm_add, ← sm_add]; exact sm_le fun i hi => k1 _ _ _ _ (hn i hi)
  have s2 : sm (fun i => (tb c i).toNat) + sm (fun i => (tb o i && !tb c i).toNat) ≤ sm (fun i => (tb o i).toNat) + sm (fun i => (tb c i && !tb o i).toNat) := by
    rw [← sm_add, ← sm_add]; exact sm_le fun i hi => (k2 _ _).1
  have s2' : sm (fun i => (tb o i).toNat) + sm (fun i => (tb c i && !tb o i).toNat) ≤ sm (fun i => (tb c i).toNat) + sm (fun i => (tb o i && !tb c i).toNat) := by
    rw [← sm_add, ← sm_add]; exact sm_le fun i hi => (k2 _ _).2
  have s3 : sm (fun i => (tb o i && !tb c i).toNat) + sm (fun i => (tb c i && !tb o i).toNat) ≤ sm fun i => (tb o i ^^ tb c i).toNat := by
    rw [← sm_add]; exact sm_le fun i hi => k3 _ _
  rw [dif_sm] at hd
  rw [e1, cnt_sm] at h1
  rw [e2, cnt_sm] at h2
  omega
theorem peersMeet_spec (a0 a1 a2 a3 : Int) : VCalls Try.prog 4 [I a0, I a1, I a2, I a3] [] fun r H' => r = .v (.bool true) := by
  refine VCalls.mono (K := fun r H' => r = B true ∧ H' = []) ?_ fun r H' h => h.1
  refine kcalls Try.func4 rfl (by kernel_rfl) rfl ?_
  intro R0 h0 hb
  have nm : NoMap (KH.flat ⟨([] : List VB).length, [], []⟩) := by intro id es h; simp [KH.flat] at h
  repeat' (first | (conv => whnf) | skip); (first | (refine VIf.mk (fun _ => ?_) (fun _ => ?_)) | (refine VReq.mk (by kernel_rfl) ?_) | (refine kcall_pure (pchange_spec _ _ _) rfl ?_) | (refine kcall_pure (r12change_spec _ _ _) rfl ?_) | (refine kcall_pure (pcheck_spec _ _) rfl ?_) | (refine kcall_bool (pquorum_spec _ _ _) rfl (fun _ => ?_) (fun _ => ?_)) | (refine kcall_pure (awake_spec _ nm) rfl ?_) | (refine kdone_pure h0 (by simp) ⟨?_, rfl⟩))
  · rename_i e h1 h2 q1 q2
    have hd : dif a0 a1 7 ≤ 1 := by rw [h1]; simp [dif]
    conv => whnf
    refine kwp_loop (S := Nat) (fun i => [(0, I a0), (1, I a1), (2, I a2), (3, I a3), (44, I i)]) (fun i => ⟨([] : List VB).length, [], []⟩) (fun i => i ≤ 7 ∧ ∀ k, k < i → (tb a2 k && tb a3 k) = false) (fun i => 7 - i) 0 ⟨by omega, fun k hk => by omega⟩ (tsub_cons rfl (tsub_cons rfl (tsub_cons rfl (tsub_cons rfl (tsub_cons rfl tsub_nil))))) rfl (fun i hi => ⟨rfl, rfl⟩) ?_
    rintro i ⟨hi, hn⟩
    rcases Nat.lt_or_ge i 7 with hlt | hge
    · repeat' (first | (conv => whnf) | skip); (first | (refine VIf.mk (fun _ => ?_) (fun _ => by omega)) | (refine VReq.mk (by kernel_rfl) ?_) | (refine kcall_bool (phas_spec _ _ _) rfl (fun _ => ?_) (fun _ => ?_)) | (refine kcall_pure (awake_spec _ nm) rfl ?_) | (refine kdone_pure h0 (by simp) ⟨?_, rfl⟩) | (refine KEnd.mk ?_))
      · rfl
      · rename_i g1 g2 g3
        rw [mem7_nat hlt] at g2 g3
        exact ⟨i + 1, ⟨by omega, fun k hk => by
          rcases Nat.lt_or_ge k i with h | h
          · exact hn k h
          · obtain rfl : k = i := by omega
            rw [g2, g3]; rfl⟩, by omega, tsub_cons rfl (tsub_cons rfl (tsub_cons rfl (tsub_cons rfl (tsub_cons (congrArg I (inc64 (by omega))) tsub_nil)))), rfl⟩
      · rename_i g1 g2
        rw [mem7_nat hlt] at g2
        exact ⟨i + 1, ⟨by omega, fun k hk => by
          rcases Nat.lt_or_ge k i with h | h
          · exact hn k h
          · obtain rfl : k = i := by omega
            rw [g2]; rfl⟩, by omega, tsub_cons rfl (tsub_cons rfl (tsub_cons rfl (tsub_cons rfl (tsub_cons (congrArg I (inc64 (by omega))) tsub_nil)))), rfl⟩
    · exact (meet_law q1 q2 hd fun k hk => hn k (by omega)).elim
  all_goals try rfl
  · rename_i e h1 h2 h3 q1 q2
    have hd : dif a0 a1 7 ≤ 1 := by
      rw [h2] at e
      rcases Nat.lt_or_ge 1 (dif a0 a1 7) with h | h
      · rw [if_neg (fun h' => by omega)] at e; cases e
      · exact h
    conv => whnf
    refine kwp_loop (S := Nat) (fun i => [(0, I a0), (1, I a1), (2, I a2), (3, I a3), (44, I i)]) (fun i => ⟨([] : List VB).length, [], []⟩) (fun i => i ≤ 7 ∧ ∀ k, k < i → (tb a2 k && tb a3 k) = false) (fun i => 7 - i) 0 ⟨by omega, fun k hk => by omega⟩ (tsub_cons rfl (tsub_cons rfl (tsub_cons rfl (tsub_cons rfl (tsub_cons rfl tsub_nil))))) rfl (fun i hi => ⟨rfl, rfl⟩) ?_
    rintro i ⟨hi, hn⟩
    rcases Nat.lt_or_ge i 7 with hlt | hge
    · repeat' (first | (conv => whnf) | skip); (first | (refine VIf.mk (fun _ => ?_) (fun _ => by omega)) | (refine VReq.mk (by kernel_rfl) ?_) | (refine kcall_bool (phas_spec _ _ _) rfl (fun _ => ?_) (fun _ => ?_)) | (refine kcall_pure (awake_spec _ nm) rfl ?_) | (refine kdone_pure h0 (by simp) ⟨?_, rfl⟩) | (refine KEnd.mk ?_))
      · rfl
      · rename_i g1 g2 g3
        rw [mem7_nat hlt] at g2 g3
        exact ⟨i + 1, ⟨by omega, fun k hk => by
          rcases Nat.lt_or_ge k i with h | h
          · exact hn k h
          · obtain rfl : k = i := by omega
            rw [g2, g3]; rfl⟩, by omega, tsub_cons rfl (tsub_cons rfl (tsub_cons rfl (tsub_cons rfl (tsub_cons (congrArg I (inc64 (by omega))) tsub_nil)))), rfl⟩
      · rename_i g1 g2
        rw [mem7_nat hlt] at g2
        exact ⟨i + 1, ⟨by omega, fun k hk => by
          rcases Nat.lt_or_ge k i with h | h
          · exact hn k h
          · obtain rfl : k = i := by omega
            rw [g2]; rfl⟩, by omega, tsub_cons rfl (tsub_cons rfl (tsub_cons rfl (tsub_cons rfl (tsub_cons (congrArg I (inc64 (by omega))) tsub_nil)))), rfl⟩
    · exact (meet_law q1 q2 hd fun k hk => hn k (by omega)).elim
  all_goals try rfl
  · rename_i h
    exact absurd (by rw [chg, dif_cnt]) h
end Go.Vm
