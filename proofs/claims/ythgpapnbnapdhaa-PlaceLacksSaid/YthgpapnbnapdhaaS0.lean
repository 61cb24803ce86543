/- Layer 3 (sha): words of 32 bits; the small functions. -/
import Derived.Test.YthgpapnbnapdhaaFA
import Derived.Test.YthgpapnbnapdhaaVE
set_option linter.unusedVariables false
set_option linter.unusedSimpArgs false
namespace Go.Vm
open Go.Proofs
set_option maxRecDepth 100000
abbrev U (x : BitVec 32) : SV := .v (.int .u32 (x.toNat : Int))
theorem u32_of (x : BitVec 32) : BitVec.ofInt 32 (x.toNat : Int) = x := by
  apply BitVec.eq_of_toNat_eq
  rw [BitVec.toNat_ofInt]
  have := x.isLt
  omega
theorem u32_wrap (n : Int) : IntKind.u32.wrap n = n % 4294967296 := by
  simp only [IntKind.wrap, IntKind.bits, IntKind.signed, Bool.false_and, Bool.false_eq_true, if_false]
  rfl
theorem u32_wr (x : BitVec 32) : IntKind.u32.wrap (x.toNat : Int) = x.toNat := by
  rw [u32_wrap]; have := x.isLt; omega
theorem uXor (x y : BitVec 32) : IntKind.u32.wrap ((BitVec.ofInt IntKind.u32.bits (x.toNat : Int) ^^^ BitVec.ofInt IntKind.u32.bits (y.toNat : Int)).toNat : Int) = ((x ^^^ y).toNat : Int) := by
  show IntKind.u32.wrap ((BitVec.ofInt 32 _ ^^^ BitVec.ofInt 32 _).toNat : Int) = _
  rw [u32_of, u32_of]; exact u32_wr _
theorem uAnd (x y : BitVec 32) : IntKind.u32.wrap ((BitVec.ofInt IntKind.u32.bits (x.toNat : Int) &&& BitVec.ofInt IntKind.u32.bits (y.toNat : Int)).toNat : Int) = ((x &&& y).toNat : Int) := by
  show IntKind.u32.wrap ((BitVec.ofInt 32 _ &&& BitVec.ofInt 32 _).toNat : Int) = _
  rw [u32_of, u32_of]; exact u32_wr _
theorem uOr (x y : BitVec 32) : IntKind.u32.wrap ((BitVec.ofInt IntKind.u32.bits (x.toNat : Int) ||| BitVec.ofInt IntKind.u32.bits (y.toNat : Int)).toNat : Int) = ((x ||| y).toNat : Int) := by
  show IntKind.u32.wrap ((BitVec.ofInt 32 _ ||| BitVec.ofInt 32 _).toNat : Int) = _
  rw [u32_of, u32_of]; exact u32_wr _
theorem uNot (x : BitVec 32) : IntKind.u32.wrap ((BitVec.ofInt IntKind.u32.bits (if IntKind.u32.signed = true then -1 else IntKind.u32.max) ^^^ BitVec.ofInt IntKind.u32.bits (x.toNat : Int)).toNat : Int) = ((~~~ x).toNat : Int) := by
  show IntKind.u32.wrap ((BitVec.ofInt 32 4294967295 ^^^ BitVec.ofInt 32 _).toNat : Int) = _
  rw [u32_of]
  have e : BitVec.ofInt 32 4294967295 = (BitVec.allOnes 32) := by decide
  rw [e, BitVec.allOnes_xor]; exact u32_wr _
theorem uAdd (x y : BitVec 32) : IntKind.u32.wrap ((x.toNat : Int) + (y.toNat : Int)) = ((x + y).toNat : Int) := by
  rw [u32_wrap, BitVec.toNat_add]; omega
theorem uShr (x : BitVec 32) (k : Nat) (hk : k ≤ 32) : ((x.toNat : Int)).fdiv (2 ^ min k IntKind.u32.bits) = ((x >>> k).toNat : Int) := by
  have h1 : min k IntKind.u32.bits = k := by have : IntKind.u32.bits = 32 := rfl; omega
  rw [h1, BitVec.toNat_ushiftRight, Nat.shiftRight_eq_div_pow, Int.fdiv_eq_ediv_of_nonneg _ (Int.pow_nonneg (by omega))]
  simp
theorem uShl (x : BitVec 32) (k : Nat) (hk : k ≤ 32) : IntKind.u32.wrap ((x.toNat : Int) * 2 ^ min k IntKind.u32.bits) = ((x <<< k).toNat : Int) := by
  have h1 : min k IntKind.u32.bits = k := by have : IntKind.u32.bits = 32 := rfl; omega
  rw [h1, u32_wrap, BitVec.toNat_shiftLeft, Nat.shiftLeft_eq]
  have : ((x.toNat : Int) * 2 ^ k) = ((x.toNat * 2 ^ k : Nat) : Int) := by simp
  rw [this]
  omega
/-- Turned round to the right. -/
def rr (x : BitVec 32) (n : Nat) : BitVec 32 := (x >>> n) ||| (x <<< (32 - n))
def sgA (x : BitVec 32) : BitVec 32 := rr x 7 ^^^ rr x 18 ^^^ (x >>> 3)
def sgB (x : BitVec 32) : BitVec 32 := rr x 17 ^^^ rr x 19 ^^^ (x >>> 10)
def suA (x : BitVec 32) : BitVec 32 := rr x 2 ^^^ rr x 13 ^^^ rr x 22
def suB (x : BitVec 32) : BitVec 32 := rr x 6 ^^^ rr x 11 ^^^ rr x 25
def chs (x y z : BitVec 32) : BitVec 32 := z ^^^ (x &&& (y ^^^ z))
def mst (x y z : BitVec 32) : BitVec 32 := (x &&& y) ||| (z &&& (x ||| y))
theorem chs_ref (x y z : BitVec 32) : (x &&& y) ^^^ (~~~ x &&& z) = chs x y z := by
  unfold chs
  apply BitVec.eq_of_getLsbD_eq
  intro i hi
  simp only [BitVec.getLsbD_xor, BitVec.getLsbD_and, BitVec.getLsbD_not, hi, decide_true, Bool.true_and]
  cases x.getLsbD i <;> cases y.getLsbD i <;> cases z.getLsbD i <;> rfl
theorem mst_ref (x y z : BitVec 32) : (x &&& y) ^^^ (x &&& z) ^^^ (y &&& z) = mst x y z := by
  unfold mst
  apply BitVec.eq_of_getLsbD_eq
  intro i hi
  simp only [BitVec.getLsbD_xor, BitVec.getLsbD_and, BitVec.getLsbD_or]
  cases x.getLsbD i <;> cases y.getLsbD i <;> cases z.getLsbD i <;> rfl
theorem rot_amt (n : Int) (h : 0 < n ∧ n < 32) : IntKind.u64.wrap ((BitVec.ofInt IntKind.u64.bits (IntKind.u64.wrap (IntKind.i64.wrap (0 - n))) &&& BitVec.ofInt IntKind.u64.bits 31).toNat : Int) = ((32 - n.toNat : Nat) : Int) := by
  obtain ⟨k, rfl⟩ : ∃ k : Nat, n = k := ⟨n.toNat, by omega⟩
  have : ∀ k : Nat, k < 32 → 0 < k → IntKind.u64.wrap ((BitVec.ofInt IntKind.u64.bits (IntKind.u64.wrap (IntKind.i64.wrap (0 - (k : Int)))) &&& BitVec.ofInt IntKind.u64.bits 31).toNat : Int) = ((32 - (k : Int).toNat : Nat) : Int) := by decide +kernel
  exact this k (by omega) (by omega)
theorem rotl_spec (x : BitVec 32) (n : Int) (h : 0 < n ∧ n < 32) (H : List VB) : VCalls Try.prog 152 [U x, I (IntKind.i64.wrap (0 - n))] H (fun r H' => r = U (rr x n.toNat) ∧ H' = H) := by
  have hr := rot_amt n h
  refine kcalls Try.func152 rfl (by kernel_rfl) rfl ?_
  intro R0 h0 hb
  have hs : IntKind.u64.wrap (32 - ((32 - n.toNat : Nat) : Int)) = ((n.toNat : Nat) : Int) := by
    have : IntKind.u64.wrap (32 - ((32 - n.toNat : Nat) : Int)) = (32 - ((32 - n.toNat : Nat) : Int)) % 18446744073709551616 := by
      simp only [IntKind.wrap, IntKind.bits, IntKind.signed, Bool.false_and, Bool.false_eq_true, if_false]; rfl
    rw [this]; omega
  repeat' (first | (conv => whnf) | skip); (first | (refine VReq.mk (by rw [hr]; omega) ?_) | (refine VReq.mk (by rw [hr, hs]; omega) ?_) | (refine kdone_pure h0 (by simp) ⟨?_, rfl⟩))
  refine congrArg (fun z : Int => SV.v (.int .u32 z)) ?_
  rw [hr, hs, Int.toNat_natCast, Int.toNat_natCast, uShl _ _ (by omega), uShr _ _ (by omega), uOr, BitVec.or_comm]
  rfl
theorem right_spec (x : BitVec 32) (n : Int) (h : 0 < n ∧ n < 32) (H : List VB) : VCalls Try.prog 150 [U x, I n] H (fun r H' => r = U (rr x n.toNat) ∧ H' = H) := by
  refine kcalls Try.func150 rfl (by kernel_rfl) rfl ?_
  intro R0 h0 hb
  repeat' (first | (conv => whnf) | skip); (first | (refine kcall_pure (rotl_spec x n h _) rfl ?_) | (refine kdone_pure h0 (by simp) ⟨?_, rfl⟩))
  rfl
theorem r03r_spec (x : BitVec 32) (n : Int) (h : 0 < n ∧ n < 32) (H : List VB) : VCalls Try.prog 145 [U x, I n] H (fun r H' => r = U (rr x n.toNat) ∧ H' = H) := by
  have hw : IntKind.i64.wrap (32 - n) = ((32 - n.toNat : Nat) : Int) := by rw [IntWalk.i64_in _ (by omega)]; omega
  refine kcalls Try.func145 rfl (by kernel_rfl) rfl ?_
  intro R0 h0 hb
  repeat' (first | (conv => whnf) | skip); (first | (refine kwp_draw (by kernel_rfl) (by kernel_rfl) rfl ?_) | (refine VReq.mk (by omega) ?_) | (refine VReq.mk (by rw [hw]; omega) ?_) | (refine kdone_pure h0 (by simp) ⟨?_, rfl⟩))
  refine congrArg (fun z : Int => SV.v (.int .u32 z)) ?_
  rw [hw, Int.toNat_natCast, uShl _ _ (by omega), uShr _ _ (by omega), uOr]
  rfl
theorem lowA_spec (x : BitVec 32) (H : List VB) : VCalls Try.prog 149 [U x] H (fun r H' => r = U (sgA x) ∧ H' = H) := by
  refine kcalls Try.func149 rfl (by kernel_rfl) rfl ?_
  intro R0 h0 hb
  repeat' (first | (conv => whnf) | skip); (first | (refine kcall_pure (right_spec x _ (by decide) _) rfl ?_) | (refine VReq.mk (by decide) ?_) | (refine kdone_pure h0 (by simp) ⟨?_, rfl⟩))
  refine congrArg (fun z : Int => SV.v (.int .u32 z)) ?_
  rw [uShr _ _ (by decide), uXor, uXor]
  rfl
theorem lowB_spec (x : BitVec 32) (H : List VB) : VCalls Try.prog 148 [U x] H (fun r H' => r = U (sgB x) ∧ H' = H) := by
  refine kcalls Try.func148 rfl (by kernel_rfl) rfl ?_
  intro R0 h0 hb
  repeat' (first | (conv => whnf) | skip); (first | (refine kcall_pure (right_spec x _ (by decide) _) rfl ?_) | (refine VReq.mk (by decide) ?_) | (refine kdone_pure h0 (by simp) ⟨?_, rfl⟩))
  refine congrArg (fun z : Int => SV.v (.int .u32 z)) ?_
  rw [uShr _ _ (by decide), uXor, uXor]
  rfl
theorem highA_spec (x : BitVec 32) (H : List VB) : VCalls Try.prog 137 [U x] H (fun r H' => r = U (suA x) ∧ H' = H) := by
  refine kcalls Try.func137 rfl (by kernel_rfl) rfl ?_
  intro R0 h0 hb
  repeat' (first | (conv => whnf) | skip); (first | (refine kcall_pure (right_spec x _ (by decide) _) rfl ?_) | (refine VReq.mk (by decide) ?_) | (refine kdone_pure h0 (by simp) ⟨?_, rfl⟩))
  refine congrArg (fun z : Int => SV.v (.int .u32 z)) ?_
  rw [uXor, uXor]
  rfl
theorem highB_spec (x : BitVec 32) (H : List VB) : VCalls Try.prog 135 [U x] H (fun r H' => r = U (suB x) ∧ H' = H) := by
  refine kcalls Try.func135 rfl (by kernel_rfl) rfl ?_
  intro R0 h0 hb
  repeat' (first | (conv => whnf) | skip); (first | (refine kcall_pure (right_spec x _ (by decide) _) rfl ?_) | (refine VReq.mk (by decide) ?_) | (refine kdone_pure h0 (by simp) ⟨?_, rfl⟩))
  refine congrArg (fun z : Int => SV.v (.int .u32 z)) ?_
  rw [uXor, uXor]
  rfl
theorem choose_spec (x y z : BitVec 32) (H : List VB) : VCalls Try.prog 136 [U x, U y, U z] H (fun r H' => r = U (chs x y z) ∧ H' = H) := by
  refine kcalls Try.func136 rfl (by kernel_rfl) rfl ?_
  intro R0 h0 hb
  repeat' (first | (conv => whnf) | skip); (first | (refine kdone_pure h0 (by simp) ⟨?_, rfl⟩))
  refine congrArg (fun z : Int => SV.v (.int .u32 z)) ?_
  rw [uXor, uAnd, uXor]
  rfl
theorem most_spec (x y z : BitVec 32) (H : List VB) : VCalls Try.prog 138 [U x, U y, U z] H (fun r H' => r = U (mst x y z) ∧ H' = H) := by
  refine kcalls Try.func138 rfl (by kernel_rfl) rfl ?_
  intro R0 h0 hb
  repeat' (first | (conv => whnf) | skip); (first | (refine kdone_pure h0 (by simp) ⟨?_, rfl⟩))
  refine congrArg (fun z : Int => SV.v (.int .u32 z)) ?_
  rw [uAnd, uOr, uAnd, uOr]
  rfl
end Go.Vm
