/- Bits of numbers: plain laws. -/
import Derived.Test.YthgpapnbnapdhaaV20
import Derived.IntWalk
set_option linter.unusedVariables false
set_option linter.unusedSimpArgs false
namespace Go.Vm
abbrev I (n : Int) : SV := .v (.int .i64 n)
abbrev B (b : Bool) : SV := .v (.bool b)
/-- Bit i of a number. -/
def tb (c : Int) (i : Nat) : Bool := (BitVec.ofInt 64 c).getLsbD i
def bitv (i : Int) : Int := if 0 ≤ i ∧ i ≤ 61 then 2 ^ i.toNat else 0
def has61 (c i : Int) : Bool := decide (0 ≤ i ∧ i ≤ 61) && tb c i.toNat
def mem7 (c i : Int) : Bool := decide (0 ≤ i ∧ i ≤ 6) && tb c i.toNat
def cnt (c : Int) : Nat := (tb c 0).toNat + (tb c 1).toNat + (tb c 2).toNat + (tb c 3).toNat + (tb c 4).toNat + (tb c 5).toNat + (tb c 6).toNat
theorem mem7_has {c i : Int} : (decide (0 ≤ i ∧ i ≤ 6) && has61 c i) = mem7 c i := by
  unfold has61 mem7
  by_cases h : 0 ≤ i ∧ i ≤ 6
  · have h2 : 0 ≤ i ∧ i ≤ 61 := by omega
    simp [h, h2]
  · simp [h]
theorem ofInt_pow {k : Nat} (hk : k ≤ 61) : BitVec.ofInt 64 (2 ^ k : Int) = BitVec.twoPow 64 k := by
  apply BitVec.eq_of_toNat_eq
  rw [BitVec.toNat_ofInt, BitVec.toNat_twoPow]
  have h1 : (2 : Int) ^ k = ((2 ^ k : Nat) : Int) := by simp
  rw [h1]
  omega
theorem pow_lt {k : Nat} (hk : k ≤ 61) : (2 : Nat) ^ k ≤ 2305843009213693952 := by
  have : (2 : Nat) ^ k ≤ 2 ^ 61 := Nat.pow_le_pow_right (by omega) hk
  simpa using this
theorem and_bitv (c i : Int) : (IntKind.i64.wrap ((BitVec.ofInt IntKind.i64.bits c &&& BitVec.ofInt IntKind.i64.bits (bitv i)).toNat : Int) = 0) ↔ has61 c i = false := by
  unfold bitv has61 tb
  by_cases h : 0 ≤ i ∧ i ≤ 61
  · rw [if_pos h]
    have hk : i.toNat ≤ 61 := by omega
    show IntKind.i64.wrap ((BitVec.ofInt 64 c &&& BitVec.ofInt 64 (2 ^ i.toNat)).toNat : Int) = 0 ↔ _
    rw [ofInt_pow hk, BitVec.and_twoPow]
    have hp := pow_lt hk
    have hpos : 0 < (2 : Nat) ^ i.toNat := Nat.pow_pos (by omega)
    cases hb : (BitVec.ofInt 64 c).getLsbD i.toNat
    · simp [h, IntWalk.i64_in 0 (by omega)]
    · simp only [if_true, BitVec.toNat_twoPow, h, and_self, decide_true, Bool.and_true, Bool.true_eq_false, iff_false]
      rw [Nat.mod_eq_of_lt (by omega), IntWalk.i64_in _ (by omega)]
      omega
  · rw [if_neg h]
    simp [h, IntWalk.i64_in 0 (by omega)]
theorem u64_toNat (c : Int) : IntKind.u64.wrap c = ((BitVec.ofInt 64 c).toNat : Int) := by
  rw [BitVec.toNat_ofInt]
  simp only [IntKind.wrap, IntKind.bits, IntKind.signed, Bool.false_and, Bool.false_eq_true, if_false]
  omega
theorem shr_rem (c : Int) (k : Nat) (hk : k ≤ 61) : ((IntKind.u64.wrap c).fdiv (2 ^ min k IntKind.u64.bits)).tmod 2 = 1 ↔ tb c k = true := by
  rw [u64_toNat]
  have h1 : min k IntKind.u64.bits = k := by simp [IntKind.bits]; omega
  rw [h1]
  unfold tb
  rw [← BitVec.testBit_toNat, Nat.testBit_eq_decide_div_mod_eq]
  have h2 : ((BitVec.ofInt 64 c).toNat : Int).fdiv (2 ^ k) = (((BitVec.ofInt 64 c).toNat / 2 ^ k : Nat) : Int) := by
    rw [Int.fdiv_eq_ediv_of_nonneg _ (by exact Int.pow_nonneg (by omega))]
    simp
  rw [h2]
  have h3 : ((((BitVec.ofInt 64 c).toNat / 2 ^ k : Nat) : Int)).tmod 2 = (((BitVec.ofInt 64 c).toNat / 2 ^ k % 2 : Nat) : Int) := by
    rw [Int.tmod_eq_emod_of_nonneg (Int.natCast_nonneg _)]
    simp
  rw [h3, decide_eq_true_iff]
  generalize (BitVec.ofInt 64 c).toNat / 2 ^ k % 2 = z
  constructor <;> intro h <;> omega
/-- The seven lowest bits, as a number. -/
def lo7 (c : Int) : Nat := (BitVec.ofInt 64 c &&& 127#64).toNat
theorem lo7_lt (c : Int) : lo7 c < 128 := by
  unfold lo7
  rw [BitVec.toNat_and]
  exact Nat.lt_of_le_of_lt Nat.and_le_right (by decide)
theorem tb_lo7 (c : Int) (i : Nat) (hi : i ≤ 6) : tb c i = (lo7 c).testBit i := by
  unfold tb lo7
  rw [BitVec.testBit_toNat, BitVec.getLsbD_and]
  have : (127#64).getLsbD i = true := by
    have : ∀ i, i < 7 → (127#64).getLsbD i = true := by decide
    exact this i (by omega)
  rw [this, Bool.and_true]
def pop7 (n : Nat) : Nat := (n.testBit 0).toNat + (n.testBit 1).toNat + (n.testBit 2).toNat + (n.testBit 3).toNat + (n.testBit 4).toNat + (n.testBit 5).toNat + (n.testBit 6).toNat
theorem cnt_pop (c : Int) : cnt c = pop7 (lo7 c) := by
  simp only [cnt, pop7, tb_lo7 c 0 (by omega), tb_lo7 c 1 (by omega), tb_lo7 c 2 (by omega), tb_lo7 c 3 (by omega), tb_lo7 c 4 (by omega), tb_lo7 c 5 (by omega), tb_lo7 c 6 (by omega)]
theorem and127 (c : Int) : IntKind.i64.wrap ((BitVec.ofInt IntKind.i64.bits c &&& BitVec.ofInt IntKind.i64.bits 127).toNat : Int) = (lo7 c : Int) := by
  have h := lo7_lt c
  exact IntWalk.i64_in (lo7 c : Int) (by omega)
end Go.Vm
