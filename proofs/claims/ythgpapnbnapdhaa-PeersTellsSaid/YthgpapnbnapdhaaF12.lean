/- PeersBest: the plain law. -/
import Derived.Test.YthgpapnbnapdhaaF7
import Derived.Test.YthgpapnbnapdhaaF11
import Derived.Test.YthgpapnbnapdhaaF10
set_option linter.unusedVariables false
set_option linter.unusedSimpArgs false
namespace Go.Vm
open Go.Proofs
set_option maxRecDepth 100000
def orI (a b : Int) : Int := IntKind.i64.wrap ((BitVec.ofInt IntKind.i64.bits a ||| BitVec.ofInt IntKind.i64.bits b).toNat : Int)
theorem tb_or (a b : Int) (i : Nat) : tb (orI a b) i = (tb a i || tb b i) := by
  unfold tb orI
  show (BitVec.ofInt 64 (IntKind.i64.wrap ((BitVec.ofInt 64 a ||| BitVec.ofInt 64 b).toNat : Int))).getLsbD i = _
  rw [ofInt_wrap, BitVec.getLsbD_or]
theorem tb_pow {k i : Nat} (hk : k < 7) : tb (IntKind.i64.wrap (1 * 2 ^ (min k IntKind.i64.bits))) i = decide (k = i) := by
  have h1 : min k IntKind.i64.bits = k := by have : IntKind.i64.bits = 64 := rfl; omega
  have hp := pow_lt (k := k) (by omega)
  obtain ⟨m, hm⟩ : ∃ m, 2 ^ k = m := ⟨_, rfl⟩
  have h2 : (2 : Int) ^ k = (m : Int) := by rw [← hm]; simp
  rw [hm] at hp
  rw [h1, Int.one_mul, IntWalk.i64_in ((2 : Int) ^ k) (by rw [h2]; omega)]
  unfold tb
  rw [ofInt_pow (by omega), BitVec.getLsbD_twoPow]
  have : k < 64 := by omega
  simp [this]
theorem cnt_hav (c : Int) (ms : List Int) (p : Int → Bool) : (hav c ms (memA c 7)).countP p = sm fun k => (tb c k && p (ms.getD k 0)).toNat := by
  have h : ∀ n, n < 7 → (hav c ms (memA c (n + 1))).countP p = (hav c ms (memA c n)).countP p + (tb c n && p (ms.getD n 0)).toNat := fun n hn => by
    cases hb : tb c n with
    | false => rw [memA_no hb]; simp
    | true =>
      have := memA_yes (c := c) (k := n) ⟨by omega, by omega⟩ (by simpa using hb)
      simp only [Int.toNat_natCast] at this
      rw [this, hav, List.map_append, List.countP_append]
      unfold hav
      simp only [List.map_cons, List.map_nil, List.countP_cons, List.countP_nil, Int.toNat_natCast, Bool.true_and]
      cases p (ms.getD n 0) <;> simp
  rw [h 6 (by omega), h 5 (by omega), h 4 (by omega), h 3 (by omega), h 2 (by omega), h 1 (by omega), h 0 (by omega)]
  simp [memA, hav, sm]
/-- Which of some members fulfil something. -/
def anyA (p : Int → Bool) (ms : List Int) (l : List M7) (k : Nat) : Bool := l.any fun x => decide (x.1 = (k : Int)) && p (ms.getD k 0)
theorem anyA_mem (p : Int → Bool) (c : Int) (ms : List Int) : ∀ n, n ≤ 7 → ∀ k, anyA p ms (memA c n) k = (decide (k < n) && tb c k && p (ms.getD k 0))
  | 0, _, k => by simp [anyA, memA]
  | n + 1, hn, k => by
    have ih := anyA_mem p c ms n (by omega) k
    cases hb : tb c n with
    | false =>
      rw [memA_no hb, ih]
      by_cases h : k = n
      · subst h; simp [hb]
      · have : (k < n) = (k < n + 1) := by apply propext; omega
        simp [this]
    | true =>
      have := memA_yes (c := c) (k := n) ⟨by omega, by omega⟩ (by simpa using hb)
      simp only [Int.toNat_natCast] at this
      rw [this]
      unfold anyA at ih ⊢
      rw [List.any_append, ih]
      by_cases h : k = n
      · subst h; simp [hb]
      · have h2 : ¬ ((n : Int) = (k : Int)) := by omega
        have : (k < n) = (k < n + 1) := by apply propext; omega
        simp [this, h2]
theorem best_law {c v : Int} {ms : List Int} (hc : chk c = 0) (hv : MatOk (hav c ms (memA c 7)) v) {a b : Int} (ha : ∀ k, k < 7 → tb a k = anyA (fun x => decide (v ≤ x)) ms (memA c 7) k) (hb : ∀ k, k < 7 → tb b k = anyA (fun x => decide (v < x)) ms (memA c 7) k) :
    quo c a = true ∧ quo c b = false := by
  have key : ∀ (p : Int → Bool) (y : Int), (∀ k, k < 7 → tb y k = anyA p ms (memA c 7) k) → cnt (andI c y) = (hav c ms (memA c 7)).countP p := fun p y hy => by
    rw [cnt_hav, cnt_sm]
    have : ∀ k, k < 7 → (tb (andI c y) k).toNat = (tb c k && p (ms.getD k 0)).toNat := fun k hk => by
      rw [tb_and, hy k hk, anyA_mem p c ms 7 (by omega)]
      cases tb c k <;> simp [hk]
    exact Nat.le_antisymm (sm_le fun k hk => Nat.le_of_eq (this k hk)) (sm_le fun k hk => Nat.le_of_eq (this k hk).symm)
  have hlen : (hav c ms (memA c 7)).length = cnt c := by rw [hav_len, mems_cnt]
  have hpos : 0 < cnt c := by
    unfold chk at hc
    split at hc
    · rename_i h
      have hd : ∀ n : Nat, n < 128 → 0 < n → 0 < pop7 n := by decide +kernel
      rw [cnt_pop]
      refine hd _ (lo7_lt c) ?_
      have : lo7 c = c.toNat := by
        unfold lo7
        have e : c = ((c.toNat : Nat) : Int) := by omega
        have hk : c.toNat < 128 := by omega
        rw [e]
        generalize c.toNat = k at hk
        revert k
        decide +kernel
      omega
    · cases hc
  have hne : hav c ms (memA c 7) ≠ [] := fun h => by rw [h] at hlen; simp at hlen; omega
  obtain ⟨h1, h2, h3⟩ := matOk_count hv hne
  rw [hlen] at h2 h3
  unfold quo
  rw [key _ a ha, key _ b hb]
  constructor
  · simp only [Bool.and_eq_true, decide_eq_true_eq]; omega
  · rw [decide_eq_false (p := cnt c / 2 < _) (by omega), Bool.and_false]
end Go.Vm
