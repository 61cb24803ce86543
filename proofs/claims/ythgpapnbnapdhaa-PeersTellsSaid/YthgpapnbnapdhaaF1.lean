/- Layers nums, peers: what the functions compute. (Printed by gen1.py.) -/
import Derived.Test.YthgpapnbnapdhaaF0
import Derived.Test.YthgpapnbnapdhaaProg
import Derived.KernelRfl
set_option linter.unusedVariables false
set_option linter.unusedSimpArgs false
namespace Go.Vm
open Go.Proofs
set_option maxRecDepth 100000
theorem within_spec (n lo hi : Int) (H : List VB) : VCalls Try.prog 54 [I n, I lo, I hi] H (fun r H' => r = B (decide (lo ≤ n ∧ n ≤ hi)) ∧ H' = H) := by
  refine kcalls Try.func54 rfl (by kernel_rfl) rfl ?_
  intro R0 h0 hb
  repeat' (first | (conv => whnf) | skip); (first | (refine VIf.mk (fun _ => ?_) (fun _ => ?_)) | (refine VReq.mk ?_ ?_) | (refine kdone_pure h0 (by simp) ⟨?_, rfl⟩))
  all_goals (simp_all <;> omega)
theorem bit_spec (i : Int) (H : List VB) : VCalls Try.prog 78 [I i] H (fun r H' => r = I (bitv i) ∧ H' = H) := by
  refine kcalls Try.func78 rfl (by kernel_rfl) rfl ?_
  intro R0 h0 hb
  repeat' (first | (conv => whnf) | skip); (first | (refine VIf.mk (fun _ => ?_) (fun _ => ?_)) | (refine VReq.mk ?_ ?_) | (refine kcall_bool (within_spec _ _ _ _) rfl (fun _ => ?_) (fun _ => ?_)) | (refine kdone_pure h0 (by simp) ⟨?_, rfl⟩))
  · rename_i h; exact (of_decide_eq_true h).1
  · rename_i h; have h' := of_decide_eq_true h
    have hp := pow_lt (k := i.toNat) (by omega)
    have h1 : min i.toNat IntKind.i64.bits = i.toNat := by have : IntKind.i64.bits = 64 := rfl; omega
    obtain ⟨m, hm⟩ : ∃ m, 2 ^ i.toNat = m := ⟨_, rfl⟩
    have h2 : (2 : Int) ^ i.toNat = (m : Int) := by rw [← hm]; simp
    rw [hm] at hp
    rw [h1, Int.one_mul, bitv, if_pos h', IntWalk.i64_in ((2 : Int) ^ i.toNat) (by rw [h2]; omega)]
  · rename_i h; rw [bitv, if_neg (of_decide_eq_false h)]
theorem has_spec (c i : Int) (H : List VB) : VCalls Try.prog 56 [I c, I i] H (fun r H' => r = B (has61 c i) ∧ H' = H) := by
  refine kcalls Try.func56 rfl (by kernel_rfl) rfl ?_
  intro R0 h0 hb
  repeat' (first | (conv => whnf) | skip); (first | (refine VIf.mk (fun _ => ?_) (fun _ => ?_)) | (refine VReq.mk ?_ ?_) | (refine kcall_pure (bit_spec _ _) rfl ?_) | (refine kdone_pure h0 (by simp) ⟨?_, rfl⟩))
  · rename_i h; rw [(and_bitv c i).1 h]
  · rename_i h; have : has61 c i = true := by
      cases hh : has61 c i
      · exact absurd ((and_bitv c i).2 hh) h
      · rfl
    rw [this]
theorem ones_spec (n : Nat) (hn : n < 128) (H : List VB) : VCalls Try.prog 80 [.v (.int .u64 n)] H (fun r H' => r = I (pop7 n) ∧ H' = H) := by
  refine kcalls Try.func80 rfl (by kernel_rfl) rfl ?_
  intro R0 h0 hb
  repeat' (first | (conv => whnf) | skip); (first | (refine VIf.mk (fun _ => ?_) (fun _ => ?_)) | (refine VReq.mk ?_ ?_) | (refine kdone_pure h0 (by simp) ⟨?_, rfl⟩))
  all_goals try decide
  refine congrArg (fun z : Int => SV.v (.int .i64 z)) ?_
  clear h0 hb
  revert n
  decide +kernel
theorem bits_spec (n : Nat) (hn : n < 128) (H : List VB) : VCalls Try.prog 64 [I n] H (fun r H' => r = I (pop7 n) ∧ H' = H) := by
  have hw : IntKind.u64.wrap (IntKind.i64.wrap ((BitVec.ofInt IntKind.i64.bits (n : Int) &&& BitVec.ofInt IntKind.i64.bits 4611686018427387903).toNat : Int)) = n := by
    revert n
    decide +kernel
  refine kcalls Try.func64 rfl (by kernel_rfl) rfl ?_
  intro R0 h0 hb
  repeat' (first | (conv => whnf) | skip); (first | (refine VIf.mk (fun _ => ?_) (fun _ => ?_)) | (refine VReq.mk ?_ ?_) | (refine kcall_pure (by rw [hw]; exact ones_spec n hn _) rfl ?_) | (refine kdone_pure h0 (by simp) ⟨?_, rfl⟩))
  rfl
theorem r01has_spec (c i : Int) (H : List VB) : VCalls Try.prog 63 [I c, I i] H (fun r H' => r = B (has61 c i) ∧ H' = H) := by
  refine kcalls Try.func63 rfl (by kernel_rfl) rfl ?_
  intro R0 h0 hb
  repeat' (first | (conv => whnf) | skip); (first | (refine VIf.mk (fun _ => ?_) (fun _ => ?_)) | (refine VReq.mk ?_ ?_) | (refine kdone_pure h0 (by simp) ⟨?_, rfl⟩))
  all_goals try simp only [has61]
  · assumption
  · decide
  · rename_i h1 h2 h3
    rw [(shr_rem c i.toNat (by omega)).1 h3]; simp [h1, h2]
  · rename_i h1 h2 h3
    have : tb c i.toNat = false := by cases hh : tb c i.toNat; rfl; exact absurd ((shr_rem c i.toNat (by omega)).2 hh) h3
    rw [this]; simp
  · rename_i h1 h2
    simp [h2]
  · rename_i h1
    have : ¬ (0 ≤ i ∧ i ≤ 61) := fun h => h1 h.1
    simp [this]
theorem r12has_spec (c i : Int) (H : List VB) : VCalls Try.prog 28 [I c, I i] H (fun r H' => r = B (mem7 c i) ∧ H' = H) := by
  refine kcalls Try.func28 rfl (by kernel_rfl) rfl ?_
  intro R0 h0 hb
  repeat' (first | (conv => whnf) | skip); (first | (refine VIf.mk (fun _ => ?_) (fun _ => ?_)) | (refine VReq.mk ?_ ?_) | (refine kcall_bool (r01has_spec _ _ _) rfl (fun _ => ?_) (fun _ => ?_)) | (refine kdone_pure h0 (by simp) ⟨?_, rfl⟩))
  · rename_i h1 h2 h3; rw [← mem7_has, h3]; simp [h1, h2]
  · rename_i h1 h2 h3; rw [← mem7_has, h3]; simp
  · rename_i h1 h2; have : ¬ (0 ≤ i ∧ i ≤ 6) := fun h => h2 h.2
    simp [mem7, this]
  · rename_i h1; have : ¬ (0 ≤ i ∧ i ≤ 6) := fun h => h1 h.1
    simp [mem7, this]
theorem phas_spec (c i : Int) (H : List VB) : VCalls Try.prog 18 [I c, I i] H (fun r H' => r = B (mem7 c i) ∧ H' = H) := by
  refine kcalls Try.func18 rfl (by kernel_rfl) rfl ?_
  intro R0 h0 hb
  repeat' (first | (conv => whnf) | skip); (first | (refine VIf.mk (fun _ => ?_) (fun _ => ?_)) | (refine VReq.mk ?_ ?_) | (refine kcall_bool (within_spec _ _ _ _) rfl (fun _ => ?_) (fun _ => ?_)) | (refine kcall_bool (has_spec _ _ _) rfl (fun _ => ?_) (fun _ => ?_)) | (refine kdone_pure h0 (by simp) ⟨?_, rfl⟩))
  · rename_i h1 h2; rw [← mem7_has, h1, h2]; rfl
  · rename_i h1 h2; rw [← mem7_has, h1, h2]; rfl
  · rename_i h1; rw [← mem7_has, h1]; rfl
def chk (c : Int) : Int := if 1 ≤ c ∧ c ≤ 127 then 0 else 1
theorem pcheck_spec (c : Int) (H : List VB) : VCalls Try.prog 16 [I c] H (fun r H' => r = I (chk c) ∧ H' = H) := by
  refine kcalls Try.func16 rfl (by kernel_rfl) rfl ?_
  intro R0 h0 hb
  repeat' (first | (conv => whnf) | skip); (first | (refine VIf.mk (fun _ => ?_) (fun _ => ?_)) | (refine VReq.mk ?_ ?_) | (refine kcall_bool (within_spec _ _ _ _) rfl (fun _ => ?_) (fun _ => ?_)) | (refine kdone_pure h0 (by simp) ⟨?_, rfl⟩))
  · rename_i h; rw [chk, if_pos (of_decide_eq_true h)]
  · rename_i h; rw [chk, if_neg (of_decide_eq_false h)]
theorem r12check_spec (c : Int) (H : List VB) : VCalls Try.prog 27 [I c] H (fun r H' => r = I (chk c) ∧ H' = H) := by
  refine kcalls Try.func27 rfl (by kernel_rfl) rfl ?_
  intro R0 h0 hb
  repeat' (first | (conv => whnf) | skip); (first | (refine VIf.mk (fun _ => ?_) (fun _ => ?_)) | (refine VReq.mk ?_ ?_) | (refine kdone_pure h0 (by simp) ⟨?_, rfl⟩))
  all_goals unfold chk
  all_goals (first | (rw [if_pos (by omega)]) | (rw [if_neg (by omega)]))
theorem pcount_spec (c : Int) (H : List VB) : VCalls Try.prog 29 [I c] H (fun r H' => r = I (cnt c) ∧ H' = H) := by
  refine kcalls Try.func29 rfl (by kernel_rfl) rfl ?_
  intro R0 h0 hb
  repeat' (first | (conv => whnf) | skip); (first | (refine VIf.mk (fun _ => ?_) (fun _ => ?_)) | (refine VReq.mk ?_ ?_) | (refine kcall_pure (by rw [and127]; exact bits_spec (lo7 c) (lo7_lt c) _) rfl ?_) | (refine kdone_pure h0 (by simp) ⟨?_, rfl⟩))
  rw [cnt_pop]
theorem cnt_le (c : Int) : cnt c ≤ 7 := by
  have h : ∀ b : Bool, b.toNat ≤ 1 := by decide
  have := h (tb c 0); have := h (tb c 1); have := h (tb c 2); have := h (tb c 3); have := h (tb c 4); have := h (tb c 5); have := h (tb c 6)
  unfold cnt; omega
theorem half (c : Int) : IntKind.i64.wrap ((cnt c : Int).tdiv 2) = (cnt c / 2 : Nat) := by
  have := cnt_le c
  rw [IntWalk.i64_quo _ _ (by omega)]
  omega
theorem penough_spec (c n : Int) (H : List VB) : VCalls Try.prog 55 [I c, I n] H (fun r H' => r = B (decide (((cnt c / 2 : Nat) : Int) < n)) ∧ H' = H) := by
  refine kcalls Try.func55 rfl (by kernel_rfl) rfl ?_
  intro R0 h0 hb
  repeat' (first | (conv => whnf) | skip); (first | (refine VIf.mk (fun _ => ?_) (fun _ => ?_)) | (refine VReq.mk ?_ ?_) | (refine kcall_pure (pcount_spec _ _) rfl ?_) | (refine kdone_pure h0 (by simp) ⟨?_, rfl⟩))
  · decide
  all_goals rename_i h
  all_goals rw [half] at h
  · rw [decide_eq_true h]
  · rw [decide_eq_false h]
def andI (a b : Int) : Int := IntKind.i64.wrap ((BitVec.ofInt IntKind.i64.bits a &&& BitVec.ofInt IntKind.i64.bits b).toNat : Int)
def xorI (a b : Int) : Int := IntKind.i64.wrap ((BitVec.ofInt IntKind.i64.bits a ^^^ BitVec.ofInt IntKind.i64.bits b).toNat : Int)
/-- More than half. -/
def quo (c y : Int) : Bool := decide (0 < cnt (andI c y)) && decide (cnt c / 2 < cnt (andI c y))
theorem pquorum_spec (c y : Int) (H : List VB) : VCalls Try.prog 17 [I c, I y] H (fun r H' => r = B (quo c y) ∧ H' = H) := by
  refine kcalls Try.func17 rfl (by kernel_rfl) rfl ?_
  intro R0 h0 hb
  repeat' (first | (conv => whnf) | skip); (first | (refine VIf.mk (fun _ => ?_) (fun _ => ?_)) | (refine VReq.mk ?_ ?_) | (refine kcall_pure (pcount_spec _ _) rfl ?_) | (refine kcall_bool (penough_spec _ _ _) rfl (fun _ => ?_) (fun _ => ?_)) | (refine kdone_pure h0 (by simp) ⟨?_, rfl⟩))
  all_goals unfold quo
  · rename_i h1 h2
    have h3 := of_decide_eq_true h2
    rw [decide_eq_true (by exact Int.ofNat_lt.1 h1), decide_eq_true (by exact Int.ofNat_lt.1 h3)]; rfl
  · rename_i h1 h2
    have h3 := of_decide_eq_false h2
    rw [decide_eq_false (p := cnt c / 2 < _) (by exact fun h => h3 (Int.ofNat_lt.2 h)), Bool.and_false]
  · rename_i h1
    rw [decide_eq_false (by exact fun h => h1 (Int.ofNat_lt.2 h)), Bool.false_and]
/-- May members become others? -/
def chg (o c : Int) : Int := if chk o = 0 ∧ chk c = 0 ∧ cnt (xorI o c) = 1 then 0 else 19
theorem pchange_spec (o c : Int) (H : List VB) : VCalls Try.prog 14 [I o, I c] H (fun r H' => r = I (chg o c) ∧ H' = H) := by
  refine kcalls Try.func14 rfl (by kernel_rfl) rfl ?_
  intro R0 h0 hb
  repeat' (first | (conv => whnf) | skip); (first | (refine VIf.mk (fun _ => ?_) (fun _ => ?_)) | (refine VReq.mk ?_ ?_) | (refine kcall_pure (pcheck_spec _ _) rfl ?_) | (refine kcall_pure (pcount_spec _ _) rfl ?_) | (refine kdone_pure h0 (by simp) ⟨?_, rfl⟩))
  all_goals unfold chg
  · rename_i h1 h2 h3; rw [if_pos ⟨h1, h2, by exact Int.ofNat_inj.1 h3⟩]
  · rename_i h1 h2 h3; rw [if_neg (by exact fun h => h3 (by exact congrArg Int.ofNat h.2.2))]
  · rename_i h1 h2; rw [if_neg (by exact fun h => h2 h.2.1)]
  · rename_i h1; rw [if_neg (by exact fun h => h1 h.1)]
end Go.Vm
