/- slices.Equal of a list of numbers with itself; the nodes below a number. -/
import Derived.Test.YthgpapnbnapdhaaF13
set_option linter.unusedVariables false
set_option linter.unusedSimpArgs false
namespace Go.Vm
open Go.Proofs
set_option maxRecDepth 100000
theorem equal_spec (f1 f2 : Bool) (xs : List Int) (hl : xs.length ≤ 1000) (H : List VB) : VCalls Try.prog 34 [.list 1 f1 (xs.map I), .list 1 f2 (xs.map I)] H (fun r H' => r = B true ∧ H' = H) := by
  refine kcalls Try.func34 rfl (by kernel_rfl) rfl ?_
  intro R0 h0 hb
  repeat' (first | (conv => whnf) | skip); (first | (refine VIf.mk (fun _ => ?_) (fun h => absurd rfl h)) | (refine VReq.mk (by kernel_rfl) ?_))
  (conv => whnf)
  refine kwp_loop (S := Nat) (fun i => [(0, .list 1 f1 (xs.map I)), (1, .list 1 f2 (xs.map I)), (12, I ((xs.map I).length : Nat)), (13, I i)]) (fun i => ⟨H.length, H, []⟩) (fun i => i ≤ (xs.map I).length) (fun i => (xs.map I).length - i) 0 (by omega) (tsub_cons rfl (tsub_cons rfl (tsub_cons rfl (tsub_cons rfl tsub_nil)))) rfl (fun i hi => ⟨rfl, rfl⟩) ?_
  intro i hi
  have hlm : (xs.map I).length = xs.length := List.length_map ..
  rcases Nat.lt_or_ge i (xs.map I).length with hlt | hge
  · have hg : (xs.map I)[((i : Nat) : Int).toNat]? = some (I (xs.getD i 0)) := by rw [Int.toNat_natCast]; exact getI (by omega)
    repeat' (first | (conv => whnf) | skip); (first | (refine VIf.mk (fun _ => ?_) (fun h => absurd rfl h)) | (refine VIf.mk (fun _ => ?_) (fun _ => by omega)) | (refine VReq.mk (by kernel_rfl) ?_) | (refine VReq.mk ⟨by kernel_rfl, by omega⟩ ?_) | (refine kwp_draw (by kernel_rfl) (by kernel_rfl) rfl ?_) | (refine kget_some hg ?_) | (refine kget_some rfl ?_) | (refine KEnd.mk ?_))
    exact ⟨i + 1, hlt, by omega, tsub_cons rfl (tsub_cons rfl (tsub_cons rfl (tsub_cons (congrArg I (inc64 (by omega))) tsub_nil))), rfl⟩
  · repeat' (first | (conv => whnf) | skip); (first | (refine VIf.mk (fun h => absurd h (by omega)) (fun _ => ?_)) | (refine VReq.mk (by kernel_rfl) ?_) | (refine kdone_pure h0 (by simp) ⟨?_, rfl⟩))
    rfl
/-- The nodes below a number. -/
def allI (k : Nat) : Int := ((2 ^ k - 1 : Nat) : Int)
def upTo (n : Int) : Nat := min n.toNat 7
theorem pall_spec (n : Int) (H : List VB) : VCalls Try.prog 32 [I n] H (fun r H' => r = I (allI (upTo n)) ∧ H' = H) := by
  refine kcalls Try.func32 rfl (by kernel_rfl) rfl ?_
  intro R0 h0 hb
  repeat' (first | (conv => whnf) | skip); (first | (refine VIf.mk (fun _ => ?_) (fun _ => ?_)) | (refine VReq.mk (by omega) ?_) | (refine kdone_pure h0 (by simp) ⟨?_, rfl⟩))
  have e : (min (max n 0) 7).toNat = upTo n := by unfold upTo; omega
  have h7 : upTo n < 8 := by unfold upTo; omega
  rw [e]
  refine congrArg I ?_
  generalize upTo n = k at h7
  clear e h0 hb
  revert k
  decide +kernel
theorem r01with_spec (k : Nat) (hk : k < 7) (H : List VB) : VCalls Try.prog 65 [I (allI k), I k] H (fun r H' => r = I (allI (k + 1)) ∧ H' = H) := by
  refine kcalls Try.func65 rfl (by kernel_rfl) rfl ?_
  intro R0 h0 hb
  have hno : has61 (allI k) k = false := by revert k; decide +kernel
  repeat' (first | (conv => whnf) | skip); (first | (refine VIf.mk (fun h => absurd h (by omega)) (fun _ => ?_)) | (refine VReq.mk (by omega) ?_) | (refine kcall_bool (r01has_spec _ _ _) rfl (fun h => by rw [hno] at h; cases h) (fun _ => ?_)) | (refine kdone_pure h0 (by simp) ⟨?_, rfl⟩))
  refine congrArg I ?_
  clear h0 hb hno
  rename_i g1 g2 g3
  clear g1 g2 g3
  revert k
  decide +kernel
theorem r12all_spec (n : Int) (H : List VB) : VCalls Try.prog 33 [I n] H (fun r H' => r = I (allI (upTo n)) ∧ H' = H) := by
  refine kcalls Try.func33 rfl (by kernel_rfl) rfl ?_
  intro R0 h0 hb
  (conv => whnf)
  refine kwp_loop (S := Nat) (fun i => [(0, I n), (3, I (allI i)), (4, I i)]) (fun i => ⟨H.length, H, []⟩) (fun i => i ≤ upTo n) (fun i => upTo n - i) 0 (by omega) (tsub_cons rfl (tsub_cons rfl (tsub_cons rfl tsub_nil))) rfl (fun i hi => ⟨rfl, rfl⟩) ?_
  intro i hi
  have h7 : upTo n ≤ 7 := by unfold upTo; omega
  rcases Nat.lt_or_ge i (upTo n) with hlt | hge
  · have h1 : i < 7 := by omega
    have h2 : (i : Int) < n := by unfold upTo at hlt; omega
    repeat' (first | (conv => whnf) | skip); (first | (refine VIf.mk (fun _ => ?_) (fun h => absurd (by omega) h)) | (refine kcall_pure (r01with_spec i h1 _) rfl ?_) | (refine KEnd.mk ?_))
    exact ⟨i + 1, hlt, by omega, tsub_cons rfl (tsub_cons rfl (tsub_cons (congrArg I (inc64 (by omega))) tsub_nil)), rfl⟩
  · have he : i = upTo n := by omega
    subst he
    have h3 : ¬ ((upTo n : Nat) : Int) < 7 ∨ ¬ ((upTo n : Nat) : Int) < n := by unfold upTo; omega
    repeat' (first | (conv => whnf) | skip); (first | (refine VIf.mk (fun _ => by omega) (fun _ => ?_)) | (refine VIf.mk (fun _ => ?_) (fun _ => ?_)) | (refine kdone_pure h0 (by simp) ⟨?_, rfl⟩))
    all_goals rfl
end Go.Vm
