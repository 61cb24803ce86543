/- PeersTells: the walk. -/
import Derived.Test.YthgpapnbnapdhaaF14
set_option linter.unusedVariables false
set_option linter.unusedSimpArgs false
namespace Go.Vm
open Go.Proofs
set_option maxRecDepth 100000
theorem equal_nil (f2 : Bool) (H : List VB) : VCalls Try.prog 34 [.v (.slice none 0 0), .list 1 f2 []] H (fun r H' => r = B true ∧ H' = H) := by
  refine kcalls Try.func34 rfl (by kernel_rfl) rfl ?_
  intro R0 h0 hb
  repeat' (first | (conv => whnf) | skip); (first | (refine VIf.mk (fun _ => ?_) (fun h => absurd rfl h)) | (refine VReq.mk (by kernel_rfl) ?_))
  (conv => whnf)
  refine kwp_loop (S := Unit) (fun _ => [(12, I 0), (13, I 0)]) (fun i => ⟨H.length, H, []⟩) (fun _ => True) (fun _ => 0) () trivial (tsub_cons rfl (tsub_cons rfl tsub_nil)) rfl (fun i hi => ⟨rfl, rfl⟩) ?_
  intro i hi
  repeat' (first | (conv => whnf) | skip); (first | (refine VIf.mk (fun h => absurd h (by decide)) (fun _ => ?_)) | (refine VReq.mk (by kernel_rfl) ?_) | (refine kdone_pure h0 (by simp) ⟨?_, rfl⟩))
  rfl
theorem quo_eq (c y : Int) : decide ((mems c 7).length < 2 * cntIn y (mems c 7)) = quo c y := by
  have e : cntIn y (mems c 7) = cnt (andI c y) := by
    rw [cntIn_mems, cnt_sm]
    simp only [tb_and]
    rfl
  rw [e, mems_cnt]
  unfold quo
  by_cases h : cnt c / 2 < cnt (andI c y)
  · rw [decide_eq_true (by omega), decide_eq_true (p := 0 < _) (by omega), decide_eq_true h]; rfl
  · rw [decide_eq_false (by omega), decide_eq_false (p := cnt c / 2 < _) h, Bool.and_false]
set_option maxHeartbeats 4000000 in
theorem peersTells_spec (c node y n : Int) : VCalls Try.prog 7 [I c, I node, I y, I n] [] fun r H' => r = .v (.bool true) := by
  refine VCalls.mono (K := fun r H' => r = B true ∧ H' = []) ?_ fun r H' h => h.1
  refine kcalls Try.func7 rfl (by kernel_rfl) rfl ?_
  intro R0 h0 hb
  have nm : NoMap (KH.flat ⟨([] : List VB).length, [], []⟩) := by intro id es h; simp [KH.flat] at h
  have hpl := plist_spec c _ nm
  have hrl := r12list_spec c (KH.flat ⟨([] : List VB).length, [], []⟩)
  rw [mems_memA c 7 (by omega)] at hrl
  have hq := r12quorum_spec c y (KH.flat ⟨([] : List VB).length, [], []⟩)
  rw [quo_eq] at hq
  cases hmem : memA c 7 with
  | nil =>
    rw [hmem] at hpl hrl
    repeat' (first | (conv => whnf) | skip); (first | (refine kcall_pure (r0 := lstv []) hpl rfl ?_) | (refine kcall_pure hrl rfl ?_) | (refine kcall_pure (equal_nil false _) rfl ?_) | (refine kcall_pure (pcheck_spec _ _) rfl ?_) | (refine kcall_pure (r12check_spec _ _) rfl ?_) | (refine kcall_bool (phas_spec _ _ _) rfl (fun _ => ?_) (fun _ => ?_)) | (refine kcall_bool (r12has_spec _ _ _) rfl (fun _ => ?_) (fun _ => ?_)) | (refine kcall_pure (pcount_spec _ _) rfl ?_) | (refine kcall_pure (r12count_spec _ _) rfl ?_) | (refine kcall_bool (pquorum_spec _ _ _) rfl (fun _ => ?_) (fun _ => ?_)) | (refine kcall_bool hq rfl (fun _ => ?_) (fun _ => ?_)) | (refine kcall_pure (pall_spec _ _) rfl ?_) | (refine kcall_pure (r12all_spec _ _) rfl ?_) | (refine kcall_pure (awake_spec _ nm) rfl ?_) | (refine VIf.mk (fun _ => ?_) (fun h => absurd rfl h)) | (refine kdone_pure h0 (by simp) ⟨?_, rfl⟩))
    all_goals (try rfl)
    all_goals (rename_i g1 g2; rw [g1] at g2; cases g2)
  | cons x r =>
    rw [hmem] at hpl hrl
    have heq := equal_spec false false ((x :: r).map fun z : M7 => z.1) (by have := memA_len c 7; rw [hmem] at this; simp at this ⊢; omega) (KH.flat ⟨([] : List VB).length, [], []⟩)
    rw [List.map_map] at heq
    repeat' (first | (conv => whnf) | skip); (first | (refine kcall_pure (r0 := lstv (x :: r)) hpl rfl ?_) | (refine kcall_pure hrl rfl ?_) | (refine kcall_pure heq rfl ?_) | (refine kcall_pure (pcheck_spec _ _) rfl ?_) | (refine kcall_pure (r12check_spec _ _) rfl ?_) | (refine kcall_bool (phas_spec _ _ _) rfl (fun _ => ?_) (fun _ => ?_)) | (refine kcall_bool (r12has_spec _ _ _) rfl (fun _ => ?_) (fun _ => ?_)) | (refine kcall_pure (pcount_spec _ _) rfl ?_) | (refine kcall_pure (r12count_spec _ _) rfl ?_) | (refine kcall_bool (pquorum_spec _ _ _) rfl (fun _ => ?_) (fun _ => ?_)) | (refine kcall_bool hq rfl (fun _ => ?_) (fun _ => ?_)) | (refine kcall_pure (pall_spec _ _) rfl ?_) | (refine kcall_pure (r12all_spec _ _) rfl ?_) | (refine kcall_pure (awake_spec _ nm) rfl ?_) | (refine VIf.mk (fun _ => ?_) (fun h => absurd rfl h)) | (refine kdone_pure h0 (by simp) ⟨?_, rfl⟩))
    all_goals (try rfl)
    all_goals (rename_i g1 g2; rw [g1] at g2; cases g2)
end Go.Vm
