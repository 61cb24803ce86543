/- PeersMatch: the walk. -/
import Derived.Test.YthgpapnbnapdhaaF9
set_option linter.unusedVariables false
set_option linter.unusedSimpArgs false
namespace Go.Vm
open Go.Proofs
set_option maxRecDepth 100000
theorem peersMatch_spec (c m0 m1 m2 m3 m4 m5 m6 : Int) : VCalls Try.prog 3 [I c, .agg [I m0, I m1, I m2, I m3, I m4, I m5, I m6]] [] fun r H' => r = .v (.bool true) := by
  refine VCalls.mono (K := fun r H' => r = B true ∧ H' = []) ?_ fun r H' h => h.1
  refine kcalls Try.func3 rfl (by kernel_rfl) rfl ?_
  intro R0 h0 hb
  have nm : NoMap (KH.flat ⟨([] : List VB).length, [], [.box [I m0, I m1, I m2, I m3, I m4, I m5, I m6]]⟩) := noMap_append (H := []) (X := [.box [I m0, I m1, I m2, I m3, I m4, I m5, I m6]]) (by intro id es h; simp at h) (by intro b hb es he; subst he; simp at hb)
  (conv => whnf)
  refine kwp_draw_in [0, 1, 3, 4, 2, 5, 6, 7, 8, 9, 10] [2] (by kernel_rfl) (by kernel_rfl) (by kernel_rfl) rfl ?_
  have hc22 : Try.prog.cellsOf 22 = 7 := by kernel_rfl
  have hms := @match_spec c m0 m1 m2 m3 m4 m5 m6 _ nm
  repeat' (first | (conv => whnf) | skip); (first | (refine VReq.mk (HExt.refl _) ?_) | (refine VReq.mk (by kernel_rfl) ?_) | (refine VReq.mk (by rw [hc22]; exact Nat.le_refl 7) ?_) | (refine kbox_top rfl rfl ?_) | (refine kget_some rfl ?_) | (refine kcall_some (p := fun r => ∃ v, MatOk (hav c [m0, m1, m2, m3, m4, m5, m6] (memA c 7)) v ∧ r = I v) (hms.mono fun r H' ⟨v, hv, e1, e2⟩ => ⟨⟨v, hv, e1⟩, e2⟩) rfl ?_; rintro r ⟨v, hv, rfl⟩) | (refine kcall_pure (r12match_spec c m0 m1 m2 m3 m4 m5 m6 _) rfl ?_) | (refine kcall_pure (awake_spec _ nm) rfl ?_) | (refine VIf.mk (fun _ => ?_) (fun h => absurd (by rw [← hav_len c [m0, m1, m2, m3, m4, m5, m6]]; exact (ref_is hv).symm) h)) | (refine kdone_pure h0 (by simp) ⟨?_, rfl⟩))
  all_goals rfl
end Go.Vm
