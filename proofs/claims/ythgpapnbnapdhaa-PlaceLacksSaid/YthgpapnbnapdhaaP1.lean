/- strings.Compare, place.order: what they compute. -/
import Derived.Test.YthgpapnbnapdhaaP0
import Derived.Lib.Strings
import Derived.Lib.Slices
import Derived.Lib.Walk
import Derived.Lib.Bytealg
set_option linter.unusedVariables false
set_option linter.unusedSimpArgs false
namespace Go.Proofs
set_option maxHeartbeats 1000000 in
set_option maxRecDepth 100000 in
/-- What strings.Compare calls. -/
theorem bytealg_CompareString (a b : ByteArray) (w : World) :
    Calls Try.prog 120 #[.string a, .string b] w fun e w' => e = .returned (.int .i64 (Lib.compareBytes a.data.toList b.data.toList)) ∧ w' = w := by
  go_enter Try.func120, Try.ntmps120
  go_wp2
  rw [run_callFunc_extern Try.func142 (by kernel_rfl) (by kernel_rfl) (by kernel_rfl) (e := Extern.BytealgCompare.compare) (by kernel_rfl), Lib.run_compareString]
  simp only [Result.andThen]
  rw [Oper.upon_value]
  go_wp2
  go_ret
  exact ⟨rfl, rfl⟩
end Go.Proofs
namespace Go.Vm
open Go.Proofs
set_option maxRecDepth 100000
theorem vcalls_of_calls {P : Program} {f : FuncId} {a b v : Value} {H : List VB} (hc : callable P f = true) (h : ∀ w, Calls P f #[a, b] w fun e w' => e = .returned v ∧ w' = w) : VCalls P f [.v a, .v b] H fun r H' => r = .v v ∧ H' = H := by
  refine ⟨hc, fun R vs hR hH hvs => ?_⟩
  have e : vs = #[a, b] := by
    obtain ⟨h1, h2⟩ := hvs
    obtain ⟨l⟩ := vs
    match l, h1 with
    | [x, y], _ =>
      have hx := h2 0 (by simp) (by simp)
      have hy := h2 1 (by simp) (by simp)
      simp only [List.getElem_cons_zero, List.getElem_cons_succ, List.getElem_toArray] at hx hy
      rw [rep_v.1 hx, rep_v.1 hy]
  subst e hH
  exact (h R.w).mono fun e w' ⟨h1, h2⟩ => ⟨v, .v v, R, h1, h2.symm, Ext.refl hR, hR, .v v, rfl, rfl⟩
def scmp (a b : ByteArray) : Int := Lib.compareBytes a.data.toList b.data.toList
theorem compare_spec (a b : ByteArray) (H : List VB) : VCalls Try.prog 85 [T a, T b] H (fun r H' => r = I (scmp a b) ∧ H' = H) := by
  refine kcalls Try.func85 rfl (by kernel_rfl) rfl ?_
  intro R0 h0 hb
  repeat' (first | (conv => whnf) | skip); (first | (refine kcall_pure (vcalls_of_calls (by kernel_rfl) (bytealg_CompareString a b)) rfl ?_) | (refine kdone_pure h0 (by simp) ⟨?_, rfl⟩))
  rfl
def cmpK (x y : RK) : Int := if x.2 = y.2 then (x.1.val : Int) - y.1.val else scmp x.2 y.2
theorem order_spec : CmpIsR Try.prog 68 cmpK := by
  intro x y H
  refine kcalls Try.func68 rfl (by kernel_rfl) rfl ?_
  intro R0 h0 hb
  have hx := x.1.isLt
  have hy := y.1.isLt
  repeat' (first | (conv => whnf) | skip); (first | (refine VIf.mk (fun h => ?_) (fun h => ?_)) | (refine kbox_top rfl rfl ?_) | (refine kget_some rfl ?_) | (refine kcall_pure (compare_spec _ _ _) rfl ?_) | (refine kdone_pure h0 (by simp) ⟨?_, rfl⟩))
  · rw [cmpK, if_pos h, IntWalk.i64_in _ (by omega)]
  · rw [cmpK, if_neg h]
end Go.Vm
