/- What more than half have, more than half have, and nothing greater: the statement PeersBest is true for every input. No further condition. -/
import Derived.Test.YthgpapnbnapdhaaRows
import Derived.Test.YthgpapnbnapdhaaF13
import Derived.Test.YthgpapnbnapdhaaA7
set_option linter.unusedVariables false
namespace Go.Proofs.Ythgpapnbnapdhaa.peersBest
open Go.ChangeShapes Go.WideShapes Go.ChangeAt Go.RowKit
theorem own : ownKnob Try.prog.godebug = none := by kernel_rfl
theorem rep7 (w : World) (c m0 m1 m2 m3 m4 m5 m6 : Int) : Go.Vm.RepL (Go.Vm.env0 w) [Go.Vm.I c, .agg [Go.Vm.I m0, Go.Vm.I m1, Go.Vm.I m2, Go.Vm.I m3, Go.Vm.I m4, Go.Vm.I m5, Go.Vm.I m6]] #[.int .i64 c, .agg #[.int .i64 m0, .int .i64 m1, .int .i64 m2, .int .i64 m3, .int .i64 m4, .int .i64 m5, .int .i64 m6]] := by
  refine ⟨rfl, fun i hi hj => ?_⟩
  rcases i with _ | _ | i
  · exact .v _
  · refine .agg _ _ rfl fun k hk hk' => ?_
    rcases k with _ | _ | _ | _ | _ | _ | _ | k <;> first | exact .v _ | (simp at hk; omega)
  · simp at hi; omega
theorem walk (c m0 m1 m2 m3 m4 m5 m6 : Int) (w : World) :
    Calls Try.prog 5 #[.int .i64 c, .agg #[.int .i64 m0, .int .i64 m1, .int .i64 m2, .int .i64 m3, .int .i64 m4, .int .i64 m5, .int .i64 m6]] w fun e w' => e = .returned (.bool true) ∧ Below w.heap.size w w' :=
  Go.Vm.walk0 (rep7 w c m0 m1 m2 m3 m4 m5 m6) (Go.Vm.peersBest_spec c m0 m1 m2 m3 m4 m5 m6)
set_option maxRecDepth 100000 in
theorem lifted (os : Os) (started : os.Started) (H : Type) (enc : TypeId × Value → H) :
    ReturnsInHanded {} Try.checked os 5 .any (Rows.peersBestSpec.pre6 enc Try.prog Try.f5 Rows.peersBestRow.domain false) (Rows.peersBestSpec.post enc Try.prog Try.f5 false true false false) := by
  refine returnsInHanded_of_change (C := Try.checked) own started (by kernel_rfl) Try.func5
    (ChangeSpec.witness6 (enc := enc) (C := Try.checked) false ⟨#[], #[.int .i64 0, .agg #[.int .i64 0, .int .i64 0, .int .i64 0, .int .i64 0, .int .i64 0, .int .i64 0, .int .i64 0]], []⟩ 8 (by kernel_rfl) (by kernel_rfl) (by kernel_rfl) (by kernel_rfl)) ?_
  intro W base args ds gs before hval0 hW hcnd _
  have hval : ∀ (j : Nat) t v, Try.f5.params[j]? = some t → args[j]? = some v → Value.okWide Try.prog W .any base t v := hval0
  have hW' := hW
  obtain ⟨p, q, hA0, hV, rfl, hfz, hnd⟩ := hW
  have hA : DataW.TrodAll enc Try.prog W 0 (fun _ => true) true Try.f5.params.toList args.toList ds p := hA0
  rw [Try.params5] at hA hval
  obtain ⟨v0, vs0, d0, ds0, p0, q0, hargs, rfl, rfl, h0, r0⟩ := trodAll_cons hA
  obtain ⟨v1, vs1, d1, ds1, p1, q1, rfl, rfl, rfl, h1, r1⟩ := trodAll_cons r0
  obtain ⟨rfl, rfl, rfl⟩ := trodAll_nil r1
  obtain rfl : args = #[v0, v1] := by cases args; simp_all
  obtain ⟨rfl, rfl⟩ := trodVars_none hV
  obtain ⟨a0, rfl, rfl, rfl, w0⟩ := open_int Try.underlying3 (hval 0 3 v0 rfl rfl) h0
  obtain ⟨m0, m1, m2, m3, m4, m5, m6, rfl, rfl, shut⟩ := Go.Vm.open_arr7 Try.underlying22 Try.underlying3 (by kernel_rfl) (by kernel_rfl) (hval 1 22 v1 rfl rfl) h1
  clear hA0 hval0
  simp only [List.append_nil] at hW'
  refine (walk a0 m0 m1 m2 m3 m4 m5 m6 W).mono fun e W' ⟨he, hg⟩ => ?_
  subst he
  refine ⟨_, rfl, _, _, _, [], [], [], hW', ?_, ?_, ?_, hg.frame _, fun h => by cases h⟩
  · exact trodAll_cons_mk (shut_bool Try.underlying4 _) trodAll_mk0
  · exact trodAll_cons_mk (shut_int Try.underlying3 w0) (trodAll_cons_mk (shut _ _ _ _) trodAll_mk0)
  · rfl
theorem over : Rows.peersBestRow.holds Try.pinned (OpenSpec.ofChange Rows.peersBestSpec) :=
  OpenClaim.holds_of_wide 5 Try.f5 rfl rfl rfl rfl rfl rfl rfl ⟨rfl, rfl, rfl, rfl, rfl⟩ rfl rfl rfl rfl rfl (by kernel_rfl) Try.func5 (by kernel_rfl)
    (of_decide_eq_true (by kernel_rfl)) (by unfold Func.isWrapper; first | (rw [if_pos (by decide +kernel)]; kernel_rfl) | (rw [if_neg (by decide +kernel)]; exact ⟨rfl, rfl⟩))
    (fun os started H enc _ => lifted os started H enc)
end Go.Proofs.Ythgpapnbnapdhaa.peersBest
namespace Go.Proofs.Ythgpapnbnapdhaa
/-- The statement. -/
theorem peersBestProved : Rows.PeersBestSaid := peersBest.over
end Go.Proofs.Ythgpapnbnapdhaa
