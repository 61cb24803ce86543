/- What is committed, who has won, and from where it is sent again, is what the document says: the statement BallotCommits is true for every input. No further condition. -/
import Derived.Test.YthgpapnbnapdhaaRows
import Derived.Test.YthgpapnbnapdhaaFB
import Derived.Test.YthgpapnbnapdhaaA7
import Derived.WalkKit
import Derived.ProofKit
import Derived.OpenShut
import Derived.ShutString
set_option linter.unusedVariables false
namespace Go.Proofs.Ythgpapnbnapdhaa.ballotCommits
open Go.ChangeShapes Go.WideShapes Go.ChangeAt Go.RowKit
theorem own : ownKnob Try.prog.godebug = none := by kernel_rfl
theorem rep (w : World) (a0 : Int) (m1_0 : Int) (m1_1 : Int) (m1_2 : Int) (m1_3 : Int) (m1_4 : Int) (m1_5 : Int) (m1_6 : Int) (a2 : Int) (a3 : Int) (a4 : Int) : Go.Vm.RepL (Go.Vm.env0 w) [Go.Vm.I a0, .agg [Go.Vm.I m1_0, Go.Vm.I m1_1, Go.Vm.I m1_2, Go.Vm.I m1_3, Go.Vm.I m1_4, Go.Vm.I m1_5, Go.Vm.I m1_6], Go.Vm.I a2, Go.Vm.I a3, Go.Vm.I a4] #[.int .i64 a0, .agg #[.int .i64 m1_0, .int .i64 m1_1, .int .i64 m1_2, .int .i64 m1_3, .int .i64 m1_4, .int .i64 m1_5, .int .i64 m1_6], .int .i64 a2, .int .i64 a3, .int .i64 a4] := by
  refine ⟨rfl, fun i hi hj => ?_⟩
  rcases i with _ | _ | _ | _ | _ | i
  · exact .v _
  · refine .agg _ _ rfl fun k hk hk' => ?_; rcases k with _ | _ | _ | _ | _ | _ | _ | k <;> first | exact .v _ | (simp at hk; omega)
  · exact .v _
  · exact .v _
  · exact .v _
  · simp at hi; omega
theorem walk (a0 : Int) (m1_0 : Int) (m1_1 : Int) (m1_2 : Int) (m1_3 : Int) (m1_4 : Int) (m1_5 : Int) (m1_6 : Int) (a2 : Int) (a3 : Int) (a4 : Int) (w : World) :
    Calls Try.prog 6 #[.int .i64 a0, .agg #[.int .i64 m1_0, .int .i64 m1_1, .int .i64 m1_2, .int .i64 m1_3, .int .i64 m1_4, .int .i64 m1_5, .int .i64 m1_6], .int .i64 a2, .int .i64 a3, .int .i64 a4] w fun e w' => e = .returned (.bool true) ∧ Below w.heap.size w w' :=
  Go.Vm.walk0 (rep w a0 m1_0 m1_1 m1_2 m1_3 m1_4 m1_5 m1_6 a2 a3 a4) (Go.Vm.ballotCommits_spec a0 m1_0 m1_1 m1_2 m1_3 m1_4 m1_5 m1_6 a2 a3 a4)
set_option maxRecDepth 100000 in
theorem lifted (os : Os) (started : os.Started) (H : Type) (enc : TypeId × Value → H) :
    ReturnsInHanded {} Try.checked os 6 .any (Rows.ballotCommitsSpec.pre6 enc Try.prog Try.f6 Rows.ballotCommitsRow.domain false) (Rows.ballotCommitsSpec.post enc Try.prog Try.f6 false true false false) := by
  refine returnsInHanded_of_change (C := Try.checked) own started (by kernel_rfl) Try.func6
    (ChangeSpec.witness6 (enc := enc) (C := Try.checked) false ⟨#[], #[.int .i64 0, .agg #[.int .i64 0, .int .i64 0, .int .i64 0, .int .i64 0, .int .i64 0, .int .i64 0, .int .i64 0], .int .i64 0, .int .i64 0, .int .i64 0], []⟩ 8 (by kernel_rfl) (by kernel_rfl) (by kernel_rfl) (by kernel_rfl)) ?_
  intro W base args ds gs before hval0 hW hcnd _
  have hval : ∀ (j : Nat) t v, Try.f6.params[j]? = some t → args[j]? = some v → Value.okWide Try.prog W .any base t v := hval0
  have hW' := hW
  obtain ⟨p, q, hA0, hV, rfl, hfz, hnd⟩ := hW
  have hA : DataW.TrodAll enc Try.prog W 0 (fun _ => true) true Try.f6.params.toList args.toList ds p := hA0
  rw [Try.params6] at hA hval
  obtain ⟨v0, vs0, d0, ds0, p0, q0, hargs, rfl, rfl, h0, r0⟩ := trodAll_cons hA
  obtain ⟨v1, vs1, d1, ds1, p1, q1, rfl, rfl, rfl, h1, r1⟩ := trodAll_cons r0
  obtain ⟨v2, vs2, d2, ds2, p2, q2, rfl, rfl, rfl, h2, r2⟩ := trodAll_cons r1
  obtain ⟨v3, vs3, d3, ds3, p3, q3, rfl, rfl, rfl, h3, r3⟩ := trodAll_cons r2
  obtain ⟨v4, vs4, d4, ds4, p4, q4, rfl, rfl, rfl, h4, r4⟩ := trodAll_cons r3
  obtain ⟨rfl, rfl, rfl⟩ := trodAll_nil r4
  obtain rfl : args = #[v0, v1, v2, v3, v4] := by cases args; simp_all
  obtain ⟨rfl, rfl⟩ := trodVars_none hV
  obtain ⟨a0, rfl, rfl, rfl, w0⟩ := open_int Try.underlying3 (hval 0 3 v0 rfl rfl) h0
  obtain ⟨m1_0, m1_1, m1_2, m1_3, m1_4, m1_5, m1_6, rfl, rfl, shut1⟩ := Go.Vm.open_arr7 Try.underlying22 Try.underlying3 (by kernel_rfl) (by kernel_rfl) (hval 1 22 v1 rfl rfl) h1
  obtain ⟨a2, rfl, rfl, rfl, w2⟩ := open_int Try.underlying3 (hval 2 3 v2 rfl rfl) h2
  obtain ⟨a3, rfl, rfl, rfl, w3⟩ := open_int Try.underlying3 (hval 3 3 v3 rfl rfl) h3
  obtain ⟨a4, rfl, rfl, rfl, w4⟩ := open_int Try.underlying3 (hval 4 3 v4 rfl rfl) h4
  clear hA0 hval0
  simp only [List.append_nil] at hW'
  refine (walk a0 m1_0 m1_1 m1_2 m1_3 m1_4 m1_5 m1_6 a2 a3 a4 W).mono fun e W' ⟨he, hg⟩ => ?_
  subst he
  refine ⟨_, rfl, _, _, _, [], [], [], hW', ?_, ?_, ?_, hg.frame _, fun h => by cases h⟩
  · exact trodAll_cons_mk (shut_bool Try.underlying4 _) trodAll_mk0
  · exact trodAll_cons_mk (shut_int Try.underlying3 w0) (trodAll_cons_mk (shut1 _ _ _ _) (trodAll_cons_mk (shut_int Try.underlying3 w2) (trodAll_cons_mk (shut_int Try.underlying3 w3) (trodAll_cons_mk (shut_int Try.underlying3 w4) (trodAll_mk0)))))
  · rfl
theorem over : Rows.ballotCommitsRow.holds Try.pinned (OpenSpec.ofChange Rows.ballotCommitsSpec) :=
  OpenClaim.holds_of_wide 6 Try.f6 rfl rfl rfl rfl rfl rfl rfl ⟨rfl, rfl, rfl, rfl, rfl⟩ rfl rfl rfl rfl rfl (by kernel_rfl) Try.func6 (by kernel_rfl)
    (of_decide_eq_true (by kernel_rfl)) (by unfold Func.isWrapper; first | (rw [if_pos (by decide +kernel)]; kernel_rfl) | (rw [if_neg (by decide +kernel)]; exact ⟨rfl, rfl⟩))
    (fun os started H enc _ => lifted os started H enc)
end Go.Proofs.Ythgpapnbnapdhaa.ballotCommits
namespace Go.Proofs.Ythgpapnbnapdhaa
/-- The statement. -/
theorem ballotCommitsProved : Rows.BallotCommitsSaid := ballotCommits.over
end Go.Proofs.Ythgpapnbnapdhaa
