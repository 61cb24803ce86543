/- Which pieces any node should have, and has not, is what the document says: the statement PlaceLacks is true for every input. No further condition. -/
import Derived.Test.YthgpapnbnapdhaaRows
import Derived.Test.YthgpapnbnapdhaaA41
import Derived.WalkKit
import Derived.ProofKit
import Derived.OpenShut
import Derived.ShutString
set_option linter.unusedVariables false
namespace Go.Proofs.Ythgpapnbnapdhaa.placeLacks
open Go.ChangeShapes Go.WideShapes Go.ChangeAt Go.RowKit
open Go.ChangeMaps (open_string shut_string)
theorem laid : laidOutB Try.prog = true := by kernel_rfl
theorem own : ownKnob Try.prog.godebug = none := by kernel_rfl
theorem rep (w : World) (a0 a1 : Int) (n2 n3 : List ByteArray) (v2 v3 : Value) (h2 : Go.Vm.Rep (Go.Vm.env0 w) (.list 1 false (n2.map Go.Vm.T)) v2) (h3 : Go.Vm.Rep (Go.Vm.env0 w) (.list 1 false (n3.map Go.Vm.T)) v3) :
    Go.Vm.RepL (Go.Vm.env0 w) [Go.Vm.I a0, Go.Vm.I a1, .list 1 false (n2.map Go.Vm.T), .list 1 false (n3.map Go.Vm.T)] #[.int .i64 a0, .int .i64 a1, v2, v3] := by
  refine ⟨rfl, fun i hi hj => ?_⟩
  rcases i with _ | _ | _ | _ | i
  · exact .v _
  · exact .v _
  · exact h2
  · exact h3
  · simp at hi; omega
theorem walk (a0 a1 : Int) (n2 n3 : List ByteArray) (v2 v3 : Value) (w : World) (h2 : Go.Vm.Rep (Go.Vm.env0 w) (.list 1 false (n2.map Go.Vm.T)) v2) (h3 : Go.Vm.Rep (Go.Vm.env0 w) (.list 1 false (n3.map Go.Vm.T)) v3) :
    Calls Try.prog 9 #[.int .i64 a0, .int .i64 a1, v2, v3] w fun e w' => e = .returned (.bool true) ∧ Below w.heap.size w w' :=
  Go.Vm.walk0 (rep w a0 a1 n2 n3 v2 v3 h2 h3) (Go.Vm.placeLacks_spec a0 a1 n2 n3)
set_option maxRecDepth 100000 in
theorem lifted (os : Os) (started : os.Started) (H : Type) (enc : TypeId × Value → H) :
    ReturnsInHanded {} Try.checked os 9 .any (Rows.placeLacksSpec.pre6 enc Try.prog Try.f9 Rows.placeLacksRow.domain false) (Rows.placeLacksSpec.post enc Try.prog Try.f9 false true false false) := by
  refine returnsInHanded_of_change (C := Try.checked) own started (by kernel_rfl) Try.func9
    (ChangeSpec.witness6 (enc := enc) (C := Try.checked) false ⟨#[], #[.int .i64 0, .int .i64 0, .slice none 0 0, .slice none 0 0], []⟩ 8 (by kernel_rfl) (by kernel_rfl) (by kernel_rfl) (by kernel_rfl)) ?_
  intro W base args ds gs before hval0 hW hcnd _
  have hval : ∀ (j : Nat) t v, Try.f9.params[j]? = some t → args[j]? = some v → Value.okWide Try.prog W .any base t v := hval0
  have hW' := hW
  obtain ⟨p, q, hA0, hV, rfl, hfz, hnd⟩ := hW
  have hA : DataW.TrodAll enc Try.prog W 0 (fun _ => true) true Try.f9.params.toList args.toList ds p := hA0
  rw [Try.params9] at hA hval
  obtain ⟨v0, vs0, d0, ds0, p0, q0, hargs, rfl, rfl, h0, r0⟩ := trodAll_cons hA
  obtain ⟨v1, vs1, d1, ds1, p1, q1, rfl, rfl, rfl, h1, r1⟩ := trodAll_cons r0
  obtain ⟨v2, vs2, d2, ds2, p2, q2, rfl, rfl, rfl, h2, r2⟩ := trodAll_cons r1
  obtain ⟨v3, vs3, d3, ds3, p3, q3, rfl, rfl, rfl, h3, r3⟩ := trodAll_cons r2
  obtain ⟨rfl, rfl, rfl⟩ := trodAll_nil r3
  obtain rfl : args = #[v0, v1, v2, v3] := by cases args; simp_all
  obtain ⟨rfl, rfl⟩ := trodVars_none hV
  obtain ⟨a0, rfl, rfl, rfl, w0⟩ := open_int Try.underlying3 (hval 0 3 v0 rfl rfl) h0
  obtain ⟨a1, rfl, rfl, rfl, w1⟩ := open_int Try.underlying3 (hval 1 3 v1 rfl rfl) h1
  obtain ⟨x2, l2, c2, rfl⟩ := okWide_slice Try.underlying41 (hval 2 41 v2 rfl rfl)
  obtain ⟨x3, l3, c3, rfl⟩ := okWide_slice Try.underlying41 (hval 3 41 v3 rfl rfl)
  obtain ⟨n2, k2⟩ := Go.Vm.rep_strs Try.underlying41 Try.underlying9 (by kernel_rfl) h2
  obtain ⟨n3, k3⟩ := Go.Vm.rep_strs Try.underlying41 Try.underlying9 (by kernel_rfl) h3
  clear hA0 hval0
  have hlt0 := hW'.lt
  simp only [List.append_nil] at hW'
  refine (walk a0 a1 n2 n3 _ _ W k2 k3).mono fun e W' ⟨he, hg⟩ => ?_
  subst he
  refine ⟨_, rfl, _, _, _, [], [] ++ ([] ++ (p2 ++ (p3 ++ []))), [], hW', ?_, ?_, ?_, hg.frame _, fun h => by cases h⟩
  · exact trodAll_cons_mk (shut_bool Try.underlying4 _) trodAll_mk0
  · exact trodAll_cons_mk (shut_int Try.underlying3 w0) (trodAll_cons_mk (shut_int Try.underlying3 w1) (trodAll_cons_mk (Below.trod laid (by kernel_rfl) (of_decide_eq_true (by kernel_rfl)) h2 hg (fun x hx => by simpa using hlt0 x (by simp [hx]))) (trodAll_cons_mk (Below.trod laid (by kernel_rfl) (of_decide_eq_true (by kernel_rfl)) h3 hg (fun x hx => by simpa using hlt0 x (by simp [hx]))) (trodAll_mk0))))
  · rfl
theorem over : Rows.placeLacksRow.holds Try.pinned (OpenSpec.ofChange Rows.placeLacksSpec) :=
  OpenClaim.holds_of_wide 9 Try.f9 rfl rfl rfl rfl rfl rfl rfl ⟨rfl, rfl, rfl, rfl, rfl⟩ rfl rfl rfl rfl rfl (by kernel_rfl) Try.func9 (by kernel_rfl)
    (of_decide_eq_true (by kernel_rfl)) (by unfold Func.isWrapper; first | (rw [if_pos (by decide +kernel)]; kernel_rfl) | (rw [if_neg (by decide +kernel)]; exact ⟨rfl, rfl⟩))
    (fun os started H enc _ => lifted os started H enc)
end Go.Proofs.Ythgpapnbnapdhaa.placeLacks
namespace Go.Proofs.Ythgpapnbnapdhaa
/-- The statement. -/
theorem placeLacksProved : Rows.PlaceLacksSaid := placeLacks.over
end Go.Proofs.Ythgpapnbnapdhaa
