/- A row's argument that is an array of seven numbers: opened, shut. -/
import Derived.WalkKit
import Derived.ProofKit
import Derived.OpenShut
import Derived.ShutString
set_option linter.unusedVariables false
set_option linter.unusedSimpArgs false
namespace Go.Vm
open Go.ChangeShapes Go.WideShapes Go.ChangeAt Go.RowKit
section
variable {H : Type} {enc : TypeId × Value → H} {P : Program} {W : World} {base : Nat} {sp : Nat → Bool} {held : Bool} {t e : TypeId}
theorem open_arr7 {r : Reach} {b0 : Nat} {v : Value} {d : DataW H} {ps : List MemPlace} (ht : P.underlying t = some (.array 7 e)) (he : P.underlying e = some (.int .i64)) (hce : P.cellsOf e = 1) (hct : P.cellsOf t = 7)
    (hval : Value.okWide P W r b0 t v) (hd : DataW.Trod enc P W base sp held t v d ps) :
    ∃ a0 a1 a2 a3 a4 a5 a6 : Int, v = .agg #[.int .i64 a0, .int .i64 a1, .int .i64 a2, .int .i64 a3, .int .i64 a4, .int .i64 a5, .int .i64 a6] ∧ ps = [] ∧
      ∀ (W' : World) (base' : Nat) (sp' : Nat → Bool) (held' : Bool), DataW.Trod enc P W' base' sp' held' t v d [] := by
  simp only [Value.okWide, ht] at hval
  obtain ⟨cs, rfl, hsz, _⟩ := hval
  obtain ⟨fuel, hf⟩ := hd
  obtain ⟨xs, m, rfl, hx, hl, hxl, hi⟩ := DataW.trod_array ht hf
  simp only [Value.cells] at hl hi hf
  have el : ∀ i, i < 7 → ∃ a : Int, cs.toList[i]? = some (.int .i64 a) ∧ xs[i]? = some (.lit (.int .i64 a), []) ∧ (Lit.int .i64 a).wf = true := by
    intro i h7
    have h1 := hi i h7
    rw [hce, Nat.mul_one, List.getElem?_eq_getElem (by omega)] at h1
    obtain ⟨a, q1, q2, q3⟩ := DataW.trod_int he h1
    refine ⟨a, ?_, by rw [List.getElem?_eq_getElem (by omega), q2], q3⟩
    have h2 : (cs.toList.drop i)[0]? = some (.int .i64 a) := by
      have : ((cs.toList.drop i).take 1)[0]? = some (.int .i64 a) := by rw [q1]; rfl
      simpa using this
    simpa using h2
  obtain ⟨a0, c0, x0, w0⟩ := el 0 (by omega)
  obtain ⟨a1, c1, x1, w1⟩ := el 1 (by omega)
  obtain ⟨a2, c2, x2, w2⟩ := el 2 (by omega)
  obtain ⟨a3, c3, x3, w3⟩ := el 3 (by omega)
  obtain ⟨a4, c4, x4, w4⟩ := el 4 (by omega)
  obtain ⟨a5, c5, x5, w5⟩ := el 5 (by omega)
  obtain ⟨a6, c6, x6, w6⟩ := el 6 (by omega)
  have hcs : cs.toList = [.int .i64 a0, .int .i64 a1, .int .i64 a2, .int .i64 a3, .int .i64 a4, .int .i64 a5, .int .i64 a6] := by
    refine List.ext_getElem? fun i => ?_
    rcases i with _ | _ | _ | _ | _ | _ | _ | i
    · exact c0
    · exact c1
    · exact c2
    · exact c3
    · exact c4
    · exact c5
    · exact c6
    · rw [List.getElem?_eq_none (by omega), List.getElem?_eq_none (by simp)]
  have hxs : xs = [(.lit (.int .i64 a0), []), (.lit (.int .i64 a1), []), (.lit (.int .i64 a2), []), (.lit (.int .i64 a3), []), (.lit (.int .i64 a4), []), (.lit (.int .i64 a5), []), (.lit (.int .i64 a6), [])] := by
    refine List.ext_getElem? fun i => ?_
    rcases i with _ | _ | _ | _ | _ | _ | _ | i
    · exact x0
    · exact x1
    · exact x2
    · exact x3
    · exact x4
    · exact x5
    · exact x6
    · rw [List.getElem?_eq_none (by omega), List.getElem?_eq_none (by simp)]
  have hca : cs = #[.int .i64 a0, .int .i64 a1, .int .i64 a2, .int .i64 a3, .int .i64 a4, .int .i64 a5, .int .i64 a6] := by
    apply Array.toList_inj.1
    exact hcs
  subst hca hxs
  simp only [Prod.mk.injEq] at hx
  obtain ⟨rfl, rfl⟩ := hx
  refine ⟨a0, a1, a2, a3, a4, a5, a6, rfl, rfl, fun W' base' sp' held' => ⟨2, ?_⟩⟩
  simp [DataW.trod, ht, he, hct, hce, Value.cells, w0, w1, w2, w3, w4, w5, w6, List.range, List.range.loop]
end
end Go.Vm
