/- The virtual machine, part 21: from the machine to a row's walk. Generic: no program in sight. -/
import Derived.Test.YthgpapnbnapdhaaV20
import Derived.Below
set_option linter.unusedVariables false
set_option linter.unusedSimpArgs false
namespace Go.Vm
open Go.RowKit

def env0 (w : World) : Env := ⟨[], fun _ => none, w⟩
theorem hrep0 (w : World) : HRep (env0 w) where
  addr := fun id a h _ => by obtain ⟨b, h1, _⟩ := h; simp [env0] at h1
  inj := fun id id' a a' h _ _ _ _ => by obtain ⟨b, h1, _⟩ := h; simp [env0] at h1
  box := fun id cs h => by simp [env0] at h
  row := fun id g n xs h => by simp [env0] at h
  map := fun id es h => by simp [env0] at h
theorem below0 {w : World} {R' : Env} (e : Ext (env0 w) R') : Below w.heap.size w R'.w :=
  ⟨e.os, e.tape, e.output, e.size, fun k hk => e.keep k hk fun id a h _ => by obtain ⟨b, h1, _⟩ := h; simp [env0] at h1⟩
theorem walk0 {P : Program} {f : FuncId} {args : List SV} {vs : Array Value} {w : World} (hv : RepL (env0 w) args vs) (h : VCalls P f args [] fun r H' => r = .v (.bool true)) :
    Calls P f vs w fun e w' => e = .returned (.bool true) ∧ Below w.heap.size w w' := by
  refine (h.2 (env0 w) vs (hrep0 w) rfl hv).mono ?_
  rintro e w' ⟨v, r, R', rfl, rfl, h1, h2, h3, rfl⟩
  rw [rep_v.1 h3]
  exact ⟨rfl, below0 h1⟩
theorem repL_vs (R : Env) (vs : List Value) : RepL R (vs.map .v) vs.toArray := ⟨by simp, fun i hi hj => by simp; exact .v _⟩
end Go.Vm
