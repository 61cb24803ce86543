/- The virtual machine, part 11b: append, make, copy, bytes of a string. Generic: no program in sight. -/
import Derived.Test.YthgpapnbnapdhaaV11
set_option linter.unusedVariables false
set_option linter.unusedSimpArgs false
namespace Go.Vm
open Go.RowKit

/-- What is asked of an append: few enough, of a kind that may be appended. -/
structure AppOk (P : Program) (H : List VB) (ats : Array TypeId) (n total : Nat) (ys : List SV) : Prop where
  total : total ≤ 68719476736
  cells : ∀ y, y ∈ ys → ∀ c, c ∈ y.cells → svCell H c = true
def okSrc : TypeDesc → Bool
  | .slice _ => true
  | .string => true
  | _ => false
/-- What is asked of the types: closed. -/
def appTypes (P : Program) (ats : Array TypeId) : Option Nat :=
  match ats[0]?, ats[1]? with
  | some t, some u => match P.underlying t, P.underlying u with
    | some (.slice e), some d => match zcells P e with
      | some z => if (P.underlying e).isSome = true ∧ P.bytesOf e ≤ 1024 ∧ z.length = P.cellsOf e ∧ okSrc d = true then some (P.cellsOf e) else none
      | none => none
    | _, _ => none
  | _, _ => none
theorem append_room {P : Program} {R : Env} {ats : Array TypeId} {n : Nat} (ht : appTypes P ats = some n) {base : Option Addr} {len cap m : Nat} {x : Value} (hm : (Builtin.lenOf x).run P R.w = .ok m R.w) (hle : len + m ≤ cap)
    {arr : Array Value} (hf : (Builtin.firstCells n m x).run P R.w = .ok arr R.w) {w' : World} (hs : (match base with | some a => storeCells (a.add (len * n)) arr.toList | none => pure () : Sem Unit).run P R.w = .ok () w') (ty : TypeId) :
    (Builtin.append_ ats ty #[.slice base len cap, x]).run P R.w = .ok (.slice base (len + m) cap) w' := by
  unfold appTypes at ht
  split at ht
  · rename_i t u h0 h1
    split at ht
    · rename_i e d hu hd
      split at ht
      · rename_i z hz
        split at ht
        · rename_i hc
          cases ht
          obtain ⟨c1, c2, c3, c4⟩ := hc
          obtain ⟨de, hde⟩ := Option.isSome_iff_exists.1 c1
          have hzeros : (underlying u).run P R.w = .ok d R.w := run_underlying hd R.w
          have hx0 : (#[Value.slice base len cap, x] : Array Value)[0]? = some (.slice base len cap) := rfl
          have hx1 : (#[Value.slice base len cap, x] : Array Value)[1]? = some x := rfl
          simp only [Builtin.append_, h0, h1, hx0, hx1, Sem.run_bind, run_underlying hu, Result.andThen_ok, run_sizeOf hde, hzeros, Sem.run_pure]
          cases d <;> simp only [okSrc, Bool.false_eq_true] at c4 <;> (
            simp only [Bool.false_eq_true, if_false, hm, Result.andThen_ok, hle, if_true, Bool.not_false, Sem.run_bind, hf]
            cases base with
            | none => simp only [Sem.run_pure, Result.andThen_ok] at hs ⊢; cases hs; rfl
            | some a => simp only [] at hs ⊢; simp only [Sem.run_bind, hs, Result.andThen_ok, Sem.run_pure])
        · cases ht
      · cases ht
    · cases ht
  · cases ht
theorem append_grow {P : Program} {R : Env} {ats : Array TypeId} {n : Nat} (ht : appTypes P ats = some n) {base : Option Addr} {len cap m : Nat} {x : Value} (hm : (Builtin.lenOf x).run P R.w = .ok m R.w) (hlt : cap < len + m) (hb : len + m ≤ 68719476736)
    {arr old : Array Value} (hf : ∀ w, w = R.w.drew → (Builtin.firstCells n m x).run P w = .ok arr w) (ho : ∀ w, w = R.w.drew → (Builtin.firstCells n len (.slice base len cap)).run P w = .ok old w) (ty : TypeId) :
    ∃ c rest e, len + m ≤ c ∧ rest.size = (c - (len + m)) * n ∧ (Builtin.append_ ats ty #[.slice base len cap, x]).run P R.w = .ok (.slice (some ⟨R.w.heap.size, 0, none⟩) (len + m) c) (R.w.drew.alloc (.cells (old ++ arr ++ rest) e)) := by
  unfold appTypes at ht
  split at ht
  · rename_i t u h0 h1
    split at ht
    · rename_i e d hu hd
      split at ht
      · rename_i z hz
        split at ht
        · rename_i hc
          cases ht
          obtain ⟨c1, c2, c3, c4⟩ := hc
          obtain ⟨de, hde⟩ := Option.isSome_iff_exists.1 c1
          obtain ⟨zv, hzv, hzc⟩ := zcells_sound (R := R) hz
          obtain ⟨ie, hie⟩ := info_of_underlying hde
          have hbytes : P.bytesOf e = ie.bytes := by simp [Program.bytesOf, hie]
          refine ⟨(Question.appendCap (len + m) cap e).cut (R.w.tape R.w.drawn (.appendCap (len + m) cap e)), Builtin.zeroCells zv.cells ((Question.appendCap (len + m) cap e).cut (R.w.tape R.w.drawn (.appendCap (len + m) cap e)) - (len + m)), e, cut_ge _ _ _ _, ?_, ?_⟩
          · rw [zeroCells_size, hzc.1, c3]
          · have hzeros : (underlying u).run P R.w = .ok d R.w := run_underlying hd R.w
            have hx0 : (#[Value.slice base len cap, x] : Array Value)[0]? = some (.slice base len cap) := rfl
            have hx1 : (#[Value.slice base len cap, x] : Array Value)[1]? = some x := rfl
            have hcap := cap_ok (P := P) (e := e) hlt hb c2
            rw [hbytes] at hcap
            have hti : ∀ w, (typeInfo e).run P w = .ok ie w := fun w => by simp [typeInfo, hie]
            have hnle : ¬ (len + m ≤ cap) := by omega
            have hmax : ¬ (((len + m : Nat) : Int) > IntKind.i64.max) := by simp [IntKind.max, IntKind.signed, IntKind.bits]; omega
            simp only [Builtin.append_, h0, h1, hx0, hx1, Sem.run_bind, run_underlying hu, Result.andThen_ok, run_sizeOf hde, hzeros, Sem.run_pure]
            cases d <;> simp only [okSrc, Bool.false_eq_true] at c4 <;> (
              simp only [Bool.false_eq_true, if_false, hm, Result.andThen_ok, hnle, Bool.not_false, if_true, Sem.run_bind, hti, hmax, false_and, hcap, pure_bind, run_choose, Question.forced, run_askRoom]
              simp only [World.drew_eq, ho _ rfl, hf _ rfl, Result.andThen_ok, hzv, newRow, run_newObj, Sem.run_bind, Sem.run_pure]
              rfl)
        · cases ht
      · cases ht
    · cases ht
  · cases ht
end Go.Vm
