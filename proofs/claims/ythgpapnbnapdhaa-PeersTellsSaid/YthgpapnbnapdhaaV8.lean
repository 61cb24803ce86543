/- The virtual machine, part 8: composite literals, builtins that only read; all that only computes, together (stepF). Generic: no program in sight. -/
import Derived.Test.YthgpapnbnapdhaaV7
set_option linter.unusedVariables false
set_option linter.unusedSimpArgs false
namespace Go.Vm
open Go.RowKit

/-! ### Composite literals -/
def vfill (H : List VB) (place : Nat → Option (Nat × Nat)) : List SV → List (Nat × SV) → Option (List SV)
  | cells, [] => some cells
  | cells, (i, x) :: rest => match place i with
    | none => none
    | some (off, size) => if svValid H x = true ∧ x.cells.length = size ∧ off + size ≤ cells.length then vfill H place (lput cells off x.cells) rest else none
def PartsR (R : Env) (ps : List (Nat × SV)) (vs : List (Nat × Value)) : Prop := vs.length = ps.length ∧ ∀ (i : Nat) (hi : i < ps.length) (hj : i < vs.length), vs[i].1 = ps[i].1 ∧ Rep R ps[i].2 vs[i].2
theorem vfill_sound {R : Env} {place : Nat → Option (Nat × Nat)} : ∀ (ps : List (Nat × SV)) (vs : List (Nat × Value)) (cells r : List SV) (arr : Array Value), vfill R.H place cells ps = some r → CellsR R cells arr → PartsR R ps vs →
    ∃ arr', Instr.fill place arr vs = some arr' ∧ CellsR R r arr'
  | [], [], cells, r, arr, h, hc, hp => by cases h; exact ⟨arr, rfl, hc⟩
  | [], _ :: _, cells, r, arr, h, hc, hp => by have := hp.1; simp at this
  | _ :: _, [], cells, r, arr, h, hc, hp => by have := hp.1; simp at this
  | (i, x) :: ps, (j, v) :: vs, cells, r, arr, h, hc, hp => by
    have h0 := hp.2 0 (by simp) (by simp)
    simp only [List.getElem_cons_zero] at h0
    obtain ⟨rfl, hv⟩ := h0
    simp only [vfill] at h
    cases hpl : place j with
    | none => rw [hpl] at h; cases h
    | some os =>
      obtain ⟨off, size⟩ := os
      rw [hpl] at h
      simp only at h
      split at h
      · rename_i hcc
        obtain ⟨q1, q2, q3⟩ := hcc
        have hvc := valid_cells q1 hv
        have hput := put_cells (off := off) hc hvc (by omega)
        obtain ⟨arr', p1, p2⟩ := vfill_sound ps vs _ r _ h hput ⟨by have := hp.1; simp at this; exact this, fun k hk hk' => by have := hp.2 (k + 1) (by simp; exact hk) (by simp; exact hk'); simpa using this⟩
        refine ⟨arr', ?_, p2⟩
        simp only [Instr.fill, hpl]
        have e1 : v.cells.size = size := by rw [hvc.1]; exact q2
        have e2 : ¬ (v.cells.size ≠ size ∨ off + v.cells.size > arr.size) := by rw [e1, hc.1]; omega
        rw [if_neg (by simpa using e2)]
        exact p1
      · cases h
def zcells (P : Program) (t : TypeId) : Option (List SV) := ((P.info? t).bind (·.zero)).map fun z => z.cells.toList.map .v
theorem zcells_sound {P : Program} {R : Env} {t : TypeId} {cs : List SV} (h : zcells P t = some cs) : ∃ z, (∀ w, (zeroValue t).run P w = .ok z w) ∧ CellsR R cs z.cells := by
  unfold zcells at h
  obtain ⟨z, hz, rfl⟩ := Option.map_eq_some_iff.1 h
  obtain ⟨i, hi, hz⟩ := Option.bind_eq_some_iff.1 hz
  refine ⟨z, fun w => by simp [zeroValue, typeInfo, hi, hz], by simp, fun k hk hk' => ?_⟩
  simp only [List.getElem_map, Array.getElem_toList]
  exact .v _
def placesOf (P : Program) (t : TypeId) : Option (List (Nat × Nat)) :=
  match P.underlying t with
  | some (.struct fields) => if fields.toList.all (fun f => (P.underlying f.type).isSome) then some (fields.toList.map fun f => (f.offset, P.cellsOf f.type)) else none
  | _ => none
def pBuild (P : Program) (H : List VB) (t : TypeId) (ps : List (Nat × SV)) : Option SV :=
  match P.underlying t, zcells P t with
  | some (.struct _), some z => match placesOf P t with
    | some pl => match vfill H (fun i => pl[i]?) z ps with
      | some cs => some (.agg cs)
      | none => none
    | none => none
  | some (.array _ e), some z => if (P.underlying e).isSome then (match vfill H (fun i => some (i * P.cellsOf e, P.cellsOf e)) z ps with
      | some cs => some (.agg cs)
      | none => none) else none
  | _, _ => none
theorem run_places {P : Program} (w : World) : ∀ (fs : List Field), fs.all (fun f => (P.underlying f.type).isSome) = true →
    (fs.mapM (fun f => do pure (f.offset, ← sizeOf f.type)) : Sem (List (Nat × Nat))).run P w = .ok (fs.map fun f => (f.offset, P.cellsOf f.type)) w
  | [], _ => by simp
  | f :: fs, h => by
    simp only [List.all_cons, Bool.and_eq_true] at h
    obtain ⟨d, hd⟩ := Option.isSome_iff_exists.1 h.1
    simp only [List.mapM_cons, Sem.run_bind, run_sizeOf hd, Result.andThen_ok, Sem.run_pure, run_places w fs h.2, List.map_cons]
theorem pBuild_sound {P : Program} {R : Env} {t : TypeId} {ps : List (Nat × SV)} {vs : Array (Nat × Value)} {r : SV} (h : pBuild P R.H t ps = some r) (hp : PartsR R ps vs.toList) : Snd P R (Instr.build t vs) r := by
  unfold pBuild at h
  split at h
  · rename_i fields z hu hz
    obtain ⟨zv, hzv, hzc⟩ := zcells_sound (R := R) hz
    split at h
    · rename_i pl hpl
      split at h
      · rename_i cs hf
        cases h
        obtain ⟨arr, q1, q2⟩ := vfill_sound _ _ _ _ _ hf hzc hp
        refine ⟨_, ?_, .agg _ _ q2.1 q2.2⟩
        unfold placesOf at hpl
        rw [hu] at hpl
        simp only at hpl
        split at hpl
        · rename_i hall
          cases hpl
          simp only [Instr.build, Sem.run_bind, hzv, Result.andThen_ok, run_underlying hu, Array.mapM_eq_mapM_toList, Sem.run_map, run_places _ _ hall]
          have : (fun (i : Nat) => (List.map (fun f => (f.offset, P.cellsOf f.type)) fields.toList).toArray[i]?) = fun (i : Nat) => (List.map (fun f => (f.offset, P.cellsOf f.type)) fields.toList)[i]? := by
            funext i; simp
          simp only [this, q1]
          rfl
        · cases hpl
      · cases h
    · cases h
  · rename_i n e z hu hz
    obtain ⟨zv, hzv, hzc⟩ := zcells_sound (R := R) hz
    split at h
    · rename_i hs
      obtain ⟨d, hd⟩ := Option.isSome_iff_exists.1 hs
      split at h
      · rename_i cs hf
        cases h
        obtain ⟨arr, q1, q2⟩ := vfill_sound _ _ _ _ _ hf hzc hp
        refine ⟨_, ?_, .agg _ _ q2.1 q2.2⟩
        simp only [Instr.build, Sem.run_bind, hzv, Result.andThen_ok, run_underlying hu, run_sizeOf hd, q1]
        rfl
      · cases h
    · cases h
  · cases h

/-! ### Builtins that read -/
def pLen (P : Program) (H : List VB) (t : TypeId) (x : SV) : Option SV :=
  match P.underlying t with
  | some .string => match x with
    | .v (.string s) => some (.v (.int .i64 s.size))
    | _ => none
  | some (.array n _) => some (.v (.int .i64 n))
  | some (.slice _) => match x with
    | .list _ _ xs => some (.v (.int .i64 xs.length))
    | .slc id g off len => match H[id]? with
      | some (.row g' _ _) => if g' = g then some (.v (.int .i64 len)) else none
      | _ => none
    | .bsl _ _ _ len _ => some (.v (.int .i64 len))
    | .v (.slice none 0 0) => some (.v (.int .i64 0))
    | _ => none
  | some (.map _ _) => match x with
    | .v (.map none) => some (.v (.int .i64 0))
    | .mapv id => match H[id]? with
      | some (.map es) => some (.v (.int .i64 es.length))
      | _ => none
    | _ => none
  | _ => none
theorem pLen_sound {P : Program} {R : Env} (hR : HRep R) {t : TypeId} {x r : SV} {a : Value} (h : pLen P R.H t x = some r) (ha : Rep R x a) {ats : Array TypeId} (hat : ats[0]? = some t) (ty : TypeId) : Snd P R (Builtin.len_ ats ty #[a]) r := by
  have base : ∀ (d : TypeDesc) (n : Nat), P.underlying t = some d → (match d, a with
      | .string, .string s => s.size = n
      | .array m _, _ => m = n
      | .slice _, .slice _ m _ => m = n
      | .map _ _, .map none => n = 0
      | _, _ => False) → Snd P R (Builtin.len_ ats ty #[a]) (.v (.int .i64 n)) := by
    intro d n hd hm
    refine ⟨_, ?_, .v _⟩
    simp only [Builtin.len_, hat]
    have ha0 : (#[a] : Array Value)[0]? = some a := rfl
    rw [ha0]
    simp only [Sem.run_bind, run_underlying hd, Result.andThen_ok]
    split at hm
    · subst hm; rfl
    · subst hm; rfl
    · subst hm; rfl
    · subst hm; rfl
    · exact hm.elim
  unfold pLen at h
  split at h
  · rename_i hu
    split at h
    · rename_i s
      cases h
      obtain rfl := rep_v.1 ha
      exact base _ _ hu rfl
    · cases h
  · rename_i n e hu
    cases h
    exact base _ _ hu rfl
  · rename_i e hu
    split at h
    · cases h
      cases ha
      exact base _ _ hu rfl
    · rename_i id g off len
      split at h
      · rename_i g' n xs hrow
        split at h
        · rename_i hg
          cases h
          cases ha with
          | slc id' g2 off' len' n2 xs2 x c hr hle' hc' ha' => exact base _ _ hu rfl
          | slcOld id' g2 off' len' y hid hr =>
            have := hr _ _ _ hrow
            omega
        · cases h
      · cases h
    · cases h
      cases ha
      exact base _ _ hu rfl
    · cases h
      obtain rfl := rep_v.1 ha
      exact base _ 0 hu rfl
    · cases h
  · rename_i k e hu
    split at h
    · cases h
      obtain rfl := rep_v.1 ha
      exact base _ 0 hu rfl
    · rename_i id
      split at h
      · rename_i es hes
        cases h
        cases ha with
        | mapv id' b hid hb hρ =>
          obtain ⟨b', rs, clock, q1, q2, q3, q4, q5⟩ := hR.map id es hes
          rw [hρ] at q1
          cases q1
          refine ⟨_, ?_, .v _⟩
          have ha0 : (#[Value.map (some b)] : Array Value)[0]? = some (Value.map (some b)) := rfl
          simp only [Builtin.len_, hat, ha0, Sem.run_bind, run_underlying hu, Result.andThen_ok, getObj, Sem.run, q2, q3]
          rfl
      · cases h
    · cases h
  · cases h
def pMM (mx : Bool) : SV → List SV → Option SV
  | x, [] => some x
  | .v (.int k a), .v (.int k' b) :: rest => if k' = k then pMM mx (.v (.int k (if mx then max a b else min a b))) rest else none
  | _, _ => none
theorem pMax_sound {P : Program} {R : Env} : ∀ (xs : List SV) (vs : List Value) (x r : SV) (a : Value), pMM true x xs = some r → Rep R x a → vs.length = xs.length → (∀ (i : Nat) (hi : i < xs.length) (hj : i < vs.length), Rep R xs[i] vs[i]) →
    Snd P R (vs.foldlM Builtin.max2 a) r
  | [], [], x, r, a, h, ha, _, _ => by cases h; exact ⟨a, rfl, ha⟩
  | [], _ :: _, x, r, a, h, ha, hl, _ => by simp at hl
  | _ :: _, [], x, r, a, h, ha, hl, _ => by simp at hl
  | y :: xs, v :: vs, x, r, a, h, ha, hl, hr => by
    unfold pMM at h
    split at h
    · rename_i heq; cases heq
    · rename_i k m k' n rest heq
      cases heq
      split at h
      · rename_i hk
        subst hk
        obtain rfl := rep_v.1 ha
        have h0 := hr 0 (by simp) (by simp)
        simp only [List.getElem_cons_zero] at h0
        obtain rfl := rep_v.1 h0
        simp only [if_true] at h
        obtain ⟨v, q1, q2⟩ := pMax_sound xs vs _ r _ h (.v _) (by simpa using hl) (fun i hi hj => by have := hr (i + 1) (by simp; exact hi) (by simp; exact hj); simpa using this)
        refine ⟨v, ?_, q2⟩
        simp only [List.foldlM_cons, Sem.run_bind, Builtin.max2, Sem.run_pure, Result.andThen_ok]
        have : (if n > m then n else m) = max m n := by omega
        rw [this]
        exact q1
      · cases h
    · cases h
theorem pMin_sound {P : Program} {R : Env} : ∀ (xs : List SV) (vs : List Value) (x r : SV) (a : Value), pMM false x xs = some r → Rep R x a → vs.length = xs.length → (∀ (i : Nat) (hi : i < xs.length) (hj : i < vs.length), Rep R xs[i] vs[i]) →
    Snd P R (vs.foldlM Builtin.min2 a) r
  | [], [], x, r, a, h, ha, _, _ => by cases h; exact ⟨a, rfl, ha⟩
  | [], _ :: _, x, r, a, h, ha, hl, _ => by simp at hl
  | _ :: _, [], x, r, a, h, ha, hl, _ => by simp at hl
  | y :: xs, v :: vs, x, r, a, h, ha, hl, hr => by
    unfold pMM at h
    split at h
    · rename_i heq; cases heq
    · rename_i k m k' n rest heq
      cases heq
      split at h
      · rename_i hk
        subst hk
        obtain rfl := rep_v.1 ha
        have h0 := hr 0 (by simp) (by simp)
        simp only [List.getElem_cons_zero] at h0
        obtain rfl := rep_v.1 h0
        simp only [Bool.false_eq_true, if_false] at h
        obtain ⟨v, q1, q2⟩ := pMin_sound xs vs _ r _ h (.v _) (by simpa using hl) (fun i hi hj => by have := hr (i + 1) (by simp; exact hi) (by simp; exact hj); simpa using this)
        refine ⟨v, ?_, q2⟩
        simp only [List.foldlM_cons, Sem.run_bind, Builtin.min2, Sem.run_pure, Result.andThen_ok]
        have : (if n < m then n else m) = min m n := by omega
        rw [this]
        exact q1
      · cases h
    · cases h
end Go.Vm
