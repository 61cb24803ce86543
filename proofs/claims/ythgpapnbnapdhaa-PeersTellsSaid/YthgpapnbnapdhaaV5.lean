/- The virtual machine, part 5: more operations that only compute or read; all of them together (stepF). Generic: no program in sight. -/
import Derived.Test.YthgpapnbnapdhaaV4
set_option linter.unusedVariables false
set_option linter.unusedSimpArgs false
namespace Go.Vm
open Go.RowKit

/-! ### Parts -/
def pPart (P : Program) (t : TypeId) (cs : List SV) (off : Nat) : Option SV :=
  if (P.underlying t).isSome then (if isAggT P t then (if off + P.cellsOf t ≤ cs.length then some (.agg ((cs.drop off).take (P.cellsOf t))) else none) else cs[off]?) else none
theorem pPart_sound {P : Program} {R : Env} {t : TypeId} {cs : List SV} {off : Nat} {r : SV} {a : Array Value} (h : pPart P t cs off = some r) (hl : a.size = cs.length)
    (ha : ∀ (i : Nat) (hi : i < cs.length) (hj : i < a.size), Rep R cs[i] a[i]) : Snd P R (part t a off) r := by
  unfold pPart at h
  split at h
  · rename_i hs
    obtain ⟨d, hd⟩ := Option.isSome_iff_exists.1 hs
    simp only [Snd, part, Sem.run_bind, run_isAgg hd, Result.andThen_ok]
    split at h
    · rename_i hagg
      split at h
      · rename_i hle
        cases h
        simp only [hagg, if_true, Sem.run_bind, run_sizeOf hd, Result.andThen_ok, Sem.run_pure]
        refine ⟨_, rfl, .agg _ _ (by simp; omega) fun i hi hj => ?_⟩
        simp only [List.getElem_take, List.getElem_drop, Array.getElem_extract]
        simp at hi hj
        exact ha (off + i) (by omega) (by omega)
      · cases h
    · rename_i hagg
      have hlt := lt_of_some h
      rw [List.getElem?_eq_getElem hlt] at h
      cases h
      have hagg' : isAggT P t = false := by simpa using hagg
      simp only [hagg', if_false, Bool.false_eq_true]
      have : a[off]? = some (a[off]'(by omega)) := Array.getElem?_eq_getElem (by omega)
      rw [this]
      exact ⟨_, rfl, ha off hlt (by omega)⟩
  · cases h
def pField (P : Program) (t : TypeId) (f : Nat) : SV → Option SV
  | .agg cs => match P.underlying t with
    | some (.struct fields) => match fields[f]? with
      | some fd => pPart P fd.type cs fd.offset
      | none => none
    | _ => none
  | _ => none
theorem pField_sound {P : Program} {R : Env} {t : TypeId} {f : Nat} {sx r : SV} {a : Value} (h : pField P t f sx = some r) (ha : Rep R sx a) : Snd P R (Instr.field t a f) r := by
  unfold pField at h
  split at h
  · cases ha with
    | agg cs arr hl hh =>
      split at h
      · rename_i fields hu
        split at h
        · rename_i fd hf
          obtain ⟨v, h1, h2⟩ := pPart_sound h hl hh
          refine ⟨v, ?_, h2⟩
          simp only [Instr.field, Sem.run_bind, run_underlying hu, Result.andThen_ok, hf, asAgg, Sem.run_pure, h1]
        · cases h
      · cases h
  · cases h

/-! ### Addresses -/
def pAdd (H : List VB) (k : Nat) : SV → Option SV
  | .ptr id off => some (.ptr id (off + k))
  | .ro cs => some (.ro (cs.drop k))
  | .rptr id g i o => match H[id]? with
    | some (.row g' _ xs) => if g = g' ∧ i < xs.length then some (.rptr id g i (o + k)) else none
    | _ => none
  | _ => none
theorem pAdd_sound {R : Env} {k : Nat} {sx r : SV} {a : Value} (h : pAdd R.H k sx = some r) (ha : Rep R sx a) : ∃ b o, a = .pointer (some ⟨b, o, none⟩) ∧ Rep R r (.pointer (some ⟨b, o + k, none⟩)) := by
  cases ha with
  | ptr id off a hid hb hρ hs =>
    cases h
    exact ⟨_, _, rfl, by rw [Nat.add_assoc]; exact .ptr id (off + k) a hid hb hρ hs⟩
  | ro cs b o f hi hc hz h' =>
    cases h
    refine ⟨b, o, rfl, .ro _ b (o + k) (fun j => f (k + j)) hi (fun j hj => ?_) hz fun j hj => ?_⟩
    · simp at hj
      rw [Nat.add_assoc]
      exact hc (k + j) (by omega)
    · simp at hj
      simpa using h' (k + j) (by omega)
  | rptr id g i o n xs a hr hi hρ hs =>
    simp only [pAdd, hr, true_and, hi, if_true] at h
    cases h
    exact ⟨_, _, rfl, by rw [Nat.add_assoc]; exact .rptr id g i (o + k) n xs a hr hi hρ hs⟩
  | rptrOld id g i o y hid hr =>
    simp only [pAdd] at h
    split at h
    · rename_i g' n xs hc
      have := hr g' n xs hc
      rw [if_neg (by omega)] at h
      cases h
    · cases h
  | _ => cases h
def pFieldAddr (P : Program) (H : List VB) (t : TypeId) (f : Nat) (x : SV) : Option SV :=
  match P.underlying t with
  | some (.struct fields) => match fields[f]? with
    | some fd => if (P.underlying fd.type).isSome ∧ P.cellsOf fd.type ≠ 0 then pAdd H fd.offset x else none
    | none => none
  | _ => none
theorem pFieldAddr_sound {P : Program} {R : Env} {t : TypeId} {f : Nat} {sx r : SV} {a : Value} (h : pFieldAddr P R.H t f sx = some r) (ha : Rep R sx a) : Snd P R (Instr.fieldAt t a f) r := by
  unfold pFieldAddr at h
  split at h
  · rename_i fields hu
    split at h
    · rename_i fd hf
      split at h
      · rename_i hc
        obtain ⟨d, hd⟩ := Option.isSome_iff_exists.1 hc.1
        obtain ⟨b, o, rfl, hr⟩ := pAdd_sound h ha
        refine ⟨_, ?_, hr⟩
        simp only [Instr.fieldAt, Sem.run_bind, run_underlying hu, Result.andThen_ok, hf, Instr.sureAddr, Sem.run_pure, fieldPlace, run_sizeOf hd, hc.2, if_false, add_plain]
      · cases h
    · cases h
  · cases h
def pIndexAddr (P : Program) (H : List VB) (t : TypeId) (x i : SV) : Option SV :=
  match i with
  | .v (.int _ k) => match P.underlying t with
    | some (.array len e) => if 0 ≤ k ∧ k < len ∧ (P.underlying e).isSome then pAdd H (k.toNat * P.cellsOf e) x else none
    | some (.slice e) => if 0 ≤ k ∧ (P.underlying e).isSome then (match x with
      | .list n _ xs => if n = P.cellsOf e then (xs[k.toNat]?).map fun z => .ro z.cells else none
      | .slc id g off len => match H[id]? with
        | some (.row g' n xs) => if g = g' ∧ n = P.cellsOf e ∧ k < len ∧ off + len ≤ xs.length then some (.rptr id g (off + k.toNat) 0) else none
        | _ => none
      | .bsl id off n len _ => if n = P.cellsOf e ∧ k < len then some (.ptr id (off + k.toNat * n)) else none
      | _ => none) else none
    | _ => none
  | _ => none
theorem pIndexAddr_sound {P : Program} {R : Env} (hR : HRep R) {t : TypeId} {sx si r : SV} {a i : Value} (h : pIndexAddr P R.H t sx si = some r) (ha : Rep R sx a) (hi : Rep R si i) : Snd P R (Instr.indexAt t a i) r := by
  unfold pIndexAddr at h
  split at h
  · rename_i kk k
    obtain rfl := rep_v.1 hi
    split at h
    · rename_i len e hu
      split at h
      · rename_i hc
        obtain ⟨h0, h1, hs⟩ := hc
        obtain ⟨d, hd⟩ := Option.isSome_iff_exists.1 hs
        obtain ⟨b, o, rfl, hr⟩ := pAdd_sound h ha
        refine ⟨_, ?_, hr⟩
        simp only [Instr.indexAt, asIntOf, Sem.run_bind, Sem.run_pure, run_underlying hu, Result.andThen_ok, Instr.sureAddr, h0, h1, and_self, if_true, run_sizeOf hd, add_plain]
      · cases h
    · rename_i e hu
      split at h
      · rename_i hc
        obtain ⟨h0, hs⟩ := hc
        obtain ⟨d, hd⟩ := Option.isSome_iff_exists.1 hs
        have fin : ∀ (b o len c : Nat), k < len → Rep R r (.pointer (some ⟨b, o + k.toNat * P.cellsOf e, none⟩)) → Snd P R (Instr.indexAt t (.slice (some ⟨b, o, none⟩) len c) (.int kk k)) r := by
          intro b o len c hk hr
          refine ⟨_, ?_, hr⟩
          simp only [Instr.indexAt, asIntOf, Sem.run_bind, Sem.run_pure, run_underlying hu, Result.andThen_ok, h0, hk, and_self, if_true, run_sizeOf hd, add_plain]
        split at h
        · rename_i n full xs
          split at h
          · rename_i hn
            obtain ⟨z, hz, rfl⟩ := Option.map_eq_some_iff.1 h
            have hlt := lt_of_some hz
            rw [List.getElem?_eq_getElem hlt] at hz
            cases hz
            cases ha with
            | list n' full' xs' x c f hc hfull hnn hcells h' =>
              rcases hcells with h0' | ⟨b, o, rfl, h2, h3⟩
              · subst h0'; cases hlt
              · have e1 := hnn _ (List.getElem_mem hlt)
                have h4 : (k.toNat + 1) * n ≤ xs.length * n := Nat.mul_le_mul_right n hlt
                have h5 : (k.toNat + 1) * n = k.toNat * n + n := Nat.succ_mul _ n
                have hz := h2.1
                refine fin b o _ c (by omega) ?_
                rw [← hn]
                refine .ro _ b (o + k.toNat * n) (fun j => f (k.toNat * n + j)) h2 (fun j hj => ?_) hz fun j hj => h' _ hlt j hj
                rw [Nat.add_assoc]
                exact h3 _ (by omega)
          · cases h
        · rename_i id g off len
          split at h
          · rename_i g' n xs hrow
            split at h
            · rename_i hcc
              obtain ⟨rfl, hn, hk, hle⟩ := hcc
              cases h
              cases ha with
              | slc id' g' off' len' n' xs' x c hr hle' hc' ha' =>
                obtain ⟨a, q1, rfl, q3⟩ := ha' (by omega)
                rw [hrow] at hr
                cases hr
                refine fin _ _ _ c hk ?_
                rw [← hn]
                have hs' := (hR.addr id a (Env.row_live hrow) q1).1
                have := Rep.rptr (R := R) id g (off + k.toNat) 0 n xs a hrow (by omega) q1 hs'
                rwa [Nat.add_zero, Nat.add_mul, ← Nat.add_assoc] at this
              | slcOld id' g' off' len' y hid hr =>
                have := hr _ _ _ hrow
                omega
            · cases h
          · cases h
        · rename_i id off n len c
          split at h
          · rename_i hcc
            obtain ⟨hn, hk⟩ := hcc
            cases h
            cases ha with
            | bsl id' off' n' len' c' x hid hb hle ha' =>
              obtain ⟨a, q1, q2, rfl⟩ := ha' (by omega)
              refine fin _ _ _ c hk ?_
              rw [← hn, Nat.add_assoc]
              exact .ptr id _ a hid hb q1 q2
          · cases h
        · cases h
      · cases h
    · cases h
  · cases h

/-! ### Index, slice -/
def pIndex (P : Program) (t : TypeId) (x i : SV) : Option SV :=
  match i with
  | .v (.int _ k) => match P.underlying t, x with
    | some .string, .v (.string s) => if 0 ≤ k then (s[k.toNat]?).map byteSV else none
    | some (.array len e), .agg cs => if 0 ≤ k ∧ k < len ∧ (P.underlying e).isSome then pPart P e cs (k.toNat * P.cellsOf e) else none
    | _, _ => none
  | _ => none
theorem pIndex_sound {P : Program} {R : Env} {t : TypeId} {sx si r : SV} {a i : Value} (h : pIndex P t sx si = some r) (ha : Rep R sx a) (hi : Rep R si i) : Snd P R (Instr.index t a i) r := by
  unfold pIndex at h
  split at h
  · rename_i kk k
    obtain rfl := rep_v.1 hi
    split at h
    · rename_i s hu
      obtain rfl := rep_v.1 ha
      split at h
      · rename_i h0
        obtain ⟨b, hb, rfl⟩ := Option.map_eq_some_iff.1 h
        refine ⟨_, ?_, .v _⟩
        simp only [Instr.index, asIntOf, Sem.run_bind, Sem.run_pure, run_underlying hu, Result.andThen_ok, h0, if_true, hb]
      · cases h
    · rename_i len e cs hu
      split at h
      · rename_i hc
        obtain ⟨h0, h1, hs⟩ := hc
        obtain ⟨d, hd⟩ := Option.isSome_iff_exists.1 hs
        cases ha with
        | agg cs' arr hl hh =>
          obtain ⟨v, p1, p2⟩ := pPart_sound h hl hh
          refine ⟨v, ?_, p2⟩
          simp only [Instr.index, asIntOf, Sem.run_bind, Sem.run_pure, run_underlying hu, Result.andThen_ok, h0, h1, and_self, if_true, run_sizeOf hd, p1]
      · cases h
    · cases h
  · cases h
/-- The bounds of a slice expression: from, to, the end of what may be grown into. -/
def pBnd (top : Nat) : SV → Option Nat
  | .v (.int _ k) => if 0 ≤ k ∧ k ≤ top then some k.toNat else none
  | _ => none
def pBounds (len cap : Nat) (lo hi mx : Option SV) : Option (Nat × Nat × Nat) :=
  match (match mx with | none => some cap | some x => pBnd cap x) with
  | none => none
  | some m => match (match hi with | none => (if mx.isNone ∧ len ≤ m then some len else none) | some x => pBnd m x) with
    | none => none
    | some h => match (match lo with | none => some 0 | some x => pBnd h x) with
      | none => none
      | some l => some (l, h, m)
def RepO (R : Env) : Option SV → Option Value → Prop
  | none, none => True
  | some x, some y => Rep R x y
  | _, _ => False
theorem run_sliceBound {P : Program} {R : Env} {top c k : Nat} {x : SV} {y : Value} (h : pBnd top x = some k) (hc : top ≤ c) (hr : Rep R x y) (code : BoundsCode) :
    (Instr.sliceBound y c code).run P R.w = .ok k R.w ∧ k ≤ top := by
  unfold pBnd at h
  split at h
  · rename_i kk n
    obtain rfl := rep_v.1 hr
    split at h
    · rename_i hn
      cases h
      refine ⟨?_, by omega⟩
      have h1 : 0 ≤ n ∧ n ≤ (c : Int) := ⟨hn.1, by omega⟩
      simp only [Instr.sliceBound, asIntOf, Sem.run_bind, Sem.run_pure, Result.andThen_ok, h1, and_self, if_true]
    · cases h
  · cases h
theorem pBounds_sound {P : Program} {R : Env} {len cap c l h m : Nat} {lo hi mx : Option SV} {lo' hi' mx' : Option Value} (hb : pBounds len cap lo hi mx = some (l, h, m)) (hc : cap ≤ c)
    (h1 : RepO R lo lo') (h2 : RepO R hi hi') (h3 : RepO R mx mx') (sl : Bool) :
    (Instr.sliceBounds sl len c lo' hi' mx').run P R.w = .ok (l, h, if mx.isNone then c else m) R.w ∧ l ≤ h ∧ h ≤ m ∧ m ≤ cap ∧ (mx.isNone → m = cap) := by
  unfold pBounds at hb
  split at hb
  · cases hb
  · rename_i m' hm
    split at hb
    · cases hb
    · rename_i h' hh
      split at hb
      · cases hb
      · rename_i l' hl
        cases hb
        have sb := fun (top c k : Nat) (x : SV) (y : Value) (e : pBnd top x = some k) (q : top ≤ c) (r : Rep R x y) => fun code => run_sliceBound (P := P) e q r code
        cases mx with
        | none =>
          cases mx' with
          | some _ => exact h3.elim
          | none =>
            simp only [Option.some.injEq] at hm
            subst hm
            cases hi with
            | none =>
              cases hi' with
              | some _ => exact h2.elim
              | none =>
                simp only [Option.isNone_none, true_and] at hh
                split at hh
                · rename_i hle
                  simp only [Option.some.injEq] at hh
                  subst hh
                  cases lo with
                  | none =>
                    cases lo' with
                    | some _ => exact h1.elim
                    | none =>
                      simp only [Option.some.injEq] at hl
                      subst hl
                      exact ⟨rfl, Nat.zero_le _, hle, Nat.le_refl _, fun _ => rfl⟩
                  | some x =>
                    cases lo' with
                    | none => exact h1.elim
                    | some y =>
                      have q := sb _ len _ _ _ hl (Nat.le_refl _) h1
                      refine ⟨?_, (q .sliceB).2, hle, Nat.le_refl _, fun _ => rfl⟩
                      simp only [Instr.sliceBounds, Sem.run_bind, Sem.run_pure, Result.andThen_ok, (q _).1, Option.isNone_none, if_true]
                · cases hh
            | some xh =>
              cases hi' with
              | none => exact h2.elim
              | some yh =>
                have qh := sb _ c _ _ _ hh hc h2
                cases lo with
                | none =>
                  cases lo' with
                  | some _ => exact h1.elim
                  | none =>
                    simp only [Option.some.injEq] at hl
                    subst hl
                    refine ⟨?_, Nat.zero_le _, (qh .sliceB).2, Nat.le_refl _, fun _ => rfl⟩
                    simp only [Instr.sliceBounds, Sem.run_bind, Sem.run_pure, Result.andThen_ok, (qh _).1, Option.isNone_none, if_true]
                | some x =>
                  cases lo' with
                  | none => exact h1.elim
                  | some y =>
                    have q := sb _ h _ _ _ hl (Nat.le_refl _) h1
                    refine ⟨?_, (q .sliceB).2, (qh .sliceB).2, Nat.le_refl _, fun _ => rfl⟩
                    simp only [Instr.sliceBounds, Sem.run_bind, Sem.run_pure, Result.andThen_ok, (qh _).1, (q _).1, Option.isNone_none, if_true]
        | some x =>
          cases mx' with
          | none => exact h3.elim
          | some y =>
            have qm := sb _ c _ _ _ hm hc h3
            cases hi with
            | none => simp at hh
            | some xh =>
              cases hi' with
              | none => exact h2.elim
              | some yh =>
                have qh := sb _ m _ _ _ hh (Nat.le_refl _) h2
                cases lo with
                | none =>
                  cases lo' with
                  | some _ => exact h1.elim
                  | none =>
                    simp only [Option.some.injEq] at hl
                    subst hl
                    refine ⟨?_, Nat.zero_le _, (qh .sliceB).2, (qm .sliceB).2, fun h => by simp at h⟩
                    simp only [Instr.sliceBounds, Sem.run_bind, Sem.run_pure, Result.andThen_ok, (qm _).1, (qh _).1, Option.isNone_some, Bool.false_eq_true, if_false]
                | some x =>
                  cases lo' with
                  | none => exact h1.elim
                  | some yl =>
                    have q := sb _ h _ _ _ hl (Nat.le_refl _) h1
                    refine ⟨?_, (q .sliceB).2, (qh .sliceB).2, (qm .sliceB).2, fun h => by simp at h⟩
                    simp only [Instr.sliceBounds, Sem.run_bind, Sem.run_pure, Result.andThen_ok, (qm _).1, (qh _).1, (q _).1, Option.isNone_some, Bool.false_eq_true, if_false]
end Go.Vm
