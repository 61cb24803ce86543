/- The virtual machine: maps, as the walk meets them; sets of texts. Generic: no program in sight. -/
import Derived.Test.YthgpapnbnapdhaaVE
set_option linter.unusedVariables false
set_option linter.unusedSimpArgs false
namespace Go.Vm
open Go.RowKit
def lkS (o : Option (Nat × SV)) (z : SV) : SV :=
  match o with
  | some p => p.2
  | none => z
/-- A look at a map's entry (without the second result). -/
theorem klook_top {P : Program} {n0 : Nat} {base top : List VB} {t kt et : TypeId} {j : Nat} {es : List (Value × SV)} {s : ByteArray} {o : Option (Nat × SV)} {z : SV} {K : SV → Prop} (ho : base.length = n0)
    (hu : P.underlying t = some (.map kt et)) (hk : P.underlying kt = some .string) (h : top[j]? = some (.map es)) (hf : findS s es 0 = some o) (hz : pZero1 P et = some z)
    (hK : K (lkS o z)) : KLook P ⟨n0, base, top⟩ t (.mapv (n0 + j)) (.v (.string s)) false K := by
  refine ⟨_, ?_, hK⟩
  simp only [pLookup, hu, hk, (flat_get_top ho j).trans h, hf, hz]
  cases o <;> rfl
/-- A map's entry is written. -/
def putS (o : Option (Nat × SV)) (s : ByteArray) (v : SV) (es : List (Value × SV)) : List (Value × SV) :=
  match o with
  | some p => es.set p.1 (.string s, v)
  | none => es ++ [(.string s, v)]
theorem kupd_top {P : Program} {n0 : Nat} {base top : List VB} {t kt et : TypeId} {j : Nat} {es : List (Value × SV)} {s : ByteArray} {v : SV} {o : Option (Nat × SV)} {K : SV → KH → Prop} (ho : base.length = n0)
    (hu : P.underlying t = some (.map kt et)) (hk : P.underlying kt = some .string) (h : top[j]? = some (.map es)) (hf : findS s es 0 = some o)
    (hK : K .junk ⟨n0, base, top.set j (.map (putS o s v es))⟩) : KMapUpd P ⟨n0, base, top⟩ t (.mapv (n0 + j)) (.v (.string s)) v K := by
  constructor
  simp only [vMapUpd, hu, hk, (flat_get_top ho j).trans h, hf]
  cases o with
  | none => exact ⟨_, (flat_set_top ho j _).symm, ho, rfl, hK⟩
  | some p => exact ⟨_, (flat_set_top ho j _).symm, ho, rfl, hK⟩
/-! ### Sets of texts: all entries hold true -/
def setE (ks : List ByteArray) : List (Value × SV) := ks.map fun k => (.string k, .v (.bool true))
theorem findS_setE (s : ByteArray) : ∀ (ks : List ByteArray) (i : Nat), (s ∉ ks ∧ findS s (setE ks) i = some none) ∨ ∃ k, s ∈ ks ∧ findS s (setE ks) i = some (some (i + k, .v (.bool true))) ∧ ks[k]? = some s
  | [], i => .inl ⟨by simp, rfl⟩
  | u :: ks, i => by
    simp only [setE, List.map_cons, findS]
    by_cases h : s = u
    · subst h
      exact .inr ⟨0, by simp, by rw [if_pos rfl]; rfl, rfl⟩
    · rw [if_neg h]
      rcases findS_setE s ks (i + 1) with ⟨h1, h2⟩ | ⟨k, h1, h2, h3⟩
      · exact .inl ⟨by simp [h, h1], h2⟩
      · refine .inr ⟨k + 1, by simp [h1], ?_, by simpa using h3⟩
        rw [show i + (k + 1) = i + 1 + k by omega]; exact h2
def memS (s : ByteArray) (ks : List ByteArray) : Bool := ks.any fun u => decide (u = s)
theorem memS_iff {s : ByteArray} {ks : List ByteArray} : memS s ks = true ↔ s ∈ ks := by simp [memS]
theorem memS_no {s : ByteArray} {ks : List ByteArray} (h : s ∉ ks) : memS s ks = false := Bool.eq_false_iff.2 fun e => h (memS_iff.1 e)
def insS (s : ByteArray) (ks : List ByteArray) : List ByteArray := if memS s ks = true then ks else ks ++ [s]
theorem set_same_val {α : Type} {l : List α} {k : Nat} {x : α} (h : l[k]? = some x) : l.set k x = l := by
  obtain ⟨hk, rfl⟩ := List.getElem?_eq_some_iff.1 h
  exact List.set_getElem_self hk
/-- One text more in a set. -/
theorem putS_setE (s : ByteArray) (ks : List ByteArray) : ∃ o, findS s (setE ks) 0 = some o ∧ putS o s (.v (.bool true)) (setE ks) = setE (insS s ks) ∧ lkS o (.v (.bool false)) = SV.v (.bool (memS s ks)) := by
  rcases findS_setE s ks 0 with ⟨h1, h2⟩ | ⟨k, h1, h2, h3⟩
  · refine ⟨_, h2, ?_, ?_⟩
    · rw [insS, memS_no h1]
      simp [putS, setE]
    · rw [memS_no h1]; rfl
  · refine ⟨_, h2, ?_, ?_⟩
    · rw [insS, if_pos (memS_iff.2 h1)]
      refine set_same_val ?_
      simp [setE, h3]
    · rw [memS_iff.2 h1]; rfl
theorem mem_insS {s x : ByteArray} {ks : List ByteArray} : x ∈ insS s ks ↔ x ∈ ks ∨ x = s := by
  unfold insS
  by_cases h : memS s ks = true
  · rw [if_pos h]
    exact ⟨.inl, fun h' => h'.elim id fun e => e ▸ memS_iff.1 h⟩
  · rw [if_neg h]; simp
theorem klook_set {P : Program} {n0 : Nat} {base top : List VB} {t kt et : TypeId} {j : Nat} {ks : List ByteArray} {s : ByteArray} {K : SV → Prop} (ho : base.length = n0)
    (hu : P.underlying t = some (.map kt et)) (hk : P.underlying kt = some .string) (h : top[j]? = some (.map (setE ks))) (hz : pZero1 P et = some (.v (.bool false)))
    (h1 : memS s ks = true → K (.v (.bool true))) (h2 : memS s ks = false → K (.v (.bool false))) : KLook P ⟨n0, base, top⟩ t (.mapv (n0 + j)) (.v (.string s)) false K := by
  obtain ⟨o, e1, _, e3⟩ := putS_setE s ks
  refine klook_top ho hu hk h e1 hz ?_
  rw [e3]
  cases hm : memS s ks with
  | true => exact h1 hm
  | false => exact h2 hm
theorem kupd_set {P : Program} {n0 : Nat} {base top : List VB} {t kt et : TypeId} {j : Nat} {ks : List ByteArray} {s : ByteArray} {K : SV → KH → Prop} (ho : base.length = n0)
    (hu : P.underlying t = some (.map kt et)) (hk : P.underlying kt = some .string) (h : top[j]? = some (.map (setE ks)))
    (hK : K .junk ⟨n0, base, top.set j (.map (setE (insS s ks)))⟩) : KMapUpd P ⟨n0, base, top⟩ t (.mapv (n0 + j)) (.v (.string s)) (.v (.bool true)) K := by
  obtain ⟨o, e1, e2, _⟩ := putS_setE s ks
  exact kupd_top ho hu hk h e1 (by rw [e2]; exact hK)
/-- The set of a list's texts. -/
def setL (l : List ByteArray) : List ByteArray := l.foldl (fun a s => insS s a) []
theorem setL_succ {l : List ByteArray} {i : Nat} (h : i < l.length) : setL (l.take (i + 1)) = insS l[i] (setL (l.take i)) := by
  rw [List.take_add_one, List.getElem?_eq_getElem h, Option.toList_some]
  simp only [setL, List.foldl_append, List.foldl_cons, List.foldl_nil]
theorem mem_foldS {x : ByteArray} : ∀ (l a : List ByteArray), x ∈ l.foldl (fun a s => insS s a) a ↔ x ∈ a ∨ x ∈ l
  | [], a => by simp
  | y :: l, a => by
    rw [List.foldl_cons, mem_foldS l, mem_insS, List.mem_cons]
    constructor
    · rintro ((h | h) | h)
      · exact .inl h
      · exact .inr (.inl h)
      · exact .inr (.inr h)
    · rintro (h | h | h)
      · exact .inl (.inl h)
      · exact .inl (.inr h)
      · exact .inr h
theorem memS_setL (s : ByteArray) (l : List ByteArray) : memS s (setL l) = memS s l := by
  rw [Bool.eq_iff_iff, memS_iff, memS_iff, setL, mem_foldS]; simp
end Go.Vm
