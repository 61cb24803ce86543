/- baileyref12.Match: what it computes; it is what peers.Match computes. -/
import Derived.Test.YthgpapnbnapdhaaF6
set_option linter.unusedVariables false
set_option linter.unusedSimpArgs false
namespace Go.Vm
open Go.Proofs
set_option maxRecDepth 100000
/-- Have more than half at least so much? -/
def maj (L : List Int) (x : Int) : Bool := decide (L.length < 2 * L.countP fun y => decide (x ≤ y))
def refStep (L : List Int) (b : Int × Bool) (x : Int) : Int × Bool := if maj L x = true ∧ (b.2 = false ∨ b.1 < x) then (x, true) else b
def refRun (L : List Int) (i : Nat) : Int × Bool := (L.take i).foldl (refStep L) (0, false)
theorem refRun_succ {L : List Int} {i : Nat} (h : i < L.length) : refRun L (i + 1) = refStep L (refRun L i) (L.getD i 0) := by
  unfold refRun
  rw [List.take_add_one, List.getElem?_eq_getElem h, Option.toList_some, List.foldl_append, List.getD_eq_getElem?_getD, List.getElem?_eq_getElem h]
  rfl
theorem refRun_inv (L : List Int) : ∀ (P : List Int) (b : Int × Bool), (b.2 = true → maj L b.1 = true) → ((P.foldl (refStep L) b).2 = true → maj L (P.foldl (refStep L) b).1 = true) ∧
    (b.2 = true → (P.foldl (refStep L) b).2 = true ∧ b.1 ≤ (P.foldl (refStep L) b).1) ∧ ∀ x, x ∈ P → maj L x = true → (P.foldl (refStep L) b).2 = true ∧ x ≤ (P.foldl (refStep L) b).1
  | [], b, hb => ⟨hb, fun h => ⟨h, Int.le_refl _⟩, fun x hx => by cases hx⟩
  | y :: P, b, hb => by
    have hb' : (refStep L b y).2 = true → maj L (refStep L b y).1 = true := by
      unfold refStep; split
      · rename_i h; exact fun _ => h.1
      · exact hb
    have hmono : b.2 = true → (refStep L b y).2 = true ∧ b.1 ≤ (refStep L b y).1 := by
      intro h2
      unfold refStep; split
      · rename_i h
        rcases h.2 with h3 | h3
        · rw [h2] at h3; cases h3
        · exact ⟨rfl, by dsimp only; omega⟩
      · exact ⟨h2, Int.le_refl _⟩
    have hy : maj L y = true → (refStep L b y).2 = true ∧ y ≤ (refStep L b y).1 := by
      intro h2
      unfold refStep; split
      · exact ⟨rfl, Int.le_refl _⟩
      · rename_i h
        have h3 : ¬ (b.2 = false ∨ b.1 < y) := fun h' => h ⟨h2, h'⟩
        have h4 : b.2 = true := by cases hb2 : b.2; exact absurd (.inl hb2) h3; rfl
        have h5 : ¬ b.1 < y := fun h' => h3 (.inr h')
        exact ⟨h4, by omega⟩
    obtain ⟨i1, i2, i3⟩ := refRun_inv L P (refStep L b y) hb'
    refine ⟨i1, fun h => ?_, fun x hx hm => ?_⟩
    · obtain ⟨q1, q2⟩ := hmono h
      obtain ⟨q3, q4⟩ := i2 q1
      exact ⟨q3, Int.le_trans q2 q4⟩
    · rcases List.mem_cons.1 hx with rfl | hx
      · obtain ⟨q1, q2⟩ := hy hm
        obtain ⟨q3, q4⟩ := i2 q1
        exact ⟨q3, Int.le_trans q2 q4⟩
      · exact i3 x hx hm
theorem ref_is {L : List Int} {v : Int} (h : MatOk L v) : (refRun L L.length).1 = v := by
  by_cases hne : L = []
  · rcases h with ⟨_, rfl⟩ | ⟨h, _⟩
    · subst hne; rfl
    · exact absurd hne h
  · obtain ⟨h1, h2, h3⟩ := matOk_count h hne
    have hrun : refRun L L.length = L.foldl (refStep L) (0, false) := by unfold refRun; rw [List.take_length]
    rw [hrun]
    obtain ⟨i1, _, i3⟩ := refRun_inv L L (0, false) (fun h => by cases h)
    have hm : maj L v = true := by unfold maj; rw [decide_eq_true_iff]; omega
    obtain ⟨q1, q2⟩ := i3 v h1 hm
    have q3 := i1 q1
    by_cases hgt : v < (L.foldl (refStep L) (0, false)).1
    · exfalso
      unfold maj at q3
      rw [decide_eq_true_iff] at q3
      have : L.countP (fun y => decide ((L.foldl (refStep L) (0, false)).1 ≤ y)) ≤ L.countP (fun y => decide (v < y)) := List.countP_mono_left fun y _ hy => by
        simp only [decide_eq_true_eq] at hy ⊢; omega
      omega
    · omega
theorem mems_memA (c : Int) : ∀ n, n ≤ 7 → mems c n = (memA c n).map fun x => I x.1
  | 0, _ => rfl
  | n + 1, h => by
    rw [mems_succ, mems_memA c n (by omega)]
    cases hb : tb c n with
    | false => rw [memA_no hb]; simp
    | true =>
      have := memA_yes (c := c) (k := n) ⟨by omega, by omega⟩ (by simpa using hb)
      simp only [Int.toNat_natCast] at this
      rw [this]
      simp
theorem mem_at {c : Int} {ms : List Int} {k : Nat} (h : k < (mems c 7).length) : ∃ j : Nat, j < 7 ∧ (mems c 7)[k]? = some (I j) ∧ (hav c ms (memA c 7)).getD k 0 = ms.getD j 0 := by
  rw [mems_memA c 7 (by omega)] at h ⊢
  rw [List.length_map] at h
  have hx := (memA c 7)[k].2
  refine ⟨((memA c 7)[k]).1.toNat, by omega, ?_, ?_⟩
  · rw [List.getElem?_map, List.getElem?_eq_getElem h]
    simp only [Option.map_some]
    congr 2
    omega
  · unfold hav
    rw [List.getD_eq_getElem?_getD, List.getElem?_map, List.getElem?_eq_getElem h]
    rfl
theorem hav_len (c : Int) (ms : List Int) : (hav c ms (memA c 7)).length = (mems c 7).length := by
  rw [mems_memA c 7 (by omega)]; simp [hav]
end Go.Vm
