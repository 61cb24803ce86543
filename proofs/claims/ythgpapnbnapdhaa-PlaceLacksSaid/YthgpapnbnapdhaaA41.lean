/- An argument that is a slice of texts, as the machine sees it. Generic: no program in sight. -/
import Derived.Test.YthgpapnbnapdhaaP11
import Derived.SliceStrings
import Derived.Carry
set_option linter.unusedVariables false
namespace Go.Vm
open Go.ChangeShapes Go.WideShapes
theorem rep_strs {H : Type} {enc : TypeId × Value → H} {P : Program} {W : World} {base : Nat} {spare : Nat → Bool} {held : Bool} {t e : TypeId} {d : DataW H} {ps : List MemPlace} {a : Option Addr} {len cap : Nat}
    (hu : P.underlying t = some (.slice e)) (he : P.underlying e = some .string) (hc : P.cellsOf e = 1) (h : DataW.Trod enc P W base spare held t (.slice a len cap) d ps) :
    ∃ ss : List ByteArray, Rep (env0 W) (.list 1 false (ss.map T)) (.slice a len cap) := by
  obtain ⟨fuel, hf⟩ := h
  rcases open_strings hu he hc hf with ⟨hcs, hx⟩ | ⟨a', len', cap', ss, hcs, _, hl, hm, hz, hx, hcell, hws⟩
  · simp [Value.cells] at hcs
    obtain ⟨rfl, rfl, rfl⟩ := hcs
    exact ⟨[], .list 1 false [] none 0 (fun _ => default) (Nat.le_refl _) (by simp) (by simp) (.inl rfl) (fun i hi => by cases hi)⟩
  · simp [Value.cells] at hcs
    obtain ⟨rfl, rfl, rfl⟩ := hcs
    have hsl : len ≤ ss.length := by
      rw [hz]; split <;> omega
    have hlen : ((ss.take len).map T).length = len := by rw [List.length_map, List.length_take]; omega
    refine ⟨ss.take len, ?_⟩
    have key : Rep (env0 W) (.list 1 false ((ss.take len).map T)) (.slice (some a') ((ss.take len).map T).length cap) := by
      refine .list 1 false _ _ _ (fun j => .string (ss.getD j ByteArray.empty)) (by rw [hlen]; exact hl) (by simp) (fun x hx => ?_) ?_ (fun i hi j hj => ?_)
      · obtain ⟨y, _, rfl⟩ := List.mem_map.1 hx; rfl
      · rcases Nat.eq_zero_or_pos len with h0 | h0
        · left; rw [h0]; rfl
        · right
          have hspot : a'.spot = none := by simpa [Addr.add] using World.cell?_spot (hcell 0 (by omega))
          obtain ⟨b, off, spot⟩ := a'
          subst hspot
          refine ⟨b, off, rfl, ⟨?_, fun id a h1 _ => ?_⟩, fun j hj => ?_⟩
          · have h1 := hcell 0 (by omega)
            rcases Nat.lt_or_ge b W.heap.size with h2 | h2
            · exact h2
            · simp [World.cell?, Addr.add, Array.getElem?_eq_none h2] at h1
          · obtain ⟨b, h2, _⟩ := h1; simp [env0] at h2
          · have := hcell j (by rw [hlen] at hj; omega)
            by_cases hj0 : j = 0
            · subst hj0; simpa [cellAt, Addr.add, env0] using this
            · simpa [cellAt, Addr.add, env0, hj0] using this
      · have hi' : i < len := by rw [hlen] at hi; exact hi
        have e1 : ((ss.take len).map T)[i] = T (ss[i]'(by omega)) := by simp
        have hj0 : j = 0 := by rw [e1] at hj; simp [SV.cells] at hj; exact hj
        subst hj0
        have e2 : ss.getD (i * 1 + 0) ByteArray.empty = ss[i]'(by omega) := by rw [Nat.mul_one, Nat.add_zero, List.getD_eq_getElem?_getD, List.getElem?_eq_getElem (by omega)]; rfl
        rw [e2]
        simp only [e1]
        exact .v _
    rw [hlen] at key
    exact key
end Go.Vm
