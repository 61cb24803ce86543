/- The virtual machine, part 7: composite literals, builtins that only read; all that only computes, together (stepF). Generic: no program in sight. -/
import Derived.Test.YthgpapnbnapdhaaV6
set_option linter.unusedVariables false
set_option linter.unusedSimpArgs false
namespace Go.Vm
open Go.RowKit

def CellsR (R : Env) (cs : List SV) (a : Array Value) : Prop := a.size = cs.length ∧ ∀ (i : Nat) (hi : i < cs.length) (hj : i < a.size), Rep R cs[i] a[i]
def svValid (H : List VB) : SV → Bool
  | .slc id g _ _ => match H[id]? with | some (.row g' _ _) => g' == g | _ => false
  | .rptr id g _ _ => match H[id]? with | some (.row g' _ _) => g' == g | _ => false
  | .junk => false
  | .tup _ => false
  | .v x => x.oneCell'
  | _ => true
theorem valid_cells {R : Env} {x : SV} {y : Value} (hv : svValid R.H x = true) (h : Rep R x y) : CellsR R x.cells y.cells := by
  have one : ∀ (x : SV) (y : Value), x.cells = [x] → y.cells = #[y] → Rep R x y → CellsR R x.cells y.cells := by
    intro x y h1 h2 h3
    refine ⟨by simp [h1, h2], fun i hi hj => ?_⟩
    have h0 : i = 0 := by rw [h1] at hi; simpa using hi
    subst h0
    simpa [h1, h2] using h3
  cases h with
  | junk => simp [svValid] at hv
  | v x =>
    refine one _ _ rfl ?_ (.v _)
    cases y <;> first | rfl | (simp [svValid, Value.oneCell'] at hv; done)
  | agg cs a hl h => exact ⟨hl, h⟩
  | tup cs a hl h => simp [svValid] at hv
  | ptr id off a hid hb hρ hs => exact one _ _ rfl rfl (.ptr id off a hid hb hρ hs)
  | ro cs b o f hi hc hz h => exact one _ _ rfl rfl (.ro cs b o f hi hc hz h)
  | list n full xs a c f hc hfull hn ha h => exact one _ _ rfl rfl (.list n full xs a c f hc hfull hn ha h)
  | slc id g off len n xs x c hr hle hc ha => exact one _ _ rfl rfl (.slc id g off len n xs x c hr hle hc ha)
  | slcOld id g off len y hid hr =>
    simp only [svValid] at hv
    split at hv
    · rename_i g' n xs hc
      have h1 := hr g' n xs hc
      have h2 : g' = g := by simpa using hv
      omega
    · cases hv
  | rptr id g i o n xs a hr hi hρ hs => exact one _ _ rfl rfl (.rptr id g i o n xs a hr hi hρ hs)
  | rptrOld id g i o y hid hr =>
    simp only [svValid] at hv
    split at hv
    · rename_i g' n xs hc
      have h1 := hr g' n xs hc
      have h2 : g' = g := by simpa using hv
      omega
    · cases hv
  | fn fi cs a hl h => exact one _ _ rfl rfl (.fn fi cs a hl h)
  | mapv id b hid hb hρ => exact one _ _ rfl rfl (.mapv id b hid hb hρ)
  | bsl id off n len cap x hid hb hle ha => exact one _ _ rfl rfl (.bsl id off n len cap x hid hb hle ha)
theorem CellsR.mono {R R' : Env} (e : Ext R R') {cs : List SV} {a : Array Value} (h : CellsR R cs a) : CellsR R' cs a := ⟨h.1, fun i hi hj => (h.2 i hi hj).mono e⟩
def lput (l : List SV) (off : Nat) (vs : List SV) : List SV := l.take off ++ vs ++ l.drop (off + vs.length)
theorem lput_length {l : List SV} {off : Nat} {vs : List SV} (h : off + vs.length ≤ l.length) : (lput l off vs).length = l.length := by
  simp [lput]; omega
theorem lput_get {l : List SV} {off : Nat} {vs : List SV} (h : off + vs.length ≤ l.length) (k : Nat) :
    (lput l off vs)[k]? = if off ≤ k ∧ k < off + vs.length then vs[k - off]? else l[k]? := by
  unfold lput
  by_cases h1 : k < off
  · rw [if_neg (by omega), List.append_assoc, List.getElem?_append_left (by simp; omega), List.getElem?_take_of_lt h1]
  · by_cases h2 : k < off + vs.length
    · rw [if_pos (by omega), List.getElem?_append_left (by simp; omega), List.getElem?_append_right (by simp; omega)]
      simp [Nat.min_eq_left (show off ≤ l.length by omega)]
    · rw [if_neg (by omega), List.getElem?_append_right (by simp; omega)]
      simp only [List.length_append, List.length_take, List.getElem?_drop]
      congr 1
      omega
theorem foldl_put (off : Nat) : ∀ (vs : List Value) (s : Nat) (cs : Array Value), off + s + vs.length ≤ cs.size →
    ((vs.zipIdx s).foldl (fun cs (p : Value × Nat) => cs.setIfInBounds (off + p.2) p.1) cs).size = cs.size ∧
    ∀ k, ((vs.zipIdx s).foldl (fun cs (p : Value × Nat) => cs.setIfInBounds (off + p.2) p.1) cs)[k]? = if off + s ≤ k ∧ k < off + s + vs.length then vs[k - off - s]? else cs[k]?
  | [], s, cs, h => by
    refine ⟨rfl, fun k => ?_⟩
    rw [if_neg (by simp)]
    rfl
  | v :: vs, s, cs, h => by
    simp only [List.length_cons] at h
    have ih := foldl_put off vs (s + 1) (cs.setIfInBounds (off + s) v) (by simp; omega)
    simp only [List.zipIdx_cons, List.foldl_cons]
    refine ⟨by rw [ih.1]; simp, fun k => ?_⟩
    rw [ih.2 k]
    by_cases h1 : k = off + s
    · subst h1
      rw [if_neg (by omega), if_pos (by simp)]
      simp [show off + s < cs.size by omega]
    · by_cases h2 : off + (s + 1) ≤ k ∧ k < off + (s + 1) + vs.length
      · rw [if_pos h2, if_pos (by simp; omega)]
        rw [show k - off - s = (k - off - (s + 1)) + 1 by omega, List.getElem?_cons_succ]
      · rw [if_neg h2, if_neg (by simp; omega), Array.getElem?_setIfInBounds_ne (by omega)]
theorem put_cells {R : Env} {cs vs : List SV} {a b : Array Value} {off : Nat} (h : CellsR R cs a) (hv : CellsR R vs b) (hle : off + vs.length ≤ cs.length) :
    CellsR R (lput cs off vs) (b.zipIdx.foldl (fun cs (p : Value × Nat) => cs.setIfInBounds (off + p.2) p.1) a) := by
  have e : b.zipIdx.foldl (fun cs (p : Value × Nat) => cs.setIfInBounds (off + p.2) p.1) a = (b.toList.zipIdx 0).foldl (fun cs (p : Value × Nat) => cs.setIfInBounds (off + p.2) p.1) a := by
    rw [← Array.foldl_toList, Array.toList_zipIdx]
  have f := foldl_put off b.toList 0 a (by simp; have := h.1; have := hv.1; omega)
  rw [e]
  refine ⟨by rw [f.1, lput_length hle]; exact h.1, fun i hi hj => ?_⟩
  have g1 := lput_get hle i
  have g2 := f.2 i
  rw [List.getElem?_eq_getElem hi] at g1
  rw [Array.getElem?_eq_getElem hj] at g2
  have hs : b.toList.length = vs.length := by simp [hv.1]
  rw [hs] at g2
  by_cases hc : off ≤ i ∧ i < off + vs.length
  · rw [if_pos hc] at g1
    rw [if_pos (by omega)] at g2
    have h1 : i - off < vs.length := by omega
    have h2 : i - off < b.size := by rw [hv.1]; omega
    rw [List.getElem?_eq_getElem h1] at g1
    simp only [Nat.sub_zero, Array.getElem?_toList, Array.getElem?_eq_getElem h2] at g2
    injection g1 with g1
    injection g2 with g2
    rw [g1, g2]
    exact hv.2 _ h1 h2
  · rw [if_neg hc] at g1
    rw [if_neg (by omega)] at g2
    have h1 : i < cs.length := by rw [lput_length hle] at hi; exact hi
    have h2 : i < a.size := by rw [h.1]; exact h1
    rw [List.getElem?_eq_getElem h1] at g1
    rw [Array.getElem?_eq_getElem h2] at g2
    injection g1 with g1
    injection g2 with g2
    rw [g1, g2]
    exact h.2 _ h1 h2
end Go.Vm
