/- The virtual machine, part 22: a block that holds no cells turns. Generic: no program in sight. -/
import Derived.Test.YthgpapnbnapdhaaV21
import Derived.RangeFuncNested
import Derived.RangeFuncLeaves
set_option linter.unusedVariables false
set_option linter.unusedSimpArgs false
namespace Go.Vm
open Go.RowKit

def NoMap (H : List VB) : Prop := ∀ (id : Nat) (es : List (Value × SV)), H[id]? ≠ some (.map es)
/-- What holds cells lies as it lay. -/
structure Turn (w w' : World) : Prop where
  like : Like w w'
  size : w.heap.size ≤ w'.heap.size
  cells : ∀ (b : Nat) (c : Array Value) (e : TypeId) (fz : Nat × Nat), w.heap[b]? = some (Obj.cells c e fz) → w'.heap[b]? = some (Obj.cells c e fz)
theorem Turn.of {w w' : World} {row : Option Nat} (g : w.grownBy w' row) (hr : ∀ r, row = some r → ∃ o : Obj, w.heap[r]? = some o ∧ o.isCells = false) : Turn w w' := by
  refine ⟨⟨g.os, g.tape, g.output⟩, g.size, fun b c e fz h => ?_⟩
  have hb : b < w.heap.size := (Array.getElem?_eq_some_iff.1 h).1
  refine (g.block b hb fun e' => ?_).trans h
  obtain ⟨o, h1, h2⟩ := hr b e'.symm
  rw [h] at h1
  cases h1
  cases h2
theorem Turn.imm {R : Env} {w' : World} (t : Turn R.w w') {b : Nat} (h : R.imm b) : Env.imm { R with w := w' } b := ⟨Nat.lt_of_lt_of_le h.1 t.size, h.2⟩
theorem Rep.turn {R : Env} {w' : World} (hR : HRep R) (nm : NoMap R.H) (t : Turn R.w w') {x : SV} {y : Value} (h : Rep R x y) : Rep { R with w := w' } x y := by
  have hc : ∀ b o v, Go.Vm.cellAt R.w b o = some v → Go.Vm.cellAt w' b o = some v := fun b o v h => by
    unfold Go.Vm.cellAt World.cell? at h ⊢
    cases hb : R.w.heap[b]? with
    | none => simp [hb] at h
    | some ob =>
      cases ob with
      | cells c e fz =>
        have := t.cells b c e fz hb
        simp only [hb] at h
        simp only [this]
        exact h
      | _ => simp [hb] at h
  induction h with
  | junk y => exact .junk y
  | v x => exact .v x
  | agg cs a hl h ih => exact .agg cs a hl ih
  | tup cs a hl h ih => exact .tup cs a hl ih
  | ptr id off a hid hb hρ hs => exact .ptr id off a hid hb hρ hs
  | ro cs b o f hi hcl hz h ih => exact .ro cs b o f (t.imm hi) (fun j hj => hc _ _ _ (hcl j hj)) (Nat.lt_of_lt_of_le hz t.size) ih
  | list n full xs a c f hcl hfull hn ha h ih =>
    refine .list n full xs a c f hcl hfull hn ?_ ih
    rcases ha with ha | ⟨b, o, h1, h2, h3⟩
    · exact .inl ha
    · exact .inr ⟨b, o, h1, t.imm h2, fun j hj => hc _ _ _ (h3 j hj)⟩
  | slc id g off len n xs x c hr hle hcl ha =>
    refine .slc id g off len n xs x c hr hle hcl fun hp => ?_
    obtain ⟨a, q1, q2, q3⟩ := ha hp
    refine ⟨a, q1, q2, ?_⟩
    obtain ⟨_, h1 | ⟨a', c', e', fz, r1, r2, _⟩⟩ := hR.row id g n xs hr
    · rw [h1.1] at q1; cases q1
    · rw [q1] at r1
      cases r1
      have := t.cells _ _ _ _ r2
      unfold blkSize at q3 ⊢
      rw [r2] at q3
      simp only [this]
      exact q3
  | slcOld id g off len y hid hr => exact .slcOld id g off len y hid hr
  | rptr id g i o n xs a hr hi hρ hs => exact .rptr id g i o n xs a hr hi hρ hs
  | rptrOld id g i o y hid hr => exact .rptrOld id g i o y hid hr
  | fn fi cs a hl h ih => exact .fn fi cs a hl ih
  | mapv id b hid hb hρ => exact .mapv id b hid hb hρ
  | bsl id off n len cap x hid hb hle ha => exact .bsl id off n len cap x hid hb hle ha
theorem HRep.turn {R : Env} {w' : World} (hR : HRep R) (nm : NoMap R.H) (t : Turn R.w w') : HRep { R with w := w' } where
  addr := fun id a hl hr => ⟨(hR.addr id a hl hr).1, Nat.lt_of_lt_of_le (hR.addr id a hl hr).2 t.size⟩
  inj := hR.inj
  box := fun id cs h => by
    obtain ⟨a, c, e, fz, q1, q2, q3, q4, q5⟩ := hR.box id cs h
    exact ⟨a, c, e, fz, q1, t.cells _ _ _ _ q2, q3, q4, fun j hj hk => (q5 j hj hk).turn hR nm t⟩
  row := fun id g n xs h => by
    obtain ⟨hn, h1 | ⟨a, c, e, fz, q1, q2, q3, q4, q5⟩⟩ := hR.row id g n xs h
    · exact ⟨hn, .inl h1⟩
    · exact ⟨hn, .inr ⟨a, c, e, fz, q1, t.cells _ _ _ _ q2, q3, q4, fun i hi j hj hk => (q5 i hi j hj hk).turn hR nm t⟩⟩
  map := fun id es h => absurd h (nm id es)
theorem Ext.turn {R0 R : Env} {w' : World} (e : Ext R0 R) {row : Option Nat} (g : R.w.grownBy w' row) (hr : ∀ r, row = some r → R0.w.heap.size ≤ r) : Ext R0 { R with w := w' } where
  os := g.os.trans e.os
  tape := g.tape.trans e.tape
  output := g.output.trans e.output
  size := Nat.le_trans e.size g.size
  len := e.len
  keep := fun b hb hn => (g.block b (Nat.lt_of_lt_of_le hb e.size) (fun h => by have := hr b h.symm; omega)).trans (e.keep b hb hn)
  bsz := fun b hb => by
    have h1 := g.block b (Nat.lt_of_lt_of_le hb e.size) (fun h => by have := hr b h.symm; omega)
    have h2 := e.bsz b hb
    unfold blkSize at h2 ⊢
    show (match w'.heap[b]? with | some (.cells c _ _) => c.size | _ => 0) = _
    rw [h1]
    exact h2
  live := e.live
  rho := e.rho
  row := e.row
  rowB := e.rowB
/-- A block that holds neither cells nor a map is kept. -/
theorem Ext.other {R R' : Env} (e : Ext R R') (hR : HRep R) (nm : NoMap R.H) {k : Nat} {o : Obj} (h : R.w.heap[k]? = some o) (ho : o.isCells = false) : R'.w.heap[k]? = some o := by
  have hk : k < R.w.heap.size := (Array.getElem?_eq_some_iff.1 h).1
  refine (e.keep k hk fun id a hl hr hb => ?_).trans h
  obtain ⟨b, h1, h2⟩ := hl
  subst hb
  cases b with
  | dead => exact h2 rfl
  | box cs =>
    obtain ⟨a', c, e', fz, q1, q2, _⟩ := hR.box id cs h1
    rw [hr] at q1
    cases q1
    rw [h] at q2
    cases q2
    cases ho
  | row g n xs =>
    obtain ⟨_, h3 | ⟨a', c, e', fz, q1, q2, _⟩⟩ := hR.row id g n xs h1
    · rw [h3.1] at hr; cases hr
    · rw [hr] at q1
      cases q1
      rw [h] at q2
      cases q2
      cases ho
  | map es => exact nm id es h1
theorem Ext.keepsFrom {R R' : Env} (e : Ext R R') (hR : HRep R) (nm : NoMap R.H) (B : Nat) : KeepsFrom B R.w R'.w := ⟨e.size, fun k o _ h ho => e.other hR nm h ho⟩
end Go.Vm
