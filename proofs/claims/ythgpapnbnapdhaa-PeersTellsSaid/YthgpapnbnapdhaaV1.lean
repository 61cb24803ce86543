/- The virtual machine, part 1: what is forgotten; cells that are read and written; how the virtual heap turns. Generic: no program in sight. -/
import Derived.Test.YthgpapnbnapdhaaV0
set_option linter.unusedVariables false
set_option linter.unusedSimpArgs false
namespace Go.Vm
open Go.RowKit

/-! ### Ids that a value names -/
inductive SV.Bel (k : Nat) : SV → Prop
  | junk : SV.Bel k .junk
  | v (x : Value) : SV.Bel k (.v x)
  | agg (cs : List SV) (h : ∀ c, c ∈ cs → SV.Bel k c) : SV.Bel k (.agg cs)
  | tup (cs : List SV) (h : ∀ c, c ∈ cs → SV.Bel k c) : SV.Bel k (.tup cs)
  | ptr (id off : Nat) (h : id < k) : SV.Bel k (.ptr id off)
  | ro (cs : List SV) (h : ∀ c, c ∈ cs → SV.Bel k c) : SV.Bel k (.ro cs)
  | list (n : Nat) (full : Bool) (xs : List SV) (h : ∀ c, c ∈ xs → SV.Bel k c) : SV.Bel k (.list n full xs)
  | slc (id g off len : Nat) (h : id < k) : SV.Bel k (.slc id g off len)
  | rptr (id g i o : Nat) (h : id < k) : SV.Bel k (.rptr id g i o)
  | fn (f : FuncId) (cs : List SV) (h : ∀ c, c ∈ cs → SV.Bel k c) : SV.Bel k (.fn f cs)
  | mapv (id : Nat) (h : id < k) : SV.Bel k (.mapv id)
  | bsl (id off n len cap : Nat) (h : id < k) : SV.Bel k (.bsl id off n len cap)
theorem SV.Bel.mono {k k' : Nat} (hk : k ≤ k') {x : SV} (h : x.Bel k) : x.Bel k' := by
  induction h with
  | junk => exact .junk
  | v x => exact .v x
  | agg cs h ih => exact .agg cs ih
  | tup cs h ih => exact .tup cs ih
  | ptr id off h => exact .ptr id off (Nat.lt_of_lt_of_le h hk)
  | ro cs h ih => exact .ro cs ih
  | list n full xs h ih => exact .list n full xs ih
  | slc id g off len h => exact .slc _ _ _ _ (Nat.lt_of_lt_of_le h hk)
  | rptr id g i o h => exact .rptr _ _ _ _ (Nat.lt_of_lt_of_le h hk)
  | fn f cs h ih => exact .fn f cs ih
  | mapv id h => exact .mapv id (Nat.lt_of_lt_of_le h hk)
  | bsl id off n len cap h => exact .bsl _ _ _ _ _ (Nat.lt_of_lt_of_le h hk)
def VB.Bel (k : Nat) : VB → Prop
  | .dead => True
  | .box cs => ∀ c, c ∈ cs → SV.Bel k c
  | .row _ _ xs => ∀ c, c ∈ xs → SV.Bel k c
  | .map es => ∀ e, e ∈ es → SV.Bel k e.2
theorem VB.Bel.mono {k k' : Nat} (hk : k ≤ k') {b : VB} (h : b.Bel k) : b.Bel k' := by
  cases b with
  | dead => trivial
  | box cs => exact fun c hc => (h c hc).mono hk
  | row g n xs => exact fun c hc => (h c hc).mono hk
  | map es => exact fun c hc => (h c hc).mono hk
@[simp] theorem bel_junk (k : Nat) : SV.Bel k .junk ↔ True := ⟨fun _ => trivial, fun _ => .junk⟩
@[simp] theorem bel_v (k : Nat) (x : Value) : SV.Bel k (.v x) ↔ True := ⟨fun _ => trivial, fun _ => .v x⟩
@[simp] theorem bel_agg (k : Nat) (cs : List SV) : SV.Bel k (.agg cs) ↔ ∀ c, c ∈ cs → SV.Bel k c := ⟨fun h => by cases h; assumption, fun h => .agg cs h⟩
@[simp] theorem bel_tup (k : Nat) (cs : List SV) : SV.Bel k (.tup cs) ↔ ∀ c, c ∈ cs → SV.Bel k c := ⟨fun h => by cases h; assumption, fun h => .tup cs h⟩
@[simp] theorem bel_ro (k : Nat) (cs : List SV) : SV.Bel k (.ro cs) ↔ ∀ c, c ∈ cs → SV.Bel k c := ⟨fun h => by cases h; assumption, fun h => .ro cs h⟩
@[simp] theorem bel_list (k n : Nat) (full : Bool) (cs : List SV) : SV.Bel k (.list n full cs) ↔ ∀ c, c ∈ cs → SV.Bel k c := ⟨fun h => by cases h; assumption, fun h => .list n full cs h⟩
@[simp] theorem bel_fn (k : Nat) (f : FuncId) (cs : List SV) : SV.Bel k (.fn f cs) ↔ ∀ c, c ∈ cs → SV.Bel k c := ⟨fun h => by cases h; assumption, fun h => .fn f cs h⟩
@[simp] theorem bel_ptr (k id off : Nat) : SV.Bel k (.ptr id off) ↔ id < k := ⟨fun h => by cases h; assumption, fun h => .ptr _ _ h⟩
@[simp] theorem bel_slc (k id g off len : Nat) : SV.Bel k (.slc id g off len) ↔ id < k := ⟨fun h => by cases h; assumption, fun h => .slc _ _ _ _ h⟩
@[simp] theorem bel_rptr (k id g i o : Nat) : SV.Bel k (.rptr id g i o) ↔ id < k := ⟨fun h => by cases h; assumption, fun h => .rptr _ _ _ _ h⟩
@[simp] theorem bel_mapv (k id : Nat) : SV.Bel k (.mapv id) ↔ id < k := ⟨fun h => by cases h; assumption, fun h => .mapv _ h⟩

@[simp] theorem bel_bsl (k id off n len cap : Nat) : SV.Bel k (.bsl id off n len cap) ↔ id < k := ⟨fun h => by cases h; assumption, fun h => .bsl _ _ _ _ _ h⟩

theorem cells_bel {k : Nat} {x : SV} (h : ∀ c, c ∈ x.cells → SV.Bel k c) : x.Bel k := by
  cases x <;> first | exact .agg _ h | exact h _ (by simp [SV.cells])
theorem bel_cells {k : Nat} {x : SV} (h : x.Bel k) : ∀ c, c ∈ x.cells → SV.Bel k c := by
  cases x <;> first | exact (bel_agg _ _).1 h | (intro c hc; simp [SV.cells] at hc; subst hc; exact h)

theorem Rep.bel {R : Env} {x : SV} {y : Value} (h : Rep R x y) : x.Bel R.H.length := by
  have key : ∀ (cs : List SV), (∀ (i : Nat) (hi : i < cs.length), SV.Bel R.H.length cs[i]) → ∀ c, c ∈ cs → SV.Bel R.H.length c := by
    intro cs h c hc
    obtain ⟨i, hi, rfl⟩ := List.getElem_of_mem hc
    exact h i hi
  induction h with
  | junk y => exact .junk
  | v x => exact .v x
  | agg cs a hl h ih => exact .agg cs (key cs fun i hi => ih i hi (by omega))
  | tup cs a hl h ih => exact .tup cs (key cs fun i hi => ih i hi (by omega))
  | ptr id off a hid hb hρ hs => exact .ptr _ _ hid
  | ro cs b o f hi hc hz h ih => exact .ro cs (key cs ih)
  | list n full xs a c f hc hfull hn ha h ih => exact .list _ _ xs (key xs fun i hi => cells_bel (key _ (ih i hi)))
  | slc id g off len n xs x c hr hle hc ha => exact .slc _ _ _ _ (lt_of_some hr)
  | slcOld id g off len y hid hr => exact .slc _ _ _ _ hid
  | rptr id g i o n xs a hr hi hρ hs => exact .rptr _ _ _ _ (lt_of_some hr)
  | rptrOld id g i o y hid hr => exact .rptr _ _ _ _ hid
  | fn fi cs a hl h ih => exact .fn _ cs (key cs fun i hi => ih i hi (by omega))
  | mapv id b hid hb hρ => exact .mapv _ hid
  | bsl id off n len cap x hid hb hle ha => exact .bsl _ _ _ _ _ hid

/-! ### Forgetting -/
def Env.sub (R : Env) (H' : List VB) : Prop := H'.length ≤ R.H.length ∧ ∀ id, id < H'.length → H'[id]? = R.H[id]? ∨ H'[id]? = some .dead
theorem Env.sub.live {R : Env} {H' : List VB} (s : R.sub H') {id : Nat} (h : Env.live { R with H := H' } id) : R.live id := by
  obtain ⟨b, h1, h2⟩ := h
  rcases s.2 id (lt_of_some h1) with h3 | h3
  · exact ⟨b, h3.symm.trans h1, h2⟩
  · have h1' : H'[id]? = some b := h1
    rw [h3] at h1'
    cases h1'
    exact absurd rfl h2
theorem Env.sub.imm {R : Env} {H' : List VB} (s : R.sub H') {b : Nat} (h : R.imm b) : Env.imm { R with H := H' } b :=
  ⟨h.1, fun id a hl hr => h.2 id a (s.live hl) hr⟩
theorem Env.sub.row {R : Env} {H' : List VB} (s : R.sub H') {id g n : Nat} {xs : List SV} (h : H'[id]? = some (.row g n xs)) : R.H[id]? = some (.row g n xs) := by
  rcases s.2 id (lt_of_some h) with h3 | h3
  · exact h3.symm.trans h
  · rw [h3] at h; cases h
theorem Rep.forget {R : Env} {H' : List VB} (s : R.sub H') {x : SV} {y : Value} (h : Rep R x y) : x.Bel H'.length → Rep { R with H := H' } x y := by
  induction h with
  | junk y => exact fun _ => .junk y
  | v x => exact fun _ => .v x
  | agg cs a hl h ih => exact fun hb => .agg cs a hl fun i hi hj => ih i hi hj ((bel_agg _ _).1 hb _ (List.getElem_mem hi))
  | tup cs a hl h ih => exact fun hb => .tup cs a hl fun i hi hj => ih i hi hj ((bel_tup _ _).1 hb _ (List.getElem_mem hi))
  | ptr id off a hid hb hρ hs => exact fun hk => .ptr id off a ((bel_ptr _ _ _).1 hk) (fun g n xs h => hb g n xs (s.row h)) hρ hs
  | ro cs b o f hi hc hz h ih => exact fun hb => .ro cs b o f (s.imm hi) hc hz fun j hj => ih j hj ((bel_ro _ _).1 hb _ (List.getElem_mem hj))
  | list n full xs a c f hc hfull hn ha h ih =>
    intro hb
    refine .list n full xs a c f hc hfull hn ?_ fun i hi j hj => ih i hi j hj (bel_cells ((bel_list _ _ _ _).1 hb _ (List.getElem_mem hi)) _ (List.getElem_mem hj))
    rcases ha with ha | ⟨b, o, h1, h2, h3⟩
    · exact .inl ha
    · exact .inr ⟨b, o, h1, s.imm h2, h3⟩
  | slc id g off len n xs x c hr hle hc ha =>
    intro hb
    have hid : id < H'.length := (bel_slc _ _ _ _ _).1 hb
    rcases s.2 id hid with h3 | h3
    · exact .slc id g off len n xs x c (h3.trans hr) hle hc ha
    · exact .slcOld id g off len _ hid (fun g' n xs h => by rw [show H'[id]? = _ from h] at h3; cases h3)
  | slcOld id g off len y hid hr => exact fun hb => .slcOld id g off len y ((bel_slc _ _ _ _ _).1 hb) fun g' n xs h => hr g' n xs (s.row h)
  | rptr id g i o n xs a hr hi hρ hs =>
    intro hb
    have hid : id < H'.length := (bel_rptr _ _ _ _ _).1 hb
    rcases s.2 id hid with h3 | h3
    · exact .rptr id g i o n xs a (h3.trans hr) hi hρ hs
    · exact .rptrOld id g i o _ hid (fun g' n xs h => by rw [show H'[id]? = _ from h] at h3; cases h3)
  | rptrOld id g i o y hid hr => exact fun hb => .rptrOld id g i o y ((bel_rptr _ _ _ _ _).1 hb) fun g' n xs h => hr g' n xs (s.row h)
  | fn fi cs a hl h ih => exact fun hb => .fn fi cs a hl fun i hi hj => ih i hi hj ((bel_fn _ _ _).1 hb _ (List.getElem_mem hi))
  | mapv id b hid hb hρ => exact fun hk => .mapv id b ((bel_mapv _ _).1 hk) (fun g n xs h => hb g n xs (s.row h)) hρ
  | bsl id off n len cap x hid hb hle ha => exact fun hk => .bsl id off n len cap x ((bel_bsl _ _ _ _ _ _).1 hk) (fun g n xs h => hb g n xs (s.row h)) hle ha

/-- From the beginning R0 to a state of which something is forgotten. -/
theorem Ext.forget {R0 R : Env} {H' : List VB} (e : Ext R0 R) (s : R.sub H') (hl : R0.H.length ≤ H'.length) : Ext R0 { R with H := H' } where
  os := e.os
  tape := e.tape
  output := e.output
  size := e.size
  len := hl
  keep := e.keep
  bsz := e.bsz
  live := fun id a h hr => e.live id a (s.live h) hr
  rho := fun id hid hb => ⟨(e.rho id hid hb).1, fun g n xs h => (e.rho id hid hb).2 g n xs (s.row h)⟩
  row := fun id g n xs h1 g' n' xs' h2 => e.row id g n xs h1 g' n' xs' (s.row h2)
  rowB := e.rowB

/-- Blocks that the beginning had name ids of the beginning. -/
theorem HRep.bel {R : Env} (h : HRep R) {id : Nat} {b : VB} (hb : R.H[id]? = some b) : b.Bel R.H.length := by
  cases b with
  | dead => trivial
  | box cs =>
    obtain ⟨a, c, e, fz, _, _, _, hle, hr⟩ := h.box id cs hb
    intro x hx
    obtain ⟨i, hi, rfl⟩ := List.getElem_of_mem hx
    exact (hr i hi (by omega)).bel
  | row g n xs =>
    obtain ⟨hn, h1 | ⟨a, c, e, fz, _, _, _, hle, hr⟩⟩ := h.row id g n xs hb
    · rw [h1.2]; intro x hx; cases hx
    · intro x hx
      obtain ⟨i, hi, rfl⟩ := List.getElem_of_mem hx
      refine cells_bel fun y hy => ?_
      obtain ⟨j, hj, rfl⟩ := List.getElem_of_mem hy
      refine (hr i hi j hj ?_).bel
      have h1 := hn _ (List.getElem_mem hi)
      have h2 : (i + 1) * n ≤ xs.length * n := Nat.mul_le_mul_right n hi
      have h3 : (i + 1) * n = i * n + n := Nat.succ_mul i n
      omega
  | map es =>
    obtain ⟨b, rs, clock, _, _, hs, hr, _⟩ := h.map id es hb
    intro x hx
    obtain ⟨i, hi, rfl⟩ := List.getElem_of_mem hx
    exact (hr i hi (by omega)).2.1.bel

theorem HRep.forget {R : Env} {H' : List VB} (h : HRep R) (s : R.sub H') (hb : ∀ (id : Nat) (b : VB), H'[id]? = some b → b.Bel H'.length) : HRep { R with H := H' } where
  addr := fun id a hl hr => h.addr id a (s.live hl) hr
  inj := fun id id' a a' hl hl' => h.inj id id' a a' (s.live hl) (s.live hl')
  box := fun id cs h1 => by
    have h2 : R.H[id]? = some (.box cs) := by
      rcases s.2 id (lt_of_some h1) with h3 | h3
      · exact h3.symm.trans h1
      · rw [show H'[id]? = _ from h1] at h3; cases h3
    obtain ⟨a, c, e, fz, q1, q2, q3, q4, q5⟩ := h.box id cs h2
    exact ⟨a, c, e, fz, q1, q2, q3, q4, fun j hj hk => (q5 j hj hk).forget s (hb id _ h1 _ (List.getElem_mem hj))⟩
  row := fun id g n xs h1 => by
    obtain ⟨hn, h2 | ⟨a, c, e, fz, q1, q2, q3, q4, q5⟩⟩ := h.row id g n xs (s.row h1)
    · exact ⟨hn, .inl h2⟩
    · exact ⟨hn, .inr ⟨a, c, e, fz, q1, q2, q3, q4, fun i hi j hj hk => (q5 i hi j hj hk).forget s (bel_cells (hb id _ h1 _ (List.getElem_mem hi)) _ (List.getElem_mem hj))⟩⟩
  map := fun id es h1 => by
    have h2 : R.H[id]? = some (.map es) := by
      rcases s.2 id (lt_of_some h1) with h3 | h3
      · exact h3.symm.trans h1
      · rw [show H'[id]? = _ from h1] at h3; cases h3
    obtain ⟨b, rs, clock, q1, q2, q3, q4, q5⟩ := h.map id es h2
    exact ⟨b, rs, clock, q1, q2, q3, fun i hi hk => ⟨(q4 i hi hk).1, (q4 i hi hk).2.1.forget s (hb id _ h1 _ (List.getElem_mem hi)), (q4 i hi hk).2.2⟩, q5⟩

/-! ### Cells -/
def CellsAt (R : Env) (b o : Nat) (cs : List SV) : Prop := ∀ (j : Nat) (hj : j < cs.length), ∃ y, cellAt R.w b (o + j) = some y ∧ Rep R cs[j] y
/-- The cells that stand from an address on. -/
def vcells (H : List VB) : SV → Option (List SV)
  | .ptr id off => match H[id]? with | some (.box cs) => some (cs.drop off) | _ => none
  | .ro cs => some cs
  | .rptr id g i o => match H[id]? with
    | some (.row g' _ xs) => if g = g' then (xs[i]?).map fun x => x.cells.drop o else none
    | _ => none
  | _ => none
theorem cellAt_of_block {w : World} {b : Nat} {c : Array Value} {e : TypeId} {fz : Nat × Nat} (h : w.heap[b]? = some (.cells c e fz)) (o : Nat) : cellAt w b o = c[o]? := by
  simp [cellAt, World.cell?, h]
theorem CellsAt.take {R : Env} {b o : Nat} {cs : List SV} (h : CellsAt R b o cs) (k : Nat) : CellsAt R b o (cs.take k) := fun j hj => by
  have hj' : j < cs.length := by simp at hj; omega
  obtain ⟨y, h1, h2⟩ := h j hj'
  exact ⟨y, h1, by simpa using h2⟩
theorem vcells_sound {R : Env} (h : HRep R) {x : SV} {y : Value} {cs : List SV} (hx : vcells R.H x = some cs) (hr : Rep R x y) :
    ∃ b o, y = .pointer (some ⟨b, o, none⟩) ∧ CellsAt R b o cs := by
  cases hr with
  | ptr id off a hid hb hρ hs =>
    simp only [vcells] at hx
    split at hx
    · rename_i cs' hc
      cases hx
      obtain ⟨a', c, e, fz, q1, q2, q3, q4, q5⟩ := h.box id cs' hc
      rw [hρ] at q1
      cases q1
      refine ⟨_, _, rfl, fun j hj => ?_⟩
      simp only [List.length_drop] at hj
      refine ⟨c[a.off + (off + j)]'(by omega), ?_, ?_⟩
      · rw [cellAt_of_block q2, Nat.add_assoc]; exact Array.getElem?_eq_getElem _
      · rw [List.getElem_drop]; exact q5 (off + j) (by omega) (by omega)
    · cases hx
  | ro cs' b o f hi hc hz h' =>
    cases hx
    exact ⟨b, o, rfl, fun j hj => ⟨f j, hc j hj, h' j hj⟩⟩
  | rptr id g i o n xs a hr hi hρ hs =>
    simp only [vcells, hr, if_true, List.getElem?_eq_getElem hi, Option.map_some] at hx
    cases hx
    obtain ⟨hn, h1 | ⟨a', c, e, fz, q1, q2, q3, q4, q5⟩⟩ := h.row id g n xs hr
    · rw [h1.1] at hρ; cases hρ
    · rw [hρ] at q1
      cases q1
      have e1 := hn _ (List.getElem_mem hi)
      have h2 : (i + 1) * n ≤ xs.length * n := Nat.mul_le_mul_right n hi
      have h3 : (i + 1) * n = i * n + n := Nat.succ_mul i n
      refine ⟨_, _, rfl, fun j hj => ?_⟩
      simp only [List.length_drop] at hj
      refine ⟨c[a.off + i * n + (o + j)]'(by omega), ?_, ?_⟩
      · rw [cellAt_of_block q2, Nat.add_assoc]; exact Array.getElem?_eq_getElem _
      · rw [List.getElem_drop]; exact q5 i hi (o + j) (by omega) (by omega)
  | rptrOld id g i o y hid hr =>
    simp only [vcells] at hx
    split at hx
    · rename_i g' n xs hc
      have := hr g' n xs hc
      rw [if_neg (by omega)] at hx
      cases hx
    · cases hx
  | _ => cases hx

/-! ### Types -/
def isAggT (P : Program) (t : TypeId) : Bool := match P.underlying t with | some (.struct _) | some (.array _ _) => true | _ => false
def vload (P : Program) (H : List VB) (t : TypeId) (x : SV) : Option SV :=
  match vcells H x with
  | some cs => if (P.underlying t).isSome then (if isAggT P t then (if P.cellsOf t ≤ cs.length then some (.agg (cs.take (P.cellsOf t))) else none) else cs[0]?) else none
  | none => none
theorem add_plain (b o j : Nat) : (⟨b, o, none⟩ : Addr).add j = ⟨b, o + j, none⟩ := by unfold Addr.add; split <;> simp_all
theorem info_of_underlying {P : Program} {t : TypeId} {d : TypeDesc} (h : P.underlying t = some d) : ∃ i, P.info? t = some i := by
  unfold Program.underlying at h
  split at h
  · rename_i i _ e; exact ⟨_, e⟩
  · rename_i i e; exact ⟨_, e⟩
  · cases h
theorem run_underlying {P : Program} {t : TypeId} {d : TypeDesc} (h : P.underlying t = some d) (w : World) : (underlying t).run P w = .ok d w := by
  simp [underlying, h]
theorem run_sizeOf {P : Program} {t : TypeId} {d : TypeDesc} (h : P.underlying t = some d) (w : World) : (sizeOf t).run P w = .ok (P.cellsOf t) w := by
  obtain ⟨i, hi⟩ := info_of_underlying h
  simp [sizeOf, typeInfo, hi, Program.cellsOf]
theorem run_isAgg {P : Program} {t : TypeId} {d : TypeDesc} (h : P.underlying t = some d) (w : World) : (isAgg t).run P w = .ok (isAggT P t) w := by
  simp only [isAgg, Sem.run_bind, run_underlying h, Result.andThen_ok, isAggT, h]
  cases d <;> rfl
theorem loadVar_sound {P : Program} {R : Env} {t : TypeId} {b o : Nat} {cs : List SV} (h : CellsAt R b o cs) {d : TypeDesc} (hd : P.underlying t = some d) {r : SV}
    (hr : (if isAggT P t then (if P.cellsOf t ≤ cs.length then some (.agg (cs.take (P.cellsOf t))) else none) else cs[0]?) = some r) :
    ∃ v, (loadVar t ⟨b, o, none⟩).run P R.w = .ok v R.w ∧ Rep R r v := by
  simp only [loadVar, Sem.run_bind, run_isAgg hd, Result.andThen_ok]
  cases ha : isAggT P t
  · simp only [ha, if_false, Bool.false_eq_true] at hr ⊢
    have h0 : 0 < cs.length := lt_of_some hr
    obtain ⟨y, h1, h2⟩ := h 0 h0
    refine ⟨y, ?_, ?_⟩
    · have h1' : R.w.cell? ⟨b, o, none⟩ = some y := by simpa [cellAt] using h1
      simp [h1']
    · rw [List.getElem?_eq_getElem h0] at hr; cases hr; exact h2
  · simp only [ha, if_true] at hr ⊢
    split at hr
    · rename_i hle
      cases hr
      have hf : ∀ j, ∃ y, j < P.cellsOf t → cellAt R.w b (o + j) = some y ∧ ∀ (hj : j < cs.length), Rep R cs[j] y := fun j => by
        by_cases hj : j < P.cellsOf t
        · obtain ⟨y, h1, h2⟩ := h j (by omega)
          exact ⟨y, fun _ => ⟨h1, fun _ => h2⟩⟩
        · exact ⟨undef, fun h => absurd h hj⟩
      obtain ⟨f, hf⟩ := Classical.axiomOfChoice hf
      have hrun := run_loadCells (P := P) R.w ⟨b, o, none⟩ (P.cellsOf t) f (fun j hj => by rw [add_plain]; exact (hf j hj).1)
      simp only [Sem.run_bind, run_sizeOf hd, Result.andThen_ok, hrun]
      refine ⟨_, rfl, .agg _ _ (by simp; omega) fun i hi hj => ?_⟩
      simp only [List.getElem_take, Array.getElem_map, Array.getElem_range]
      simp at hi hj
      have := (hf i (by omega)).2 (by omega)
      simpa using this
    · cases hr
theorem vload_sound {P : Program} {R : Env} (h : HRep R) {t : TypeId} {x r : SV} {y : Value} (hx : vload P R.H t x = some r) (hr : Rep R x y) :
    ∃ b o v, y = .pointer (some ⟨b, o, none⟩) ∧ (loadVar t ⟨b, o, none⟩).run P R.w = .ok v R.w ∧ Rep R r v := by
  unfold vload at hx
  split at hx
  · rename_i cs hc
    obtain ⟨b, o, rfl, hcs⟩ := vcells_sound h hc hr
    split at hx
    · rename_i hs
      obtain ⟨d, hd⟩ := Option.isSome_iff_exists.1 hs
      obtain ⟨v, h1, h2⟩ := loadVar_sound hcs hd hx
      exact ⟨b, o, v, rfl, h1, h2⟩
    · cases hx
  · cases hx
end Go.Vm
