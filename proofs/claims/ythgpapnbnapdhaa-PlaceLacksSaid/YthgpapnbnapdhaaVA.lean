/- The virtual machine: values, heaps, stores, code, operations that compute or read (parts 0 to 8). Generic: no program in sight. -/
import Derived.CallsIn
import Derived.Below
import Derived.Sort.LoopGhostIn
import Derived.Laws.BytesArg
import Derived.Lib.Strings
/- The virtual machine, part 0: virtual values, what they stand for in a world, and how that lasts. Generic: no program in sight. -/
set_option linter.unusedVariables false
set_option linter.unusedSimpArgs false
namespace Go.Vm
open Go.RowKit

/-- Virtual values. -/
inductive SV where
  | junk
  | v (x : Value)
  | agg (cs : List SV)
  | tup (vs : List SV)
  | ptr (id off : Nat)
  | ro (cs : List SV)
  | list (n : Nat) (full : Bool) (xs : List SV)
  | slc (id g off len : Nat)
  | rptr (id g i o : Nat)
  | fn (f : FuncId) (caps : List SV)
  | mapv (id : Nat)
  | bsl (id off n len cap : Nat)
  deriving Inhabited

def SV.cells : SV → List SV
  | .agg cs => cs
  | x => [x]
def SV.isCell : SV → Bool
  | .agg _ => false
  | _ => true
theorem SV.isCell_cells {x : SV} (h : x.isCell = true) : x.cells = [x] := by cases x <;> first | rfl | cases h

/-- Virtual blocks. -/
inductive VB where
  | dead
  | box (cs : List SV)
  | row (g n : Nat) (xs : List SV)
  | map (es : List (Value × SV))
  deriving Inhabited

structure Env where
  H : List VB
  ρ : Nat → Option Addr
  w : World

def Env.live (R : Env) (id : Nat) : Prop := ∃ b, R.H[id]? = some b ∧ b ≠ .dead
def Env.imm (R : Env) (b : Nat) : Prop := b < R.w.heap.size ∧ ∀ id a, R.live id → R.ρ id = some a → a.block ≠ b
def cellAt (w : World) (b o : Nat) : Option Value := w.cell? ⟨b, o, none⟩
def blkSize (w : World) (b : Nat) : Nat := match w.heap[b]? with | some (.cells c _ _) => c.size | _ => 0

/-- What a virtual value stands for. -/
inductive Rep (R : Env) : SV → Value → Prop
  | junk (y : Value) : Rep R .junk y
  | v (x : Value) : Rep R (.v x) x
  | agg (cs : List SV) (a : Array Value) (hl : a.size = cs.length) (h : ∀ (i : Nat) (hi : i < cs.length) (hj : i < a.size), Rep R cs[i] a[i]) : Rep R (.agg cs) (.agg a)
  | tup (cs : List SV) (a : Array Value) (hl : a.size = cs.length) (h : ∀ (i : Nat) (hi : i < cs.length) (hj : i < a.size), Rep R cs[i] a[i]) : Rep R (.tup cs) (.tuple a)
  | ptr (id off : Nat) (a : Addr) (hid : id < R.H.length) (hb : ∀ g n xs, R.H[id]? ≠ some (.row g n xs)) (hρ : R.ρ id = some a) (hs : a.spot = none) :
      Rep R (.ptr id off) (.pointer (some ⟨a.block, a.off + off, none⟩))
  | ro (cs : List SV) (b o : Nat) (f : Nat → Value) (hi : R.imm b) (hc : ∀ j, j < cs.length → cellAt R.w b (o + j) = some (f j)) (hz : b < R.w.heap.size)
      (h : ∀ (j : Nat) (hj : j < cs.length), Rep R cs[j] (f j)) : Rep R (.ro cs) (.pointer (some ⟨b, o, none⟩))
  | list (n : Nat) (full : Bool) (xs : List SV) (a : Option Addr) (c : Nat) (f : Nat → Value) (hc : xs.length ≤ c) (hfull : full = true → c = xs.length)
      (hn : ∀ x, x ∈ xs → x.cells.length = n)
      (ha : xs = [] ∨ ∃ b o, a = some ⟨b, o, none⟩ ∧ R.imm b ∧ ∀ j, j < xs.length * n → cellAt R.w b (o + j) = some (f j))
      (h : ∀ (i : Nat) (hi : i < xs.length) (j : Nat) (hj : j < xs[i].cells.length), Rep R xs[i].cells[j] (f (i * n + j))) :
      Rep R (.list n full xs) (.slice a xs.length c)
  | slc (id g off len n : Nat) (xs : List SV) (x : Option Addr) (c : Nat) (hr : R.H[id]? = some (.row g n xs)) (hle : off + len ≤ xs.length) (hc : len ≤ c)
      (ha : 0 < c → ∃ a : Addr, R.ρ id = some a ∧ x = some ⟨a.block, a.off + off * n, none⟩ ∧ a.off + (off + c) * n ≤ blkSize R.w a.block) :
      Rep R (.slc id g off len) (.slice x len c)
  | slcOld (id g off len : Nat) (y : Value) (hid : id < R.H.length) (hr : ∀ g' n xs, R.H[id]? = some (.row g' n xs) → g < g') : Rep R (.slc id g off len) y
  | rptr (id g i o n : Nat) (xs : List SV) (a : Addr) (hr : R.H[id]? = some (.row g n xs)) (hi : i < xs.length) (hρ : R.ρ id = some a) (hs : a.spot = none) :
      Rep R (.rptr id g i o) (.pointer (some ⟨a.block, a.off + i * n + o, none⟩))
  | rptrOld (id g i o : Nat) (y : Value) (hid : id < R.H.length) (hr : ∀ g' n xs, R.H[id]? = some (.row g' n xs) → g < g') : Rep R (.rptr id g i o) y
  | fn (fi : FuncId) (cs : List SV) (a : Array Value) (hl : a.size = cs.length) (h : ∀ (i : Nat) (hi : i < cs.length) (hj : i < a.size), Rep R cs[i] a[i]) :
      Rep R (.fn fi cs) (.func (.func fi) #[] a)
  | mapv (id b : Nat) (hid : id < R.H.length) (hb : ∀ g n xs, R.H[id]? ≠ some (.row g n xs)) (hρ : R.ρ id = some ⟨b, 0, none⟩) : Rep R (.mapv id) (.map (some b))
  | bsl (id off n len cap : Nat) (x : Option Addr) (hid : id < R.H.length) (hb : ∀ g n xs, R.H[id]? ≠ some (.row g n xs)) (hle : len ≤ cap)
      (ha : 0 < cap → ∃ a : Addr, R.ρ id = some a ∧ a.spot = none ∧ x = some ⟨a.block, a.off + off, none⟩) : Rep R (.bsl id off n len cap) (.slice x len cap)

/-- From one state to a later one. -/
structure Ext (R R' : Env) : Prop where
  os : R'.w.os = R.w.os
  tape : R'.w.tape = R.w.tape
  output : R'.w.output = R.w.output
  size : R.w.heap.size ≤ R'.w.heap.size
  len : R.H.length ≤ R'.H.length
  keep : ∀ b, b < R.w.heap.size → (∀ id a, R.live id → R.ρ id = some a → a.block ≠ b) → R'.w.heap[b]? = R.w.heap[b]?
  bsz : ∀ b, b < R.w.heap.size → blkSize R'.w b = blkSize R.w b
  live : ∀ id a, R'.live id → R'.ρ id = some a → (∃ a', R.live id ∧ R.ρ id = some a' ∧ a'.block = a.block) ∨ R.w.heap.size ≤ a.block
  rho : ∀ id, id < R.H.length → (∀ g n xs, R.H[id]? ≠ some (.row g n xs)) → R'.ρ id = R.ρ id ∧ ∀ g n xs, R'.H[id]? ≠ some (.row g n xs)
  row : ∀ id g n xs, R.H[id]? = some (.row g n xs) → ∀ g' n' xs', R'.H[id]? = some (.row g' n' xs') →
    (g' = g ∧ R'.ρ id = R.ρ id ∧ n' = n ∧ xs.length ≤ xs'.length) ∨ g < g'
  rowB : ∀ id g n xs a, R.H[id]? = some (.row g n xs) → R.ρ id = some a → a.block < R.w.heap.size

theorem Env.row_live {R : Env} {id g n : Nat} {xs : List SV} (h : R.H[id]? = some (.row g n xs)) : R.live id := ⟨_, h, by simp⟩
theorem lt_of_some {α : Type} {l : List α} {i : Nat} {x : α} (h : l[i]? = some x) : i < l.length := by
  rcases Nat.lt_or_ge i l.length with h' | h'
  · exact h'
  · rw [List.getElem?_eq_none h'] at h; cases h

theorem Ext.imm {R R' : Env} (e : Ext R R') {b : Nat} (h : R.imm b) : R'.imm b := by
  refine ⟨Nat.lt_of_lt_of_le h.1 e.size, fun id a hl hr hb => ?_⟩
  rcases e.live id a hl hr with ⟨a', h1, h2, h3⟩ | h1
  · exact h.2 id a' h1 h2 (h3.trans hb)
  · have := h.1; omega
theorem cellAt_of_heap {w w' : World} {b : Nat} (h : w'.heap[b]? = w.heap[b]?) (o : Nat) : cellAt w' b o = cellAt w b o := by
  simp [cellAt, World.cell?, h]
theorem Ext.cell {R R' : Env} (e : Ext R R') {b : Nat} (h : R.imm b) (o : Nat) : cellAt R'.w b o = cellAt R.w b o :=
  cellAt_of_heap (e.keep b h.1 h.2) o

theorem Rep.mono {R R' : Env} (e : Ext R R') {x : SV} {y : Value} (h : Rep R x y) : Rep R' x y := by
  induction h with
  | junk y => exact .junk y
  | v x => exact .v x
  | agg cs a hl h ih => exact .agg cs a hl ih
  | tup cs a hl h ih => exact .tup cs a hl ih
  | ptr id off a hid hb hρ hs =>
    obtain ⟨h1, h2⟩ := e.rho id hid hb
    exact .ptr id off a (Nat.lt_of_lt_of_le hid e.len) h2 (h1.trans hρ) hs
  | ro cs b o f hi hc hz h ih =>
    exact .ro cs b o f (e.imm hi) (fun j hj => (e.cell hi _).trans (hc j hj)) (Nat.lt_of_lt_of_le hz e.size) ih
  | list n full xs a c f hc hfull hn ha h ih =>
    refine .list n full xs a c f hc hfull hn ?_ ih
    rcases ha with ha | ⟨b, o, h1, h2, h3⟩
    · exact .inl ha
    · exact .inr ⟨b, o, h1, e.imm h2, fun j hj => (e.cell h2 _).trans (h3 j hj)⟩
  | slc id g off len n xs x c hr hle hc ha =>
    by_cases hn : ∃ g' n' xs', R'.H[id]? = some (.row g' n' xs')
    · obtain ⟨g', n', xs', h1⟩ := hn
      rcases e.row id g n xs hr g' n' xs' h1 with ⟨rfl, h2, rfl, h3⟩ | h2
      · refine .slc id g' off len n' xs' x c h1 (Nat.le_trans hle h3) hc (fun hp => ?_)
        obtain ⟨a, q1, q2, q3⟩ := ha hp
        refine ⟨a, h2.trans q1, q2, ?_⟩
        rw [e.bsz a.block (e.rowB id _ _ _ a hr q1)]
        exact q3
      · refine .slcOld id g off len _ (Nat.lt_of_lt_of_le (lt_of_some hr) e.len) (fun g1 n1 xs1 h3 => ?_)
        rw [h1] at h3
        cases h3
        exact h2
    · exact .slcOld id g off len _ (Nat.lt_of_lt_of_le (lt_of_some hr) e.len) (fun g1 n1 xs1 h3 => absurd ⟨g1, n1, xs1, h3⟩ hn)
  | slcOld id g off len y hid hr =>
    refine .slcOld id g off len y (Nat.lt_of_lt_of_le hid e.len) (fun g1 n1 xs1 h1 => ?_)
    by_cases hn : ∃ g' n' xs', R.H[id]? = some (.row g' n' xs')
    · obtain ⟨g', n', xs', h2⟩ := hn
      have := hr g' n' xs' h2
      rcases e.row id g' n' xs' h2 g1 n1 xs1 h1 with ⟨rfl, _⟩ | h3
      · exact this
      · omega
    · exact absurd h1 ((e.rho id hid (fun g n xs h => hn ⟨g, n, xs, h⟩)).2 _ _ _)
  | rptr id g i o n xs a hr hi hρ hs =>
    by_cases hn : ∃ g' n' xs', R'.H[id]? = some (.row g' n' xs')
    · obtain ⟨g', n', xs', h1⟩ := hn
      rcases e.row id g n xs hr g' n' xs' h1 with ⟨rfl, h2, rfl, h3⟩ | h2
      · exact .rptr id g' i o n' xs' a h1 (Nat.lt_of_lt_of_le hi h3) (h2.trans hρ) hs
      · refine .rptrOld id g i o _ (Nat.lt_of_lt_of_le (lt_of_some hr) e.len) (fun g1 n1 xs1 h3 => ?_)
        rw [h1] at h3
        cases h3
        exact h2
    · exact .rptrOld id g i o _ (Nat.lt_of_lt_of_le (lt_of_some hr) e.len) (fun g1 n1 xs1 h3 => absurd ⟨g1, n1, xs1, h3⟩ hn)
  | rptrOld id g i o y hid hr =>
    refine .rptrOld id g i o y (Nat.lt_of_lt_of_le hid e.len) (fun g1 n1 xs1 h1 => ?_)
    by_cases hn : ∃ g' n' xs', R.H[id]? = some (.row g' n' xs')
    · obtain ⟨g', n', xs', h2⟩ := hn
      have := hr g' n' xs' h2
      rcases e.row id g' n' xs' h2 g1 n1 xs1 h1 with ⟨rfl, _⟩ | h3
      · exact this
      · omega
    · exact absurd h1 ((e.rho id hid (fun g n xs h => hn ⟨g, n, xs, h⟩)).2 _ _ _)
  | fn fi cs a hl h ih => exact .fn fi cs a hl ih
  | mapv id b hid hb hρ =>
    obtain ⟨h1, h2⟩ := e.rho id hid hb
    exact .mapv id b (Nat.lt_of_lt_of_le hid e.len) h2 (h1.trans hρ)
  | bsl id off n len cap x hid hb hle ha =>
    obtain ⟨h1, h2⟩ := e.rho id hid hb
    refine .bsl id off n len cap x (Nat.lt_of_lt_of_le hid e.len) h2 hle fun hp => ?_
    obtain ⟨a, q1, q2, q3⟩ := ha hp
    exact ⟨a, h1.trans q1, q2, q3⟩

theorem Ext.trans {A B C : Env} (h : Ext A B) (k : Ext B C) : Ext A C where
  os := k.os.trans h.os
  tape := k.tape.trans h.tape
  output := k.output.trans h.output
  size := Nat.le_trans h.size k.size
  len := Nat.le_trans h.len k.len
  keep := fun b hb hn => by
    have hi := h.imm ⟨hb, hn⟩
    exact (k.keep b hi.1 hi.2).trans (h.keep b hb hn)
  bsz := fun b hb => (k.bsz b (Nat.lt_of_lt_of_le hb h.size)).trans (h.bsz b hb)
  live := fun id a hl hr => by
    rcases k.live id a hl hr with ⟨a', h1, h2, h3⟩ | h1
    · rcases h.live id a' h1 h2 with ⟨a'', q1, q2, q3⟩ | q1
      · exact .inl ⟨a'', q1, q2, q3.trans h3⟩
      · exact .inr (by omega)
    · exact .inr (Nat.le_trans h.size h1)
  rho := fun id hid hb => by
    obtain ⟨h1, h2⟩ := h.rho id hid hb
    obtain ⟨k1, k2⟩ := k.rho id (Nat.lt_of_lt_of_le hid h.len) h2
    exact ⟨k1.trans h1, k2⟩
  row := fun id g n xs h1 g' n' xs' h2 => by
    by_cases hn : ∃ g1 n1 xs1, B.H[id]? = some (.row g1 n1 xs1)
    · obtain ⟨g1, n1, xs1, h3⟩ := hn
      rcases h.row id g n xs h1 g1 n1 xs1 h3 with ⟨rfl, e1, rfl, l1⟩ | l1
      · rcases k.row id g1 n1 xs1 h3 g' n' xs' h2 with ⟨rfl, e2, rfl, l2⟩ | l2
        · exact .inl ⟨rfl, e2.trans e1, rfl, Nat.le_trans l1 l2⟩
        · exact .inr l2
      · rcases k.row id g1 n1 xs1 h3 g' n' xs' h2 with ⟨rfl, e2, rfl, l2⟩ | l2
        · exact .inr l1
        · exact .inr (by omega)
    · exact absurd h2 ((k.rho id (Nat.lt_of_lt_of_le (lt_of_some h1) h.len) (fun g n xs h => hn ⟨g, n, xs, h⟩)).2 _ _ _)
  rowB := h.rowB

def unfrozen (fz : Nat × Nat) (n : Nat) : Prop := ∀ j, j < n → ¬ (fz.1 ≤ j ∧ j < fz.2)

/-- The virtual heap stands for a part of the world. -/
structure HRep (R : Env) : Prop where
  addr : ∀ id a, R.live id → R.ρ id = some a → a.spot = none ∧ a.block < R.w.heap.size
  inj : ∀ id id' a a', R.live id → R.live id' → R.ρ id = some a → R.ρ id' = some a' → a.block = a'.block → id = id'
  box : ∀ id cs, R.H[id]? = some (.box cs) → ∃ a c e fz, R.ρ id = some a ∧ R.w.heap[a.block]? = some (.cells c e fz) ∧ unfrozen fz c.size ∧ a.off + cs.length ≤ c.size ∧
    ∀ (j : Nat) (hj : j < cs.length) (hk : a.off + j < c.size), Rep R cs[j] c[a.off + j]
  row : ∀ id g n xs, R.H[id]? = some (.row g n xs) → (∀ x, x ∈ xs → x.cells.length = n) ∧ ((R.ρ id = none ∧ xs = []) ∨
    ∃ a c e fz, R.ρ id = some a ∧ R.w.heap[a.block]? = some (.cells c e fz) ∧ unfrozen fz c.size ∧ a.off + xs.length * n ≤ c.size ∧
      ∀ (i : Nat) (hi : i < xs.length) (j : Nat) (hj : j < xs[i].cells.length) (hk : a.off + i * n + j < c.size), Rep R xs[i].cells[j] c[a.off + i * n + j])
  map : ∀ id es, R.H[id]? = some (.map es) → ∃ b rs clock, R.ρ id = some ⟨b, 0, none⟩ ∧ R.w.heap[b]? = some (.map rs clock) ∧ rs.size = es.length ∧
    (∀ (i : Nat) (hi : i < es.length) (hk : i < rs.size), rs[i].key = (es[i]).1 ∧ Rep R (es[i]).2 rs[i].val ∧ rs[i].born < clock) ∧
    (∀ (i j : Nat) (hi : i < rs.size) (hj : j < rs.size), i < j → rs[i].born < rs[j].born)

theorem HRep.rowB {R : Env} (h : HRep R) : ∀ id g n xs a, R.H[id]? = some (.row g n xs) → R.ρ id = some a → a.block < R.w.heap.size :=
  fun id g n xs a h1 h2 => (h.addr id a (Env.row_live h1) h2).2
theorem Ext.refl {R : Env} (h : HRep R) : Ext R R :=
  ⟨rfl, rfl, rfl, Nat.le_refl _, Nat.le_refl _, fun _ _ _ => rfl, fun _ _ => rfl, fun id a hl hr => .inl ⟨a, hl, hr, rfl⟩, fun id _ hb => ⟨rfl, hb⟩,
    fun id g n xs h1 g' n' xs' h2 => by rw [h1] at h2; cases h2; exact .inl ⟨rfl, rfl, rfl, Nat.le_refl _⟩, h.rowB⟩
end Go.Vm

/- The virtual machine, part 1: what is forgotten; cells that are read and written; how the virtual heap turns. Generic: no program in sight. -/
set_option linter.unusedVariables false
set_option linter.unusedSimpArgs false
namespace Go.Vm
open Go.RowKit

/-! ### Ids that a value names -/
inductive SV.Bel (k : Nat) : SV → Prop
  | junk : SV.Bel k .junk
  | v (x : Value) : SV.Bel k (.v x)
  | agg (cs : List SV) (h : ∀ c, c ∈ cs → SV.Bel k c) : SV.Bel k (.agg cs)
  | tup (cs : List SV) (h : ∀ c, c ∈ cs → SV.Bel k c) : SV.Bel k (.tup cs)
  | ptr (id off : Nat) (h : id < k) : SV.Bel k (.ptr id off)
  | ro (cs : List SV) (h : ∀ c, c ∈ cs → SV.Bel k c) : SV.Bel k (.ro cs)
  | list (n : Nat) (full : Bool) (xs : List SV) (h : ∀ c, c ∈ xs → SV.Bel k c) : SV.Bel k (.list n full xs)
  | slc (id g off len : Nat) (h : id < k) : SV.Bel k (.slc id g off len)
  | rptr (id g i o : Nat) (h : id < k) : SV.Bel k (.rptr id g i o)
  | fn (f : FuncId) (cs : List SV) (h : ∀ c, c ∈ cs → SV.Bel k c) : SV.Bel k (.fn f cs)
  | mapv (id : Nat) (h : id < k) : SV.Bel k (.mapv id)
  | bsl (id off n len cap : Nat) (h : id < k) : SV.Bel k (.bsl id off n len cap)
theorem SV.Bel.mono {k k' : Nat} (hk : k ≤ k') {x : SV} (h : x.Bel k) : x.Bel k' := by
  induction h with
  | junk => exact .junk
  | v x => exact .v x
  | agg cs h ih => exact .agg cs ih
  | tup cs h ih => exact .tup cs ih
  | ptr id off h => exact .ptr id off (Nat.lt_of_lt_of_le h hk)
  | ro cs h ih => exact .ro cs ih
  | list n full xs h ih => exact .list n full xs ih
  | slc id g off len h => exact .slc _ _ _ _ (Nat.lt_of_lt_of_le h hk)
  | rptr id g i o h => exact .rptr _ _ _ _ (Nat.lt_of_lt_of_le h hk)
  | fn f cs h ih => exact .fn f cs ih
  | mapv id h => exact .mapv id (Nat.lt_of_lt_of_le h hk)
  | bsl id off n len cap h => exact .bsl _ _ _ _ _ (Nat.lt_of_lt_of_le h hk)
def VB.Bel (k : Nat) : VB → Prop
  | .dead => True
  | .box cs => ∀ c, c ∈ cs → SV.Bel k c
  | .row _ _ xs => ∀ c, c ∈ xs → SV.Bel k c
  | .map es => ∀ e, e ∈ es → SV.Bel k e.2
theorem VB.Bel.mono {k k' : Nat} (hk : k ≤ k') {b : VB} (h : b.Bel k) : b.Bel k' := by
  cases b with
  | dead => trivial
  | box cs => exact fun c hc => (h c hc).mono hk
  | row g n xs => exact fun c hc => (h c hc).mono hk
  | map es => exact fun c hc => (h c hc).mono hk
@[simp] theorem bel_junk (k : Nat) : SV.Bel k .junk ↔ True := ⟨fun _ => trivial, fun _ => .junk⟩
@[simp] theorem bel_v (k : Nat) (x : Value) : SV.Bel k (.v x) ↔ True := ⟨fun _ => trivial, fun _ => .v x⟩
@[simp] theorem bel_agg (k : Nat) (cs : List SV) : SV.Bel k (.agg cs) ↔ ∀ c, c ∈ cs → SV.Bel k c := ⟨fun h => by cases h; assumption, fun h => .agg cs h⟩
@[simp] theorem bel_tup (k : Nat) (cs : List SV) : SV.Bel k (.tup cs) ↔ ∀ c, c ∈ cs → SV.Bel k c := ⟨fun h => by cases h; assumption, fun h => .tup cs h⟩
@[simp] theorem bel_ro (k : Nat) (cs : List SV) : SV.Bel k (.ro cs) ↔ ∀ c, c ∈ cs → SV.Bel k c := ⟨fun h => by cases h; assumption, fun h => .ro cs h⟩
@[simp] theorem bel_list (k n : Nat) (full : Bool) (cs : List SV) : SV.Bel k (.list n full cs) ↔ ∀ c, c ∈ cs → SV.Bel k c := ⟨fun h => by cases h; assumption, fun h => .list n full cs h⟩
@[simp] theorem bel_fn (k : Nat) (f : FuncId) (cs : List SV) : SV.Bel k (.fn f cs) ↔ ∀ c, c ∈ cs → SV.Bel k c := ⟨fun h => by cases h; assumption, fun h => .fn f cs h⟩
@[simp] theorem bel_ptr (k id off : Nat) : SV.Bel k (.ptr id off) ↔ id < k := ⟨fun h => by cases h; assumption, fun h => .ptr _ _ h⟩
@[simp] theorem bel_slc (k id g off len : Nat) : SV.Bel k (.slc id g off len) ↔ id < k := ⟨fun h => by cases h; assumption, fun h => .slc _ _ _ _ h⟩
@[simp] theorem bel_rptr (k id g i o : Nat) : SV.Bel k (.rptr id g i o) ↔ id < k := ⟨fun h => by cases h; assumption, fun h => .rptr _ _ _ _ h⟩
@[simp] theorem bel_mapv (k id : Nat) : SV.Bel k (.mapv id) ↔ id < k := ⟨fun h => by cases h; assumption, fun h => .mapv _ h⟩

@[simp] theorem bel_bsl (k id off n len cap : Nat) : SV.Bel k (.bsl id off n len cap) ↔ id < k := ⟨fun h => by cases h; assumption, fun h => .bsl _ _ _ _ _ h⟩

theorem cells_bel {k : Nat} {x : SV} (h : ∀ c, c ∈ x.cells → SV.Bel k c) : x.Bel k := by
  cases x <;> first | exact .agg _ h | exact h _ (by simp [SV.cells])
theorem bel_cells {k : Nat} {x : SV} (h : x.Bel k) : ∀ c, c ∈ x.cells → SV.Bel k c := by
  cases x <;> first | exact (bel_agg _ _).1 h | (intro c hc; simp [SV.cells] at hc; subst hc; exact h)

theorem Rep.bel {R : Env} {x : SV} {y : Value} (h : Rep R x y) : x.Bel R.H.length := by
  have key : ∀ (cs : List SV), (∀ (i : Nat) (hi : i < cs.length), SV.Bel R.H.length cs[i]) → ∀ c, c ∈ cs → SV.Bel R.H.length c := by
    intro cs h c hc
    obtain ⟨i, hi, rfl⟩ := List.getElem_of_mem hc
    exact h i hi
  induction h with
  | junk y => exact .junk
  | v x => exact .v x
  | agg cs a hl h ih => exact .agg cs (key cs fun i hi => ih i hi (by omega))
  | tup cs a hl h ih => exact .tup cs (key cs fun i hi => ih i hi (by omega))
  | ptr id off a hid hb hρ hs => exact .ptr _ _ hid
  | ro cs b o f hi hc hz h ih => exact .ro cs (key cs ih)
  | list n full xs a c f hc hfull hn ha h ih => exact .list _ _ xs (key xs fun i hi => cells_bel (key _ (ih i hi)))
  | slc id g off len n xs x c hr hle hc ha => exact .slc _ _ _ _ (lt_of_some hr)
  | slcOld id g off len y hid hr => exact .slc _ _ _ _ hid
  | rptr id g i o n xs a hr hi hρ hs => exact .rptr _ _ _ _ (lt_of_some hr)
  | rptrOld id g i o y hid hr => exact .rptr _ _ _ _ hid
  | fn fi cs a hl h ih => exact .fn _ cs (key cs fun i hi => ih i hi (by omega))
  | mapv id b hid hb hρ => exact .mapv _ hid
  | bsl id off n len cap x hid hb hle ha => exact .bsl _ _ _ _ _ hid

/-! ### Forgetting -/
def Env.sub (R : Env) (H' : List VB) : Prop := H'.length ≤ R.H.length ∧ ∀ id, id < H'.length → H'[id]? = R.H[id]? ∨ H'[id]? = some .dead
theorem Env.sub.live {R : Env} {H' : List VB} (s : R.sub H') {id : Nat} (h : Env.live { R with H := H' } id) : R.live id := by
  obtain ⟨b, h1, h2⟩ := h
  rcases s.2 id (lt_of_some h1) with h3 | h3
  · exact ⟨b, h3.symm.trans h1, h2⟩
  · have h1' : H'[id]? = some b := h1
    rw [h3] at h1'
    cases h1'
    exact absurd rfl h2
theorem Env.sub.imm {R : Env} {H' : List VB} (s : R.sub H') {b : Nat} (h : R.imm b) : Env.imm { R with H := H' } b :=
  ⟨h.1, fun id a hl hr => h.2 id a (s.live hl) hr⟩
theorem Env.sub.row {R : Env} {H' : List VB} (s : R.sub H') {id g n : Nat} {xs : List SV} (h : H'[id]? = some (.row g n xs)) : R.H[id]? = some (.row g n xs) := by
  rcases s.2 id (lt_of_some h) with h3 | h3
  · exact h3.symm.trans h
  · rw [h3] at h; cases h
theorem Rep.forget {R : Env} {H' : List VB} (s : R.sub H') {x : SV} {y : Value} (h : Rep R x y) : x.Bel H'.length → Rep { R with H := H' } x y := by
  induction h with
  | junk y => exact fun _ => .junk y
  | v x => exact fun _ => .v x
  | agg cs a hl h ih => exact fun hb => .agg cs a hl fun i hi hj => ih i hi hj ((bel_agg _ _).1 hb _ (List.getElem_mem hi))
  | tup cs a hl h ih => exact fun hb => .tup cs a hl fun i hi hj => ih i hi hj ((bel_tup _ _).1 hb _ (List.getElem_mem hi))
  | ptr id off a hid hb hρ hs => exact fun hk => .ptr id off a ((bel_ptr _ _ _).1 hk) (fun g n xs h => hb g n xs (s.row h)) hρ hs
  | ro cs b o f hi hc hz h ih => exact fun hb => .ro cs b o f (s.imm hi) hc hz fun j hj => ih j hj ((bel_ro _ _).1 hb _ (List.getElem_mem hj))
  | list n full xs a c f hc hfull hn ha h ih =>
    intro hb
    refine .list n full xs a c f hc hfull hn ?_ fun i hi j hj => ih i hi j hj (bel_cells ((bel_list _ _ _ _).1 hb _ (List.getElem_mem hi)) _ (List.getElem_mem hj))
    rcases ha with ha | ⟨b, o, h1, h2, h3⟩
    · exact .inl ha
    · exact .inr ⟨b, o, h1, s.imm h2, h3⟩
  | slc id g off len n xs x c hr hle hc ha =>
    intro hb
    have hid : id < H'.length := (bel_slc _ _ _ _ _).1 hb
    rcases s.2 id hid with h3 | h3
    · exact .slc id g off len n xs x c (h3.trans hr) hle hc ha
    · exact .slcOld id g off len _ hid (fun g' n xs h => by rw [show H'[id]? = _ from h] at h3; cases h3)
  | slcOld id g off len y hid hr => exact fun hb => .slcOld id g off len y ((bel_slc _ _ _ _ _).1 hb) fun g' n xs h => hr g' n xs (s.row h)
  | rptr id g i o n xs a hr hi hρ hs =>
    intro hb
    have hid : id < H'.length := (bel_rptr _ _ _ _ _).1 hb
    rcases s.2 id hid with h3 | h3
    · exact .rptr id g i o n xs a (h3.trans hr) hi hρ hs
    · exact .rptrOld id g i o _ hid (fun g' n xs h => by rw [show H'[id]? = _ from h] at h3; cases h3)
  | rptrOld id g i o y hid hr => exact fun hb => .rptrOld id g i o y ((bel_rptr _ _ _ _ _).1 hb) fun g' n xs h => hr g' n xs (s.row h)
  | fn fi cs a hl h ih => exact fun hb => .fn fi cs a hl fun i hi hj => ih i hi hj ((bel_fn _ _ _).1 hb _ (List.getElem_mem hi))
  | mapv id b hid hb hρ => exact fun hk => .mapv id b ((bel_mapv _ _).1 hk) (fun g n xs h => hb g n xs (s.row h)) hρ
  | bsl id off n len cap x hid hb hle ha => exact fun hk => .bsl id off n len cap x ((bel_bsl _ _ _ _ _ _).1 hk) (fun g n xs h => hb g n xs (s.row h)) hle ha

/-- From the beginning R0 to a state of which something is forgotten. -/
theorem Ext.forget {R0 R : Env} {H' : List VB} (e : Ext R0 R) (s : R.sub H') (hl : R0.H.length ≤ H'.length) : Ext R0 { R with H := H' } where
  os := e.os
  tape := e.tape
  output := e.output
  size := e.size
  len := hl
  keep := e.keep
  bsz := e.bsz
  live := fun id a h hr => e.live id a (s.live h) hr
  rho := fun id hid hb => ⟨(e.rho id hid hb).1, fun g n xs h => (e.rho id hid hb).2 g n xs (s.row h)⟩
  row := fun id g n xs h1 g' n' xs' h2 => e.row id g n xs h1 g' n' xs' (s.row h2)
  rowB := e.rowB

/-- Blocks that the beginning had name ids of the beginning. -/
theorem HRep.bel {R : Env} (h : HRep R) {id : Nat} {b : VB} (hb : R.H[id]? = some b) : b.Bel R.H.length := by
  cases b with
  | dead => trivial
  | box cs =>
    obtain ⟨a, c, e, fz, _, _, _, hle, hr⟩ := h.box id cs hb
    intro x hx
    obtain ⟨i, hi, rfl⟩ := List.getElem_of_mem hx
    exact (hr i hi (by omega)).bel
  | row g n xs =>
    obtain ⟨hn, h1 | ⟨a, c, e, fz, _, _, _, hle, hr⟩⟩ := h.row id g n xs hb
    · rw [h1.2]; intro x hx; cases hx
    · intro x hx
      obtain ⟨i, hi, rfl⟩ := List.getElem_of_mem hx
      refine cells_bel fun y hy => ?_
      obtain ⟨j, hj, rfl⟩ := List.getElem_of_mem hy
      refine (hr i hi j hj ?_).bel
      have h1 := hn _ (List.getElem_mem hi)
      have h2 : (i + 1) * n ≤ xs.length * n := Nat.mul_le_mul_right n hi
      have h3 : (i + 1) * n = i * n + n := Nat.succ_mul i n
      omega
  | map es =>
    obtain ⟨b, rs, clock, _, _, hs, hr, _⟩ := h.map id es hb
    intro x hx
    obtain ⟨i, hi, rfl⟩ := List.getElem_of_mem hx
    exact (hr i hi (by omega)).2.1.bel

theorem HRep.forget {R : Env} {H' : List VB} (h : HRep R) (s : R.sub H') (hb : ∀ (id : Nat) (b : VB), H'[id]? = some b → b.Bel H'.length) : HRep { R with H := H' } where
  addr := fun id a hl hr => h.addr id a (s.live hl) hr
  inj := fun id id' a a' hl hl' => h.inj id id' a a' (s.live hl) (s.live hl')
  box := fun id cs h1 => by
    have h2 : R.H[id]? = some (.box cs) := by
      rcases s.2 id (lt_of_some h1) with h3 | h3
      · exact h3.symm.trans h1
      · rw [show H'[id]? = _ from h1] at h3; cases h3
    obtain ⟨a, c, e, fz, q1, q2, q3, q4, q5⟩ := h.box id cs h2
    exact ⟨a, c, e, fz, q1, q2, q3, q4, fun j hj hk => (q5 j hj hk).forget s (hb id _ h1 _ (List.getElem_mem hj))⟩
  row := fun id g n xs h1 => by
    obtain ⟨hn, h2 | ⟨a, c, e, fz, q1, q2, q3, q4, q5⟩⟩ := h.row id g n xs (s.row h1)
    · exact ⟨hn, .inl h2⟩
    · exact ⟨hn, .inr ⟨a, c, e, fz, q1, q2, q3, q4, fun i hi j hj hk => (q5 i hi j hj hk).forget s (bel_cells (hb id _ h1 _ (List.getElem_mem hi)) _ (List.getElem_mem hj))⟩⟩
  map := fun id es h1 => by
    have h2 : R.H[id]? = some (.map es) := by
      rcases s.2 id (lt_of_some h1) with h3 | h3
      · exact h3.symm.trans h1
      · rw [show H'[id]? = _ from h1] at h3; cases h3
    obtain ⟨b, rs, clock, q1, q2, q3, q4, q5⟩ := h.map id es h2
    exact ⟨b, rs, clock, q1, q2, q3, fun i hi hk => ⟨(q4 i hi hk).1, (q4 i hi hk).2.1.forget s (hb id _ h1 _ (List.getElem_mem hi)), (q4 i hi hk).2.2⟩, q5⟩

/-! ### Cells -/
def CellsAt (R : Env) (b o : Nat) (cs : List SV) : Prop := ∀ (j : Nat) (hj : j < cs.length), ∃ y, cellAt R.w b (o + j) = some y ∧ Rep R cs[j] y
/-- The cells that stand from an address on. -/
def vcells (H : List VB) : SV → Option (List SV)
  | .ptr id off => match H[id]? with | some (.box cs) => some (cs.drop off) | _ => none
  | .ro cs => some cs
  | .rptr id g i o => match H[id]? with
    | some (.row g' _ xs) => if g = g' then (xs[i]?).map fun x => x.cells.drop o else none
    | _ => none
  | _ => none
theorem cellAt_of_block {w : World} {b : Nat} {c : Array Value} {e : TypeId} {fz : Nat × Nat} (h : w.heap[b]? = some (.cells c e fz)) (o : Nat) : cellAt w b o = c[o]? := by
  simp [cellAt, World.cell?, h]
theorem CellsAt.take {R : Env} {b o : Nat} {cs : List SV} (h : CellsAt R b o cs) (k : Nat) : CellsAt R b o (cs.take k) := fun j hj => by
  have hj' : j < cs.length := by simp at hj; omega
  obtain ⟨y, h1, h2⟩ := h j hj'
  exact ⟨y, h1, by simpa using h2⟩
theorem vcells_sound {R : Env} (h : HRep R) {x : SV} {y : Value} {cs : List SV} (hx : vcells R.H x = some cs) (hr : Rep R x y) :
    ∃ b o, y = .pointer (some ⟨b, o, none⟩) ∧ CellsAt R b o cs := by
  cases hr with
  | ptr id off a hid hb hρ hs =>
    simp only [vcells] at hx
    split at hx
    · rename_i cs' hc
      cases hx
      obtain ⟨a', c, e, fz, q1, q2, q3, q4, q5⟩ := h.box id cs' hc
      rw [hρ] at q1
      cases q1
      refine ⟨_, _, rfl, fun j hj => ?_⟩
      simp only [List.length_drop] at hj
      refine ⟨c[a.off + (off + j)]'(by omega), ?_, ?_⟩
      · rw [cellAt_of_block q2, Nat.add_assoc]; exact Array.getElem?_eq_getElem _
      · rw [List.getElem_drop]; exact q5 (off + j) (by omega) (by omega)
    · cases hx
  | ro cs' b o f hi hc hz h' =>
    cases hx
    exact ⟨b, o, rfl, fun j hj => ⟨f j, hc j hj, h' j hj⟩⟩
  | rptr id g i o n xs a hr hi hρ hs =>
    simp only [vcells, hr, if_true, List.getElem?_eq_getElem hi, Option.map_some] at hx
    cases hx
    obtain ⟨hn, h1 | ⟨a', c, e, fz, q1, q2, q3, q4, q5⟩⟩ := h.row id g n xs hr
    · rw [h1.1] at hρ; cases hρ
    · rw [hρ] at q1
      cases q1
      have e1 := hn _ (List.getElem_mem hi)
      have h2 : (i + 1) * n ≤ xs.length * n := Nat.mul_le_mul_right n hi
      have h3 : (i + 1) * n = i * n + n := Nat.succ_mul i n
      refine ⟨_, _, rfl, fun j hj => ?_⟩
      simp only [List.length_drop] at hj
      refine ⟨c[a.off + i * n + (o + j)]'(by omega), ?_, ?_⟩
      · rw [cellAt_of_block q2, Nat.add_assoc]; exact Array.getElem?_eq_getElem _
      · rw [List.getElem_drop]; exact q5 i hi (o + j) (by omega) (by omega)
  | rptrOld id g i o y hid hr =>
    simp only [vcells] at hx
    split at hx
    · rename_i g' n xs hc
      have := hr g' n xs hc
      rw [if_neg (by omega)] at hx
      cases hx
    · cases hx
  | _ => cases hx

/-! ### Types -/
def isAggT (P : Program) (t : TypeId) : Bool := match P.underlying t with | some (.struct _) | some (.array _ _) => true | _ => false
def vload (P : Program) (H : List VB) (t : TypeId) (x : SV) : Option SV :=
  match vcells H x with
  | some cs => if (P.underlying t).isSome then (if isAggT P t then (if P.cellsOf t ≤ cs.length then some (.agg (cs.take (P.cellsOf t))) else none) else cs[0]?) else none
  | none => none
theorem add_plain (b o j : Nat) : (⟨b, o, none⟩ : Addr).add j = ⟨b, o + j, none⟩ := by unfold Addr.add; split <;> simp_all
theorem info_of_underlying {P : Program} {t : TypeId} {d : TypeDesc} (h : P.underlying t = some d) : ∃ i, P.info? t = some i := by
  unfold Program.underlying at h
  split at h
  · rename_i i _ e; exact ⟨_, e⟩
  · rename_i i e; exact ⟨_, e⟩
  · cases h
theorem run_underlying {P : Program} {t : TypeId} {d : TypeDesc} (h : P.underlying t = some d) (w : World) : (underlying t).run P w = .ok d w := by
  simp [underlying, h]
theorem run_sizeOf {P : Program} {t : TypeId} {d : TypeDesc} (h : P.underlying t = some d) (w : World) : (sizeOf t).run P w = .ok (P.cellsOf t) w := by
  obtain ⟨i, hi⟩ := info_of_underlying h
  simp [sizeOf, typeInfo, hi, Program.cellsOf]
theorem run_isAgg {P : Program} {t : TypeId} {d : TypeDesc} (h : P.underlying t = some d) (w : World) : (isAgg t).run P w = .ok (isAggT P t) w := by
  simp only [isAgg, Sem.run_bind, run_underlying h, Result.andThen_ok, isAggT, h]
  cases d <;> rfl
theorem loadVar_sound {P : Program} {R : Env} {t : TypeId} {b o : Nat} {cs : List SV} (h : CellsAt R b o cs) {d : TypeDesc} (hd : P.underlying t = some d) {r : SV}
    (hr : (if isAggT P t then (if P.cellsOf t ≤ cs.length then some (.agg (cs.take (P.cellsOf t))) else none) else cs[0]?) = some r) :
    ∃ v, (loadVar t ⟨b, o, none⟩).run P R.w = .ok v R.w ∧ Rep R r v := by
  simp only [loadVar, Sem.run_bind, run_isAgg hd, Result.andThen_ok]
  cases ha : isAggT P t
  · simp only [ha, if_false, Bool.false_eq_true] at hr ⊢
    have h0 : 0 < cs.length := lt_of_some hr
    obtain ⟨y, h1, h2⟩ := h 0 h0
    refine ⟨y, ?_, ?_⟩
    · have h1' : R.w.cell? ⟨b, o, none⟩ = some y := by simpa [cellAt] using h1
      simp [h1']
    · rw [List.getElem?_eq_getElem h0] at hr; cases hr; exact h2
  · simp only [ha, if_true] at hr ⊢
    split at hr
    · rename_i hle
      cases hr
      have hf : ∀ j, ∃ y, j < P.cellsOf t → cellAt R.w b (o + j) = some y ∧ ∀ (hj : j < cs.length), Rep R cs[j] y := fun j => by
        by_cases hj : j < P.cellsOf t
        · obtain ⟨y, h1, h2⟩ := h j (by omega)
          exact ⟨y, fun _ => ⟨h1, fun _ => h2⟩⟩
        · exact ⟨undef, fun h => absurd h hj⟩
      obtain ⟨f, hf⟩ := Classical.axiomOfChoice hf
      have hrun := run_loadCells (P := P) R.w ⟨b, o, none⟩ (P.cellsOf t) f (fun j hj => by rw [add_plain]; exact (hf j hj).1)
      simp only [Sem.run_bind, run_sizeOf hd, Result.andThen_ok, hrun]
      refine ⟨_, rfl, .agg _ _ (by simp; omega) fun i hi hj => ?_⟩
      simp only [List.getElem_take, Array.getElem_map, Array.getElem_range]
      simp at hi hj
      have := (hf i (by omega)).2 (by omega)
      simpa using this
    · cases hr
theorem vload_sound {P : Program} {R : Env} (h : HRep R) {t : TypeId} {x r : SV} {y : Value} (hx : vload P R.H t x = some r) (hr : Rep R x y) :
    ∃ b o v, y = .pointer (some ⟨b, o, none⟩) ∧ (loadVar t ⟨b, o, none⟩).run P R.w = .ok v R.w ∧ Rep R r v := by
  unfold vload at hx
  split at hx
  · rename_i cs hc
    obtain ⟨b, o, rfl, hcs⟩ := vcells_sound h hc hr
    split at hx
    · rename_i hs
      obtain ⟨d, hd⟩ := Option.isSome_iff_exists.1 hs
      obtain ⟨v, h1, h2⟩ := loadVar_sound hcs hd hx
      exact ⟨b, o, v, rfl, h1, h2⟩
    · cases hx
  · cases hx
end Go.Vm

/- The virtual machine, part 2: how the virtual heap and the world turn together: new blocks, stores, rows that grow. Generic: no program in sight. -/
set_option linter.unusedVariables false
set_option linter.unusedSimpArgs false
namespace Go.Vm
open Go.RowKit

def upd (ρ : Nat → Option Addr) (k : Nat) (x : Option Addr) : Nat → Option Addr := fun i => if i = k then x else ρ i
theorem upd_same (ρ : Nat → Option Addr) (k : Nat) (x : Option Addr) : upd ρ k x k = x := by simp [upd]
theorem upd_other (ρ : Nat → Option Addr) (k : Nat) (x : Option Addr) {i : Nat} (h : i ≠ k) : upd ρ k x i = ρ i := by simp [upd, h]

/-- The world but for its heap. -/
structure Like (w w' : World) : Prop where
  os : w'.os = w.os
  tape : w'.tape = w.tape
  output : w'.output = w.output
theorem Like.refl (w : World) : Like w w := ⟨rfl, rfl, rfl⟩
theorem Like.trans {a b c : World} (h : Like a b) (k : Like b c) : Like a c := ⟨k.os.trans h.os, k.tape.trans h.tape, k.output.trans h.output⟩

/-- The obligations of one id. -/
def IdOk (R : Env) (k : Nat) : Prop :=
  (∀ cs, R.H[k]? = some (.box cs) → ∃ a c e fz, R.ρ k = some a ∧ R.w.heap[a.block]? = some (.cells c e fz) ∧ unfrozen fz c.size ∧ a.off + cs.length ≤ c.size ∧
    ∀ (j : Nat) (hj : j < cs.length) (hk : a.off + j < c.size), Rep R cs[j] c[a.off + j]) ∧
  (∀ g n xs, R.H[k]? = some (.row g n xs) → (∀ x, x ∈ xs → x.cells.length = n) ∧ ((R.ρ k = none ∧ xs = []) ∨
    ∃ a c e fz, R.ρ k = some a ∧ R.w.heap[a.block]? = some (.cells c e fz) ∧ unfrozen fz c.size ∧ a.off + xs.length * n ≤ c.size ∧
      ∀ (i : Nat) (hi : i < xs.length) (j : Nat) (hj : j < xs[i].cells.length) (hk : a.off + i * n + j < c.size), Rep R xs[i].cells[j] c[a.off + i * n + j])) ∧
  (∀ es, R.H[k]? = some (.map es) → ∃ b rs clock, R.ρ k = some ⟨b, 0, none⟩ ∧ R.w.heap[b]? = some (.map rs clock) ∧ rs.size = es.length ∧
    (∀ (i : Nat) (hi : i < es.length) (hk : i < rs.size), rs[i].key = (es[i]).1 ∧ Rep R (es[i]).2 rs[i].val ∧ rs[i].born < clock) ∧
    (∀ (i j : Nat) (hi : i < rs.size) (hj : j < rs.size), i < j → rs[i].born < rs[j].born))
theorem HRep.idOk {R : Env} (h : HRep R) (k : Nat) : IdOk R k := ⟨h.box k, h.row k, h.map k⟩
theorem IdOk.mono {R R' : Env} (e : Ext R R') {k : Nat} (h : IdOk R k) (hH : R'.H[k]? = R.H[k]?) (hρ : R'.ρ k = R.ρ k)
    (hw : ∀ a, R.ρ k = some a → R'.w.heap[a.block]? = R.w.heap[a.block]?) : IdOk R' k := by
  refine ⟨fun cs h1 => ?_, fun g n xs h1 => ?_, fun es h1 => ?_⟩
  · obtain ⟨a, c, e', fz, q1, q2, q3, q4, q5⟩ := h.1 cs (hH ▸ h1)
    exact ⟨a, c, e', fz, hρ.trans q1, (hw a q1).trans q2, q3, q4, fun j hj hk => (q5 j hj hk).mono e⟩
  · obtain ⟨hn, h2 | ⟨a, c, e', fz, q1, q2, q3, q4, q5⟩⟩ := h.2.1 g n xs (hH ▸ h1)
    · exact ⟨hn, .inl ⟨hρ.trans h2.1, h2.2⟩⟩
    · exact ⟨hn, .inr ⟨a, c, e', fz, hρ.trans q1, (hw a q1).trans q2, q3, q4, fun i hi j hj hk => (q5 i hi j hj hk).mono e⟩⟩
  · obtain ⟨b, rs, clock, q1, q2, q3, q4, q5⟩ := h.2.2 es (hH ▸ h1)
    exact ⟨b, rs, clock, hρ.trans q1, (hw _ q1).trans q2, q3, fun i hi hk => ⟨(q4 i hi hk).1, (q4 i hi hk).2.1.mono e, (q4 i hi hk).2.2⟩, q5⟩

/-- One id has turned, all else is as it was. -/
theorem HRep.step {R R' : Env} (h : HRep R) (e : Ext R R') (k : Nat)
    (ho : ∀ id, id ≠ k → R'.H[id]? = R.H[id]? ∧ R'.ρ id = R.ρ id ∧ (R.live id → ∀ a, R.ρ id = some a → R'.w.heap[a.block]? = R.w.heap[a.block]?))
    (hk : ∀ a, R'.live k → R'.ρ k = some a → a.spot = none ∧ a.block < R'.w.heap.size ∧ ∀ id a', id ≠ k → R.live id → R.ρ id = some a' → a'.block ≠ a.block)
    (hok : IdOk R' k) : HRep R' := by
  have hl : ∀ id, id ≠ k → (R'.live id ↔ R.live id) := fun id hne => by simp only [Env.live, (ho id hne).1]
  have hid : ∀ id, id ≠ k → R.live id → IdOk R' id := fun id hne hli => (h.idOk id).mono e (ho id hne).1 (ho id hne).2.1 ((ho id hne).2.2 hli)
  refine ⟨fun id a h1 h2 => ?_, fun id id' a a' h1 h2 h3 h4 h5 => ?_, fun id cs h1 => ?_, fun id g n xs h1 => ?_, fun id es h1 => ?_⟩
  · by_cases hne : id = k
    · subst hne; exact ⟨(hk a h1 h2).1, (hk a h1 h2).2.1⟩
    · have := h.addr id a ((hl id hne).1 h1) ((ho id hne).2.1 ▸ h2)
      exact ⟨this.1, Nat.lt_of_lt_of_le this.2 e.size⟩
  · by_cases hne : id = k
    · by_cases hne' : id' = k
      · rw [hne, hne']
      · subst hne
        exact absurd h5.symm ((hk a h1 h3).2.2 id' a' hne' ((hl id' hne').1 h2) ((ho id' hne').2.1 ▸ h4))
    · by_cases hne' : id' = k
      · subst hne'
        exact absurd h5 ((hk a' h2 h4).2.2 id a hne ((hl id hne).1 h1) ((ho id hne).2.1 ▸ h3))
      · exact h.inj id id' a a' ((hl id hne).1 h1) ((hl id' hne').1 h2) ((ho id hne).2.1 ▸ h3) ((ho id' hne').2.1 ▸ h4) h5
  · by_cases hne : id = k
    · subst hne; exact hok.1 cs h1
    · exact (hid id hne ⟨_, (ho id hne).1 ▸ h1, by simp⟩).1 cs h1
  · by_cases hne : id = k
    · subst hne; exact hok.2.1 g n xs h1
    · exact (hid id hne ⟨_, (ho id hne).1 ▸ h1, by simp⟩).2.1 g n xs h1
  · by_cases hne : id = k
    · subst hne; exact hok.2.2 es h1
    · exact (hid id hne ⟨_, (ho id hne).1 ▸ h1, by simp⟩).2.2 es h1

/-! ### The world alone turns: blocks are laid that no id has -/
theorem Ext.world {R : Env} (h : HRep R) {w' : World} (hl : Like R.w w') (hs : R.w.heap.size ≤ w'.heap.size) (hk : ∀ b, b < R.w.heap.size → w'.heap[b]? = R.w.heap[b]?) :
    Ext R { R with w := w' } where
  os := hl.os
  tape := hl.tape
  output := hl.output
  size := hs
  len := Nat.le_refl _
  keep := fun b hb _ => hk b hb
  bsz := fun b hb => by simp [blkSize, hk b hb]
  live := fun id a h1 h2 => .inl ⟨a, h1, h2, rfl⟩
  rho := fun id _ hb => ⟨rfl, hb⟩
  row := fun id g n xs h1 g' n' xs' h2 => by rw [show R.H[id]? = _ from h2] at h1; cases h1; exact .inl ⟨rfl, rfl, rfl, Nat.le_refl _⟩
  rowB := h.rowB
theorem HRep.world {R : Env} (h : HRep R) {w' : World} (hl : Like R.w w') (hs : R.w.heap.size ≤ w'.heap.size) (hk : ∀ b, b < R.w.heap.size → w'.heap[b]? = R.w.heap[b]?) :
    HRep { R with w := w' } := by
  have e := Ext.world h hl hs hk
  have hb : ∀ id a, R.live id → R.ρ id = some a → w'.heap[a.block]? = R.w.heap[a.block]? := fun id a h1 h2 => hk _ (h.addr id a h1 h2).2
  refine ⟨fun id a h1 h2 => ⟨(h.addr id a h1 h2).1, Nat.lt_of_lt_of_le (h.addr id a h1 h2).2 hs⟩, h.inj, fun id cs h1 => ?_, fun id g n xs h1 => ?_, fun id es h1 => ?_⟩
  · exact ((h.idOk id).mono e rfl rfl (fun a => hb id a ⟨_, h1, by simp⟩)).1 cs h1
  · exact ((h.idOk id).mono e rfl rfl (fun a => hb id a ⟨_, h1, by simp⟩)).2.1 g n xs h1
  · exact ((h.idOk id).mono e rfl rfl (fun a => hb id a ⟨_, h1, by simp⟩)).2.2 es h1

/-! ### A new id -/
theorem new_other (H : List VB) (b : VB) {id : Nat} (h : id ≠ H.length) : (H ++ [b])[id]? = H[id]? := by
  rcases Nat.lt_or_ge id H.length with h' | h'
  · exact List.getElem?_append_left h'
  · rw [List.getElem?_eq_none (by simp; omega), List.getElem?_eq_none h']
theorem new_same (H : List VB) (b : VB) : (H ++ [b])[H.length]? = some b := by simp
theorem Ext.new {R : Env} (h : HRep R) (b : VB) (x : Option Addr) {w' : World} (hl : Like R.w w') (hs : R.w.heap.size ≤ w'.heap.size)
    (hk : ∀ b, b < R.w.heap.size → w'.heap[b]? = R.w.heap[b]?) (hx : ∀ a, x = some a → R.w.heap.size ≤ a.block) : Ext R ⟨R.H ++ [b], upd R.ρ R.H.length x, w'⟩ where
  os := hl.os
  tape := hl.tape
  output := hl.output
  size := hs
  len := by simp
  keep := fun b hb _ => hk b hb
  bsz := fun b hb => by simp [blkSize, hk b hb]
  live := fun id a h1 h2 => by
    by_cases hne : id = R.H.length
    · subst hne; replace h2 : upd R.ρ R.H.length x R.H.length = _ := h2; rw [upd_same] at h2; exact .inr (hx a h2)
    · simp only [Env.live, new_other _ _ hne] at h1
      replace h2 : upd R.ρ R.H.length x id = _ := h2; rw [upd_other _ _ _ hne] at h2
      exact .inl ⟨a, h1, h2, rfl⟩
  rho := fun id hid hb => by
    have hne : id ≠ R.H.length := by omega
    exact ⟨upd_other _ _ _ hne, fun g n xs => by rw [new_other _ _ hne]; exact hb g n xs⟩
  row := fun id g n xs h1 g' n' xs' h2 => by
    have hne : id ≠ R.H.length := by have := lt_of_some h1; omega
    rw [new_other _ _ hne, h1] at h2
    cases h2
    exact .inl ⟨rfl, upd_other _ _ _ hne, rfl, Nat.le_refl _⟩
  rowB := h.rowB
theorem HRep.new {R : Env} (h : HRep R) (b : VB) (x : Option Addr) {w' : World} (hl : Like R.w w') (hs : R.w.heap.size ≤ w'.heap.size)
    (hk : ∀ b, b < R.w.heap.size → w'.heap[b]? = R.w.heap[b]?) (hx : ∀ a, x = some a → R.w.heap.size ≤ a.block ∧ a.spot = none ∧ a.block < w'.heap.size)
    (hok : Ext R ⟨R.H ++ [b], upd R.ρ R.H.length x, w'⟩ → IdOk ⟨R.H ++ [b], upd R.ρ R.H.length x, w'⟩ R.H.length) : HRep ⟨R.H ++ [b], upd R.ρ R.H.length x, w'⟩ := by
  have e := Ext.new h b x hl hs hk (fun a ha => (hx a ha).1)
  refine h.step e R.H.length (fun id hne => ⟨new_other _ _ hne, upd_other _ _ _ hne, fun hli a ha => hk _ (h.addr id a hli ha).2⟩) (fun a _ h2 => ?_) (hok e)
  replace h2 : upd R.ρ R.H.length x R.H.length = _ := h2; rw [upd_same] at h2
  refine ⟨(hx a h2).2.1, (hx a h2).2.2, fun id a' hne hli hr => ?_⟩
  have := (h.addr id a' hli hr).2
  have := (hx a h2).1
  omega

/-! ### A known id's block is written -/
theorem set_other (H : List VB) (k : Nat) (b : VB) {id : Nat} (h : id ≠ k) : (H.set k b)[id]? = H[id]? := by
  rw [List.getElem?_set_ne (Ne.symm h)]
theorem set_same (H : List VB) (k : Nat) (b : VB) (h : k < H.length) : (H.set k b)[k]? = some b := by simp [h]
/-- What a known id may become, its block written in place. -/
def Turns : VB → VB → Prop
  | .row g n xs, .row g' n' xs' => (g' = g ∧ n' = n ∧ xs.length ≤ xs'.length) ∨ g < g'
  | .row _ _ _, _ => False
  | .dead, _ => False
  | _, .row _ _ _ => False
  | _, _ => True
theorem Ext.set {R : Env} (h : HRep R) {k : Nat} {b b' : VB} (hb : R.H[k]? = some b) (ht : Turns b b') {w' : World} (hl : Like R.w w') (hs : w'.heap.size = R.w.heap.size)
    (hk : ∀ j, (∀ a, R.ρ k = some a → a.block ≠ j) → w'.heap[j]? = R.w.heap[j]?) (hz : ∀ j, blkSize w' j = blkSize R.w j) : Ext R ⟨R.H.set k b', R.ρ, w'⟩ where
  os := hl.os
  tape := hl.tape
  output := hl.output
  size := by rw [hs]; exact Nat.le_refl _
  len := by simp
  keep := fun j hj hn => hk j (fun a ha => hn k a ⟨b, hb, by rintro rfl; exact ht⟩ ha)
  bsz := fun j _ => hz j
  live := fun id a h1 h2 => by
    by_cases hne : id = k
    · subst hne; exact .inl ⟨a, ⟨b, hb, by rintro rfl; exact ht⟩, h2, rfl⟩
    · simp only [Env.live, set_other _ _ _ hne] at h1
      exact .inl ⟨a, h1, h2, rfl⟩
  rho := fun id hid hnr => by
    refine ⟨rfl, fun g n xs => ?_⟩
    by_cases hne : id = k
    · subst hne
      rw [set_same _ _ _ hid]
      rintro ⟨rfl⟩
      cases b <;> first | exact ht | exact hnr _ _ _ hb
    · rw [set_other _ _ _ hne]; exact hnr g n xs
  row := fun id g n xs h1 g' n' xs' h2 => by
    by_cases hne : id = k
    · subst hne
      rw [set_same _ _ _ (lt_of_some hb)] at h2
      cases h2
      rw [hb] at h1
      cases h1
      rcases ht with ⟨q1, q2, q3⟩ | q
      · exact .inl ⟨q1, rfl, q2, q3⟩
      · exact .inr q
    · rw [set_other _ _ _ hne, h1] at h2
      cases h2
      exact .inl ⟨rfl, rfl, rfl, Nat.le_refl _⟩
  rowB := h.rowB
theorem HRep.set {R : Env} (h : HRep R) {k : Nat} {b b' : VB} (hb : R.H[k]? = some b) (ht : Turns b b') {w' : World} (hl : Like R.w w') (hs : w'.heap.size = R.w.heap.size)
    (hk : ∀ j, (∀ a, R.ρ k = some a → a.block ≠ j) → w'.heap[j]? = R.w.heap[j]?) (hz : ∀ j, blkSize w' j = blkSize R.w j)
    (hok : Ext R ⟨R.H.set k b', R.ρ, w'⟩ → IdOk ⟨R.H.set k b', R.ρ, w'⟩ k) : HRep ⟨R.H.set k b', R.ρ, w'⟩ := by
  have e := Ext.set h hb ht hl hs hk hz
  have hlive : R.live k := ⟨b, hb, by rintro rfl; exact ht⟩
  refine h.step e k (fun id hne => ⟨set_other _ _ _ hne, rfl, fun hli a ha => hk _ (fun a' ha' hb' => hne (h.inj id k a a' hli hlive ha ha' hb'.symm))⟩) (fun a _ h2 => ?_) (hok e)
  have := h.addr k a hlive h2
  refine ⟨this.1, by rw [show (⟨R.H.set k b', R.ρ, w'⟩ : Env).w.heap.size = _ from hs]; exact this.2, fun id a' hne hli hr hb' => hne (h.inj id k a' a hli hlive hr h2 hb')⟩

/-! ### A row moves to a new block -/
theorem Ext.move {R : Env} (h : HRep R) {k g n g' n' : Nat} {xs xs' : List SV} (hb : R.H[k]? = some (.row g n xs)) (hg : g < g') {w' : World} (hl : Like R.w w')
    (hs : R.w.heap.size ≤ w'.heap.size) (hk : ∀ j, j < R.w.heap.size → w'.heap[j]? = R.w.heap[j]?) {a : Addr} (ha : R.w.heap.size ≤ a.block) :
    Ext R ⟨R.H.set k (.row g' n' xs'), upd R.ρ k (some a), w'⟩ where
  os := hl.os
  tape := hl.tape
  output := hl.output
  size := hs
  len := by simp
  keep := fun j hj _ => hk j hj
  bsz := fun j hj => by simp [blkSize, hk j hj]
  live := fun id x h1 h2 => by
    by_cases hne : id = k
    · subst hne
      replace h2 : upd R.ρ id (some a) id = _ := h2; rw [upd_same] at h2
      cases h2
      exact .inr ha
    · simp only [Env.live, set_other _ _ _ hne] at h1
      replace h2 : upd R.ρ k (some a) id = _ := h2; rw [upd_other _ _ _ hne] at h2
      exact .inl ⟨x, h1, h2, rfl⟩
  rho := fun id hid hnr => by
    have hne : id ≠ k := by rintro rfl; exact hnr _ _ _ hb
    exact ⟨upd_other _ _ _ hne, fun g n xs => by rw [set_other _ _ _ hne]; exact hnr g n xs⟩
  row := fun id g1 n1 xs1 h1 g2 n2 xs2 h2 => by
    by_cases hne : id = k
    · subst hne
      rw [set_same _ _ _ (lt_of_some hb)] at h2
      cases h2
      rw [hb] at h1
      cases h1
      exact .inr hg
    · rw [set_other _ _ _ hne, h1] at h2
      cases h2
      exact .inl ⟨rfl, upd_other _ _ _ hne, rfl, Nat.le_refl _⟩
  rowB := h.rowB
theorem HRep.move {R : Env} (h : HRep R) {k g n g' n' : Nat} {xs xs' : List SV} (hb : R.H[k]? = some (.row g n xs)) (hg : g < g') {w' : World} (hl : Like R.w w')
    (hs : R.w.heap.size ≤ w'.heap.size) (hk : ∀ j, j < R.w.heap.size → w'.heap[j]? = R.w.heap[j]?) {a : Addr} (ha : R.w.heap.size ≤ a.block) (hsp : a.spot = none) (hlt : a.block < w'.heap.size)
    (hok : Ext R ⟨R.H.set k (.row g' n' xs'), upd R.ρ k (some a), w'⟩ → IdOk ⟨R.H.set k (.row g' n' xs'), upd R.ρ k (some a), w'⟩ k) :
    HRep ⟨R.H.set k (.row g' n' xs'), upd R.ρ k (some a), w'⟩ := by
  have e := Ext.move (n' := n') (xs' := xs') h hb hg hl hs hk ha
  refine h.step e k (fun id hne => ⟨set_other _ _ _ hne, upd_other _ _ _ hne, fun hli x hx => hk _ (h.addr id x hli hx).2⟩) (fun x _ h2 => ?_) (hok e)
  replace h2 : upd R.ρ k (some a) k = _ := h2; rw [upd_same] at h2
  cases h2
  refine ⟨hsp, hlt, fun id a' hne hli hr => ?_⟩
  have := (h.addr id a' hli hr).2
  omega
/-! ### A nil row becomes something else, in a new block -/
theorem Ext.fill {R : Env} (h : HRep R) {k g n : Nat} {b' : VB} (hb : R.H[k]? = some (.row g n [])) (hnr : ∀ g n xs, b' ≠ .row g n xs) {w' : World} (hl : Like R.w w')
    (hs : R.w.heap.size ≤ w'.heap.size) (hk : ∀ j, j < R.w.heap.size → w'.heap[j]? = R.w.heap[j]?) {a : Addr} (ha : R.w.heap.size ≤ a.block) :
    Ext R ⟨R.H.set k b', upd R.ρ k (some a), w'⟩ where
  os := hl.os
  tape := hl.tape
  output := hl.output
  size := hs
  len := by simp
  keep := fun j hj _ => hk j hj
  bsz := fun j hj => by simp [blkSize, hk j hj]
  live := fun id x h1 h2 => by
    by_cases hne : id = k
    · subst hne
      replace h2 : upd R.ρ id (some a) id = _ := h2; rw [upd_same] at h2
      cases h2
      exact .inr ha
    · simp only [Env.live, set_other _ _ _ hne] at h1
      replace h2 : upd R.ρ k (some a) id = _ := h2; rw [upd_other _ _ _ hne] at h2
      exact .inl ⟨x, h1, h2, rfl⟩
  rho := fun id hid hnr' => by
    have hne : id ≠ k := by rintro rfl; exact hnr' _ _ _ hb
    exact ⟨upd_other _ _ _ hne, fun g n xs => by rw [set_other _ _ _ hne]; exact hnr' g n xs⟩
  row := fun id g1 n1 xs1 h1 g2 n2 xs2 h2 => by
    by_cases hne : id = k
    · subst hne
      rw [set_same _ _ _ (lt_of_some hb)] at h2
      exact absurd (Option.some.inj h2) (hnr _ _ _)
    · rw [set_other _ _ _ hne, h1] at h2
      cases h2
      exact .inl ⟨rfl, upd_other _ _ _ hne, rfl, Nat.le_refl _⟩
  rowB := h.rowB
theorem HRep.fill {R : Env} (h : HRep R) {k g n : Nat} {b' : VB} (hb : R.H[k]? = some (.row g n [])) (hnr : ∀ g n xs, b' ≠ .row g n xs) {w' : World} (hl : Like R.w w')
    (hs : R.w.heap.size ≤ w'.heap.size) (hk : ∀ j, j < R.w.heap.size → w'.heap[j]? = R.w.heap[j]?) {a : Addr} (ha : R.w.heap.size ≤ a.block) (hsp : a.spot = none) (hlt : a.block < w'.heap.size)
    (hok : Ext R ⟨R.H.set k b', upd R.ρ k (some a), w'⟩ → IdOk ⟨R.H.set k b', upd R.ρ k (some a), w'⟩ k) :
    HRep ⟨R.H.set k b', upd R.ρ k (some a), w'⟩ := by
  have e := Ext.fill h hb hnr hl hs hk ha
  refine h.step e k (fun id hne => ⟨set_other _ _ _ hne, upd_other _ _ _ hne, fun hli x hx => hk _ (h.addr id x hli hx).2⟩) (fun x _ h2 => ?_) (hok e)
  replace h2 : upd R.ρ k (some a) k = _ := h2; rw [upd_same] at h2
  cases h2
  refine ⟨hsp, hlt, fun id a' hne hli hr => ?_⟩
  have := (h.addr id a' hli hr).2
  omega
end Go.Vm

/- The virtual machine, part 2b: a row that nobody will turn is a list. Generic: no program in sight. -/
set_option linter.unusedVariables false
set_option linter.unusedSimpArgs false
namespace Go.Vm
open Go.RowKit

theorem rep_v {R : Env} {x y : Value} : Rep R (.v x) y ↔ y = x := ⟨fun h => (by cases h; rfl), fun h => (by subst h; exact .v _)⟩
/-- What a value is called once the rows beyond n0 are frozen. -/
inductive Frz (H : List VB) (n0 : Nat) : SV → SV → Prop
  | keep (x : SV) (h : x.Bel n0) : Frz H n0 x x
  | nil (n : Nat) (full : Bool) : Frz H n0 (.v (.slice none 0 0)) (.list n full [])
  | agg (cs ds : List SV) (hl : ds.length = cs.length) (h : ∀ (i : Nat) (hi : i < cs.length) (hj : i < ds.length), Frz H n0 cs[i] ds[i]) : Frz H n0 (.agg cs) (.agg ds)
  | tup (cs ds : List SV) (hl : ds.length = cs.length) (h : ∀ (i : Nat) (hi : i < cs.length) (hj : i < ds.length), Frz H n0 cs[i] ds[i]) : Frz H n0 (.tup cs) (.tup ds)
  | row (id g off len n : Nat) (xs ys : List SV) (hid : n0 ≤ id) (hr : H[id]? = some (.row g n xs)) (hle : off + len ≤ xs.length) (hl : ys.length = len)
      (hc : ∀ (i : Nat) (hi : off + i < xs.length) (hj : i < ys.length), ys[i].cells.length = xs[off + i].cells.length)
      (h : ∀ (i : Nat) (hi : off + i < xs.length) (hj : i < ys.length) (j : Nat) (h1 : j < xs[off + i].cells.length) (h2 : j < ys[i].cells.length), Frz H n0 xs[off + i].cells[j] ys[i].cells[j]) :
      Frz H n0 (.slc id g off len) (.list n false ys)
theorem frz_sound {R : Env} (hR : HRep R) {Hf : List VB} (s : R.sub Hf) {x y : SV} (hf : Frz R.H Hf.length x y) : ∀ {v : Value}, Rep R x v → Rep { R with H := Hf } y v := by
  induction hf with
  | keep x h => exact fun hr => hr.forget s h
  | nil n full =>
    intro v hr
    obtain rfl := rep_v.1 hr
    exact .list n full [] none 0 (fun _ => undef) (Nat.zero_le _) (fun _ => rfl) (fun z hz => by cases hz) (.inl rfl) (fun i hi => by cases hi)
  | agg cs ds hl h ih =>
    intro v hr
    cases hr with
    | agg _ a ha hh => exact .agg ds a (by rw [ha, hl]) fun i hi hj => ih i (by omega) hi (hh i (by omega) hj)
  | tup cs ds hl h ih =>
    intro v hr
    cases hr with
    | tup _ a ha hh => exact .tup ds a (by rw [ha, hl]) fun i hi hj => ih i (by omega) hi (hh i (by omega) hj)
  | row id g off len n xs ys hid hrow hle hl hcl h ih =>
    intro v hr
    cases hr with
    | slcOld _ _ _ _ _ hid' ho => exact absurd (ho _ _ _ hrow) (by omega)
    | slc _ _ _ _ n' xs' ad c hr' hle' hc' ha =>
      rw [hrow] at hr'
      cases hr'
      obtain ⟨hn, hx⟩ := hR.row id g n xs hrow
      have hny : ∀ z, z ∈ ys → z.cells.length = n := fun z hz => by
        obtain ⟨i, hi, rfl⟩ := List.getElem_of_mem hz
        rw [hcl i (by omega) hi]
        exact hn _ (List.getElem_mem _)
      subst hl
      by_cases h0 : ys = []
      · subst h0
        exact .list n false [] ad c (fun _ => undef) (Nat.zero_le _) (fun h => by cases h) (fun z hz => by cases hz) (.inl rfl) (fun i hi => by cases hi)
      · have hpos : 0 < ys.length := List.length_pos_iff.2 h0
        obtain ⟨a, q1, rfl, q3⟩ := ha (by omega)
        rcases hx with ⟨e1, _⟩ | ⟨a', cs, e, fz, r1, r2, r3, r4, r5⟩
        · rw [e1] at q1; cases q1
        · rw [q1] at r1
          cases r1
          have hcell : ∀ o, cellAt R.w a.block o = cs[o]? := fun o => by simp [cellAt, World.cell?, r2]
          have hle2 : (off + ys.length) * n ≤ xs.length * n := Nat.mul_le_mul_right n hle
          have hmul : (off + ys.length) * n = off * n + ys.length * n := Nat.add_mul _ _ _
          refine .list n false ys _ c (fun j => (cs[a.off + off * n + j]?).getD undef) hc' (fun h => by cases h) hny (.inr ⟨a.block, a.off + off * n, rfl, ?_, fun j hj => ?_⟩) fun i hi j hj => ?_
          · refine ⟨(hR.addr id a (Env.row_live hrow) q1).2, fun id' a' hl' hr' hb => ?_⟩
            have hid2 : id' < Hf.length := by
              obtain ⟨b, hb1, _⟩ := hl'
              rcases Nat.lt_or_ge id' Hf.length with h | h
              · exact h
              · rw [show Hf[id']? = none from List.getElem?_eq_none h] at hb1; cases hb1
            have := hR.inj id' id a' a (s.live hl') (Env.row_live hrow) hr' q1 hb
            omega
          · show cellAt R.w a.block _ = _
            rw [hcell, Array.getElem?_eq_getElem (by omega)]
            rfl
          · have hxi : off + i < xs.length := by omega
            have hj' : j < xs[off + i].cells.length := by rw [← hcl i hxi hi]; exact hj
            have hjn : j < n := by rw [← hn _ (List.getElem_mem hxi)]; exact hj'
            have h1 : (off + i + 1) * n ≤ xs.length * n := Nat.mul_le_mul_right n (by omega)
            rw [Nat.succ_mul] at h1
            have hk : a.off + (off + i) * n + j < cs.size := by omega
            have h2 := r5 (off + i) hxi j hj' hk
            have h3 : (cs[a.off + off * n + (i * n + j)]?).getD undef = cs[a.off + (off + i) * n + j] := by
              rw [show a.off + off * n + (i * n + j) = a.off + (off + i) * n + j by rw [Nat.add_mul]; omega, Array.getElem?_eq_getElem hk]
              rfl
            show Rep _ _ ((cs[a.off + off * n + (i * n + j)]?).getD undef)
            rw [h3]
            exact ih i hxi hi j hj' hj h2
end Go.Vm

/- The virtual machine, part 3: what code is walked to (VWp), what a call comes to (VCalls), the rules of code. Generic: no program in sight. -/
set_option linter.unusedVariables false
set_option linter.unusedSimpArgs false
namespace Go.Vm
open Go.RowKit

abbrev TM := List (Nat × SV)
def tget : TM → Nat → SV
  | [], _ => .junk
  | (k, x) :: r, t => bif Nat.beq k t then x else tget r t
structure TRep (R : Env) (N : Nat) (tm : TM) (a : Act) : Prop where
  size : a.tmps.size = N
  get : ∀ t, Rep R (tget tm t) (a.tmps.getD t undef)
def WF (r : Option Nat) : Fence := { Fence.wide with round := r }
abbrev VQ := Exit → TM → List VB → Prop
/-- What is known at an exit. -/
def VPost (R0 : Env) (N : Nat) (ds : List Deferred) (Q : VQ) : Exit → Act → World → Prop := fun e a' w' =>
  ∃ R' tm', R'.w = w' ∧ Ext R0 R' ∧ HRep R' ∧ TRep R' N tm' a' ∧ a'.defers = ds ∧ Q e tm' R'.H
def VWp (R0 : Env) (P : Program) (N : Nat) (c : Code) (tm : TM) (H : List VB) (Q : VQ) : Prop :=
  ∀ (r : Option Nat) (m : Nat) (R : Env) (a : Act), Ext R0 R → HRep R → R.H = H → TRep R N tm a → c.wpIn (WF r) m P (VPost R0 N a.defers Q) a R.w
def RepL (R : Env) (xs : List SV) (vs : Array Value) : Prop := vs.size = xs.length ∧ ∀ (i : Nat) (hi : i < xs.length) (hj : i < vs.size), Rep R xs[i] vs[i]
def callable (P : Program) (f : FuncId) : Bool := match P.funcs[f]? with | some fn => fn.body.isSome && !(fn.name == "runtime.NumGoroutine") | none => false
/-- What a call comes to: it returns; what is known of the result and of the virtual heap behind it. -/
def VCalls (P : Program) (f : FuncId) (args : List SV) (H : List VB) (K : SV → List VB → Prop) : Prop :=
  callable P f = true ∧ ∀ (R : Env) (vs : Array Value), HRep R → R.H = H → RepL R args vs →
    Calls P f vs R.w fun e w' => ∃ v r R', e = .returned v ∧ R'.w = w' ∧ Ext R R' ∧ HRep R' ∧ Rep R' r v ∧ K r R'.H

theorem VCalls.mono {P : Program} {f : FuncId} {args : List SV} {H : List VB} {K K' : SV → List VB → Prop} (h : VCalls P f args H K) (hk : ∀ r H', K r H' → K' r H') : VCalls P f args H K' :=
  ⟨h.1, fun R vs h1 h2 h3 => (h.2 R vs h1 h2 h3).mono fun e w' ⟨v, r, R', q1, q2, q3, q4, q5, q6⟩ => ⟨v, r, R', q1, q2, q3, q4, q5, hk _ _ q6⟩⟩
theorem VPost.mono {R0 : Env} {N : Nat} {ds : List Deferred} {Q Q' : VQ} (hq : ∀ e tm H, Q e tm H → Q' e tm H) (e : Exit) (a : Act) (w : World) (h : VPost R0 N ds Q e a w) : VPost R0 N ds Q' e a w := by
  obtain ⟨R', tm', h1, h2, h3, h4, h5, h6⟩ := h
  exact ⟨R', tm', h1, h2, h3, h4, h5, hq _ _ _ h6⟩
section rules
variable {R0 : Env} {P : Program} {N : Nat} {tm : TM} {H : List VB} {Q : VQ}
theorem VWp.mono {c : Code} {Q' : VQ} (h : VWp R0 P N c tm H Q) (hq : ∀ e tm H, Q e tm H → Q' e tm H) : VWp R0 P N c tm H Q' :=
  fun r m R a h1 h2 h3 h4 => wpIn_mono (h r m R a h1 h2 h3 h4) fun e a w hh => VPost.mono hq e a w hh
def vthen (next : TM → List VB → Prop) (Q : VQ) : VQ
  | .normal, tm, H => next tm H
  | e, tm, H => Q e tm H
theorem vwp_skip (h : Q .normal tm H) : VWp R0 P N .skip tm H Q :=
  fun r m R a h1 h2 h3 h4 => wpIn_skip ⟨R, tm, rfl, h1, h2, h4, rfl, h3 ▸ h⟩
theorem vwp_label {l : Nat} (h : Q .normal tm H) : VWp R0 P N (.label l) tm H Q :=
  fun r m R a h1 h2 h3 h4 => wpIn_label ⟨R, tm, rfl, h1, h2, h4, rfl, h3 ▸ h⟩
theorem vwp_ret (h : Q .ret tm H) : VWp R0 P N .ret tm H Q :=
  fun r m R a h1 h2 h3 h4 => wpIn_ret ⟨R, tm, rfl, h1, h2, h4, rfl, h3 ▸ h⟩
theorem vwp_exit {id : Nat} (h : Q (.exit id) tm H) : VWp R0 P N (.exit id) tm H Q :=
  fun r m R a h1 h2 h3 h4 => wpIn_exit ⟨R, tm, rfl, h1, h2, h4, rfl, h3 ▸ h⟩
theorem vwp_seq {x y : Code} (h : VWp R0 P N x tm H (vthen (fun tm' H' => VWp R0 P N y tm' H' Q) Q)) : VWp R0 P N (.seq x y) tm H Q := by
  intro r m R a h1 h2 h3 h4
  refine wpIn_seq (wpIn_mono (h r m R a h1 h2 h3 h4) ?_)
  rintro e a' w' ⟨R', tm', rfl, q2, q3, q4, q5, q6⟩
  cases e with
  | normal => exact q5 ▸ q6 r m R' a' q2 q3 rfl q4
  | _ => exact ⟨R', tm', rfl, q2, q3, q4, q5, q6⟩
theorem vwp_seq' {x y : Code} (h : ∀ K : TM → List VB → Prop, (∀ tm' H', VWp R0 P N y tm' H' Q → K tm' H') → VWp R0 P N x tm H (vthen K Q)) : VWp R0 P N (.seq x y) tm H Q :=
  vwp_seq (h _ fun _ _ h => h)
def ofValue : Value → SV
  | .agg cs => .agg (cs.toList.map .v)
  | x => .v x
theorem rep_ofValue (R : Env) (x : Value) : Rep R (ofValue x) x := by
  cases x with
  | agg cs => exact .agg _ _ (by simp) fun i hi hj => by simp; exact .v _
  | _ => exact .v _
def vev (tm : TM) : Operand → SV
  | .tmp t => tget tm t
  | .const x => ofValue x
  | .global _ => .junk
  | .func f => .fn f []
theorem TRep.ev {R : Env} {a : Act} (h : TRep R N tm a) (x : Operand) : Rep R (vev tm x) (a.eval x) := by
  cases x with
  | tmp t => exact h.get t
  | const v => exact rep_ofValue R v
  | global g => exact .junk _
  | func f => exact .fn f [] #[] rfl (fun i hi => by cases hi)
def vcond (x : SV) (A B : Prop) : Prop := match x with | .v (.bool b) => if b = true then A else B | _ => False
theorem vwp_cond {c : Operand} {x y : Code} (h : vcond (vev tm c) (VWp R0 P N x tm H Q) (VWp R0 P N y tm H Q)) : VWp R0 P N (.cond c x y) tm H Q := by
  intro r m R a h1 h2 h3 h4
  have hc := h4.ev c
  unfold vcond at h
  split at h
  · rename_i b hb
    rw [hb] at hc
    have hv : a.eval c = .bool b := rep_v.1 hc
    refine wpIn_cond hv ?_
    cases b
    · exact (by simpa using h : VWp R0 P N y tm H Q) r m R a h1 h2 h3 h4
    · exact (by simpa using h : VWp R0 P N x tm H Q) r m R a h1 h2 h3 h4
  · exact h.elim
def vblock (id : Nat) (Q : VQ) : VQ
  | .exit id', tm, H => bif Nat.beq id' id then Q .normal tm H else Q (.exit id') tm H
  | e, tm, H => Q e tm H
theorem vwp_block {id : Nat} {c : Code} (h : VWp R0 P N c tm H (vblock id Q)) : VWp R0 P N (.block id c) tm H Q := by
  intro r m R a h1 h2 h3 h4
  refine wpIn_block (wpIn_mono (h r m R a h1 h2 h3 h4) ?_)
  rintro e a' w' ⟨R', tm', rfl, q2, q3, q4, q5, q6⟩
  cases e with
  | exit id' =>
    simp only [vblock] at q6
    simp only [Exit.inBlock]
    by_cases hid : id' = id
    · subst hid
      simp only [Nat.beq_refl, cond_true] at q6
      rw [if_pos rfl]
      exact ⟨R', tm', rfl, q2, q3, q4, q5, q6⟩
    · have : Nat.beq id' id = false := by
        cases hb : Nat.beq id' id
        · rfl
        · exact absurd (Nat.eq_of_beq_eq_true hb) hid
      simp only [this, cond_false] at q6
      rw [if_neg hid]
      exact ⟨R', tm', rfl, q2, q3, q4, q5, q6⟩
  | _ => exact ⟨R', tm', rfl, q2, q3, q4, q5, q6⟩
theorem vwp_loop {c : Code} (I : Nat → TM → List VB → Prop) (n0 : Nat) (h0 : I n0 tm H)
    (round : ∀ n tm H, I n tm H → VWp R0 P N c tm H (vthen (fun tm' H' => ∃ n', n' < n ∧ I n' tm' H') Q)) : VWp R0 P N (.loop c) tm H Q := by
  intro r m R a h1 h2 h3 h4
  refine wpIn_loop_ghost (fun n a' w' => ∃ R' tm', R'.w = w' ∧ Ext R0 R' ∧ HRep R' ∧ TRep R' N tm' a' ∧ a'.defers = a.defers ∧ I n tm' R'.H) n0 ⟨R, tm, rfl, h1, h2, h4, rfl, h3 ▸ h0⟩ ?_
  rintro n a1 w1 ⟨R1, tm1, rfl, q2, q3, q4, q5, q6⟩
  refine wpIn_mono (round n tm1 R1.H q6 r m R1 a1 q2 q3 rfl q4) ?_
  rintro e a' w' ⟨R', tm', rfl, p2, p3, p4, p5, p6⟩
  cases e with
  | normal =>
    obtain ⟨n', hn, hI⟩ := p6
    exact ⟨n', hn, R', tm', rfl, p2, p3, p4, p5.trans q5, hI⟩
  | _ => exact ⟨R', tm', rfl, p2, p3, p4, p5.trans q5, p6⟩
/-! ### Weakening -/
theorem tget_mem {tm' : TM} (t : Nat) : tget tm' t = .junk ∨ ∃ p, p ∈ tm' ∧ p.1 = t ∧ p.2 = tget tm' t := by
  induction tm' with
  | nil => exact .inl rfl
  | cons p r ih =>
    obtain ⟨k, x⟩ := p
    simp only [tget]
    cases hb : Nat.beq k t
    · simp only [cond_false]
      exact ih.imp id fun ⟨p, h1, h2⟩ => ⟨p, .tail _ h1, h2⟩
    · simp only [cond_true]
      exact .inr ⟨(k, x), .head _, Nat.eq_of_beq_eq_true hb, rfl⟩
/-- Fewer slots are known. -/
def TSub (tm tm' : TM) : Prop := ∀ p, p ∈ tm' → tget tm p.1 = p.2
theorem TSub.get {tm' : TM} (h : TSub tm tm') (t : Nat) : tget tm' t = .junk ∨ tget tm' t = tget tm t := by
  rcases tget_mem (tm' := tm') t with h1 | ⟨p, h1, h2, h3⟩
  · exact .inl h1
  · exact .inr (h3.symm.trans ((h p h1).symm.trans (by rw [h2])))
theorem TRep.sub {R : Env} {a : Act} {tm' : TM} (h : TRep R N tm a) (s : TSub tm tm') : TRep R N tm' a :=
  ⟨h.size, fun t => by
    rcases s.get t with h1 | h1
    · rw [h1]; exact .junk _
    · rw [h1]; exact h.get t⟩
theorem vwp_weak {c : Code} {tm' : TM} (s : TSub tm tm') (h : VWp R0 P N c tm' H Q) : VWp R0 P N c tm H Q :=
  fun r m R a h1 h2 h3 h4 => h r m R a h1 h2 h3 (h4.sub s)
def HBel (H : List VB) : Prop := ∀ (id : Nat) (b : VB), H[id]? = some b → b.Bel H.length
/-- Something of the virtual heap is forgotten. -/
structure HSub (H0 H H' : List VB) : Prop where
  low : H0.length ≤ H'.length
  high : H'.length ≤ H.length
  sub : ∀ id, id < H'.length → H'[id]? = H[id]? ∨ H'[id]? = some .dead
  bel : ∀ (id : Nat) (b : VB), H'[id]? = some b → H0[id]? = some b ∨ b.Bel H'.length
theorem HSub.all {H0 H' : List VB} (h0 : HBel H0) (s : HSub H0 H H') : ∀ (id : Nat) (b : VB), H'[id]? = some b → b.Bel H'.length := fun id b h => by
  rcases s.bel id b h with h1 | h1
  · exact (h0 id b h1).mono s.low
  · exact h1
theorem vwp_forget {c : Code} {tm' : TM} {H' : List VB} (h0 : HBel R0.H) (s : HSub R0.H H H') (ht : ∀ p, p ∈ tm' → tget tm p.1 = p.2 ∧ p.2.Bel H'.length) (h : VWp R0 P N c tm' H' Q) :
    VWp R0 P N c tm H Q := by
  intro r m R a h1 h2 h3 h4
  subst h3
  have s' : R.sub H' := ⟨s.high, s.sub⟩
  refine h r m { R with H := H' } a (h1.forget s' s.low) (h2.forget s' (s.all h0)) rfl ⟨h4.size, fun t => ?_⟩
  rcases tget_mem (tm' := tm') t with h5 | ⟨p, h5, h6, h7⟩
  · rw [h5]; exact .junk _
  · rw [← h7]
    have := ht p h5
    rw [← this.1, h6]
    refine (h4.get t).forget s' ?_
    rw [← h6, this.1]
    exact this.2
theorem vwp_nilrow {c : Code} (t n : Nat) (ht : tget tm t = .v (.slice none 0 0)) (h : VWp R0 P N c ((t, .slc H.length 0 0 0) :: tm) (H ++ [.row 0 n []]) Q) : VWp R0 P N c tm H Q := by
  intro r m R a h1 h2 h3 h4
  subst h3
  have hl := Like.refl R.w
  have hok : Ext R ⟨R.H ++ [.row 0 n []], upd R.ρ R.H.length none, R.w⟩ → IdOk ⟨R.H ++ [.row 0 n []], upd R.ρ R.H.length none, R.w⟩ R.H.length := by
    intro e
    have hs := new_same R.H (.row 0 n [])
    refine ⟨fun cs h => ?_, fun g n' xs h => ?_, fun es h => ?_⟩
    · cases hs.symm.trans h
    · cases hs.symm.trans h
      exact ⟨fun x hx => (by cases hx), Or.inl ⟨upd_same .., rfl⟩⟩
    · cases hs.symm.trans h
  have e := Ext.new h2 (.row 0 n []) none hl (Nat.le_refl _) (fun _ _ => rfl) (fun a ha => by cases ha)
  have hr := HRep.new h2 (.row 0 n []) none hl (Nat.le_refl _) (fun _ _ => rfl) (fun a ha => by cases ha) hok
  refine h r m ⟨R.H ++ [.row 0 n []], upd R.ρ R.H.length none, R.w⟩ a (h1.trans e) hr rfl ⟨h4.size, fun k => ?_⟩
  simp only [tget]
  cases hb : Nat.beq t k
  · simp only [cond_false]; exact (h4.get k).mono e
  · simp only [cond_true]
    have hk : t = k := Nat.eq_of_beq_eq_true hb
    subst hk
    have h5 := h4.get t
    rw [ht] at h5
    have h6 : a.tmps.getD t undef = .slice none 0 0 := rep_v.1 h5
    rw [h6]
    exact .slc _ 0 0 0 n [] none 0 (new_same _ _) (Nat.le_refl _) (Nat.le_refl _) (fun h => absurd h (by omega))
end rules

/-! ### A function -/
def vres1 (P : Program) (H : List VB) (tm : TM) : ResultVar → Option SV
  | .tmp t => some (tget tm t)
  | .cell a t => vload P H t (tget tm a)
def vresL (P : Program) (H : List VB) (tm : TM) : List ResultVar → Option (List SV)
  | [] => some []
  | x :: xs => match vres1 P H tm x, vresL P H tm xs with
    | some a, some l => some (a :: l)
    | _, _ => none
def vone : List SV → SV
  | [x] => x
  | l => .tup l
def vresults (P : Program) (H : List VB) (rs : List ResultVar) (tm : TM) : Option SV := (vresL P H tm rs).map vone
def resSem (tmps : Array Value) : ResultVar → Sem Value
  | .tmp t => pure (tmps.getD t undef)
  | .cell a t => do loadVar t (← asAddr (tmps.getD a undef))
theorem results_eq (fn : Func) (tmps : Array Value) : results fn tmps = (do let vs ← fn.results.mapM (resSem tmps); pure (if h : vs.size = 1 then vs[0] else .tuple vs)) := by
  have : (fun | .tmp t => pure (tmps.getD t undef) | .cell a t => do loadVar t (← asAddr (tmps.getD a undef)) : ResultVar → Sem Value) = resSem tmps := funext fun x => by cases x <;> rfl
  unfold results
  rw [← this]
  rfl
theorem vresL_sound {P : Program} {R : Env} {N : Nat} {tm : TM} {a : Act} (h : HRep R) (ht : TRep R N tm a) : ∀ (rs : List ResultVar) (l : List SV), vresL P R.H tm rs = some l →
    ∃ vs : List Value, (rs.mapM (resSem a.tmps) : Sem (List Value)).run P R.w = .ok vs R.w ∧
      vs.length = l.length ∧ ∀ (i : Nat) (hi : i < l.length) (hj : i < vs.length), Rep R l[i] vs[i]
  | [], l, h1 => by
    cases h1
    exact ⟨[], by simp, rfl, fun i hi => by cases hi⟩
  | x :: xs, l, h1 => by
    simp only [vresL] at h1
    split at h1
    · rename_i y l' hy hl
      cases h1
      obtain ⟨vs, q1, q2, q3⟩ := vresL_sound h ht xs l' hl
      cases x with
      | tmp t =>
        cases hy
        refine ⟨a.tmps.getD t undef :: vs, ?_, by simp [q2], ?_⟩
        · simp only [List.mapM_cons, resSem, Sem.run_bind, Sem.run_pure, Result.andThen_ok, q1]
        · rintro (_ | i) hi hj
          · exact ht.get t
          · exact q3 i (by simpa using hi) (by simpa using hj)
      | cell x t =>
        obtain ⟨b, o, v, p1, p2, p3⟩ := vload_sound h hy (ht.get x)
        refine ⟨v :: vs, ?_, by simp [q2], ?_⟩
        · simp only [List.mapM_cons, resSem, Sem.run_bind, p1, asAddr, Sem.run_pure, Result.andThen_ok, p2, q1]
        · rintro (_ | i) hi hj
          · exact p3
          · exact q3 i (by simpa using hi) (by simpa using hj)
    · cases h1
theorem vresults_sound {P : Program} {R : Env} {N : Nat} {tm : TM} {a : Act} (h : HRep R) (ht : TRep R N tm a) {fn : Func} {r : SV} (hr : vresults P R.H fn.results.toList tm = some r) :
    ∃ v, (results fn a.tmps).run P R.w = .ok v R.w ∧ Rep R r v := by
  unfold vresults at hr
  obtain ⟨l, hl, rfl⟩ := Option.map_eq_some_iff.1 hr
  obtain ⟨vs, q1, q2, q3⟩ := vresL_sound (P := P) h ht _ _ hl
  simp only [results_eq, Array.mapM_eq_mapM_toList, Sem.run_bind, Sem.run_map, q1, Result.andThen_ok, Sem.run_pure]
  refine ⟨_, rfl, ?_⟩
  match l, vs, q2, q3 with
  | [], [], _, _ => exact .tup [] #[] rfl (fun i hi => by cases hi)
  | [x], [y], _, q3 => exact q3 0 (by simp) (by simp)
  | x :: x' :: l, y :: y' :: vs, q2, q3 =>
    have : ¬ ((y :: y' :: vs).toArray.size = 1) := by simp
    rw [dif_neg this]
    exact .tup _ _ (by simpa using q2) fun i hi hj => by simpa using q3 i hi (by simpa using hj)
def VRet (R0 : Env) (P : Program) (rs : List ResultVar) (K : SV → List VB → Prop) (tm : TM) (H : List VB) : Prop :=
  ∃ r, vresults P H rs tm = some r ∧ (K r H ∨ ∃ Hf r', HSub R0.H H Hf ∧ Frz H Hf.length r r' ∧ K r' Hf)
def vfn (R0 : Env) (P : Program) (rs : List ResultVar) (K : SV → List VB → Prop) : VQ
  | .normal, tm, H => VRet R0 P rs K tm H
  | .ret, tm, H => VRet R0 P rs K tm H
  | _, _, _ => False
def argsTM : Nat → List SV → TM
  | _, [] => []
  | i, x :: xs => (i, x) :: argsTM (i + 1) xs
theorem argsTM_get : ∀ (xs : List SV) (i t : Nat), tget (argsTM i xs) t = if i ≤ t then xs.getD (t - i) .junk else .junk
  | [], i, t => by simp [argsTM, tget]
  | x :: xs, i, t => by
    simp only [argsTM, tget]
    cases hb : Nat.beq i t
    · have hne : i ≠ t := fun h => by subst h; simp at hb
      simp only [cond_false, argsTM_get xs (i + 1) t]
      by_cases hle : i ≤ t
      · rw [if_pos hle, if_pos (by omega)]
        obtain ⟨d, rfl⟩ : ∃ d, t = i + 1 + d := ⟨t - (i + 1), by omega⟩
        rw [show i + 1 + d - (i + 1) = d by omega, show i + 1 + d - i = d + 1 by omega]
        rfl
      · rw [if_neg hle, if_neg (by omega)]
    · have hk : i = t := Nat.eq_of_beq_eq_true hb
      subst hk
      simp
theorem callsIn_WF {r : Option Nat} {n : Nat} {P : Program} {f : FuncId} {args : Array Value} {w : World} {R : Ending → World → Prop} (h : Calls P f args w R) : CallsIn (WF r) n P f args w R :=
  show CallsIn Fence.wide n P f args w R from callsIn_wide.2 h
theorem vcalls_intro {P : Program} {f : FuncId} {fn : Func} {c : Code} {args : List SV} {H : List VB} {K : SV → List VB → Prop} (hf : P.funcs[f]? = some fn) (hb : fn.body = some c)
    (hc : callable P f = true) (hlen : args.length ≤ fn.ntmps)
    (h : ∀ R0 : Env, R0.H = H → HBel R0.H → VWp R0 P fn.ntmps c (argsTM 0 args) R0.H (vfn R0 P fn.results.toList K)) : VCalls P f args H K := by
  refine ⟨hc, fun R vs h1 h2 h3 => ?_⟩
  refine callsIn_wide (n := 0).1 (callsIn_of_wp hf hb trivial ?_)
  have hB : HBel R.H := fun id b hb => h1.bel hb
  have ht : TRep R fn.ntmps (argsTM 0 args) { tmps := vs ++ Array.replicate (fn.ntmps - vs.size) undef, defers := [] } := by
    refine ⟨by simp [h3.1]; omega, fun t => ?_⟩
    rw [argsTM_get]
    simp only [Nat.zero_le, if_true, Nat.sub_zero]
    by_cases hlt : t < args.length
    · have hv : t < vs.size := by rw [h3.1]; exact hlt
      have := h3.2 t hlt hv
      rw [List.getD_eq_getElem?_getD, List.getElem?_eq_getElem hlt, Array.getD_eq_getD_getElem?, Array.getElem?_append_left hv, Array.getElem?_eq_getElem hv]
      exact this
    · rw [List.getD_eq_getElem?_getD, List.getElem?_eq_none (by omega)]
      exact .junk _
  refine wpIn_mono (h R h2 hB none 0 R _ (Ext.refl h1) h1 rfl ht) ?_
  rintro e a' w' ⟨R', tm', rfl, q2, q3, q4, q5, q6⟩
  have key : VRet R P fn.results.toList K tm' R'.H → a'.defers = [] ∧ ∃ v, (results fn a'.tmps).run P R'.w = .ok v R'.w ∧
      ∃ v' r R'', Ending.returned v = .returned v' ∧ R''.w = R'.w ∧ Ext R R'' ∧ HRep R'' ∧ Rep R'' r v' ∧ K r R''.H := by
    rintro ⟨r, hr, hk⟩
    obtain ⟨v, p1, p2⟩ := vresults_sound q3 q4 hr
    refine ⟨q5, v, p1, ?_⟩
    rcases hk with hk | ⟨Hf, r', s, hfz, hk⟩
    · exact ⟨v, r, R', rfl, rfl, q2, q3, p2, hk⟩
    · have s' : R'.sub Hf := ⟨s.high, s.sub⟩
      exact ⟨v, r', { R' with H := Hf }, rfl, rfl, q2.forget s' s.low, q3.forget s' (s.all hB), frz_sound q3 s' hfz p2, hk⟩
  cases e with
  | normal => exact key q6
  | ret => exact key q6
  | _ => exact q6.elim
end Go.Vm

/- The virtual machine, part 4: operations that only compute or read. Generic: no program in sight. -/
set_option linter.unusedVariables false
set_option linter.unusedSimpArgs false
namespace Go.Vm
open Go.RowKit

/-- The run of a piece that leaves the world alone, and what its value stands for. -/
def Snd (P : Program) (R : Env) (s : Sem Value) (r : SV) : Prop := ∃ v, s.run P R.w = .ok v R.w ∧ Rep R r v
theorem Snd.pure {P : Program} {R : Env} {r : SV} {v : Value} (h : Rep R r v) : Snd P R (Pure.pure v) r := ⟨v, rfl, h⟩
theorem Snd.of {P : Program} {R : Env} {s : Sem Value} {r : SV} (v : Value) (h1 : s.run P R.w = .ok v R.w) (h2 : Rep R r v) : Snd P R s r := ⟨v, h1, h2⟩

/-! ### Two operands -/
def pShift (op : BinOp) (k : IntKind) (a b : Int) : Option Value :=
  if b < 0 then none else match op with
  | .shl => some (.int k (k.wrap (a * 2 ^ (min b.toNat k.bits))))
  | .shr => some (.int k (a.fdiv (2 ^ (min b.toNat k.bits))))
  | _ => none
def pInt (op : BinOp) (k : IntKind) (a b : Int) : Option Value :=
  match op with
  | .add => some (.int k (k.wrap (a + b)))
  | .sub => some (.int k (k.wrap (a - b)))
  | .mul => some (.int k (k.wrap (a * b)))
  | .quo => if b = 0 then none else some (.int k (k.wrap (a.tdiv b)))
  | .rem => if b = 0 then none else some (.int k (a.tmod b))
  | .and => some (.int k (k.wrap (BitVec.ofInt k.bits a &&& BitVec.ofInt k.bits b).toNat))
  | .or => some (.int k (k.wrap (BitVec.ofInt k.bits a ||| BitVec.ofInt k.bits b).toNat))
  | .xor => some (.int k (k.wrap (BitVec.ofInt k.bits a ^^^ BitVec.ofInt k.bits b).toNat))
  | .andNot => some (.int k (k.wrap (BitVec.ofInt k.bits a &&& ~~~ BitVec.ofInt k.bits b).toNat))
  | .eql => some (.bool (a == b))
  | .neq => some (.bool (a != b))
  | .lss => some (.bool (decide (a < b)))
  | .leq => some (.bool (decide (a ≤ b)))
  | .gtr => some (.bool (decide (a > b)))
  | .geq => some (.bool (decide (a ≥ b)))
  | .shl => none
  | .shr => none
def pStr (op : BinOp) (a b : ByteArray) : Option Value :=
  match op with
  | .add => if a.size + b.size ≤ 9223372036854775807 then some (.string (a ++ b)) else none
  | .eql => some (.bool (decide (a = b)))
  | .neq => some (.bool (!decide (a = b)))
  | .lss => some (.bool (Op.bytesLess a.toList b.toList))
  | .leq => some (.bool (Op.bytesLess a.toList b.toList || decide (a = b)))
  | .gtr => some (.bool (!(Op.bytesLess a.toList b.toList || decide (a = b))))
  | .geq => some (.bool (!Op.bytesLess a.toList b.toList))
  | _ => none
/-- Is it an address, and not nil? -/
def SV.addr : SV → Bool
  | .ptr _ _ | .ro _ => true
  | _ => false
def pBin (P : Program) (op : BinOp) (t : TypeId) : SV → SV → Option SV
  | .v (.int k a), .v (.int k' b) => match op with
    | .shl => (pShift .shl k a b).map .v
    | .shr => (pShift .shr k a b).map .v
    | op => if k = k' then (pInt op k a b).map .v else none
  | .v (.string a), .v (.string b) => (pStr op a b).map .v
  | .v (.bool a), .v (.bool b) => match op, P.underlying t with
    | .eql, some .bool => some (.v (.bool (a == b)))
    | .neq, some .bool => some (.v (.bool (!(a == b))))
    | _, _ => none
  | .v (.pointer none), .v (.pointer none) => match op, P.underlying t with
    | .eql, some (.pointer _) => some (.v (.bool true))
    | .neq, some (.pointer _) => some (.v (.bool false))
    | _, _ => none
  | x, .v (.pointer none) => if x.addr then (match op, P.underlying t with
    | .eql, some (.pointer _) => some (.v (.bool false))
    | .neq, some (.pointer _) => some (.v (.bool true))
    | _, _ => none) else none
  | .v (.slice none 0 0), .v (.slice none 0 0) => match op, P.underlying t with
    | .eql, some (.slice _) => some (.v (.bool true))
    | .neq, some (.slice _) => some (.v (.bool false))
    | _, _ => none
  | .list _ _ (_ :: _), .v (.slice none 0 0) => match op, P.underlying t with
    | .eql, some (.slice _) => some (.v (.bool false))
    | .neq, some (.slice _) => some (.v (.bool true))
    | _, _ => none
  | _, _ => none
theorem toList_eq_iff (a b : ByteArray) : (a.toList == b.toList) = decide (a = b) := by
  rw [Bool.eq_iff_iff]
  simp only [beq_iff_eq, decide_eq_true_eq]
  constructor
  · intro h
    rw [ByteArray.toList_eq, ByteArray.toList_eq] at h
    cases a; cases b
    congr 1
    exact Array.toList_inj.1 h
  · rintro rfl; rfl
theorem run_eqGuard_int (P : Program) (op : BinOp) (t : TypeId) (x y : Operand) (k : IntKind) (a : Int) (b : Value) (w : World) : (eqGuard op t x y (.int k a) b).run P w = .ok () w := by cases op <;> rfl
theorem run_eqGuard_string (P : Program) (op : BinOp) (t : TypeId) (x y : Operand) (a : ByteArray) (b : Value) (w : World) : (eqGuard op t x y (.string a) b).run P w = .ok () w := by cases op <;> rfl
theorem run_eqGuard_bool (P : Program) (op : BinOp) (t : TypeId) (x y : Operand) (a : Bool) (b : Value) (w : World) : (eqGuard op t x y (.bool a) b).run P w = .ok () w := by cases op <;> rfl
theorem run_eqGuard_ptr (P : Program) (op : BinOp) (t : TypeId) (x y : Operand) (a : Option Addr) (b : Value) (w : World) : (eqGuard op t x y (.pointer a) b).run P w = .ok () w := by cases op <;> rfl
theorem run_eqGuard_slice (P : Program) (op : BinOp) (t : TypeId) (x y : Operand) (a : Option Addr) (m c : Nat) (b : Value) (w : World) : (eqGuard op t x y (.slice a m c) b).run P w = .ok () w := by cases op <;> rfl
theorem run_equalIn_slice {P : Program} {t e : TypeId} (h : P.underlying t = some (.slice e)) (a : Option Addr) (m c : Nat) (d : Nat) (w : World) : (Op.equalIn (d + 1) t (.slice a m c) (.slice none 0 0)).run P w = .ok a.isNone w := by
  cases a <;> simp only [Op.equalIn, Sem.run_bind, run_underlying h, Result.andThen_ok, Sem.run_pure, Option.isNone]
theorem run_equal_slice {P : Program} {t e : TypeId} (h : P.underlying t = some (.slice e)) (a : Option Addr) (m c : Nat) (w : World) : (Op.equal t (.slice a m c) (.slice none 0 0)).run P w = .ok a.isNone w :=
  run_equalIn_slice h a m c 9999 w
theorem run_equalIn_bool {P : Program} {t : TypeId} (h : P.underlying t = some .bool) (a b : Bool) (d : Nat) (w : World) : (Op.equalIn (d + 1) t (.bool a) (.bool b)).run P w = .ok (a == b) w := by
  simp only [Op.equalIn, Sem.run_bind, run_underlying h, Result.andThen_ok, Sem.run_pure]
theorem run_equalIn_nil {P : Program} {t e : TypeId} (h : P.underlying t = some (.pointer e)) (a : Option Addr) (d : Nat) (w : World) : (Op.equalIn (d + 1) t (.pointer a) (.pointer none)).run P w = .ok a.isNone w := by
  cases a <;> simp only [Op.equalIn, Sem.run_bind, run_underlying h, Result.andThen_ok, Sem.run_pure, Option.isNone]
theorem run_equal_bool {P : Program} {t : TypeId} (h : P.underlying t = some .bool) (a b : Bool) (w : World) : (Op.equal t (.bool a) (.bool b)).run P w = .ok (a == b) w :=
  run_equalIn_bool h a b 9999 w
theorem run_equal_nil {P : Program} {t e : TypeId} (h : P.underlying t = some (.pointer e)) (a : Option Addr) (w : World) : (Op.equal t (.pointer a) (.pointer none)).run P w = .ok a.isNone w :=
  run_equalIn_nil h a 9999 w
theorem pBin_sound {P : Program} {R : Env} {op : BinOp} {t : TypeId} {x y : Operand} {sx sy r : SV} {a b : Value} (h : pBin P op t sx sy = some r) (ha : Rep R sx a) (hb : Rep R sy b) :
    Snd P R (do eqGuard op t x y a b; binOp op t a b) r := by
  have key : ∀ (v : Value), (eqGuard op t x y a b).run P R.w = .ok () R.w → (binOp op t a b).run P R.w = .ok v R.w → Rep R r v → Snd P R (do eqGuard op t x y a b; binOp op t a b) r :=
    fun v h1 h2 h3 => ⟨v, by simp only [Sem.run_bind, h1, Result.andThen_ok, h2], h3⟩
  unfold pBin at h
  split at h
  · rename_i k m k' n
    obtain rfl := rep_v.1 ha
    obtain rfl := rep_v.1 hb
    have hg : (eqGuard op t x y (.int k m) (.int k' n)).run P R.w = .ok () R.w := run_eqGuard_int ..
    split at h
    · obtain ⟨v, hv, rfl⟩ := Option.map_eq_some_iff.1 h
      unfold pShift at hv
      split at hv
      · cases hv
      · rename_i hn
        cases hv
        exact key _ hg (by simp [binOp, Op.shift, hn]) (.v _)
    · obtain ⟨v, hv, rfl⟩ := Option.map_eq_some_iff.1 h
      unfold pShift at hv
      split at hv
      · cases hv
      · rename_i hn
        cases hv
        exact key _ hg (by simp [binOp, Op.shift, hn]) (.v _)
    · rename_i h1 h2
      split at h
      · rename_i hk
        subst hk
        obtain ⟨v, hv, rfl⟩ := Option.map_eq_some_iff.1 h
        refine key v hg ?_ (.v _)
        cases op <;> simp only [pInt] at hv <;> first
          | (cases hv; simp [binOp, Op.intArith, Op.intBits, Op.intCmp]; done)
          | (split at hv <;> first | (cases hv; done) | (cases hv; rename_i hz; simp [binOp, Op.intDiv, hz]; done))
          | (cases hv; done)
      · cases h
  · rename_i s u
    obtain rfl := rep_v.1 ha
    obtain rfl := rep_v.1 hb
    have hg : (eqGuard op t x y (.string s) (.string u)).run P R.w = .ok () R.w := run_eqGuard_string ..
    obtain ⟨v, hv, rfl⟩ := Option.map_eq_some_iff.1 h
    refine key v hg ?_ (.v _)
    cases op <;> simp only [pStr] at hv <;> first
      | (cases hv; done)
      | (cases hv; simp [binOp, Op.stringOp, toList_eq_iff]; done)
      | (split at hv <;> first | (cases hv; done) | (cases hv; rename_i hz; simp only [binOp, Op.stringOp]; rw [if_neg (by simp [IntKind.max, IntKind.signed, IntKind.bits]; omega)]; rfl))
  · rename_i s u
    obtain rfl := rep_v.1 ha
    obtain rfl := rep_v.1 hb
    have hg : (eqGuard op t x y (.bool s) (.bool u)).run P R.w = .ok () R.w := run_eqGuard_bool ..
    split at h
    · rename_i hu; cases h
      exact key _ hg (by simp only [binOp, Sem.run_bind, run_equal_bool hu, Result.andThen_ok, Sem.run_pure]) (.v _)
    · rename_i hu; cases h
      exact key _ hg (by simp only [binOp, Sem.run_bind, run_equal_bool hu, Result.andThen_ok, Sem.run_pure]) (.v _)
    · cases h
  · obtain rfl := rep_v.1 ha
    obtain rfl := rep_v.1 hb
    have hg : (eqGuard op t x y (.pointer none) (.pointer none)).run P R.w = .ok () R.w := run_eqGuard_ptr ..
    split at h
    · rename_i hu; cases h
      exact key _ hg (by simp only [binOp, Sem.run_bind, run_equal_nil hu, Result.andThen_ok, Sem.run_pure, Option.isNone, Bool.not_true]) (.v _)
    · rename_i hu; cases h
      exact key _ hg (by simp only [binOp, Sem.run_bind, run_equal_nil hu, Result.andThen_ok, Sem.run_pure, Option.isNone, Bool.not_true]) (.v _)
    · cases h
  · rename_i hx
    obtain rfl := rep_v.1 hb
    split at h
    · rename_i hadr
      obtain ⟨ad, rfl⟩ : ∃ ad, a = .pointer (some ad) := by
        cases ha <;> first | exact ⟨_, rfl⟩ | (simp [SV.addr] at hadr; done)
      have hg : (eqGuard op t x y (.pointer (some ad)) (.pointer none)).run P R.w = .ok () R.w := run_eqGuard_ptr ..
      split at h
      · rename_i hu; cases h
        exact key _ hg (by simp only [binOp, Sem.run_bind, run_equal_nil hu, Result.andThen_ok, Sem.run_pure, Option.isNone, Bool.not_false]) (.v _)
      · rename_i hu; cases h
        exact key _ hg (by simp only [binOp, Sem.run_bind, run_equal_nil hu, Result.andThen_ok, Sem.run_pure, Option.isNone, Bool.not_false]) (.v _)
      · cases h
    · cases h
  · obtain rfl := rep_v.1 ha
    obtain rfl := rep_v.1 hb
    have hg : (eqGuard op t x y (.slice none 0 0) (.slice none 0 0)).run P R.w = .ok () R.w := run_eqGuard_slice ..
    split at h
    · rename_i hu; cases h
      exact key _ hg (by simp only [binOp, Sem.run_bind, run_equal_slice hu, Result.andThen_ok, Sem.run_pure, Option.isNone]) (.v _)
    · rename_i hu; cases h
      exact key _ hg (by simp only [binOp, Sem.run_bind, run_equal_slice hu, Result.andThen_ok, Sem.run_pure, Option.isNone, Bool.not_true]) (.v _)
    · cases h
  · obtain rfl := rep_v.1 hb
    obtain ⟨ad, m, c, rfl⟩ : ∃ ad m c, a = .slice (some ad) m c := by
      cases ha with
      | list n full xs a c f hc hfull hn ha h =>
        rcases ha with ha | ⟨b, o, rfl, _⟩
        · cases ha
        · exact ⟨_, _, _, rfl⟩
    have hg : (eqGuard op t x y (.slice (some ad) m c) (.slice none 0 0)).run P R.w = .ok () R.w := run_eqGuard_slice ..
    split at h
    · rename_i hu; cases h
      exact key _ hg (by simp only [binOp, Sem.run_bind, run_equal_slice hu, Result.andThen_ok, Sem.run_pure, Option.isNone]) (.v _)
    · rename_i hu; cases h
      exact key _ hg (by simp only [binOp, Sem.run_bind, run_equal_slice hu, Result.andThen_ok, Sem.run_pure, Option.isNone, Bool.not_false]) (.v _)
    · cases h
  · cases h

/-! ### One operand -/
def pUn (op : UnOp) : SV → Option SV
  | .v (.int k n) => match op with
    | .neg => some (.v (.int k (k.wrap (0 - n))))
    | .xor => some (.v (.int k (k.wrap (BitVec.ofInt k.bits (if k.signed then -1 else k.max) ^^^ BitVec.ofInt k.bits n).toNat)))
    | _ => none
  | .v (.bool b) => match op with
    | .not => some (.v (.bool (!b)))
    | _ => none
  | _ => none
theorem pUn_sound {P : Program} {R : Env} {op : UnOp} {sx r : SV} {a : Value} (h : pUn op sx = some r) (ha : Rep R sx a) : Snd P R (Op.unary op a) r := by
  unfold pUn at h
  split at h
  · obtain rfl := rep_v.1 ha
    split at h
    · cases h; exact ⟨_, by simp [Op.unary, Op.intArith], .v _⟩
    · cases h; exact ⟨_, by simp [Op.unary, Op.intBits], .v _⟩
    · cases h
  · obtain rfl := rep_v.1 ha
    split at h
    · cases h; exact ⟨_, by simp [Op.unary], .v _⟩
    · cases h
  · cases h
def byteSV (b : UInt8) : SV := .v (.int .u8 (b.toNat : Int))
def svByte : SV → Option UInt8
  | .v (.int .u8 n) => if 0 ≤ n ∧ n < 256 then some (UInt8.ofNat n.toNat) else none
  | _ => none
def svBytes : List SV → Option (List UInt8)
  | [] => some []
  | x :: xs => match svByte x, svBytes xs with
    | some b, some l => some (b :: l)
    | _, _ => none
theorem svByte_byteSV (b : UInt8) : svByte (byteSV b) = some b := by
  have := b.toNat_lt
  simp only [svByte, byteSV]
  rw [if_pos (by omega)]
  simp
theorem svByte_inv {x : SV} {b : UInt8} (h : svByte x = some b) : x = byteSV b := by
  unfold svByte at h
  split at h
  · split at h
    · rename_i n hn
      cases h
      simp only [byteSV]
      congr 2
      simp only [UInt8.toNat_ofNat']
      omega
    · cases h
  · cases h
theorem svBytes_map (l : List UInt8) : svBytes (l.map byteSV) = some l := by
  induction l with
  | nil => rfl
  | cons b l ih => simp [svBytes, svByte_byteSV, ih]
theorem svBytes_inv : ∀ {xs : List SV} {l : List UInt8}, svBytes xs = some l → xs = l.map byteSV
  | [], l, h => by cases h; rfl
  | x :: xs, l, h => by
    simp only [svBytes] at h
    split at h
    · rename_i b l' hb hl
      cases h
      rw [svByte_inv hb, svBytes_inv hl]
      rfl
    · cases h
/-- A slice's elements, as they are read: of an immutable list, of a row. -/
def vread (H : List VB) : SV → Option (Nat × List SV)
  | .list n _ xs => some (n, xs)
  | .slc id g off len => match H[id]? with
    | some (.row g' n xs) => if g = g' ∧ off + len ≤ xs.length then some (n, (xs.drop off).take len) else none
    | _ => none
  | .bsl id off n len _ => match H[id]? with
    | some (.box cs) => if n = 1 ∧ off + len ≤ cs.length ∧ ∀ z, z ∈ (cs.drop off).take len → z.isCell = true then some (1, (cs.drop off).take len) else none
    | _ => none
  | _ => none
/-- What a read slice is in the world. -/
theorem vread_sound {R : Env} (h : HRep R) {x : SV} {n : Nat} {xs : List SV} {y : Value} (hx : vread R.H x = some (n, xs)) (hr : Rep R x y) :
    ∃ a c, y = .slice a xs.length c ∧ xs.length ≤ c ∧ (∀ z, z ∈ xs → z.cells.length = n) ∧ (xs = [] ∨ ∃ b o, a = some ⟨b, o, none⟩ ∧
      ∀ (i : Nat) (hi : i < xs.length) (j : Nat) (hj : j < xs[i].cells.length), ∃ v, cellAt R.w b (o + (i * n + j)) = some v ∧ Rep R xs[i].cells[j] v) := by
  cases hr with
  | list n' full xs' a c f hc hfull hn ha h' =>
    cases hx
    refine ⟨a, c, rfl, hc, hn, ?_⟩
    rcases ha with ha | ⟨b, o, h1, h2, h3⟩
    · exact .inl ha
    · refine .inr ⟨b, o, h1, fun i hi j hj => ⟨_, h3 _ ?_, h' i hi j hj⟩⟩
      have e1 := hn _ (List.getElem_mem hi)
      have h4 : (i + 1) * n ≤ xs.length * n := Nat.mul_le_mul_right n hi
      have h5 : (i + 1) * n = i * n + n := Nat.succ_mul i n
      omega
  | slc id g off len n' ys x c hr hle hc ha =>
    simp only [vread, hr, true_and, hle, if_true] at hx
    cases hx
    have hlen : ((ys.drop off).take len).length = len := by simp; omega
    obtain ⟨hn, hrow⟩ := h.row id g n ys hr
    refine ⟨x, c, by rw [hlen], by omega, fun z hz => hn z (List.mem_of_mem_drop (List.mem_of_mem_take hz)), ?_⟩
    by_cases h0 : len = 0
    · exact .inl (List.eq_nil_of_length_eq_zero (hlen.trans h0))
    · right
      obtain ⟨a, q1, q2, q3⟩ := ha (by omega)
      rcases hrow with hrow | ⟨a', c', e, fz, p1, p2, p3, p4, p5⟩
      · rw [hrow.1] at q1; cases q1
      · rw [q1] at p1
        cases p1
        refine ⟨_, _, q2, fun i hi j hj => ?_⟩
        have hi' : off + i < ys.length := by omega
        have eg : ((ys.drop off).take len)[i] = ys[off + i] := by simp
        have hj' : j < ys[off + i].cells.length := by rw [← eg]; exact hj
        have e1 := hn _ (List.getElem_mem hi')
        have h4 : (off + i + 1) * n ≤ ys.length * n := Nat.mul_le_mul_right n hi'
        have h5 : (off + i + 1) * n = (off + i) * n + n := Nat.succ_mul _ n
        have h6 : (off + i) * n = off * n + i * n := Nat.add_mul ..
        have hlt : a.off + (off + i) * n + j < c'.size := by omega
        refine ⟨c'[a.off + (off + i) * n + j], ?_, ?_⟩
        · rw [cellAt_of_block p2, show a.off + off * n + (i * n + j) = a.off + (off + i) * n + j by omega]
          exact Array.getElem?_eq_getElem hlt
        · have := p5 (off + i) hi' j hj' hlt
          simpa only [eg] using this
  | slcOld id g off len y hid hr =>
    simp only [vread] at hx
    split at hx
    · rename_i g' n' ys hc
      have := hr g' n' ys hc
      rw [if_neg (by omega)] at hx
      cases hx
    · cases hx
  | bsl id off n' len cap x hid hb hle ha =>
    simp only [vread] at hx
    split at hx
    · rename_i cs hc
      split at hx
      · rename_i hh
        obtain ⟨rfl, h1, h2'⟩ := hh
        have h2 : ∀ z, z ∈ (cs.drop off).take len → z.cells = [z] := fun z hz => SV.isCell_cells (h2' z hz)
        cases hx
        have hlen : ((cs.drop off).take len).length = len := by simp; omega
        refine ⟨x, cap, by rw [hlen], by omega, fun z hz => by rw [h2 z hz]; rfl, ?_⟩
        by_cases h0 : len = 0
        · exact .inl (List.eq_nil_of_length_eq_zero (hlen.trans h0))
        · right
          obtain ⟨a, q1, q2, q3⟩ := ha (by omega)
          obtain ⟨a', c', e, fz, p1, p2, p3, p4, p5⟩ := h.box id cs hc
          rw [q1] at p1
          cases p1
          refine ⟨_, _, q3, fun i hi j hj => ?_⟩
          have hi' : off + i < cs.length := by omega
          have eg : ((cs.drop off).take len)[i] = cs[off + i] := by simp
          have ec := h2 _ (List.getElem_mem hi)
          have hj0 : j = 0 := by rw [ec] at hj; simpa using hj
          subst hj0
          have hlt : a.off + (off + i) < c'.size := by omega
          refine ⟨c'[a.off + (off + i)], ?_, ?_⟩
          · rw [cellAt_of_block p2, show a.off + off + (i * 1 + 0) = a.off + (off + i) by omega]
            exact Array.getElem?_eq_getElem hlt
          · have := p5 (off + i) hi' hlt
            have e2 : ((cs.drop off).take len)[i].cells[0] = cs[off + i] := by
              rw [List.getElem_of_eq ec]; exact eg
            rw [e2]; exact this
      · cases hx
    · cases hx
  | _ => cases hx
def pConvBytes (P : Program) (H : List VB) (e : TypeId) (x : SV) : Option SV :=
  match P.underlying e with
  | some (.int .u8) => match x with
    | .v (.slice none 0 0) => some (.v (.string .empty))
    | x => match vread H x with
      | some (1, xs) => (svBytes xs).map fun l => .v (.string ⟨l.toArray⟩)
      | _ => none
  | _ => none
def pConv (P : Program) (H : List VB) (src dst : TypeId) (x : SV) : Option SV :=
  match P.underlying src, P.underlying dst with
  | some (.slice e), some .string => pConvBytes P H e x
  | some _, some (.int k) => match x with
    | .v (.int _ n) => some (.v (.int k (k.wrap n)))
    | _ => none
  | some _, some .string => match x with
    | .v (.string s) => some (.v (.string s))
    | _ => none
  | _, _ => none
theorem strOfNums_bytes (l : List UInt8) : strOfNums (l.map fun b => (b.toNat : Int)) = ⟨l.toArray⟩ := by
  simp only [strOfNums, List.map_map]
  congr 2
  conv => rhs; rw [← List.map_id l]
  refine List.map_congr_left fun b _ => ?_
  simp [Function.comp]
theorem pConvBytes_sound {P : Program} {R : Env} (hR : HRep R) {src dst e : TypeId} (hs : P.underlying src = some (.slice e)) (hd : P.underlying dst = some .string) {sx r : SV} {a : Value}
    (h : pConvBytes P R.H e sx = some r) (ha : Rep R sx a) : Snd P R (convert src dst a) r := by
  unfold pConvBytes at h
  split at h
  · rename_i he
    split at h
    · obtain rfl := rep_v.1 ha
      cases h
      exact ⟨_, run_convert_bytes_nil R.w src e hs he 0 0 dst hd, .v _⟩
    · split at h
      · rename_i xs hx
        obtain ⟨l, hl, rfl⟩ := Option.map_eq_some_iff.1 h
        obtain ⟨ad, c, rfl, hc, hn, hcells⟩ := vread_sound hR hx ha
        have hxs := svBytes_inv hl
        rcases hcells with h0 | ⟨b, o, rfl, hcells⟩
        · have hl0 : l = [] := by rw [hxs] at h0; simpa using h0
          subst h0 hl0
          refine ⟨_, ?_, .v _⟩
          cases ad with
          | none => exact run_convert_bytes_nil R.w src e hs he 0 c dst hd
          | some ad =>
            simp only [convert, underlying, Sem.run_bind, run_program, Result.andThen_ok, hs, hd, Sem.run_pure, he, Conv.bytesToString, List.length_nil, loadCells, loadCellsFrom]
            rfl
        · refine ⟨_, ?_, .v _⟩
          have hlen : (l.map fun b => (b.toNat : Int)).length = xs.length := by rw [hxs]; simp
          have := run_convert_bytes_arg R.w src e hs he b o xs.length c (l.map fun b => (b.toNat : Int)) hlen (fun i hi => ?_) dst hd
          · rw [strOfNums_bytes] at this; exact this
          · have hi' : i < xs.length := hi
            have hil : i < l.length := by rw [hxs] at hi'; simpa using hi'
            have ex : xs[i] = byteSV l[i] := by simp [hxs]
            obtain ⟨v, h1, h2⟩ := hcells i hi' 0 (by rw [ex]; simp [byteSV, SV.cells])
            have h3 : v = .int .u8 (l[i].toNat : Int) := by
              have : xs[i].cells[0]'(by rw [ex]; simp [byteSV, SV.cells]) = byteSV l[i] := by simp [ex, byteSV, SV.cells]
              rw [this] at h2
              exact rep_v.1 h2
            subst h3
            have h4 : R.w.cell? ⟨b, o + (i * 1 + 0), none⟩ = _ := h1
            simpa [List.getD_eq_getElem?_getD, hil] using h4
      · cases h
  · cases h
theorem pConv_sound {P : Program} {R : Env} (hR : HRep R) {src dst : TypeId} {sx r : SV} {a : Value} (h : pConv P R.H src dst sx = some r) (ha : Rep R sx a) : Snd P R (convert src dst a) r := by
  unfold pConv at h
  split at h
  · rename_i e hs hd
    exact pConvBytes_sound hR hs hd h ha
  · rename_i d k hs hd
    split at h
    · obtain rfl := rep_v.1 ha
      cases h
      refine ⟨_, ?_, .v _⟩
      simp only [convert, underlying, Sem.run_bind, run_program, Result.andThen_ok, hs, hd, Sem.run_pure, Conv.intToInt]
    · cases h
  · rename_i d hs hd
    split at h
    · obtain rfl := rep_v.1 ha
      cases h
      refine ⟨_, ?_, .v _⟩
      simp only [convert, underlying, Sem.run_bind, run_program, Result.andThen_ok, hs, hd, Sem.run_pure]
    · cases h
  · cases h
end Go.Vm

/- The virtual machine, part 5: more operations that only compute or read; all of them together (stepF). Generic: no program in sight. -/
set_option linter.unusedVariables false
set_option linter.unusedSimpArgs false
namespace Go.Vm
open Go.RowKit

/-! ### Parts -/
def pPart (P : Program) (t : TypeId) (cs : List SV) (off : Nat) : Option SV :=
  if (P.underlying t).isSome then (if isAggT P t then (if off + P.cellsOf t ≤ cs.length then some (.agg ((cs.drop off).take (P.cellsOf t))) else none) else cs[off]?) else none
theorem pPart_sound {P : Program} {R : Env} {t : TypeId} {cs : List SV} {off : Nat} {r : SV} {a : Array Value} (h : pPart P t cs off = some r) (hl : a.size = cs.length)
    (ha : ∀ (i : Nat) (hi : i < cs.length) (hj : i < a.size), Rep R cs[i] a[i]) : Snd P R (part t a off) r := by
  unfold pPart at h
  split at h
  · rename_i hs
    obtain ⟨d, hd⟩ := Option.isSome_iff_exists.1 hs
    simp only [Snd, part, Sem.run_bind, run_isAgg hd, Result.andThen_ok]
    split at h
    · rename_i hagg
      split at h
      · rename_i hle
        cases h
        simp only [hagg, if_true, Sem.run_bind, run_sizeOf hd, Result.andThen_ok, Sem.run_pure]
        refine ⟨_, rfl, .agg _ _ (by simp; omega) fun i hi hj => ?_⟩
        simp only [List.getElem_take, List.getElem_drop, Array.getElem_extract]
        simp at hi hj
        exact ha (off + i) (by omega) (by omega)
      · cases h
    · rename_i hagg
      have hlt := lt_of_some h
      rw [List.getElem?_eq_getElem hlt] at h
      cases h
      have hagg' : isAggT P t = false := by simpa using hagg
      simp only [hagg', if_false, Bool.false_eq_true]
      have : a[off]? = some (a[off]'(by omega)) := Array.getElem?_eq_getElem (by omega)
      rw [this]
      exact ⟨_, rfl, ha off hlt (by omega)⟩
  · cases h
def pField (P : Program) (t : TypeId) (f : Nat) : SV → Option SV
  | .agg cs => match P.underlying t with
    | some (.struct fields) => match fields[f]? with
      | some fd => pPart P fd.type cs fd.offset
      | none => none
    | _ => none
  | _ => none
theorem pField_sound {P : Program} {R : Env} {t : TypeId} {f : Nat} {sx r : SV} {a : Value} (h : pField P t f sx = some r) (ha : Rep R sx a) : Snd P R (Instr.field t a f) r := by
  unfold pField at h
  split at h
  · cases ha with
    | agg cs arr hl hh =>
      split at h
      · rename_i fields hu
        split at h
        · rename_i fd hf
          obtain ⟨v, h1, h2⟩ := pPart_sound h hl hh
          refine ⟨v, ?_, h2⟩
          simp only [Instr.field, Sem.run_bind, run_underlying hu, Result.andThen_ok, hf, asAgg, Sem.run_pure, h1]
        · cases h
      · cases h
  · cases h

/-! ### Addresses -/
def pAdd (H : List VB) (k : Nat) : SV → Option SV
  | .ptr id off => some (.ptr id (off + k))
  | .ro cs => some (.ro (cs.drop k))
  | .rptr id g i o => match H[id]? with
    | some (.row g' _ xs) => if g = g' ∧ i < xs.length then some (.rptr id g i (o + k)) else none
    | _ => none
  | _ => none
theorem pAdd_sound {R : Env} {k : Nat} {sx r : SV} {a : Value} (h : pAdd R.H k sx = some r) (ha : Rep R sx a) : ∃ b o, a = .pointer (some ⟨b, o, none⟩) ∧ Rep R r (.pointer (some ⟨b, o + k, none⟩)) := by
  cases ha with
  | ptr id off a hid hb hρ hs =>
    cases h
    exact ⟨_, _, rfl, by rw [Nat.add_assoc]; exact .ptr id (off + k) a hid hb hρ hs⟩
  | ro cs b o f hi hc hz h' =>
    cases h
    refine ⟨b, o, rfl, .ro _ b (o + k) (fun j => f (k + j)) hi (fun j hj => ?_) hz fun j hj => ?_⟩
    · simp at hj
      rw [Nat.add_assoc]
      exact hc (k + j) (by omega)
    · simp at hj
      simpa using h' (k + j) (by omega)
  | rptr id g i o n xs a hr hi hρ hs =>
    simp only [pAdd, hr, true_and, hi, if_true] at h
    cases h
    exact ⟨_, _, rfl, by rw [Nat.add_assoc]; exact .rptr id g i (o + k) n xs a hr hi hρ hs⟩
  | rptrOld id g i o y hid hr =>
    simp only [pAdd] at h
    split at h
    · rename_i g' n xs hc
      have := hr g' n xs hc
      rw [if_neg (by omega)] at h
      cases h
    · cases h
  | _ => cases h
def pFieldAddr (P : Program) (H : List VB) (t : TypeId) (f : Nat) (x : SV) : Option SV :=
  match P.underlying t with
  | some (.struct fields) => match fields[f]? with
    | some fd => if (P.underlying fd.type).isSome ∧ P.cellsOf fd.type ≠ 0 then pAdd H fd.offset x else none
    | none => none
  | _ => none
theorem pFieldAddr_sound {P : Program} {R : Env} {t : TypeId} {f : Nat} {sx r : SV} {a : Value} (h : pFieldAddr P R.H t f sx = some r) (ha : Rep R sx a) : Snd P R (Instr.fieldAt t a f) r := by
  unfold pFieldAddr at h
  split at h
  · rename_i fields hu
    split at h
    · rename_i fd hf
      split at h
      · rename_i hc
        obtain ⟨d, hd⟩ := Option.isSome_iff_exists.1 hc.1
        obtain ⟨b, o, rfl, hr⟩ := pAdd_sound h ha
        refine ⟨_, ?_, hr⟩
        simp only [Instr.fieldAt, Sem.run_bind, run_underlying hu, Result.andThen_ok, hf, Instr.sureAddr, Sem.run_pure, fieldPlace, run_sizeOf hd, hc.2, if_false, add_plain]
      · cases h
    · cases h
  · cases h
def pIndexAddr (P : Program) (H : List VB) (t : TypeId) (x i : SV) : Option SV :=
  match i with
  | .v (.int _ k) => match P.underlying t with
    | some (.array len e) => if 0 ≤ k ∧ k < len ∧ (P.underlying e).isSome then pAdd H (k.toNat * P.cellsOf e) x else none
    | some (.slice e) => if 0 ≤ k ∧ (P.underlying e).isSome then (match x with
      | .list n _ xs => if n = P.cellsOf e then (xs[k.toNat]?).map fun z => .ro z.cells else none
      | .slc id g off len => match H[id]? with
        | some (.row g' n xs) => if g = g' ∧ n = P.cellsOf e ∧ k < len ∧ off + len ≤ xs.length then some (.rptr id g (off + k.toNat) 0) else none
        | _ => none
      | .bsl id off n len _ => if n = P.cellsOf e ∧ k < len then some (.ptr id (off + k.toNat * n)) else none
      | _ => none) else none
    | _ => none
  | _ => none
theorem pIndexAddr_sound {P : Program} {R : Env} (hR : HRep R) {t : TypeId} {sx si r : SV} {a i : Value} (h : pIndexAddr P R.H t sx si = some r) (ha : Rep R sx a) (hi : Rep R si i) : Snd P R (Instr.indexAt t a i) r := by
  unfold pIndexAddr at h
  split at h
  · rename_i kk k
    obtain rfl := rep_v.1 hi
    split at h
    · rename_i len e hu
      split at h
      · rename_i hc
        obtain ⟨h0, h1, hs⟩ := hc
        obtain ⟨d, hd⟩ := Option.isSome_iff_exists.1 hs
        obtain ⟨b, o, rfl, hr⟩ := pAdd_sound h ha
        refine ⟨_, ?_, hr⟩
        simp only [Instr.indexAt, asIntOf, Sem.run_bind, Sem.run_pure, run_underlying hu, Result.andThen_ok, Instr.sureAddr, h0, h1, and_self, if_true, run_sizeOf hd, add_plain]
      · cases h
    · rename_i e hu
      split at h
      · rename_i hc
        obtain ⟨h0, hs⟩ := hc
        obtain ⟨d, hd⟩ := Option.isSome_iff_exists.1 hs
        have fin : ∀ (b o len c : Nat), k < len → Rep R r (.pointer (some ⟨b, o + k.toNat * P.cellsOf e, none⟩)) → Snd P R (Instr.indexAt t (.slice (some ⟨b, o, none⟩) len c) (.int kk k)) r := by
          intro b o len c hk hr
          refine ⟨_, ?_, hr⟩
          simp only [Instr.indexAt, asIntOf, Sem.run_bind, Sem.run_pure, run_underlying hu, Result.andThen_ok, h0, hk, and_self, if_true, run_sizeOf hd, add_plain]
        split at h
        · rename_i n full xs
          split at h
          · rename_i hn
            obtain ⟨z, hz, rfl⟩ := Option.map_eq_some_iff.1 h
            have hlt := lt_of_some hz
            rw [List.getElem?_eq_getElem hlt] at hz
            cases hz
            cases ha with
            | list n' full' xs' x c f hc hfull hnn hcells h' =>
              rcases hcells with h0' | ⟨b, o, rfl, h2, h3⟩
              · subst h0'; cases hlt
              · have e1 := hnn _ (List.getElem_mem hlt)
                have h4 : (k.toNat + 1) * n ≤ xs.length * n := Nat.mul_le_mul_right n hlt
                have h5 : (k.toNat + 1) * n = k.toNat * n + n := Nat.succ_mul _ n
                have hz := h2.1
                refine fin b o _ c (by omega) ?_
                rw [← hn]
                refine .ro _ b (o + k.toNat * n) (fun j => f (k.toNat * n + j)) h2 (fun j hj => ?_) hz fun j hj => h' _ hlt j hj
                rw [Nat.add_assoc]
                exact h3 _ (by omega)
          · cases h
        · rename_i id g off len
          split at h
          · rename_i g' n xs hrow
            split at h
            · rename_i hcc
              obtain ⟨rfl, hn, hk, hle⟩ := hcc
              cases h
              cases ha with
              | slc id' g' off' len' n' xs' x c hr hle' hc' ha' =>
                obtain ⟨a, q1, rfl, q3⟩ := ha' (by omega)
                rw [hrow] at hr
                cases hr
                refine fin _ _ _ c hk ?_
                rw [← hn]
                have hs' := (hR.addr id a (Env.row_live hrow) q1).1
                have := Rep.rptr (R := R) id g (off + k.toNat) 0 n xs a hrow (by omega) q1 hs'
                rwa [Nat.add_zero, Nat.add_mul, ← Nat.add_assoc] at this
              | slcOld id' g' off' len' y hid hr =>
                have := hr _ _ _ hrow
                omega
            · cases h
          · cases h
        · rename_i id off n len c
          split at h
          · rename_i hcc
            obtain ⟨hn, hk⟩ := hcc
            cases h
            cases ha with
            | bsl id' off' n' len' c' x hid hb hle ha' =>
              obtain ⟨a, q1, q2, rfl⟩ := ha' (by omega)
              refine fin _ _ _ c hk ?_
              rw [← hn, Nat.add_assoc]
              exact .ptr id _ a hid hb q1 q2
          · cases h
        · cases h
      · cases h
    · cases h
  · cases h

/-! ### Index, slice -/
def pIndex (P : Program) (t : TypeId) (x i : SV) : Option SV :=
  match i with
  | .v (.int _ k) => match P.underlying t, x with
    | some .string, .v (.string s) => if 0 ≤ k then (s[k.toNat]?).map byteSV else none
    | some (.array len e), .agg cs => if 0 ≤ k ∧ k < len ∧ (P.underlying e).isSome then pPart P e cs (k.toNat * P.cellsOf e) else none
    | _, _ => none
  | _ => none
theorem pIndex_sound {P : Program} {R : Env} {t : TypeId} {sx si r : SV} {a i : Value} (h : pIndex P t sx si = some r) (ha : Rep R sx a) (hi : Rep R si i) : Snd P R (Instr.index t a i) r := by
  unfold pIndex at h
  split at h
  · rename_i kk k
    obtain rfl := rep_v.1 hi
    split at h
    · rename_i s hu
      obtain rfl := rep_v.1 ha
      split at h
      · rename_i h0
        obtain ⟨b, hb, rfl⟩ := Option.map_eq_some_iff.1 h
        refine ⟨_, ?_, .v _⟩
        simp only [Instr.index, asIntOf, Sem.run_bind, Sem.run_pure, run_underlying hu, Result.andThen_ok, h0, if_true, hb]
      · cases h
    · rename_i len e cs hu
      split at h
      · rename_i hc
        obtain ⟨h0, h1, hs⟩ := hc
        obtain ⟨d, hd⟩ := Option.isSome_iff_exists.1 hs
        cases ha with
        | agg cs' arr hl hh =>
          obtain ⟨v, p1, p2⟩ := pPart_sound h hl hh
          refine ⟨v, ?_, p2⟩
          simp only [Instr.index, asIntOf, Sem.run_bind, Sem.run_pure, run_underlying hu, Result.andThen_ok, h0, h1, and_self, if_true, run_sizeOf hd, p1]
      · cases h
    · cases h
  · cases h
/-- The bounds of a slice expression: from, to, the end of what may be grown into. -/
def pBnd (top : Nat) : SV → Option Nat
  | .v (.int _ k) => if 0 ≤ k ∧ k ≤ top then some k.toNat else none
  | _ => none
def pBounds (len cap : Nat) (lo hi mx : Option SV) : Option (Nat × Nat × Nat) :=
  match (match mx with | none => some cap | some x => pBnd cap x) with
  | none => none
  | some m => match (match hi with | none => (if mx.isNone ∧ len ≤ m then some len else none) | some x => pBnd m x) with
    | none => none
    | some h => match (match lo with | none => some 0 | some x => pBnd h x) with
      | none => none
      | some l => some (l, h, m)
def RepO (R : Env) : Option SV → Option Value → Prop
  | none, none => True
  | some x, some y => Rep R x y
  | _, _ => False
theorem run_sliceBound {P : Program} {R : Env} {top c k : Nat} {x : SV} {y : Value} (h : pBnd top x = some k) (hc : top ≤ c) (hr : Rep R x y) (code : BoundsCode) :
    (Instr.sliceBound y c code).run P R.w = .ok k R.w ∧ k ≤ top := by
  unfold pBnd at h
  split at h
  · rename_i kk n
    obtain rfl := rep_v.1 hr
    split at h
    · rename_i hn
      cases h
      refine ⟨?_, by omega⟩
      have h1 : 0 ≤ n ∧ n ≤ (c : Int) := ⟨hn.1, by omega⟩
      simp only [Instr.sliceBound, asIntOf, Sem.run_bind, Sem.run_pure, Result.andThen_ok, h1, and_self, if_true]
    · cases h
  · cases h
theorem pBounds_sound {P : Program} {R : Env} {len cap c l h m : Nat} {lo hi mx : Option SV} {lo' hi' mx' : Option Value} (hb : pBounds len cap lo hi mx = some (l, h, m)) (hc : cap ≤ c)
    (h1 : RepO R lo lo') (h2 : RepO R hi hi') (h3 : RepO R mx mx') (sl : Bool) :
    (Instr.sliceBounds sl len c lo' hi' mx').run P R.w = .ok (l, h, if mx.isNone then c else m) R.w ∧ l ≤ h ∧ h ≤ m ∧ m ≤ cap ∧ (mx.isNone → m = cap) := by
  unfold pBounds at hb
  split at hb
  · cases hb
  · rename_i m' hm
    split at hb
    · cases hb
    · rename_i h' hh
      split at hb
      · cases hb
      · rename_i l' hl
        cases hb
        have sb := fun (top c k : Nat) (x : SV) (y : Value) (e : pBnd top x = some k) (q : top ≤ c) (r : Rep R x y) => fun code => run_sliceBound (P := P) e q r code
        cases mx with
        | none =>
          cases mx' with
          | some _ => exact h3.elim
          | none =>
            simp only [Option.some.injEq] at hm
            subst hm
            cases hi with
            | none =>
              cases hi' with
              | some _ => exact h2.elim
              | none =>
                simp only [Option.isNone_none, true_and] at hh
                split at hh
                · rename_i hle
                  simp only [Option.some.injEq] at hh
                  subst hh
                  cases lo with
                  | none =>
                    cases lo' with
                    | some _ => exact h1.elim
                    | none =>
                      simp only [Option.some.injEq] at hl
                      subst hl
                      exact ⟨rfl, Nat.zero_le _, hle, Nat.le_refl _, fun _ => rfl⟩
                  | some x =>
                    cases lo' with
                    | none => exact h1.elim
                    | some y =>
                      have q := sb _ len _ _ _ hl (Nat.le_refl _) h1
                      refine ⟨?_, (q .sliceB).2, hle, Nat.le_refl _, fun _ => rfl⟩
                      simp only [Instr.sliceBounds, Sem.run_bind, Sem.run_pure, Result.andThen_ok, (q _).1, Option.isNone_none, if_true]
                · cases hh
            | some xh =>
              cases hi' with
              | none => exact h2.elim
              | some yh =>
                have qh := sb _ c _ _ _ hh hc h2
                cases lo with
                | none =>
                  cases lo' with
                  | some _ => exact h1.elim
                  | none =>
                    simp only [Option.some.injEq] at hl
                    subst hl
                    refine ⟨?_, Nat.zero_le _, (qh .sliceB).2, Nat.le_refl _, fun _ => rfl⟩
                    simp only [Instr.sliceBounds, Sem.run_bind, Sem.run_pure, Result.andThen_ok, (qh _).1, Option.isNone_none, if_true]
                | some x =>
                  cases lo' with
                  | none => exact h1.elim
                  | some y =>
                    have q := sb _ h _ _ _ hl (Nat.le_refl _) h1
                    refine ⟨?_, (q .sliceB).2, (qh .sliceB).2, Nat.le_refl _, fun _ => rfl⟩
                    simp only [Instr.sliceBounds, Sem.run_bind, Sem.run_pure, Result.andThen_ok, (qh _).1, (q _).1, Option.isNone_none, if_true]
        | some x =>
          cases mx' with
          | none => exact h3.elim
          | some y =>
            have qm := sb _ c _ _ _ hm hc h3
            cases hi with
            | none => simp at hh
            | some xh =>
              cases hi' with
              | none => exact h2.elim
              | some yh =>
                have qh := sb _ m _ _ _ hh (Nat.le_refl _) h2
                cases lo with
                | none =>
                  cases lo' with
                  | some _ => exact h1.elim
                  | none =>
                    simp only [Option.some.injEq] at hl
                    subst hl
                    refine ⟨?_, Nat.zero_le _, (qh .sliceB).2, (qm .sliceB).2, fun h => by simp at h⟩
                    simp only [Instr.sliceBounds, Sem.run_bind, Sem.run_pure, Result.andThen_ok, (qm _).1, (qh _).1, Option.isNone_some, Bool.false_eq_true, if_false]
                | some x =>
                  cases lo' with
                  | none => exact h1.elim
                  | some yl =>
                    have q := sb _ h _ _ _ hl (Nat.le_refl _) h1
                    refine ⟨?_, (q .sliceB).2, (qh .sliceB).2, (qm .sliceB).2, fun h => by simp at h⟩
                    simp only [Instr.sliceBounds, Sem.run_bind, Sem.run_pure, Result.andThen_ok, (qm _).1, (qh _).1, (q _).1, Option.isNone_some, Bool.false_eq_true, if_false]
end Go.Vm

/- The virtual machine, part 6: slice expressions, composite literals, builtins that only read; all of them together (stepF). Generic: no program in sight. -/
set_option linter.unusedVariables false
set_option linter.unusedSimpArgs false
namespace Go.Vm
open Go.RowKit

def pSliceS (H : List VB) (n : Nat) (x : SV) (lo hi mx : Option SV) : Option SV :=
  match x with
  | .list n' f xs => if n' = n then (match pBounds xs.length xs.length lo hi mx with
      | some (l, h, m) => some (.list n ((mx.isSome && m == h) || (mx.isNone && f && h == xs.length)) ((xs.drop l).take (h - l)))
      | none => none) else none
  | .slc id g off len => match H[id]? with
    | some (.row g' n' xs) => if g = g' ∧ n' = n ∧ off + len ≤ xs.length then (match pBounds len len lo hi mx with
      | some (l, h, _) => some (.slc id g (off + l) (h - l))
      | none => none) else none
    | _ => none
  | .bsl id off n' len cap => if n' = n then (match pBounds len cap lo hi mx with
      | some (l, h, m) => some (.bsl id (off + l * n) n (h - l) (m - l))
      | none => none) else none
  | .v (.slice none 0 0) => match pBounds 0 0 lo hi mx with
      | some _ => some (.v (.slice none 0 0))
      | none => none
  | _ => none
def pSliceA (n size : Nat) (x : SV) (lo hi mx : Option SV) : Option SV :=
  match x with
  | .ptr id off => match pBounds n n lo hi mx with
    | some (l, h, m) => some (.bsl id (off + l * size) size (h - l) (m - l))
    | none => none
  | _ => none
def pSlice (P : Program) (H : List VB) (t : TypeId) (x : SV) (lo hi mx : Option SV) : Option SV :=
  match P.underlying t with
  | some .string => match x, mx with
    | .v (.string s), none => match pBounds s.size s.size lo hi none with
      | some (l, h, _) => some (.v (.string (s.extract l h)))
      | none => none
    | _, _ => none
  | some (.slice e) => if (P.underlying e).isSome then pSliceS H (P.cellsOf e) x lo hi mx else none
  | some (.array n e) => if (P.underlying e).isSome then pSliceA n (P.cellsOf e) x lo hi mx else none
  | some (.pointer arr) => match P.underlying arr with
    | some (.array n e) => if (P.underlying e).isSome then pSliceA n (P.cellsOf e) x lo hi mx else none
    | _ => none
  | _ => none
theorem pSliceS_sound {P : Program} {R : Env} (hR : HRep R) {t e : TypeId} {d : TypeDesc} (hu : P.underlying t = some (.slice e)) (hd : P.underlying e = some d) {x r : SV} {lo hi mx : Option SV} {a : Value} {lo' hi' mx' : Option Value}
    (h : pSliceS R.H (P.cellsOf e) x lo hi mx = some r) (ha : Rep R x a) (h1 : RepO R lo lo') (h2 : RepO R hi hi') (h3 : RepO R mx mx') : Snd P R (Instr.sliceAt t a lo' hi' mx') r := by
  have run : ∀ (ad : Option Addr) (len c l hh m : Nat), (Instr.sliceBounds true len c lo' hi' mx').run P R.w = .ok (l, hh, m) R.w →
      (Instr.sliceAt t (.slice ad len c) lo' hi' mx').run P R.w = .ok (.slice (if m = l then ad else ad.map (·.add (l * P.cellsOf e))) (hh - l) (m - l)) R.w := by
    intro ad len c l hh m hb
    simp only [Instr.sliceAt, Sem.run_bind, run_underlying hu, Result.andThen_ok, Instr.slice, hb, run_sizeOf hd, Sem.run_pure]
  unfold pSliceS at h
  split at h
  · rename_i n' f xs
    split at h
    · rename_i hn
      split at h
      · rename_i l hh m hb
        cases h
        cases ha with
        | list n2 full xs' ad c g hc hfull hnn hcells h' =>
          obtain ⟨q1, q2, q3, q4, q5⟩ := pBounds_sound (P := P) hb hc h1 h2 h3 true
          refine ⟨_, run _ _ _ _ _ _ q1, ?_⟩
          have hlen : ((xs.drop l).take (hh - l)).length = hh - l := by simp; omega
          have hm' : hh ≤ (if mx.isNone = true then c else m) := by split <;> omega
          have := Rep.list (R := R) (P.cellsOf e) ((mx.isSome && m == hh) || (mx.isNone && f && hh == xs.length)) ((xs.drop l).take (hh - l))
            (if (if mx.isNone = true then c else m) = l then ad else ad.map (·.add (l * P.cellsOf e))) ((if mx.isNone = true then c else m) - l) (fun j => g (l * P.cellsOf e + j)) (by omega) ?_ ?_ ?_ ?_
          · rwa [hlen] at this
          · intro hf
            rw [hlen]
            simp only [Bool.or_eq_true, Bool.and_eq_true, beq_iff_eq, Option.isSome_iff_ne_none] at hf
            rcases hf with ⟨hs, he⟩ | ⟨⟨hs, hf⟩, he⟩
            · have : mx.isNone = false := by cases mx <;> simp_all
              rw [this]; simp [he]
            · rw [hs]
              have := hfull hf
              simp only [if_true]
              omega
          · intro z hz
            rw [← hn]
            exact hnn z (List.mem_of_mem_drop (List.mem_of_mem_take hz))
          · by_cases h0 : hh - l = 0
            · exact .inl (List.eq_nil_of_length_eq_zero (hlen.trans h0))
            · right
              rcases hcells with h0' | ⟨b, o, rfl, p2, p3⟩
              · have : xs.length = 0 := by rw [h0']; rfl
                omega
              · refine ⟨b, o + l * P.cellsOf e, ?_, p2, fun j hj => ?_⟩
                · rw [if_neg (by omega)]
                  simp only [Option.map_some, add_plain]
                · rw [hlen] at hj
                  rw [Nat.add_assoc]
                  refine p3 _ ?_
                  rw [hn]
                  have e1 : hh * P.cellsOf e ≤ xs.length * P.cellsOf e := Nat.mul_le_mul_right _ (by omega)
                  have e2 : hh * P.cellsOf e = (hh - l) * P.cellsOf e + l * P.cellsOf e := by rw [← Nat.add_mul]; congr 1; omega
                  omega
          · intro i hi j hj
            have hil : i < hh - l := by rw [hlen] at hi; exact hi
            have hi' : l + i < xs.length := by omega
            have eg : ((xs.drop l).take (hh - l))[i] = xs[l + i] := by simp
            have hj' : j < xs[l + i].cells.length := by rw [← eg]; exact hj
            have := h' (l + i) hi' j hj'
            simp only [eg]
            rwa [hn, Nat.add_mul, Nat.add_assoc] at this
      · cases h
    · cases h
  · rename_i id g off len
    split at h
    · rename_i g' n' xs hrow
      split at h
      · rename_i hc
        obtain ⟨rfl, hn, hle⟩ := hc
        split at h
        · rename_i l hh m hb
          cases h
          cases ha with
          | slc id' g2 off' len' n2 xs2 x c hr hle' hc' ha' =>
            rw [hrow] at hr
            cases hr
            obtain ⟨q1, q2, q3, q4, q5⟩ := pBounds_sound (P := P) hb hc' h1 h2 h3 true
            refine ⟨_, run _ _ _ _ _ _ q1, ?_⟩
            have hm' : hh ≤ (if mx.isNone = true then c else m) := by split <;> omega
            have hm2 : (if mx.isNone = true then c else m) ≤ c := by split <;> omega
            generalize (if mx.isNone = true then c else m) = m' at *
            refine .slc id g (off + l) (hh - l) n' xs _ (m' - l) hrow (by omega) (by omega) fun hp => ?_
            obtain ⟨a, p1, rfl, p3⟩ := ha' (by omega)
            refine ⟨a, p1, ?_, ?_⟩
            · rw [if_neg (by omega)]
              simp only [Option.map_some, add_plain, hn, Nat.add_mul, Nat.add_assoc]
            · have e1 : (off + l + (m' - l)) * n' ≤ (off + c) * n' := Nat.mul_le_mul_right _ (by omega)
              omega
          | slcOld id' g2 off' len' y hid hr =>
            have := hr _ _ _ hrow
            omega
        · cases h
      · cases h
    · cases h
  · rename_i id off n' len cap
    split at h
    · rename_i hn
      subst hn
      split at h
      · rename_i l hh m hb
        cases h
        cases ha with
        | bsl id' off' n2 len' c' x hid hbb hle ha' =>
          obtain ⟨q1, q2, q3, q4, q5⟩ := pBounds_sound (P := P) hb (Nat.le_refl _) h1 h2 h3 true
          refine ⟨_, run _ _ _ _ _ _ q1, ?_⟩
          have hm' : (if mx.isNone = true then cap else m) = m := by
            split
            · rename_i hs; exact (q5 hs).symm
            · rfl
          rw [hm']
          refine .bsl id _ _ (hh - l) (m - l) _ hid hbb (by omega) fun hp => ?_
          obtain ⟨a, p1, p2, rfl⟩ := ha' (by omega)
          refine ⟨a, p1, p2, ?_⟩
          rw [if_neg (by omega)]
          simp only [Option.map_some, add_plain, Nat.add_assoc]
      · cases h
    · cases h
  · split at h
    · rename_i y hb
      obtain ⟨l, hh, m⟩ := y
      cases h
      obtain rfl := rep_v.1 ha
      obtain ⟨q1, q2, q3, q4, q5⟩ := pBounds_sound (P := P) hb (Nat.le_refl _) h1 h2 h3 true
      refine ⟨_, run _ _ _ _ _ _ q1, ?_⟩
      have : (if mx.isNone = true then 0 else m) = 0 := by split <;> omega
      rw [this]
      have hl : l = 0 := by omega
      have hz : hh = 0 := by omega
      subst hl hz
      exact .v _
    · cases h
  · cases h
theorem pSliceA_sound {P : Program} {R : Env} {n size : Nat} {x r : SV} {lo hi mx : Option SV} {a : Value} {lo' hi' mx' : Option Value}
    (h : pSliceA n size x lo hi mx = some r) (ha : Rep R x a) (h1 : RepO R lo lo') (h2 : RepO R hi hi') (h3 : RepO R mx mx') :
    ∃ b o l hh m, a = .pointer (some ⟨b, o, none⟩) ∧ (Instr.sliceBounds false n n lo' hi' mx').run P R.w = .ok (l, hh, m) R.w ∧
      Rep R r (.slice (some (if m = l then ⟨b, o, none⟩ else (⟨b, o, none⟩ : Addr).add (l * size))) (hh - l) (m - l)) := by
  unfold pSliceA at h
  split at h
  · rename_i id off
    split at h
    · rename_i l hh m hb
      cases h
      cases ha with
      | ptr id' off' ad hid hbb hρ hs =>
        obtain ⟨q1, q2, q3, q4, q5⟩ := pBounds_sound (P := P) hb (Nat.le_refl _) h1 h2 h3 false
        have hm' : (if mx.isNone = true then n else m) = m := by
          split
          · rename_i hs; exact (q5 hs).symm
          · rfl
        rw [hm'] at q1
        refine ⟨_, _, l, hh, m, rfl, q1, .bsl id _ _ _ _ _ hid hbb (by omega) fun hp => ⟨ad, hρ, hs, ?_⟩⟩
        rw [if_neg (by omega), add_plain, Nat.add_assoc]
    · cases h
  · cases h
theorem pSlice_sound {P : Program} {R : Env} (hR : HRep R) {t : TypeId} {x r : SV} {lo hi mx : Option SV} {a : Value} {lo' hi' mx' : Option Value}
    (h : pSlice P R.H t x lo hi mx = some r) (ha : Rep R x a) (h1 : RepO R lo lo') (h2 : RepO R hi hi') (h3 : RepO R mx mx') : Snd P R (Instr.sliceAt t a lo' hi' mx') r := by
  unfold pSlice at h
  split at h
  · rename_i hu
    split at h
    · rename_i s
      obtain rfl := rep_v.1 ha
      split at h
      · rename_i l hh m hb
        cases h
        cases mx' with
        | some _ => exact h3.elim
        | none =>
          obtain ⟨q1, _⟩ := pBounds_sound (P := P) hb (Nat.le_refl _) h1 h2 h3 false
          refine ⟨_, ?_, .v _⟩
          simp only [Instr.sliceAt, Sem.run_bind, run_underlying hu, Result.andThen_ok, Instr.slice, Option.isSome_none, Bool.false_eq_true, if_false, q1, Sem.run_pure, pure_bind]
      · cases h
    · cases h
  · rename_i e hu
    split at h
    · rename_i hs
      obtain ⟨d, hd⟩ := Option.isSome_iff_exists.1 hs
      exact pSliceS_sound hR hu hd h ha h1 h2 h3
    · cases h
  · rename_i n e hu
    split at h
    · rename_i hs
      obtain ⟨d, hd⟩ := Option.isSome_iff_exists.1 hs
      obtain ⟨b, o, l, hh, m, rfl, q1, q2⟩ := pSliceA_sound (P := P) h ha h1 h2 h3
      refine ⟨_, ?_, q2⟩
      simp only [Instr.sliceAt, Sem.run_bind, run_underlying hu, Result.andThen_ok, Instr.sureAddr, q1, run_sizeOf hd, Sem.run_pure]
    · cases h
  · rename_i arr hu
    split at h
    · rename_i n e hu2
      split at h
      · rename_i hs
        obtain ⟨d, hd⟩ := Option.isSome_iff_exists.1 hs
        obtain ⟨b, o, l, hh, m, rfl, q1, q2⟩ := pSliceA_sound (P := P) h ha h1 h2 h3
        refine ⟨_, ?_, q2⟩
        simp only [Instr.sliceAt, Sem.run_bind, run_underlying hu, Result.andThen_ok, Instr.slice, asAddr, run_underlying hu2, q1, run_sizeOf hd, Sem.run_pure]
      · cases h
    · cases h
  · cases h
end Go.Vm

/- The virtual machine, part 7: composite literals, builtins that only read; all that only computes, together (stepF). Generic: no program in sight. -/
set_option linter.unusedVariables false
set_option linter.unusedSimpArgs false
namespace Go.Vm
open Go.RowKit

def CellsR (R : Env) (cs : List SV) (a : Array Value) : Prop := a.size = cs.length ∧ ∀ (i : Nat) (hi : i < cs.length) (hj : i < a.size), Rep R cs[i] a[i]
def svValid (H : List VB) : SV → Bool
  | .slc id g _ _ => match H[id]? with | some (.row g' _ _) => g' == g | _ => false
  | .rptr id g _ _ => match H[id]? with | some (.row g' _ _) => g' == g | _ => false
  | .junk => false
  | .tup _ => false
  | .v x => x.oneCell'
  | _ => true
theorem valid_cells {R : Env} {x : SV} {y : Value} (hv : svValid R.H x = true) (h : Rep R x y) : CellsR R x.cells y.cells := by
  have one : ∀ (x : SV) (y : Value), x.cells = [x] → y.cells = #[y] → Rep R x y → CellsR R x.cells y.cells := by
    intro x y h1 h2 h3
    refine ⟨by simp [h1, h2], fun i hi hj => ?_⟩
    have h0 : i = 0 := by rw [h1] at hi; simpa using hi
    subst h0
    simpa [h1, h2] using h3
  cases h with
  | junk => simp [svValid] at hv
  | v x =>
    refine one _ _ rfl ?_ (.v _)
    cases y <;> first | rfl | (simp [svValid, Value.oneCell'] at hv; done)
  | agg cs a hl h => exact ⟨hl, h⟩
  | tup cs a hl h => simp [svValid] at hv
  | ptr id off a hid hb hρ hs => exact one _ _ rfl rfl (.ptr id off a hid hb hρ hs)
  | ro cs b o f hi hc hz h => exact one _ _ rfl rfl (.ro cs b o f hi hc hz h)
  | list n full xs a c f hc hfull hn ha h => exact one _ _ rfl rfl (.list n full xs a c f hc hfull hn ha h)
  | slc id g off len n xs x c hr hle hc ha => exact one _ _ rfl rfl (.slc id g off len n xs x c hr hle hc ha)
  | slcOld id g off len y hid hr =>
    simp only [svValid] at hv
    split at hv
    · rename_i g' n xs hc
      have h1 := hr g' n xs hc
      have h2 : g' = g := by simpa using hv
      omega
    · cases hv
  | rptr id g i o n xs a hr hi hρ hs => exact one _ _ rfl rfl (.rptr id g i o n xs a hr hi hρ hs)
  | rptrOld id g i o y hid hr =>
    simp only [svValid] at hv
    split at hv
    · rename_i g' n xs hc
      have h1 := hr g' n xs hc
      have h2 : g' = g := by simpa using hv
      omega
    · cases hv
  | fn fi cs a hl h => exact one _ _ rfl rfl (.fn fi cs a hl h)
  | mapv id b hid hb hρ => exact one _ _ rfl rfl (.mapv id b hid hb hρ)
  | bsl id off n len cap x hid hb hle ha => exact one _ _ rfl rfl (.bsl id off n len cap x hid hb hle ha)
theorem CellsR.mono {R R' : Env} (e : Ext R R') {cs : List SV} {a : Array Value} (h : CellsR R cs a) : CellsR R' cs a := ⟨h.1, fun i hi hj => (h.2 i hi hj).mono e⟩
def lput (l : List SV) (off : Nat) (vs : List SV) : List SV := l.take off ++ vs ++ l.drop (off + vs.length)
theorem lput_length {l : List SV} {off : Nat} {vs : List SV} (h : off + vs.length ≤ l.length) : (lput l off vs).length = l.length := by
  simp [lput]; omega
theorem lput_get {l : List SV} {off : Nat} {vs : List SV} (h : off + vs.length ≤ l.length) (k : Nat) :
    (lput l off vs)[k]? = if off ≤ k ∧ k < off + vs.length then vs[k - off]? else l[k]? := by
  unfold lput
  by_cases h1 : k < off
  · rw [if_neg (by omega), List.append_assoc, List.getElem?_append_left (by simp; omega), List.getElem?_take_of_lt h1]
  · by_cases h2 : k < off + vs.length
    · rw [if_pos (by omega), List.getElem?_append_left (by simp; omega), List.getElem?_append_right (by simp; omega)]
      simp [Nat.min_eq_left (show off ≤ l.length by omega)]
    · rw [if_neg (by omega), List.getElem?_append_right (by simp; omega)]
      simp only [List.length_append, List.length_take, List.getElem?_drop]
      congr 1
      omega
theorem foldl_put (off : Nat) : ∀ (vs : List Value) (s : Nat) (cs : Array Value), off + s + vs.length ≤ cs.size →
    ((vs.zipIdx s).foldl (fun cs (p : Value × Nat) => cs.setIfInBounds (off + p.2) p.1) cs).size = cs.size ∧
    ∀ k, ((vs.zipIdx s).foldl (fun cs (p : Value × Nat) => cs.setIfInBounds (off + p.2) p.1) cs)[k]? = if off + s ≤ k ∧ k < off + s + vs.length then vs[k - off - s]? else cs[k]?
  | [], s, cs, h => by
    refine ⟨rfl, fun k => ?_⟩
    rw [if_neg (by simp)]
    rfl
  | v :: vs, s, cs, h => by
    simp only [List.length_cons] at h
    have ih := foldl_put off vs (s + 1) (cs.setIfInBounds (off + s) v) (by simp; omega)
    simp only [List.zipIdx_cons, List.foldl_cons]
    refine ⟨by rw [ih.1]; simp, fun k => ?_⟩
    rw [ih.2 k]
    by_cases h1 : k = off + s
    · subst h1
      rw [if_neg (by omega), if_pos (by simp)]
      simp [show off + s < cs.size by omega]
    · by_cases h2 : off + (s + 1) ≤ k ∧ k < off + (s + 1) + vs.length
      · rw [if_pos h2, if_pos (by simp; omega)]
        rw [show k - off - s = (k - off - (s + 1)) + 1 by omega, List.getElem?_cons_succ]
      · rw [if_neg h2, if_neg (by simp; omega), Array.getElem?_setIfInBounds_ne (by omega)]
theorem put_cells {R : Env} {cs vs : List SV} {a b : Array Value} {off : Nat} (h : CellsR R cs a) (hv : CellsR R vs b) (hle : off + vs.length ≤ cs.length) :
    CellsR R (lput cs off vs) (b.zipIdx.foldl (fun cs (p : Value × Nat) => cs.setIfInBounds (off + p.2) p.1) a) := by
  have e : b.zipIdx.foldl (fun cs (p : Value × Nat) => cs.setIfInBounds (off + p.2) p.1) a = (b.toList.zipIdx 0).foldl (fun cs (p : Value × Nat) => cs.setIfInBounds (off + p.2) p.1) a := by
    rw [← Array.foldl_toList, Array.toList_zipIdx]
  have f := foldl_put off b.toList 0 a (by simp; have := h.1; have := hv.1; omega)
  rw [e]
  refine ⟨by rw [f.1, lput_length hle]; exact h.1, fun i hi hj => ?_⟩
  have g1 := lput_get hle i
  have g2 := f.2 i
  rw [List.getElem?_eq_getElem hi] at g1
  rw [Array.getElem?_eq_getElem hj] at g2
  have hs : b.toList.length = vs.length := by simp [hv.1]
  rw [hs] at g2
  by_cases hc : off ≤ i ∧ i < off + vs.length
  · rw [if_pos hc] at g1
    rw [if_pos (by omega)] at g2
    have h1 : i - off < vs.length := by omega
    have h2 : i - off < b.size := by rw [hv.1]; omega
    rw [List.getElem?_eq_getElem h1] at g1
    simp only [Nat.sub_zero, Array.getElem?_toList, Array.getElem?_eq_getElem h2] at g2
    injection g1 with g1
    injection g2 with g2
    rw [g1, g2]
    exact hv.2 _ h1 h2
  · rw [if_neg hc] at g1
    rw [if_neg (by omega)] at g2
    have h1 : i < cs.length := by rw [lput_length hle] at hi; exact hi
    have h2 : i < a.size := by rw [h.1]; exact h1
    rw [List.getElem?_eq_getElem h1] at g1
    rw [Array.getElem?_eq_getElem h2] at g2
    injection g1 with g1
    injection g2 with g2
    rw [g1, g2]
    exact h.2 _ h1 h2
end Go.Vm

/- The virtual machine, part 8: composite literals, builtins that only read; all that only computes, together (stepF). Generic: no program in sight. -/
set_option linter.unusedVariables false
set_option linter.unusedSimpArgs false
namespace Go.Vm
open Go.RowKit

/-! ### Composite literals -/
def vfill (H : List VB) (place : Nat → Option (Nat × Nat)) : List SV → List (Nat × SV) → Option (List SV)
  | cells, [] => some cells
  | cells, (i, x) :: rest => match place i with
    | none => none
    | some (off, size) => if svValid H x = true ∧ x.cells.length = size ∧ off + size ≤ cells.length then vfill H place (lput cells off x.cells) rest else none
def PartsR (R : Env) (ps : List (Nat × SV)) (vs : List (Nat × Value)) : Prop := vs.length = ps.length ∧ ∀ (i : Nat) (hi : i < ps.length) (hj : i < vs.length), vs[i].1 = ps[i].1 ∧ Rep R ps[i].2 vs[i].2
theorem vfill_sound {R : Env} {place : Nat → Option (Nat × Nat)} : ∀ (ps : List (Nat × SV)) (vs : List (Nat × Value)) (cells r : List SV) (arr : Array Value), vfill R.H place cells ps = some r → CellsR R cells arr → PartsR R ps vs →
    ∃ arr', Instr.fill place arr vs = some arr' ∧ CellsR R r arr'
  | [], [], cells, r, arr, h, hc, hp => by cases h; exact ⟨arr, rfl, hc⟩
  | [], _ :: _, cells, r, arr, h, hc, hp => by have := hp.1; simp at this
  | _ :: _, [], cells, r, arr, h, hc, hp => by have := hp.1; simp at this
  | (i, x) :: ps, (j, v) :: vs, cells, r, arr, h, hc, hp => by
    have h0 := hp.2 0 (by simp) (by simp)
    simp only [List.getElem_cons_zero] at h0
    obtain ⟨rfl, hv⟩ := h0
    simp only [vfill] at h
    cases hpl : place j with
    | none => rw [hpl] at h; cases h
    | some os =>
      obtain ⟨off, size⟩ := os
      rw [hpl] at h
      simp only at h
      split at h
      · rename_i hcc
        obtain ⟨q1, q2, q3⟩ := hcc
        have hvc := valid_cells q1 hv
        have hput := put_cells (off := off) hc hvc (by omega)
        obtain ⟨arr', p1, p2⟩ := vfill_sound ps vs _ r _ h hput ⟨by have := hp.1; simp at this; exact this, fun k hk hk' => by have := hp.2 (k + 1) (by simp; exact hk) (by simp; exact hk'); simpa using this⟩
        refine ⟨arr', ?_, p2⟩
        simp only [Instr.fill, hpl]
        have e1 : v.cells.size = size := by rw [hvc.1]; exact q2
        have e2 : ¬ (v.cells.size ≠ size ∨ off + v.cells.size > arr.size) := by rw [e1, hc.1]; omega
        rw [if_neg (by simpa using e2)]
        exact p1
      · cases h
def zcells (P : Program) (t : TypeId) : Option (List SV) := ((P.info? t).bind (·.zero)).map fun z => z.cells.toList.map .v
theorem zcells_sound {P : Program} {R : Env} {t : TypeId} {cs : List SV} (h : zcells P t = some cs) : ∃ z, (∀ w, (zeroValue t).run P w = .ok z w) ∧ CellsR R cs z.cells := by
  unfold zcells at h
  obtain ⟨z, hz, rfl⟩ := Option.map_eq_some_iff.1 h
  obtain ⟨i, hi, hz⟩ := Option.bind_eq_some_iff.1 hz
  refine ⟨z, fun w => by simp [zeroValue, typeInfo, hi, hz], by simp, fun k hk hk' => ?_⟩
  simp only [List.getElem_map, Array.getElem_toList]
  exact .v _
def placesOf (P : Program) (t : TypeId) : Option (List (Nat × Nat)) :=
  match P.underlying t with
  | some (.struct fields) => if fields.toList.all (fun f => (P.underlying f.type).isSome) then some (fields.toList.map fun f => (f.offset, P.cellsOf f.type)) else none
  | _ => none
def pBuild (P : Program) (H : List VB) (t : TypeId) (ps : List (Nat × SV)) : Option SV :=
  match P.underlying t, zcells P t with
  | some (.struct _), some z => match placesOf P t with
    | some pl => match vfill H (fun i => pl[i]?) z ps with
      | some cs => some (.agg cs)
      | none => none
    | none => none
  | some (.array _ e), some z => if (P.underlying e).isSome then (match vfill H (fun i => some (i * P.cellsOf e, P.cellsOf e)) z ps with
      | some cs => some (.agg cs)
      | none => none) else none
  | _, _ => none
theorem run_places {P : Program} (w : World) : ∀ (fs : List Field), fs.all (fun f => (P.underlying f.type).isSome) = true →
    (fs.mapM (fun f => do pure (f.offset, ← sizeOf f.type)) : Sem (List (Nat × Nat))).run P w = .ok (fs.map fun f => (f.offset, P.cellsOf f.type)) w
  | [], _ => by simp
  | f :: fs, h => by
    simp only [List.all_cons, Bool.and_eq_true] at h
    obtain ⟨d, hd⟩ := Option.isSome_iff_exists.1 h.1
    simp only [List.mapM_cons, Sem.run_bind, run_sizeOf hd, Result.andThen_ok, Sem.run_pure, run_places w fs h.2, List.map_cons]
theorem pBuild_sound {P : Program} {R : Env} {t : TypeId} {ps : List (Nat × SV)} {vs : Array (Nat × Value)} {r : SV} (h : pBuild P R.H t ps = some r) (hp : PartsR R ps vs.toList) : Snd P R (Instr.build t vs) r := by
  unfold pBuild at h
  split at h
  · rename_i fields z hu hz
    obtain ⟨zv, hzv, hzc⟩ := zcells_sound (R := R) hz
    split at h
    · rename_i pl hpl
      split at h
      · rename_i cs hf
        cases h
        obtain ⟨arr, q1, q2⟩ := vfill_sound _ _ _ _ _ hf hzc hp
        refine ⟨_, ?_, .agg _ _ q2.1 q2.2⟩
        unfold placesOf at hpl
        rw [hu] at hpl
        simp only at hpl
        split at hpl
        · rename_i hall
          cases hpl
          simp only [Instr.build, Sem.run_bind, hzv, Result.andThen_ok, run_underlying hu, Array.mapM_eq_mapM_toList, Sem.run_map, run_places _ _ hall]
          have : (fun (i : Nat) => (List.map (fun f => (f.offset, P.cellsOf f.type)) fields.toList).toArray[i]?) = fun (i : Nat) => (List.map (fun f => (f.offset, P.cellsOf f.type)) fields.toList)[i]? := by
            funext i; simp
          simp only [this, q1]
          rfl
        · cases hpl
      · cases h
    · cases h
  · rename_i n e z hu hz
    obtain ⟨zv, hzv, hzc⟩ := zcells_sound (R := R) hz
    split at h
    · rename_i hs
      obtain ⟨d, hd⟩ := Option.isSome_iff_exists.1 hs
      split at h
      · rename_i cs hf
        cases h
        obtain ⟨arr, q1, q2⟩ := vfill_sound _ _ _ _ _ hf hzc hp
        refine ⟨_, ?_, .agg _ _ q2.1 q2.2⟩
        simp only [Instr.build, Sem.run_bind, hzv, Result.andThen_ok, run_underlying hu, run_sizeOf hd, q1]
        rfl
      · cases h
    · cases h
  · cases h

/-! ### Builtins that read -/
def pLen (P : Program) (H : List VB) (t : TypeId) (x : SV) : Option SV :=
  match P.underlying t with
  | some .string => match x with
    | .v (.string s) => some (.v (.int .i64 s.size))
    | _ => none
  | some (.array n _) => some (.v (.int .i64 n))
  | some (.slice _) => match x with
    | .list _ _ xs => some (.v (.int .i64 xs.length))
    | .slc id g off len => match H[id]? with
      | some (.row g' _ _) => if g' = g then some (.v (.int .i64 len)) else none
      | _ => none
    | .bsl _ _ _ len _ => some (.v (.int .i64 len))
    | .v (.slice none 0 0) => some (.v (.int .i64 0))
    | _ => none
  | some (.map _ _) => match x with
    | .v (.map none) => some (.v (.int .i64 0))
    | .mapv id => match H[id]? with
      | some (.map es) => some (.v (.int .i64 es.length))
      | _ => none
    | _ => none
  | _ => none
theorem pLen_sound {P : Program} {R : Env} (hR : HRep R) {t : TypeId} {x r : SV} {a : Value} (h : pLen P R.H t x = some r) (ha : Rep R x a) {ats : Array TypeId} (hat : ats[0]? = some t) (ty : TypeId) : Snd P R (Builtin.len_ ats ty #[a]) r := by
  have base : ∀ (d : TypeDesc) (n : Nat), P.underlying t = some d → (match d, a with
      | .string, .string s => s.size = n
      | .array m _, _ => m = n
      | .slice _, .slice _ m _ => m = n
      | .map _ _, .map none => n = 0
      | _, _ => False) → Snd P R (Builtin.len_ ats ty #[a]) (.v (.int .i64 n)) := by
    intro d n hd hm
    refine ⟨_, ?_, .v _⟩
    simp only [Builtin.len_, hat]
    have ha0 : (#[a] : Array Value)[0]? = some a := rfl
    rw [ha0]
    simp only [Sem.run_bind, run_underlying hd, Result.andThen_ok]
    split at hm
    · subst hm; rfl
    · subst hm; rfl
    · subst hm; rfl
    · subst hm; rfl
    · exact hm.elim
  unfold pLen at h
  split at h
  · rename_i hu
    split at h
    · rename_i s
      cases h
      obtain rfl := rep_v.1 ha
      exact base _ _ hu rfl
    · cases h
  · rename_i n e hu
    cases h
    exact base _ _ hu rfl
  · rename_i e hu
    split at h
    · cases h
      cases ha
      exact base _ _ hu rfl
    · rename_i id g off len
      split at h
      · rename_i g' n xs hrow
        split at h
        · rename_i hg
          cases h
          cases ha with
          | slc id' g2 off' len' n2 xs2 x c hr hle' hc' ha' => exact base _ _ hu rfl
          | slcOld id' g2 off' len' y hid hr =>
            have := hr _ _ _ hrow
            omega
        · cases h
      · cases h
    · cases h
      cases ha
      exact base _ _ hu rfl
    · cases h
      obtain rfl := rep_v.1 ha
      exact base _ 0 hu rfl
    · cases h
  · rename_i k e hu
    split at h
    · cases h
      obtain rfl := rep_v.1 ha
      exact base _ 0 hu rfl
    · rename_i id
      split at h
      · rename_i es hes
        cases h
        cases ha with
        | mapv id' b hid hb hρ =>
          obtain ⟨b', rs, clock, q1, q2, q3, q4, q5⟩ := hR.map id es hes
          rw [hρ] at q1
          cases q1
          refine ⟨_, ?_, .v _⟩
          have ha0 : (#[Value.map (some b)] : Array Value)[0]? = some (Value.map (some b)) := rfl
          simp only [Builtin.len_, hat, ha0, Sem.run_bind, run_underlying hu, Result.andThen_ok, getObj, Sem.run, q2, q3]
          rfl
      · cases h
    · cases h
  · cases h
def pMM (mx : Bool) : SV → List SV → Option SV
  | x, [] => some x
  | .v (.int k a), .v (.int k' b) :: rest => if k' = k then pMM mx (.v (.int k (if mx then max a b else min a b))) rest else none
  | _, _ => none
theorem pMax_sound {P : Program} {R : Env} : ∀ (xs : List SV) (vs : List Value) (x r : SV) (a : Value), pMM true x xs = some r → Rep R x a → vs.length = xs.length → (∀ (i : Nat) (hi : i < xs.length) (hj : i < vs.length), Rep R xs[i] vs[i]) →
    Snd P R (vs.foldlM Builtin.max2 a) r
  | [], [], x, r, a, h, ha, _, _ => by cases h; exact ⟨a, rfl, ha⟩
  | [], _ :: _, x, r, a, h, ha, hl, _ => by simp at hl
  | _ :: _, [], x, r, a, h, ha, hl, _ => by simp at hl
  | y :: xs, v :: vs, x, r, a, h, ha, hl, hr => by
    unfold pMM at h
    split at h
    · rename_i heq; cases heq
    · rename_i k m k' n rest heq
      cases heq
      split at h
      · rename_i hk
        subst hk
        obtain rfl := rep_v.1 ha
        have h0 := hr 0 (by simp) (by simp)
        simp only [List.getElem_cons_zero] at h0
        obtain rfl := rep_v.1 h0
        simp only [if_true] at h
        obtain ⟨v, q1, q2⟩ := pMax_sound xs vs _ r _ h (.v _) (by simpa using hl) (fun i hi hj => by have := hr (i + 1) (by simp; exact hi) (by simp; exact hj); simpa using this)
        refine ⟨v, ?_, q2⟩
        simp only [List.foldlM_cons, Sem.run_bind, Builtin.max2, Sem.run_pure, Result.andThen_ok]
        have : (if n > m then n else m) = max m n := by omega
        rw [this]
        exact q1
      · cases h
    · cases h
theorem pMin_sound {P : Program} {R : Env} : ∀ (xs : List SV) (vs : List Value) (x r : SV) (a : Value), pMM false x xs = some r → Rep R x a → vs.length = xs.length → (∀ (i : Nat) (hi : i < xs.length) (hj : i < vs.length), Rep R xs[i] vs[i]) →
    Snd P R (vs.foldlM Builtin.min2 a) r
  | [], [], x, r, a, h, ha, _, _ => by cases h; exact ⟨a, rfl, ha⟩
  | [], _ :: _, x, r, a, h, ha, hl, _ => by simp at hl
  | _ :: _, [], x, r, a, h, ha, hl, _ => by simp at hl
  | y :: xs, v :: vs, x, r, a, h, ha, hl, hr => by
    unfold pMM at h
    split at h
    · rename_i heq; cases heq
    · rename_i k m k' n rest heq
      cases heq
      split at h
      · rename_i hk
        subst hk
        obtain rfl := rep_v.1 ha
        have h0 := hr 0 (by simp) (by simp)
        simp only [List.getElem_cons_zero] at h0
        obtain rfl := rep_v.1 h0
        simp only [Bool.false_eq_true, if_false] at h
        obtain ⟨v, q1, q2⟩ := pMin_sound xs vs _ r _ h (.v _) (by simpa using hl) (fun i hi hj => by have := hr (i + 1) (by simp; exact hi) (by simp; exact hj); simpa using this)
        refine ⟨v, ?_, q2⟩
        simp only [List.foldlM_cons, Sem.run_bind, Builtin.min2, Sem.run_pure, Result.andThen_ok]
        have : (if n < m then n else m) = min m n := by omega
        rw [this]
        exact q1
      · cases h
    · cases h
end Go.Vm
