/- The virtual machine, part 0: virtual values, what they stand for in a world, and how that lasts. Generic: no program in sight. -/
import Derived.CallsIn
import Derived.Below
set_option linter.unusedVariables false
set_option linter.unusedSimpArgs false
namespace Go.Vm
open Go.RowKit

/-- Virtual values. -/
inductive SV where
  | junk
  | v (x : Value)
  | agg (cs : List SV)
  | tup (vs : List SV)
  | ptr (id off : Nat)
  | ro (cs : List SV)
  | list (n : Nat) (full : Bool) (xs : List SV)
  | slc (id g off len : Nat)
  | rptr (id g i o : Nat)
  | fn (f : FuncId) (caps : List SV)
  | mapv (id : Nat)
  | bsl (id off n len cap : Nat)
  deriving Inhabited

def SV.cells : SV → List SV
  | .agg cs => cs
  | x => [x]

/-- Virtual blocks. -/
inductive VB where
  | dead
  | box (cs : List SV)
  | row (g n : Nat) (xs : List SV)
  | map (es : List (Value × SV))
  deriving Inhabited

structure Env where
  H : List VB
  ρ : Nat → Option Addr
  w : World

def Env.live (R : Env) (id : Nat) : Prop := ∃ b, R.H[id]? = some b ∧ b ≠ .dead
def Env.imm (R : Env) (b : Nat) : Prop := b < R.w.heap.size ∧ ∀ id a, R.live id → R.ρ id = some a → a.block ≠ b
def cellAt (w : World) (b o : Nat) : Option Value := w.cell? ⟨b, o, none⟩
def blkSize (w : World) (b : Nat) : Nat := match w.heap[b]? with | some (.cells c _ _) => c.size | _ => 0

/-- What a virtual value stands for. -/
inductive Rep (R : Env) : SV → Value → Prop
  | junk (y : Value) : Rep R .junk y
  | v (x : Value) : Rep R (.v x) x
  | agg (cs : List SV) (a : Array Value) (hl : a.size = cs.length) (h : ∀ (i : Nat) (hi : i < cs.length) (hj : i < a.size), Rep R cs[i] a[i]) : Rep R (.agg cs) (.agg a)
  | tup (cs : List SV) (a : Array Value) (hl : a.size = cs.length) (h : ∀ (i : Nat) (hi : i < cs.length) (hj : i < a.size), Rep R cs[i] a[i]) : Rep R (.tup cs) (.tuple a)
  | ptr (id off : Nat) (a : Addr) (hid : id < R.H.length) (hb : ∀ g n xs, R.H[id]? ≠ some (.row g n xs)) (hρ : R.ρ id = some a) (hs : a.spot = none) :
      Rep R (.ptr id off) (.pointer (some ⟨a.block, a.off + off, none⟩))
  | ro (cs : List SV) (b o : Nat) (f : Nat → Value) (hi : R.imm b) (hc : ∀ j, j < cs.length → cellAt R.w b (o + j) = some (f j)) (hz : b < R.w.heap.size)
      (h : ∀ (j : Nat) (hj : j < cs.length), Rep R cs[j] (f j)) : Rep R (.ro cs) (.pointer (some ⟨b, o, none⟩))
  | list (n : Nat) (full : Bool) (xs : List SV) (a : Option Addr) (c : Nat) (f : Nat → Value) (hc : xs.length ≤ c) (hfull : full = true → c = xs.length)
      (hn : ∀ x, x ∈ xs → x.cells.length = n)
      (ha : xs = [] ∨ ∃ b o, a = some ⟨b, o, none⟩ ∧ R.imm b ∧ ∀ j, j < xs.length * n → cellAt R.w b (o + j) = some (f j))
      (h : ∀ (i : Nat) (hi : i < xs.length) (j : Nat) (hj : j < xs[i].cells.length), Rep R xs[i].cells[j] (f (i * n + j))) :
      Rep R (.list n full xs) (.slice a xs.length c)
  | slc (id g off len n : Nat) (xs : List SV) (x : Option Addr) (c : Nat) (hr : R.H[id]? = some (.row g n xs)) (hle : off + len ≤ xs.length) (hc : len ≤ c)
      (ha : 0 < c → ∃ a : Addr, R.ρ id = some a ∧ x = some ⟨a.block, a.off + off * n, none⟩ ∧ a.off + (off + c) * n ≤ blkSize R.w a.block) :
      Rep R (.slc id g off len) (.slice x len c)
  | slcOld (id g off len : Nat) (y : Value) (hid : id < R.H.length) (hr : ∀ g' n xs, R.H[id]? = some (.row g' n xs) → g < g') : Rep R (.slc id g off len) y
  | rptr (id g i o n : Nat) (xs : List SV) (a : Addr) (hr : R.H[id]? = some (.row g n xs)) (hi : i < xs.length) (hρ : R.ρ id = some a) (hs : a.spot = none) :
      Rep R (.rptr id g i o) (.pointer (some ⟨a.block, a.off + i * n + o, none⟩))
  | rptrOld (id g i o : Nat) (y : Value) (hid : id < R.H.length) (hr : ∀ g' n xs, R.H[id]? = some (.row g' n xs) → g < g') : Rep R (.rptr id g i o) y
  | fn (fi : FuncId) (cs : List SV) (a : Array Value) (hl : a.size = cs.length) (h : ∀ (i : Nat) (hi : i < cs.length) (hj : i < a.size), Rep R cs[i] a[i]) :
      Rep R (.fn fi cs) (.func (.func fi) #[] a)
  | mapv (id b : Nat) (hid : id < R.H.length) (hb : ∀ g n xs, R.H[id]? ≠ some (.row g n xs)) (hρ : R.ρ id = some ⟨b, 0, none⟩) : Rep R (.mapv id) (.map (some b))
  | bsl (id off n len cap : Nat) (x : Option Addr) (hid : id < R.H.length) (hb : ∀ g n xs, R.H[id]? ≠ some (.row g n xs)) (hle : len ≤ cap)
      (ha : 0 < cap → ∃ a : Addr, R.ρ id = some a ∧ a.spot = none ∧ x = some ⟨a.block, a.off + off, none⟩) : Rep R (.bsl id off n len cap) (.slice x len cap)

/-- From one state to a later one. -/
structure Ext (R R' : Env) : Prop where
  os : R'.w.os = R.w.os
  tape : R'.w.tape = R.w.tape
  output : R'.w.output = R.w.output
  size : R.w.heap.size ≤ R'.w.heap.size
  len : R.H.length ≤ R'.H.length
  keep : ∀ b, b < R.w.heap.size → (∀ id a, R.live id → R.ρ id = some a → a.block ≠ b) → R'.w.heap[b]? = R.w.heap[b]?
  bsz : ∀ b, b < R.w.heap.size → blkSize R'.w b = blkSize R.w b
  live : ∀ id a, R'.live id → R'.ρ id = some a → (∃ a', R.live id ∧ R.ρ id = some a' ∧ a'.block = a.block) ∨ R.w.heap.size ≤ a.block
  rho : ∀ id, id < R.H.length → (∀ g n xs, R.H[id]? ≠ some (.row g n xs)) → R'.ρ id = R.ρ id ∧ ∀ g n xs, R'.H[id]? ≠ some (.row g n xs)
  row : ∀ id g n xs, R.H[id]? = some (.row g n xs) → ∀ g' n' xs', R'.H[id]? = some (.row g' n' xs') →
    (g' = g ∧ R'.ρ id = R.ρ id ∧ n' = n ∧ xs.length ≤ xs'.length) ∨ g < g'
  rowB : ∀ id g n xs a, R.H[id]? = some (.row g n xs) → R.ρ id = some a → a.block < R.w.heap.size

theorem Env.row_live {R : Env} {id g n : Nat} {xs : List SV} (h : R.H[id]? = some (.row g n xs)) : R.live id := ⟨_, h, by simp⟩
theorem lt_of_some {α : Type} {l : List α} {i : Nat} {x : α} (h : l[i]? = some x) : i < l.length := by
  rcases Nat.lt_or_ge i l.length with h' | h'
  · exact h'
  · rw [List.getElem?_eq_none h'] at h; cases h

theorem Ext.imm {R R' : Env} (e : Ext R R') {b : Nat} (h : R.imm b) : R'.imm b := by
  refine ⟨Nat.lt_of_lt_of_le h.1 e.size, fun id a hl hr hb => ?_⟩
  rcases e.live id a hl hr with ⟨a', h1, h2, h3⟩ | h1
  · exact h.2 id a' h1 h2 (h3.trans hb)
  · have := h.1; omega
theorem cellAt_of_heap {w w' : World} {b : Nat} (h : w'.heap[b]? = w.heap[b]?) (o : Nat) : cellAt w' b o = cellAt w b o := by
  simp [cellAt, World.cell?, h]
theorem Ext.cell {R R' : Env} (e : Ext R R') {b : Nat} (h : R.imm b) (o : Nat) : cellAt R'.w b o = cellAt R.w b o :=
  cellAt_of_heap (e.keep b h.1 h.2) o

theorem Rep.mono {R R' : Env} (e : Ext R R') {x : SV} {y : Value} (h : Rep R x y) : Rep R' x y := by
  induction h with
  | junk y => exact .junk y
  | v x => exact .v x
  | agg cs a hl h ih => exact .agg cs a hl ih
  | tup cs a hl h ih => exact .tup cs a hl ih
  | ptr id off a hid hb hρ hs =>
    obtain ⟨h1, h2⟩ := e.rho id hid hb
    exact .ptr id off a (Nat.lt_of_lt_of_le hid e.len) h2 (h1.trans hρ) hs
  | ro cs b o f hi hc hz h ih =>
    exact .ro cs b o f (e.imm hi) (fun j hj => (e.cell hi _).trans (hc j hj)) (Nat.lt_of_lt_of_le hz e.size) ih
  | list n full xs a c f hc hfull hn ha h ih =>
    refine .list n full xs a c f hc hfull hn ?_ ih
    rcases ha with ha | ⟨b, o, h1, h2, h3⟩
    · exact .inl ha
    · exact .inr ⟨b, o, h1, e.imm h2, fun j hj => (e.cell h2 _).trans (h3 j hj)⟩
  | slc id g off len n xs x c hr hle hc ha =>
    by_cases hn : ∃ g' n' xs', R'.H[id]? = some (.row g' n' xs')
    · obtain ⟨g', n', xs', h1⟩ := hn
      rcases e.row id g n xs hr g' n' xs' h1 with ⟨rfl, h2, rfl, h3⟩ | h2
      · refine .slc id g' off len n' xs' x c h1 (Nat.le_trans hle h3) hc (fun hp => ?_)
        obtain ⟨a, q1, q2, q3⟩ := ha hp
        refine ⟨a, h2.trans q1, q2, ?_⟩
        rw [e.bsz a.block (e.rowB id _ _ _ a hr q1)]
        exact q3
      · refine .slcOld id g off len _ (Nat.lt_of_lt_of_le (lt_of_some hr) e.len) (fun g1 n1 xs1 h3 => ?_)
        rw [h1] at h3
        cases h3
        exact h2
    · exact .slcOld id g off len _ (Nat.lt_of_lt_of_le (lt_of_some hr) e.len) (fun g1 n1 xs1 h3 => absurd ⟨g1, n1, xs1, h3⟩ hn)
  | slcOld id g off len y hid hr =>
    refine .slcOld id g off len y (Nat.lt_of_lt_of_le hid e.len) (fun g1 n1 xs1 h1 => ?_)
    by_cases hn : ∃ g' n' xs', R.H[id]? = some (.row g' n' xs')
    · obtain ⟨g', n', xs', h2⟩ := hn
      have := hr g' n' xs' h2
      rcases e.row id g' n' xs' h2 g1 n1 xs1 h1 with ⟨rfl, _⟩ | h3
      · exact this
      · omega
    · exact absurd h1 ((e.rho id hid (fun g n xs h => hn ⟨g, n, xs, h⟩)).2 _ _ _)
  | rptr id g i o n xs a hr hi hρ hs =>
    by_cases hn : ∃ g' n' xs', R'.H[id]? = some (.row g' n' xs')
    · obtain ⟨g', n', xs', h1⟩ := hn
      rcases e.row id g n xs hr g' n' xs' h1 with ⟨rfl, h2, rfl, h3⟩ | h2
      · exact .rptr id g' i o n' xs' a h1 (Nat.lt_of_lt_of_le hi h3) (h2.trans hρ) hs
      · refine .rptrOld id g i o _ (Nat.lt_of_lt_of_le (lt_of_some hr) e.len) (fun g1 n1 xs1 h3 => ?_)
        rw [h1] at h3
        cases h3
        exact h2
    · exact .rptrOld id g i o _ (Nat.lt_of_lt_of_le (lt_of_some hr) e.len) (fun g1 n1 xs1 h3 => absurd ⟨g1, n1, xs1, h3⟩ hn)
  | rptrOld id g i o y hid hr =>
    refine .rptrOld id g i o y (Nat.lt_of_lt_of_le hid e.len) (fun g1 n1 xs1 h1 => ?_)
    by_cases hn : ∃ g' n' xs', R.H[id]? = some (.row g' n' xs')
    · obtain ⟨g', n', xs', h2⟩ := hn
      have := hr g' n' xs' h2
      rcases e.row id g' n' xs' h2 g1 n1 xs1 h1 with ⟨rfl, _⟩ | h3
      · exact this
      · omega
    · exact absurd h1 ((e.rho id hid (fun g n xs h => hn ⟨g, n, xs, h⟩)).2 _ _ _)
  | fn fi cs a hl h ih => exact .fn fi cs a hl ih
  | mapv id b hid hb hρ =>
    obtain ⟨h1, h2⟩ := e.rho id hid hb
    exact .mapv id b (Nat.lt_of_lt_of_le hid e.len) h2 (h1.trans hρ)
  | bsl id off n len cap x hid hb hle ha =>
    obtain ⟨h1, h2⟩ := e.rho id hid hb
    refine .bsl id off n len cap x (Nat.lt_of_lt_of_le hid e.len) h2 hle fun hp => ?_
    obtain ⟨a, q1, q2, q3⟩ := ha hp
    exact ⟨a, h1.trans q1, q2, q3⟩

theorem Ext.trans {A B C : Env} (h : Ext A B) (k : Ext B C) : Ext A C where
  os := k.os.trans h.os
  tape := k.tape.trans h.tape
  output := k.output.trans h.output
  size := Nat.le_trans h.size k.size
  len := Nat.le_trans h.len k.len
  keep := fun b hb hn => by
    have hi := h.imm ⟨hb, hn⟩
    exact (k.keep b hi.1 hi.2).trans (h.keep b hb hn)
  bsz := fun b hb => (k.bsz b (Nat.lt_of_lt_of_le hb h.size)).trans (h.bsz b hb)
  live := fun id a hl hr => by
    rcases k.live id a hl hr with ⟨a', h1, h2, h3⟩ | h1
    · rcases h.live id a' h1 h2 with ⟨a'', q1, q2, q3⟩ | q1
      · exact .inl ⟨a'', q1, q2, q3.trans h3⟩
      · exact .inr (by omega)
    · exact .inr (Nat.le_trans h.size h1)
  rho := fun id hid hb => by
    obtain ⟨h1, h2⟩ := h.rho id hid hb
    obtain ⟨k1, k2⟩ := k.rho id (Nat.lt_of_lt_of_le hid h.len) h2
    exact ⟨k1.trans h1, k2⟩
  row := fun id g n xs h1 g' n' xs' h2 => by
    by_cases hn : ∃ g1 n1 xs1, B.H[id]? = some (.row g1 n1 xs1)
    · obtain ⟨g1, n1, xs1, h3⟩ := hn
      rcases h.row id g n xs h1 g1 n1 xs1 h3 with ⟨rfl, e1, rfl, l1⟩ | l1
      · rcases k.row id g1 n1 xs1 h3 g' n' xs' h2 with ⟨rfl, e2, rfl, l2⟩ | l2
        · exact .inl ⟨rfl, e2.trans e1, rfl, Nat.le_trans l1 l2⟩
        · exact .inr l2
      · rcases k.row id g1 n1 xs1 h3 g' n' xs' h2 with ⟨rfl, e2, rfl, l2⟩ | l2
        · exact .inr l1
        · exact .inr (by omega)
    · exact absurd h2 ((k.rho id (Nat.lt_of_lt_of_le (lt_of_some h1) h.len) (fun g n xs h => hn ⟨g, n, xs, h⟩)).2 _ _ _)
  rowB := h.rowB

def unfrozen (fz : Nat × Nat) (n : Nat) : Prop := ∀ j, j < n → ¬ (fz.1 ≤ j ∧ j < fz.2)

/-- The virtual heap stands for a part of the world. -/
structure HRep (R : Env) : Prop where
  addr : ∀ id a, R.live id → R.ρ id = some a → a.spot = none ∧ a.block < R.w.heap.size
  inj : ∀ id id' a a', R.live id → R.live id' → R.ρ id = some a → R.ρ id' = some a' → a.block = a'.block → id = id'
  box : ∀ id cs, R.H[id]? = some (.box cs) → ∃ a c e fz, R.ρ id = some a ∧ R.w.heap[a.block]? = some (.cells c e fz) ∧ unfrozen fz c.size ∧ a.off + cs.length ≤ c.size ∧
    ∀ (j : Nat) (hj : j < cs.length) (hk : a.off + j < c.size), Rep R cs[j] c[a.off + j]
  row : ∀ id g n xs, R.H[id]? = some (.row g n xs) → (∀ x, x ∈ xs → x.cells.length = n) ∧ ((R.ρ id = none ∧ xs = []) ∨
    ∃ a c e fz, R.ρ id = some a ∧ R.w.heap[a.block]? = some (.cells c e fz) ∧ unfrozen fz c.size ∧ a.off + xs.length * n ≤ c.size ∧
      ∀ (i : Nat) (hi : i < xs.length) (j : Nat) (hj : j < xs[i].cells.length) (hk : a.off + i * n + j < c.size), Rep R xs[i].cells[j] c[a.off + i * n + j])
  map : ∀ id es, R.H[id]? = some (.map es) → ∃ b rs clock, R.ρ id = some ⟨b, 0, none⟩ ∧ R.w.heap[b]? = some (.map rs clock) ∧ rs.size = es.length ∧
    (∀ (i : Nat) (hi : i < es.length) (hk : i < rs.size), rs[i].key = (es[i]).1 ∧ Rep R (es[i]).2 rs[i].val ∧ rs[i].born < clock) ∧
    (∀ (i j : Nat) (hi : i < rs.size) (hj : j < rs.size), i < j → rs[i].born < rs[j].born)

theorem HRep.rowB {R : Env} (h : HRep R) : ∀ id g n xs a, R.H[id]? = some (.row g n xs) → R.ρ id = some a → a.block < R.w.heap.size :=
  fun id g n xs a h1 h2 => (h.addr id a (Env.row_live h1) h2).2
theorem Ext.refl {R : Env} (h : HRep R) : Ext R R :=
  ⟨rfl, rfl, rfl, Nat.le_refl _, Nat.le_refl _, fun _ _ _ => rfl, fun _ _ => rfl, fun id a hl hr => .inl ⟨a, hl, hr, rfl⟩, fun id _ hb => ⟨rfl, hb⟩,
    fun id g n xs h1 g' n' xs' h2 => by rw [h1] at h2; cases h2; exact .inl ⟨rfl, rfl, rfl, Nat.le_refl _⟩, h.rowB⟩
end Go.Vm
