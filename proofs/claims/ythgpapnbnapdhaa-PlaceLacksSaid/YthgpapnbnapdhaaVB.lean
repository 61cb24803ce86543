/- The virtual machine: memory that turns, calls, the walk as a reckoning (parts 9 to 14). Generic: no program in sight. -/
import Derived.Test.YthgpapnbnapdhaaVA
import Derived.Test.YthgpapnbnapdhaaVM
import Derived.Laws.Rows
import Derived.Lib.ConvBytes
/- The virtual machine, part 9: all that only computes, together (stepF); stores into memory. Generic: no program in sight. -/
set_option linter.unusedVariables false
set_option linter.unusedSimpArgs false
namespace Go.Vm
open Go.RowKit

/-- The world grows: nothing that was there has turned. -/
structure Grows (w w' : World) : Prop where
  like : Like w w'
  size : w.heap.size ≤ w'.heap.size
  keep : ∀ b, b < w.heap.size → w'.heap[b]? = w.heap[b]?
theorem Grows.refl (w : World) : Grows w w := ⟨Like.refl w, Nat.le_refl _, fun _ _ => rfl⟩
theorem Grows.ext {R : Env} (h : HRep R) {w' : World} (g : Grows R.w w') : Ext R { R with w := w' } := Ext.world h g.like g.size g.keep
theorem Grows.rep {R : Env} (h : HRep R) {w' : World} (g : Grows R.w w') : HRep { R with w := w' } := HRep.world h g.like g.size g.keep
theorem Grows.alloc (w : World) (o : Obj) : Grows w (w.alloc o) :=
  ⟨⟨rfl, rfl, rfl⟩, by simp, fun b hb => Below.heap_alloc w o b hb⟩
theorem Grows.drew (w : World) : Grows w w.drew := ⟨⟨rfl, rfl, rfl⟩, Nat.le_refl _, fun _ _ => rfl⟩
theorem Grows.trans {a b c : World} (h : Grows a b) (k : Grows b c) : Grows a c :=
  ⟨h.like.trans k.like, Nat.le_trans h.size k.size, fun i hi => (k.keep i (Nat.lt_of_lt_of_le hi h.size)).trans (h.keep i hi)⟩
def FSnd (P : Program) (R : Env) (s : Sem Next) (r : SV) : Prop := ∃ v w', s.run P R.w = .ok (.value v) w' ∧ Grows R.w w' ∧ Rep { R with w := w' } r v
theorem FSnd.of {P : Program} {R : Env} {s : Sem Value} {r : SV} (h : Snd P R s r) : FSnd P R (do pure (.value (← s))) r := by
  obtain ⟨v, h1, h2⟩ := h
  exact ⟨v, R.w, by simp only [Sem.run_bind, h1, Result.andThen_ok, Sem.run_pure], Grows.refl _, h2⟩

/-! ### A slice literal -/
def ordered : Nat → List (Nat × SV) → Bool
  | _, [] => true
  | k, (i, _) :: r => i == k && ordered (k + 1) r
def pBuildSlice (P : Program) (H : List VB) (t : TypeId) (len : Nat) (ps : List (Nat × SV)) : Option SV :=
  match P.underlying t with
  | some (.slice e) => match zcells P e with
    | some z => if ordered 0 ps = true ∧ ps.length = len ∧ 0 ≤ len ∧ len * P.cellsOf e ≤ 16777216 ∧ 1 ≤ P.cellsOf e ∧ z.length = P.cellsOf e ∧ (P.underlying e).isSome ∧ (∀ p, p ∈ ps → svValid H p.2 = true ∧ p.2.cells.length = P.cellsOf e) then
        some (.list (P.cellsOf e) true (ps.map (·.2))) else none
    | none => none
  | _ => none
theorem ordered_get : ∀ (ps : List (Nat × SV)) (k : Nat), ordered k ps = true → ∀ (i : Nat) (hi : i < ps.length), ps[i].1 = k + i
  | [], k, _, i, hi => by cases hi
  | (j, x) :: r, k, h, i, hi => by
    simp only [ordered, Bool.and_eq_true, beq_iff_eq] at h
    cases i with
    | zero => exact h.1
    | succ i =>
      have := ordered_get r (k + 1) h.2 i (by simpa using hi)
      simp only [List.getElem_cons_succ]
      omega
theorem fill_flat {H : List VB} {n : Nat} : ∀ (ps : List (Nat × SV)) (k : Nat) (pre rest : List SV), ordered k ps = true → (∀ p, p ∈ ps → svValid H p.2 = true ∧ p.2.cells.length = n) → pre.length = k * n → rest.length = ps.length * n →
    vfill H (fun i => some (i * n, n)) (pre ++ rest) ps = some (pre ++ (ps.map (·.2)).flatMap SV.cells)
  | [], k, pre, rest, _, _, _, hr => by
    have : rest = [] := List.eq_nil_of_length_eq_zero (by simpa using hr)
    simp [vfill, this]
  | (j, x) :: r, k, pre, rest, ho, hv, hp, hr => by
    simp only [ordered, Bool.and_eq_true, beq_iff_eq] at ho
    obtain ⟨rfl, ho⟩ := ho
    obtain ⟨hv1, hv2⟩ := hv (j, x) (by simp)
    simp only at hv1 hv2
    have hrl : rest.length = n + r.length * n := by rw [hr, List.length_cons, Nat.add_mul, Nat.one_mul, Nat.add_comm]
    simp only [vfill]
    rw [if_pos ⟨hv1, hv2, by rw [List.length_append]; omega⟩]
    have e : lput (pre ++ rest) (j * n) x.cells = (pre ++ x.cells) ++ rest.drop n := by
      unfold lput
      rw [← hp, List.take_left, hv2, ← List.drop_drop, List.drop_left]
    rw [e, fill_flat r (j + 1) (pre ++ x.cells) (rest.drop n) ho (fun p hp => hv p (by simp [hp])) (by simp [hp, hv2, Nat.add_mul]) (by simp; omega)]
    simp
theorem flat_length {n : Nat} : ∀ (xs : List SV), (∀ x, x ∈ xs → x.cells.length = n) → (xs.flatMap SV.cells).length = xs.length * n
  | [], _ => by simp
  | x :: xs, h => by
    simp only [List.flatMap_cons, List.length_append, flat_length xs (fun y hy => h y (by simp [hy])), h x (by simp), List.length_cons, Nat.add_mul, Nat.one_mul, Nat.add_comm]
theorem flat_get {n : Nat} : ∀ (xs : List SV), (∀ x, x ∈ xs → x.cells.length = n) → ∀ (i : Nat) (hi : i < xs.length) (j : Nat) (hj : j < xs[i].cells.length), (xs.flatMap SV.cells)[i * n + j]? = some (xs[i].cells[j])
  | [], _, i, hi, _, _ => by cases hi
  | x :: xs, h, i, hi, j, hj => by
    have hx := h x (by simp)
    simp only [List.flatMap_cons]
    cases i with
    | zero =>
      simp only [List.getElem_cons_zero] at hj ⊢
      rw [Nat.zero_mul, Nat.zero_add, List.getElem?_append_left hj, List.getElem?_eq_getElem hj]
    | succ i =>
      simp only [List.getElem_cons_succ] at hj ⊢
      rw [List.getElem?_append_right (by rw [hx, Nat.add_mul, Nat.one_mul]; omega), hx, show (i + 1) * n + j - n = i * n + j by rw [Nat.add_mul, Nat.one_mul]; omega]
      exact flat_get xs (fun y hy => h y (by simp [hy])) i (by simpa using hi) j hj
/-- Cells that are laid in a new block, as an immutable list. -/
theorem list_new {R : Env} (h : HRep R) {n : Nat} {xs : List SV} {arr : Array Value} (hn : ∀ x, x ∈ xs → x.cells.length = n) (hc : CellsR R (xs.flatMap SV.cells) arr) (e : TypeId) :
    Rep { R with w := R.w.alloc (.cells arr e) } (.list n true xs) (.slice (some ⟨R.w.heap.size, 0, none⟩) xs.length xs.length) := by
  have g := Grows.alloc R.w (.cells arr e)
  have ex := g.ext h
  have hsz : arr.size = xs.length * n := by rw [hc.1, flat_length xs hn]
  refine .list n true xs _ _ (fun j => arr.getD j undef) (Nat.le_refl _) (fun _ => rfl) hn (.inr ⟨R.w.heap.size, 0, rfl, ⟨by simp, fun id a hl hr hb => ?_⟩, fun j hj => ?_⟩) fun i hi j hj => ?_
  · have := (h.addr id a hl hr).2
    omega
  · rw [Nat.zero_add, cellAt_of_block (heap_alloc_new R.w (.cells arr e)), Array.getElem?_eq_getElem (by omega), Array.getD_eq_getD_getElem?, Array.getElem?_eq_getElem (by omega)]
    rfl
  · have hf := flat_get xs hn i hi j hj
    have hlt := lt_of_some hf
    rw [List.getElem?_eq_getElem hlt] at hf
    injection hf with hf
    have := hc.2 _ hlt (by rw [hc.1]; exact hlt)
    rw [hf] at this
    have h2 := this.mono ex
    rw [Array.getD_eq_getD_getElem?, Array.getElem?_eq_getElem (by rw [hc.1]; exact hlt)]
    exact h2
theorem pBuildSlice_sound {P : Program} {R : Env} (hR : HRep R) {t : TypeId} {len : Nat} {ps : List (Nat × SV)} {vs : Array (Nat × Value)} {r : SV} (h : pBuildSlice P R.H t len ps = some r) (hp : PartsR R ps vs.toList) :
    FSnd P R (do pure (.value (← Instr.buildSlice t len vs))) r := by
  unfold pBuildSlice at h
  split at h
  · rename_i e hu
    split at h
    · rename_i z hz
      split at h
      · rename_i hc
        obtain ⟨c1, c2, c3, c4, c5, c6, c7, c8⟩ := hc
        cases h
        obtain ⟨d, hd⟩ := Option.isSome_iff_exists.1 c7
        obtain ⟨zv, hzv, hzc⟩ := zcells_sound (R := R) hz
        have hzs : zv.cells.size = P.cellsOf e := by rw [hzc.1]; exact c6
        have hfill := fill_flat (H := R.H) (n := P.cellsOf e) ps 0 [] (List.replicate (len * P.cellsOf e) .junk) c1 c8 (by simp) (by simp [c2])
        simp only [List.nil_append] at hfill
        have hcj : CellsR R (List.replicate (len * P.cellsOf e) SV.junk) ((Array.range (len * P.cellsOf e)).map (zv.cells[· % zv.cells.size]!)) :=
          ⟨by simp, fun i hi hj => by simp only [List.getElem_replicate]; exact .junk _⟩
        obtain ⟨arr, q1, q2⟩ := vfill_sound _ _ _ _ _ hfill hcj hp
        have hn : ∀ x, x ∈ ps.map (·.2) → x.cells.length = P.cellsOf e := by
          intro x hx
          obtain ⟨p, hp1, rfl⟩ := List.mem_map.1 hx
          exact (c8 p hp1).2
        have hl := list_new hR hn q2 e
        simp only [List.length_map, c2] at hl
        refine ⟨_, _, ?_, Grows.alloc R.w (.cells arr e), hl⟩
        have e1 : ¬ (len * P.cellsOf e > 2 ^ 24) := by simp; omega
        rcases Nat.eq_zero_or_pos len with hl0 | c3
        · have ez : len * P.cellsOf e = 0 := by rw [hl0, Nat.zero_mul]
          have hq : ∀ f g : Nat → Value, (Array.range 0).map f = (Array.range 0).map g := fun f g => by simp
          rw [ez] at q1 e1
          simp only [Instr.buildSlice, Sem.run_bind, run_underlying hu, Result.andThen_ok, run_sizeOf hd, ez, e1, if_false, if_true, Sem.run_pure]
          rw [hq _ (zv.cells[· % zv.cells.size]!)]
          simp only [q1, newRow, Sem.run_bind, run_newObj, Result.andThen_ok, Sem.run_pure, pure_bind]
          rfl
        have hpos : 1 ≤ len * P.cellsOf e := Nat.mul_pos c3 c5
        have e2 : ¬ (len * P.cellsOf e = 0) := by omega
        simp only [Instr.buildSlice, Sem.run_bind, run_underlying hu, Result.andThen_ok, run_sizeOf hd, e1, e2, if_false, hzv, Sem.run_pure, q1, newRow, run_newObj, pure_bind]
        rfl
      · cases h
    · cases h
  · cases h

/-! ### All that only computes -/
def pExtract (i : Nat) : SV → Option SV
  | .tup cs => cs[i]?
  | _ => none
theorem pExtract_sound {P : Program} {R : Env} {i : Nat} {x r : SV} {a : Value} (h : pExtract i x = some r) (ha : Rep R x a) : Snd P R (Instr.extract a i) r := by
  unfold pExtract at h
  split at h
  · cases ha with
    | tup cs arr hl hh =>
      have hlt := lt_of_some h
      rw [List.getElem?_eq_getElem hlt] at h
      cases h
      refine ⟨arr[i]'(by omega), ?_, hh i hlt (by omega)⟩
      simp only [Instr.extract, Array.getElem?_eq_getElem (show i < arr.size by omega)]
      rfl
  · cases h
def pNil (H : List VB) : SV → Option SV
  | .ptr id off => some (.ptr id off)
  | .ro cs => some (.ro cs)
  | .rptr id g i o => if svValid H (.rptr id g i o) then some (.rptr id g i o) else none
  | .fn f cs => some (.fn f cs)
  | _ => none
def evParts (ρ : Operand → SV) (ps : Array (Nat × Operand)) : List (Nat × SV) := ps.toList.map fun (i, x) => (i, ρ x)
def stepF (P : Program) (o : Oper) (ρ : Operand → SV) (H : List VB) : Option SV :=
  match o.op with
  | .move x => some (ρ x)
  | .assign x => some (ρ x)
  | .pick c a b => match ρ c with
    | .v (.bool t) => if t = true then some (ρ a) else some (ρ b)
    | _ => none
  | .load t a => vload P H t (ρ a)
  | .nilCheck x => pNil H (ρ x)
  | .binOp op t x y _ => pBin P op t (ρ x) (ρ y)
  | .unOp op _ x => pUn op (ρ x)
  | .convert s d x => pConv P H s d (ρ x)
  | .makeFunc (.func f) first captured => if first.size = 0 then some (.fn f (captured.toList.map ρ)) else none
  | .slice t x lo hi mx => pSlice P H t (ρ x) (lo.map ρ) (hi.map ρ) (mx.map ρ)
  | .fieldAddr t x f => pFieldAddr P H t f (ρ x)
  | .field t x f => pField P t f (ρ x)
  | .indexAddr t x i => pIndexAddr P H t (ρ x) (ρ i)
  | .index t x i => pIndex P t (ρ x) (ρ i)
  | .build t ps => pBuild P H t (evParts ρ ps)
  | .buildSlice t len ps => pBuildSlice P H t len (evParts ρ ps)
  | .extract t i => pExtract i (ρ t)
  | .lookup t x k c => pLookup P H t (ρ x) (ρ k) c
  | .call c => match c.callee, c.args.toList.map ρ with
    | .builtin .len, [x] => match c.argTypes[0]? with
      | some t => pLen P H t x
      | none => none
    | .builtin .max, x :: xs => pMM true x xs
    | .builtin .min, x :: xs => pMM false x xs
    | _, _ => none
  | _ => none
def RepF (R : Env) (ρ : Operand → SV) (σ : Operand → Value) : Prop := ∀ x, Rep R (ρ x) (σ x)
theorem evParts_rep {R : Env} {ρ : Operand → SV} {σ : Operand → Value} (h : RepF R ρ σ) (ps : Array (Nat × Operand)) : PartsR R (evParts ρ ps) (ps.map fun (i, x) => (i, σ x)).toList := by
  refine ⟨by simp [evParts], fun i hi hj => ?_⟩
  simp only [evParts, List.getElem_map, Array.toList_map]
  exact ⟨trivial, h _⟩
theorem RepO.map {R : Env} {ρ : Operand → SV} {σ : Operand → Value} (h : RepF R ρ σ) (x : Option Operand) : RepO R (x.map ρ) (x.map σ) := by
  cases x with
  | none => trivial
  | some x => exact h x
theorem stepF_sound {P : Program} {R : Env} (hR : HRep R) {o : Oper} {ρ : Operand → SV} {σ : Operand → Value} {r : SV} (h : stepF P o ρ R.H = some r) (hr : RepF R ρ σ) : FSnd P R (execOp σ o) r := by
  obtain ⟨dst, op, type, pos, after, guard⟩ := o
  have pureF : ∀ (v : Value), Rep R r v → FSnd P R (pure (.value v)) r := fun v hv => ⟨v, R.w, rfl, Grows.refl _, hv⟩
  cases op with
  | move x => cases h; exact pureF _ (hr x)
  | assign x => cases h; exact pureF _ (hr x)
  | pick c a b =>
    simp only [stepF] at h
    split at h
    · rename_i t ht
      have hc := hr c
      rw [ht] at hc
      have hc' := rep_v.1 hc
      have hrun : ∀ y, Rep R r y → (if t then σ a else σ b) = y → FSnd P R (execOp σ ⟨dst, .pick c a b, type, pos, after, guard⟩) r := fun y hy e => by
        refine ⟨y, R.w, ?_, Grows.refl _, hy⟩
        simp only [execOp, hc', asBool, Sem.run_bind, Sem.run_pure, Result.andThen_ok, e]
      cases t
      · simp only [Bool.false_eq_true, if_false] at h
        cases h
        exact hrun _ (hr b) rfl
      · simp only [if_true] at h
        cases h
        exact hrun _ (hr a) rfl
    · cases h
  | load t a =>
    obtain ⟨b, o, v, e1, e2, e3⟩ := vload_sound (P := P) hR h (hr a)
    refine FSnd.of ⟨v, ?_, e3⟩
    simp only [Instr.loadAt, e1, Instr.sureAddr, Sem.run_bind, Sem.run_pure, Result.andThen_ok, e2]
  | nilCheck x =>
    simp only [stepF] at h
    have hx := hr x
    have key : ∀ (y : Value), σ x = y → (y ≠ .pointer none ∧ y ≠ .nilIface ∧ y ≠ .nilFunc ∧ ∀ n f c, y ≠ .func (.method n) f c) → Rep R r y → FSnd P R (execOp σ ⟨dst, .nilCheck x, type, pos, after, guard⟩) r := by
      intro y hy hne hrep
      refine ⟨y, R.w, ?_, Grows.refl _, hrep⟩
      simp only [execOp, hy]
      split
      · exact absurd rfl hne.1
      · exact absurd rfl hne.2.1
      · exact absurd rfl hne.2.2.1
      · exact absurd rfl (hne.2.2.2 _ _ _)
      · rfl
    unfold pNil at h
    split at h
    · rename_i id off hρ
      cases h
      rw [hρ] at hx
      generalize hv : σ x = y at hx
      cases hx with
      | ptr id off a hid hb hρ' hs => exact key _ hv (by simp) (.ptr id off a hid hb hρ' hs)
    · rename_i cs hρ
      cases h
      rw [hρ] at hx
      generalize hv : σ x = y at hx
      cases hx with
      | ro cs b o f hi hc hz h => exact key _ hv (by simp) (.ro cs b o f hi hc hz h)
    · rename_i id g i o hρ
      split at h
      · rename_i hval
        cases h
        rw [hρ] at hx
        generalize hv : σ x = y at hx
        cases hx with
        | rptr id g i o n xs a hr hi hρ hs => exact key _ hv (by simp) (.rptr id g i o n xs a hr hi hρ hs)
        | rptrOld id g i o y hid hr =>
          simp only [svValid] at hval
          split at hval
          · rename_i g' n xs hc
            have h1 := hr g' n xs hc
            have h2 : g' = g := by simpa using hval
            omega
          · cases hval
      · cases h
    · rename_i f cs hρ
      cases h
      rw [hρ] at hx
      generalize hv : σ x = y at hx
      cases hx with
      | fn _ _ a hl h => exact key _ hv (by simp) (.fn f cs a hl h)
    · cases h
  | binOp op t x y yt => exact FSnd.of (pBin_sound h (hr x) (hr y))
  | unOp op t x => exact FSnd.of (pUn_sound h (hr x))
  | convert s d x => exact FSnd.of (pConv_sound hR h (hr x))
  | makeFunc fn first captured =>
    cases fn with
    | func f =>
      simp only [stepF] at h
      split at h
      · rename_i hz
        cases h
        have : first = #[] := Array.eq_empty_of_size_eq_zero hz
        subst this
        refine ⟨.func (.func f) #[] (captured.map σ), R.w, by simp only [execOp, Instr.makeFunc, Sem.run_bind, Sem.run_pure, Result.andThen_ok, Array.map_empty], Grows.refl _, ?_⟩
        refine .fn f (captured.toList.map ρ) (captured.map σ) (by simp) fun i hi hj => ?_
        have e1 : (captured.toList.map ρ)[i] = ρ (captured[i]'(by simpa using hj)) := by simp
        have e2 : (captured.map σ)[i]'hj = σ (captured[i]'(by simpa using hj)) := by simp
        rw [e1]
        exact e2 ▸ hr _
      · cases h
    | _ => cases h
  | slice t x lo hi mx => exact FSnd.of (pSlice_sound hR h (hr x) (RepO.map hr lo) (RepO.map hr hi) (RepO.map hr mx))
  | fieldAddr t x f => exact FSnd.of (pFieldAddr_sound h (hr x))
  | field t x f => exact FSnd.of (pField_sound h (hr x))
  | indexAddr t x i => exact FSnd.of (pIndexAddr_sound hR h (hr x) (hr i))
  | index t x i => exact FSnd.of (pIndex_sound h (hr x) (hr i))
  | build t ps => exact FSnd.of (pBuild_sound h (evParts_rep hr ps))
  | buildSlice t len ps => exact pBuildSlice_sound hR h (evParts_rep hr ps)
  | extract t i => exact FSnd.of (pExtract_sound h (hr t))
  | lookup t x k c => exact FSnd.of (pLookup_sound hR h (hr x) (hr k))
  | call c =>
    obtain ⟨callee, args, argTypes⟩ := c
    simp only [stepF] at h
    have harg : ∀ (i : Nat) (hi : i < (args.toList.map ρ).length) (hj : i < (args.toList.map σ).length), Rep R (args.toList.map ρ)[i] (args.toList.map σ)[i] := fun i hi hj => by
      simp only [List.getElem_map]; exact hr _
    split at h
    · rename_i x hx
      split at h
      · rename_i t ht
        obtain ⟨ao, rfl⟩ : ∃ ao, args = #[ao] := by
          have : args.toList.length = 1 := by have := congrArg List.length hx; simpa using this
          obtain ⟨l⟩ := args
          match l, this with
          | [a], _ => exact ⟨a, rfl⟩
        simp only [List.map_cons, List.map_nil, List.cons.injEq, and_true] at hx
        subst hx
        have := FSnd.of (pLen_sound (P := P) hR h (hr ao) ht type)
        obtain ⟨v, w', q1, q2, q3⟩ := this
        refine ⟨v, w', ?_, q2, q3⟩
        rw [← q1]
        simp only [execOp, resolve, invoke, builtin, pure_bind]
        have : (#[ao] : Array Operand).map σ = #[σ ao] := by simp
        rw [this]
      · cases h
    · rename_i x xs hx
      cases hl : args.toList.map σ with
      | nil =>
        have h1 := congrArg List.length hl
        have h2 := congrArg List.length hx
        rw [List.length_map] at h1 h2
        rw [h1] at h2
        cases h2
      | cons v vs =>
        have hl2 : vs.length = xs.length := by
          have a1 := congrArg List.length hl
          have a2 := congrArg List.length hx
          simp at a1 a2; omega
        have h0 := harg 0 (by rw [hx]; simp) (by rw [hl]; simp)
        simp only [hx, hl, List.getElem_cons_zero] at h0
        obtain ⟨u, q1, q2⟩ := pMax_sound (P := P) xs vs x r v h h0 hl2 (fun i hi hj => by
          have := harg (i + 1) (by rw [hx]; simp; exact hi) (by rw [hl]; simp; exact hj)
          simp only [hx, hl, List.getElem_cons_succ] at this
          exact this)
        refine ⟨u, R.w, ?_, Grows.refl _, q2⟩
        have : (args.map σ).toList = v :: vs := by rw [Array.toList_map]; exact hl
        simp only [execOp, resolve, invoke, builtin, pure_bind, Builtin.max_, this, Sem.run_bind, q1, Result.andThen_ok, Sem.run_pure]
    · rename_i x xs hx
      cases hl : args.toList.map σ with
      | nil =>
        have h1 := congrArg List.length hl
        have h2 := congrArg List.length hx
        rw [List.length_map] at h1 h2
        rw [h1] at h2
        cases h2
      | cons v vs =>
        have hl2 : vs.length = xs.length := by
          have a1 := congrArg List.length hl
          have a2 := congrArg List.length hx
          simp at a1 a2; omega
        have h0 := harg 0 (by rw [hx]; simp) (by rw [hl]; simp)
        simp only [hx, hl, List.getElem_cons_zero] at h0
        obtain ⟨u, q1, q2⟩ := pMin_sound (P := P) xs vs x r v h h0 hl2 (fun i hi hj => by
          have := harg (i + 1) (by rw [hx]; simp; exact hi) (by rw [hl]; simp; exact hj)
          simp only [hx, hl, List.getElem_cons_succ] at this
          exact this)
        refine ⟨u, R.w, ?_, Grows.refl _, q2⟩
        have : (args.map σ).toList = v :: vs := by rw [Array.toList_map]; exact hl
        simp only [execOp, resolve, invoke, builtin, pure_bind, Builtin.min_, this, Sem.run_bind, q1, Result.andThen_ok, Sem.run_pure]
    · cases h
  | _ => cases h
end Go.Vm

/- The virtual machine, part 10: new variables, stores. Generic: no program in sight. -/
set_option linter.unusedVariables false
set_option linter.unusedSimpArgs false
namespace Go.Vm
open Go.RowKit

/-! ### New boxes -/
theorem box_new {R : Env} (h : HRep R) {cs : List SV} {arr : Array Value} (hc : CellsR R cs arr) (e : TypeId) :
    Ext R ⟨R.H ++ [.box cs], upd R.ρ R.H.length (some ⟨R.w.heap.size, 0, none⟩), R.w.alloc (.cells arr e)⟩ ∧
    HRep ⟨R.H ++ [.box cs], upd R.ρ R.H.length (some ⟨R.w.heap.size, 0, none⟩), R.w.alloc (.cells arr e)⟩ ∧
    Rep ⟨R.H ++ [.box cs], upd R.ρ R.H.length (some ⟨R.w.heap.size, 0, none⟩), R.w.alloc (.cells arr e)⟩ (.ptr R.H.length 0) (.pointer (some ⟨R.w.heap.size, 0, none⟩)) := by
  have g := Grows.alloc R.w (.cells arr e)
  have hs := new_same R.H (.box cs)
  have ex := Ext.new h (.box cs) (some ⟨R.w.heap.size, 0, none⟩) g.like g.size g.keep (fun a ha => by cases ha; exact Nat.le_refl _)
  refine ⟨ex, HRep.new h (.box cs) (some ⟨R.w.heap.size, 0, none⟩) g.like g.size g.keep (fun a ha => by cases ha; exact ⟨Nat.le_refl _, rfl, by simp⟩) fun e' => ⟨fun cs' h1 => ?_, fun g n xs h1 => ?_, fun es h1 => ?_⟩, ?_⟩
  · cases hs.symm.trans h1
    refine ⟨⟨R.w.heap.size, 0, none⟩, arr, e, (0, 0), upd_same .., heap_alloc_new .., fun j hj hf => by simp at hf, by simp [hc.1], fun j hj hk => ?_⟩
    simp only [Nat.zero_add] at hk ⊢
    exact (hc.2 j hj hk).mono e'
  · cases hs.symm.trans h1
  · cases hs.symm.trans h1
  · exact .ptr R.H.length 0 ⟨R.w.heap.size, 0, none⟩ (by simp) (fun g n xs h1 => by cases hs.symm.trans h1) (upd_same ..) rfl

/-- A new box under a name that was kept for it. -/
theorem box_fill {R : Env} (h : HRep R) {k g n : Nat} (hb : R.H[k]? = some (.row g n [])) {cs : List SV} {arr : Array Value} (hc : CellsR R cs arr) (e : TypeId) :
    Ext R ⟨R.H.set k (.box cs), upd R.ρ k (some ⟨R.w.heap.size, 0, none⟩), R.w.alloc (.cells arr e)⟩ ∧
    HRep ⟨R.H.set k (.box cs), upd R.ρ k (some ⟨R.w.heap.size, 0, none⟩), R.w.alloc (.cells arr e)⟩ ∧
    Rep ⟨R.H.set k (.box cs), upd R.ρ k (some ⟨R.w.heap.size, 0, none⟩), R.w.alloc (.cells arr e)⟩ (.ptr k 0) (.pointer (some ⟨R.w.heap.size, 0, none⟩)) := by
  have gr := Grows.alloc R.w (.cells arr e)
  have hnr : ∀ g n xs, VB.box cs ≠ .row g n xs := fun g n xs h => by cases h
  have hs := set_same R.H k (.box cs) (lt_of_some hb)
  have ex := Ext.fill h hb hnr gr.like gr.size gr.keep (a := ⟨R.w.heap.size, 0, none⟩) (Nat.le_refl _)
  refine ⟨ex, HRep.fill h hb hnr gr.like gr.size gr.keep (a := ⟨R.w.heap.size, 0, none⟩) (Nat.le_refl _) rfl (by simp) fun e' => ⟨fun cs' h1 => ?_, fun g n xs h1 => ?_, fun es h1 => ?_⟩, ?_⟩
  · cases hs.symm.trans h1
    refine ⟨⟨R.w.heap.size, 0, none⟩, arr, e, (0, 0), upd_same .., heap_alloc_new .., fun j hj hf => by simp at hf, by simp [hc.1], fun j hj hk => ?_⟩
    simp only [Nat.zero_add] at hk ⊢
    exact (hc.2 j hj hk).mono e'
  · cases hs.symm.trans h1
  · cases hs.symm.trans h1
  · exact .ptr k 0 ⟨R.w.heap.size, 0, none⟩ (by simpa using lt_of_some hb) (fun g n xs h1 => by cases hs.symm.trans h1) (upd_same ..) rfl

/-! ### Stores -/
theorem unfrozen_false {w : World} {b : Nat} {c : Array Value} {e : TypeId} {fz : Nat × Nat} (h : w.heap[b]? = some (.cells c e fz)) (hf : unfrozen fz c.size) {o : Nat} (ho : o < c.size) : w.frozen? ⟨b, o, none⟩ = false := by
  have := hf o ho
  simp only [World.frozen?, h]
  simpa using this
theorem run_storeCells {P : Program} {b o : Nat} : ∀ (vs : List Value) (i : Nat) (w : World) (c : Array Value) (e : TypeId) (fz : Nat × Nat), w.heap[b]? = some (.cells c e fz) → unfrozen fz c.size → o + i + vs.length ≤ c.size → (∀ v, v ∈ vs → v.oneCell' = true) →
    ∃ w' c', (storeCells ⟨b, o, none⟩ vs i).run P w = .ok () w' ∧ Like w w' ∧ w'.heap.size = w.heap.size ∧ w'.heap[b]? = some (.cells c' e fz) ∧ (∀ k, k ≠ b → w'.heap[k]? = w.heap[k]?) ∧ c'.size = c.size ∧
      ∀ k, c'[k]? = if o + i ≤ k ∧ k < o + i + vs.length then vs[k - (o + i)]? else c[k]?
  | [], i, w, c, e, fz, h, hf, hl, hv => ⟨w, c, rfl, Like.refl w, rfl, h, fun _ _ => rfl, rfl, fun k => by rw [if_neg (by simp)]⟩
  | v :: vs, i, w, c, e, fz, h, hf, hl, hv => by
    simp only [List.length_cons] at hl
    have hlt : o + i < c.size := by omega
    have hcell : w.cell? ⟨b, o + i, none⟩ = some c[o + i] := by simp [World.cell?, h, hlt]
    have hfr := unfrozen_false h hf hlt
    have hone := hv v (by simp)
    have hset : (w.setCell ⟨b, o + i, none⟩ v).heap[b]? = some (.cells (c.setIfInBounds (o + i) v) e fz) := by
      simp [World.setCell, Array.getElem?_modify, h]
    obtain ⟨w', c', q1, q2, q3, q4, q5, q6, q7⟩ := run_storeCells (P := P) (b := b) (o := o) vs (i + 1) (w.setCell ⟨b, o + i, none⟩ v) (c.setIfInBounds (o + i) v) e fz hset (by simpa using hf) (by simp; omega) (fun u hu => hv u (by simp [hu]))
    refine ⟨w', c', ?_, Like.trans (show Like w (w.setCell ⟨b, o + i, none⟩ v) from ⟨rfl, rfl, rfl⟩) q2, by rw [q3]; simp, q4, fun k hk => ?_, by rw [q6]; simp, fun k => ?_⟩
    · simp only [storeCells, add_plain, Sem.run_bind, run_store _ _ _ _ _ hone, hcell, hfr, Bool.false_eq_true, if_false, Result.andThen_ok]
      exact q1
    · rw [q5 k hk]
      exact Below.heap_setCell _ _ _ _ hk
    · rw [q7 k]
      by_cases h1 : k = o + i
      · subst h1
        rw [if_neg (by omega), if_pos (by simp)]
        simp [hlt]
      · by_cases h2 : o + (i + 1) ≤ k ∧ k < o + (i + 1) + vs.length
        · rw [if_pos h2, if_pos (by simp; omega), show k - (o + i) = (k - (o + (i + 1))) + 1 by omega, List.getElem?_cons_succ]
        · rw [if_neg h2, if_neg (by simp; omega), Array.getElem?_setIfInBounds_ne (Ne.symm h1)]
def svCell (H : List VB) : SV → Bool
  | .agg _ => false
  | x => svValid H x
theorem svCell_one {R : Env} {x : SV} {y : Value} (h : svCell R.H x = true) (hr : Rep R x y) : y.oneCell' = true ∧ x.cells = [x] := by
  cases hr with
  | agg cs a hl hh => cases h
  | junk => cases h
  | tup cs a hl hh => cases h
  | v => exact ⟨h, rfl⟩
  | slcOld id g off len y hid hr' =>
    simp only [svCell, svValid] at h
    split at h
    · rename_i g' n xs hc
      have h1 := hr' g' n xs hc
      have h2 : g' = g := by simpa using h
      omega
    · cases h
  | rptrOld id g i o y hid hr' =>
    simp only [svCell, svValid] at h
    split at h
    · rename_i g' n xs hc
      have h1 := hr' g' n xs hc
      have h2 : g' = g := by simpa using h
      omega
    · cases h
  | _ => exact ⟨rfl, rfl⟩
def elemPut (old : SV) (o : Nat) (vs : List SV) : SV :=
  match old with
  | .agg cs => .agg (lput cs o vs)
  | old => (lput [old] o vs).headD .junk
theorem elemPut_cells {H : List VB} {old : SV} {o : Nat} {vs : List SV} (h : o + vs.length ≤ old.cells.length) (hv : ∀ c, c ∈ vs → svCell H c = true) : (elemPut old o vs).cells = lput old.cells o vs := by
  have leaf : old.cells = [old] → (∀ cs, old ≠ .agg cs) → ((lput [old] o vs).headD .junk).cells = lput old.cells o vs := by
    intro h1 h2
    rw [h1] at h ⊢
    simp only [List.length_cons, List.length_nil] at h
    match vs, hv with
    | [], _ =>
      have : lput [old] o [] = [old] := by
        unfold lput
        simp only [List.append_nil, List.length_nil, Nat.add_zero, List.take_append_drop]
      rw [this]
      exact h1
    | [c], hv =>
      have : o = 0 := by simp at h; omega
      subst this
      have hc := hv c (by simp)
      have : lput [old] 0 [c] = [c] := rfl
      rw [this]
      cases c <;> first | rfl | (simp [svCell] at hc; done)
    | _ :: _ :: _, _ => simp at h; omega
  cases old <;> first | rfl | exact leaf rfl (fun cs h => by cases h)
def putCells (H : List VB) (a : SV) (vs : List SV) : Option (List VB) :=
  match a with
  | .ptr id off => match H[id]? with
    | some (.box cs) => if off + vs.length ≤ cs.length then some (H.set id (.box (lput cs off vs))) else none
    | _ => none
  | .rptr id g i o => match H[id]? with
    | some (.row g' n xs) => if g = g' then (match xs[i]? with
      | some old => if o + vs.length ≤ old.cells.length then some (H.set id (.row g n (xs.set i (elemPut old o vs)))) else none
      | none => none) else none
    | _ => none
  | _ => none
/-- A run of cells in a known block is written. -/
theorem put_block {P : Program} {R : Env} (h : HRep R) {k : Nat} {b b' : VB} (hb : R.H[k]? = some b) (ht : Turns b b') {a : Addr} {c : Array Value} {e : TypeId} {fz : Nat × Nat} (hρ : R.ρ k = some a)
    (hw : R.w.heap[a.block]? = some (.cells c e fz)) (hf : unfrozen fz c.size) {o : Nat} {vs : List Value} (hle : o + vs.length ≤ c.size) (hv : ∀ v, v ∈ vs → v.oneCell' = true)
    (hok : ∀ (w' : World) (c' : Array Value), w'.heap[a.block]? = some (.cells c' e fz) → c'.size = c.size → (∀ k, c'[k]? = if o ≤ k ∧ k < o + vs.length then vs[k - o]? else c[k]?) →
      Ext R ⟨R.H.set k b', R.ρ, w'⟩ → IdOk ⟨R.H.set k b', R.ρ, w'⟩ k) :
    ∃ w', (storeCells ⟨a.block, o, none⟩ vs).run P R.w = .ok () w' ∧ Ext R ⟨R.H.set k b', R.ρ, w'⟩ ∧ HRep ⟨R.H.set k b', R.ρ, w'⟩ := by
  obtain ⟨w', c', q1, q2, q3, q4, q5, q6, q7⟩ := run_storeCells (P := P) (b := a.block) (o := o) vs 0 R.w c e fz hw hf (by omega) hv
  simp only [Nat.add_zero] at q7
  have hk : ∀ j, (∀ a', R.ρ k = some a' → a'.block ≠ j) → w'.heap[j]? = R.w.heap[j]? := fun j hj => q5 j (Ne.symm (hj a hρ))
  have hz : ∀ j, blkSize w' j = blkSize R.w j := fun j => by
    by_cases hj : j = a.block
    · subst hj; simp [blkSize, q4, hw, q6]
    · simp [blkSize, q5 j hj]
  exact ⟨w', q1, Ext.set h hb ht q2 q3 hk hz, HRep.set h hb ht q2 q3 hk hz (hok w' c' q4 q6 q7)⟩
theorem putCells_sound {P : Program} {R : Env} (h : HRep R) {x : SV} {vs : List SV} {H' : List VB} {y : Value} {ws : Array Value} (hp : putCells R.H x vs = some H') (hr : Rep R x y) (hc : CellsR R vs ws) (hv : ∀ c, c ∈ vs → svCell R.H c = true) :
    ∃ b o w', y = .pointer (some ⟨b, o, none⟩) ∧ (storeCells ⟨b, o, none⟩ ws.toList).run P R.w = .ok () w' ∧ Ext R ⟨H', R.ρ, w'⟩ ∧ HRep ⟨H', R.ρ, w'⟩ := by
  have hone : ∀ v, v ∈ ws.toList → v.oneCell' = true := by
    intro v hv'
    obtain ⟨i, hi, rfl⟩ := List.getElem_of_mem hv'
    simp only [Array.length_toList] at hi
    exact (svCell_one (hv _ (List.getElem_mem (by rw [← hc.1]; exact hi))) (hc.2 i (by rw [← hc.1]; exact hi) hi)).1
  have hws : ws.toList.length = vs.length := by simp [hc.1]
  have hwg : ∀ (i : Nat) (hi : i < vs.length), ∃ u, ws.toList[i]? = some u ∧ Rep R vs[i] u := fun i hi => ⟨ws[i]'(by rw [hc.1]; exact hi), by simp [hc.1, hi], hc.2 i hi _⟩
  unfold putCells at hp
  split at hp
  · rename_i id off
    split at hp
    · rename_i cs hbox
      split at hp
      · rename_i hle
        cases hp
        cases hr with
        | ptr id' off' a hid hb hρ hs =>
          obtain ⟨a', c, e, fz, q1, q2, q3, q4, q5⟩ := h.box id cs hbox
          rw [hρ] at q1
          cases q1
          obtain ⟨w', p1, p2, p3⟩ := put_block (P := P) (b' := .box (lput cs off vs)) h hbox trivial hρ q2 q3 (o := a.off + off) (vs := ws.toList) (by rw [hws]; omega) hone (by
            intro w' c' r1 r2 r3 ex
            have hs' := set_same R.H id (.box (lput cs off vs)) hid
            refine ⟨fun cs' h1 => ?_, fun g n xs h1 => (by cases hs'.symm.trans h1), fun es h1 => (by cases hs'.symm.trans h1)⟩
            cases hs'.symm.trans h1
            refine ⟨a, c', e, fz, hρ, r1, by rw [r2]; exact q3, by rw [lput_length hle, r2]; exact q4, fun j hj hk => ?_⟩
            have g1 := lput_get hle j
            rw [List.getElem?_eq_getElem hj] at g1
            have g2 := r3 (a.off + j)
            rw [Array.getElem?_eq_getElem hk, hws] at g2
            by_cases hin : off ≤ j ∧ j < off + vs.length
            · rw [if_pos hin] at g1
              rw [if_pos (by omega), show a.off + j - (a.off + off) = j - off by omega] at g2
              obtain ⟨u, u1, u2⟩ := hwg (j - off) (by omega)
              rw [u1] at g2
              rw [List.getElem?_eq_getElem (show j - off < vs.length by omega)] at g1
              injection g1 with g1
              injection g2 with g2
              rw [g1, g2]
              exact u2.mono ex
            · rw [if_neg hin] at g1
              rw [if_neg (by omega)] at g2
              rw [lput_length hle] at hj
              rw [List.getElem?_eq_getElem hj] at g1
              rw [Array.getElem?_eq_getElem (by omega)] at g2
              injection g1 with g1
              injection g2 with g2
              rw [g1, g2]
              exact (q5 j hj (by omega)).mono ex)
          exact ⟨_, _, w', rfl, p1, p2, p3⟩
      · cases hp
    · cases hp
  · rename_i id g i o
    split at hp
    · rename_i g' n xs hrow
      split at hp
      · rename_i hg
        subst hg
        split at hp
        · rename_i old hold
          split at hp
          · rename_i hle
            cases hp
            have hi := lt_of_some hold
            rw [List.getElem?_eq_getElem hi] at hold
            cases hold
            cases hr with
            | rptr id' g' i' o' n' xs' a hr hi' hρ hs =>
              rw [hrow] at hr
              cases hr
              obtain ⟨hn, h1 | ⟨a', c, e, fz, q1, q2, q3, q4, q5⟩⟩ := h.row id g n xs hrow
              · rw [h1.1] at hρ; cases hρ
              · rw [hρ] at q1
                cases q1
                have ec := elemPut_cells hle hv
                have e1 := hn _ (List.getElem_mem hi)
                have h2 : (i + 1) * n ≤ xs.length * n := Nat.mul_le_mul_right n hi
                have h3 : (i + 1) * n = i * n + n := Nat.succ_mul i n
                obtain ⟨w', p1, p2, p3⟩ := put_block (P := P) (b' := .row g n (xs.set i (elemPut xs[i] o vs))) h hrow (.inl ⟨rfl, rfl, by simp⟩) hρ q2 q3 (o := a.off + i * n + o) (vs := ws.toList) (by rw [hws]; omega) hone (by
                  intro w' c' r1 r2 r3 ex
                  have hs' := set_same R.H id (.row g n (xs.set i (elemPut xs[i] o vs))) (lt_of_some hrow)
                  refine ⟨fun cs' h1 => (by cases hs'.symm.trans h1), fun g2 n2 xs2 h1 => ?_, fun es h1 => (by cases hs'.symm.trans h1)⟩
                  cases hs'.symm.trans h1
                  refine ⟨fun x hx => ?_, .inr ⟨a, c', e, fz, hρ, r1, by rw [r2]; exact q3, by simp only [List.length_set]; rw [r2]; exact q4, fun k hk j hj hkk => ?_⟩⟩
                  · rcases List.mem_or_eq_of_mem_set hx with hx | rfl
                    · exact hn x hx
                    · rw [ec, lput_length hle]; exact e1
                  · have g2 := r3 (a.off + k * n + j)
                    rw [Array.getElem?_eq_getElem hkk, hws] at g2
                    simp only [List.length_set] at hk
                    by_cases hki : k = i
                    · subst hki
                      have eg : (xs.set k (elemPut xs[k] o vs))[k]'(by simpa using hk) = elemPut xs[k] o vs := by simp
                      have hj2 : j < (lput xs[k].cells o vs).length := by rw [← ec]; simpa only [eg] using hj
                      have g1 := lput_get hle j
                      rw [List.getElem?_eq_getElem hj2] at g1
                      have goal : Rep ⟨R.H.set id (.row g n (xs.set k (elemPut xs[k] o vs))), R.ρ, w'⟩ ((lput xs[k].cells o vs)[j]) (c'[a.off + k * n + j]) := by
                        by_cases hin : o ≤ j ∧ j < o + vs.length
                        · rw [if_pos hin] at g1
                          rw [if_pos (by omega), show a.off + k * n + j - (a.off + k * n + o) = j - o by omega] at g2
                          obtain ⟨u, u1, u2⟩ := hwg (j - o) (by omega)
                          rw [u1] at g2
                          rw [List.getElem?_eq_getElem (show j - o < vs.length by omega)] at g1
                          injection g1 with g1
                          injection g2 with g2
                          rw [g1, g2]
                          exact u2.mono ex
                        · rw [if_neg hin] at g1
                          rw [if_neg (by omega)] at g2
                          rw [lput_length hle] at hj2
                          rw [List.getElem?_eq_getElem hj2] at g1
                          rw [Array.getElem?_eq_getElem (by omega)] at g2
                          injection g1 with g1
                          injection g2 with g2
                          rw [g1, g2]
                          exact (q5 k hi j hj2 (by omega)).mono ex
                      simpa only [eg, ec] using goal
                    · have eg : (xs.set i (elemPut xs[i] o vs))[k]'(by simpa using hk) = xs[k] := by rw [List.getElem_set_ne (Ne.symm hki)]
                      have hj2 : j < xs[k].cells.length := by simpa only [eg] using hj
                      have e2 := hn _ (List.getElem_mem hk)
                      have hout : ¬ (a.off + i * n + o ≤ a.off + k * n + j ∧ a.off + k * n + j < a.off + i * n + o + vs.length) := by
                        rcases Nat.lt_or_ge k i with hlt | hge
                        · have m1 : (k + 1) * n ≤ i * n := Nat.mul_le_mul_right n hlt
                          have m2 : (k + 1) * n = k * n + n := Nat.succ_mul k n
                          omega
                        · have m1 : (i + 1) * n ≤ k * n := Nat.mul_le_mul_right n (by omega)
                          omega
                      rw [if_neg hout] at g2
                      have m3 : (k + 1) * n ≤ xs.length * n := Nat.mul_le_mul_right n hk
                      have m4 : (k + 1) * n = k * n + n := Nat.succ_mul k n
                      rw [Array.getElem?_eq_getElem (by omega)] at g2
                      injection g2 with g2
                      have := (q5 k hk j hj2 (by omega)).mono ex
                      rw [← g2] at this
                      simpa only [eg] using this)
                exact ⟨_, _, w', rfl, p1, p2, p3⟩
            | rptrOld id' g' i' o' y hid hr =>
              have := hr _ _ _ hrow
              omega
          · cases hp
        · cases hp
      · cases hp
    · cases hp
  · cases hp
def pStore (P : Program) (H : List VB) (t : TypeId) (a x : SV) : Option (List VB) :=
  if (P.underlying t).isSome = true ∧ svValid H x = true ∧ x.cells.length = P.cellsOf t ∧ (∀ c, c ∈ x.cells → svCell H c = true) then putCells H a x.cells else none
theorem pStore_sound {P : Program} {R : Env} (h : HRep R) {t : TypeId} {a x : SV} {H' : List VB} {y z : Value} (hp : pStore P R.H t a x = some H') (ha : Rep R a y) (hx : Rep R x z) :
    ∃ w', (Instr.storeAt t y z).run P R.w = .ok () w' ∧ Ext R ⟨H', R.ρ, w'⟩ ∧ HRep ⟨H', R.ρ, w'⟩ := by
  unfold pStore at hp
  split at hp
  · rename_i hc
    obtain ⟨c1, c2, c3, c4⟩ := hc
    obtain ⟨d, hd⟩ := Option.isSome_iff_exists.1 c1
    have hcells := valid_cells c2 hx
    obtain ⟨b, o, w', rfl, p1, p2, p3⟩ := putCells_sound (P := P) h hp ha hcells c4
    refine ⟨w', ?_, p2, p3⟩
    have : ¬ (z.cells.size ≠ P.cellsOf t) := by rw [hcells.1, c3]; simp
    simp only [Instr.storeAt, Instr.sureAddr, Sem.run_bind, Sem.run_pure, Result.andThen_ok, storeVar, run_sizeOf hd, this, if_false, pure_bind, p1]
  · cases hp
end Go.Vm

/- The virtual machine, part 11: slices that grow, slices that are made, copies. Generic: no program in sight. -/
set_option linter.unusedVariables false
set_option linter.unusedSimpArgs false
namespace Go.Vm
open Go.RowKit
def VSnd (P : Program) (R : Env) (s : Sem Value) (K : SV → List VB → Prop) : Prop := ∃ v r R', s.run P R.w = .ok v R'.w ∧ Ext R R' ∧ HRep R' ∧ Rep R' r v ∧ K r R'.H

/-! ### What is appended, what is copied -/
def vsrc (H : List VB) (n : Nat) (x : SV) : Option (List SV) :=
  match x with
  | .v (.slice none 0 0) => some []
  | .v (.string s) => if n = 1 then some (s.data.toList.map byteSV) else none
  | x => match vread H x with
    | some (n', xs) => if n' = n then some xs else none
    | none => none
theorem take_flat {n : Nat} {xs : List SV} (hn : ∀ x, x ∈ xs → x.cells.length = n) (k : Nat) (hk : k ≤ xs.length) : ((xs.take k).flatMap SV.cells).length = k * n := by
  rw [flat_length _ (fun x hx => hn x (List.mem_of_mem_take hx))]
  simp [hk]
theorem vsrc_sound {P : Program} {R : Env} (hR : HRep R) {n : Nat} {x : SV} {ys : List SV} {a : Value} (h : vsrc R.H n x = some ys) (ha : Rep R x a) :
    (Builtin.lenOf a).run P R.w = .ok ys.length R.w ∧ (∀ y, y ∈ ys → y.cells.length = n) ∧ ∀ k, k ≤ ys.length → ∃ arr, (Builtin.firstCells n k a).run P R.w = .ok arr R.w ∧ CellsR R ((ys.take k).flatMap SV.cells) arr := by
  unfold vsrc at h
  split at h
  · cases h
    obtain rfl := rep_v.1 ha
    refine ⟨rfl, fun y hy => (by cases hy), fun k hk => ⟨#[], rfl, by simp, fun i hi => ?_⟩⟩
    simp at hi
  · rename_i s
    split at h
    · rename_i hn
      subst hn
      cases h
      obtain rfl := rep_v.1 ha
      have hsz : s.data.size = s.size := rfl
      refine ⟨by simp [Builtin.lenOf, hsz], fun y hy => ?_, fun k hk => ?_⟩
      · obtain ⟨b, _, rfl⟩ := List.mem_map.1 hy; rfl
      · refine ⟨_, rfl, ?_⟩
        simp only [List.length_map, Array.length_toList] at hk
        have e1 : ((s.data.toList.map byteSV).take k).flatMap SV.cells = (s.data.toList.take k).map byteSV := by
          rw [← List.map_take]
          generalize s.data.toList.take k = l
          induction l with
          | nil => rfl
          | cons b l ih => simp only [List.map_cons, List.flatMap_cons, ih]; rfl
        rw [e1]
        have e2 : ((s.extract 0 k).data.map fun b => Value.int .u8 b.toNat).toList = (s.data.toList.take k).map fun b => Value.int .u8 b.toNat := by
          rw [Array.toList_map, Lib.extract_data]
          simp
        refine ⟨by rw [← Array.length_toList, e2]; simp, fun i hi hj => ?_⟩
        have e3 : ((s.extract 0 k).data.map fun b => Value.int .u8 b.toNat)[i] = (((s.extract 0 k).data.map fun b => Value.int .u8 b.toNat).toList)[i]'(by simpa using hj) := by simp
        rw [e3]
        simp only [e2, List.getElem_map]
        exact .v _
    · cases h
  · split at h
    · rename_i n' xs hx
      split at h
      · rename_i hn
        subst hn
        cases h
        obtain ⟨ad, c, rfl, hc, hn, hcells⟩ := vread_sound hR hx ha
        refine ⟨rfl, hn, fun k hk => ?_⟩
        rcases hcells with h0 | ⟨b, o, rfl, hcells⟩
        · subst h0
          have hk0 : k = 0 := by simpa using hk
          subst hk0
          refine ⟨#[], ?_, by simp, fun i hi => by simp at hi⟩
          cases ad with
          | none => rfl
          | some ad => simp only [Builtin.firstCells, Nat.zero_mul, loadCells, loadCellsFrom]; rfl
        · have hlen := take_flat hn k hk
          have hf : ∀ j, ∃ y, j < k * n' → cellAt R.w b (o + j) = some y ∧ ∀ (hj : j < ((ys.take k).flatMap SV.cells).length), Rep R ((ys.take k).flatMap SV.cells)[j] y := fun j => by
            by_cases hj : j < k * n'
            · have hnp : 0 < n' := by
                rcases Nat.eq_zero_or_pos n' with h0 | h0
                · subst h0; simp at hj
                · exact h0
              have hi : j / n' < k := by rw [Nat.div_lt_iff_lt_mul hnp]; exact hj
              have hi' : j / n' < ys.length := by omega
              have hm : j % n' < n' := Nat.mod_lt _ hnp
              have hdm : j / n' * n' + j % n' = j := by rw [Nat.mul_comm]; exact Nat.div_add_mod j n'
              have hcl : j % n' < ys[j / n'].cells.length := by rw [hn _ (List.getElem_mem hi')]; exact hm
              obtain ⟨y, h1, h2⟩ := hcells (j / n') hi' (j % n') hcl
              rw [hdm] at h1
              refine ⟨y, fun _ => ⟨h1, fun hj' => ?_⟩⟩
              have et : (ys.take k)[j / n']'(by simp; omega) = ys[j / n'] := by simp
              have := flat_get (ys.take k) (fun z hz => hn z (List.mem_of_mem_take hz)) (j / n') (by simp; omega) (j % n') (by rw [et]; exact hcl)
              rw [hdm, List.getElem?_eq_getElem hj'] at this
              injection this with this
              rw [this]
              simpa only [et] using h2
            · exact ⟨undef, fun h => absurd h hj⟩
          obtain ⟨f, hf⟩ := Classical.axiomOfChoice hf
          have hrun := run_loadCells (P := P) R.w ⟨b, o, none⟩ (k * n') f (fun j hj => by rw [add_plain]; exact (hf j hj).1)
          refine ⟨_, hrun, by simp [hlen], fun i hi hj => ?_⟩
          simp only [List.getElem_toArray, List.getElem_map, List.getElem_range]
          exact (hf i (by rw [hlen] at hi; exact hi)).2 hi
      · cases h
    · cases h

/-! ### How far a slice may grow -/
theorem growBy_le (m : Nat) : ∀ (r c : Nat), c ≤ m + (m + 768) / 4 → Builtin.growBy m r c ≤ m + (m + 768) / 4
  | 0, c, h => h
  | r + 1, c, h => by
    unfold Builtin.growBy
    split
    · exact h
    · exact growBy_le m r _ (by omega)
theorem nextslicecap_le {need cap : Nat} (h : cap < need) : Builtin.nextslicecap need cap ≤ 2 * need + 192 := by
  unfold Builtin.nextslicecap
  split
  · omega
  · split
    · omega
    · have := growBy_le need 4 cap (by omega)
      omega
theorem cap_ok {P : Program} {need cap : Nat} {e : TypeId} (h : cap < need) (hn : need ≤ 68719476736) (hb : P.bytesOf e ≤ 1024) : ¬ (Builtin.nextslicecap need cap * P.bytesOf e > 2 ^ 48) := by
  have h1 := nextslicecap_le h
  have h2 : Builtin.nextslicecap need cap * P.bytesOf e ≤ (2 * 68719476736 + 192) * 1024 := Nat.mul_le_mul (by omega) hb
  have h3 : (2 * 68719476736 + 192) * 1024 ≤ 2 ^ 48 := by decide
  omega
theorem zeroCells_size (z : Array Value) (k : Nat) : (Builtin.zeroCells z k).size = k * z.size := by simp [Builtin.zeroCells]
theorem CellsR.append {R : Env} {xs ys : List SV} {a b : Array Value} (h : CellsR R xs a) (k : CellsR R ys b) : CellsR R (xs ++ ys) (a ++ b) := by
  refine ⟨by simp [h.1, k.1], fun i hi hj => ?_⟩
  by_cases hlt : i < xs.length
  · rw [List.getElem_append_left hlt, Array.getElem_append_left (by rw [h.1]; exact hlt)]
    exact h.2 i hlt _
  · simp only [List.length_append] at hi
    rw [List.getElem_append_right (by omega), Array.getElem_append_right (by rw [h.1]; omega)]
    have := k.2 (i - xs.length) (by omega) (by rw [k.1]; omega)
    simpa only [h.1] using this
/-- A row of cells in a new block. -/
theorem row_ok {R : Env} {k g n : Nat} {xs : List SV} {arr : Array Value} {e : TypeId} {blk : Nat} {fz : Nat × Nat} (hH : R.H[k]? = some (.row g n xs)) (hρ : R.ρ k = some ⟨blk, 0, none⟩) (hw : R.w.heap[blk]? = some (.cells arr e fz)) (hf : unfrozen fz arr.size)
    (hn : ∀ x, x ∈ xs → x.cells.length = n) (hsz : xs.length * n ≤ arr.size) (hc : ∀ (j : Nat) (hj : j < (xs.flatMap SV.cells).length) (hk : j < arr.size), Rep R (xs.flatMap SV.cells)[j] arr[j]) : IdOk R k := by
  refine ⟨fun cs h1 => (by rw [hH] at h1; cases h1), fun g2 n2 xs2 h1 => ?_, fun es h1 => (by rw [hH] at h1; cases h1)⟩
  rw [hH] at h1
  cases h1
  refine ⟨hn, .inr ⟨⟨blk, 0, none⟩, arr, e, fz, hρ, hw, hf, by simpa using hsz, fun i hi j hj hk => ?_⟩⟩
  have h2 := flat_get xs hn i hi j hj
  have h3 := lt_of_some h2
  rw [List.getElem?_eq_getElem h3] at h2
  injection h2 with h2
  simp only [Nat.zero_add] at hk ⊢
  rw [← h2]
  exact hc _ h3 hk
theorem row_ok' {R : Env} {k g n : Nat} {xs : List SV} {arr : Array Value} {e : TypeId} {ad : Addr} {fz : Nat × Nat} (hH : R.H[k]? = some (.row g n xs)) (hρ : R.ρ k = some ad) (hw : R.w.heap[ad.block]? = some (.cells arr e fz)) (hf : unfrozen fz arr.size)
    (hn : ∀ x, x ∈ xs → x.cells.length = n) (hsz : ad.off + xs.length * n ≤ arr.size) (hc : ∀ (j : Nat) (hj : j < (xs.flatMap SV.cells).length) (hk : ad.off + j < arr.size), Rep R (xs.flatMap SV.cells)[j] arr[ad.off + j]) : IdOk R k := by
  refine ⟨fun cs h1 => (by rw [hH] at h1; cases h1), fun g2 n2 xs2 h1 => ?_, fun es h1 => (by rw [hH] at h1; cases h1)⟩
  rw [hH] at h1
  cases h1
  refine ⟨hn, .inr ⟨ad, arr, e, fz, hρ, hw, hf, hsz, fun i hi j hj hk => ?_⟩⟩
  have h2 := flat_get xs hn i hi j hj
  have h3 := lt_of_some h2
  rw [List.getElem?_eq_getElem h3] at h2
  injection h2 with h2
  rw [← h2]
  have := hc _ h3 (by omega)
  simpa only [Nat.add_assoc] using this
theorem cut_ge (need old : Nat) (e : TypeId) (t : Nat) : need ≤ (Question.appendCap need old e).cut t := by simp [Question.cut]
/-- A new row behind all that is there. -/
theorem row_new {R : Env} (h : HRep R) {n : Nat} {xs : List SV} {arr : Array Value} (e : TypeId) {w : World} (g : Grows R.w w) (hw : w.heap.size = R.w.heap.size) (hn : ∀ x, x ∈ xs → x.cells.length = n) (c : Nat) (hxc : xs.length ≤ c) (hsz : c * n ≤ arr.size)
    (hc : ∀ (j : Nat) (hj : j < (xs.flatMap SV.cells).length) (hk : j < arr.size), Rep R (xs.flatMap SV.cells)[j] arr[j]) (fz : Nat × Nat) (hf : unfrozen fz arr.size) {w' : World} (g' : Grows w w') (hb : w'.heap[R.w.heap.size]? = some (.cells arr e fz)) :
    Ext R ⟨R.H ++ [.row 0 n xs], upd R.ρ R.H.length (some ⟨R.w.heap.size, 0, none⟩), w'⟩ ∧
    HRep ⟨R.H ++ [.row 0 n xs], upd R.ρ R.H.length (some ⟨R.w.heap.size, 0, none⟩), w'⟩ ∧
    Rep ⟨R.H ++ [.row 0 n xs], upd R.ρ R.H.length (some ⟨R.w.heap.size, 0, none⟩), w'⟩ (.slc R.H.length 0 0 xs.length) (.slice (some ⟨R.w.heap.size, 0, none⟩) xs.length c) := by
  have gg := g.trans g'
  have hs := new_same R.H (.row 0 n xs)
  have hlt : R.w.heap.size < w'.heap.size := by
    rcases Nat.lt_or_ge R.w.heap.size w'.heap.size with h1 | h1
    · exact h1
    · rw [Array.getElem?_eq_none h1] at hb; cases hb
  have hnc : xs.length * n ≤ c * n := Nat.mul_le_mul_right n hxc
  refine ⟨Ext.new h _ _ gg.like gg.size gg.keep (fun a ha => by cases ha; exact Nat.le_refl _), HRep.new h _ _ gg.like gg.size gg.keep (fun a ha => by cases ha; exact ⟨Nat.le_refl _, rfl, hlt⟩) fun ex => ?_, ?_⟩
  · exact row_ok hs (upd_same ..) hb hf hn (by omega) fun j hj hk => (hc j hj hk).mono ex
  · refine .slc _ 0 0 xs.length n xs _ c hs (by omega) hxc fun hp => ⟨⟨R.w.heap.size, 0, none⟩, upd_same .., by simp, ?_⟩
    simp only [blkSize, hb, Nat.zero_add]
    exact hsz
end Go.Vm

/- The virtual machine, part 11b: append, make, copy, bytes of a string. Generic: no program in sight. -/
set_option linter.unusedVariables false
set_option linter.unusedSimpArgs false
namespace Go.Vm
open Go.RowKit

/-- What is asked of an append: few enough, of a kind that may be appended. -/
structure AppOk (P : Program) (H : List VB) (ats : Array TypeId) (n total : Nat) (ys : List SV) : Prop where
  total : total ≤ 68719476736
  cells : ∀ y, y ∈ ys → ∀ c, c ∈ y.cells → svCell H c = true
def okSrc : TypeDesc → Bool
  | .slice _ => true
  | .string => true
  | _ => false
/-- What is asked of the types: closed. -/
def appTypes (P : Program) (ats : Array TypeId) : Option Nat :=
  match ats[0]?, ats[1]? with
  | some t, some u => match P.underlying t, P.underlying u with
    | some (.slice e), some d => match zcells P e with
      | some z => if (P.underlying e).isSome = true ∧ P.bytesOf e ≤ 1024 ∧ z.length = P.cellsOf e ∧ okSrc d = true then some (P.cellsOf e) else none
      | none => none
    | _, _ => none
  | _, _ => none
theorem append_room {P : Program} {R : Env} {ats : Array TypeId} {n : Nat} (ht : appTypes P ats = some n) {base : Option Addr} {len cap m : Nat} {x : Value} (hm : (Builtin.lenOf x).run P R.w = .ok m R.w) (hle : len + m ≤ cap)
    {arr : Array Value} (hf : (Builtin.firstCells n m x).run P R.w = .ok arr R.w) {w' : World} (hs : (match base with | some a => storeCells (a.add (len * n)) arr.toList | none => pure () : Sem Unit).run P R.w = .ok () w') (ty : TypeId) :
    (Builtin.append_ ats ty #[.slice base len cap, x]).run P R.w = .ok (.slice base (len + m) cap) w' := by
  unfold appTypes at ht
  split at ht
  · rename_i t u h0 h1
    split at ht
    · rename_i e d hu hd
      split at ht
      · rename_i z hz
        split at ht
        · rename_i hc
          cases ht
          obtain ⟨c1, c2, c3, c4⟩ := hc
          obtain ⟨de, hde⟩ := Option.isSome_iff_exists.1 c1
          have hzeros : (underlying u).run P R.w = .ok d R.w := run_underlying hd R.w
          have hx0 : (#[Value.slice base len cap, x] : Array Value)[0]? = some (.slice base len cap) := rfl
          have hx1 : (#[Value.slice base len cap, x] : Array Value)[1]? = some x := rfl
          simp only [Builtin.append_, h0, h1, hx0, hx1, Sem.run_bind, run_underlying hu, Result.andThen_ok, run_sizeOf hde, hzeros, Sem.run_pure]
          cases d <;> simp only [okSrc, Bool.false_eq_true] at c4 <;> (
            simp only [Bool.false_eq_true, if_false, hm, Result.andThen_ok, hle, if_true, Bool.not_false, Sem.run_bind, hf]
            cases base with
            | none => simp only [Sem.run_pure, Result.andThen_ok] at hs ⊢; cases hs; rfl
            | some a => simp only [] at hs ⊢; simp only [Sem.run_bind, hs, Result.andThen_ok, Sem.run_pure])
        · cases ht
      · cases ht
    · cases ht
  · cases ht
theorem append_grow {P : Program} {R : Env} {ats : Array TypeId} {n : Nat} (ht : appTypes P ats = some n) {base : Option Addr} {len cap m : Nat} {x : Value} (hm : (Builtin.lenOf x).run P R.w = .ok m R.w) (hlt : cap < len + m) (hb : len + m ≤ 68719476736)
    {arr old : Array Value} (hf : ∀ w, w = R.w.drew → (Builtin.firstCells n m x).run P w = .ok arr w) (ho : ∀ w, w = R.w.drew → (Builtin.firstCells n len (.slice base len cap)).run P w = .ok old w) (ty : TypeId) :
    ∃ c rest e, len + m ≤ c ∧ rest.size = (c - (len + m)) * n ∧ (Builtin.append_ ats ty #[.slice base len cap, x]).run P R.w = .ok (.slice (some ⟨R.w.heap.size, 0, none⟩) (len + m) c) (R.w.drew.alloc (.cells (old ++ arr ++ rest) e)) := by
  unfold appTypes at ht
  split at ht
  · rename_i t u h0 h1
    split at ht
    · rename_i e d hu hd
      split at ht
      · rename_i z hz
        split at ht
        · rename_i hc
          cases ht
          obtain ⟨c1, c2, c3, c4⟩ := hc
          obtain ⟨de, hde⟩ := Option.isSome_iff_exists.1 c1
          obtain ⟨zv, hzv, hzc⟩ := zcells_sound (R := R) hz
          obtain ⟨ie, hie⟩ := info_of_underlying hde
          have hbytes : P.bytesOf e = ie.bytes := by simp [Program.bytesOf, hie]
          refine ⟨(Question.appendCap (len + m) cap e).cut (R.w.tape R.w.drawn (.appendCap (len + m) cap e)), Builtin.zeroCells zv.cells ((Question.appendCap (len + m) cap e).cut (R.w.tape R.w.drawn (.appendCap (len + m) cap e)) - (len + m)), e, cut_ge _ _ _ _, ?_, ?_⟩
          · rw [zeroCells_size, hzc.1, c3]
          · have hzeros : (underlying u).run P R.w = .ok d R.w := run_underlying hd R.w
            have hx0 : (#[Value.slice base len cap, x] : Array Value)[0]? = some (.slice base len cap) := rfl
            have hx1 : (#[Value.slice base len cap, x] : Array Value)[1]? = some x := rfl
            have hcap := cap_ok (P := P) (e := e) hlt hb c2
            rw [hbytes] at hcap
            have hti : ∀ w, (typeInfo e).run P w = .ok ie w := fun w => by simp [typeInfo, hie]
            have hnle : ¬ (len + m ≤ cap) := by omega
            have hmax : ¬ (((len + m : Nat) : Int) > IntKind.i64.max) := by simp [IntKind.max, IntKind.signed, IntKind.bits]; omega
            simp only [Builtin.append_, h0, h1, hx0, hx1, Sem.run_bind, run_underlying hu, Result.andThen_ok, run_sizeOf hde, hzeros, Sem.run_pure]
            cases d <;> simp only [okSrc, Bool.false_eq_true] at c4 <;> (
              simp only [Bool.false_eq_true, if_false, hm, Result.andThen_ok, hnle, Bool.not_false, if_true, Sem.run_bind, hti, hmax, false_and, hcap, pure_bind, run_choose, Question.forced, run_askRoom]
              simp only [World.drew_eq, ho _ rfl, hf _ rfl, Result.andThen_ok, hzv, newRow, run_newObj, Sem.run_bind, Sem.run_pure]
              rfl)
        · cases ht
      · cases ht
    · cases ht
  · cases ht
end Go.Vm

/- The virtual machine, part 11c: append, make, copy, bytes of a string, on virtual values. Generic: no program in sight. -/
set_option linter.unusedVariables false
set_option linter.unusedSimpArgs false
namespace Go.Vm
open Go.RowKit

theorem firstCells_drew {P : Program} {R : Env} (hR : HRep R) {n : Nat} {x : SV} {ys : List SV} {a : Value} (h : vsrc R.H n x = some ys) (ha : Rep R x a) (k : Nat) (hk : k ≤ ys.length) :
    ∃ arr, (∀ w, w = R.w.drew → (Builtin.firstCells n k a).run P w = .ok arr w) ∧ CellsR R ((ys.take k).flatMap SV.cells) arr := by
  have g := Grows.drew R.w
  obtain ⟨_, _, h3⟩ := vsrc_sound (P := P) (R := { R with w := R.w.drew }) (g.rep hR) h (ha.mono (g.ext hR))
  obtain ⟨arr, q1, q2⟩ := h3 k hk
  obtain ⟨_, _, h4⟩ := vsrc_sound (P := P) hR h ha
  obtain ⟨arr2, p1, p2⟩ := h4 k hk
  have e : arr2 = arr := by
    have key : ∀ (w w' : World), w'.heap = w.heap → ∀ arr, (Builtin.firstCells n k a).run P w = .ok arr w → (Builtin.firstCells n k a).run P w' = .ok arr w' := by
      intro w w' hw arr hrun
      have lc : ∀ (m i : Nat) (ad : Addr) (acc out : Array Value), (loadCellsFrom ad i m acc).run P w = .ok out w → (∀ j, j < m → ∃ v, w.cell? (ad.add (i + j)) = some v) → (loadCellsFrom ad i m acc).run P w' = .ok out w' := by
        intro m
        induction m with
        | zero => intro i ad acc out h1 _; simp only [loadCellsFrom, Sem.run_pure] at h1 ⊢; cases h1; rfl
        | succ m ih =>
          intro i ad acc out h1 h2
          obtain ⟨v, hv⟩ := h2 0 (by omega)
          rw [Nat.add_zero] at hv
          have hv' : w'.cell? (ad.add i) = some v := by rw [← hv]; simp [World.cell?, hw]
          simp only [loadCellsFrom, Sem.run_bind, run_load, hv, Result.andThen_ok] at h1
          simp only [loadCellsFrom, Sem.run_bind, run_load, hv', Result.andThen_ok]
          exact ih (i + 1) ad _ out h1 (fun j hj => by have := h2 (j + 1) (by omega); rwa [show i + (j + 1) = i + 1 + j by omega] at this)
      exact (by
        cases a with
        | slice ad len cap =>
          cases ad with
          | none => simp only [Builtin.firstCells, Sem.run_pure] at hrun ⊢; cases hrun; rfl
          | some ad =>
            simp only [Builtin.firstCells, loadCells] at hrun ⊢
            have hcell : ∀ (m i : Nat) (acc out : Array Value), (loadCellsFrom ad i m acc).run P w = .ok out w → (loadCellsFrom ad i m acc).run P w' = .ok out w' := by
              intro m
              induction m with
              | zero => intro i acc out h1; simp only [loadCellsFrom, Sem.run_pure] at h1 ⊢; cases h1; rfl
              | succ m ih =>
                intro i acc out h1
                simp only [loadCellsFrom, Sem.run_bind, run_load] at h1 ⊢
                have e1 : w'.cell? (ad.add i) = w.cell? (ad.add i) := by simp [World.cell?, hw]
                have e2 : ∀ b, w'.farLoad P (ad.add i) b = w.farLoad P (ad.add i) b := by intro b; simp [World.farLoad, World.viewLoad, World.seen, World.noCell, hw]
                rw [e1, e2]
                split at h1
                · exact ih _ _ _ h1
                · split at h1
                  · exact ih _ _ _ h1
                  · simp only [Result.andThen_halt] at h1; cases h1
            exact hcell _ _ _ _ hrun
        | string s => simp only [Builtin.firstCells, Sem.run_pure] at hrun ⊢; cases hrun; rfl
        | _ => simp only [Builtin.firstCells, run_stuck] at hrun; cases hrun)
    have := key R.w.drew R.w rfl arr q1
    rw [p1] at this
    injection this with this
  subst e
  refine ⟨arr2, fun w hw => by subst hw; exact q1, p2⟩
theorem Nat.le_refl' (n : Nat) : n ≤ n := Nat.le_refl n
/-- An append onto nothing, or onto a full list. -/
theorem appendNew_sound {P : Program} {R : Env} (hR : HRep R) {ats : Array TypeId} {n : Nat} (ht : appTypes P ats = some n) {x : SV} {xs ys : List SV} {base : Option Addr} {a : Value} (hs : vsrc R.H n x = some ys) (ha : Rep R x a)
    {s : SV} (hxs : vsrc R.H n s = some xs) (hsr : Rep R s (.slice base xs.length xs.length)) (hb : xs.length + ys.length ≤ 68719476736) (hne : xs = [] ∨ ys ≠ []) (ty : TypeId) :
    ∃ v R', (Builtin.append_ ats ty #[.slice base xs.length xs.length, a]).run P R.w = .ok v R'.w ∧ Ext R R' ∧ HRep R' ∧ Rep R' (.slc R.H.length 0 0 (xs.length + ys.length)) v ∧ R'.H = R.H ++ [.row 0 n (xs ++ ys)] := by
  obtain ⟨hlen, hny, hfc⟩ := vsrc_sound (P := P) hR hs ha
  obtain ⟨_, hnx, hfx⟩ := vsrc_sound (P := P) hR hxs hsr
  have hn : ∀ z, z ∈ xs ++ ys → z.cells.length = n := fun z hz => by
    rcases List.mem_append.1 hz with h | h
    · exact hnx z h
    · exact hny z h
  by_cases hy : ys = []
  · subst hy
    have hx : xs = [] := by rcases hne with h | h; exact h; exact absurd rfl h
    subst hx
    refine ⟨.slice base 0 0, ⟨R.H ++ [.row 0 n []], upd R.ρ R.H.length none, R.w⟩, ?_, ?_⟩
    · have := append_room (R := R) (base := base) (len := 0) (cap := 0) (arr := #[]) (w' := R.w) ht hlen (by simp) (by
        obtain ⟨arr, q1, q2⟩ := hfc 0 (by simp)
        have : arr = #[] := Array.eq_empty_of_size_eq_zero (by rw [q2.1]; simp)
        subst this; exact q1) (by cases base <;> rfl) ty
      exact this
    · have hl := Like.refl R.w
      have hs' := new_same R.H (.row 0 n [])
      have hok : Ext R ⟨R.H ++ [.row 0 n []], upd R.ρ R.H.length none, R.w⟩ → IdOk ⟨R.H ++ [.row 0 n []], upd R.ρ R.H.length none, R.w⟩ R.H.length := by
        intro e
        refine ⟨fun cs h => (by cases hs'.symm.trans h), fun g n' xs h => ?_, fun es h => (by cases hs'.symm.trans h)⟩
        cases hs'.symm.trans h
        exact ⟨fun x hx => (by cases hx), Or.inl ⟨upd_same .., rfl⟩⟩
      exact ⟨Ext.new hR _ none hl (Nat.le_refl _) (fun _ _ => rfl) (fun a ha => by cases ha), HRep.new hR _ none hl (Nat.le_refl _) (fun _ _ => rfl) (fun a ha => by cases ha) hok,
        .slc _ 0 0 0 n [] base 0 hs' (Nat.le_refl _) (Nat.le_refl _) (fun h => absurd h (by omega)), rfl⟩
  · have hpos : 0 < ys.length := List.length_pos_iff.2 hy
    obtain ⟨arr, q1, q2⟩ := firstCells_drew (P := P) hR hs ha ys.length (Nat.le_refl _)
    obtain ⟨old, p1, p2⟩ := firstCells_drew (P := P) hR hxs hsr xs.length (Nat.le_refl _)
    rw [List.take_length] at q2 p2
    obtain ⟨c, rest, e, c1, c2, c3⟩ := append_grow (R := R) ht (base := base) (len := xs.length) (cap := xs.length) hlen (by omega) hb q1 p1 ty
    have hcr : CellsR R ((xs ++ ys).flatMap SV.cells) (old ++ arr) := by rw [List.flatMap_append]; exact p2.append q2
    have hsz : (old ++ arr).size = (xs.length + ys.length) * n := by rw [hcr.1, flat_length _ hn, List.length_append]
    have hcn : (c - (xs.length + ys.length)) * n + (xs.length + ys.length) * n = c * n := by rw [← Nat.add_mul]; congr 1; omega
    have := row_new hR (n := n) (xs := xs ++ ys) (arr := old ++ arr ++ rest) e (Grows.drew R.w) rfl hn c (by simpa using c1) (by rw [Array.size_append, hsz, c2]; omega) (fun j hj hk => by
        have hj' : j < (old ++ arr).size := by rw [hcr.1]; exact hj
        rw [Array.getElem_append_left hj']
        exact hcr.2 j hj hj') (0, 0) (fun j hj h => by simp at h) (Grows.alloc R.w.drew _) (heap_alloc_new R.w.drew _)
    obtain ⟨r1, r2, r3⟩ := this
    rw [List.length_append] at r3
    exact ⟨_, _, c3, r1, r2, r3, rfl⟩
/-- An append onto a row that is all known. -/
theorem appendRow_sound {P : Program} {R : Env} (hR : HRep R) {ats : Array TypeId} {n : Nat} (ht : appTypes P ats = some n) {x : SV} {xs ys : List SV} {a b : Value} (hs : vsrc R.H n x = some ys) (ha : Rep R x a)
    {id g : Nat} (hrow : R.H[id]? = some (.row g n xs)) (hsr : Rep R (.slc id g 0 xs.length) b) (hb : xs.length + ys.length ≤ 68719476736) (hcl : ∀ y, y ∈ ys → ∀ c, c ∈ y.cells → svCell R.H c = true) (ty : TypeId) :
    ∃ v R', (Builtin.append_ ats ty #[b, a]).run P R.w = .ok v R'.w ∧ Ext R R' ∧ HRep R' ∧ Rep R' (.slc id (g + 1) 0 (xs.length + ys.length)) v ∧ R'.H = R.H.set id (.row (g + 1) n (xs ++ ys)) := by
  obtain ⟨hlen, hny, hfc⟩ := vsrc_sound (P := P) hR hs ha
  have hxs : vsrc R.H n (.slc id g 0 xs.length) = some xs := by simp [vsrc, vread, hrow]
  cases hsr with
  | slcOld _ _ _ _ y hid hr => have := hr _ _ _ hrow; omega
  | slc _ _ _ _ n' xs' base cap hr hle hc hadr =>
    rw [hrow] at hr
    cases hr
    have hsr : Rep R (.slc id g 0 xs.length) (.slice base xs.length cap) := .slc id g 0 xs.length n xs base cap hrow hle hc hadr
    obtain ⟨_, hnx, hfx⟩ := vsrc_sound (P := P) hR hxs hsr
    have hn : ∀ z, z ∈ xs ++ ys → z.cells.length = n := fun z hz => by
      rcases List.mem_append.1 hz with h | h
      · exact hnx z h
      · exact hny z h
    have hset := set_same R.H id (.row (g + 1) n (xs ++ ys)) (lt_of_some hrow)
    by_cases hy : ys = []
    · subst hy
      obtain ⟨arr, q1, q2⟩ := hfc 0 (by simp)
      have : arr = #[] := Array.eq_empty_of_size_eq_zero (by rw [q2.1]; simp)
      subst this
      have hrun := append_room (R := R) (base := base) (len := xs.length) (cap := cap) (arr := #[]) (w' := R.w) ht hlen (by simpa using hc) q1 (by cases base <;> rfl) ty
      simp only [List.length_nil, Nat.add_zero, List.append_nil] at hset hrun ⊢
      have hk : ∀ j, (∀ a, R.ρ id = some a → a.block ≠ j) → R.w.heap[j]? = R.w.heap[j]? := fun _ _ => rfl
      have ex := Ext.set hR hrow (show Turns (.row g n xs) (.row (g + 1) n xs) from .inr (Nat.lt_succ_self g)) (Like.refl R.w) rfl hk (fun _ => rfl)
      refine ⟨_, ⟨R.H.set id (.row (g + 1) n xs), R.ρ, R.w⟩, hrun, ex, HRep.set hR hrow (show Turns (.row g n xs) (.row (g + 1) n xs) from .inr (Nat.lt_succ_self g)) (Like.refl R.w) rfl hk (fun _ => rfl) (fun ex => ?_), ?_, rfl⟩
      · refine ⟨fun cs h => (by cases hset.symm.trans h), fun g2 n2 xs2 h => ?_, fun es h => (by cases hset.symm.trans h)⟩
        cases hset.symm.trans h
        obtain ⟨m1, m2 | ⟨a', c', e', fz, r1, r2, r3, r4, r5⟩⟩ := hR.row id g n xs hrow
        · exact ⟨m1, .inl m2⟩
        · exact ⟨m1, .inr ⟨a', c', e', fz, r1, r2, r3, r4, fun i hi j hj hk => (r5 i hi j hj hk).mono ex⟩⟩
      · exact .slc id (g + 1) 0 xs.length n xs base cap hset (by omega) hc hadr
    · have hpos : 0 < ys.length := List.length_pos_iff.2 hy
      by_cases hroom : xs.length + ys.length ≤ cap
      · obtain ⟨ad, e1, rfl, e3⟩ := hadr (by omega)
        obtain ⟨m1, m2 | ⟨a', c', e', fz, r1, r2, r3, r4, r5⟩⟩ := hR.row id g n xs hrow
        · rw [m2.1] at e1; cases e1
        · rw [e1] at r1
          cases r1
          obtain ⟨arr, q1, q2⟩ := hfc ys.length (Nat.le_refl _)
          rw [List.take_length] at q2
          have hfl : (ys.flatMap SV.cells).length = ys.length * n := flat_length _ hny
          have hblk : blkSize R.w ad.block = c'.size := by simp [blkSize, r2]
          rw [hblk] at e3
          have hcn : xs.length * n + ys.length * n ≤ cap * n := by rw [← Nat.add_mul]; exact Nat.mul_le_mul_right n hroom
          have hone : ∀ v, v ∈ arr.toList → v.oneCell' = true := by
            intro v hv
            obtain ⟨i, hi, rfl⟩ := List.getElem_of_mem hv
            simp only [Array.length_toList] at hi
            have hi2 : i < (ys.flatMap SV.cells).length := by rw [← q2.1]; exact hi
            have hm := List.getElem_mem hi2
            obtain ⟨y, hy1, hy2⟩ := List.mem_flatMap.1 hm
            exact (svCell_one (hcl y hy1 _ hy2) (q2.2 i hi2 hi)).1
          obtain ⟨w', p1, p2, p3⟩ := put_block (P := P) (b' := .row (g + 1) n (xs ++ ys)) hR hrow (show Turns (.row g n xs) (.row (g + 1) n (xs ++ ys)) from .inr (Nat.lt_succ_self g)) e1 r2 r3 (o := ad.off + xs.length * n) (vs := arr.toList) (by simp [q2.1, hfl]; rw [Nat.zero_add] at e3; omega) hone (by
            intro w' d' s1 s2 s3 ex
            refine row_ok' hset e1 s1 (by rw [s2]; exact r3) hn (by rw [s2, List.length_append, Nat.add_mul]; rw [Nat.zero_add] at e3; omega) fun j hj hk => ?_
            have g2 := s3 (ad.off + j)
            rw [Array.getElem?_eq_getElem hk] at g2
            rw [List.flatMap_append] at hj
            have hxl : (xs.flatMap SV.cells).length = xs.length * n := flat_length _ m1
            by_cases hlt : j < xs.length * n
            · rw [if_neg (by omega)] at g2
              rw [Array.getElem?_eq_getElem (by omega)] at g2
              injection g2 with g2
              have hnp : 0 < n := by
                rcases Nat.eq_zero_or_pos n with h0 | h0
                · subst h0; simp at hlt
                · exact h0
              have hi : j / n < xs.length := by rw [Nat.div_lt_iff_lt_mul hnp]; exact hlt
              have hdm : j / n * n + j % n = j := by rw [Nat.mul_comm]; exact Nat.div_add_mod j n
              have hcl' : j % n < xs[j / n].cells.length := by rw [m1 _ (List.getElem_mem hi)]; exact Nat.mod_lt _ hnp
              have hfg := flat_get xs m1 (j / n) hi (j % n) hcl'
              rw [hdm] at hfg
              have hj2 : j < (xs.flatMap SV.cells).length := by rw [hxl]; exact hlt
              rw [List.getElem?_eq_getElem hj2] at hfg
              injection hfg with hfg
              have eg : ((xs ++ ys).flatMap SV.cells)[j]'(by rw [List.flatMap_append]; exact hj) = (xs.flatMap SV.cells)[j] := by
                simp only [List.flatMap_append]; exact List.getElem_append_left hj2
              rw [eg, hfg, g2]
              have := (r5 (j / n) hi (j % n) hcl' (by omega)).mono ex
              simpa only [Nat.add_assoc, hdm] using this
            · have hjy : j - xs.length * n < (ys.flatMap SV.cells).length := by rw [List.length_append] at hj; omega
              have harr : arr.toList.length = ys.length * n := by rw [Array.length_toList, q2.1, hfl]
              have hj3 : j < xs.length * n + ys.length * n := by rw [← hxl, ← hfl, ← List.length_append]; exact hj
              rw [if_pos ⟨by omega, by rw [harr]; omega⟩, show ad.off + j - (ad.off + xs.length * n) = j - xs.length * n by omega] at g2
              rw [Array.getElem?_toList, Array.getElem?_eq_getElem (by rw [q2.1]; exact hjy)] at g2
              injection g2 with g2
              have eg : ((xs ++ ys).flatMap SV.cells)[j]'(by rw [List.flatMap_append]; exact hj) = (ys.flatMap SV.cells)[j - xs.length * n] := by
                simp only [List.flatMap_append]
                rw [List.getElem_append_right (by omega)]
                simp only [hxl]
              rw [eg, g2]
              exact (q2.2 _ hjy _).mono ex)
          have hrun := append_room (R := R) (base := some ⟨ad.block, ad.off + 0 * n, none⟩) (len := xs.length) (cap := cap) (arr := arr) (w' := w') ht hlen hroom q1 (by
            simp only [Nat.zero_mul, Nat.add_zero, add_plain]; exact p1) ty
          refine ⟨_, _, hrun, p2, p3, ?_, rfl⟩
          refine .slc id (g + 1) 0 (xs.length + ys.length) n (xs ++ ys) _ cap hset (by simp) hroom fun _ => ⟨ad, e1, rfl, ?_⟩
          have hz : blkSize w' ad.block = blkSize R.w ad.block := p2.bsz _ (hR.addr id ad (Env.row_live hrow) e1).2
          show ad.off + (0 + cap) * n ≤ blkSize w' ad.block
          rw [hz, hblk]
          exact e3
      · obtain ⟨arr, q1, q2⟩ := firstCells_drew (P := P) hR hs ha ys.length (Nat.le_refl _)
        obtain ⟨old, p1, p2⟩ := firstCells_drew (P := P) hR hxs hsr xs.length (Nat.le_refl _)
        rw [List.take_length] at q2 p2
        obtain ⟨c, rest, e, c1, c2, c3⟩ := append_grow (R := R) ht (base := base) (len := xs.length) (cap := cap) hlen (by omega) hb q1 p1 ty
        have hcr : CellsR R ((xs ++ ys).flatMap SV.cells) (old ++ arr) := by rw [List.flatMap_append]; exact p2.append q2
        have hsz : (old ++ arr).size = (xs.length + ys.length) * n := by rw [hcr.1, flat_length _ hn, List.length_append]
        have hcn : (c - (xs.length + ys.length)) * n + (xs.length + ys.length) * n = c * n := by rw [← Nat.add_mul]; congr 1; omega
        have gg := (Grows.drew R.w).trans (Grows.alloc R.w.drew (.cells (old ++ arr ++ rest) e))
        have hblk : (R.w.drew.alloc (.cells (old ++ arr ++ rest) e)).heap[R.w.heap.size]? = some (.cells (old ++ arr ++ rest) e) := heap_alloc_new R.w.drew _
        have ex := Ext.move (n' := n) (xs' := xs ++ ys) hR hrow (Nat.lt_succ_self g) gg.like gg.size gg.keep (a := ⟨R.w.heap.size, 0, none⟩) (Nat.le_refl _)
        refine ⟨_, ⟨R.H.set id (.row (g + 1) n (xs ++ ys)), upd R.ρ id (some ⟨R.w.heap.size, 0, none⟩), _⟩, c3, ex, HRep.move hR hrow (Nat.lt_succ_self g) gg.like gg.size gg.keep (Nat.le_refl _) rfl (by simp) (fun ex => ?_), ?_, rfl⟩
        · refine row_ok hset (upd_same ..) hblk (fun j hj h => by simp at h) hn (by rw [Array.size_append, hsz, List.length_append]; omega) fun j hj hk => ?_
          have hj' : j < (old ++ arr).size := by rw [hcr.1]; exact hj
          rw [Array.getElem_append_left hj']
          exact (hcr.2 j hj hj').mono ex
        · refine .slc id (g + 1) 0 (xs.length + ys.length) n (xs ++ ys) _ c hset (by simp) c1 fun _ => ⟨⟨R.w.heap.size, 0, none⟩, upd_same .., by simp, ?_⟩
          have hz : blkSize (R.w.drew.alloc (.cells (old ++ arr ++ rest) e)) R.w.heap.size = (old ++ arr ++ rest).size := by unfold blkSize; rw [hblk]
          show 0 + (0 + c) * n ≤ blkSize (R.w.drew.alloc (.cells (old ++ arr ++ rest) e)) R.w.heap.size
          rw [hz, Array.size_append, hsz, c2]
          simp only [Nat.zero_add]
          omega
end Go.Vm

/- The virtual machine, part 11d: the builtins that turn memory, together; make; bytes of a string. Generic: no program in sight. -/
set_option linter.unusedVariables false
set_option linter.unusedSimpArgs false
namespace Go.Vm
open Go.RowKit

theorem put_rel {R R' : Env} (ex : Ext R R') {cs vs : List SV} {c c' : Array Value} {ws : List Value} {o0 off : Nat} (hle : off + vs.length ≤ cs.length) (hws : ws.length = vs.length) (hw : ∀ (i : Nat) (hi : i < vs.length) (hj : i < ws.length), Rep R vs[i] ws[i])
    (hold : ∀ (j : Nat) (hj : j < cs.length) (hk : o0 + j < c.size), Rep R cs[j] c[o0 + j]) (hsz : c'.size = c.size) (hc' : ∀ k, c'[k]? = if o0 + off ≤ k ∧ k < o0 + off + ws.length then ws[k - (o0 + off)]? else c[k]?) :
    ∀ (j : Nat) (hj : j < (lput cs off vs).length) (hk : o0 + j < c'.size), Rep R' (lput cs off vs)[j] c'[o0 + j] := by
  intro j hj hk
  have g1 := lput_get hle j
  rw [List.getElem?_eq_getElem hj] at g1
  have g2 := hc' (o0 + j)
  rw [Array.getElem?_eq_getElem hk, hws] at g2
  by_cases hin : off ≤ j ∧ j < off + vs.length
  · rw [if_pos hin] at g1
    rw [if_pos (by omega), show o0 + j - (o0 + off) = j - off by omega] at g2
    have h1 : j - off < vs.length := by omega
    have h2 : j - off < ws.length := by omega
    rw [List.getElem?_eq_getElem h1] at g1
    rw [List.getElem?_eq_getElem h2] at g2
    injection g1 with g1
    injection g2 with g2
    rw [g1, g2]
    exact (hw _ h1 h2).mono ex
  · rw [if_neg hin] at g1
    rw [if_neg (by omega)] at g2
    rw [lput_length hle] at hj
    rw [List.getElem?_eq_getElem hj] at g1
    rw [Array.getElem?_eq_getElem (by omega)] at g2
    injection g1 with g1
    injection g2 with g2
    rw [g1, g2]
    exact (hold j hj (by omega)).mono ex
theorem flat_put {n : Nat} {xs zs : List SV} (hx : ∀ x, x ∈ xs → x.cells.length = n) (hz : ∀ x, x ∈ zs → x.cells.length = n) {off : Nat} (h : off + zs.length ≤ xs.length) :
    (xs.take off ++ zs ++ xs.drop (off + zs.length)).flatMap SV.cells = lput (xs.flatMap SV.cells) (off * n) (zs.flatMap SV.cells) := by
  have e1 : (xs.take off).flatMap SV.cells = (xs.flatMap SV.cells).take (off * n) := by
    have : xs.flatMap SV.cells = (xs.take off).flatMap SV.cells ++ (xs.drop off).flatMap SV.cells := by rw [← List.flatMap_append, List.take_append_drop]
    rw [this, List.take_left' (take_flat hx off (by omega))]
  have e2 : (xs.drop (off + zs.length)).flatMap SV.cells = (xs.flatMap SV.cells).drop (off * n + (zs.flatMap SV.cells).length) := by
    have : xs.flatMap SV.cells = (xs.take (off + zs.length)).flatMap SV.cells ++ (xs.drop (off + zs.length)).flatMap SV.cells := by rw [← List.flatMap_append, List.take_append_drop]
    rw [this, flat_length zs hz, ← Nat.add_mul, List.drop_left' (take_flat hx (off + zs.length) h)]
  rw [List.flatMap_append, List.flatMap_append, e1, e2]
  rfl
def vAppend (P : Program) (H : List VB) (ats : Array TypeId) (s x : SV) (K : SV → List VB → Prop) : Prop :=
  ∃ n ys, appTypes P ats = some n ∧ vsrc H n x = some ys ∧ match s with
  | .v (.slice none 0 0) => ys.length ≤ 68719476736 ∧ K (.slc H.length 0 0 ys.length) (H ++ [.row 0 n ys])
  | .list n' f xs => n' = n ∧ f = true ∧ xs.length + ys.length ≤ 68719476736 ∧ (xs = [] ∨ ys ≠ [] → K (.slc H.length 0 0 (xs.length + ys.length)) (H ++ [.row 0 n (xs ++ ys)])) ∧ (xs ≠ [] → ys = [] → K (.list n' f xs) H)
  | .slc id g off len => ∃ xs, H[id]? = some (.row g n xs) ∧ off = 0 ∧ len = xs.length ∧ xs.length + ys.length ≤ 68719476736 ∧ (∀ y, y ∈ ys → ∀ c, c ∈ y.cells → svCell H c = true) ∧
      K (.slc id (g + 1) 0 (xs.length + ys.length)) (H.set id (.row (g + 1) n (xs ++ ys)))
  | _ => False
theorem vAppend_sound {P : Program} {R : Env} (hR : HRep R) {ats : Array TypeId} {s x : SV} {K : SV → List VB → Prop} {a b : Value} (h : vAppend P R.H ats s x K) (hs : Rep R s b) (hx : Rep R x a) (ty : TypeId) : VSnd P R (Builtin.append_ ats ty #[b, a]) K := by
  obtain ⟨n, ys, ht, hys, h⟩ := h
  split at h
  · obtain ⟨h1, h2⟩ := h
    obtain rfl := rep_v.1 hs
    obtain ⟨v, R', q1, q2, q3, q4, q5⟩ := appendNew_sound (P := P) hR ht hys hx (s := .v (.slice none 0 0)) (xs := []) (base := none) rfl (.v _) (by simpa using h1) (.inl rfl) ty
    simp only [List.length_nil, Nat.zero_add, List.nil_append] at q4 q5
    exact ⟨v, _, R', q1, q2, q3, q4, by rw [q5]; exact h2⟩
  · rename_i n' f xs
    obtain ⟨rfl, rfl, h1, h2, h3⟩ := h
    have hs' := hs
    cases hs with
    | list _ _ _ ad c g hc hfull hn ha h' =>
      have hcx := hfull rfl
      subst hcx
      by_cases hc : xs = [] ∨ ys ≠ []
      · obtain ⟨v, R', q1, q2, q3, q4, q5⟩ := appendNew_sound (P := P) hR ht hys hx (s := .list n' true xs) (xs := xs) (base := ad) (by simp [vsrc, vread]) hs' h1 hc ty
        exact ⟨v, _, R', q1, q2, q3, q4, by rw [q5]; exact h2 hc⟩
      · have hxn : xs ≠ [] := fun h => hc (.inl h)
        have hyn : ys = [] := by
          rcases Classical.em (ys = []) with h | h
          · exact h
          · exact absurd (.inr h) hc
        subst hyn
        obtain ⟨hlen, hny, hfc⟩ := vsrc_sound (P := P) hR hys hx
        obtain ⟨arr, q1, q2⟩ := hfc 0 (by simp)
        have : arr = #[] := Array.eq_empty_of_size_eq_zero (by rw [q2.1]; simp)
        subst this
        have hrun := append_room (R := R) (base := ad) (len := xs.length) (cap := xs.length) (arr := #[]) (w' := R.w) ht hlen (by simp) q1 (by cases ad <;> rfl) ty
        exact ⟨_, _, R, hrun, Ext.refl hR, hR, hs', h3 hxn rfl⟩
  · rename_i id g off len
    obtain ⟨xs, h1, rfl, rfl, h2, h3, h4⟩ := h
    obtain ⟨v, R', q1, q2, q3, q4, q5⟩ := appendRow_sound (P := P) hR ht hys hx h1 hs h2 h3 ty
    exact ⟨v, _, R', q1, q2, q3, q4, by rw [q5]; exact h4⟩
  · exact h.elim
def vCopy (P : Program) (H : List VB) (ats : Array TypeId) (d x : SV) (K : SV → List VB → Prop) : Prop :=
  ∃ t e ys, ats[0]? = some t ∧ P.underlying t = some (.slice e) ∧ (P.underlying e).isSome = true ∧ vsrc H (P.cellsOf e) x = some ys ∧ (∀ y, y ∈ ys → ∀ c, c ∈ y.cells → svCell H c = true) ∧ match d with
  | .bsl id off n len cap => ∃ cs, H[id]? = some (.box cs) ∧ n = P.cellsOf e ∧ off + len * n ≤ cs.length ∧
      K (.v (.int .i64 (min ys.length len : Nat))) (H.set id (.box (lput cs off ((ys.take (min ys.length len)).flatMap SV.cells))))
  | .slc id g off len => ∃ xs, H[id]? = some (.row g (P.cellsOf e) xs) ∧ off + len ≤ xs.length ∧
      K (.v (.int .i64 (min ys.length len : Nat))) (H.set id (.row g (P.cellsOf e) (xs.take off ++ ys.take (min ys.length len) ++ xs.drop (off + min ys.length len))))
  | _ => False
theorem run_copy {P : Program} {R : Env} {ats : Array TypeId} {t e : TypeId} (h0 : ats[0]? = some t) (hu : P.underlying t = some (.slice e)) {de : TypeDesc} (hde : P.underlying e = some de) {base : Option Addr} {len cap m : Nat} {x : Value}
    (hm : (Builtin.lenOf x).run P R.w = .ok m R.w) {arr : Array Value} (hf : (Builtin.firstCells (P.cellsOf e) (min m len) x).run P R.w = .ok arr R.w) {w' : World}
    (hs : (match base with | some a => storeCells a arr.toList | none => pure () : Sem Unit).run P R.w = .ok () w') (ty : TypeId) :
    (Builtin.copy_ ats ty #[.slice base len cap, x]).run P R.w = .ok (.int .i64 (min m len : Nat)) w' := by
  have hx0 : (#[Value.slice base len cap, x] : Array Value)[0]? = some (.slice base len cap) := rfl
  have hx1 : (#[Value.slice base len cap, x] : Array Value)[1]? = some x := rfl
  have hmin : Nat.min m len = min m len := rfl
  simp only [Builtin.copy_, h0, hx0, hx1, Sem.run_bind, run_underlying hu, Result.andThen_ok, hm, run_sizeOf hde, hmin, hf]
  cases base with
  | none => simp only [Sem.run_pure] at hs; cases hs; rfl
  | some a => simp only [Sem.run_bind] at hs ⊢; rw [hs]; rfl
theorem set_same_id {H : List VB} {id : Nat} {b : VB} (h : H[id]? = some b) : H.set id b = H := by
  refine List.ext_getElem? fun i => ?_
  by_cases hi : i = id
  · subst hi; rw [List.getElem?_set_self (lt_of_some h), h]
  · rw [List.getElem?_set_ne (Ne.symm hi)]
theorem lput_nil (l : List SV) (off : Nat) : lput l off [] = l := by simp [lput]
theorem vCopy_sound {P : Program} {R : Env} (hR : HRep R) {ats : Array TypeId} {d x : SV} {K : SV → List VB → Prop} {a b : Value} (h : vCopy P R.H ats d x K) (hd : Rep R d b) (hx : Rep R x a) (ty : TypeId) : VSnd P R (Builtin.copy_ ats ty #[b, a]) K := by
  obtain ⟨t, e, ys, h0, hu, hs, hys, hcl, h⟩ := h
  obtain ⟨de, hde⟩ := Option.isSome_iff_exists.1 hs
  obtain ⟨hlen, hny, hfc⟩ := vsrc_sound (P := P) hR hys hx
  have hone : ∀ (k : Nat) (arr : Array Value), CellsR R ((ys.take k).flatMap SV.cells) arr → ∀ v, v ∈ arr.toList → v.oneCell' = true := by
    intro k arr hc v hv
    obtain ⟨i, hi, rfl⟩ := List.getElem_of_mem hv
    simp only [Array.length_toList] at hi
    have hi2 : i < ((ys.take k).flatMap SV.cells).length := by rw [← hc.1]; exact hi
    obtain ⟨y, hy1, hy2⟩ := List.mem_flatMap.1 (List.getElem_mem hi2)
    exact (svCell_one (hcl y (List.mem_of_mem_take hy1) _ hy2) (hc.2 i hi2 hi)).1
  split at h
  · rename_i id off n len cap
    obtain ⟨cs, hbox, rfl, hle, h⟩ := h
    cases hd with
    | bsl _ _ _ _ _ base hid hb hlc ha =>
      obtain ⟨arr, q1, q2⟩ := hfc (min ys.length len) (Nat.min_le_left ..)
      have hfl : ((ys.take (min ys.length len)).flatMap SV.cells).length = min ys.length len * P.cellsOf e := take_flat hny _ (Nat.min_le_left ..)
      by_cases hk : min ys.length len = 0
      · have hz : arr = #[] := Array.eq_empty_of_size_eq_zero (by rw [q2.1, hfl, hk, Nat.zero_mul])
        subst hz
        refine ⟨_, _, R, run_copy (R := R) (w' := R.w) h0 hu hde hlen q1 (by cases base <;> rfl) ty, Ext.refl hR, hR, .v _, ?_⟩
        rw [hk] at h ⊢
        simp only [List.take_zero, List.flatMap_nil, lput_nil] at h
        rwa [set_same_id hbox] at h
      · obtain ⟨ad, e1, e2, rfl⟩ := ha (by omega)
        obtain ⟨ad', c', e', fz, r1, r2, r3, r4, r5⟩ := hR.box id cs hbox
        rw [e1] at r1
        cases r1
        have hkn : min ys.length len * P.cellsOf e ≤ len * P.cellsOf e := Nat.mul_le_mul_right _ (Nat.min_le_right ..)
        have hoff : off + ((ys.take (min ys.length len)).flatMap SV.cells).length ≤ cs.length := by rw [hfl]; omega
        have harr : arr.toList.length = ((ys.take (min ys.length len)).flatMap SV.cells).length := by rw [Array.length_toList, q2.1]
        obtain ⟨w', p1, p2, p3⟩ := put_block (P := P) (b' := .box (lput cs off ((ys.take (min ys.length len)).flatMap SV.cells))) hR hbox trivial e1 r2 r3 (o := ad.off + off) (vs := arr.toList) (by rw [harr]; omega) (hone _ arr q2) (by
          intro w' d' s1 s2 s3 ex
          have hs' := set_same R.H id (.box (lput cs off ((ys.take (min ys.length len)).flatMap SV.cells))) hid
          refine ⟨fun cs' h1 => ?_, fun g n xs h1 => (by cases hs'.symm.trans h1), fun es h1 => (by cases hs'.symm.trans h1)⟩
          cases hs'.symm.trans h1
          exact ⟨ad, d', e', fz, e1, s1, by rw [s2]; exact r3, by rw [lput_length hoff, s2]; exact r4, put_rel ex hoff harr (fun i hi hj => by have := q2.2 i hi (by simpa using hj); simpa using this) r5 s2 s3⟩)
        exact ⟨_, _, ⟨_, R.ρ, w'⟩, run_copy (R := R) (base := some ⟨ad.block, ad.off + off, none⟩) (w' := w') h0 hu hde hlen q1 p1 ty, p2, p3, .v _, h⟩
  · rename_i id g off len
    obtain ⟨xs, hrow, hle, h⟩ := h
    cases hd with
    | slcOld _ _ _ _ y hid hr => have := hr _ _ _ hrow; omega
    | slc _ _ _ _ n' xs' base cap hr hle' hc hadr =>
      rw [hrow] at hr
      cases hr
      obtain ⟨arr, q1, q2⟩ := hfc (min ys.length len) (Nat.min_le_left ..)
      have hfl : ((ys.take (min ys.length len)).flatMap SV.cells).length = min ys.length len * P.cellsOf e := take_flat hny _ (Nat.min_le_left ..)
      by_cases hk : min ys.length len = 0
      · have hz : arr = #[] := Array.eq_empty_of_size_eq_zero (by rw [q2.1, hfl, hk, Nat.zero_mul])
        subst hz
        refine ⟨_, _, R, run_copy (R := R) (w' := R.w) h0 hu hde hlen q1 (by cases base <;> rfl) ty, Ext.refl hR, hR, .v _, ?_⟩
        rw [hk] at h ⊢
        simp only [List.take_zero, List.append_nil, Nat.add_zero, List.take_append_drop] at h
        rwa [set_same_id hrow] at h
      · obtain ⟨ad, e1, rfl, e3⟩ := hadr (by omega)
        obtain ⟨m1, m2 | ⟨a', c', e', fz, r1, r2, r3, r4, r5⟩⟩ := hR.row id g (P.cellsOf e) xs hrow
        · rw [m2.1] at e1; cases e1
        · rw [e1] at r1
          cases r1
          have hkt : (ys.take (min ys.length len)).length = min ys.length len := by simp
          have hny' : ∀ y, y ∈ ys.take (min ys.length len) → y.cells.length = P.cellsOf e := fun y hy => hny y (List.mem_of_mem_take hy)
          have hfp := flat_put m1 hny' (off := off) (by rw [hkt]; omega)
          rw [hkt] at hfp
          have hxl : (xs.flatMap SV.cells).length = xs.length * P.cellsOf e := flat_length _ m1
          have hkn : off * P.cellsOf e + min ys.length len * P.cellsOf e ≤ xs.length * P.cellsOf e := by rw [← Nat.add_mul]; exact Nat.mul_le_mul_right _ (by omega)
          have hoff : off * P.cellsOf e + ((ys.take (min ys.length len)).flatMap SV.cells).length ≤ (xs.flatMap SV.cells).length := by rw [hfl, hxl]; omega
          have harr : arr.toList.length = ((ys.take (min ys.length len)).flatMap SV.cells).length := by rw [Array.length_toList, q2.1]
          have hlnew : (xs.take off ++ ys.take (min ys.length len) ++ xs.drop (off + min ys.length len)).length = xs.length := by simp; omega
          have hold : ∀ (j : Nat) (hj : j < (xs.flatMap SV.cells).length) (hk : ad.off + j < c'.size), Rep R (xs.flatMap SV.cells)[j] c'[ad.off + j] := by
            intro j hj hk
            rw [hxl] at hj
            have hnp : 0 < P.cellsOf e := by
              rcases Nat.eq_zero_or_pos (P.cellsOf e) with h0 | h0
              · rw [h0] at hj; simp at hj
              · exact h0
            have hi : j / P.cellsOf e < xs.length := by rw [Nat.div_lt_iff_lt_mul hnp]; exact hj
            have hdm : j / P.cellsOf e * P.cellsOf e + j % P.cellsOf e = j := by rw [Nat.mul_comm]; exact Nat.div_add_mod j _
            have hcl' : j % P.cellsOf e < xs[j / P.cellsOf e].cells.length := by rw [m1 _ (List.getElem_mem hi)]; exact Nat.mod_lt _ hnp
            have hfg := flat_get xs m1 (j / P.cellsOf e) hi (j % P.cellsOf e) hcl'
            rw [hdm, List.getElem?_eq_getElem (by rw [hxl]; exact hj)] at hfg
            injection hfg with hfg
            rw [hfg]
            have := r5 (j / P.cellsOf e) hi (j % P.cellsOf e) hcl' (by omega)
            simpa only [Nat.add_assoc, hdm] using this
          obtain ⟨w', p1, p2, p3⟩ := put_block (P := P) (b' := .row g (P.cellsOf e) (xs.take off ++ ys.take (min ys.length len) ++ xs.drop (off + min ys.length len))) hR hrow
            (show Turns (.row g (P.cellsOf e) xs) (.row g (P.cellsOf e) _) from .inl ⟨rfl, rfl, by rw [hlnew]; exact Nat.le_refl _⟩) e1 r2 r3 (o := ad.off + off * P.cellsOf e) (vs := arr.toList) (by rw [harr, hfl]; omega) (hone _ arr q2) (by
            intro w' d' s1 s2 s3 ex
            refine row_ok' (set_same R.H id _ (lt_of_some hrow)) e1 s1 (by rw [s2]; exact r3) (fun z hz => ?_) (by rw [s2, hlnew]; exact r4) fun j hj hk => ?_
            · rcases List.mem_append.1 hz with hz | hz
              · rcases List.mem_append.1 hz with hz | hz
                · exact m1 z (List.mem_of_mem_take hz)
                · exact hny' z hz
              · exact m1 z (List.mem_of_mem_drop hz)
            · have := put_rel ex hoff harr (fun i hi hj => by have := q2.2 i hi (by simpa using hj); simpa using this) hold s2 s3 j (by rw [← hfp]; exact hj) hk
              simpa only [hfp] using this)
          refine ⟨_, _, ⟨_, R.ρ, w'⟩, run_copy (R := R) (base := some ⟨ad.block, ad.off + off * P.cellsOf e, none⟩) (w' := w') h0 hu hde hlen q1 p1 ty, p2, p3, .v _, h⟩
  · exact h.elim
/-- Elements are written over those of a row, from a place on. -/
theorem row_store {P : Program} {R : Env} (hR : HRep R) {id g n off : Nat} {xs zs : List SV} (hrow : R.H[id]? = some (.row g n xs)) (hle : off + zs.length ≤ xs.length) (hz : ∀ z, z ∈ zs → z.cells.length = n) {arr : Array Value} (q2 : CellsR R (zs.flatMap SV.cells) arr)
    (hone : ∀ v, v ∈ arr.toList → v.oneCell' = true) {ad : Addr} (e1 : R.ρ id = some ad) (hne : xs ≠ []) : ∃ w', (storeCells ⟨ad.block, ad.off + off * n, none⟩ arr.toList).run P R.w = .ok () w' ∧
      Ext R ⟨R.H.set id (.row g n (xs.take off ++ zs ++ xs.drop (off + zs.length))), R.ρ, w'⟩ ∧ HRep ⟨R.H.set id (.row g n (xs.take off ++ zs ++ xs.drop (off + zs.length))), R.ρ, w'⟩ := by
  obtain ⟨m1, m2 | ⟨a', c', e', fz, r1, r2, r3, r4, r5⟩⟩ := hR.row id g n xs hrow
  · exact absurd m2.2 hne
  · rw [e1] at r1
    cases r1
    have hfl : (zs.flatMap SV.cells).length = zs.length * n := flat_length _ hz
    have hfp := flat_put m1 hz (off := off) hle
    have hxl : (xs.flatMap SV.cells).length = xs.length * n := flat_length _ m1
    have hkn : off * n + zs.length * n ≤ xs.length * n := by rw [← Nat.add_mul]; exact Nat.mul_le_mul_right _ hle
    have hoff : off * n + (zs.flatMap SV.cells).length ≤ (xs.flatMap SV.cells).length := by rw [hfl, hxl]; omega
    have harr : arr.toList.length = (zs.flatMap SV.cells).length := by rw [Array.length_toList, q2.1]
    have hlnew : (xs.take off ++ zs ++ xs.drop (off + zs.length)).length = xs.length := by simp; omega
    have hold : ∀ (j : Nat) (hj : j < (xs.flatMap SV.cells).length) (hk : ad.off + j < c'.size), Rep R (xs.flatMap SV.cells)[j] c'[ad.off + j] := by
      intro j hj hk
      rw [hxl] at hj
      have hnp : 0 < n := by
        rcases Nat.eq_zero_or_pos n with h0 | h0
        · rw [h0] at hj; simp at hj
        · exact h0
      have hi : j / n < xs.length := by rw [Nat.div_lt_iff_lt_mul hnp]; exact hj
      have hdm : j / n * n + j % n = j := by rw [Nat.mul_comm]; exact Nat.div_add_mod j _
      have hcl' : j % n < xs[j / n].cells.length := by rw [m1 _ (List.getElem_mem hi)]; exact Nat.mod_lt _ hnp
      have hfg := flat_get xs m1 (j / n) hi (j % n) hcl'
      rw [hdm, List.getElem?_eq_getElem (by rw [hxl]; exact hj)] at hfg
      injection hfg with hfg
      rw [hfg]
      have := r5 (j / n) hi (j % n) hcl' (by omega)
      simpa only [Nat.add_assoc, hdm] using this
    obtain ⟨w', p1, p2, p3⟩ := put_block (P := P) (b' := .row g n (xs.take off ++ zs ++ xs.drop (off + zs.length))) hR hrow
      (show Turns (.row g n xs) (.row g n _) from .inl ⟨rfl, rfl, by rw [hlnew]; exact Nat.le_refl _⟩) e1 r2 r3 (o := ad.off + off * n) (vs := arr.toList) (by rw [harr, hfl]; omega) hone (by
      intro w' d' s1 s2 s3 ex
      refine row_ok' (set_same R.H id _ (lt_of_some hrow)) e1 s1 (by rw [s2]; exact r3) (fun z hz' => ?_) (by rw [s2, hlnew]; exact r4) fun j hj hk => ?_
      · rcases List.mem_append.1 hz' with hz' | hz'
        · rcases List.mem_append.1 hz' with hz' | hz'
          · exact m1 z (List.mem_of_mem_take hz')
          · exact hz z hz'
        · exact m1 z (List.mem_of_mem_drop hz')
      · have := put_rel ex hoff harr (fun i hi hj => by have := q2.2 i hi (by simpa using hj); simpa using this) hold s2 s3 j (by rw [← hfp]; exact hj) hk
        simpa only [hfp] using this)
    exact ⟨w', p1, p2, p3⟩
def vClear (P : Program) (H : List VB) (ats : Array TypeId) (s : SV) (K : SV → List VB → Prop) : Prop :=
  ∃ t e z, ats[0]? = some t ∧ P.underlying t = some (.slice e) ∧ zcells P e = some [.v z] ∧ z.oneCell' = true ∧ match s with
  | .slc id g off len => ∃ xs, H[id]? = some (.row g 1 xs) ∧ off + len ≤ xs.length ∧ K (.tup []) (H.set id (.row g 1 (xs.take off ++ List.replicate len (.v z) ++ xs.drop (off + len))))
  | _ => False
theorem vClear_sound {P : Program} {R : Env} (hR : HRep R) {ats : Array TypeId} {s : SV} {K : SV → List VB → Prop} {a : Value} (h : vClear P R.H ats s K) (hs : Rep R s a) (ty : TypeId) : VSnd P R (Builtin.clear_ ats ty #[a]) K := by
  obtain ⟨t, e, z, h0, hu, hz, hz1, h⟩ := h
  obtain ⟨zv, hzv, hzc⟩ := zcells_sound (R := R) hz
  have hzs : zv.cells.size = 1 := hzc.1
  have hz0 : zv.cells[0]'(by omega) = z := rep_v.1 (hzc.2 0 (by simp) (by omega))
  split at h
  · rename_i id g off len
    obtain ⟨xs, hrow, hle, h⟩ := h
    have hx0 : ∀ v : Value, (#[v] : Array Value)[0]? = some v := fun v => rfl
    cases hs with
    | slcOld _ _ _ _ y hid hr => have := hr _ _ _ hrow; omega
    | slc _ _ _ _ n' xs' base cap hr hle' hc hadr =>
      rw [hrow] at hr
      cases hr
      rcases Nat.eq_zero_or_pos len with hl | hl
      · subst hl
        refine ⟨.tuple #[], .tup [], R, ?_, Ext.refl hR, hR, .tup [] #[] rfl (fun i hi => absurd hi (Nat.not_lt_zero _)), ?_⟩
        · cases base <;> simp only [Builtin.clear_, h0, hx0, Sem.run_bind, run_underlying hu, Result.andThen_ok, Sem.run_pure]
        · simp only [List.replicate_zero, List.append_nil, Nat.add_zero, List.take_append_drop] at h
          rwa [set_same_id hrow] at h
      · obtain ⟨ad, e1, rfl, e3⟩ := hadr (by omega)
        have hsz : (Builtin.zeroCells zv.cells len).size = len := by rw [zeroCells_size, hzs, Nat.mul_one]
        have hat : ∀ (i : Nat) (hi : i < (Builtin.zeroCells zv.cells len).size), (Builtin.zeroCells zv.cells len)[i] = z := fun i hi => by
          simp only [Builtin.zeroCells, Array.getElem_map, Array.getElem_range]
          rw [hzs, Nat.mod_one, getElem!_pos zv.cells 0 (by omega), hz0]
        have hfm : (List.replicate len (SV.v z)).flatMap SV.cells = List.replicate len (SV.v z) := by
          clear h hle hle' hc hadr hsz hat hl e3 e1
          induction len with
          | zero => rfl
          | succ k ih => rw [List.replicate_succ, List.flatMap_cons, ih]; rfl
        obtain ⟨w', p1, p2, p3⟩ := row_store (P := P) hR hrow (zs := List.replicate len (SV.v z)) (arr := Builtin.zeroCells zv.cells len) (by rw [List.length_replicate]; exact hle) (fun y hy => by rw [(List.mem_replicate.1 hy).2]; rfl)
          ⟨by rw [hsz, hfm, List.length_replicate], fun i hi hj => by simp only [hfm, List.getElem_replicate, hat]; exact .v _⟩
          (fun v hv => by obtain ⟨i, hi, rfl⟩ := List.getElem_of_mem hv; simp only [Array.getElem_toList, hat]; exact hz1) e1 (fun h => by rw [h] at hle; simp at hle; omega)
        rw [List.length_replicate] at p2 p3
        refine ⟨.tuple #[], .tup [], ⟨_, R.ρ, w'⟩, ?_, p2, p3, .tup [] #[] rfl (fun i hi => absurd hi (Nat.not_lt_zero _)), h⟩
        obtain ⟨m, rfl⟩ : ∃ m, len = m + 1 := ⟨len - 1, by omega⟩
        simp only [Builtin.clear_, h0, hx0, Sem.run_bind, run_underlying hu, Result.andThen_ok, hzv, p1, Sem.run_pure]
  · exact h.elim
def vBuiltin (P : Program) (H : List VB) (b : Builtin) (ats : Array TypeId) (args : List SV) (K : SV → List VB → Prop) : Prop :=
  match b, args with
  | .append, [s, x] => vAppend P H ats s x K
  | .copy, [d, x] => vCopy P H ats d x K
  | .clear, [s] => vClear P H ats s K
  | _, _ => False
theorem vBuiltin_sound {P : Program} {R : Env} (hR : HRep R) {b : Builtin} {ats : Array TypeId} {args : List SV} {K : SV → List VB → Prop} (h : vBuiltin P R.H b ats args K) {vs : Array Value} (hv : vs.size = args.length ∧ ∀ (i : Nat) (hi : i < args.length) (hj : i < vs.size), Rep R args[i] vs[i]) (ty : TypeId) (consts : Array Bool) :
    ∃ v r R', (builtin b ats ty consts vs).run P R.w = .ok (.value v) R'.w ∧ Ext R R' ∧ HRep R' ∧ Rep R' r v ∧ K r R'.H := by
  have two : ∀ s x, args = [s, x] → ∃ u v, vs = #[u, v] ∧ Rep R s u ∧ Rep R x v := by
    rintro s x rfl
    obtain ⟨l⟩ := vs
    obtain ⟨h1, h2⟩ := hv
    match l, h1 with
    | [u, v], _ => exact ⟨u, v, rfl, h2 0 (by simp) (by simp), h2 1 (by simp) (by simp)⟩
  unfold vBuiltin at h
  split at h
  · rename_i s x
    obtain ⟨u, v, rfl, h1, h2⟩ := two s x rfl
    obtain ⟨v, r, R', q1, q2⟩ := vAppend_sound hR h h1 h2 ty
    exact ⟨v, r, R', by simp only [builtin, Sem.run_bind, q1, Result.andThen_ok, Sem.run_pure], q2⟩
  · rename_i s x
    obtain ⟨u, v, rfl, h1, h2⟩ := two s x rfl
    obtain ⟨v, r, R', q1, q2⟩ := vCopy_sound hR h h1 h2 ty
    exact ⟨v, r, R', by simp only [builtin, Sem.run_bind, q1, Result.andThen_ok, Sem.run_pure], q2⟩
  · rename_i s
    have one : ∃ u, vs = #[u] ∧ Rep R s u := by
      obtain ⟨l⟩ := vs
      obtain ⟨h1, h2⟩ := hv
      match l, h1 with
      | [u], _ => exact ⟨u, rfl, h2 0 (by simp) (by simp)⟩
    obtain ⟨u, rfl, h1⟩ := one
    obtain ⟨v, r, R', q1, q2⟩ := vClear_sound hR h h1 ty
    exact ⟨v, r, R', by simp only [builtin, Sem.run_bind, q1, Result.andThen_ok, Sem.run_pure], q2⟩
  · exact h.elim
theorem vBuiltin_mono {P : Program} {H : List VB} {b : Builtin} {ats : Array TypeId} {args : List SV} {K K' : SV → List VB → Prop} (h : vBuiltin P H b ats args K) (hk : ∀ r H', K r H' → K' r H') : vBuiltin P H b ats args K' := by
  unfold vBuiltin at h ⊢
  split at h
  · obtain ⟨n, ys, h1, h2, h3⟩ := h
    refine ⟨n, ys, h1, h2, ?_⟩
    split at h3
    · exact ⟨h3.1, hk _ _ h3.2⟩
    · exact ⟨h3.1, h3.2.1, h3.2.2.1, fun h => hk _ _ (h3.2.2.2.1 h), fun h h' => hk _ _ (h3.2.2.2.2 h h')⟩
    · obtain ⟨xs, q1, q2, q3, q4, q5, q6⟩ := h3
      exact ⟨xs, q1, q2, q3, q4, q5, hk _ _ q6⟩
    · exact h3.elim
  · obtain ⟨t, e, ys, h1, h2, h3, h4, h5, h6⟩ := h
    refine ⟨t, e, ys, h1, h2, h3, h4, h5, ?_⟩
    split at h6
    · obtain ⟨cs, q1, q2, q3, q4⟩ := h6
      exact ⟨cs, q1, q2, q3, hk _ _ q4⟩
    · obtain ⟨xs, q1, q2, q3⟩ := h6
      exact ⟨xs, q1, q2, hk _ _ q3⟩
    · exact h6.elim
  · obtain ⟨t, e, z, h1, h2, h3, h4, h5⟩ := h
    refine ⟨t, e, z, h1, h2, h3, h4, ?_⟩
    split at h5
    · obtain ⟨xs, q1, q2, q3⟩ := h5
      exact ⟨xs, q1, q2, hk _ _ q3⟩
    · exact h5.elim
  · exact h.elim

/-! ### make, []byte(s) -/
def vMakeSlice (P : Program) (H : List VB) (t : TypeId) (l c : SV) (K : SV → List VB → Prop) : Prop :=
  ∃ (k k' : IntKind) (len cap : Nat) (e : TypeId) (z : List SV) (x : SV), l = .v (.int k len) ∧ c = .v (.int k' cap) ∧ P.underlying t = some (.slice e) ∧ (P.underlying e).isSome = true ∧ zcells P e = some z ∧ z.length = P.cellsOf e ∧ 1 ≤ P.cellsOf e ∧
    x.cells = z ∧ len ≤ cap ∧ cap ≤ 68719476736 ∧ P.bytesOf e ≤ 1024 ∧ K (.slc H.length 0 0 len) (H ++ [.row 0 (P.cellsOf e) (List.replicate len x)])
theorem vMakeSlice_sound {P : Program} {R : Env} (hR : HRep R) {t : TypeId} {l c : SV} {K : SV → List VB → Prop} {a b : Value} (h : vMakeSlice P R.H t l c K) (ha : Rep R l a) (hb : Rep R c b) : VSnd P R (Instr.makeSlice t a b) K := by
  obtain ⟨k, k', len, cap, e, z, x, rfl, rfl, hu, hs, hz, hzl, hpos, hxc, hle, hcap, hby, h⟩ := h
  obtain rfl := rep_v.1 ha
  obtain rfl := rep_v.1 hb
  obtain ⟨de, hde⟩ := Option.isSome_iff_exists.1 hs
  obtain ⟨zv, hzv, hzc⟩ := zcells_sound (R := R) hz
  obtain ⟨ie, hie⟩ := info_of_underlying hde
  have hbytes : P.bytesOf e = ie.bytes := by simp [Program.bytesOf, hie]
  rw [hbytes] at hby
  have hti : ∀ w, (typeInfo e).run P w = .ok ie w := fun w => by simp [typeInfo, hie]
  have hwl : IntKind.i64.wrap (len : Int) = len := by unfold IntKind.wrap; simp [IntKind.bits, IntKind.signed]; omega
  have hwc : IntKind.i64.wrap (cap : Int) = cap := by unfold IntKind.wrap; simp [IntKind.bits, IntKind.signed]; omega
  have hlarge : ¬ ((ie.bytes : Int) * (cap : Int) > 2 ^ 48) := by
    have h1 : ie.bytes * cap ≤ 1024 * 68719476736 := Nat.mul_le_mul hby hcap
    have h2 : 1024 * 68719476736 ≤ 2 ^ 48 := by decide
    have h3 : ((ie.bytes * cap : Nat) : Int) ≤ ((2 ^ 48 : Nat) : Int) := by omega
    rw [Int.natCast_mul] at h3
    have h4 : ((2 ^ 48 : Nat) : Int) = 2 ^ 48 := by decide
    omega
  have hsz : zv.cells.size = P.cellsOf e := by rw [hzc.1, hzl]
  have hn : ∀ y, y ∈ List.replicate len x → y.cells.length = P.cellsOf e := fun y hy => by rw [List.eq_of_mem_replicate hy, hxc, hzl]
  have hrun : ∃ arr : Array Value, arr.size = cap * P.cellsOf e ∧ (∀ i, i < cap * P.cellsOf e → arr[i]? = zv.cells[i % zv.cells.size]?) ∧ (Instr.makeSlice t (.int k len) (.int k' cap)).run P R.w = .ok (.slice (some ⟨R.w.heap.size, 0, none⟩) len cap) (R.w.alloc (.cells arr e)) := by
    have e1 : ¬ ((cap : Int) < 0) := by omega
    have e2 : ¬ ((len : Int) < 0) := by omega
    have e3 : ¬ ((len : Int) > (cap : Int)) := by omega
    have hmod : ∀ i, i % zv.cells.size < zv.cells.size := fun i => Nat.mod_lt _ (by omega)
    have hbad : ¬ (((cap : Int) < 0 ∨ 281474976710656 < (ie.bytes : Int) * (cap : Int)) ∨ (len : Int) < 0) := by
      rintro ((h | h) | h)
      · omega
      · exact hlarge (by simpa using h)
      · omega
    by_cases hc0 : cap * P.cellsOf e = 0
    · refine ⟨#[], by simp [hc0], fun i hi => by omega, ?_⟩
      simp [Instr.makeSlice, run_underlying hu, asInt, asIntOf, hti, hwl, hwc, e3, run_sizeOf hde, hc0, newRow]
      rw [if_neg hbad]
      have hr0 : (Array.range 0) = #[] := rfl
      rw [hr0, Array.map_empty]
    · refine ⟨(Array.range (cap * P.cellsOf e)).map (zv.cells[· % zv.cells.size]!), by simp, fun i hi => ?_, ?_⟩
      · simp [hi, hmod]
      · simp [Instr.makeSlice, run_underlying hu, asInt, asIntOf, hti, hwl, hwc, e3, run_sizeOf hde, hc0, hzv, newRow]
        intro hx
        exact absurd hx hbad
  obtain ⟨arr, h1, h2, h3⟩ := hrun
  have hfl := flat_length _ hn
  rw [List.length_replicate] at hfl
  have hge : len * P.cellsOf e ≤ cap * P.cellsOf e := Nat.mul_le_mul_right _ hle
  obtain ⟨p1, p2, p3⟩ := row_new (xs := List.replicate len x) (arr := arr) hR e (.refl R.w) rfl hn cap (by rw [List.length_replicate]; exact hle) (by omega) (by
    intro j hj hk
    rw [hfl] at hj
    have hi : j / P.cellsOf e < len := by rw [Nat.div_lt_iff_lt_mul (by omega)]; exact hj
    have hdm : j / P.cellsOf e * P.cellsOf e + j % P.cellsOf e = j := by rw [Nat.mul_comm]; exact Nat.div_add_mod j _
    have hml : j % P.cellsOf e < z.length := by rw [hzl]; exact Nat.mod_lt _ (by omega)
    have hfg := flat_get _ hn (j / P.cellsOf e) (by rw [List.length_replicate]; exact hi) (j % P.cellsOf e) (by rw [List.getElem_replicate, hxc]; exact hml)
    rw [hdm, List.getElem?_eq_getElem (by rw [hfl]; exact hj)] at hfg
    injection hfg with hfg
    rw [hfg]
    have h2 := h2 j (by omega)
    rw [hsz, Array.getElem?_eq_getElem hk, Array.getElem?_eq_getElem (show j % P.cellsOf e < zv.cells.size by omega)] at h2
    injection h2 with h2
    rw [h2]
    simp only [List.getElem_replicate, hxc]
    exact hzc.2 _ hml _) (0, 0) (by simp [unfrozen]) (.alloc R.w _) (by rw [World.alloc]; exact Array.getElem?_push_size)
  rw [List.length_replicate] at p3
  exact ⟨_, _, ⟨_, _, _⟩, h3, p1, p2, p3, h⟩
theorem vMakeSlice_mono {P : Program} {H : List VB} {t : TypeId} {l c : SV} {K K' : SV → List VB → Prop} (h : vMakeSlice P H t l c K) (hk : ∀ r H', K r H' → K' r H') : vMakeSlice P H t l c K' := by
  obtain ⟨k, k', len, cap, e, z, x, h1, h2, h3, h4, h5, h6, h7, h8, h9, h10, h11, h12⟩ := h
  exact ⟨k, k', len, cap, e, z, x, h1, h2, h3, h4, h5, h6, h7, h8, h9, h10, h11, hk _ _ h12⟩
def vConvBytes (P : Program) (H : List VB) (s d : TypeId) (x : SV) (K : SV → List VB → Prop) : Prop :=
  ∃ (b : ByteArray) (e : TypeId), x = .v (.string b) ∧ (P.underlying s).isSome = true ∧ P.underlying d = some (.slice e) ∧ P.underlying e = some (.int .u8) ∧ b.size ≤ 1099511627776 ∧
    (K (.slc H.length 0 0 b.size) (H ++ [.row 0 1 (b.data.toList.map byteSV)]) ∨ K (.list 1 false (b.data.toList.map byteSV)) H)
theorem vConvBytes_sound {P : Program} {R : Env} (hR : HRep R) {s d : TypeId} {x : SV} {K : SV → List VB → Prop} {a : Value} (h : vConvBytes P R.H s d x K) (ha : Rep R x a) : VSnd P R (convert s d a) K := by
  obtain ⟨b, e, rfl, hs, hd, he, hb, h⟩ := h
  obtain rfl := rep_v.1 ha
  obtain ⟨u, hu⟩ := Option.isSome_iff_exists.1 hs
  have hrun := Go.Lib.run_convert_string_bytes R.w s d e b hu hd he
  have hn : ∀ y, y ∈ b.data.toList.map byteSV → y.cells.length = 1 := fun y hy => by
    obtain ⟨c, _, rfl⟩ := List.mem_map.1 hy
    rfl
  have hfm : (b.data.toList.map byteSV).flatMap SV.cells = b.data.toList.map byteSV := by
    have : ∀ l : List UInt8, (l.map byteSV).flatMap SV.cells = l.map byteSV := fun l => by
      induction l with
      | nil => rfl
      | cons a l ih => simp only [List.map_cons, List.flatMap_cons, ih]; rfl
    exact this _
  have hbl : (b.data.toList.map byteSV).length = b.size := by rw [List.length_map, Array.length_toList]; rfl
  have hge : b.size ≤ grownCap R.w b.size 0 e := cut_ge _ _ _ _
  have hsz : (Go.Lib.bytesCells R.w e b).size = grownCap R.w b.size 0 e := by
    have h1 : b.data.size = b.size := rfl
    simp only [Go.Lib.bytesCells, Array.size_append, Array.size_map, Array.size_replicate]
    omega
  obtain ⟨p1, p2, p3⟩ := row_new (xs := b.data.toList.map byteSV) (arr := Go.Lib.bytesCells R.w e b) hR e (.drew R.w) rfl hn (grownCap R.w b.size 0 e) (by rw [hbl]; exact hge) (by omega) (by
    intro j hj hk
    simp only [hfm]
    have hjb : j < b.data.size := by rw [hfm] at hj; simpa using hj
    have : (Go.Lib.bytesCells R.w e b)[j] = Value.int .u8 (b.data[j].toNat : Int) := by
      simp only [Go.Lib.bytesCells]
      rw [Array.getElem_append_left (by simpa using hjb)]
      simp
    rw [this]
    simp only [List.getElem_map, Array.getElem_toList]
    exact .v _) ((Go.Lib.bytesCells R.w e b).size, (Go.Lib.bytesCells R.w e b).size + 1) (fun i hi h => absurd h.1 (Nat.not_le.2 hi)) (w' := Go.Lib.bytesWorld R.w e b)
    ⟨⟨rfl, rfl, rfl⟩, by rw [Go.Lib.bytesWorld_size]; exact Nat.le_succ _, fun j hj => Go.Lib.bytesWorld_at_old R.w e b j hj⟩ (Go.Lib.bytesWorld_at_new R.w e b)
  rw [hbl] at p3
  rcases h with h | h
  · exact ⟨_, _, ⟨_, _, _⟩, hrun, p1, p2, p3, h⟩
  · have hb0 : ∀ (id : Nat) (bb : VB), R.H[id]? = some bb → bb.Bel R.H.length := fun id bb h => hR.bel h
    have hsub : Env.sub ⟨R.H ++ [.row 0 1 (b.data.toList.map byteSV)], upd R.ρ R.H.length (some ⟨R.w.heap.size, 0, none⟩), Go.Lib.bytesWorld R.w e b⟩ R.H :=
      ⟨by simp, fun id hid => .inl (by simp [List.getElem?_append_left hid])⟩
    refine ⟨_, _, ⟨R.H, _, _⟩, hrun, p1.forget hsub (Nat.le_refl _), p2.forget hsub hb0, frz_sound p2 hsub (.row R.H.length 0 0 b.size 1 (b.data.toList.map byteSV) _ (Nat.le_refl _) (new_same _ _) (by omega) hbl (fun i hi hj => ?_) (fun i hi hj j h1 h2 => ?_)) p3, h⟩
    · simp only [Nat.zero_add]
    · simp only [Nat.zero_add]
      exact .keep _ (bel_cells (by simp only [List.getElem_map]; exact .v _) _ (List.getElem_mem _))
theorem vConvBytes_mono {P : Program} {H : List VB} {s d : TypeId} {x : SV} {K K' : SV → List VB → Prop} (h : vConvBytes P H s d x K) (hk : ∀ r H', K r H' → K' r H') : vConvBytes P H s d x K' := by
  obtain ⟨b, e, h1, h2, h3, h4, h5, h6⟩ := h
  exact ⟨b, e, h1, h2, h3, h4, h5, h6.imp (hk _ _) (hk _ _)⟩
end Go.Vm

/- The virtual machine, part 12: operations that turn memory, calls, regions. Generic: no program in sight. -/
set_option linter.unusedVariables false
set_option linter.unusedSimpArgs false
namespace Go.Vm
open Go.RowKit

/-- Does the operation turn memory, or call? -/
def isC (P : Program) : Op → Bool
  | .box .. | .alloc .. | .store .. | .makeSlice .. | .makeMap .. | .mapUpdate .. | .insert .. | .range .. | .next .. => true
  | .convert _ d _ => match P.underlying d with | some (.slice _) => true | _ => false
  | .binOp op t _ _ _ => match op with
    | .eql | .neq => match P.underlying t with | some (.slice _) => true | _ => false
    | _ => false
  | .call c => match c.callee with
    | .builtin .len | .builtin .max | .builtin .min => false
    | _ => true
  | _ => false
/-- A slice is compared with nil: of an empty list both answers are asked for. -/
def vSliceEq (P : Program) (op : BinOp) (t : TypeId) (x y : SV) (H : List VB) (K : SV → List VB → Prop) : Prop :=
  (∃ r, pBin P op t x y = some r ∧ K r H) ∨ ((op = .eql ∨ op = .neq) ∧ (∃ e, P.underlying t = some (.slice e)) ∧ (∃ n f, x = .list n f []) ∧ y = .v (.slice none 0 0) ∧ ∀ b, K (.v (.bool b)) H)
theorem vSliceEq_sound {P : Program} {R : Env} (hR : HRep R) {op : BinOp} {t : TypeId} {ox oy : Operand} {x y : SV} {K : SV → List VB → Prop} {a b : Value} (h : vSliceEq P op t x y R.H K) (ha : Rep R x a) (hb : Rep R y b) :
    ∃ v r R', (do eqGuard op t ox oy a b; binOp op t a b : Sem Value).run P R.w = .ok v R'.w ∧ Ext R R' ∧ HRep R' ∧ Rep R' r v ∧ K r R'.H := by
  rcases h with ⟨r, h1, h2⟩ | ⟨hop, ⟨e, hu⟩, ⟨n, f, rfl⟩, rfl, hK⟩
  · obtain ⟨v, q1, q2⟩ := pBin_sound (x := ox) (y := oy) h1 ha hb
    exact ⟨v, r, R, q1, Ext.refl hR, hR, q2, h2⟩
  · obtain rfl := rep_v.1 hb
    obtain ⟨ad, m, c, rfl⟩ : ∃ ad m c, a = .slice ad m c := by
      cases ha with
      | list n full xs a c f hc hfull hn ha h => exact ⟨_, _, _, rfl⟩
    have hg : (eqGuard op t ox oy (.slice ad m c) (.slice none 0 0)).run P R.w = .ok () R.w := run_eqGuard_slice ..
    rcases hop with rfl | rfl
    · exact ⟨_, .v (.bool ad.isNone), R, by simp only [Sem.run_bind, hg, Result.andThen_ok, binOp, run_equal_slice hu, Sem.run_pure], Ext.refl hR, hR, .v _, hK _⟩
    · exact ⟨_, .v (.bool (!ad.isNone)), R, by simp only [Sem.run_bind, hg, Result.andThen_ok, binOp, run_equal_slice hu, Sem.run_pure], Ext.refl hR, hR, .v _, hK _⟩
def vC (P : Program) (o : Oper) (ρ : Operand → SV) (H : List VB) (K : SV → List VB → Prop) : Prop :=
  match o.op with
  | .box e x => svValid H (ρ x) = true ∧ K (.ptr H.length 0) (H ++ [.box (ρ x).cells])
  | .alloc e => match zcells P e with
    | some cs => K (.ptr H.length 0) (H ++ [.box cs]) ∨ ∃ id g n, H[id]? = some (.row g n []) ∧ K (.ptr id 0) (H.set id (.box cs))
    | none => False
  | .store t a x => match pStore P H t (ρ a) (ρ x) with
    | some H' => K .junk H'
    | none => False
  | .makeSlice t l c => vMakeSlice P H t (ρ l) (ρ c) K
  | .makeMap t r => match r with
    | none => K (.mapv H.length) (H ++ [.map []])
    | some _ => False
  | .mapUpdate t m k v => vMapUpd P H t (ρ m) (ρ k) (ρ v) K
  | .binOp op t x y _ => vSliceEq P op t (ρ x) (ρ y) H K
  | .convert s d x => vConvBytes P H s d (ρ x) K
  | .call c => match c.callee with
    | .value f => match ρ f with
      | .fn g caps => VCalls P g (c.args.toList.map ρ ++ caps) H K
      | _ => False
    | .builtin b => vBuiltin P H b c.argTypes (c.args.toList.map ρ) K
    | _ => False
  | _ => False
/-- What the run of such an operation comes to. -/
def CSnd (P : Program) (R : Env) (s : Sem Next) (K : SV → List VB → Prop) : Prop :=
  (∃ v r R', s.run P R.w = .ok (.value v) R'.w ∧ Ext R R' ∧ HRep R' ∧ Rep R' r v ∧ K r R'.H) ∨
  (∃ R', s.run P R.w = .ok .skip R'.w ∧ Ext R R' ∧ HRep R' ∧ K .junk R'.H) ∨
  (∃ f args, s.run P R.w = .ok (.enter f args) R.w ∧ Calls P f args R.w fun e w' => ∃ v r R', e = .returned v ∧ R'.w = w' ∧ Ext R R' ∧ HRep R' ∧ Rep R' r v ∧ K r R'.H)
theorem CSnd.of {P : Program} {R : Env} {s : Sem Value} {K : SV → List VB → Prop} (h : ∃ v r R', s.run P R.w = .ok v R'.w ∧ Ext R R' ∧ HRep R' ∧ Rep R' r v ∧ K r R'.H) : CSnd P R (do pure (.value (← s))) K := by
  obtain ⟨v, r, R', h1, h2⟩ := h
  exact .inl ⟨v, r, R', by simp only [Sem.run_bind, h1, Result.andThen_ok, Sem.run_pure], h2⟩
theorem callFunc_enter {P : Program} {f : FuncId} (h : callable P f = true) (args : Array Value) (w : World) : (callFunc f args).run P w = .ok (.enter f args) w := by
  unfold callable at h
  split at h
  · rename_i fn hf
    simp only [Bool.and_eq_true, Bool.not_eq_true'] at h
    have h1 : fn.body.isNone = false := by cases hb : fn.body <;> simp_all
    simp only [callFunc, Sem.run_bind, run_program, Result.andThen_ok, hf, h.2, h1, Bool.false_eq_true, if_false, Sem.run_pure]
  · cases h
theorem vC_sound {P : Program} {R : Env} (hR : HRep R) {o : Oper} {ρ : Operand → SV} {σ : Operand → Value} {K : SV → List VB → Prop} (h : vC P o ρ R.H K) (hr : RepF R ρ σ) : CSnd P R (execOp σ o) K := by
  obtain ⟨dst, op, type, pos, after, guard⟩ := o
  cases op with
  | box e x =>
    obtain ⟨h1, h2⟩ := h
    obtain ⟨q1, q2, q3⟩ := box_new hR (valid_cells h1 (hr x)) e
    exact CSnd.of ⟨_, _, _, by simp only [Instr.box, newVar, newRow, Sem.run_bind, run_newObj, Result.andThen_ok, Sem.run_pure]; rfl, q1, q2, q3, h2⟩
  | alloc e =>
    simp only [vC] at h
    split at h
    · rename_i cs hz
      obtain ⟨z, hzv, hzc⟩ := zcells_sound (R := R) hz
      rcases h with h | ⟨id, g, n, hid, h⟩
      · obtain ⟨q1, q2, q3⟩ := box_new hR hzc e
        exact CSnd.of ⟨_, _, _, by simp only [Instr.alloc, newVar, newRow, Sem.run_bind, hzv, run_newObj, Result.andThen_ok, Sem.run_pure]; rfl, q1, q2, q3, h⟩
      · obtain ⟨q1, q2, q3⟩ := box_fill hR hid hzc e
        exact CSnd.of ⟨_, _, _, by simp only [Instr.alloc, newVar, newRow, Sem.run_bind, hzv, run_newObj, Result.andThen_ok, Sem.run_pure]; rfl, q1, q2, q3, h⟩
    · exact h.elim
  | store t a x =>
    simp only [vC] at h
    split at h
    · rename_i H' hs
      obtain ⟨w', p1, p2, p3⟩ := pStore_sound (P := P) hR hs (hr a) (hr x)
      exact .inr (.inl ⟨⟨H', R.ρ, w'⟩, by simp only [execOp, Sem.run_bind, p1, Result.andThen_ok, Sem.run_pure], p2, p3, h⟩)
    · exact h.elim
  | makeSlice t l c => exact CSnd.of (vMakeSlice_sound hR h (hr l) (hr c))
  | makeMap t r =>
    cases r with
    | some _ => exact h.elim
    | none =>
      obtain ⟨q1, q2, q3⟩ := map_new hR
      exact CSnd.of ⟨_, _, _, by simp only [Instr.makeMap, Option.map_none, Sem.run_bind, run_newObj, Result.andThen_ok, Sem.run_pure]; rfl, q1, q2, q3, h⟩
  | binOp op t x y u => exact CSnd.of (vSliceEq_sound hR h (hr x) (hr y))
  | mapUpdate t m k x =>
    obtain ⟨R', p1, p2, p3, p4⟩ := vMapUpd_sound hR h (hr m) (hr k) (hr x)
    exact .inr (.inl ⟨R', by simp only [execOp, Sem.run_bind, p1, Result.andThen_ok, Sem.run_pure], p2, p3, p4⟩)
  | convert s d x => exact CSnd.of (vConvBytes_sound hR h (hr x))
  | call c =>
    obtain ⟨callee, args, argTypes⟩ := c
    have hargs : ∀ (i : Nat) (hi : i < (args.toList.map ρ).length) (hj : i < (args.map σ).size), Rep R (args.toList.map ρ)[i] (args.map σ)[i] := fun i hi hj => by
      have hi' : i < args.size := by simpa using hi
      have e1 : (args.toList.map ρ)[i] = ρ args[i] := by simp
      have e2 : (args.map σ)[i] = σ args[i] := by simp
      rw [e1, e2]
      exact hr _
    cases callee with
    | value f =>
      simp only [vC] at h
      split at h
      · rename_i g caps hf
        have hfr := hr f
        rw [hf] at hfr
        generalize hv : σ f = fv at hfr
        cases hfr with
        | fn fi cs a hl hh =>
          refine .inr (.inr ⟨g, args.map σ ++ a, ?_, h.2 R _ hR rfl ⟨by simp [hl], fun i hi hj => ?_⟩⟩)
          · simp only [execOp, resolve, Sem.run_bind, hv, Deferred.ofValue, Sem.run_pure, Result.andThen_ok, invoke, Array.empty_append]
            exact callFunc_enter h.1 _ _
          · by_cases hlt : i < args.size
            · have e1 : (args.toList.map ρ ++ caps)[i] = (args.toList.map ρ)[i]'(by simpa using hlt) := List.getElem_append_left _
              have e2 : (args.map σ ++ a)[i] = (args.map σ)[i]'(by simpa using hlt) := Array.getElem_append_left _
              rw [e1, e2]
              exact hargs i _ _
            · simp only [List.length_append, List.length_map, Array.length_toList] at hi
              have e1 : (args.toList.map ρ ++ caps)[i] = caps[i - args.size]'(by omega) := by
                rw [List.getElem_append_right (by simp; omega)]; simp
              have e2 : (args.map σ ++ a)[i] = a[i - args.size]'(by omega) := by
                rw [Array.getElem_append_right (by simp; omega)]; simp
              rw [e1, e2]
              exact hh _ _ _
      · exact h.elim
    | builtin b =>
      have := vBuiltin_sound (P := P) (b := b) (ats := argTypes) (K := K) hR h (vs := args.map σ) ⟨by simp, hargs⟩ type (args.map fun | .const _ => true | _ => false)
      obtain ⟨v, r, R', h1, h2⟩ := this
      refine .inl ⟨v, r, R', ?_, h2⟩
      rw [← h1]
      simp only [execOp, resolve, Sem.run_bind, Sem.run_pure, Result.andThen_ok, invoke]
      rfl
    | invoke r m => exact h.elim
  | _ => exact h.elim

theorem vC_mono {P : Program} {o : Oper} {ρ : Operand → SV} {H : List VB} {K K' : SV → List VB → Prop} (h : vC P o ρ H K) (hk : ∀ r H', K r H' → K' r H') : vC P o ρ H K' := by
  obtain ⟨dst, op, type, pos, after, guard⟩ := o
  cases op with
  | box e x => exact ⟨h.1, hk _ _ h.2⟩
  | alloc e =>
    simp only [vC] at h ⊢
    split at h
    · exact h.imp (hk _ _) fun ⟨id, g, n, h1, h2⟩ => ⟨id, g, n, h1, hk _ _ h2⟩
    · exact h.elim
  | store t a x =>
    simp only [vC] at h ⊢
    split at h
    · exact hk _ _ h
    · exact h.elim
  | makeSlice t l c => exact vMakeSlice_mono (P := P) (H := H) (t := t) (l := ρ l) (c := ρ c) h hk
  | makeMap t r =>
    cases r with
    | some _ => exact h.elim
    | none => exact hk _ _ h
  | binOp op t x y u => exact Or.imp (fun ⟨r, h1, h2⟩ => ⟨r, h1, hk _ _ h2⟩) (fun ⟨h1, h2, h3, h4, h5⟩ => ⟨h1, h2, h3, h4, fun b => hk _ _ (h5 b)⟩) h
  | mapUpdate t m k x => exact vMapUpd_mono (P := P) (H := H) (t := t) (m := ρ m) (k := ρ k) (v := ρ x) h hk
  | convert s d x => exact vConvBytes_mono (P := P) (H := H) (s := s) (d := d) (x := ρ x) h hk
  | call c =>
    obtain ⟨callee, args, argTypes⟩ := c
    cases callee with
    | value f =>
      simp only [vC] at h ⊢
      split at h
      · exact h.mono hk
      · exact h.elim
    | builtin b => exact vBuiltin_mono (P := P) (H := H) (b := b) (ats := argTypes) (args := args.toList.map ρ) h hk
    | invoke r m => exact h.elim
  | _ => exact h.elim

/-! ### One operation of a region -/
def vput (N : Nat) (dst : Option Tmp) (r : SV) (H : List VB) (tm : TM) (next : TM → List VB → Prop) : Prop :=
  match dst with
  | some d => Nat.blt d N = true ∧ next ((d, r) :: tm) H
  | none => next tm H
/-- The slot that holds a guard's test. -/
def gslot (ops : Array Oper) (g : Nat) : Option Tmp := (ops[g]?).bind (·.dst)
def vguard (ops : Array Oper) (guard : Option (Nat × Bool)) (tm : TM) (yes no : Prop) : Prop :=
  match guard with
  | none => yes
  | some (g, b) => match gslot ops g with
    | some d => match tget tm d with
      | .v (.bool c) => if c = b then yes else no
      | .v (.tuple _) => no
      | _ => False
    | none => False
def vop (P : Program) (N : Nat) (ops : Array Oper) (o : Oper) (tm : TM) (H : List VB) (next : TM → List VB → Prop) : Prop :=
  vguard ops o.guard tm
    (if isC P o.op = true then vC P o (vev tm) H (fun r H' => vput N o.dst r H' tm next)
     else match stepF P o (vev tm) H with
      | some r => vput N o.dst r H tm next
      | none => False)
    (vput N o.dst (.v undef) H tm next)
theorem TRep.mono {R R' : Env} (e : Ext R R') {N : Nat} {tm : TM} {a : Act} (h : TRep R N tm a) : TRep R' N tm a := ⟨h.size, fun t => (h.get t).mono e⟩
theorem TRep.put {R : Env} {N : Nat} {tm : TM} {a : Act} (h : TRep R N tm a) {d : Tmp} {r : SV} {v : Value} (hd : Nat.blt d N = true) (hr : Rep R r v) : TRep R N ((d, r) :: tm) (a.put (some d) v) := by
  have hd' : d < a.tmps.size := by rw [h.size]; simpa using hd
  refine ⟨by simp [Act.put, h.size], fun t => ?_⟩
  simp only [tget, Act.put]
  cases hb : Nat.beq d t
  · have hne : d ≠ t := fun e => by subst e; simp at hb
    simp only [cond_false]
    have := h.get t
    rw [Array.getD_eq_getD_getElem?] at this ⊢
    rwa [Array.getElem?_setIfInBounds_ne hne]
  · have hk : d = t := Nat.eq_of_beq_eq_true hb
    subst hk
    simp only [cond_true]
    rw [Array.getD_eq_getD_getElem?, Array.getElem?_setIfInBounds_self_of_lt hd']
    exact hr
theorem defers_put (a : Act) (d : Option Tmp) (v : Value) : (a.put d v).defers = a.defers := by cases d <;> rfl
/-- What the rest of a region is walked from. -/
def RNext (R0 : Env) (N : Nat) (ds : List Deferred) (next : TM → List VB → Prop) (K : Act → World → Prop) : Prop :=
  ∀ R tm a, Ext R0 R → HRep R → TRep R N tm a → a.defers = ds → next tm R.H → K a R.w
theorem vput_next {R0 R : Env} {N : Nat} {ds : List Deferred} {next : TM → List VB → Prop} {K : Act → World → Prop} (hk : RNext R0 N ds next K) {tm : TM} {a : Act} {dst : Option Tmp} {r : SV} {v : Value}
    (e : Ext R0 R) (hR : HRep R) (ht : TRep R N tm a) (hd : a.defers = ds) (hr : Rep R r v) (h : vput N dst r R.H tm next) : K (a.put dst v) R.w := by
  cases dst with
  | none => exact hk R tm a e hR ht hd h
  | some d => exact hk R _ _ e hR (ht.put h.1 hr) ((defers_put _ _ _).trans hd) h.2
theorem yielded_of {R : Env} {N : Nat} {tm : TM} {a : Act} (h : TRep R N tm a) {ops : Array Oper} {g : Nat} {d : Tmp} {c : Bool} (hg : gslot ops g = some d) (hc : tget tm d = .v (.bool c)) : yielded ops a.tmps g = some c := by
  have h1 := h.get d
  rw [hc] at h1
  have h2 := rep_v.1 h1
  unfold gslot at hg
  simp only [yielded, hg, Option.bind_some]
  rw [Array.getD_eq_getD_getElem?] at h2
  cases hd : a.tmps[d]? with
  | none => rw [hd] at h2; cases h2
  | some v => rw [hd] at h2; simp only [Option.getD_some] at h2; subst h2; rfl
theorem yielded_tup {R : Env} {N : Nat} {tm : TM} {a : Act} (h : TRep R N tm a) {ops : Array Oper} {g : Nat} {d : Tmp} {cs : Array Value} (hg : gslot ops g = some d) (hc : tget tm d = .v (.tuple cs)) : yielded ops a.tmps g = none := by
  have h1 := h.get d
  rw [hc] at h1
  have h2 := rep_v.1 h1
  unfold gslot at hg
  simp only [yielded, hg, Option.bind_some]
  rw [Array.getD_eq_getD_getElem?] at h2
  cases hd : a.tmps[d]? with
  | none => rfl
  | some v => rw [hd] at h2; simp only [Option.getD_some] at h2; subst h2; rfl
theorem vop_sound {R0 R : Env} {P : Program} {N r0 : Nat} {ro : Option Nat} {ops : Array Oper} {ds : List Deferred} {next : TM → List VB → Prop} {K : Act → World → Prop} {Q : Exit → Act → World → Prop} (hk : RNext R0 N ds next K)
    {o : Oper} {tm : TM} {a : Act} (e : Ext R0 R) (hR : HRep R) (ht : TRep R N tm a) (hd : a.defers = ds) (h : vop P N ops o tm R.H next) (hnd : ∀ c, o.op ≠ .defer c) :
    if Region.wanted o (yielded ops a.tmps) = true then o.wpIn (WF ro) r0 P a R.w K Q else K (a.put o.dst undef) R.w := by
  have hab : ∀ f, o.about P R.w a.eval = some f → (WF ro).fn f := fun _ _ => trivial
  have hev : RepF R (vev tm) a.eval := fun x => ht.ev x
  have yes : (if isC P o.op = true then vC P o (vev tm) R.H (fun r H' => vput N o.dst r H' tm next) else match stepF P o (vev tm) R.H with
      | some r => vput N o.dst r R.H tm next
      | none => False) → o.wpIn (WF ro) r0 P a R.w K Q := by
    intro h
    refine ⟨hab, ?_⟩
    rw [Oper.semAt_eq _ _ _ hnd]
    split at h
    · rcases vC_sound hR h hev with ⟨v, r, R', q1, q2, q3, q4, q5⟩ | ⟨R', q1, q2, q3, q4⟩ | ⟨f, args, q1, q2⟩
      · rw [q1]
        exact vput_next hk (e.trans q2) q3 (ht.mono q2) hd q4 q5
      · rw [q1]
        exact vput_next hk (e.trans q2) q3 (ht.mono q2) hd (.junk _) q4
      · rw [q1]
        refine ⟨fun hd' => by simp [WF, Fence.wide] at hd', callsIn_WF (q2.mono ?_)⟩
        rintro en w' ⟨v, r, R', rfl, rfl, p1, p2, p3, p4⟩
        exact vput_next hk (e.trans p1) p2 (ht.mono p1) hd p3 p4
    · split at h
      · rename_i r hs
        obtain ⟨v, w', q1, q2, q3⟩ := stepF_sound hR hs hev
        rw [q1]
        exact vput_next (R := { R with w := w' }) hk (e.trans (q2.ext hR)) (q2.rep hR) (ht.mono (q2.ext hR)) hd q3 h
      · exact h.elim
  have no : vput N o.dst (.v undef) R.H tm next → K (a.put o.dst undef) R.w := fun h => vput_next hk e hR ht hd (.v _) h
  unfold vop vguard at h
  cases hg : o.guard with
  | none =>
    rw [hg] at h
    simp only [Region.wanted, hg, if_true]
    exact yes h
  | some gb =>
    obtain ⟨g, b⟩ := gb
    rw [hg] at h
    simp only at h
    split at h
    · rename_i d hgs
      split at h
      · rename_i c hc
        have hy := yielded_of ht hgs hc
        simp only [Region.wanted, hg, hy]
        split at h
        · rename_i hcb
          subst hcb
          simp only [beq_self_eq_true, if_true]
          exact yes h
        · rename_i hcb
          have : (some c == some b) = false := by simpa using hcb
          simp only [this, Bool.false_eq_true, if_false]
          exact no h
      · rename_i cs hc
        have hy := yielded_tup ht hgs hc
        have : ((none : Option Bool) == some b) = false := rfl
        simp only [Region.wanted, hg, hy, this, Bool.false_eq_true, if_false]
        exact no h
      · exact h.elim
    · exact h.elim
def vopsL (P : Program) (N : Nat) (ops : Array Oper) : List Oper → TM → List VB → (TM → List VB → Prop) → Prop
  | [], tm, H, k => k tm H
  | o :: rest, tm, H, k => vop P N ops o tm H (fun tm' H' => vopsL P N ops rest tm' H' k)
def noDefer (o : Oper) : Bool := match o.op with | .defer _ => false | _ => true
theorem noDefer_spec {o : Oper} (h : noDefer o = true) : ∀ c, o.op ≠ .defer c := fun c hc => by simp [noDefer, hc] at h
theorem vopsL_sound {R0 : Env} {P : Program} {N r0 : Nat} {ro : Option Nat} {ops : Array Oper} {ds : List Deferred} {k : TM → List VB → Prop} {Q : Exit → Act → World → Prop} (hk : RNext R0 N ds k (Q .normal)) :
    ∀ (is : List Nat) (os : List Oper), is.map (ops[·]?) = os.map some → os.all noDefer = true → RNext R0 N ds (fun tm H => vopsL P N ops os tm H k) (wpOpsIn (WF ro) r0 P ops Q is)
  | [], [], _, _ => hk
  | [], _ :: _, h, _ => by simp at h
  | _ :: _, [], h, _ => by simp at h
  | i :: is, o :: os, h, hnd => by
    simp only [List.map_cons, List.cons.injEq] at h
    simp only [List.all_cons, Bool.and_eq_true] at hnd
    have ih := vopsL_sound (r0 := r0) (ro := ro) (P := P) (ops := ops) hk is os h.2 hnd.2
    intro R tm a e hR ht hd hv
    simp only [wpOpsIn, h.1]
    have := vop_sound (Q := Q) (r0 := r0) (ro := ro) ih e hR ht hd hv (noDefer_spec hnd.1)
    split
    · rename_i hw; simpa only [hw, if_true] using this
    · rename_i hw
      simp only [hw, if_false] at this
      exact ⟨fun _ _ => trivial, this⟩
theorem range_get {ops : List Oper} : (List.range ops.toArray.size).map (ops.toArray[·]?) = ops.map some := by
  refine List.ext_getElem (by simp) fun i h1 h2 => ?_
  simp at h1
  simp [h1]
/-- A region whose order the text gives. -/
theorem vwp_region {R0 : Env} {P : Program} {N : Nat} {id : Nat} {ops : List Oper} {tm : TM} {H : List VB} {Q : VQ} (hnd : ops.all noDefer = true) (h : vopsL P N ops.toArray ops tm H (Q .normal)) : VWp R0 P N (.region id ops.toArray false) tm H Q := by
  intro r m R a h1 h2 h3 h4
  refine wpIn_region ?_
  have hk : RNext R0 N a.defers (Q .normal) (VPost R0 N a.defers Q .normal) := fun R tm a' e hR ht hd hq => ⟨R, tm, rfl, e, hR, ht, hd, hq⟩
  exact vopsL_sound (Q := VPost R0 N a.defers Q) hk _ _ range_get hnd R tm a h1 h2 h4 rfl (by rw [h3]; exact h)
end Go.Vm

/- The virtual machine, part 13: the walk as a reckoning that stops at each fork, each demand, each call (kStep). Generic: no program in sight. -/
set_option linter.unusedVariables false
set_option linter.unusedSimpArgs false
namespace Go.Vm
open Go.RowKit

/-! ### Where the reckoning stops -/
structure VIf (p : Prop) (K : Bool → Prop) : Prop where
  t : p → K true
  f : ¬ p → K false
structure VReq (p A : Prop) : Prop where
  p : p
  h : A
structure KGet (xs : List SV) (i : Nat) (K : SV → Prop) : Prop where
  h : ∃ z, xs[i]? = some z ∧ K z
theorem VIf.elim {p : Prop} {K : Bool → Prop} (h : VIf p K) : (p ∧ K true) ∨ (¬ p ∧ K false) := by
  by_cases hp : p
  · exact .inl ⟨hp, h.t hp⟩
  · exact .inr ⟨hp, h.f hp⟩
/-- The virtual heap in two parts: what was there, and what the function has laid. -/
structure KH where
  n0 : Nat
  base : List VB
  top : List VB
def KH.flat (h : KH) : List VB := h.base ++ h.top
def KH.ok (h : KH) : Prop := h.base.length = h.n0
structure KBox (h : KH) (id : Nat) (K : List SV → Prop) : Prop where
  h : ∃ cs, h.flat[id]? = some (.box cs) ∧ K cs
structure KRow (h : KH) (id : Nat) (K : Nat → Nat → List SV → Prop) : Prop where
  h : ∃ g n xs, h.flat[id]? = some (.row g n xs) ∧ K g n xs
structure KMap (h : KH) (id : Nat) (K : List (Value × SV) → Prop) : Prop where
  h : ∃ es, h.flat[id]? = some (.map es) ∧ K es
/-- What a heap becomes where one id is written. -/
structure KSet (h : KH) (id : Nat) (b : VB) (K : KH → Prop) : Prop where
  h : ∃ h' : KH, h'.flat = h.flat.set id b ∧ h'.ok ∧ h'.n0 = h.n0 ∧ K h'
structure KCall (P : Program) (f : FuncId) (args : List SV) (h : KH) (K : SV → KH → Prop) : Prop where
  h : VCalls P f args h.flat fun r H' => ∃ h' : KH, h'.flat = H' ∧ h'.ok ∧ h'.n0 = h.n0 ∧ K r h'

def kb (k : SV → Prop) : Bool → Prop
  | true => k (.v (.bool true))
  | false => k (.v (.bool false))
def kbn (k : SV → Prop) : Bool → Prop
  | true => k (.v (.bool false))
  | false => k (.v (.bool true))
def kInt (op : BinOp) (k : IntKind) (a b : Int) (K : SV → Prop) : Prop :=
  match op with
  | .add => K (.v (.int k (k.wrap (a + b))))
  | .sub => K (.v (.int k (k.wrap (a - b))))
  | .mul => K (.v (.int k (k.wrap (a * b))))
  | .quo => VReq (b ≠ 0) (K (.v (.int k (k.wrap (a.tdiv b)))))
  | .rem => VReq (b ≠ 0) (K (.v (.int k (a.tmod b))))
  | .and => K (.v (.int k (k.wrap (BitVec.ofInt k.bits a &&& BitVec.ofInt k.bits b).toNat)))
  | .or => K (.v (.int k (k.wrap (BitVec.ofInt k.bits a ||| BitVec.ofInt k.bits b).toNat)))
  | .xor => K (.v (.int k (k.wrap (BitVec.ofInt k.bits a ^^^ BitVec.ofInt k.bits b).toNat)))
  | .andNot => K (.v (.int k (k.wrap (BitVec.ofInt k.bits a &&& ~~~ BitVec.ofInt k.bits b).toNat)))
  | .eql => VIf (a = b) (kb K)
  | .neq => VIf (a = b) (kbn K)
  | .lss => VIf (a < b) (kb K)
  | .leq => VIf (a ≤ b) (kb K)
  | .gtr => VIf (b < a) (kb K)
  | .geq => VIf (b ≤ a) (kb K)
  | .shl => False
  | .shr => False
theorem kInt_sound {op : BinOp} {k : IntKind} {a b : Int} {K : SV → Prop} (h : kInt op k a b K) : ∃ v, pInt op k a b = some v ∧ K (.v v) := by
  cases op <;> simp only [kInt] at h
  case quo => exact ⟨_, by simp only [pInt]; rw [if_neg h.p], h.h⟩
  case rem => exact ⟨_, by simp only [pInt]; rw [if_neg h.p], h.h⟩
  case eql => rcases h.elim with ⟨hp, h⟩ | ⟨hp, h⟩ <;> exact ⟨_, by simp only [pInt]; simp [hp], h⟩
  case neq => rcases h.elim with ⟨hp, h⟩ | ⟨hp, h⟩ <;> exact ⟨_, by simp only [pInt]; simp [hp], h⟩
  case lss => rcases h.elim with ⟨hp, h⟩ | ⟨hp, h⟩ <;> exact ⟨_, by simp only [pInt]; simp [hp], h⟩
  case leq => rcases h.elim with ⟨hp, h⟩ | ⟨hp, h⟩ <;> exact ⟨_, by simp only [pInt]; simp [hp], h⟩
  case gtr => rcases h.elim with ⟨hp, h⟩ | ⟨hp, h⟩ <;> exact ⟨_, by simp only [pInt]; simp [hp], h⟩
  case geq => rcases h.elim with ⟨hp, h⟩ | ⟨hp, h⟩ <;> exact ⟨_, by simp only [pInt]; simp [hp], h⟩
  all_goals first | exact ⟨_, rfl, h⟩ | exact h.elim
def kStr (op : BinOp) (a b : ByteArray) (K : SV → Prop) : Prop :=
  match op with
  | .add => VReq (a.size + b.size ≤ 9223372036854775807) (K (.v (.string (a ++ b))))
  | .eql => VIf (a = b) (kb K)
  | .neq => VIf (a = b) (kbn K)
  | .lss => VIf (Op.bytesLess a.toList b.toList = true) (kb K)
  | .geq => VIf (Op.bytesLess a.toList b.toList = true) (kbn K)
  | .leq => VIf (Op.bytesLess a.toList b.toList = true ∨ a = b) (kb K)
  | .gtr => VIf (Op.bytesLess a.toList b.toList = true ∨ a = b) (kbn K)
  | _ => False
theorem kStr_sound {op : BinOp} {a b : ByteArray} {K : SV → Prop} (h : kStr op a b K) : ∃ v, pStr op a b = some v ∧ K (.v v) := by
  cases op <;> simp only [kStr] at h
  case add => exact ⟨_, by simp only [pStr]; rw [if_pos h.p], h.h⟩
  case eql => rcases h.elim with ⟨hp, h⟩ | ⟨hp, h⟩ <;> exact ⟨_, by simp only [pStr]; simp [hp], h⟩
  case neq => rcases h.elim with ⟨hp, h⟩ | ⟨hp, h⟩ <;> exact ⟨_, by simp only [pStr]; simp [hp], h⟩
  case lss => rcases h.elim with ⟨hp, h⟩ | ⟨hp, h⟩ <;> exact ⟨_, by simp only [pStr]; simp [hp], h⟩
  case geq => rcases h.elim with ⟨hp, h⟩ | ⟨hp, h⟩ <;> exact ⟨_, by simp only [pStr]; simp [hp], h⟩
  case leq =>
    rcases h.elim with ⟨hp, h⟩ | ⟨hp, h⟩
    · refine ⟨_, rfl, ?_⟩
      have : (Op.bytesLess a.toList b.toList || decide (a = b)) = true := by simpa using hp
      rw [this]; exact h
    · refine ⟨_, rfl, ?_⟩
      have : (Op.bytesLess a.toList b.toList || decide (a = b)) = false := by
        rw [Bool.eq_false_iff]; simpa using hp
      rw [this]; exact h
  case gtr =>
    rcases h.elim with ⟨hp, h⟩ | ⟨hp, h⟩
    · refine ⟨_, rfl, ?_⟩
      have : (Op.bytesLess a.toList b.toList || decide (a = b)) = true := by simpa using hp
      rw [this]; exact h
    · refine ⟨_, rfl, ?_⟩
      have : (Op.bytesLess a.toList b.toList || decide (a = b)) = false := by
        rw [Bool.eq_false_iff]; simpa using hp
      rw [this]; exact h
  all_goals exact h.elim
def kindEq : IntKind → IntKind → Bool
  | .i8, .i8 | .i16, .i16 | .i32, .i32 | .i64, .i64 | .u8, .u8 | .u16, .u16 | .u32, .u32 | .u64, .u64 => true
  | _, _ => false
theorem kindEq_eq {a b : IntKind} (h : kindEq a b = true) : a = b := by cases a <;> cases b <;> first | rfl | cases h
def kBin (P : Program) (op : BinOp) (t : TypeId) (x y : SV) (K : SV → Prop) : Prop :=
  match x, y with
  | .v (.int k a), .v (.int k' b) => match op with
    | .shl => VReq (0 ≤ b) (K (.v (.int k (k.wrap (a * 2 ^ (min b.toNat k.bits))))))
    | .shr => VReq (0 ≤ b) (K (.v (.int k (a.fdiv (2 ^ (min b.toNat k.bits))))))
    | op => match kindEq k k' with | true => kInt op k a b K | false => False
  | .v (.string a), .v (.string b) => kStr op a b K
  | .v (.bool a), .v (.bool b) => match P.underlying t with
    | some .bool => match op with
      | .eql => K (.v (.bool (a == b)))
      | .neq => K (.v (.bool (!(a == b))))
      | _ => False
    | _ => False
  | .v (.pointer none), .v (.pointer none) => match P.underlying t with
    | some (.pointer _) => match op with
      | .eql => K (.v (.bool true))
      | .neq => K (.v (.bool false))
      | _ => False
    | _ => False
  | .ptr i o, .v (.pointer none) => match P.underlying t with
    | some (.pointer _) => match op with
      | .eql => K (.v (.bool false))
      | .neq => K (.v (.bool true))
      | _ => False
    | _ => False
  | .ro cs, .v (.pointer none) => match P.underlying t with
    | some (.pointer _) => match op with
      | .eql => K (.v (.bool false))
      | .neq => K (.v (.bool true))
      | _ => False
    | _ => False
  | .v (.slice none 0 0), .v (.slice none 0 0) => match P.underlying t with
    | some (.slice _) => match op with
      | .eql => K (.v (.bool true))
      | .neq => K (.v (.bool false))
      | _ => False
    | _ => False
  | .list _ _ (_ :: _), .v (.slice none 0 0) => match P.underlying t with
    | some (.slice _) => match op with
      | .eql => K (.v (.bool false))
      | .neq => K (.v (.bool true))
      | _ => False
    | _ => False
  | _, _ => False
theorem kBin_sound {P : Program} {op : BinOp} {t : TypeId} {x y : SV} {K : SV → Prop} (h : kBin P op t x y K) : ∃ r, pBin P op t x y = some r ∧ K r := by
  unfold kBin at h
  split at h
  · split at h
    · exact ⟨_, by simp only [pBin, pShift]; rw [if_neg (by have := h.p; omega)]; rfl, h.h⟩
    · exact ⟨_, by simp only [pBin, pShift]; rw [if_neg (by have := h.p; omega)]; rfl, h.h⟩
    · rename_i k a k' b op h1 h2
      split at h
      · rename_i hk
        obtain ⟨v, q1, q2⟩ := kInt_sound h
        obtain rfl := kindEq_eq hk
        refine ⟨_, ?_, q2⟩
        cases op <;> first | exact absurd rfl h1 | exact absurd rfl h2 | (simp only [pBin, if_true, q1, Option.map_some])
      · exact h.elim
  · obtain ⟨v, q1, q2⟩ := kStr_sound h
    exact ⟨_, by simp only [pBin, q1, Option.map_some], q2⟩
  · split at h
    · rename_i hu
      split at h
      · exact ⟨_, by simp only [pBin, hu], h⟩
      · exact ⟨_, by simp only [pBin, hu], h⟩
      · exact h.elim
    · exact h.elim
  · split at h
    · rename_i hu
      split at h
      · exact ⟨_, by simp only [pBin, hu], h⟩
      · exact ⟨_, by simp only [pBin, hu], h⟩
      · exact h.elim
    · exact h.elim
  · split at h
    · rename_i hu
      split at h
      · exact ⟨_, by simp only [pBin, SV.addr, hu, if_true], h⟩
      · exact ⟨_, by simp only [pBin, SV.addr, hu, if_true], h⟩
      · exact h.elim
    · exact h.elim
  · split at h
    · rename_i hu
      split at h
      · exact ⟨_, by simp only [pBin, SV.addr, hu, if_true], h⟩
      · exact ⟨_, by simp only [pBin, SV.addr, hu, if_true], h⟩
      · exact h.elim
    · exact h.elim
  · split at h
    · rename_i hu
      split at h
      · exact ⟨_, by simp only [pBin, hu], h⟩
      · exact ⟨_, by simp only [pBin, hu], h⟩
      · exact h.elim
    · exact h.elim
  · split at h
    · rename_i hu
      split at h
      · exact ⟨_, by simp only [pBin, hu], h⟩
      · exact ⟨_, by simp only [pBin, hu], h⟩
      · exact h.elim
    · exact h.elim
  · exact h.elim
def kUn (op : UnOp) (x : SV) (K : SV → Prop) : Prop :=
  match x with
  | .v (.int k n) => match op with
    | .neg => K (.v (.int k (k.wrap (0 - n))))
    | .xor => K (.v (.int k (k.wrap (BitVec.ofInt k.bits (if k.signed then -1 else k.max) ^^^ BitVec.ofInt k.bits n).toNat)))
    | _ => False
  | .v (.bool b) => match op with
    | .not => match b with | true => K (.v (.bool false)) | false => K (.v (.bool true))
    | _ => False
  | _ => False
theorem kUn_sound {op : UnOp} {x : SV} {K : SV → Prop} (h : kUn op x K) : ∃ r, pUn op x = some r ∧ K r := by
  unfold kUn at h
  split at h
  · split at h
    · exact ⟨_, rfl, h⟩
    · exact ⟨_, rfl, h⟩
    · exact h.elim
  · split at h
    · split at h <;> exact ⟨_, rfl, h⟩
    · exact h.elim
  · exact h.elim

/-! ### Reading memory -/
def kcells (h : KH) (x : SV) (K : List SV → Prop) : Prop :=
  match x with
  | .ptr id off => KBox h id fun cs => K (cs.drop off)
  | .ro cs => K cs
  | .rptr id g i o => KRow h id fun g' n xs => VReq (g = g') (KGet xs i fun z => K (z.cells.drop o))
  | _ => False
theorem kcells_sound {h : KH} {x : SV} {K : List SV → Prop} (hk : kcells h x K) : ∃ cs, vcells h.flat x = some cs ∧ K cs := by
  unfold kcells at hk
  split at hk
  · obtain ⟨cs, q1, q2⟩ := hk.h
    exact ⟨_, by simp only [vcells, q1], q2⟩
  · exact ⟨_, rfl, hk⟩
  · obtain ⟨g', n, xs, q1, q2⟩ := hk.h
    obtain ⟨z, p1, p2⟩ := q2.h.h
    exact ⟨_, by simp only [vcells, q1]; rw [if_pos q2.p, p1]; rfl, p2⟩
  · exact hk.elim
def kload (P : Program) (h : KH) (t : TypeId) (x : SV) (K : SV → Prop) : Prop :=
  kcells h x fun cs => match (P.underlying t).isSome with
    | true => match isAggT P t with
      | true => VReq (P.cellsOf t ≤ cs.length) (K (.agg (cs.take (P.cellsOf t))))
      | false => KGet cs 0 K
    | false => False
theorem kload_sound {P : Program} {h : KH} {t : TypeId} {x : SV} {K : SV → Prop} (hk : kload P h t x K) : ∃ r, vload P h.flat t x = some r ∧ K r := by
  obtain ⟨cs, q1, q2⟩ := kcells_sound hk
  split at q2
  · rename_i hs
    split at q2
    · rename_i ha
      exact ⟨_, by simp only [vload, q1, hs, ha, if_true]; rw [if_pos q2.p], q2.h⟩
    · rename_i ha
      obtain ⟨z, p1, p2⟩ := q2.h
      exact ⟨z, by simp only [vload, q1, hs, ha, if_true, if_false, Bool.false_eq_true, p1], p2⟩
  · exact q2.elim
def kpart (P : Program) (t : TypeId) (cs : List SV) (off : Nat) (K : SV → Prop) : Prop :=
  match (P.underlying t).isSome with
  | true => match isAggT P t with
    | true => VReq (off + P.cellsOf t ≤ cs.length) (K (.agg ((cs.drop off).take (P.cellsOf t))))
    | false => KGet cs off K
  | false => False
theorem kpart_sound {P : Program} {t : TypeId} {cs : List SV} {off : Nat} {K : SV → Prop} (hk : kpart P t cs off K) : ∃ r, pPart P t cs off = some r ∧ K r := by
  unfold kpart at hk
  split at hk
  · rename_i hs
    split at hk
    · rename_i ha
      exact ⟨_, by simp only [pPart, hs, ha, if_true]; rw [if_pos hk.p], hk.h⟩
    · rename_i ha
      obtain ⟨z, p1, p2⟩ := hk.h
      exact ⟨z, by simp only [pPart, hs, ha, if_true, if_false, Bool.false_eq_true, p1], p2⟩
  · exact hk.elim
def kfield (P : Program) (t : TypeId) (f : Nat) (x : SV) (K : SV → Prop) : Prop :=
  match x with
  | .agg cs => match P.underlying t with
    | some (.struct fields) => match fields[f]? with
      | some fd => kpart P fd.type cs fd.offset K
      | none => False
    | _ => False
  | _ => False
theorem kfield_sound {P : Program} {t : TypeId} {f : Nat} {x : SV} {K : SV → Prop} (hk : kfield P t f x K) : ∃ r, pField P t f x = some r ∧ K r := by
  unfold kfield at hk
  split at hk
  · split at hk
    · rename_i hu
      split at hk
      · rename_i hf
        obtain ⟨r, q1, q2⟩ := kpart_sound hk
        exact ⟨r, by simp only [pField, hu, hf, q1], q2⟩
      · exact hk.elim
    · exact hk.elim
  · exact hk.elim
def kadd (h : KH) (k : Nat) (x : SV) (K : SV → Prop) : Prop :=
  match x with
  | .ptr id off => K (.ptr id (off + k))
  | .ro cs => K (.ro (cs.drop k))
  | .rptr id g i o => KRow h id fun g' n xs => VReq (g = g' ∧ i < xs.length) (K (.rptr id g i (o + k)))
  | _ => False
theorem kadd_sound {h : KH} {k : Nat} {x : SV} {K : SV → Prop} (hk : kadd h k x K) : ∃ r, pAdd h.flat k x = some r ∧ K r := by
  unfold kadd at hk
  split at hk
  · exact ⟨_, rfl, hk⟩
  · exact ⟨_, rfl, hk⟩
  · obtain ⟨g', n, xs, q1, q2⟩ := hk.h
    exact ⟨_, by simp only [pAdd, q1]; rw [if_pos q2.p], q2.h⟩
  · exact hk.elim
def kfieldAddr (P : Program) (h : KH) (t : TypeId) (f : Nat) (x : SV) (K : SV → Prop) : Prop :=
  match P.underlying t with
  | some (.struct fields) => match fields[f]? with
    | some fd => match (P.underlying fd.type).isSome && !(Nat.beq (P.cellsOf fd.type) 0) with
      | true => kadd h fd.offset x K
      | false => False
    | none => False
  | _ => False
theorem kfieldAddr_sound {P : Program} {h : KH} {t : TypeId} {f : Nat} {x : SV} {K : SV → Prop} (hk : kfieldAddr P h t f x K) : ∃ r, pFieldAddr P h.flat t f x = some r ∧ K r := by
  unfold kfieldAddr at hk
  split at hk
  · rename_i hu
    split at hk
    · rename_i hf
      split at hk
      · rename_i hc
        obtain ⟨r, q1, q2⟩ := kadd_sound hk
        simp only [Bool.and_eq_true, Bool.not_eq_true'] at hc
        refine ⟨r, ?_, q2⟩
        simp only [pFieldAddr, hu, hf]
        rw [if_pos ⟨hc.1, fun h0 => by rw [h0] at hc; simp at hc⟩, q1]
      · exact hk.elim
    · exact hk.elim
  · exact hk.elim
def kindexAddr (P : Program) (h : KH) (t : TypeId) (x i : SV) (K : SV → Prop) : Prop :=
  match i with
  | .v (.int _ k) => match P.underlying t with
    | some (.array len e) => match (P.underlying e).isSome with
      | true => VReq (0 ≤ k ∧ k < len) (kadd h (k.toNat * P.cellsOf e) x K)
      | false => False
    | some (.slice e) => match (P.underlying e).isSome with
      | true => match x with
        | .list n _ xs => VReq (n = P.cellsOf e ∧ 0 ≤ k) (KGet xs k.toNat fun z => K (.ro z.cells))
        | .slc id g off len => KRow h id fun g' n xs => VReq (0 ≤ k ∧ k < len ∧ g = g' ∧ n = P.cellsOf e ∧ off + len ≤ xs.length) (K (.rptr id g (off + k.toNat) 0))
        | .bsl id off n len _ => VReq (0 ≤ k ∧ k < len ∧ n = P.cellsOf e) (K (.ptr id (off + k.toNat * n)))
        | _ => False
      | false => False
    | _ => False
  | _ => False
theorem kindexAddr_sound {P : Program} {h : KH} {t : TypeId} {x i : SV} {K : SV → Prop} (hk : kindexAddr P h t x i K) : ∃ r, pIndexAddr P h.flat t x i = some r ∧ K r := by
  unfold kindexAddr at hk
  split at hk
  · split at hk
    · rename_i hu
      split at hk
      · rename_i hs
        obtain ⟨r, q1, q2⟩ := kadd_sound hk.h
        refine ⟨r, ?_, q2⟩
        simp only [pIndexAddr, hu]
        rw [if_pos ⟨hk.p.1, hk.p.2, hs⟩, q1]
      · exact hk.elim
    · rename_i hu
      split at hk
      · rename_i hs
        split at hk
        · obtain ⟨z, q1, q2⟩ := hk.h.h
          refine ⟨_, ?_, q2⟩
          simp only [pIndexAddr, hu]
          rw [if_pos ⟨hk.p.2, hs⟩, if_pos hk.p.1, q1]
          rfl
        · obtain ⟨g', n, xs, q1, q2⟩ := hk.h
          refine ⟨_, ?_, q2.h⟩
          simp only [pIndexAddr, hu, q1]
          rw [if_pos ⟨q2.p.1, hs⟩, if_pos ⟨q2.p.2.2.1, q2.p.2.2.2.1, q2.p.2.1, q2.p.2.2.2.2⟩]
        · refine ⟨_, ?_, hk.h⟩
          simp only [pIndexAddr, hu]
          rw [if_pos ⟨hk.p.1, hs⟩, if_pos ⟨hk.p.2.2, hk.p.2.1⟩]
        · exact hk.elim
      · exact hk.elim
    · exact hk.elim
  · exact hk.elim
def kindex (P : Program) (t : TypeId) (x i : SV) (K : SV → Prop) : Prop :=
  match i with
  | .v (.int _ k) => match P.underlying t with
    | some .string => match x with
      | .v (.string s) => VReq (0 ≤ k ∧ k.toNat < s.size) (K (.v (.int .u8 ((s.data.getD k.toNat 0).toNat : Int))))
      | _ => False
    | some (.array len e) => match x with
      | .agg cs => match (P.underlying e).isSome with
        | true => VReq (0 ≤ k ∧ k < len) (kpart P e cs (k.toNat * P.cellsOf e) K)
        | false => False
      | _ => False
    | _ => False
  | _ => False
theorem kindex_sound {P : Program} {t : TypeId} {x i : SV} {K : SV → Prop} (hk : kindex P t x i K) : ∃ r, pIndex P t x i = some r ∧ K r := by
  unfold kindex at hk
  split at hk
  · rename_i kk k
    split at hk
    · rename_i hu
      split at hk
      · rename_i s
        refine ⟨_, ?_, hk.h⟩
        simp only [pIndex, hu]
        have h2 : k.toNat < s.size := hk.p.2
        rw [if_pos hk.p.1]
        have e1 : s[k.toNat]? = some (s[k.toNat]'h2) := by rw [getElem?_pos]
        rw [e1]
        have e2 : s.data.getD k.toNat 0 = s[k.toNat]'h2 := by
          have h3 : k.toNat < s.data.size := h2
          rw [Array.getD_eq_getD_getElem?, Array.getElem?_eq_getElem h3]; rfl
        rw [e2]
        rfl
      · exact hk.elim
    · rename_i hu
      split at hk
      · split at hk
        · rename_i hs
          obtain ⟨r, q1, q2⟩ := kpart_sound hk.h
          refine ⟨r, ?_, q2⟩
          simp only [pIndex, hu]
          rw [if_pos ⟨hk.p.1, hk.p.2, hs⟩, q1]
        · exact hk.elim
      · exact hk.elim
    · exact hk.elim
  · exact hk.elim
end Go.Vm

/- The virtual machine, part 14: the walk as a reckoning, second half; whole functions (kcalls). Generic: no program in sight. -/
set_option linter.unusedVariables false
set_option linter.unusedSimpArgs false
namespace Go.Vm
open Go.RowKit

/-! ### Cells of a value -/
def kcv (h : KH) (x : SV) (K : List SV → Prop) : Prop :=
  match x with
  | .agg cs => K cs
  | .v y => match y.oneCell' with | true => K [.v y] | false => False
  | .ptr i o => K [.ptr i o]
  | .ro cs => K [.ro cs]
  | .list n f xs => K [.list n f xs]
  | .fn f cs => K [.fn f cs]
  | .mapv i => K [.mapv i]
  | .bsl i o n l c => K [.bsl i o n l c]
  | .slc id g off len => KRow h id fun g' n xs => VReq (g' = g) (K [.slc id g off len])
  | .rptr id g i o => KRow h id fun g' n xs => VReq (g' = g) (K [.rptr id g i o])
  | _ => False
theorem kcv_sound {h : KH} {x : SV} {K : List SV → Prop} (hk : kcv h x K) : svValid h.flat x = true ∧ K x.cells := by
  unfold kcv at hk
  split at hk
  · exact ⟨rfl, hk⟩
  · split at hk
    · rename_i ho; exact ⟨ho, hk⟩
    · exact hk.elim
  · exact ⟨rfl, hk⟩
  · exact ⟨rfl, hk⟩
  · exact ⟨rfl, hk⟩
  · exact ⟨rfl, hk⟩
  · exact ⟨rfl, hk⟩
  · exact ⟨rfl, hk⟩
  · obtain ⟨g', n, xs, q1, q2⟩ := hk.h
    exact ⟨by simp only [svValid, q1]; simpa using q2.p, q2.h⟩
  · obtain ⟨g', n, xs, q1, q2⟩ := hk.h
    exact ⟨by simp only [svValid, q1]; simpa using q2.p, q2.h⟩
  · exact hk.elim
def kst (h : KH) (x : SV) (K : List SV → Prop) : Prop :=
  match x with
  | .agg cs => VReq (∀ c, c ∈ cs → svCell h.flat c = true) (K cs)
  | x => kcv h x K
theorem kst_sound {h : KH} {x : SV} {K : List SV → Prop} (hk : kst h x K) : svValid h.flat x = true ∧ (∀ c, c ∈ x.cells → svCell h.flat c = true) ∧ K x.cells := by
  cases x with
  | agg cs => exact ⟨rfl, hk.p, hk.h⟩
  | junk => exact hk.elim
  | tup cs => exact hk.elim
  | v y => have := kcv_sound (h := h) (x := .v y) (K := K) hk; exact ⟨this.1, fun c hc => by simp [SV.cells] at hc; subst hc; exact this.1, this.2⟩
  | ptr i o => have := kcv_sound (h := h) (x := .ptr i o) (K := K) hk; exact ⟨this.1, fun c hc => by simp [SV.cells] at hc; subst hc; exact this.1, this.2⟩
  | ro cs => have := kcv_sound (h := h) (x := .ro cs) (K := K) hk; exact ⟨this.1, fun c hc => by simp [SV.cells] at hc; subst hc; exact this.1, this.2⟩
  | list n f xs => have := kcv_sound (h := h) (x := .list n f xs) (K := K) hk; exact ⟨this.1, fun c hc => by simp [SV.cells] at hc; subst hc; exact this.1, this.2⟩
  | slc a b c d => have := kcv_sound (h := h) (x := .slc a b c d) (K := K) hk; exact ⟨this.1, fun c hc => by simp [SV.cells] at hc; subst hc; exact this.1, this.2⟩
  | rptr a b c d => have := kcv_sound (h := h) (x := .rptr a b c d) (K := K) hk; exact ⟨this.1, fun c hc => by simp [SV.cells] at hc; subst hc; exact this.1, this.2⟩
  | fn a b => have := kcv_sound (h := h) (x := .fn a b) (K := K) hk; exact ⟨this.1, fun c hc => by simp [SV.cells] at hc; subst hc; exact this.1, this.2⟩
  | mapv a => have := kcv_sound (h := h) (x := .mapv a) (K := K) hk; exact ⟨this.1, fun c hc => by simp [SV.cells] at hc; subst hc; exact this.1, this.2⟩
  | bsl a b c d e => have := kcv_sound (h := h) (x := .bsl a b c d e) (K := K) hk; exact ⟨this.1, fun c hc => by simp [SV.cells] at hc; subst hc; exact this.1, this.2⟩

/-! ### Slices -/
def kbnd (top : Nat) (x : SV) (K : Nat → Prop) : Prop :=
  match x with
  | .v (.int _ k) => VReq (0 ≤ k ∧ k ≤ top) (K k.toNat)
  | _ => False
theorem kbnd_sound {top : Nat} {x : SV} {K : Nat → Prop} (hk : kbnd top x K) : ∃ n, pBnd top x = some n ∧ K n := by
  unfold kbnd at hk
  split at hk
  · exact ⟨_, by simp only [pBnd]; rw [if_pos hk.p], hk.h⟩
  · exact hk.elim
def kbounds (len cap : Nat) (lo hi mx : Option SV) (K : Nat → Nat → Nat → Prop) : Prop :=
  (match mx with | none => fun (k : Nat → Prop) => k cap | some x => kbnd cap x) fun m =>
    (match hi with | none => fun (k : Nat → Prop) => (match mx with | none => VReq (len ≤ m) (k len) | some _ => False) | some x => kbnd m x) fun h =>
      (match lo with | none => fun (k : Nat → Prop) => k 0 | some x => kbnd h x) fun l => K l h m
theorem kbounds_sound {len cap : Nat} {lo hi mx : Option SV} {K : Nat → Nat → Nat → Prop} (hk : kbounds len cap lo hi mx K) : ∃ l h m, pBounds len cap lo hi mx = some (l, h, m) ∧ K l h m := by
  unfold kbounds at hk
  have h1 : ∃ m, (match mx with | none => some cap | some x => pBnd cap x) = some m ∧ (match hi with | none => fun (k : Nat → Prop) => (match mx with | none => VReq (len ≤ m) (k len) | some _ => False) | some x => kbnd m x) fun h =>
      (match lo with | none => fun (k : Nat → Prop) => k 0 | some x => kbnd h x) fun l => K l h m := by
    cases mx with
    | none => exact ⟨cap, rfl, hk⟩
    | some x => exact kbnd_sound hk
  obtain ⟨m, e1, h1⟩ := h1
  have h2 : ∃ h, (match hi with | none => (if mx.isNone ∧ len ≤ m then some len else none) | some x => pBnd m x) = some h ∧ (match lo with | none => fun (k : Nat → Prop) => k 0 | some x => kbnd h x) fun l => K l h m := by
    cases hi with
    | none =>
      cases mx with
      | none => exact ⟨len, by simp only [Option.isNone_none, true_and]; rw [if_pos h1.p], h1.h⟩
      | some x => exact h1.elim
    | some x => exact kbnd_sound h1
  obtain ⟨h, e2, h2⟩ := h2
  have h3 : ∃ l, (match lo with | none => some 0 | some x => pBnd h x) = some l ∧ K l h m := by
    cases lo with
    | none => exact ⟨0, rfl, h2⟩
    | some x => exact kbnd_sound h2
  obtain ⟨l, e3, h3⟩ := h3
  exact ⟨l, h, m, by unfold pBounds; cases mx <;> cases hi <;> cases lo <;> simp_all <;> (have hle : h ≤ m := by omega) <;> simp_all, h3⟩
def ksliceA (n size : Nat) (x : SV) (lo hi mx : Option SV) (K : SV → Prop) : Prop :=
  match x with
  | .ptr id off => kbounds n n lo hi mx fun l h m => K (.bsl id (off + l * size) size (h - l) (m - l))
  | _ => False
theorem ksliceA_sound {n size : Nat} {x : SV} {lo hi mx : Option SV} {K : SV → Prop} (hk : ksliceA n size x lo hi mx K) : ∃ r, pSliceA n size x lo hi mx = some r ∧ K r := by
  unfold ksliceA at hk
  split at hk
  · obtain ⟨l, h, m, q1, q2⟩ := kbounds_sound hk
    exact ⟨_, by simp only [pSliceA, q1], q2⟩
  · exact hk.elim
def kslice (P : Program) (h : KH) (t : TypeId) (x : SV) (lo hi mx : Option SV) (K : SV → Prop) : Prop :=
  match P.underlying t with
  | some .string => match x with
    | .v (.string s) => match mx with
      | none => kbounds s.size s.size lo hi none fun l hh m => K (.v (.string (s.extract l hh)))
      | some _ => False
    | _ => False
  | some (.slice e) => match (P.underlying e).isSome with
    | true => match x with
      | .list n f xs => VReq (n = P.cellsOf e) (kbounds xs.length xs.length lo hi mx fun l hh m => K (.list n ((mx.isSome && m == hh) || (mx.isNone && f && hh == xs.length)) ((xs.drop l).take (hh - l))))
      | .slc id g off len => KRow h id fun g' n' xs => VReq (g = g' ∧ n' = P.cellsOf e ∧ off + len ≤ xs.length) (kbounds len len lo hi mx fun l hh m => K (.slc id g (off + l) (hh - l)))
      | .bsl id off n' len cap => VReq (n' = P.cellsOf e) (kbounds len cap lo hi mx fun l hh m => K (.bsl id (off + l * n') n' (hh - l) (m - l)))
      | .v (.slice none 0 0) => kbounds 0 0 lo hi mx fun l hh m => K (.v (.slice none 0 0))
      | _ => False
    | false => False
  | some (.array n e) => match (P.underlying e).isSome with
    | true => ksliceA n (P.cellsOf e) x lo hi mx K
    | false => False
  | some (.pointer arr) => match P.underlying arr with
    | some (.array n e) => match (P.underlying e).isSome with
      | true => ksliceA n (P.cellsOf e) x lo hi mx K
      | false => False
    | _ => False
  | _ => False
theorem kslice_sound {P : Program} {h : KH} {t : TypeId} {x : SV} {lo hi mx : Option SV} {K : SV → Prop} (hk : kslice P h t x lo hi mx K) : ∃ r, pSlice P h.flat t x lo hi mx = some r ∧ K r := by
  unfold kslice at hk
  split at hk
  · rename_i hu
    split at hk
    · split at hk
      · obtain ⟨l, hh, m, q1, q2⟩ := kbounds_sound hk
        exact ⟨_, by simp only [pSlice, hu, q1], q2⟩
      · exact hk.elim
    · exact hk.elim
  · rename_i hu
    split at hk
    · rename_i hs
      split at hk
      · obtain ⟨l, hh, m, q1, q2⟩ := kbounds_sound hk.h
        refine ⟨_, ?_, q2⟩
        have := hk.p
        subst this
        simp only [pSlice, hu, hs, if_true, pSliceS, q1]
      · obtain ⟨g', n', xs, p1, p2⟩ := hk.h
        obtain ⟨l, hh, m, q1, q2⟩ := kbounds_sound p2.h
        refine ⟨_, ?_, q2⟩
        simp only [pSlice, hu, hs, if_true, pSliceS, p1]
        rw [if_pos p2.p, q1]
      · obtain ⟨l, hh, m, q1, q2⟩ := kbounds_sound hk.h
        refine ⟨_, ?_, q2⟩
        have := hk.p
        subst this
        simp only [pSlice, hu, hs, if_true, pSliceS, q1]
      · obtain ⟨l, hh, m, q1, q2⟩ := kbounds_sound hk
        exact ⟨_, by simp only [pSlice, hu, hs, if_true, pSliceS, q1], q2⟩
      · exact hk.elim
    · exact hk.elim
  · rename_i hu
    split at hk
    · rename_i hs
      obtain ⟨r, q1, q2⟩ := ksliceA_sound hk
      exact ⟨r, by simp only [pSlice, hu, hs, if_true, q1], q2⟩
    · exact hk.elim
  · rename_i hu
    split at hk
    · rename_i hu2
      split at hk
      · rename_i hs
        obtain ⟨r, q1, q2⟩ := ksliceA_sound hk
        exact ⟨r, by simp only [pSlice, hu, hu2, hs, if_true, q1], q2⟩
      · exact hk.elim
    · exact hk.elim
  · exact hk.elim

/-! ### Literals -/
def kfill (h : KH) (place : Nat → Option (Nat × Nat)) : List SV → List (Nat × SV) → (List SV → Prop) → Prop
  | cells, [], K => K cells
  | cells, (i, x) :: rest, K => match place i with
    | none => False
    | some (off, size) => kcv h x fun vs => VReq (vs.length = size ∧ off + size ≤ cells.length) (kfill h place (lput cells off vs) rest K)
theorem kfill_sound {h : KH} {place : Nat → Option (Nat × Nat)} : ∀ (ps : List (Nat × SV)) (cells : List SV) (K : List SV → Prop), kfill h place cells ps K → ∃ r, vfill h.flat place cells ps = some r ∧ K r
  | [], cells, K, hk => ⟨cells, rfl, hk⟩
  | (i, x) :: ps, cells, K, hk => by
    simp only [kfill] at hk
    split at hk
    · exact hk.elim
    · rename_i off size hp
      obtain ⟨q1, q2⟩ := kcv_sound hk
      obtain ⟨r, p1, p2⟩ := kfill_sound ps _ K q2.h
      refine ⟨r, ?_, p2⟩
      simp only [vfill, hp]
      rw [if_pos ⟨q1, q2.p.1, q2.p.2⟩, p1]
def kbuild (P : Program) (h : KH) (t : TypeId) (ps : List (Nat × SV)) (K : SV → Prop) : Prop :=
  match P.underlying t with
  | some (.struct _) => match zcells P t with
    | some z => match placesOf P t with
      | some pl => kfill h (fun i => pl[i]?) z ps fun cs => K (.agg cs)
      | none => False
    | none => False
  | some (.array _ e) => match zcells P t with
    | some z => match (P.underlying e).isSome with
      | true => kfill h (fun i => some (i * P.cellsOf e, P.cellsOf e)) z ps fun cs => K (.agg cs)
      | false => False
    | none => False
  | _ => False
theorem kbuild_sound {P : Program} {h : KH} {t : TypeId} {ps : List (Nat × SV)} {K : SV → Prop} (hk : kbuild P h t ps K) : ∃ r, pBuild P h.flat t ps = some r ∧ K r := by
  unfold kbuild at hk
  split at hk
  · rename_i hu
    split at hk
    · rename_i hz
      split at hk
      · rename_i hp
        obtain ⟨cs, q1, q2⟩ := kfill_sound _ _ _ hk
        exact ⟨_, by simp only [pBuild, hu, hz, hp, q1], q2⟩
      · exact hk.elim
    · exact hk.elim
  · rename_i hu
    split at hk
    · rename_i hz
      split at hk
      · rename_i hs
        obtain ⟨cs, q1, q2⟩ := kfill_sound _ _ _ hk
        exact ⟨_, by simp only [pBuild, hu, hz, hs, if_true, q1], q2⟩
      · exact hk.elim
    · exact hk.elim
  · exact hk.elim
def kall (h : KH) (n : Nat) : List (Nat × SV) → Prop → Prop
  | [], K => K
  | (_, x) :: r, K => kcv h x fun vs => VReq (vs.length = n) (kall h n r K)
theorem kall_sound {h : KH} {n : Nat} : ∀ (ps : List (Nat × SV)) (K : Prop), kall h n ps K → (∀ p, p ∈ ps → svValid h.flat p.2 = true ∧ p.2.cells.length = n) ∧ K
  | [], K, hk => ⟨fun p hp => (by cases hp), hk⟩
  | (i, x) :: ps, K, hk => by
    obtain ⟨q1, q2⟩ := kcv_sound hk
    obtain ⟨p1, p2⟩ := kall_sound ps K q2.h
    refine ⟨fun p hp => ?_, p2⟩
    rcases List.mem_cons.1 hp with rfl | hp
    · exact ⟨q1, q2.p⟩
    · exact p1 p hp
def kbuildSlice (P : Program) (h : KH) (t : TypeId) (len : Nat) (ps : List (Nat × SV)) (K : SV → Prop) : Prop :=
  match P.underlying t with
  | some (.slice e) => match zcells P e with
    | some z => match ordered 0 ps && Nat.beq ps.length len && Nat.ble 0 len && Nat.ble (len * P.cellsOf e) 16777216 && Nat.ble 1 (P.cellsOf e) && Nat.beq z.length (P.cellsOf e) && (P.underlying e).isSome with
      | true => kall h (P.cellsOf e) ps (K (.list (P.cellsOf e) true (ps.map (·.2))))
      | false => False
    | none => False
  | _ => False
theorem kbuildSlice_sound {P : Program} {h : KH} {t : TypeId} {len : Nat} {ps : List (Nat × SV)} {K : SV → Prop} (hk : kbuildSlice P h t len ps K) : ∃ r, pBuildSlice P h.flat t len ps = some r ∧ K r := by
  unfold kbuildSlice at hk
  split at hk
  · rename_i hu
    split at hk
    · rename_i hz
      split at hk
      · rename_i hc
        obtain ⟨q1, q2⟩ := kall_sound _ _ hk
        simp only [Bool.and_eq_true, Nat.beq_eq, Nat.ble_eq] at hc
        obtain ⟨⟨⟨⟨⟨⟨c1, c2⟩, c3⟩, c4⟩, c5⟩, c6⟩, c7⟩ := hc
        refine ⟨_, ?_, q2⟩
        simp only [pBuildSlice, hu, hz]
        rw [if_pos ⟨c1, c2, c3, c4, c5, c6, c7, q1⟩]
      · exact hk.elim
    · exact hk.elim
  · exact hk.elim

/-! ### Builtins, conversions -/
def klen (P : Program) (h : KH) (t : TypeId) (x : SV) (K : SV → Prop) : Prop :=
  match P.underlying t with
  | some .string => match x with
    | .v (.string s) => K (.v (.int .i64 s.size))
    | _ => False
  | some (.array n _) => K (.v (.int .i64 n))
  | some (.slice _) => match x with
    | .list _ _ xs => K (.v (.int .i64 xs.length))
    | .slc id g off len => KRow h id fun g' _ _ => VReq (g' = g) (K (.v (.int .i64 len)))
    | .bsl _ _ _ len _ => K (.v (.int .i64 len))
    | .v (.slice none 0 0) => K (.v (.int .i64 0))
    | _ => False
  | some (.map _ _) => match x with
    | .v (.map none) => K (.v (.int .i64 0))
    | .mapv id => KMap h id fun es => K (.v (.int .i64 es.length))
    | _ => False
  | _ => False
theorem klen_sound {P : Program} {h : KH} {t : TypeId} {x : SV} {K : SV → Prop} (hk : klen P h t x K) : ∃ r, pLen P h.flat t x = some r ∧ K r := by
  unfold klen at hk
  split at hk
  · rename_i hu
    split at hk
    · exact ⟨_, by simp only [pLen, hu], hk⟩
    · exact hk.elim
  · rename_i hu
    exact ⟨_, by simp only [pLen, hu], hk⟩
  · rename_i hu
    split at hk
    · exact ⟨_, by simp only [pLen, hu], hk⟩
    · obtain ⟨g', n, xs, q1, q2⟩ := hk.h
      exact ⟨_, by simp only [pLen, hu, q1]; rw [if_pos q2.p], q2.h⟩
    · exact ⟨_, by simp only [pLen, hu], hk⟩
    · exact ⟨_, by simp only [pLen, hu], hk⟩
    · exact hk.elim
  · rename_i hu
    split at hk
    · exact ⟨_, by simp only [pLen, hu], hk⟩
    · obtain ⟨es, q1, q2⟩ := hk.h
      exact ⟨_, by simp only [pLen, hu, q1], q2⟩
    · exact hk.elim
  · exact hk.elim
def kmm (mx : Bool) : SV → List SV → (SV → Prop) → Prop
  | x, [], K => K x
  | .v (.int k a), .v (.int k' b) :: rest, K => match kindEq k' k with
    | true => match mx with
      | true => kmm true (.v (.int k (max a b))) rest K
      | false => kmm false (.v (.int k (min a b))) rest K
    | false => False
  | _, _, _ => False
theorem kmm_sound : ∀ (xs : List SV) (mx : Bool) (x : SV) (K : SV → Prop), kmm mx x xs K → ∃ r, pMM mx x xs = some r ∧ K r
  | [], mx, x, K, hk => ⟨x, by cases x <;> rfl, by unfold kmm at hk; exact hk⟩
  | y :: rest, mx, x, K, hk => by
    unfold kmm at hk
    split at hk
    · rename_i heq; cases heq
    · rename_i k a k' b rest' heq
      cases heq
      split at hk
      · rename_i hkk
        obtain rfl := kindEq_eq hkk
        cases mx
        · obtain ⟨r, q1, q2⟩ := kmm_sound rest false _ _ hk
          exact ⟨r, by simp only [pMM, if_true, Bool.false_eq_true, if_false, q1], q2⟩
        · obtain ⟨r, q1, q2⟩ := kmm_sound rest true _ _ hk
          exact ⟨r, by simp only [pMM, if_true, q1], q2⟩
      · exact hk.elim
    · exact hk.elim
def kread (h : KH) (x : SV) (K : Nat → List SV → Prop) : Prop :=
  match x with
  | .list n _ xs => K n xs
  | .slc id g off len => KRow h id fun g' n xs => VReq (g = g' ∧ off + len ≤ xs.length) (K n ((xs.drop off).take len))
  | .bsl id off n len _ => KBox h id fun cs => VReq (n = 1 ∧ off + len ≤ cs.length ∧ ∀ z, z ∈ (cs.drop off).take len → z.isCell = true) (K 1 ((cs.drop off).take len))
  | _ => False
theorem kread_sound {h : KH} {x : SV} {K : Nat → List SV → Prop} (hk : kread h x K) : ∃ n xs, vread h.flat x = some (n, xs) ∧ K n xs := by
  unfold kread at hk
  split at hk
  · exact ⟨_, _, rfl, hk⟩
  · obtain ⟨g', n, xs, q1, q2⟩ := hk.h
    exact ⟨_, _, by simp only [vread, q1]; rw [if_pos q2.p], q2.h⟩
  · obtain ⟨cs, q1, q2⟩ := hk.h
    exact ⟨_, _, by simp only [vread, q1]; rw [if_pos q2.p], q2.h⟩
  · exact hk.elim
structure KBytes (xs : List SV) (K : List UInt8 → Prop) : Prop where
  h : ∃ l : List UInt8, xs = l.map byteSV ∧ K l
def kconv (P : Program) (h : KH) (src dst : TypeId) (x : SV) (K : SV → Prop) : Prop :=
  match P.underlying src with
  | none => False
  | some d => match P.underlying dst with
    | some (.int k) => match d with
      | .slice _ => False
      | _ => match x with
        | .v (.int _ n) => K (.v (.int k (k.wrap n)))
        | _ => False
    | some .string => match d with
      | .slice e => match P.underlying e with
        | some (.int .u8) => match x with
          | .v (.slice none 0 0) => K (.v (.string .empty))
          | x => kread h x fun n xs => VReq (n = 1) (KBytes xs fun l => K (.v (.string ⟨l.toArray⟩)))
        | _ => False
      | _ => match x with
        | .v (.string s) => K (.v (.string s))
        | _ => False
    | _ => False
theorem kconv_sound {P : Program} {h : KH} {src dst : TypeId} {x : SV} {K : SV → Prop} (hk : kconv P h src dst x K) : ∃ r, pConv P h.flat src dst x = some r ∧ K r := by
  unfold kconv at hk
  split at hk
  · exact hk.elim
  · rename_i d hs
    split at hk
    · rename_i k hd
      split at hk
      · exact hk.elim
      · split at hk
        · exact ⟨_, by simp only [pConv, hs, hd], hk⟩
        · exact hk.elim
    · rename_i hd
      split at hk
      · rename_i e
        split at hk
        · rename_i he
          split at hk
          · exact ⟨_, by simp only [pConv, hs, hd, pConvBytes, he], hk⟩
          · rename_i hx
            obtain ⟨n, xs, q1, q2⟩ := kread_sound hk
            obtain ⟨l, p1, p2⟩ := q2.h.h
            have hn := q2.p
            subst hn p1
            refine ⟨_, ?_, p2⟩
            simp only [pConv, hs, hd, pConvBytes, he, q1, svBytes_map, Option.map_some]
        · exact hk.elim
      · split at hk
        · exact ⟨_, by simp only [pConv, hs, hd], hk⟩
        · exact hk.elim
    · exact hk.elim
end Go.Vm
