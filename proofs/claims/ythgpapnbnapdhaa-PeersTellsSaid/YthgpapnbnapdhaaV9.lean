/- The virtual machine, part 9: all that only computes, together (stepF); stores into memory. Generic: no program in sight. -/
import Derived.Test.YthgpapnbnapdhaaV8
import Derived.Laws.Rows
set_option linter.unusedVariables false
set_option linter.unusedSimpArgs false
namespace Go.Vm
open Go.RowKit

/-- The world grows: nothing that was there has turned. -/
structure Grows (w w' : World) : Prop where
  like : Like w w'
  size : w.heap.size ≤ w'.heap.size
  keep : ∀ b, b < w.heap.size → w'.heap[b]? = w.heap[b]?
theorem Grows.refl (w : World) : Grows w w := ⟨Like.refl w, Nat.le_refl _, fun _ _ => rfl⟩
theorem Grows.ext {R : Env} (h : HRep R) {w' : World} (g : Grows R.w w') : Ext R { R with w := w' } := Ext.world h g.like g.size g.keep
theorem Grows.rep {R : Env} (h : HRep R) {w' : World} (g : Grows R.w w') : HRep { R with w := w' } := HRep.world h g.like g.size g.keep
theorem Grows.alloc (w : World) (o : Obj) : Grows w (w.alloc o) :=
  ⟨⟨rfl, rfl, rfl⟩, by simp, fun b hb => Below.heap_alloc w o b hb⟩
theorem Grows.drew (w : World) : Grows w w.drew := ⟨⟨rfl, rfl, rfl⟩, Nat.le_refl _, fun _ _ => rfl⟩
theorem Grows.trans {a b c : World} (h : Grows a b) (k : Grows b c) : Grows a c :=
  ⟨h.like.trans k.like, Nat.le_trans h.size k.size, fun i hi => (k.keep i (Nat.lt_of_lt_of_le hi h.size)).trans (h.keep i hi)⟩
def FSnd (P : Program) (R : Env) (s : Sem Next) (r : SV) : Prop := ∃ v w', s.run P R.w = .ok (.value v) w' ∧ Grows R.w w' ∧ Rep { R with w := w' } r v
theorem FSnd.of {P : Program} {R : Env} {s : Sem Value} {r : SV} (h : Snd P R s r) : FSnd P R (do pure (.value (← s))) r := by
  obtain ⟨v, h1, h2⟩ := h
  exact ⟨v, R.w, by simp only [Sem.run_bind, h1, Result.andThen_ok, Sem.run_pure], Grows.refl _, h2⟩

/-! ### A slice literal -/
def ordered : Nat → List (Nat × SV) → Bool
  | _, [] => true
  | k, (i, _) :: r => i == k && ordered (k + 1) r
def pBuildSlice (P : Program) (H : List VB) (t : TypeId) (len : Nat) (ps : List (Nat × SV)) : Option SV :=
  match P.underlying t with
  | some (.slice e) => match zcells P e with
    | some z => if ordered 0 ps = true ∧ ps.length = len ∧ 1 ≤ len ∧ len * P.cellsOf e ≤ 16777216 ∧ 1 ≤ P.cellsOf e ∧ z.length = P.cellsOf e ∧ (P.underlying e).isSome ∧ (∀ p, p ∈ ps → svValid H p.2 = true ∧ p.2.cells.length = P.cellsOf e) then
        some (.list (P.cellsOf e) true (ps.map (·.2))) else none
    | none => none
  | _ => none
theorem ordered_get : ∀ (ps : List (Nat × SV)) (k : Nat), ordered k ps = true → ∀ (i : Nat) (hi : i < ps.length), ps[i].1 = k + i
  | [], k, _, i, hi => by cases hi
  | (j, x) :: r, k, h, i, hi => by
    simp only [ordered, Bool.and_eq_true, beq_iff_eq] at h
    cases i with
    | zero => exact h.1
    | succ i =>
      have := ordered_get r (k + 1) h.2 i (by simpa using hi)
      simp only [List.getElem_cons_succ]
      omega
theorem fill_flat {H : List VB} {n : Nat} : ∀ (ps : List (Nat × SV)) (k : Nat) (pre rest : List SV), ordered k ps = true → (∀ p, p ∈ ps → svValid H p.2 = true ∧ p.2.cells.length = n) → pre.length = k * n → rest.length = ps.length * n →
    vfill H (fun i => some (i * n, n)) (pre ++ rest) ps = some (pre ++ (ps.map (·.2)).flatMap SV.cells)
  | [], k, pre, rest, _, _, _, hr => by
    have : rest = [] := List.eq_nil_of_length_eq_zero (by simpa using hr)
    simp [vfill, this]
  | (j, x) :: r, k, pre, rest, ho, hv, hp, hr => by
    simp only [ordered, Bool.and_eq_true, beq_iff_eq] at ho
    obtain ⟨rfl, ho⟩ := ho
    obtain ⟨hv1, hv2⟩ := hv (j, x) (by simp)
    simp only at hv1 hv2
    have hrl : rest.length = n + r.length * n := by rw [hr, List.length_cons, Nat.add_mul, Nat.one_mul, Nat.add_comm]
    simp only [vfill]
    rw [if_pos ⟨hv1, hv2, by rw [List.length_append]; omega⟩]
    have e : lput (pre ++ rest) (j * n) x.cells = (pre ++ x.cells) ++ rest.drop n := by
      unfold lput
      rw [← hp, List.take_left, hv2, ← List.drop_drop, List.drop_left]
    rw [e, fill_flat r (j + 1) (pre ++ x.cells) (rest.drop n) ho (fun p hp => hv p (by simp [hp])) (by simp [hp, hv2, Nat.add_mul]) (by simp; omega)]
    simp
theorem flat_length {n : Nat} : ∀ (xs : List SV), (∀ x, x ∈ xs → x.cells.length = n) → (xs.flatMap SV.cells).length = xs.length * n
  | [], _ => by simp
  | x :: xs, h => by
    simp only [List.flatMap_cons, List.length_append, flat_length xs (fun y hy => h y (by simp [hy])), h x (by simp), List.length_cons, Nat.add_mul, Nat.one_mul, Nat.add_comm]
theorem flat_get {n : Nat} : ∀ (xs : List SV), (∀ x, x ∈ xs → x.cells.length = n) → ∀ (i : Nat) (hi : i < xs.length) (j : Nat) (hj : j < xs[i].cells.length), (xs.flatMap SV.cells)[i * n + j]? = some (xs[i].cells[j])
  | [], _, i, hi, _, _ => by cases hi
  | x :: xs, h, i, hi, j, hj => by
    have hx := h x (by simp)
    simp only [List.flatMap_cons]
    cases i with
    | zero =>
      simp only [List.getElem_cons_zero] at hj ⊢
      rw [Nat.zero_mul, Nat.zero_add, List.getElem?_append_left hj, List.getElem?_eq_getElem hj]
    | succ i =>
      simp only [List.getElem_cons_succ] at hj ⊢
      rw [List.getElem?_append_right (by rw [hx, Nat.add_mul, Nat.one_mul]; omega), hx, show (i + 1) * n + j - n = i * n + j by rw [Nat.add_mul, Nat.one_mul]; omega]
      exact flat_get xs (fun y hy => h y (by simp [hy])) i (by simpa using hi) j hj
/-- Cells that are laid in a new block, as an immutable list. -/
theorem list_new {R : Env} (h : HRep R) {n : Nat} {xs : List SV} {arr : Array Value} (hn : ∀ x, x ∈ xs → x.cells.length = n) (hc : CellsR R (xs.flatMap SV.cells) arr) (e : TypeId) :
    Rep { R with w := R.w.alloc (.cells arr e) } (.list n true xs) (.slice (some ⟨R.w.heap.size, 0, none⟩) xs.length xs.length) := by
  have g := Grows.alloc R.w (.cells arr e)
  have ex := g.ext h
  have hsz : arr.size = xs.length * n := by rw [hc.1, flat_length xs hn]
  refine .list n true xs _ _ (fun j => arr.getD j undef) (Nat.le_refl _) (fun _ => rfl) hn (.inr ⟨R.w.heap.size, 0, rfl, ⟨by simp, fun id a hl hr hb => ?_⟩, fun j hj => ?_⟩) fun i hi j hj => ?_
  · have := (h.addr id a hl hr).2
    omega
  · rw [Nat.zero_add, cellAt_of_block (heap_alloc_new R.w (.cells arr e)), Array.getElem?_eq_getElem (by omega), Array.getD_eq_getD_getElem?, Array.getElem?_eq_getElem (by omega)]
    rfl
  · have hf := flat_get xs hn i hi j hj
    have hlt := lt_of_some hf
    rw [List.getElem?_eq_getElem hlt] at hf
    injection hf with hf
    have := hc.2 _ hlt (by rw [hc.1]; exact hlt)
    rw [hf] at this
    have h2 := this.mono ex
    rw [Array.getD_eq_getD_getElem?, Array.getElem?_eq_getElem (by rw [hc.1]; exact hlt)]
    exact h2
theorem pBuildSlice_sound {P : Program} {R : Env} (hR : HRep R) {t : TypeId} {len : Nat} {ps : List (Nat × SV)} {vs : Array (Nat × Value)} {r : SV} (h : pBuildSlice P R.H t len ps = some r) (hp : PartsR R ps vs.toList) :
    FSnd P R (do pure (.value (← Instr.buildSlice t len vs))) r := by
  unfold pBuildSlice at h
  split at h
  · rename_i e hu
    split at h
    · rename_i z hz
      split at h
      · rename_i hc
        obtain ⟨c1, c2, c3, c4, c5, c6, c7, c8⟩ := hc
        cases h
        obtain ⟨d, hd⟩ := Option.isSome_iff_exists.1 c7
        obtain ⟨zv, hzv, hzc⟩ := zcells_sound (R := R) hz
        have hpos : 1 ≤ len * P.cellsOf e := Nat.mul_pos c3 c5
        have hzs : zv.cells.size = P.cellsOf e := by rw [hzc.1]; exact c6
        have hfill := fill_flat (H := R.H) (n := P.cellsOf e) ps 0 [] (List.replicate (len * P.cellsOf e) .junk) c1 c8 (by simp) (by simp [c2])
        simp only [List.nil_append] at hfill
        have hcj : CellsR R (List.replicate (len * P.cellsOf e) SV.junk) ((Array.range (len * P.cellsOf e)).map (zv.cells[· % zv.cells.size]!)) :=
          ⟨by simp, fun i hi hj => by simp only [List.getElem_replicate]; exact .junk _⟩
        obtain ⟨arr, q1, q2⟩ := vfill_sound _ _ _ _ _ hfill hcj hp
        have hn : ∀ x, x ∈ ps.map (·.2) → x.cells.length = P.cellsOf e := by
          intro x hx
          obtain ⟨p, hp1, rfl⟩ := List.mem_map.1 hx
          exact (c8 p hp1).2
        have hl := list_new hR hn q2 e
        simp only [List.length_map, c2] at hl
        refine ⟨_, _, ?_, Grows.alloc R.w (.cells arr e), hl⟩
        have e1 : ¬ (len * P.cellsOf e > 2 ^ 24) := by simp; omega
        have e2 : ¬ (len * P.cellsOf e = 0) := by omega
        simp only [Instr.buildSlice, Sem.run_bind, run_underlying hu, Result.andThen_ok, run_sizeOf hd, e1, e2, if_false, hzv, Sem.run_pure, q1, newRow, run_newObj, pure_bind]
        rfl
      · cases h
    · cases h
  · cases h

/-! ### All that only computes -/
def pExtract (i : Nat) : SV → Option SV
  | .tup cs => cs[i]?
  | _ => none
theorem pExtract_sound {P : Program} {R : Env} {i : Nat} {x r : SV} {a : Value} (h : pExtract i x = some r) (ha : Rep R x a) : Snd P R (Instr.extract a i) r := by
  unfold pExtract at h
  split at h
  · cases ha with
    | tup cs arr hl hh =>
      have hlt := lt_of_some h
      rw [List.getElem?_eq_getElem hlt] at h
      cases h
      refine ⟨arr[i]'(by omega), ?_, hh i hlt (by omega)⟩
      simp only [Instr.extract, Array.getElem?_eq_getElem (show i < arr.size by omega)]
      rfl
  · cases h
def pNil (H : List VB) : SV → Option SV
  | .ptr id off => some (.ptr id off)
  | .ro cs => some (.ro cs)
  | .rptr id g i o => if svValid H (.rptr id g i o) then some (.rptr id g i o) else none
  | .fn f cs => some (.fn f cs)
  | _ => none
def evParts (ρ : Operand → SV) (ps : Array (Nat × Operand)) : List (Nat × SV) := ps.toList.map fun (i, x) => (i, ρ x)
def stepF (P : Program) (o : Oper) (ρ : Operand → SV) (H : List VB) : Option SV :=
  match o.op with
  | .move x => some (ρ x)
  | .assign x => some (ρ x)
  | .pick c a b => match ρ c with
    | .v (.bool t) => if t = true then some (ρ a) else some (ρ b)
    | _ => none
  | .load t a => vload P H t (ρ a)
  | .nilCheck x => pNil H (ρ x)
  | .binOp op t x y _ => pBin P op t (ρ x) (ρ y)
  | .unOp op _ x => pUn op (ρ x)
  | .convert s d x => pConv P H s d (ρ x)
  | .makeFunc (.func f) first captured => if first.size = 0 then some (.fn f (captured.toList.map ρ)) else none
  | .slice t x lo hi mx => pSlice P H t (ρ x) (lo.map ρ) (hi.map ρ) (mx.map ρ)
  | .fieldAddr t x f => pFieldAddr P H t f (ρ x)
  | .field t x f => pField P t f (ρ x)
  | .indexAddr t x i => pIndexAddr P H t (ρ x) (ρ i)
  | .index t x i => pIndex P t (ρ x) (ρ i)
  | .build t ps => pBuild P H t (evParts ρ ps)
  | .buildSlice t len ps => pBuildSlice P H t len (evParts ρ ps)
  | .extract t i => pExtract i (ρ t)
  | .call c => match c.callee, c.args.toList.map ρ with
    | .builtin .len, [x] => match c.argTypes[0]? with
      | some t => pLen P H t x
      | none => none
    | .builtin .max, x :: xs => pMM true x xs
    | .builtin .min, x :: xs => pMM false x xs
    | _, _ => none
  | _ => none
def RepF (R : Env) (ρ : Operand → SV) (σ : Operand → Value) : Prop := ∀ x, Rep R (ρ x) (σ x)
theorem evParts_rep {R : Env} {ρ : Operand → SV} {σ : Operand → Value} (h : RepF R ρ σ) (ps : Array (Nat × Operand)) : PartsR R (evParts ρ ps) (ps.map fun (i, x) => (i, σ x)).toList := by
  refine ⟨by simp [evParts], fun i hi hj => ?_⟩
  simp only [evParts, List.getElem_map, Array.toList_map]
  exact ⟨trivial, h _⟩
theorem RepO.map {R : Env} {ρ : Operand → SV} {σ : Operand → Value} (h : RepF R ρ σ) (x : Option Operand) : RepO R (x.map ρ) (x.map σ) := by
  cases x with
  | none => trivial
  | some x => exact h x
theorem stepF_sound {P : Program} {R : Env} (hR : HRep R) {o : Oper} {ρ : Operand → SV} {σ : Operand → Value} {r : SV} (h : stepF P o ρ R.H = some r) (hr : RepF R ρ σ) : FSnd P R (execOp σ o) r := by
  obtain ⟨dst, op, type, pos, after, guard⟩ := o
  have pureF : ∀ (v : Value), Rep R r v → FSnd P R (pure (.value v)) r := fun v hv => ⟨v, R.w, rfl, Grows.refl _, hv⟩
  cases op with
  | move x => cases h; exact pureF _ (hr x)
  | assign x => cases h; exact pureF _ (hr x)
  | pick c a b =>
    simp only [stepF] at h
    split at h
    · rename_i t ht
      have hc := hr c
      rw [ht] at hc
      have hc' := rep_v.1 hc
      have hrun : ∀ y, Rep R r y → (if t then σ a else σ b) = y → FSnd P R (execOp σ ⟨dst, .pick c a b, type, pos, after, guard⟩) r := fun y hy e => by
        refine ⟨y, R.w, ?_, Grows.refl _, hy⟩
        simp only [execOp, hc', asBool, Sem.run_bind, Sem.run_pure, Result.andThen_ok, e]
      cases t
      · simp only [Bool.false_eq_true, if_false] at h
        cases h
        exact hrun _ (hr b) rfl
      · simp only [if_true] at h
        cases h
        exact hrun _ (hr a) rfl
    · cases h
  | load t a =>
    obtain ⟨b, o, v, e1, e2, e3⟩ := vload_sound (P := P) hR h (hr a)
    refine FSnd.of ⟨v, ?_, e3⟩
    simp only [Instr.loadAt, e1, Instr.sureAddr, Sem.run_bind, Sem.run_pure, Result.andThen_ok, e2]
  | nilCheck x =>
    simp only [stepF] at h
    have hx := hr x
    have key : ∀ (y : Value), σ x = y → (y ≠ .pointer none ∧ y ≠ .nilIface ∧ y ≠ .nilFunc ∧ ∀ n f c, y ≠ .func (.method n) f c) → Rep R r y → FSnd P R (execOp σ ⟨dst, .nilCheck x, type, pos, after, guard⟩) r := by
      intro y hy hne hrep
      refine ⟨y, R.w, ?_, Grows.refl _, hrep⟩
      simp only [execOp, hy]
      split
      · exact absurd rfl hne.1
      · exact absurd rfl hne.2.1
      · exact absurd rfl hne.2.2.1
      · exact absurd rfl (hne.2.2.2 _ _ _)
      · rfl
    unfold pNil at h
    split at h
    · rename_i id off hρ
      cases h
      rw [hρ] at hx
      generalize hv : σ x = y at hx
      cases hx with
      | ptr id off a hid hb hρ' hs => exact key _ hv (by simp) (.ptr id off a hid hb hρ' hs)
    · rename_i cs hρ
      cases h
      rw [hρ] at hx
      generalize hv : σ x = y at hx
      cases hx with
      | ro cs b o f hi hc hz h => exact key _ hv (by simp) (.ro cs b o f hi hc hz h)
    · rename_i id g i o hρ
      split at h
      · rename_i hval
        cases h
        rw [hρ] at hx
        generalize hv : σ x = y at hx
        cases hx with
        | rptr id g i o n xs a hr hi hρ hs => exact key _ hv (by simp) (.rptr id g i o n xs a hr hi hρ hs)
        | rptrOld id g i o y hid hr =>
          simp only [svValid] at hval
          split at hval
          · rename_i g' n xs hc
            have h1 := hr g' n xs hc
            have h2 : g' = g := by simpa using hval
            omega
          · cases hval
      · cases h
    · rename_i f cs hρ
      cases h
      rw [hρ] at hx
      generalize hv : σ x = y at hx
      cases hx with
      | fn _ _ a hl h => exact key _ hv (by simp) (.fn f cs a hl h)
    · cases h
  | binOp op t x y yt => exact FSnd.of (pBin_sound h (hr x) (hr y))
  | unOp op t x => exact FSnd.of (pUn_sound h (hr x))
  | convert s d x => exact FSnd.of (pConv_sound hR h (hr x))
  | makeFunc fn first captured =>
    cases fn with
    | func f =>
      simp only [stepF] at h
      split at h
      · rename_i hz
        cases h
        have : first = #[] := Array.eq_empty_of_size_eq_zero hz
        subst this
        refine ⟨.func (.func f) #[] (captured.map σ), R.w, by simp only [execOp, Instr.makeFunc, Sem.run_bind, Sem.run_pure, Result.andThen_ok, Array.map_empty], Grows.refl _, ?_⟩
        refine .fn f (captured.toList.map ρ) (captured.map σ) (by simp) fun i hi hj => ?_
        have e1 : (captured.toList.map ρ)[i] = ρ (captured[i]'(by simpa using hj)) := by simp
        have e2 : (captured.map σ)[i]'hj = σ (captured[i]'(by simpa using hj)) := by simp
        rw [e1]
        exact e2 ▸ hr _
      · cases h
    | _ => cases h
  | slice t x lo hi mx => exact FSnd.of (pSlice_sound hR h (hr x) (RepO.map hr lo) (RepO.map hr hi) (RepO.map hr mx))
  | fieldAddr t x f => exact FSnd.of (pFieldAddr_sound h (hr x))
  | field t x f => exact FSnd.of (pField_sound h (hr x))
  | indexAddr t x i => exact FSnd.of (pIndexAddr_sound hR h (hr x) (hr i))
  | index t x i => exact FSnd.of (pIndex_sound h (hr x) (hr i))
  | build t ps => exact FSnd.of (pBuild_sound h (evParts_rep hr ps))
  | buildSlice t len ps => exact pBuildSlice_sound hR h (evParts_rep hr ps)
  | extract t i => exact FSnd.of (pExtract_sound h (hr t))
  | call c =>
    obtain ⟨callee, args, argTypes⟩ := c
    simp only [stepF] at h
    have harg : ∀ (i : Nat) (hi : i < (args.toList.map ρ).length) (hj : i < (args.toList.map σ).length), Rep R (args.toList.map ρ)[i] (args.toList.map σ)[i] := fun i hi hj => by
      simp only [List.getElem_map]; exact hr _
    split at h
    · rename_i x hx
      split at h
      · rename_i t ht
        obtain ⟨ao, rfl⟩ : ∃ ao, args = #[ao] := by
          have : args.toList.length = 1 := by have := congrArg List.length hx; simpa using this
          obtain ⟨l⟩ := args
          match l, this with
          | [a], _ => exact ⟨a, rfl⟩
        simp only [List.map_cons, List.map_nil, List.cons.injEq, and_true] at hx
        subst hx
        have := FSnd.of (pLen_sound (P := P) hR h (hr ao) ht type)
        obtain ⟨v, w', q1, q2, q3⟩ := this
        refine ⟨v, w', ?_, q2, q3⟩
        rw [← q1]
        simp only [execOp, resolve, invoke, builtin, pure_bind]
        have : (#[ao] : Array Operand).map σ = #[σ ao] := by simp
        rw [this]
      · cases h
    · rename_i x xs hx
      cases hl : args.toList.map σ with
      | nil =>
        have h1 := congrArg List.length hl
        have h2 := congrArg List.length hx
        rw [List.length_map] at h1 h2
        rw [h1] at h2
        cases h2
      | cons v vs =>
        have hl2 : vs.length = xs.length := by
          have a1 := congrArg List.length hl
          have a2 := congrArg List.length hx
          simp at a1 a2; omega
        have h0 := harg 0 (by rw [hx]; simp) (by rw [hl]; simp)
        simp only [hx, hl, List.getElem_cons_zero] at h0
        obtain ⟨u, q1, q2⟩ := pMax_sound (P := P) xs vs x r v h h0 hl2 (fun i hi hj => by
          have := harg (i + 1) (by rw [hx]; simp; exact hi) (by rw [hl]; simp; exact hj)
          simp only [hx, hl, List.getElem_cons_succ] at this
          exact this)
        refine ⟨u, R.w, ?_, Grows.refl _, q2⟩
        have : (args.map σ).toList = v :: vs := by rw [Array.toList_map]; exact hl
        simp only [execOp, resolve, invoke, builtin, pure_bind, Builtin.max_, this, Sem.run_bind, q1, Result.andThen_ok, Sem.run_pure]
    · rename_i x xs hx
      cases hl : args.toList.map σ with
      | nil =>
        have h1 := congrArg List.length hl
        have h2 := congrArg List.length hx
        rw [List.length_map] at h1 h2
        rw [h1] at h2
        cases h2
      | cons v vs =>
        have hl2 : vs.length = xs.length := by
          have a1 := congrArg List.length hl
          have a2 := congrArg List.length hx
          simp at a1 a2; omega
        have h0 := harg 0 (by rw [hx]; simp) (by rw [hl]; simp)
        simp only [hx, hl, List.getElem_cons_zero] at h0
        obtain ⟨u, q1, q2⟩ := pMin_sound (P := P) xs vs x r v h h0 hl2 (fun i hi hj => by
          have := harg (i + 1) (by rw [hx]; simp; exact hi) (by rw [hl]; simp; exact hj)
          simp only [hx, hl, List.getElem_cons_succ] at this
          exact this)
        refine ⟨u, R.w, ?_, Grows.refl _, q2⟩
        have : (args.map σ).toList = v :: vs := by rw [Array.toList_map]; exact hl
        simp only [execOp, resolve, invoke, builtin, pure_bind, Builtin.min_, this, Sem.run_bind, q1, Result.andThen_ok, Sem.run_pure]
    · cases h
  | _ => cases h
end Go.Vm
