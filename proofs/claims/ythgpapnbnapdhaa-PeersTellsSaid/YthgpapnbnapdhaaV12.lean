/- The virtual machine, part 12: operations that turn memory, calls, regions. Generic: no program in sight. -/
import Derived.Test.YthgpapnbnapdhaaV11d
set_option linter.unusedVariables false
set_option linter.unusedSimpArgs false
namespace Go.Vm
open Go.RowKit

/-- Does the operation turn memory, or call? -/
def isC (P : Program) : Op → Bool
  | .box .. | .alloc .. | .store .. | .makeSlice .. | .makeMap .. | .mapUpdate .. | .insert .. | .range .. | .next .. => true
  | .convert _ d _ => match P.underlying d with | some (.slice _) => true | _ => false
  | .call c => match c.callee with
    | .builtin .len | .builtin .max | .builtin .min => false
    | _ => true
  | _ => false
def vC (P : Program) (o : Oper) (ρ : Operand → SV) (H : List VB) (K : SV → List VB → Prop) : Prop :=
  match o.op with
  | .box e x => svValid H (ρ x) = true ∧ K (.ptr H.length 0) (H ++ [.box (ρ x).cells])
  | .alloc e => match zcells P e with
    | some cs => K (.ptr H.length 0) (H ++ [.box cs])
    | none => False
  | .store t a x => match pStore P H t (ρ a) (ρ x) with
    | some H' => K .junk H'
    | none => False
  | .makeSlice t l c => vMakeSlice P H t (ρ l) (ρ c) K
  | .convert s d x => vConvBytes P H s d (ρ x) K
  | .call c => match c.callee with
    | .value f => match ρ f with
      | .fn g caps => VCalls P g (c.args.toList.map ρ ++ caps) H K
      | _ => False
    | .builtin b => vBuiltin P H b c.argTypes (c.args.toList.map ρ) K
    | _ => False
  | _ => False
/-- What the run of such an operation comes to. -/
def CSnd (P : Program) (R : Env) (s : Sem Next) (K : SV → List VB → Prop) : Prop :=
  (∃ v r R', s.run P R.w = .ok (.value v) R'.w ∧ Ext R R' ∧ HRep R' ∧ Rep R' r v ∧ K r R'.H) ∨
  (∃ R', s.run P R.w = .ok .skip R'.w ∧ Ext R R' ∧ HRep R' ∧ K .junk R'.H) ∨
  (∃ f args, s.run P R.w = .ok (.enter f args) R.w ∧ Calls P f args R.w fun e w' => ∃ v r R', e = .returned v ∧ R'.w = w' ∧ Ext R R' ∧ HRep R' ∧ Rep R' r v ∧ K r R'.H)
theorem CSnd.of {P : Program} {R : Env} {s : Sem Value} {K : SV → List VB → Prop} (h : ∃ v r R', s.run P R.w = .ok v R'.w ∧ Ext R R' ∧ HRep R' ∧ Rep R' r v ∧ K r R'.H) : CSnd P R (do pure (.value (← s))) K := by
  obtain ⟨v, r, R', h1, h2⟩ := h
  exact .inl ⟨v, r, R', by simp only [Sem.run_bind, h1, Result.andThen_ok, Sem.run_pure], h2⟩
theorem callFunc_enter {P : Program} {f : FuncId} (h : callable P f = true) (args : Array Value) (w : World) : (callFunc f args).run P w = .ok (.enter f args) w := by
  unfold callable at h
  split at h
  · rename_i fn hf
    simp only [Bool.and_eq_true, Bool.not_eq_true'] at h
    have h1 : fn.body.isNone = false := by cases hb : fn.body <;> simp_all
    simp only [callFunc, Sem.run_bind, run_program, Result.andThen_ok, hf, h.2, h1, Bool.false_eq_true, if_false, Sem.run_pure]
  · cases h
theorem vC_sound {P : Program} {R : Env} (hR : HRep R) {o : Oper} {ρ : Operand → SV} {σ : Operand → Value} {K : SV → List VB → Prop} (h : vC P o ρ R.H K) (hr : RepF R ρ σ) : CSnd P R (execOp σ o) K := by
  obtain ⟨dst, op, type, pos, after, guard⟩ := o
  cases op with
  | box e x =>
    obtain ⟨h1, h2⟩ := h
    obtain ⟨q1, q2, q3⟩ := box_new hR (valid_cells h1 (hr x)) e
    exact CSnd.of ⟨_, _, _, by simp only [Instr.box, newVar, newRow, Sem.run_bind, run_newObj, Result.andThen_ok, Sem.run_pure]; rfl, q1, q2, q3, h2⟩
  | alloc e =>
    simp only [vC] at h
    split at h
    · rename_i cs hz
      obtain ⟨z, hzv, hzc⟩ := zcells_sound (R := R) hz
      obtain ⟨q1, q2, q3⟩ := box_new hR hzc e
      exact CSnd.of ⟨_, _, _, by simp only [Instr.alloc, newVar, newRow, Sem.run_bind, hzv, run_newObj, Result.andThen_ok, Sem.run_pure]; rfl, q1, q2, q3, h⟩
    · exact h.elim
  | store t a x =>
    simp only [vC] at h
    split at h
    · rename_i H' hs
      obtain ⟨w', p1, p2, p3⟩ := pStore_sound (P := P) hR hs (hr a) (hr x)
      exact .inr (.inl ⟨⟨H', R.ρ, w'⟩, by simp only [execOp, Sem.run_bind, p1, Result.andThen_ok, Sem.run_pure], p2, p3, h⟩)
    · exact h.elim
  | makeSlice t l c => exact CSnd.of (vMakeSlice_sound hR h (hr l) (hr c))
  | convert s d x => exact CSnd.of (vConvBytes_sound hR h (hr x))
  | call c =>
    obtain ⟨callee, args, argTypes⟩ := c
    have hargs : ∀ (i : Nat) (hi : i < (args.toList.map ρ).length) (hj : i < (args.map σ).size), Rep R (args.toList.map ρ)[i] (args.map σ)[i] := fun i hi hj => by
      have hi' : i < args.size := by simpa using hi
      have e1 : (args.toList.map ρ)[i] = ρ args[i] := by simp
      have e2 : (args.map σ)[i] = σ args[i] := by simp
      rw [e1, e2]
      exact hr _
    cases callee with
    | value f =>
      simp only [vC] at h
      split at h
      · rename_i g caps hf
        have hfr := hr f
        rw [hf] at hfr
        generalize hv : σ f = fv at hfr
        cases hfr with
        | fn fi cs a hl hh =>
          refine .inr (.inr ⟨g, args.map σ ++ a, ?_, h.2 R _ hR rfl ⟨by simp [hl], fun i hi hj => ?_⟩⟩)
          · simp only [execOp, resolve, Sem.run_bind, hv, Deferred.ofValue, Sem.run_pure, Result.andThen_ok, invoke, Array.empty_append]
            exact callFunc_enter h.1 _ _
          · by_cases hlt : i < args.size
            · have e1 : (args.toList.map ρ ++ caps)[i] = (args.toList.map ρ)[i]'(by simpa using hlt) := List.getElem_append_left _
              have e2 : (args.map σ ++ a)[i] = (args.map σ)[i]'(by simpa using hlt) := Array.getElem_append_left _
              rw [e1, e2]
              exact hargs i _ _
            · simp only [List.length_append, List.length_map, Array.length_toList] at hi
              have e1 : (args.toList.map ρ ++ caps)[i] = caps[i - args.size]'(by omega) := by
                rw [List.getElem_append_right (by simp; omega)]; simp
              have e2 : (args.map σ ++ a)[i] = a[i - args.size]'(by omega) := by
                rw [Array.getElem_append_right (by simp; omega)]; simp
              rw [e1, e2]
              exact hh _ _ _
      · exact h.elim
    | builtin b =>
      have := vBuiltin_sound (P := P) (b := b) (ats := argTypes) (K := K) hR h (vs := args.map σ) ⟨by simp, hargs⟩ type (args.map fun | .const _ => true | _ => false)
      obtain ⟨v, r, R', h1, h2⟩ := this
      refine .inl ⟨v, r, R', ?_, h2⟩
      rw [← h1]
      simp only [execOp, resolve, Sem.run_bind, Sem.run_pure, Result.andThen_ok, invoke]
      rfl
    | invoke r m => exact h.elim
  | _ => exact h.elim

theorem vC_mono {P : Program} {o : Oper} {ρ : Operand → SV} {H : List VB} {K K' : SV → List VB → Prop} (h : vC P o ρ H K) (hk : ∀ r H', K r H' → K' r H') : vC P o ρ H K' := by
  obtain ⟨dst, op, type, pos, after, guard⟩ := o
  cases op with
  | box e x => exact ⟨h.1, hk _ _ h.2⟩
  | alloc e =>
    simp only [vC] at h ⊢
    split at h
    · exact hk _ _ h
    · exact h.elim
  | store t a x =>
    simp only [vC] at h ⊢
    split at h
    · exact hk _ _ h
    · exact h.elim
  | makeSlice t l c => exact vMakeSlice_mono (P := P) (H := H) (t := t) (l := ρ l) (c := ρ c) h hk
  | convert s d x => exact vConvBytes_mono (P := P) (H := H) (s := s) (d := d) (x := ρ x) h hk
  | call c =>
    obtain ⟨callee, args, argTypes⟩ := c
    cases callee with
    | value f =>
      simp only [vC] at h ⊢
      split at h
      · exact h.mono hk
      · exact h.elim
    | builtin b => exact vBuiltin_mono (P := P) (H := H) (b := b) (ats := argTypes) (args := args.toList.map ρ) h hk
    | invoke r m => exact h.elim
  | _ => exact h.elim

/-! ### One operation of a region -/
def vput (N : Nat) (dst : Option Tmp) (r : SV) (H : List VB) (tm : TM) (next : TM → List VB → Prop) : Prop :=
  match dst with
  | some d => Nat.blt d N = true ∧ next ((d, r) :: tm) H
  | none => next tm H
/-- The slot that holds a guard's test. -/
def gslot (ops : Array Oper) (g : Nat) : Option Tmp := (ops[g]?).bind (·.dst)
def vguard (ops : Array Oper) (guard : Option (Nat × Bool)) (tm : TM) (yes no : Prop) : Prop :=
  match guard with
  | none => yes
  | some (g, b) => match gslot ops g with
    | some d => match tget tm d with
      | .v (.bool c) => if c = b then yes else no
      | .v (.tuple _) => no
      | _ => False
    | none => False
def vop (P : Program) (N : Nat) (ops : Array Oper) (o : Oper) (tm : TM) (H : List VB) (next : TM → List VB → Prop) : Prop :=
  vguard ops o.guard tm
    (if isC P o.op = true then vC P o (vev tm) H (fun r H' => vput N o.dst r H' tm next)
     else match stepF P o (vev tm) H with
      | some r => vput N o.dst r H tm next
      | none => False)
    (vput N o.dst (.v undef) H tm next)
theorem TRep.mono {R R' : Env} (e : Ext R R') {N : Nat} {tm : TM} {a : Act} (h : TRep R N tm a) : TRep R' N tm a := ⟨h.size, fun t => (h.get t).mono e⟩
theorem TRep.put {R : Env} {N : Nat} {tm : TM} {a : Act} (h : TRep R N tm a) {d : Tmp} {r : SV} {v : Value} (hd : Nat.blt d N = true) (hr : Rep R r v) : TRep R N ((d, r) :: tm) (a.put (some d) v) := by
  have hd' : d < a.tmps.size := by rw [h.size]; simpa using hd
  refine ⟨by simp [Act.put, h.size], fun t => ?_⟩
  simp only [tget, Act.put]
  cases hb : Nat.beq d t
  · have hne : d ≠ t := fun e => by subst e; simp at hb
    simp only [cond_false]
    have := h.get t
    rw [Array.getD_eq_getD_getElem?] at this ⊢
    rwa [Array.getElem?_setIfInBounds_ne hne]
  · have hk : d = t := Nat.eq_of_beq_eq_true hb
    subst hk
    simp only [cond_true]
    rw [Array.getD_eq_getD_getElem?, Array.getElem?_setIfInBounds_self_of_lt hd']
    exact hr
theorem defers_put (a : Act) (d : Option Tmp) (v : Value) : (a.put d v).defers = a.defers := by cases d <;> rfl
/-- What the rest of a region is walked from. -/
def RNext (R0 : Env) (N : Nat) (ds : List Deferred) (next : TM → List VB → Prop) (K : Act → World → Prop) : Prop :=
  ∀ R tm a, Ext R0 R → HRep R → TRep R N tm a → a.defers = ds → next tm R.H → K a R.w
theorem vput_next {R0 R : Env} {N : Nat} {ds : List Deferred} {next : TM → List VB → Prop} {K : Act → World → Prop} (hk : RNext R0 N ds next K) {tm : TM} {a : Act} {dst : Option Tmp} {r : SV} {v : Value}
    (e : Ext R0 R) (hR : HRep R) (ht : TRep R N tm a) (hd : a.defers = ds) (hr : Rep R r v) (h : vput N dst r R.H tm next) : K (a.put dst v) R.w := by
  cases dst with
  | none => exact hk R tm a e hR ht hd h
  | some d => exact hk R _ _ e hR (ht.put h.1 hr) ((defers_put _ _ _).trans hd) h.2
theorem yielded_of {R : Env} {N : Nat} {tm : TM} {a : Act} (h : TRep R N tm a) {ops : Array Oper} {g : Nat} {d : Tmp} {c : Bool} (hg : gslot ops g = some d) (hc : tget tm d = .v (.bool c)) : yielded ops a.tmps g = some c := by
  have h1 := h.get d
  rw [hc] at h1
  have h2 := rep_v.1 h1
  unfold gslot at hg
  simp only [yielded, hg, Option.bind_some]
  rw [Array.getD_eq_getD_getElem?] at h2
  cases hd : a.tmps[d]? with
  | none => rw [hd] at h2; cases h2
  | some v => rw [hd] at h2; simp only [Option.getD_some] at h2; subst h2; rfl
theorem yielded_tup {R : Env} {N : Nat} {tm : TM} {a : Act} (h : TRep R N tm a) {ops : Array Oper} {g : Nat} {d : Tmp} {cs : Array Value} (hg : gslot ops g = some d) (hc : tget tm d = .v (.tuple cs)) : yielded ops a.tmps g = none := by
  have h1 := h.get d
  rw [hc] at h1
  have h2 := rep_v.1 h1
  unfold gslot at hg
  simp only [yielded, hg, Option.bind_some]
  rw [Array.getD_eq_getD_getElem?] at h2
  cases hd : a.tmps[d]? with
  | none => rfl
  | some v => rw [hd] at h2; simp only [Option.getD_some] at h2; subst h2; rfl
theorem vop_sound {R0 R : Env} {P : Program} {N r0 : Nat} {ro : Option Nat} {ops : Array Oper} {ds : List Deferred} {next : TM → List VB → Prop} {K : Act → World → Prop} {Q : Exit → Act → World → Prop} (hk : RNext R0 N ds next K)
    {o : Oper} {tm : TM} {a : Act} (e : Ext R0 R) (hR : HRep R) (ht : TRep R N tm a) (hd : a.defers = ds) (h : vop P N ops o tm R.H next) (hnd : ∀ c, o.op ≠ .defer c) :
    if Region.wanted o (yielded ops a.tmps) = true then o.wpIn (WF ro) r0 P a R.w K Q else K (a.put o.dst undef) R.w := by
  have hab : ∀ f, o.about P R.w a.eval = some f → (WF ro).fn f := fun _ _ => trivial
  have hev : RepF R (vev tm) a.eval := fun x => ht.ev x
  have yes : (if isC P o.op = true then vC P o (vev tm) R.H (fun r H' => vput N o.dst r H' tm next) else match stepF P o (vev tm) R.H with
      | some r => vput N o.dst r R.H tm next
      | none => False) → o.wpIn (WF ro) r0 P a R.w K Q := by
    intro h
    refine ⟨hab, ?_⟩
    rw [Oper.semAt_eq _ _ _ hnd]
    split at h
    · rcases vC_sound hR h hev with ⟨v, r, R', q1, q2, q3, q4, q5⟩ | ⟨R', q1, q2, q3, q4⟩ | ⟨f, args, q1, q2⟩
      · rw [q1]
        exact vput_next hk (e.trans q2) q3 (ht.mono q2) hd q4 q5
      · rw [q1]
        exact vput_next hk (e.trans q2) q3 (ht.mono q2) hd (.junk _) q4
      · rw [q1]
        refine ⟨fun hd' => by simp [WF, Fence.wide] at hd', callsIn_WF (q2.mono ?_)⟩
        rintro en w' ⟨v, r, R', rfl, rfl, p1, p2, p3, p4⟩
        exact vput_next hk (e.trans p1) p2 (ht.mono p1) hd p3 p4
    · split at h
      · rename_i r hs
        obtain ⟨v, w', q1, q2, q3⟩ := stepF_sound hR hs hev
        rw [q1]
        exact vput_next (R := { R with w := w' }) hk (e.trans (q2.ext hR)) (q2.rep hR) (ht.mono (q2.ext hR)) hd q3 h
      · exact h.elim
  have no : vput N o.dst (.v undef) R.H tm next → K (a.put o.dst undef) R.w := fun h => vput_next hk e hR ht hd (.v _) h
  unfold vop vguard at h
  cases hg : o.guard with
  | none =>
    rw [hg] at h
    simp only [Region.wanted, hg, if_true]
    exact yes h
  | some gb =>
    obtain ⟨g, b⟩ := gb
    rw [hg] at h
    simp only at h
    split at h
    · rename_i d hgs
      split at h
      · rename_i c hc
        have hy := yielded_of ht hgs hc
        simp only [Region.wanted, hg, hy]
        split at h
        · rename_i hcb
          subst hcb
          simp only [beq_self_eq_true, if_true]
          exact yes h
        · rename_i hcb
          have : (some c == some b) = false := by simpa using hcb
          simp only [this, Bool.false_eq_true, if_false]
          exact no h
      · rename_i cs hc
        have hy := yielded_tup ht hgs hc
        have : ((none : Option Bool) == some b) = false := rfl
        simp only [Region.wanted, hg, hy, this, Bool.false_eq_true, if_false]
        exact no h
      · exact h.elim
    · exact h.elim
def vopsL (P : Program) (N : Nat) (ops : Array Oper) : List Oper → TM → List VB → (TM → List VB → Prop) → Prop
  | [], tm, H, k => k tm H
  | o :: rest, tm, H, k => vop P N ops o tm H (fun tm' H' => vopsL P N ops rest tm' H' k)
def noDefer (o : Oper) : Bool := match o.op with | .defer _ => false | _ => true
theorem noDefer_spec {o : Oper} (h : noDefer o = true) : ∀ c, o.op ≠ .defer c := fun c hc => by simp [noDefer, hc] at h
theorem vopsL_sound {R0 : Env} {P : Program} {N r0 : Nat} {ro : Option Nat} {ops : Array Oper} {ds : List Deferred} {k : TM → List VB → Prop} {Q : Exit → Act → World → Prop} (hk : RNext R0 N ds k (Q .normal)) :
    ∀ (is : List Nat) (os : List Oper), is.map (ops[·]?) = os.map some → os.all noDefer = true → RNext R0 N ds (fun tm H => vopsL P N ops os tm H k) (wpOpsIn (WF ro) r0 P ops Q is)
  | [], [], _, _ => hk
  | [], _ :: _, h, _ => by simp at h
  | _ :: _, [], h, _ => by simp at h
  | i :: is, o :: os, h, hnd => by
    simp only [List.map_cons, List.cons.injEq] at h
    simp only [List.all_cons, Bool.and_eq_true] at hnd
    have ih := vopsL_sound (r0 := r0) (ro := ro) (P := P) (ops := ops) hk is os h.2 hnd.2
    intro R tm a e hR ht hd hv
    simp only [wpOpsIn, h.1]
    have := vop_sound (Q := Q) (r0 := r0) (ro := ro) ih e hR ht hd hv (noDefer_spec hnd.1)
    split
    · rename_i hw; simpa only [hw, if_true] using this
    · rename_i hw
      simp only [hw, if_false] at this
      exact ⟨fun _ _ => trivial, this⟩
theorem range_get {ops : List Oper} : (List.range ops.toArray.size).map (ops.toArray[·]?) = ops.map some := by
  refine List.ext_getElem (by simp) fun i h1 h2 => ?_
  simp at h1
  simp [h1]
/-- A region whose order the text gives. -/
theorem vwp_region {R0 : Env} {P : Program} {N : Nat} {id : Nat} {ops : List Oper} {tm : TM} {H : List VB} {Q : VQ} (hnd : ops.all noDefer = true) (h : vopsL P N ops.toArray ops tm H (Q .normal)) : VWp R0 P N (.region id ops.toArray false) tm H Q := by
  intro r m R a h1 h2 h3 h4
  refine wpIn_region ?_
  have hk : RNext R0 N a.defers (Q .normal) (VPost R0 N a.defers Q .normal) := fun R tm a' e hR ht hd hq => ⟨R, tm, rfl, e, hR, ht, hd, hq⟩
  exact vopsL_sound (Q := VPost R0 N a.defers Q) hk _ _ range_get hnd R tm a h1 h2 h4 rfl (by rw [h3]; exact h)
end Go.Vm
