/- The virtual machine, part 3: what code is walked to (VWp), what a call comes to (VCalls), the rules of code. Generic: no program in sight. -/
import Derived.Test.YthgpapnbnapdhaaV2b
import Derived.Sort.LoopGhostIn
set_option linter.unusedVariables false
set_option linter.unusedSimpArgs false
namespace Go.Vm
open Go.RowKit

theorem rep_v {R : Env} {x y : Value} : Rep R (.v x) y ↔ y = x := ⟨fun h => (by cases h; rfl), fun h => (by subst h; exact .v _)⟩
abbrev TM := List (Nat × SV)
def tget : TM → Nat → SV
  | [], _ => .junk
  | (k, x) :: r, t => bif Nat.beq k t then x else tget r t
structure TRep (R : Env) (N : Nat) (tm : TM) (a : Act) : Prop where
  size : a.tmps.size = N
  get : ∀ t, Rep R (tget tm t) (a.tmps.getD t undef)
def WF (r : Option Nat) : Fence := { Fence.wide with round := r }
abbrev VQ := Exit → TM → List VB → Prop
/-- What is known at an exit. -/
def VPost (R0 : Env) (N : Nat) (ds : List Deferred) (Q : VQ) : Exit → Act → World → Prop := fun e a' w' =>
  ∃ R' tm', R'.w = w' ∧ Ext R0 R' ∧ HRep R' ∧ TRep R' N tm' a' ∧ a'.defers = ds ∧ Q e tm' R'.H
def VWp (R0 : Env) (P : Program) (N : Nat) (c : Code) (tm : TM) (H : List VB) (Q : VQ) : Prop :=
  ∀ (r : Option Nat) (m : Nat) (R : Env) (a : Act), Ext R0 R → HRep R → R.H = H → TRep R N tm a → c.wpIn (WF r) m P (VPost R0 N a.defers Q) a R.w
def RepL (R : Env) (xs : List SV) (vs : Array Value) : Prop := vs.size = xs.length ∧ ∀ (i : Nat) (hi : i < xs.length) (hj : i < vs.size), Rep R xs[i] vs[i]
def callable (P : Program) (f : FuncId) : Bool := match P.funcs[f]? with | some fn => fn.body.isSome && !(fn.name == "runtime.NumGoroutine") | none => false
/-- What a call comes to: it returns; what is known of the result and of the virtual heap behind it. -/
def VCalls (P : Program) (f : FuncId) (args : List SV) (H : List VB) (K : SV → List VB → Prop) : Prop :=
  callable P f = true ∧ ∀ (R : Env) (vs : Array Value), HRep R → R.H = H → RepL R args vs →
    Calls P f vs R.w fun e w' => ∃ v r R', e = .returned v ∧ R'.w = w' ∧ Ext R R' ∧ HRep R' ∧ Rep R' r v ∧ K r R'.H

theorem VCalls.mono {P : Program} {f : FuncId} {args : List SV} {H : List VB} {K K' : SV → List VB → Prop} (h : VCalls P f args H K) (hk : ∀ r H', K r H' → K' r H') : VCalls P f args H K' :=
  ⟨h.1, fun R vs h1 h2 h3 => (h.2 R vs h1 h2 h3).mono fun e w' ⟨v, r, R', q1, q2, q3, q4, q5, q6⟩ => ⟨v, r, R', q1, q2, q3, q4, q5, hk _ _ q6⟩⟩
theorem VPost.mono {R0 : Env} {N : Nat} {ds : List Deferred} {Q Q' : VQ} (hq : ∀ e tm H, Q e tm H → Q' e tm H) (e : Exit) (a : Act) (w : World) (h : VPost R0 N ds Q e a w) : VPost R0 N ds Q' e a w := by
  obtain ⟨R', tm', h1, h2, h3, h4, h5, h6⟩ := h
  exact ⟨R', tm', h1, h2, h3, h4, h5, hq _ _ _ h6⟩
section rules
variable {R0 : Env} {P : Program} {N : Nat} {tm : TM} {H : List VB} {Q : VQ}
theorem VWp.mono {c : Code} {Q' : VQ} (h : VWp R0 P N c tm H Q) (hq : ∀ e tm H, Q e tm H → Q' e tm H) : VWp R0 P N c tm H Q' :=
  fun r m R a h1 h2 h3 h4 => wpIn_mono (h r m R a h1 h2 h3 h4) fun e a w hh => VPost.mono hq e a w hh
def vthen (next : TM → List VB → Prop) (Q : VQ) : VQ
  | .normal, tm, H => next tm H
  | e, tm, H => Q e tm H
theorem vwp_skip (h : Q .normal tm H) : VWp R0 P N .skip tm H Q :=
  fun r m R a h1 h2 h3 h4 => wpIn_skip ⟨R, tm, rfl, h1, h2, h4, rfl, h3 ▸ h⟩
theorem vwp_label {l : Nat} (h : Q .normal tm H) : VWp R0 P N (.label l) tm H Q :=
  fun r m R a h1 h2 h3 h4 => wpIn_label ⟨R, tm, rfl, h1, h2, h4, rfl, h3 ▸ h⟩
theorem vwp_ret (h : Q .ret tm H) : VWp R0 P N .ret tm H Q :=
  fun r m R a h1 h2 h3 h4 => wpIn_ret ⟨R, tm, rfl, h1, h2, h4, rfl, h3 ▸ h⟩
theorem vwp_exit {id : Nat} (h : Q (.exit id) tm H) : VWp R0 P N (.exit id) tm H Q :=
  fun r m R a h1 h2 h3 h4 => wpIn_exit ⟨R, tm, rfl, h1, h2, h4, rfl, h3 ▸ h⟩
theorem vwp_seq {x y : Code} (h : VWp R0 P N x tm H (vthen (fun tm' H' => VWp R0 P N y tm' H' Q) Q)) : VWp R0 P N (.seq x y) tm H Q := by
  intro r m R a h1 h2 h3 h4
  refine wpIn_seq (wpIn_mono (h r m R a h1 h2 h3 h4) ?_)
  rintro e a' w' ⟨R', tm', rfl, q2, q3, q4, q5, q6⟩
  cases e with
  | normal => exact q5 ▸ q6 r m R' a' q2 q3 rfl q4
  | _ => exact ⟨R', tm', rfl, q2, q3, q4, q5, q6⟩
theorem vwp_seq' {x y : Code} (h : ∀ K : TM → List VB → Prop, (∀ tm' H', VWp R0 P N y tm' H' Q → K tm' H') → VWp R0 P N x tm H (vthen K Q)) : VWp R0 P N (.seq x y) tm H Q :=
  vwp_seq (h _ fun _ _ h => h)
def ofValue : Value → SV
  | .agg cs => .agg (cs.toList.map .v)
  | x => .v x
theorem rep_ofValue (R : Env) (x : Value) : Rep R (ofValue x) x := by
  cases x with
  | agg cs => exact .agg _ _ (by simp) fun i hi hj => by simp; exact .v _
  | _ => exact .v _
def vev (tm : TM) : Operand → SV
  | .tmp t => tget tm t
  | .const x => ofValue x
  | .global _ => .junk
  | .func f => .fn f []
theorem TRep.ev {R : Env} {a : Act} (h : TRep R N tm a) (x : Operand) : Rep R (vev tm x) (a.eval x) := by
  cases x with
  | tmp t => exact h.get t
  | const v => exact rep_ofValue R v
  | global g => exact .junk _
  | func f => exact .fn f [] #[] rfl (fun i hi => by cases hi)
def vcond (x : SV) (A B : Prop) : Prop := match x with | .v (.bool b) => if b = true then A else B | _ => False
theorem vwp_cond {c : Operand} {x y : Code} (h : vcond (vev tm c) (VWp R0 P N x tm H Q) (VWp R0 P N y tm H Q)) : VWp R0 P N (.cond c x y) tm H Q := by
  intro r m R a h1 h2 h3 h4
  have hc := h4.ev c
  unfold vcond at h
  split at h
  · rename_i b hb
    rw [hb] at hc
    have hv : a.eval c = .bool b := rep_v.1 hc
    refine wpIn_cond hv ?_
    cases b
    · exact (by simpa using h : VWp R0 P N y tm H Q) r m R a h1 h2 h3 h4
    · exact (by simpa using h : VWp R0 P N x tm H Q) r m R a h1 h2 h3 h4
  · exact h.elim
def vblock (id : Nat) (Q : VQ) : VQ
  | .exit id', tm, H => bif Nat.beq id' id then Q .normal tm H else Q (.exit id') tm H
  | e, tm, H => Q e tm H
theorem vwp_block {id : Nat} {c : Code} (h : VWp R0 P N c tm H (vblock id Q)) : VWp R0 P N (.block id c) tm H Q := by
  intro r m R a h1 h2 h3 h4
  refine wpIn_block (wpIn_mono (h r m R a h1 h2 h3 h4) ?_)
  rintro e a' w' ⟨R', tm', rfl, q2, q3, q4, q5, q6⟩
  cases e with
  | exit id' =>
    simp only [vblock] at q6
    simp only [Exit.inBlock]
    by_cases hid : id' = id
    · subst hid
      simp only [Nat.beq_refl, cond_true] at q6
      rw [if_pos rfl]
      exact ⟨R', tm', rfl, q2, q3, q4, q5, q6⟩
    · have : Nat.beq id' id = false := by
        cases hb : Nat.beq id' id
        · rfl
        · exact absurd (Nat.eq_of_beq_eq_true hb) hid
      simp only [this, cond_false] at q6
      rw [if_neg hid]
      exact ⟨R', tm', rfl, q2, q3, q4, q5, q6⟩
  | _ => exact ⟨R', tm', rfl, q2, q3, q4, q5, q6⟩
theorem vwp_loop {c : Code} (I : Nat → TM → List VB → Prop) (n0 : Nat) (h0 : I n0 tm H)
    (round : ∀ n tm H, I n tm H → VWp R0 P N c tm H (vthen (fun tm' H' => ∃ n', n' < n ∧ I n' tm' H') Q)) : VWp R0 P N (.loop c) tm H Q := by
  intro r m R a h1 h2 h3 h4
  refine wpIn_loop_ghost (fun n a' w' => ∃ R' tm', R'.w = w' ∧ Ext R0 R' ∧ HRep R' ∧ TRep R' N tm' a' ∧ a'.defers = a.defers ∧ I n tm' R'.H) n0 ⟨R, tm, rfl, h1, h2, h4, rfl, h3 ▸ h0⟩ ?_
  rintro n a1 w1 ⟨R1, tm1, rfl, q2, q3, q4, q5, q6⟩
  refine wpIn_mono (round n tm1 R1.H q6 r m R1 a1 q2 q3 rfl q4) ?_
  rintro e a' w' ⟨R', tm', rfl, p2, p3, p4, p5, p6⟩
  cases e with
  | normal =>
    obtain ⟨n', hn, hI⟩ := p6
    exact ⟨n', hn, R', tm', rfl, p2, p3, p4, p5.trans q5, hI⟩
  | _ => exact ⟨R', tm', rfl, p2, p3, p4, p5.trans q5, p6⟩
/-! ### Weakening -/
theorem tget_mem {tm' : TM} (t : Nat) : tget tm' t = .junk ∨ ∃ p, p ∈ tm' ∧ p.1 = t ∧ p.2 = tget tm' t := by
  induction tm' with
  | nil => exact .inl rfl
  | cons p r ih =>
    obtain ⟨k, x⟩ := p
    simp only [tget]
    cases hb : Nat.beq k t
    · simp only [cond_false]
      exact ih.imp id fun ⟨p, h1, h2⟩ => ⟨p, .tail _ h1, h2⟩
    · simp only [cond_true]
      exact .inr ⟨(k, x), .head _, Nat.eq_of_beq_eq_true hb, rfl⟩
/-- Fewer slots are known. -/
def TSub (tm tm' : TM) : Prop := ∀ p, p ∈ tm' → tget tm p.1 = p.2
theorem TSub.get {tm' : TM} (h : TSub tm tm') (t : Nat) : tget tm' t = .junk ∨ tget tm' t = tget tm t := by
  rcases tget_mem (tm' := tm') t with h1 | ⟨p, h1, h2, h3⟩
  · exact .inl h1
  · exact .inr (h3.symm.trans ((h p h1).symm.trans (by rw [h2])))
theorem TRep.sub {R : Env} {a : Act} {tm' : TM} (h : TRep R N tm a) (s : TSub tm tm') : TRep R N tm' a :=
  ⟨h.size, fun t => by
    rcases s.get t with h1 | h1
    · rw [h1]; exact .junk _
    · rw [h1]; exact h.get t⟩
theorem vwp_weak {c : Code} {tm' : TM} (s : TSub tm tm') (h : VWp R0 P N c tm' H Q) : VWp R0 P N c tm H Q :=
  fun r m R a h1 h2 h3 h4 => h r m R a h1 h2 h3 (h4.sub s)
def HBel (H : List VB) : Prop := ∀ (id : Nat) (b : VB), H[id]? = some b → b.Bel H.length
/-- Something of the virtual heap is forgotten. -/
structure HSub (H0 H H' : List VB) : Prop where
  low : H0.length ≤ H'.length
  high : H'.length ≤ H.length
  sub : ∀ id, id < H'.length → H'[id]? = H[id]? ∨ H'[id]? = some .dead
  bel : ∀ (id : Nat) (b : VB), H'[id]? = some b → H0[id]? = some b ∨ b.Bel H'.length
theorem HSub.all {H0 H' : List VB} (h0 : HBel H0) (s : HSub H0 H H') : ∀ (id : Nat) (b : VB), H'[id]? = some b → b.Bel H'.length := fun id b h => by
  rcases s.bel id b h with h1 | h1
  · exact (h0 id b h1).mono s.low
  · exact h1
theorem vwp_forget {c : Code} {tm' : TM} {H' : List VB} (h0 : HBel R0.H) (s : HSub R0.H H H') (ht : ∀ p, p ∈ tm' → tget tm p.1 = p.2 ∧ p.2.Bel H'.length) (h : VWp R0 P N c tm' H' Q) :
    VWp R0 P N c tm H Q := by
  intro r m R a h1 h2 h3 h4
  subst h3
  have s' : R.sub H' := ⟨s.high, s.sub⟩
  refine h r m { R with H := H' } a (h1.forget s' s.low) (h2.forget s' (s.all h0)) rfl ⟨h4.size, fun t => ?_⟩
  rcases tget_mem (tm' := tm') t with h5 | ⟨p, h5, h6, h7⟩
  · rw [h5]; exact .junk _
  · rw [← h7]
    have := ht p h5
    rw [← this.1, h6]
    refine (h4.get t).forget s' ?_
    rw [← h6, this.1]
    exact this.2
theorem vwp_nilrow {c : Code} (t n : Nat) (ht : tget tm t = .v (.slice none 0 0)) (h : VWp R0 P N c ((t, .slc H.length 0 0 0) :: tm) (H ++ [.row 0 n []]) Q) : VWp R0 P N c tm H Q := by
  intro r m R a h1 h2 h3 h4
  subst h3
  have hl := Like.refl R.w
  have hok : Ext R ⟨R.H ++ [.row 0 n []], upd R.ρ R.H.length none, R.w⟩ → IdOk ⟨R.H ++ [.row 0 n []], upd R.ρ R.H.length none, R.w⟩ R.H.length := by
    intro e
    have hs := new_same R.H (.row 0 n [])
    refine ⟨fun cs h => ?_, fun g n' xs h => ?_, fun es h => ?_⟩
    · cases hs.symm.trans h
    · cases hs.symm.trans h
      exact ⟨fun x hx => (by cases hx), Or.inl ⟨upd_same .., rfl⟩⟩
    · cases hs.symm.trans h
  have e := Ext.new h2 (.row 0 n []) none hl (Nat.le_refl _) (fun _ _ => rfl) (fun a ha => by cases ha)
  have hr := HRep.new h2 (.row 0 n []) none hl (Nat.le_refl _) (fun _ _ => rfl) (fun a ha => by cases ha) hok
  refine h r m ⟨R.H ++ [.row 0 n []], upd R.ρ R.H.length none, R.w⟩ a (h1.trans e) hr rfl ⟨h4.size, fun k => ?_⟩
  simp only [tget]
  cases hb : Nat.beq t k
  · simp only [cond_false]; exact (h4.get k).mono e
  · simp only [cond_true]
    have hk : t = k := Nat.eq_of_beq_eq_true hb
    subst hk
    have h5 := h4.get t
    rw [ht] at h5
    have h6 : a.tmps.getD t undef = .slice none 0 0 := rep_v.1 h5
    rw [h6]
    exact .slc _ 0 0 0 n [] none 0 (new_same _ _) (Nat.le_refl _) (Nat.le_refl _) (fun h => absurd h (by omega))
end rules

/-! ### A function -/
def vres1 (P : Program) (H : List VB) (tm : TM) : ResultVar → Option SV
  | .tmp t => some (tget tm t)
  | .cell a t => vload P H t (tget tm a)
def vresL (P : Program) (H : List VB) (tm : TM) : List ResultVar → Option (List SV)
  | [] => some []
  | x :: xs => match vres1 P H tm x, vresL P H tm xs with
    | some a, some l => some (a :: l)
    | _, _ => none
def vone : List SV → SV
  | [x] => x
  | l => .tup l
def vresults (P : Program) (H : List VB) (rs : List ResultVar) (tm : TM) : Option SV := (vresL P H tm rs).map vone
def resSem (tmps : Array Value) : ResultVar → Sem Value
  | .tmp t => pure (tmps.getD t undef)
  | .cell a t => do loadVar t (← asAddr (tmps.getD a undef))
theorem results_eq (fn : Func) (tmps : Array Value) : results fn tmps = (do let vs ← fn.results.mapM (resSem tmps); pure (if h : vs.size = 1 then vs[0] else .tuple vs)) := by
  have : (fun | .tmp t => pure (tmps.getD t undef) | .cell a t => do loadVar t (← asAddr (tmps.getD a undef)) : ResultVar → Sem Value) = resSem tmps := funext fun x => by cases x <;> rfl
  unfold results
  rw [← this]
  rfl
theorem vresL_sound {P : Program} {R : Env} {N : Nat} {tm : TM} {a : Act} (h : HRep R) (ht : TRep R N tm a) : ∀ (rs : List ResultVar) (l : List SV), vresL P R.H tm rs = some l →
    ∃ vs : List Value, (rs.mapM (resSem a.tmps) : Sem (List Value)).run P R.w = .ok vs R.w ∧
      vs.length = l.length ∧ ∀ (i : Nat) (hi : i < l.length) (hj : i < vs.length), Rep R l[i] vs[i]
  | [], l, h1 => by
    cases h1
    exact ⟨[], by simp, rfl, fun i hi => by cases hi⟩
  | x :: xs, l, h1 => by
    simp only [vresL] at h1
    split at h1
    · rename_i y l' hy hl
      cases h1
      obtain ⟨vs, q1, q2, q3⟩ := vresL_sound h ht xs l' hl
      cases x with
      | tmp t =>
        cases hy
        refine ⟨a.tmps.getD t undef :: vs, ?_, by simp [q2], ?_⟩
        · simp only [List.mapM_cons, resSem, Sem.run_bind, Sem.run_pure, Result.andThen_ok, q1]
        · rintro (_ | i) hi hj
          · exact ht.get t
          · exact q3 i (by simpa using hi) (by simpa using hj)
      | cell x t =>
        obtain ⟨b, o, v, p1, p2, p3⟩ := vload_sound h hy (ht.get x)
        refine ⟨v :: vs, ?_, by simp [q2], ?_⟩
        · simp only [List.mapM_cons, resSem, Sem.run_bind, p1, asAddr, Sem.run_pure, Result.andThen_ok, p2, q1]
        · rintro (_ | i) hi hj
          · exact p3
          · exact q3 i (by simpa using hi) (by simpa using hj)
    · cases h1
theorem vresults_sound {P : Program} {R : Env} {N : Nat} {tm : TM} {a : Act} (h : HRep R) (ht : TRep R N tm a) {fn : Func} {r : SV} (hr : vresults P R.H fn.results.toList tm = some r) :
    ∃ v, (results fn a.tmps).run P R.w = .ok v R.w ∧ Rep R r v := by
  unfold vresults at hr
  obtain ⟨l, hl, rfl⟩ := Option.map_eq_some_iff.1 hr
  obtain ⟨vs, q1, q2, q3⟩ := vresL_sound (P := P) h ht _ _ hl
  simp only [results_eq, Array.mapM_eq_mapM_toList, Sem.run_bind, Sem.run_map, q1, Result.andThen_ok, Sem.run_pure]
  refine ⟨_, rfl, ?_⟩
  match l, vs, q2, q3 with
  | [], [], _, _ => exact .tup [] #[] rfl (fun i hi => by cases hi)
  | [x], [y], _, q3 => exact q3 0 (by simp) (by simp)
  | x :: x' :: l, y :: y' :: vs, q2, q3 =>
    have : ¬ ((y :: y' :: vs).toArray.size = 1) := by simp
    rw [dif_neg this]
    exact .tup _ _ (by simpa using q2) fun i hi hj => by simpa using q3 i hi (by simpa using hj)
def VRet (R0 : Env) (P : Program) (rs : List ResultVar) (K : SV → List VB → Prop) (tm : TM) (H : List VB) : Prop :=
  ∃ r, vresults P H rs tm = some r ∧ (K r H ∨ ∃ Hf r', HSub R0.H H Hf ∧ Frz H Hf.length r r' ∧ K r' Hf)
def vfn (R0 : Env) (P : Program) (rs : List ResultVar) (K : SV → List VB → Prop) : VQ
  | .normal, tm, H => VRet R0 P rs K tm H
  | .ret, tm, H => VRet R0 P rs K tm H
  | _, _, _ => False
def argsTM : Nat → List SV → TM
  | _, [] => []
  | i, x :: xs => (i, x) :: argsTM (i + 1) xs
theorem argsTM_get : ∀ (xs : List SV) (i t : Nat), tget (argsTM i xs) t = if i ≤ t then xs.getD (t - i) .junk else .junk
  | [], i, t => by simp [argsTM, tget]
  | x :: xs, i, t => by
    simp only [argsTM, tget]
    cases hb : Nat.beq i t
    · have hne : i ≠ t := fun h => by subst h; simp at hb
      simp only [cond_false, argsTM_get xs (i + 1) t]
      by_cases hle : i ≤ t
      · rw [if_pos hle, if_pos (by omega)]
        obtain ⟨d, rfl⟩ : ∃ d, t = i + 1 + d := ⟨t - (i + 1), by omega⟩
        rw [show i + 1 + d - (i + 1) = d by omega, show i + 1 + d - i = d + 1 by omega]
        rfl
      · rw [if_neg hle, if_neg (by omega)]
    · have hk : i = t := Nat.eq_of_beq_eq_true hb
      subst hk
      simp
theorem callsIn_WF {r : Option Nat} {n : Nat} {P : Program} {f : FuncId} {args : Array Value} {w : World} {R : Ending → World → Prop} (h : Calls P f args w R) : CallsIn (WF r) n P f args w R :=
  show CallsIn Fence.wide n P f args w R from callsIn_wide.2 h
theorem vcalls_intro {P : Program} {f : FuncId} {fn : Func} {c : Code} {args : List SV} {H : List VB} {K : SV → List VB → Prop} (hf : P.funcs[f]? = some fn) (hb : fn.body = some c)
    (hc : callable P f = true) (hlen : args.length ≤ fn.ntmps)
    (h : ∀ R0 : Env, R0.H = H → HBel R0.H → VWp R0 P fn.ntmps c (argsTM 0 args) R0.H (vfn R0 P fn.results.toList K)) : VCalls P f args H K := by
  refine ⟨hc, fun R vs h1 h2 h3 => ?_⟩
  refine callsIn_wide (n := 0).1 (callsIn_of_wp hf hb trivial ?_)
  have hB : HBel R.H := fun id b hb => h1.bel hb
  have ht : TRep R fn.ntmps (argsTM 0 args) { tmps := vs ++ Array.replicate (fn.ntmps - vs.size) undef, defers := [] } := by
    refine ⟨by simp [h3.1]; omega, fun t => ?_⟩
    rw [argsTM_get]
    simp only [Nat.zero_le, if_true, Nat.sub_zero]
    by_cases hlt : t < args.length
    · have hv : t < vs.size := by rw [h3.1]; exact hlt
      have := h3.2 t hlt hv
      rw [List.getD_eq_getElem?_getD, List.getElem?_eq_getElem hlt, Array.getD_eq_getD_getElem?, Array.getElem?_append_left hv, Array.getElem?_eq_getElem hv]
      exact this
    · rw [List.getD_eq_getElem?_getD, List.getElem?_eq_none (by omega)]
      exact .junk _
  refine wpIn_mono (h R h2 hB none 0 R _ (Ext.refl h1) h1 rfl ht) ?_
  rintro e a' w' ⟨R', tm', rfl, q2, q3, q4, q5, q6⟩
  have key : VRet R P fn.results.toList K tm' R'.H → a'.defers = [] ∧ ∃ v, (results fn a'.tmps).run P R'.w = .ok v R'.w ∧
      ∃ v' r R'', Ending.returned v = .returned v' ∧ R''.w = R'.w ∧ Ext R R'' ∧ HRep R'' ∧ Rep R'' r v' ∧ K r R''.H := by
    rintro ⟨r, hr, hk⟩
    obtain ⟨v, p1, p2⟩ := vresults_sound q3 q4 hr
    refine ⟨q5, v, p1, ?_⟩
    rcases hk with hk | ⟨Hf, r', s, hfz, hk⟩
    · exact ⟨v, r, R', rfl, rfl, q2, q3, p2, hk⟩
    · have s' : R'.sub Hf := ⟨s.high, s.sub⟩
      exact ⟨v, r', { R' with H := Hf }, rfl, rfl, q2.forget s' s.low, q3.forget s' (s.all hB), frz_sound q3 s' hfz p2, hk⟩
  cases e with
  | normal => exact key q6
  | ret => exact key q6
  | _ => exact q6.elim
end Go.Vm
