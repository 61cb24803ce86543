/- The virtual machine, part 18: regions that draw their order: two operations that are apart may change places. Generic: no program in sight. -/
import Derived.Test.YthgpapnbnapdhaaV17
set_option linter.unusedVariables false
set_option linter.unusedSimpArgs false
namespace Go.Vm
open Go.RowKit

def yval (P : Program) (ops : Array Oper) (e : Bool) (o : Oper) (tm : TM) (H : List VB) (K : SV → List VB → Prop) : Prop :=
  vguard ops o.guard tm
    (if isC P o.op = true then vC P o (vev tm) H (fun r H' => (e = true → HExt H H') ∧ K r H')
     else match stepF P o (vev tm) H with
      | some r => K r H
      | none => False)
    (K (.v undef) H)
section
variable {P : Program} {ops : Array Oper} {N : Nat}
theorem vguard_mono {g : Option (Nat × Bool)} {tm : TM} {a b a' b' : Prop} (h : vguard ops g tm a b) (ha : a → a') (hb : b → b') : vguard ops g tm a' b' := by
  unfold vguard at h ⊢
  split at h
  · exact ha h
  · split at h
    · split at h
      · split at h
        · rename_i hc; rw [if_pos hc]; exact ha h
        · rename_i hc; rw [if_neg hc]; exact hb h
      · exact hb h
      · exact h.elim
    · exact h.elim
theorem yval_mono {e : Bool} {o : Oper} {tm : TM} {H : List VB} {K K' : SV → List VB → Prop} (h : yval P ops e o tm H K) (hk : ∀ r H', ((e = true ∨ isC P o.op = false) → HExt H H') → K r H' → K' r H') : yval P ops e o tm H K' := by
  refine vguard_mono h (fun h => ?_) fun h => hk _ _ (fun _ => HExt.refl _) h
  split at h
  · rename_i hc
    rw [if_pos hc]
    exact vC_mono h fun r H' h => ⟨h.1, hk _ _ (fun h' => h.1 (h'.resolve_right (by simp [hc]))) h.2⟩
  · rename_i hc
    rw [if_neg hc]
    split at h
    · exact hk _ _ (fun _ => HExt.refl _) h
    · exact h.elim
theorem vop_of_yval {e : Bool} {o : Oper} {tm : TM} {H : List VB} {next : TM → List VB → Prop} (h : yval P ops e o tm H fun r H' => vput N o.dst r H' tm next) : vop P N ops o tm H next := by
  refine vguard_mono h (fun h => ?_) id
  split at h
  · rename_i hc; rw [if_pos hc]; exact vC_mono h fun r H' h => h.2
  · rename_i hc; rw [if_neg hc]; exact h
def fval (P : Program) (ops : Array Oper) (o : Oper) (tm : TM) (H : List VB) : Option SV :=
  match o.guard with
  | none => stepF P o (vev tm) H
  | some (g, b) => match gslot ops g with
    | some d => match tget tm d with
      | .v (.bool c) => if c = b then stepF P o (vev tm) H else some (.v undef)
      | .v (.tuple _) => some (.v undef)
      | _ => none
    | none => none
theorem yval_F {e : Bool} {o : Oper} (hC : isC P o.op = false) {tm : TM} {H : List VB} {K : SV → List VB → Prop} : yval P ops e o tm H K ↔ ∃ r, fval P ops o tm H = some r ∧ K r H := by
  have key : (match stepF P o (vev tm) H with
      | some r => K r H
      | none => False) ↔ ∃ r, stepF P o (vev tm) H = some r ∧ K r H := by
    cases stepF P o (vev tm) H with
    | none => simp
    | some r => simp
  unfold yval vguard fval
  simp only [hC, Bool.false_eq_true, if_false]
  cases o.guard with
  | none => exact key
  | some gb =>
    obtain ⟨g, b⟩ := gb
    simp only
    cases gslot ops g with
    | none => simp
    | some d =>
      simp only
      generalize tget tm d = z
      cases z with
      | v x =>
        cases x with
        | bool c =>
          simp only
          by_cases hcb : c = b
          · simp only [hcb, if_true]; exact key
          · simp only [hcb, if_false]; simp
        | _ => simp
      | _ => simp
theorem fval_ext {o : Oper} {tm : TM} {H H' : List VB} (hx : HExt H H' ∨ looksH P o.op = false) {r : SV} (h : fval P ops o tm H = some r) : fval P ops o tm H' = some r := by
  have key : ∀ r, stepF P o (vev tm) H = some r → stepF P o (vev tm) H' = some r := fun r h => by
    rcases hx with hx | hx
    · exact stepF_ext hx h
    · rw [← stepF_free hx H]; exact h
  unfold fval at h ⊢
  split at h
  · exact key _ h
  · split at h
    · split at h
      · split at h
        · rename_i hc; rw [if_pos hc]; exact key _ h
        · rename_i hc; rw [if_neg hc]; exact h
      · exact h
      · cases h
    · cases h
def Agree (ops : Array Oper) (o : Oper) (tm tm' : TM) : Prop := ∀ t, t ∈ o.looksAt ops → tget tm t = tget tm' t
theorem Agree.opnd {o : Oper} {tm tm' : TM} (h : Agree ops o tm tm') : ∀ x, x ∈ o.op.operands → vev tm x = vev tm' x := fun x hx => by
  cases x with
  | tmp t => exact h t (List.mem_append_left _ (List.mem_filterMap.2 ⟨.tmp t, by simpa using hx, rfl⟩))
  | _ => rfl
theorem Agree.slot {o : Oper} {tm tm' : TM} (h : Agree ops o tm tm') {g : Nat} {b : Bool} (hg : o.guard = some (g, b)) {d : Tmp} (hd : gslot ops g = some d) : tget tm d = tget tm' d :=
  h d (List.mem_append_right _ (by unfold gslot at hd; simp [hg, hd]))
theorem vguard_congr {o : Oper} {tm tm' : TM} (h : Agree ops o tm tm') {a b : Prop} (hv : vguard ops o.guard tm a b) : vguard ops o.guard tm' a b := by
  unfold vguard at hv ⊢
  cases hg : o.guard with
  | none => rw [hg] at hv; exact hv
  | some gb =>
    obtain ⟨g, c⟩ := gb
    rw [hg] at hv
    simp only at hv ⊢
    cases hd : gslot ops g with
    | none => rw [hd] at hv; exact hv
    | some d =>
      rw [hd] at hv
      simp only at hv ⊢
      rw [← h.slot hg hd]
      exact hv
theorem yval_congr {e : Bool} {o : Oper} {tm tm' : TM} (h : Agree ops o tm tm') {H : List VB} {K : SV → List VB → Prop} (hv : yval P ops e o tm H K) : yval P ops e o tm' H K := by
  refine vguard_congr h (vguard_mono hv (fun h' => ?_) id)
  split at h'
  · rename_i hc; rw [if_pos hc]; exact vC_congr h.opnd h'
  · rename_i hc; rw [if_neg hc, ← stepF_congr h.opnd]; exact h'
theorem fval_congr {o : Oper} {tm tm' : TM} (h : Agree ops o tm tm') {H : List VB} : fval P ops o tm H = fval P ops o tm' H := by
  unfold fval
  rw [stepF_congr h.opnd]
  cases hg : o.guard with
  | none => rfl
  | some gb =>
    obtain ⟨g, c⟩ := gb
    simp only
    cases hd : gslot ops g with
    | none => rfl
    | some d => simp only; rw [h.slot hg hd]
def TEq (tm tm' : TM) : Prop := ∀ t, tget tm t = tget tm' t
theorem TEq.cons {tm tm' : TM} (h : TEq tm tm') (d : Tmp) (r : SV) : TEq ((d, r) :: tm) ((d, r) :: tm') := fun t => by simp only [tget]; rw [h t]
theorem TEq.swap {tm : TM} {d d' : Tmp} (hne : d ≠ d') (r r' : SV) : TEq ((d, r) :: (d', r') :: tm) ((d', r') :: (d, r) :: tm) := fun t => by
  simp only [tget]
  cases h1 : Nat.beq d t <;> cases h2 : Nat.beq d' t <;> simp only [cond_true, cond_false]
  exact absurd ((Nat.eq_of_beq_eq_true h1).trans (Nat.eq_of_beq_eq_true h2).symm) hne
def RespT (k : TM → List VB → Prop) : Prop := ∀ tm tm' H, TEq tm tm' → k tm H → k tm' H
theorem vput_resp {dst : Option Tmp} {r : SV} {H : List VB} {tm tm' : TM} {k : TM → List VB → Prop} (hk : RespT k) (e : TEq tm tm') (h : vput N dst r H tm k) : vput N dst r H tm' k := by
  cases dst with
  | none => exact hk _ _ _ e h
  | some d => exact ⟨h.1, hk _ _ _ (e.cons d r) h.2⟩
def step (P : Program) (N : Nat) (ops : Array Oper) (fl : Nat → Bool) (i : Nat) (tm : TM) (H : List VB) (next : TM → List VB → Prop) : Prop :=
  match ops[i]? with
  | some o => yval P ops (fl i) o tm H fun r H' => vput N o.dst r H' tm next
  | none => False
theorem step_mono {fl : Nat → Bool} {i : Nat} {tm : TM} {H : List VB} {k k' : TM → List VB → Prop} (h : step P N ops fl i tm H k) (hk : ∀ tm H, k tm H → k' tm H) : step P N ops fl i tm H k' := by
  unfold step at h ⊢
  split at h
  · exact yval_mono h fun r H' _ h => vput_mono h hk
  · exact h.elim
theorem step_resp {fl : Nat → Bool} {i : Nat} {k : TM → List VB → Prop} (hk : RespT k) : RespT fun tm H => step P N ops fl i tm H k := fun tm tm' H e h => by
  unfold step at h ⊢
  split at h
  · exact yval_congr (fun t _ => e t) (yval_mono h fun r H' _ h => vput_resp hk e h)
  · exact h.elim
/-- May they be carried out in either order? (x stands first.) -/
def swapOk (P : Program) (ops : Array Oper) (fl : Nat → Bool) (i j : Nat) : Bool :=
  match ops[i]?, ops[j]? with
  | some x, some y => x.apart ops y && !isC P x.op && (!isC P y.op || !looksH P x.op || fl j)
  | _, _ => false
theorem step_swap {fl : Nat → Bool} {i j : Nat} (hs : swapOk P ops fl i j = true) {tm : TM} {H : List VB} {k : TM → List VB → Prop} (hk : RespT k)
    (h : step P N ops fl i tm H fun tm H => step P N ops fl j tm H k) : step P N ops fl j tm H fun tm H => step P N ops fl i tm H k := by
  unfold swapOk at hs
  split at hs
  · rename_i x y hx hy
    simp only [Bool.and_eq_true, Bool.not_eq_true'] at hs
    obtain ⟨⟨hap, hxc⟩, hyc⟩ := hs
    obtain ⟨a1, a2, a3⟩ := Oper.apart_spec hap
    simp only [step, hx, hy] at h ⊢
    obtain ⟨r, hr, h⟩ := (yval_F hxc).1 h
    have key : ∀ (tm1 : TM) (H1 : List VB), (HExt H H1 ∨ looksH P x.op = false) → Agree ops x tm1 tm → vput N x.dst r H1 tm1 k → yval P ops (fl i) x tm1 H1 fun r H' => vput N x.dst r H' tm1 k := fun tm1 H1 e g hh =>
      (yval_F hxc).2 ⟨r, by rw [fval_congr g]; exact fval_ext e hr, hh⟩
    have dcase : ∀ o : Option Tmp, o = none ∨ ∃ d, o = some d := fun o => by cases o <;> simp
    rcases dcase x.dst with hxd | ⟨dx, hxd⟩
    · rw [hxd] at h
      refine yval_mono h fun ry H1 e hh => ?_
      have e' : HExt H H1 ∨ looksH P x.op = false := by
        simp only [Bool.or_eq_true, Bool.not_eq_true'] at hyc
        rcases hyc with (h1 | h1) | h1
        · exact .inl (e (.inr h1))
        · exact .inr h1
        · exact .inl (e (.inl h1))
      rcases dcase y.dst with hyd | ⟨dy, hyd⟩ <;> rw [hyd] at hh ⊢
      · exact key _ _ e' (fun _ _ => rfl) (by rw [hxd]; exact hh)
      · refine ⟨hh.1, key _ _ e' (fun t ht => ?_) (by rw [hxd]; exact hh.2)⟩
        simp only [tget]
        cases hb : Nat.beq dy t
        · rfl
        · exact absurd (Nat.eq_of_beq_eq_true hb ▸ ht) (a3 dy hyd)
    · rw [hxd] at h
      obtain ⟨hN, h⟩ := h
      have hag : Agree ops y ((dx, r) :: tm) tm := fun t ht => by
        simp only [tget]
        cases hb : Nat.beq dx t
        · rfl
        · exact absurd (Nat.eq_of_beq_eq_true hb ▸ ht) (a1 dx hxd)
      refine yval_mono (yval_congr hag h) fun ry H1 e hh => ?_
      have e' : HExt H H1 ∨ looksH P x.op = false := by
        simp only [Bool.or_eq_true, Bool.not_eq_true'] at hyc
        rcases hyc with (h1 | h1) | h1
        · exact .inl (e (.inr h1))
        · exact .inr h1
        · exact .inl (e (.inl h1))
      rcases dcase y.dst with hyd | ⟨dy, hyd⟩ <;> rw [hyd] at hh ⊢
      · exact key _ _ e' (fun _ _ => rfl) (by rw [hxd]; exact ⟨hN, hh⟩)
      · have hne : dy ≠ dx := fun e => a2 dx hxd (by rw [hyd, e])
        refine ⟨hh.1, key _ _ e' (fun t ht => ?_) (by rw [hxd]; exact ⟨hN, hk _ _ _ (TEq.swap hne ry r) hh.2⟩)⟩
        simp only [tget]
        cases hb : Nat.beq dy t
        · rfl
        · exact absurd (Nat.eq_of_beq_eq_true hb ▸ ht) (a3 dy hyd)
  · cases hs
def runL (P : Program) (N : Nat) (ops : Array Oper) (fl : Nat → Bool) : List Nat → TM → List VB → (TM → List VB → Prop) → Prop
  | [], tm, H, k => k tm H
  | i :: is, tm, H, k => step P N ops fl i tm H fun tm H => runL P N ops fl is tm H k
theorem runL_resp {fl : Nat → Bool} {k : TM → List VB → Prop} (hk : RespT k) : ∀ is : List Nat, RespT fun tm H => runL P N ops fl is tm H k
  | [] => hk
  | i :: is => step_resp (runL_resp hk is)
/-- What may change places with all that stand ahead may be carried out first. -/
theorem runL_front {fl : Nat → Bool} {k : TM → List VB → Prop} (hk : RespT k) {i : Nat} : ∀ (pre post : List Nat), (∀ x, x ∈ pre → swapOk P ops fl x i = true) → ∀ (tm : TM) (H : List VB), runL P N ops fl (pre ++ i :: post) tm H k →
    step P N ops fl i tm H fun tm H => runL P N ops fl (pre ++ post) tm H k
  | [], post, _, tm, H, h => h
  | x :: pre, post, hs, tm, H, h => by
    refine step_swap (hs x (by simp)) (runL_resp hk (pre ++ post)) ?_
    exact step_mono h fun tm1 H1 h1 => runL_front hk pre post (fun y hy => hs y (by simp [hy])) tm1 H1 h1
end
end Go.Vm
