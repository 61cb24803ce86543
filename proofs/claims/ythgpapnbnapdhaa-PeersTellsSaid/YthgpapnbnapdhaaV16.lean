/- The virtual machine, part 16: code and functions as a reckoning (kexec, kcalls), loops. Generic: no program in sight. -/
import Derived.Test.YthgpapnbnapdhaaV15
set_option linter.unusedVariables false
set_option linter.unusedSimpArgs false
namespace Go.Vm
open Go.RowKit

theorem vput_mono {N : Nat} {dst : Option Tmp} {r : SV} {H : List VB} {tm : TM} {k k' : TM → List VB → Prop} (h : vput N dst r H tm k) (hk : ∀ tm H, k tm H → k' tm H) : vput N dst r H tm k' := by
  cases dst with
  | none => exact hk _ _ h
  | some d => exact ⟨h.1, hk _ _ h.2⟩
theorem vop_mono {P : Program} {N : Nat} {ops : Array Oper} {o : Oper} {tm : TM} {H : List VB} {k k' : TM → List VB → Prop} (h : vop P N ops o tm H k) (hk : ∀ tm H, k tm H → k' tm H) : vop P N ops o tm H k' := by
  have yes : (if isC P o.op = true then vC P o (vev tm) H (fun r H' => vput N o.dst r H' tm k) else match stepF P o (vev tm) H with
        | some r => vput N o.dst r H tm k
        | none => False) → (if isC P o.op = true then vC P o (vev tm) H (fun r H' => vput N o.dst r H' tm k') else match stepF P o (vev tm) H with
        | some r => vput N o.dst r H tm k'
        | none => False) := by
    intro h
    split at h
    · rename_i hc; rw [if_pos hc]; exact vC_mono h fun r H' hh => vput_mono hh hk
    · rename_i hc
      rw [if_neg hc]
      split at h
      · exact vput_mono h hk
      · exact h.elim
  unfold vop vguard at *
  split at h
  · exact yes h
  · split at h
    · split at h
      · split at h
        · rename_i hcb; rw [if_pos hcb]; exact yes h
        · rename_i hcb; rw [if_neg hcb]; exact vput_mono h hk
      · exact vput_mono h hk
      · exact h.elim
    · exact h.elim
def kopsL (P : Program) (N : Nat) (ops : Array Oper) : List Oper → TM → KH → (TM → KH → Prop) → Prop
  | [], tm, h, k => k tm h
  | o :: rest, tm, h, k => kop P N ops o tm h fun tm' h' => kopsL P N ops rest tm' h' k
theorem vopsL_mono {P : Program} {N : Nat} {ops : Array Oper} : ∀ (os : List Oper) {tm : TM} {H : List VB} {k k' : TM → List VB → Prop}, vopsL P N ops os tm H k → (∀ tm H, k tm H → k' tm H) → vopsL P N ops os tm H k'
  | [], _, _, _, _, h, hk => hk _ _ h
  | o :: rest, _, _, _, _, h, hk => vop_mono h fun tm H hh => vopsL_mono rest hh hk
theorem kopsL_sound {P : Program} {N : Nat} {ops : Array Oper} : ∀ (os : List Oper) {tm : TM} {h : KH} {k : TM → KH → Prop}, h.ok → kopsL P N ops os tm h k → vopsL P N ops os tm h.flat (hLift h.n0 k)
  | [], tm, h, k, ho, hk => ⟨h, rfl, ho, rfl, hk⟩
  | o :: rest, tm, h, k, ho, hk => vop_mono (kop_sound ho hk) fun tm' H' ⟨h', e1, e2, e3, e4⟩ => by
      have := kopsL_sound rest e2 e4
      rw [e1, e3] at this
      exact this

abbrev KQ := Exit → TM → KH → Prop
def qLift (n0 : Nat) (Q : KQ) : VQ := fun e tm H => ∃ h : KH, h.flat = H ∧ h.ok ∧ h.n0 = n0 ∧ Q e tm h
structure KWp (R0 : Env) (P : Program) (N : Nat) (c : Code) (tm : TM) (h : KH) (Q : KQ) : Prop where
  h : VWp R0 P N c tm h.flat (qLift h.n0 Q)
def kcond (x : SV) (A B : Prop) : Prop := match x with
  | .v (.bool b) => match b with
    | true => A
    | false => B
  | _ => False
def kthen (next : TM → KH → Prop) (Q : KQ) : KQ
  | .normal, tm, h => next tm h
  | e, tm, h => Q e tm h
def kblock (id : Nat) (Q : KQ) : KQ
  | .exit id', tm, h => match Nat.beq id' id with
    | true => Q .normal tm h
    | false => Q (.exit id') tm h
  | e, tm, h => Q e tm h
def kexec (R0 : Env) (P : Program) (N : Nat) : Code → TM → KH → KQ → Prop
  | .skip, tm, h, Q => Q .normal tm h
  | .label _, tm, h, Q => Q .normal tm h
  | .ret, tm, h, Q => Q .ret tm h
  | .exit id, tm, h, Q => Q (.exit id) tm h
  | .seq x y, tm, h, Q => kexec R0 P N x tm h (kthen (fun tm' h' => kexec R0 P N y tm' h' Q) Q)
  | .cond c x y, tm, h, Q => kcond (vev tm c) (kexec R0 P N x tm h Q) (kexec R0 P N y tm h Q)
  | .block id c, tm, h, Q => kexec R0 P N c tm h (kblock id Q)
  | .region id ops draw, tm, h, Q => match draw with
    | false => match ops.toList.all noDefer with
      | true => kopsL P N ops ops.toList tm h (Q .normal)
      | false => False
    | true => KWp R0 P N (.region id ops true) tm h Q
  | c, tm, h, Q => KWp R0 P N c tm h Q
theorem kexec_sound {R0 : Env} {P : Program} {N : Nat} : ∀ (c : Code) (tm : TM) (h : KH) (Q : KQ), h.ok → kexec R0 P N c tm h Q → VWp R0 P N c tm h.flat (qLift h.n0 Q)
  | .skip, tm, h, Q, ho, hk => vwp_skip ⟨h, rfl, ho, rfl, hk⟩
  | .label _, tm, h, Q, ho, hk => vwp_label ⟨h, rfl, ho, rfl, hk⟩
  | .ret, tm, h, Q, ho, hk => vwp_ret ⟨h, rfl, ho, rfl, hk⟩
  | .exit id, tm, h, Q, ho, hk => vwp_exit ⟨h, rfl, ho, rfl, hk⟩
  | .seq x y, tm, h, Q, ho, hk => vwp_seq (VWp.mono (kexec_sound x tm h _ ho hk) fun e tm' H' ⟨h', e1, e2, e3, e4⟩ => by
      cases e with
      | normal =>
        have := kexec_sound y tm' h' Q e2 e4
        rw [e1, e3] at this
        exact this
      | _ => exact ⟨h', e1, e2, e3, e4⟩)
  | .cond c x y, tm, h, Q, ho, hk => vwp_cond (by
      unfold kexec kcond at hk
      unfold vcond
      split at hk
      · rename_i b hb
        rw [hb]
        cases b
        · exact kexec_sound y tm h Q ho hk
        · exact kexec_sound x tm h Q ho hk
      · exact hk.elim)
  | .block id c, tm, h, Q, ho, hk => vwp_block (VWp.mono (kexec_sound c tm h _ ho hk) fun e tm' H' ⟨h', e1, e2, e3, e4⟩ => by
      cases e with
      | exit id' =>
        simp only [kblock] at e4
        simp only [vblock]
        split at e4
        · rename_i hb; rw [hb]; exact ⟨h', e1, e2, e3, e4⟩
        · rename_i hb; rw [hb]; exact ⟨h', e1, e2, e3, e4⟩
      | _ => exact ⟨h', e1, e2, e3, e4⟩)
  | .region id ops draw, tm, h, Q, ho, hk => by
    unfold kexec at hk
    split at hk
    · split at hk
      · rename_i hc
        obtain ⟨l⟩ := ops
        exact vwp_region hc (kopsL_sound _ ho hk)
      · exact hk.elim
    · exact hk.h
  | .loop c, tm, h, Q, ho, hk => hk.h
  | .rangeFunc f p a b, tm, h, Q, ho, hk => hk.h
  | .scope c, tm, h, Q, ho, hk => hk.h
  | .goto l, tm, h, Q, ho, hk => hk.h
  | .refuse s, tm, h, Q, ho, hk => hk.h

/-! ### Functions -/
/-- The function hands back. -/
structure KDone (R0 : Env) (K : SV → List VB → Prop) (r : SV) (h : KH) : Prop where
  h : K r h.flat ∨ ∃ Hf r', HSub R0.H h.flat Hf ∧ Frz h.flat Hf.length r r' ∧ K r' Hf
def kforce (r : SV) (K : SV → Prop) : Prop :=
  match r with
  | .v x => match x with
    | .int k n => K (.v (.int k n))
    | .bool b => match b with
      | true => K (.v (.bool true))
      | false => K (.v (.bool false))
    | .string s => K (.v (.string s))
    | x => K (.v x)
  | .agg cs => K (.agg cs)
  | .list n f xs => K (.list n f xs)
  | .slc a b c d => K (.slc a b c d)
  | .ptr a b => K (.ptr a b)
  | r => K r
theorem kforce_sound {r : SV} {K : SV → Prop} (hk : kforce r K) : K r := by
  unfold kforce at hk
  split at hk
  · split at hk
    · exact hk
    · split at hk <;> exact hk
    · exact hk
    · exact hk
  · exact hk
  · exact hk
  · exact hk
  · exact hk
  · exact hk
def kresL (P : Program) (h : KH) (tm : TM) : List ResultVar → (List SV → Prop) → Prop
  | [], K => K []
  | .tmp t :: rs, K => kforce (tget tm t) fun r => kresL P h tm rs fun l => K (r :: l)
  | .cell a t :: rs, K => kload P h t (tget tm a) fun r => kforce r fun r => kresL P h tm rs fun l => K (r :: l)
theorem kresL_sound {P : Program} {h : KH} {tm : TM} : ∀ (rs : List ResultVar) (K : List SV → Prop), kresL P h tm rs K → ∃ l, vresL P h.flat tm rs = some l ∧ K l
  | [], K, hk => ⟨[], rfl, hk⟩
  | .tmp t :: rs, K, hk => by
    obtain ⟨l, q1, q2⟩ := kresL_sound rs _ (kforce_sound hk)
    exact ⟨_, by simp only [vresL, vres1, q1], q2⟩
  | .cell a t :: rs, K, hk => by
    obtain ⟨r, p1, p2⟩ := kload_sound hk
    obtain ⟨l, q1, q2⟩ := kresL_sound rs _ (kforce_sound p2)
    exact ⟨_, by simp only [vresL, vres1, p1, q1], q2⟩
def kret (R0 : Env) (P : Program) (rs : List ResultVar) (K : SV → List VB → Prop) (tm : TM) (h : KH) : Prop :=
  kresL P h tm rs fun l => match l with
    | [x] => KDone R0 K x h
    | l => KDone R0 K (.tup l) h
theorem kret_sound {R0 : Env} {P : Program} {rs : List ResultVar} {K : SV → List VB → Prop} {tm : TM} {h : KH} (hk : kret R0 P rs K tm h) : VRet R0 P rs K tm h.flat := by
  obtain ⟨l, q1, q2⟩ := kresL_sound rs _ hk
  refine ⟨vone l, by simp only [vresults, q1, Option.map_some], ?_⟩
  match l, q2 with
  | [], q2 => exact q2.h
  | [x], q2 => exact q2.h
  | x :: y :: l, q2 => exact q2.h
def kfn (R0 : Env) (P : Program) (rs : List ResultVar) (K : SV → List VB → Prop) : KQ
  | .normal, tm, h => kret R0 P rs K tm h
  | .ret, tm, h => kret R0 P rs K tm h
  | _, _, _ => False
theorem kcalls {P : Program} {f : FuncId} {fn : Func} {c : Code} {args : List SV} {H : List VB} {K : SV → List VB → Prop} (hf : P.funcs[f]? = some fn) (hb : fn.body = some c)
    (hc : callable P f = true) (hlen : Nat.ble args.length fn.ntmps = true)
    (h : ∀ R0 : Env, R0.H = H → HBel H → kexec R0 P fn.ntmps c (argsTM 0 args) ⟨H.length, H, []⟩ (kfn R0 P fn.results.toList K)) : VCalls P f args H K := by
  refine vcalls_intro hf hb hc (by simpa using hlen) fun R0 h1 h2 => ?_
  have := kexec_sound _ _ _ _ (rfl : KH.ok ⟨H.length, H, []⟩) (h R0 h1 (h1 ▸ h2))
  have e : (⟨H.length, H, []⟩ : KH).flat = R0.H := by simp [KH.flat, h1]
  rw [e] at this
  refine this.mono ?_
  rintro en tm H' ⟨h', e1, e2, e3, e4⟩
  cases en with
  | normal => exact e1 ▸ kret_sound e4
  | ret => exact e1 ▸ kret_sound e4
  | _ => exact e4.elim
theorem hsub_base {R0 : Env} {H top : List VB} {n0 : Nat} (hH : R0.H = H) : HSub R0.H (KH.flat ⟨n0, H, top⟩) H :=
  ⟨by rw [hH]; exact Nat.le_refl _, by simp [KH.flat], fun id hid => .inl (by simp [KH.flat, List.getElem?_append_left hid]), fun id b h => .inl (by rw [hH]; exact h)⟩
/-- It hands back, all that it laid is forgotten. -/
theorem kdone_pure {R0 : Env} {K : SV → List VB → Prop} {H top : List VB} {n0 : Nat} {r : SV} (hH : R0.H = H) (hb : r.Bel H.length) (hk : K r H) : KDone R0 K r ⟨n0, H, top⟩ :=
  ⟨.inr ⟨H, r, hsub_base hH, .keep r hb, hk⟩⟩
/-- It hands back what it laid, frozen; the rest is forgotten. -/
theorem kdone_frz {R0 : Env} {K : SV → List VB → Prop} {H top : List VB} {n0 : Nat} {r r' : SV} (hH : R0.H = H) (hb : Frz (H ++ top) H.length r r') (hk : K r' H) : KDone R0 K r ⟨n0, H, top⟩ :=
  ⟨.inr ⟨H, r', hsub_base hH, hb, hk⟩⟩
theorem kdone_keep {R0 : Env} {K : SV → List VB → Prop} {h : KH} {r : SV} (hk : K r h.flat) : KDone R0 K r h := ⟨.inl hk⟩
theorem kcall_pure {P : Program} {f : FuncId} {args : List SV} {h : KH} {K : SV → KH → Prop} {r0 : SV} (hc : VCalls P f args h.flat fun r H' => r = r0 ∧ H' = h.flat) (ho : h.ok) (hk : K r0 h) : KCall P f args h K :=
  ⟨hc.mono fun r H' ⟨e1, e2⟩ => ⟨h, e2.symm, ho, rfl, e1 ▸ hk⟩⟩
/-- A call of which more is known than one result. -/
theorem kcall_some {P : Program} {f : FuncId} {args : List SV} {h : KH} {K : SV → KH → Prop} {p : SV → Prop} (hc : VCalls P f args h.flat fun r H' => p r ∧ H' = h.flat) (ho : h.ok) (hk : ∀ r, p r → K r h) : KCall P f args h K :=
  ⟨hc.mono fun r H' ⟨e1, e2⟩ => ⟨h, e2.symm, ho, rfl, hk r e1⟩⟩

/-! ### Loops -/
/-- The end of a round. -/
structure KEnd (p : Prop) : Prop where
  h : p
theorem kwp_loop {R0 : Env} {P : Program} {N : Nat} {c : Code} {tm : TM} {h : KH} {Q : KQ} {S : Type} (tmf : S → TM) (hf : S → KH) (inv : S → Prop) (μ : S → Nat) (s0 : S) (h0 : inv s0) (e0 : TSub tm (tmf s0)) (eh : h = hf s0)
    (ok : ∀ s, inv s → (hf s).ok ∧ (hf s).n0 = h.n0)
    (round : ∀ s, inv s → kexec R0 P N c (tmf s) (hf s) (kthen (fun tm' h' => KEnd (∃ s', inv s' ∧ μ s' < μ s ∧ TSub tm' (tmf s') ∧ h' = hf s')) Q)) : KWp R0 P N (.loop c) tm h Q := by
  subst eh
  refine ⟨vwp_loop (fun n tm' H' => ∃ s, inv s ∧ μ s = n ∧ TSub tm' (tmf s) ∧ H' = (hf s).flat) (μ s0) ⟨s0, h0, rfl, e0, rfl⟩ ?_⟩
  rintro n tm' H' ⟨s, hi, rfl, hsub, rfl⟩
  have := kexec_sound c (tmf s) (hf s) _ (ok s hi).1 (round s hi)
  refine vwp_weak hsub (this.mono ?_)
  rintro e tm3 H3 ⟨h', e1, e2, e3, e4⟩
  cases e with
  | normal =>
    obtain ⟨s', i1, i2, i3, rfl⟩ := e4.h
    exact ⟨μ s', i2, s', i1, rfl, i3, e1.symm⟩
  | _ => exact ⟨h', e1, e2, by rw [e3]; exact (ok s hi).2, e4⟩
end Go.Vm
