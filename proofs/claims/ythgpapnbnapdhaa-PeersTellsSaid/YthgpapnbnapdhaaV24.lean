/- The virtual machine, part 24: functions that range over a function, as a reckoning. Generic: no program in sight. -/
import Derived.Test.YthgpapnbnapdhaaV23
set_option linter.unusedVariables false
set_option linter.unusedSimpArgs false
namespace Go.Vm
open Go.RowKit

structure KWpS (R0 : Env) (P : Program) (N : Nat) (c : Code) (tm : TM) (h : KH) (Q : KQ) : Prop where
  h : VWpS R0 P N c tm h.flat (qLift h.n0 Q)
structure KWpM (R0 : Env) (P : Program) (N : Nat) (c : Code) (tm : TM) (h : KH) (Q : KQ) : Prop where
  h : VWpM R0 P N c tm h.flat (qLift h.n0 Q)
section
variable {R0 : Env} {P : Program} {N : Nat} {tm : TM} {h : KH} {Q : KQ}
theorem kwps_pre {x y : Code} (ho : h.ok) (hk : kexec R0 P N x tm h (kthen (fun tm' h' => KWpS R0 P N y tm' h' Q) fun _ _ _ => False)) : KWpS R0 P N (.seq x y) tm h Q :=
  ⟨vwps_pre (VWp.mono (kexec_sound x tm h _ ho hk) fun e tm' H' ⟨h', e1, e2, e3, e4⟩ => by
    cases e with
    | normal =>
      have := e4.h
      rw [e1, e3] at this
      exact this
    | _ => exact e4)⟩
theorem VWpS.mono {c : Code} {H : List VB} {Q Q' : VQ} (hk : VWpS R0 P N c tm H Q) (hq : ∀ e tm H, Q e tm H → Q' e tm H) : VWpS R0 P N c tm H Q' :=
  fun R a h1 h2 h3 h4 h5 => wpIn_mono (hk R a h1 h2 h3 h4 h5) fun e a w hh => VPostM.mono hq e a w hh
theorem kwps_seq {x y : Code} (hk : KWpS R0 P N x tm h (kthen (fun tm' h' => KWpM R0 P N y tm' h' Q) Q)) : KWpS R0 P N (.seq x y) tm h Q :=
  ⟨vwps_seq (hk.h.mono fun e tm' H' ⟨h', e1, e2, e3, e4⟩ => by
    cases e with
    | normal =>
      have := e4.h
      rw [e1, e3] at this
      exact this
    | _ => exact ⟨h', e1, e2, e3, e4⟩)⟩
theorem kwps_block {id : Nat} {c : Code} (hk : KWpS R0 P N c tm h (kblock id Q)) : KWpS R0 P N (.block id c) tm h Q :=
  ⟨vwps_block (hk.h.mono fun e tm' H' ⟨h', e1, e2, e3, e4⟩ => by
    cases e with
    | exit id' =>
      simp only [kblock] at e4
      simp only [vblock]
      split at e4
      · rename_i hb; rw [hb]; exact ⟨h', e1, e2, e3, e4⟩
      · rename_i hb; rw [hb]; exact ⟨h', e1, e2, e3, e4⟩
    | _ => exact ⟨h', e1, e2, e3, e4⟩)⟩
theorem kwps_m {c : Code} (hk : KWpM R0 P N c tm h Q) : KWpS R0 P N c tm h Q := ⟨vwps_m hk.h⟩
/-- Behind the loop: what is walked is walked from there. -/
theorem kwpm_of {c : Code} (ho : h.ok) (nm : NoMap h.flat) (hk : ∀ R1 : Env, R1.H = h.flat → HBel h.flat → kexec R1 P N c tm h fun e tm' h' => NoMap h'.flat ∧ Q e tm' h') : KWpM R0 P N c tm h Q :=
  ⟨by
    have := vwpm_of (R0 := R0) (P := P) (N := N) (c := c) (tm := tm) (H := h.flat) (Q := qLift h.n0 fun e tm' h' => NoMap h'.flat ∧ Q e tm' h') (fun e tm H ⟨h', e1, _, _, e4⟩ => e1 ▸ e4.1) nm
      (fun R1 h1 hb _ => kexec_sound c tm h _ ho (hk R1 h1 hb))
    intro R a q1 q2 q3 q4 q5
    exact wpIn_mono (this R a q1 q2 q3 q4 q5) fun e a w hh => VPostM.mono (fun e tm H ⟨h', e1, e2, e3, e4⟩ => ⟨h', e1, e2, e3, e4.2⟩) e a w hh⟩
theorem kwps_range {α : Type} {enc : α → Int} {g : Operand} {t d : Tmp} {rid : Nat} {ty : TypeId} {pos : String} {after : Array Edge} {body : Code} {gf : FuncId} {id : Nat} {c : Int} {xs : List α} {NN : Nat} (hf : List α → KH)
    (hiter : ∀ (b o : Nat) (w : World), w.cell? ⟨b, o, none⟩ = some (.int .i64 c) → SeqStopsK (WF none) 1 P gf #[.pointer (some ⟨b, o, none⟩)] (fun x : α => #[Value.int .i64 (enc x)]) (SameAt b o) (fun ys => ys = xs) (fun pre => pre <+: xs) NN w)
    (h0 : hf [] = h) (hcall : callable P gf = true) (nm : ∀ pre, NoMap (hf pre).flat) (hg : vev tm g = .fn gf [.ptr id 0])
    (hid : ∀ pre, (hf pre).flat[id]? = some (.box [.v (.int .i64 c)])) (ht : Nat.blt t N = true) (hd : Nat.blt d N = true) (ok : ∀ pre, (hf pre).ok ∧ (hf pre).n0 = h.n0)
    (hbody : ∀ (R1 : Env) (pre : List α) (x : α), pre.length < NN → R1.H = (hf pre).flat → HBel (hf pre).flat → kexec R1 P N body ((d, .v (.int .i64 (enc x))) :: (t, .v (.int .i64 (enc x))) :: tm) (hf pre) (kthen (fun tm' h' => KEnd (h' = hf (pre ++ [x]))) fun _ _ _ => False))
    (hdone : Q .normal tm (hf xs)) : KWpS R0 P N (.rangeFunc g #[t] (.region rid #[⟨some d, .assign (.tmp t), ty, pos, after, none⟩] false) body) tm h Q := by
  subst h0
  refine ⟨vwps_range (Hinv := fun pre => (hf pre).flat) hcall nm hg rfl hid ht hd hiter (fun R1 pre x hlt h1 hb => ?_) ⟨hf xs, rfl, (ok xs).1, (ok xs).2, hdone⟩⟩
  refine VWp.mono (kexec_sound body _ (hf pre) _ (ok pre).1 (hbody R1 pre x hlt h1 hb)) fun e tm' H' ⟨h', e1, e2, e3, e4⟩ => ?_
  cases e with
  | normal => exact e1.symm.trans (congrArg KH.flat e4.h)
  | _ => exact e4
theorem kcalls_marks {f : FuncId} {fn : Func} {c : Code} {args : List SV} {H : List VB} {K : SV → List VB → Prop} (hf : P.funcs[f]? = some fn) (hb : fn.body = some c)
    (hc : callable P f = true) (hlen : Nat.ble args.length fn.ntmps = true)
    (hk : ∀ R0 : Env, R0.H = H → HBel H → KWpS R0 P fn.ntmps c (argsTM 0 args) ⟨H.length, H, []⟩ (kfn R0 P fn.results.toList K)) : VCalls P f args H K := by
  refine vcalls_marks hf hb hc (by simpa using hlen) fun R0 h1 h2 => ?_
  have := (hk R0 h1 (h1 ▸ h2)).h
  have e : (⟨H.length, H, []⟩ : KH).flat = R0.H := by simp [KH.flat, h1]
  rw [e] at this
  refine this.mono ?_
  rintro en tm H' ⟨h', e1, e2, e3, e4⟩
  cases en with
  | normal => exact e1 ▸ kret_sound e4
  | ret => exact e1 ▸ kret_sound e4
  | _ => exact e4.elim
end
theorem noMap_append {H X : List VB} (h : NoMap H) (hx : ∀ b, b ∈ X → ∀ es, b ≠ .map es) : NoMap (H ++ X) := fun id es he => by
  by_cases hlt : id < H.length
  · rw [List.getElem?_append_left hlt] at he; exact h id es he
  · rw [List.getElem?_append_right (by omega)] at he
    exact hx _ (List.mem_of_getElem? he) es rfl
end Go.Vm
