/- The virtual machine, part 23: functions that range over a function. Generic: no program in sight. -/
import Derived.Test.YthgpapnbnapdhaaV22
set_option linter.unusedVariables false
set_option linter.unusedSimpArgs false
namespace Go.Vm
open Go.RowKit

def MarksOk (n0 : Nat) (ds : List Deferred) (w : World) : Prop := ∃ D, ds = [{ target := .collected D, args := #[] }] ∧ w.heap[D]? = some (.deferred (some [])) ∧ n0 ≤ D
def VPostM (R0 : Env) (N : Nat) (Q : VQ) : Exit → Act → World → Prop := fun e a' w' =>
  ∃ R' tm', R'.w = w' ∧ Ext R0 R' ∧ HRep R' ∧ TRep R' N tm' a' ∧ (a'.defers = [] ∨ MarksOk R0.w.heap.size a'.defers w') ∧ NoMap R'.H ∧ Q e tm' R'.H
theorem VPostM.mono {R0 : Env} {N : Nat} {Q Q' : VQ} (h : ∀ e tm H, Q e tm H → Q' e tm H) : ∀ e a w, VPostM R0 N Q e a w → VPostM R0 N Q' e a w := fun _ _ _ ⟨R', tm', h1, h2, h3, h4, h5, h6, h7⟩ => ⟨R', tm', h1, h2, h3, h4, h5, h6, h _ _ _ h7⟩
/-- Nothing is marked yet. -/
def VWpS (R0 : Env) (P : Program) (N : Nat) (c : Code) (tm : TM) (H : List VB) (Q : VQ) : Prop :=
  ∀ (R : Env) (a : Act), Ext R0 R → HRep R → R.H = H → TRep R N tm a → a.defers = [] → c.wpIn (WF none) 2 P (VPostM R0 N Q) a R.w
/-- Marked, or not. -/
def VWpM (R0 : Env) (P : Program) (N : Nat) (c : Code) (tm : TM) (H : List VB) (Q : VQ) : Prop :=
  ∀ (R : Env) (a : Act), Ext R0 R → HRep R → R.H = H → TRep R N tm a → (a.defers = [] ∨ MarksOk R0.w.heap.size a.defers R.w) → c.wpIn (WF none) 2 P (VPostM R0 N Q) a R.w
def QNoMap (Q : VQ) : Prop := ∀ e tm H, Q e tm H → NoMap H
section
variable {R0 : Env} {P : Program} {N : Nat} {tm : TM} {H : List VB} {Q : VQ}
theorem vwpm_of {c : Code} (hq : ∀ e tm H, Q e tm H → NoMap H) (nm : NoMap H) (h : ∀ R1 : Env, R1.H = H → HBel H → R0.H.length ≤ R1.H.length → VWp R1 P N c tm H Q) : VWpM R0 P N c tm H Q := by
  intro R a h1 h2 h3 h4 h5
  have hB : HBel R.H := fun id b hb => h2.bel hb
  refine wpIn_mono (h R h3 (h3 ▸ hB) h1.len none 2 R a (Ext.refl h2) h2 h3 h4) ?_
  rintro e a' w' ⟨R', tm', rfl, q2, q3, q4, q5, q6⟩
  refine ⟨R', tm', rfl, h1.trans q2, q3, q4, ?_, hq _ _ _ q6, q6⟩
  rw [q5]
  refine h5.imp id ?_
  rintro ⟨D, e1, e2, e3⟩
  exact ⟨D, e1, q2.other h2 (h3 ▸ nm) e2 rfl, e3⟩
theorem vwps_m {c : Code} (h : VWpM R0 P N c tm H Q) : VWpS R0 P N c tm H Q := fun R a h1 h2 h3 h4 h5 => h R a h1 h2 h3 h4 (.inl h5)
theorem vwps_pre {x y : Code} (h : VWp R0 P N x tm H (vthen (fun tm H => VWpS R0 P N y tm H Q) (fun _ _ _ => False))) : VWpS R0 P N (.seq x y) tm H Q := by
  intro R a h1 h2 h3 h4 h5
  refine wpIn_seq (wpIn_mono (h none 2 R a h1 h2 h3 h4) ?_)
  rintro e a' w' ⟨R', tm', rfl, q2, q3, q4, q5, q6⟩
  cases e with
  | normal => exact q6 R' a' q2 q3 rfl q4 (q5.trans h5)
  | _ => exact q6.elim
theorem vwps_seq {x y : Code} (h : VWpS R0 P N x tm H (vthen (fun tm H => VWpM R0 P N y tm H Q) Q)) : VWpS R0 P N (.seq x y) tm H Q := by
  intro R a h1 h2 h3 h4 h5
  refine wpIn_seq (wpIn_mono (h R a h1 h2 h3 h4 h5) ?_)
  rintro e a' w' ⟨R', tm', rfl, q2, q3, q4, q5, q6, q7⟩
  cases e with
  | normal => exact q7 R' a' q2 q3 rfl q4 q5
  | _ => exact ⟨R', tm', rfl, q2, q3, q4, q5, q6, q7⟩
theorem vwps_block {id : Nat} {c : Code} (h : VWpS R0 P N c tm H (vblock id Q)) : VWpS R0 P N (.block id c) tm H Q := by
  intro R a h1 h2 h3 h4 h5
  refine wpIn_block (wpIn_mono (h R a h1 h2 h3 h4 h5) ?_)
  rintro e a' w' ⟨R', tm', rfl, q2, q3, q4, q5, q6, q7⟩
  cases e with
  | exit id' =>
    simp only [vblock] at q7
    simp only [Exit.inBlock]
    by_cases hid : id' = id
    · subst hid
      simp only [Nat.beq_refl, cond_true] at q7
      rw [if_pos rfl]
      exact ⟨R', tm', rfl, q2, q3, q4, q5, q6, q7⟩
    · have : Nat.beq id' id = false := by
        cases hb : Nat.beq id' id
        · rfl
        · exact absurd (Nat.eq_of_beq_eq_true hb) hid
      simp only [this, cond_false] at q7
      rw [if_neg hid]
      exact ⟨R', tm', rfl, q2, q3, q4, q5, q6, q7⟩
  | _ => exact ⟨R', tm', rfl, q2, q3, q4, q5, q6, q7⟩
def SameAt (b o : Nat) (W W' : World) : Prop := W'.cell? ⟨b, o, none⟩ = W.cell? ⟨b, o, none⟩
/-- A range over an iterator that has captured one number in a box; the rounds never leave early. -/
theorem vwps_range {α : Type} {enc : α → Int} {g : Operand} {t d : Tmp} {rid : Nat} {ty : TypeId} {pos : String} {after : Array Edge} {body : Code} {gf : FuncId} {id : Nat} {c : Int} {xs : List α} {NN : Nat} (hcall : callable P gf = true) {Hinv : List α → List VB} (nm : ∀ pre, NoMap (Hinv pre)) (hg : vev tm g = .fn gf [.ptr id 0])
    (h0 : Hinv [] = H) (hid : ∀ pre, (Hinv pre)[id]? = some (.box [.v (.int .i64 c)])) (ht : Nat.blt t N = true) (hd : Nat.blt d N = true)
    (hiter : ∀ (b o : Nat) (w : World), w.cell? ⟨b, o, none⟩ = some (.int .i64 c) → SeqStopsK (WF none) 1 P gf #[.pointer (some ⟨b, o, none⟩)] (fun x : α => #[Value.int .i64 (enc x)]) (SameAt b o) (fun ys => ys = xs) (fun pre => pre <+: xs) NN w)
    (hbody : ∀ (R1 : Env) (pre : List α) (x : α), pre.length < NN → R1.H = Hinv pre → HBel (Hinv pre) → VWp R1 P N body ((d, .v (.int .i64 (enc x))) :: (t, .v (.int .i64 (enc x))) :: tm) (Hinv pre) (vthen (fun tm' H' => H' = Hinv (pre ++ [x])) fun _ _ _ => False))
    (hdone : Q .normal tm (Hinv xs)) : VWpS R0 P N (.rangeFunc g #[t] (.region rid #[⟨some d, .assign (.tmp t), ty, pos, after, none⟩] false) body) tm H Q := by
  intro R a h1 h2 h3 h4 h5
  have hgr := h4.ev g
  rw [hg] at hgr
  obtain ⟨ad, hρ, hspot, hgv⟩ : ∃ ad : Addr, R.ρ id = some ad ∧ ad.spot = none ∧ a.eval g = .func (.func gf) #[] #[.pointer (some ⟨ad.block, ad.off, none⟩)] := by
    generalize a.eval g = v at hgr
    cases hgr with
    | fn fi cs ar hl hh =>
      obtain ⟨l⟩ := ar
      match l, hl with
      | [y], _ =>
        have hy := hh 0 (by simp) (by simp)
        simp only [List.getElem_cons_zero, List.getElem_toArray] at hy
        cases hy with
        | ptr _ _ ad hid' hb hρ hs => exact ⟨ad, hρ, hs, rfl⟩
  have cellOf : ∀ (R1 : Env) (pre : List α), HRep R1 → R1.H = Hinv pre → R1.ρ id = some ad → R1.w.cell? ⟨ad.block, ad.off, none⟩ = some (.int .i64 c) := fun R1 pre hR1 hH1 hr => by
    obtain ⟨a', cs, e, fz, q1, q2, q3, q4, q5⟩ := hR1.box id _ (hH1 ▸ hid pre)
    rw [hr] at q1
    cases q1
    have h0' : ad.off < cs.size := by simp at q4; omega
    have := q5 0 (by simp) (by simpa using h0')
    simp only [Nat.add_zero, List.getElem_cons_zero] at this
    rw [rep_v] at this
    simp [World.cell?, q2, h0', this]
  have hρ' : ∀ R1, Ext R R1 → R1.ρ id = some ad := fun R1 e => by
    have hlt := lt_of_some (hid [])
    rw [h0, ← h3] at hlt
    exact ((e.rho id hlt (fun g n xs h => by rw [h3, ← h0, hid []] at h; cases h)).1).trans hρ
  let I : List α → World → Prop := fun pre W => ∃ R1 : Env, R1.w = W ∧ Ext R R1 ∧ HRep R1 ∧ R1.H = Hinv pre
  have turnI : ∀ (R1 : Env) (W' : World) (row : Option Nat) (pre : List α), Ext R R1 → HRep R1 → R1.H = Hinv pre → R1.w.grownBy W' row → (∀ r, row = some r → R.w.heap.size ≤ r ∧ ∃ o : Obj, R1.w.heap[r]? = some o ∧ o.isCells = false) →
      Ext R { R1 with w := W' } ∧ HRep { R1 with w := W' } := fun R1 W' row pre e1 e2 e3 g hr =>
    ⟨e1.turn g (fun r hr' => (hr r hr').1), e2.turn (e3 ▸ nm pre) (Turn.of g fun r hr' => (hr r hr').2)⟩
  have hI : OwnFrom R.w.heap.size I := by
    rintro pre W W' row ⟨R1, rfl, e1, e2, e3⟩ g hr
    obtain ⟨q1, q2⟩ := turnI R1 W' row pre e1 e2 e3 g hr
    exact ⟨{ R1 with w := W' }, rfl, q1, q2, e3⟩
  have hps : ∀ x : α, (#[Value.int .i64 (enc x)] : Array Value).size = (#[t] : Array Tmp).size := fun _ => rfl
  refine wpIn_rangeFunc_ownG (F := WF none) (n := 2) rfl (by omega) (gf := gf) (lb := #[.pointer (some ⟨ad.block, ad.off, none⟩)]) hgv trivial (fun args w => callFunc_enter hcall args w)
    (hiter ad.block ad.off R.w (cellOf R [] h2 (h3.trans h0.symm) hρ)) (fun h k => k.trans h) (fun W l o o' hl ho hc hw => ?_) (Below.refl _ _) hps I (fun _ _ _ => False) hI (fun _ _ _ _ _ hs _ _ => hs)
    ⟨R, rfl, Ext.refl h2, h2, h3.trans h0.symm⟩ (fun x => { tmps := (a.tmps.setIfInBounds t (.int .i64 (enc x))).setIfInBounds d (.int .i64 (enc x)), defers := [] }) ?_ ?_ ?_ ?_
  · have hlt := (h2.addr id ad ⟨_, by rw [h3, ← h0]; exact hid [], by simp⟩ hρ).2
    exact World.cell?_of_block (World.putObj_heap_other (by show ad.block ≠ l; omega))
  · intro l x W K hK
    have e1 : ((#[t] : Array Tmp).zip #[Value.int .i64 (enc x)]).foldl (fun t (p, v) => t.setIfInBounds p v) a.tmps = a.tmps.setIfInBounds t (.int .i64 (enc x)) := by simp
    rw [e1]
    refine wpIn_region ?_
    have htl : t < a.tmps.size := by rw [h4.size]; simpa using ht
    have hev : Act.eval { tmps := a.tmps.setIfInBounds t (.int .i64 (enc x)), defers := [] } (.tmp t) = .int .i64 (enc x) := by
      simp only [Act.eval]
      rw [Array.getD_eq_getD_getElem?, Array.getElem?_setIfInBounds_self_of_lt htl]
      rfl
    show wpOpsIn (WF (some l)) 0 P _ _ [0] _ _
    simp only [wpOpsIn, List.getElem?_toArray, List.getElem?_cons_zero, Region.wanted, if_true]
    refine ⟨fun f hf => trivial, ?_⟩
    rw [Oper.semAt_eq _ _ _ (by simp)]
    simp only [execOp, hev, Sem.run_pure, Oper.uponIn]
    exact hK
  · rintro l pre x W ⟨R1, rfl, e1, e2, e3⟩ hlt
    have hB : HBel (Hinv pre) := fun id b hb => e3 ▸ e2.bel (e3 ▸ hb)
    have htr : TRep R1 N ((d, .v (.int .i64 (enc x))) :: (t, .v (.int .i64 (enc x))) :: tm) { tmps := (a.tmps.setIfInBounds t (.int .i64 (enc x))).setIfInBounds d (.int .i64 (enc x)), defers := [] } := by
      have := ((h4.mono e1).put ht (.v (.int .i64 (enc x)))).put hd (.v (.int .i64 (enc x)))
      exact ⟨this.size, this.get⟩
    refine wpIn_mono (hbody R1 pre x hlt e3 hB (some l) 0 R1 _ (Ext.refl e2) e2 e3 htr) ?_
    rintro e a' w' ⟨R', tm', rfl, q2, q3, q4, q5, q6⟩
    cases e with
    | normal =>
      refine ⟨q2.keepsFrom e2 (e3 ▸ nm pre) _, ?_, R', rfl, e1.trans q2, q3, q6⟩
      exact (cellOf R' _ q3 q6 (hρ' R' (e1.trans q2))).trans (cellOf R1 _ e2 e3 (hρ' R1 e1)).symm
    | _ => exact q6.elim
  · rintro D ys W hD rfl ⟨R1, rfl, e1, e2, e3⟩ hK
    have htr := h4.mono e1
    refine ⟨R1, tm, rfl, h1.trans e1, e2, ⟨htr.size, htr.get⟩, .inr ⟨D, by rw [h5], hK, Nat.le_trans h1.size hD⟩, e3 ▸ nm ys, ?_⟩
    rw [e3]
    exact hdone
  · rintro D c' pre W hD _ hF _
    exact hF.elim
theorem vcalls_marks {f : FuncId} {fn : Func} {c : Code} {args : List SV} {H : List VB} {K : SV → List VB → Prop} (hf : P.funcs[f]? = some fn) (hb : fn.body = some c)
    (hc : callable P f = true) (hlen : args.length ≤ fn.ntmps)
    (h : ∀ R0 : Env, R0.H = H → HBel R0.H → VWpS R0 P fn.ntmps c (argsTM 0 args) R0.H (vfn R0 P fn.results.toList K)) : VCalls P f args H K := by
  refine ⟨hc, fun R vs h1 h2 h3 => ?_⟩
  refine callsIn_wide (n := 2).1 (callsIn_of_wp_marks hf hb trivial ?_)
  have hB : HBel R.H := fun id b hb => h1.bel hb
  have ht : TRep R fn.ntmps (argsTM 0 args) { tmps := vs ++ Array.replicate (fn.ntmps - vs.size) undef, defers := [] } := by
    refine ⟨by simp [h3.1]; omega, fun t => ?_⟩
    rw [argsTM_get]
    simp only [Nat.zero_le, if_true, Nat.sub_zero]
    by_cases hlt : t < args.length
    · have hv : t < vs.size := by rw [h3.1]; exact hlt
      have := h3.2 t hlt hv
      rw [List.getD_eq_getElem?_getD, List.getElem?_eq_getElem hlt, Array.getD_eq_getD_getElem?, Array.getElem?_append_left hv, Array.getElem?_eq_getElem hv]
      exact this
    · rw [List.getD_eq_getElem?_getD, List.getElem?_eq_none (by omega)]
      exact .junk _
  refine wpIn_mono (h R h2 hB R _ (Ext.refl h1) h1 rfl ht rfl) ?_
  rintro e a' w' ⟨R', tm', rfl, q2, q3, q4, q5, q6, q7⟩
  -- the return, in whatever world that differs from the last one by the shut block
  have key : ∀ R1 : Env, R1.H = R'.H → Ext R R1 → HRep R1 → TRep R1 fn.ntmps tm' a' → VRet R P fn.results.toList K tm' R'.H → ∃ v, (results fn a'.tmps).run P R1.w = .ok v R1.w ∧
      ∃ v' r R'', Ending.returned v = .returned v' ∧ R''.w = R1.w ∧ Ext R R'' ∧ HRep R'' ∧ Rep R'' r v' ∧ K r R''.H := by
    rintro R1 e1 e2 e3 e4 ⟨r, hr, hk⟩
    rw [← e1] at hr hk
    obtain ⟨v, p1, p2⟩ := vresults_sound e3 e4 hr
    refine ⟨v, p1, ?_⟩
    rcases hk with hk | ⟨Hf, r', s, hfz, hk⟩
    · exact ⟨v, r, R1, rfl, rfl, e2, e3, p2, hk⟩
    · have s' : R1.sub Hf := ⟨s.high, s.sub⟩
      exact ⟨v, r', { R1 with H := Hf }, rfl, rfl, e2.forget s' s.low, e3.forget s' (s.all hB), frz_sound e3 s' hfz p2, hk⟩
  have fin : VRet R P fn.results.toList K tm' R'.H → LeavesInM Fence.wide 2 P fn a'.tmps (fun e w' => ∃ v r R', e = .returned v ∧ R'.w = w' ∧ Ext R R' ∧ HRep R' ∧ Rep R' r v ∧ K r R'.H) a'.defers .returning R'.w := by
    intro hv
    rcases q5 with hd | ⟨D, hd, hk, hD⟩
    · rw [hd]
      exact key R' rfl q2 q3 q4 hv
    · rw [hd]
      refine ⟨by simp, .inl ⟨D, _, rfl, run_takeDeferred hk, ?_⟩⟩
      have g := grownBy_putObj' R'.w D (.deferred none)
      have hr : ∀ r, some D = some r → ∃ o : Obj, R'.w.heap[r]? = some o ∧ o.isCells = false := fun r e => by cases e; exact ⟨_, hk, rfl⟩
      have t := Turn.of g hr
      exact key { R' with w := _ } rfl (q2.turn g (fun r e => by cases e; exact hD)) (q3.turn q6 t) ⟨q4.size, fun k => (q4.get k).turn q3 q6 t⟩ hv
  cases e with
  | normal => exact fin q7
  | ret => exact fin q7
  | _ => exact q7.elim
end
end Go.Vm
