/- The virtual machine: regions that draw their order, the rules at the stops, rows, ranges over functions (parts 17 to 24). Generic: no program in sight. -/
import Derived.Test.YthgpapnbnapdhaaVB2
import Derived.OrdersIn
import Derived.Below
import Derived.RangeFuncNested
import Derived.RangeFuncLeaves
/- The virtual machine, part 17: what an operation that turns nothing yields is as it was where memory has grown; it hangs on its own operands. Generic: no program in sight. -/
set_option linter.unusedVariables false
set_option linter.unusedSimpArgs false
namespace Go.Vm
open Go.RowKit

def HExt (H H' : List VB) : Prop := ∀ (id : Nat) (b : VB), H[id]? = some b → H'[id]? = some b
theorem HExt.refl (H : List VB) : HExt H H := fun _ _ h => h
theorem HExt.append (H X : List VB) : HExt H (H ++ X) := fun id b h => by rw [List.getElem?_append_left (lt_of_some h)]; exact h
section
variable {P : Program} {H H' : List VB}
theorem svValid_ext (e : HExt H H') {x : SV} (h : svValid H x = true) : svValid H' x = true := by
  cases x with
  | slc id g off len =>
    simp only [svValid] at h ⊢
    split at h
    · rename_i hh; rw [e _ _ hh]; exact h
    · cases h
  | rptr id g i o =>
    simp only [svValid] at h ⊢
    split at h
    · rename_i hh; rw [e _ _ hh]; exact h
    · cases h
  | _ => exact h
theorem vread_ext (e : HExt H H') {x : SV} {r : Nat × List SV} (h : vread H x = some r) : vread H' x = some r := by
  cases x with
  | slc id g off len =>
    simp only [vread] at h ⊢
    split at h
    · rename_i hh; rw [e _ _ hh]; exact h
    · cases h
  | bsl id off n len cap =>
    simp only [vread] at h ⊢
    split at h
    · rename_i hh; rw [e _ _ hh]; exact h
    · cases h
  | _ => exact h
theorem vcells_ext (e : HExt H H') {x : SV} {r : List SV} (h : vcells H x = some r) : vcells H' x = some r := by
  cases x with
  | ptr id off =>
    simp only [vcells] at h ⊢
    split at h
    · rename_i hh; rw [e _ _ hh]; exact h
    · cases h
  | rptr id g i o =>
    simp only [vcells] at h ⊢
    split at h
    · rename_i hh; rw [e _ _ hh]; exact h
    · cases h
  | _ => exact h
theorem vload_ext (e : HExt H H') {t : TypeId} {x r : SV} (h : vload P H t x = some r) : vload P H' t x = some r := by
  unfold vload at h ⊢
  split at h
  · rename_i hh; rw [vcells_ext e hh]; exact h
  · cases h
theorem pAdd_ext (e : HExt H H') {k : Nat} {x r : SV} (h : pAdd H k x = some r) : pAdd H' k x = some r := by
  cases x with
  | rptr id g i o =>
    simp only [pAdd] at h ⊢
    split at h
    · rename_i hh; rw [e _ _ hh]; exact h
    · cases h
  | _ => exact h
theorem pSliceS_ext (e : HExt H H') {n : Nat} {x r : SV} {lo hi mx : Option SV} (h : pSliceS H n x lo hi mx = some r) : pSliceS H' n x lo hi mx = some r := by
  cases x with
  | slc id g off len =>
    simp only [pSliceS] at h ⊢
    split at h
    · rename_i hh; rw [e _ _ hh]; exact h
    · cases h
  | v x =>
    have hx : pSliceS H' n (.v x) lo hi mx = pSliceS H n (.v x) lo hi mx := by
      simp only [pSliceS]
      split <;> first | rfl | (rename_i hh; cases hh)
    rw [hx]
    exact h
  | _ => exact h
theorem pSlice_ext (e : HExt H H') {t : TypeId} {x r : SV} {lo hi mx : Option SV} (h : pSlice P H t x lo hi mx = some r) : pSlice P H' t x lo hi mx = some r := by
  unfold pSlice at h ⊢
  split at h
  · exact h
  · split at h
    · rename_i hs; rw [if_pos hs]; exact pSliceS_ext e h
    · cases h
  · exact h
  · exact h
  · cases h
theorem pConvBytes_ext (e : HExt H H') {t : TypeId} {x r : SV} (h : pConvBytes P H t x = some r) : pConvBytes P H' t x = some r := by
  unfold pConvBytes at h ⊢
  split at h
  · split at h
    · exact h
    · split at h
      · rename_i hh; rw [vread_ext e hh]; exact h
      · cases h
  · cases h
theorem pConv_ext (e : HExt H H') {s d : TypeId} {x r : SV} (h : pConv P H s d x = some r) : pConv P H' s d x = some r := by
  unfold pConv at h ⊢
  split at h
  · exact pConvBytes_ext e h
  · exact h
  · exact h
  · cases h
theorem pFieldAddr_ext (e : HExt H H') {t : TypeId} {f : Nat} {x r : SV} (h : pFieldAddr P H t f x = some r) : pFieldAddr P H' t f x = some r := by
  unfold pFieldAddr at h ⊢
  split at h
  · split at h
    · split at h
      · rename_i hc; rw [if_pos hc]; exact pAdd_ext e h
      · cases h
    · cases h
  · cases h
theorem pIndexAddr_ext (e : HExt H H') {t : TypeId} {x i r : SV} (h : pIndexAddr P H t x i = some r) : pIndexAddr P H' t x i = some r := by
  unfold pIndexAddr at h ⊢
  split at h
  · split at h
    · split at h
      · rename_i hc; rw [if_pos hc]; exact pAdd_ext e h
      · cases h
    · split at h
      · rename_i hc
        rw [if_pos hc]
        split at h
        · exact h
        · split at h
          · rename_i hh; rw [e _ _ hh]; exact h
          · cases h
        · exact h
        · cases h
      · cases h
    · cases h
  · cases h
theorem vfill_ext (e : HExt H H') {place : Nat → Option (Nat × Nat)} : ∀ (ps : List (Nat × SV)) {cells r : List SV}, vfill H place cells ps = some r → vfill H' place cells ps = some r
  | [], _, _, h => h
  | (i, x) :: rest, cells, r, h => by
    unfold vfill at h ⊢
    split at h
    · cases h
    · split at h
      · rename_i hc; rw [if_pos ⟨svValid_ext e hc.1, hc.2⟩]; exact vfill_ext e rest h
      · cases h
theorem pBuild_ext (e : HExt H H') {t : TypeId} {ps : List (Nat × SV)} {r : SV} (h : pBuild P H t ps = some r) : pBuild P H' t ps = some r := by
  unfold pBuild at h ⊢
  split at h
  · split at h
    · split at h
      · rename_i hh; rw [vfill_ext e _ hh]; exact h
      · cases h
    · cases h
  · split at h
    · rename_i hs
      rw [if_pos hs]
      split at h
      · rename_i hh; rw [vfill_ext e _ hh]; exact h
      · cases h
    · cases h
  · cases h
theorem pBuildSlice_ext (e : HExt H H') {t : TypeId} {len : Nat} {ps : List (Nat × SV)} {r : SV} (h : pBuildSlice P H t len ps = some r) : pBuildSlice P H' t len ps = some r := by
  unfold pBuildSlice at h ⊢
  split at h
  · split at h
    · split at h
      · rename_i hc
        obtain ⟨c1, c2, c3, c4, c5, c6, c7, c8⟩ := hc
        rw [if_pos ⟨c1, c2, c3, c4, c5, c6, c7, fun p hp => ⟨svValid_ext e (c8 p hp).1, (c8 p hp).2⟩⟩]
        exact h
      · cases h
    · cases h
  · cases h
theorem pLen_ext (e : HExt H H') {t : TypeId} {x r : SV} (h : pLen P H t x = some r) : pLen P H' t x = some r := by
  unfold pLen at h ⊢
  split at h
  · exact h
  · exact h
  · split at h
    · exact h
    · split at h
      · rename_i hh; rw [e _ _ hh]; exact h
      · cases h
    · exact h
    · exact h
    · cases h
  · split at h
    · exact h
    · split at h
      · rename_i hh; rw [e _ _ hh]; exact h
      · cases h
    · cases h
  · cases h
theorem pNil_ext (e : HExt H H') {x r : SV} (h : pNil H x = some r) : pNil H' x = some r := by
  cases x with
  | rptr id g i o =>
    simp only [pNil] at h ⊢
    split at h
    · rename_i hc; rw [if_pos (svValid_ext e hc)]; exact h
    · cases h
  | _ => exact h
theorem pLookup_ext (e : HExt H H') {t : TypeId} {x k r : SV} {c : Bool} (h : pLookup P H t x k c = some r) : pLookup P H' t x k c = some r := by
  unfold pLookup at h ⊢
  split at h
  · split at h
    · split at h
      · split at h
        · split at h
          · rename_i hh; rw [e _ _ hh]; exact h
          · cases h
        · cases h
      · cases h
    · cases h
  · cases h
theorem stepF_ext (e : HExt H H') {o : Oper} {ρ : Operand → SV} {r : SV} (h : stepF P o ρ H = some r) : stepF P o ρ H' = some r := by
  obtain ⟨dst, op, type, pos, after, guard⟩ := o
  cases op with
  | load t a => exact vload_ext e h
  | nilCheck x => exact pNil_ext e h
  | convert s d x => exact pConv_ext e h
  | slice t x lo hi mx => exact pSlice_ext e h
  | fieldAddr t x f => exact pFieldAddr_ext e h
  | indexAddr t x i => exact pIndexAddr_ext e h
  | build t ps => exact pBuild_ext e h
  | buildSlice t len ps => exact pBuildSlice_ext e h
  | lookup t x k c => exact pLookup_ext e h
  | call c =>
    simp only [stepF] at h ⊢
    split at h
    · split at h
      · exact pLen_ext e h
      · cases h
    · exact h
    · exact h
    · cases h
  | makeFunc fn first captured => cases fn <;> exact h
  | _ => exact h
/-- Does the operation look at memory? (A turn of memory apart.) -/
def looksH (P : Program) : Op → Bool
  | .move .. | .assign .. | .pick .. | .binOp .. | .unOp .. | .makeFunc .. | .field .. | .index .. | .extract .. => false
  | .convert s d _ => match P.underlying s with | some (.slice _) => true | _ => false
  | .call c => match c.callee with
    | .builtin .max | .builtin .min => false
    | _ => true
  | _ => true
theorem stepF_free {o : Oper} {ρ : Operand → SV} (hl : looksH P o.op = false) (H H' : List VB) : stepF P o ρ H = stepF P o ρ H' := by
  obtain ⟨dst, op, type, pos, after, guard⟩ := o
  cases op with
  | convert s d x =>
    simp only [looksH] at hl
    simp only [stepF, pConv]
    split at hl
    · cases hl
    · split
      · rename_i hn _ _ _ hs _; exact absurd hs (hn _)
      · rfl
      · rfl
      · rfl
  | call c =>
    obtain ⟨callee, args, argTypes⟩ := c
    simp only [looksH] at hl
    simp only [stepF]
    generalize args.toList.map ρ = l
    split at hl
    · cases l <;> rfl
    · cases l <;> rfl
    · cases hl
  | makeFunc fn first captured => cases fn <;> rfl
  | _ => first | rfl | cases hl
end
theorem map_congr' {α β : Type} {f g : α → β} {l : List α} (h : ∀ x, x ∈ l → f x = g x) : l.map f = l.map g := List.map_congr_left h
theorem stepF_congr {P : Program} {o : Oper} {ρ ρ' : Operand → SV} {H : List VB} (h : ∀ x, x ∈ o.op.operands → ρ x = ρ' x) : stepF P o ρ H = stepF P o ρ' H := by
  obtain ⟨dst, op, type, pos, after, guard⟩ := o
  have opt : ∀ y : Option Operand, (∀ x, x ∈ y.toArray → ρ x = ρ' x) → y.map ρ = y.map ρ' := fun y hy => by
    cases y with
    | none => rfl
    | some y => simp only [Option.map_some]; rw [hy y (by simp)]
  have prt : ∀ ps : Array (Nat × Operand), (∀ x, x ∈ (ps.toList.map (·.2)).toArray → ρ x = ρ' x) → evParts ρ ps = evParts ρ' ps := fun ps hp => by
    unfold evParts
    refine map_congr' fun p hp' => ?_
    show (p.1, ρ p.2) = (p.1, ρ' p.2)
    rw [hp p.2 (by simp; exact ⟨p.1, by simpa using hp'⟩)]
  cases op with
  | pick c a b => simp only [stepF]; rw [h c (by simp [Op.operands]), h a (by simp [Op.operands]), h b (by simp [Op.operands])]
  | makeFunc fn first captured =>
    cases fn with
    | func f =>
      simp only [stepF]
      rw [map_congr' (f := ρ) (g := ρ') (l := captured.toList) fun x hx => h x (by simp only [Op.operands, Array.mem_append]; exact .inr (by simpa using hx))]
    | _ => rfl
  | slice t x lo hi mx =>
    simp only [stepF]
    rw [h x (by simp [Op.operands]), opt lo fun y hy => h y (by simp only [Op.operands, Array.mem_append]; exact .inl (.inl (.inr hy))), opt hi fun y hy => h y (by simp only [Op.operands, Array.mem_append]; exact .inl (.inr hy)),
      opt mx fun y hy => h y (by simp only [Op.operands, Array.mem_append]; exact .inr hy)]
  | build t ps => simp only [stepF]; rw [prt ps h]
  | buildSlice t len ps => simp only [stepF]; rw [prt ps h]
  | binOp op t x y u => simp only [stepF]; rw [h x (by simp [Op.operands]), h y (by simp [Op.operands])]
  | indexAddr t x y => simp only [stepF]; rw [h x (by simp [Op.operands]), h y (by simp [Op.operands])]
  | index t x y => simp only [stepF]; rw [h x (by simp [Op.operands]), h y (by simp [Op.operands])]
  | lookup t x y c => simp only [stepF]; rw [h x (by simp [Op.operands]), h y (by simp [Op.operands])]
  | call c =>
    obtain ⟨callee, args, argTypes⟩ := c
    simp only [stepF]
    rw [map_congr' (f := ρ) (g := ρ') (l := args.toList) fun x hx => h x (by
      have hx' : x ∈ args := by simpa using hx
      cases callee <;> simp [Op.operands, Call.operands, hx'])]
  | move x | assign x | load _ x | nilCheck x | unOp _ _ x | convert _ _ x | fieldAddr _ x _ | field _ x _ | extract x _ => simp only [stepF]; rw [h x (by simp [Op.operands])]
  | _ => rfl
theorem vC_congr {P : Program} {o : Oper} {ρ ρ' : Operand → SV} {H : List VB} {K : SV → List VB → Prop} (h : ∀ x, x ∈ o.op.operands → ρ x = ρ' x) (hv : vC P o ρ H K) : vC P o ρ' H K := by
  obtain ⟨dst, op, type, pos, after, guard⟩ := o
  cases op with
  | box e x => simp only [vC] at hv ⊢; rw [← h x (by simp [Op.operands])]; exact hv
  | alloc e => exact hv
  | store t a x => simp only [vC] at hv ⊢; rw [← h a (by simp [Op.operands]), ← h x (by simp [Op.operands])]; exact hv
  | makeSlice t a x => simp only [vC] at hv ⊢; rw [← h a (by simp [Op.operands]), ← h x (by simp [Op.operands])]; exact hv
  | makeMap t r => cases r <;> exact hv
  | binOp op t x y u => simp only [vC] at hv ⊢; rw [← h x (by simp [Op.operands]), ← h y (by simp [Op.operands])]; exact hv
  | mapUpdate t m k v => simp only [vC] at hv ⊢; rw [← h m (by simp [Op.operands]), ← h k (by simp [Op.operands]), ← h v (by simp [Op.operands])]; exact hv
  | convert s d x => simp only [vC] at hv ⊢; rw [← h x (by simp [Op.operands])]; exact hv
  | call c =>
    obtain ⟨callee, args, argTypes⟩ := c
    have hm : args.toList.map ρ = args.toList.map ρ' := map_congr' fun x hx => h x (by
      have hx' : x ∈ args := by simpa using hx
      cases callee <;> simp [Op.operands, Call.operands, hx'])
    cases callee with
    | value f =>
      simp only [vC] at hv ⊢
      rw [← hm, ← h f (by simp [Op.operands, Call.operands])]
      exact hv
    | builtin b => simp only [vC] at hv ⊢; rw [← hm]; exact hv
    | invoke r m => exact hv
  | _ => exact hv
end Go.Vm

/- The virtual machine, part 18: regions that draw their order: two operations that are apart may change places. Generic: no program in sight. -/
set_option linter.unusedVariables false
set_option linter.unusedSimpArgs false
namespace Go.Vm
open Go.RowKit

def yval (P : Program) (ops : Array Oper) (e : Bool) (o : Oper) (tm : TM) (H : List VB) (K : SV → List VB → Prop) : Prop :=
  vguard ops o.guard tm
    (if isC P o.op = true then vC P o (vev tm) H (fun r H' => (e = true → HExt H H') ∧ K r H')
     else match stepF P o (vev tm) H with
      | some r => K r H
      | none => False)
    (K (.v undef) H)
section
variable {P : Program} {ops : Array Oper} {N : Nat}
theorem vguard_mono {g : Option (Nat × Bool)} {tm : TM} {a b a' b' : Prop} (h : vguard ops g tm a b) (ha : a → a') (hb : b → b') : vguard ops g tm a' b' := by
  unfold vguard at h ⊢
  split at h
  · exact ha h
  · split at h
    · split at h
      · split at h
        · rename_i hc; rw [if_pos hc]; exact ha h
        · rename_i hc; rw [if_neg hc]; exact hb h
      · exact hb h
      · exact h.elim
    · exact h.elim
theorem yval_mono {e : Bool} {o : Oper} {tm : TM} {H : List VB} {K K' : SV → List VB → Prop} (h : yval P ops e o tm H K) (hk : ∀ r H', ((e = true ∨ isC P o.op = false) → HExt H H') → K r H' → K' r H') : yval P ops e o tm H K' := by
  refine vguard_mono h (fun h => ?_) fun h => hk _ _ (fun _ => HExt.refl _) h
  split at h
  · rename_i hc
    rw [if_pos hc]
    exact vC_mono h fun r H' h => ⟨h.1, hk _ _ (fun h' => h.1 (h'.resolve_right (by simp [hc]))) h.2⟩
  · rename_i hc
    rw [if_neg hc]
    split at h
    · exact hk _ _ (fun _ => HExt.refl _) h
    · exact h.elim
theorem vop_of_yval {e : Bool} {o : Oper} {tm : TM} {H : List VB} {next : TM → List VB → Prop} (h : yval P ops e o tm H fun r H' => vput N o.dst r H' tm next) : vop P N ops o tm H next := by
  refine vguard_mono h (fun h => ?_) id
  split at h
  · rename_i hc; rw [if_pos hc]; exact vC_mono h fun r H' h => h.2
  · rename_i hc; rw [if_neg hc]; exact h
def fval (P : Program) (ops : Array Oper) (o : Oper) (tm : TM) (H : List VB) : Option SV :=
  match o.guard with
  | none => stepF P o (vev tm) H
  | some (g, b) => match gslot ops g with
    | some d => match tget tm d with
      | .v (.bool c) => if c = b then stepF P o (vev tm) H else some (.v undef)
      | .v (.tuple _) => some (.v undef)
      | _ => none
    | none => none
theorem yval_F {e : Bool} {o : Oper} (hC : isC P o.op = false) {tm : TM} {H : List VB} {K : SV → List VB → Prop} : yval P ops e o tm H K ↔ ∃ r, fval P ops o tm H = some r ∧ K r H := by
  have key : (match stepF P o (vev tm) H with
      | some r => K r H
      | none => False) ↔ ∃ r, stepF P o (vev tm) H = some r ∧ K r H := by
    cases stepF P o (vev tm) H with
    | none => simp
    | some r => simp
  unfold yval vguard fval
  simp only [hC, Bool.false_eq_true, if_false]
  cases o.guard with
  | none => exact key
  | some gb =>
    obtain ⟨g, b⟩ := gb
    simp only
    cases gslot ops g with
    | none => simp
    | some d =>
      simp only
      generalize tget tm d = z
      cases z with
      | v x =>
        cases x with
        | bool c =>
          simp only
          by_cases hcb : c = b
          · simp only [hcb, if_true]; exact key
          · simp only [hcb, if_false]; simp
        | _ => simp
      | _ => simp
theorem fval_ext {o : Oper} {tm : TM} {H H' : List VB} (hx : HExt H H' ∨ looksH P o.op = false) {r : SV} (h : fval P ops o tm H = some r) : fval P ops o tm H' = some r := by
  have key : ∀ r, stepF P o (vev tm) H = some r → stepF P o (vev tm) H' = some r := fun r h => by
    rcases hx with hx | hx
    · exact stepF_ext hx h
    · rw [← stepF_free hx H]; exact h
  unfold fval at h ⊢
  split at h
  · exact key _ h
  · split at h
    · split at h
      · split at h
        · rename_i hc; rw [if_pos hc]; exact key _ h
        · rename_i hc; rw [if_neg hc]; exact h
      · exact h
      · cases h
    · cases h
def Agree (ops : Array Oper) (o : Oper) (tm tm' : TM) : Prop := ∀ t, t ∈ o.looksAt ops → tget tm t = tget tm' t
theorem Agree.opnd {o : Oper} {tm tm' : TM} (h : Agree ops o tm tm') : ∀ x, x ∈ o.op.operands → vev tm x = vev tm' x := fun x hx => by
  cases x with
  | tmp t => exact h t (List.mem_append_left _ (List.mem_filterMap.2 ⟨.tmp t, by simpa using hx, rfl⟩))
  | _ => rfl
theorem Agree.slot {o : Oper} {tm tm' : TM} (h : Agree ops o tm tm') {g : Nat} {b : Bool} (hg : o.guard = some (g, b)) {d : Tmp} (hd : gslot ops g = some d) : tget tm d = tget tm' d :=
  h d (List.mem_append_right _ (by unfold gslot at hd; simp [hg, hd]))
theorem vguard_congr {o : Oper} {tm tm' : TM} (h : Agree ops o tm tm') {a b : Prop} (hv : vguard ops o.guard tm a b) : vguard ops o.guard tm' a b := by
  unfold vguard at hv ⊢
  cases hg : o.guard with
  | none => rw [hg] at hv; exact hv
  | some gb =>
    obtain ⟨g, c⟩ := gb
    rw [hg] at hv
    simp only at hv ⊢
    cases hd : gslot ops g with
    | none => rw [hd] at hv; exact hv
    | some d =>
      rw [hd] at hv
      simp only at hv ⊢
      rw [← h.slot hg hd]
      exact hv
theorem yval_congr {e : Bool} {o : Oper} {tm tm' : TM} (h : Agree ops o tm tm') {H : List VB} {K : SV → List VB → Prop} (hv : yval P ops e o tm H K) : yval P ops e o tm' H K := by
  refine vguard_congr h (vguard_mono hv (fun h' => ?_) id)
  split at h'
  · rename_i hc; rw [if_pos hc]; exact vC_congr h.opnd h'
  · rename_i hc; rw [if_neg hc, ← stepF_congr h.opnd]; exact h'
theorem fval_congr {o : Oper} {tm tm' : TM} (h : Agree ops o tm tm') {H : List VB} : fval P ops o tm H = fval P ops o tm' H := by
  unfold fval
  rw [stepF_congr h.opnd]
  cases hg : o.guard with
  | none => rfl
  | some gb =>
    obtain ⟨g, c⟩ := gb
    simp only
    cases hd : gslot ops g with
    | none => rfl
    | some d => simp only; rw [h.slot hg hd]
def TEq (tm tm' : TM) : Prop := ∀ t, tget tm t = tget tm' t
theorem TEq.cons {tm tm' : TM} (h : TEq tm tm') (d : Tmp) (r : SV) : TEq ((d, r) :: tm) ((d, r) :: tm') := fun t => by simp only [tget]; rw [h t]
theorem TEq.swap {tm : TM} {d d' : Tmp} (hne : d ≠ d') (r r' : SV) : TEq ((d, r) :: (d', r') :: tm) ((d', r') :: (d, r) :: tm) := fun t => by
  simp only [tget]
  cases h1 : Nat.beq d t <;> cases h2 : Nat.beq d' t <;> simp only [cond_true, cond_false]
  exact absurd ((Nat.eq_of_beq_eq_true h1).trans (Nat.eq_of_beq_eq_true h2).symm) hne
def RespT (k : TM → List VB → Prop) : Prop := ∀ tm tm' H, TEq tm tm' → k tm H → k tm' H
theorem vput_resp {dst : Option Tmp} {r : SV} {H : List VB} {tm tm' : TM} {k : TM → List VB → Prop} (hk : RespT k) (e : TEq tm tm') (h : vput N dst r H tm k) : vput N dst r H tm' k := by
  cases dst with
  | none => exact hk _ _ _ e h
  | some d => exact ⟨h.1, hk _ _ _ (e.cons d r) h.2⟩
def step (P : Program) (N : Nat) (ops : Array Oper) (fl : Nat → Bool) (i : Nat) (tm : TM) (H : List VB) (next : TM → List VB → Prop) : Prop :=
  match ops[i]? with
  | some o => yval P ops (fl i) o tm H fun r H' => vput N o.dst r H' tm next
  | none => False
theorem step_mono {fl : Nat → Bool} {i : Nat} {tm : TM} {H : List VB} {k k' : TM → List VB → Prop} (h : step P N ops fl i tm H k) (hk : ∀ tm H, k tm H → k' tm H) : step P N ops fl i tm H k' := by
  unfold step at h ⊢
  split at h
  · exact yval_mono h fun r H' _ h => vput_mono h hk
  · exact h.elim
theorem step_resp {fl : Nat → Bool} {i : Nat} {k : TM → List VB → Prop} (hk : RespT k) : RespT fun tm H => step P N ops fl i tm H k := fun tm tm' H e h => by
  unfold step at h ⊢
  split at h
  · exact yval_congr (fun t _ => e t) (yval_mono h fun r H' _ h => vput_resp hk e h)
  · exact h.elim
/-- May they be carried out in either order? (x stands first.) -/
def swapOk (P : Program) (ops : Array Oper) (fl : Nat → Bool) (i j : Nat) : Bool :=
  match ops[i]?, ops[j]? with
  | some x, some y => x.apart ops y && !isC P x.op && (!isC P y.op || !looksH P x.op || fl j)
  | _, _ => false
theorem step_swap {fl : Nat → Bool} {i j : Nat} (hs : swapOk P ops fl i j = true) {tm : TM} {H : List VB} {k : TM → List VB → Prop} (hk : RespT k)
    (h : step P N ops fl i tm H fun tm H => step P N ops fl j tm H k) : step P N ops fl j tm H fun tm H => step P N ops fl i tm H k := by
  unfold swapOk at hs
  split at hs
  · rename_i x y hx hy
    simp only [Bool.and_eq_true, Bool.not_eq_true'] at hs
    obtain ⟨⟨hap, hxc⟩, hyc⟩ := hs
    obtain ⟨a1, a2, a3⟩ := Oper.apart_spec hap
    simp only [step, hx, hy] at h ⊢
    obtain ⟨r, hr, h⟩ := (yval_F hxc).1 h
    have key : ∀ (tm1 : TM) (H1 : List VB), (HExt H H1 ∨ looksH P x.op = false) → Agree ops x tm1 tm → vput N x.dst r H1 tm1 k → yval P ops (fl i) x tm1 H1 fun r H' => vput N x.dst r H' tm1 k := fun tm1 H1 e g hh =>
      (yval_F hxc).2 ⟨r, by rw [fval_congr g]; exact fval_ext e hr, hh⟩
    have dcase : ∀ o : Option Tmp, o = none ∨ ∃ d, o = some d := fun o => by cases o <;> simp
    rcases dcase x.dst with hxd | ⟨dx, hxd⟩
    · rw [hxd] at h
      refine yval_mono h fun ry H1 e hh => ?_
      have e' : HExt H H1 ∨ looksH P x.op = false := by
        simp only [Bool.or_eq_true, Bool.not_eq_true'] at hyc
        rcases hyc with (h1 | h1) | h1
        · exact .inl (e (.inr h1))
        · exact .inr h1
        · exact .inl (e (.inl h1))
      rcases dcase y.dst with hyd | ⟨dy, hyd⟩ <;> rw [hyd] at hh ⊢
      · exact key _ _ e' (fun _ _ => rfl) (by rw [hxd]; exact hh)
      · refine ⟨hh.1, key _ _ e' (fun t ht => ?_) (by rw [hxd]; exact hh.2)⟩
        simp only [tget]
        cases hb : Nat.beq dy t
        · rfl
        · exact absurd (Nat.eq_of_beq_eq_true hb ▸ ht) (a3 dy hyd)
    · rw [hxd] at h
      obtain ⟨hN, h⟩ := h
      have hag : Agree ops y ((dx, r) :: tm) tm := fun t ht => by
        simp only [tget]
        cases hb : Nat.beq dx t
        · rfl
        · exact absurd (Nat.eq_of_beq_eq_true hb ▸ ht) (a1 dx hxd)
      refine yval_mono (yval_congr hag h) fun ry H1 e hh => ?_
      have e' : HExt H H1 ∨ looksH P x.op = false := by
        simp only [Bool.or_eq_true, Bool.not_eq_true'] at hyc
        rcases hyc with (h1 | h1) | h1
        · exact .inl (e (.inr h1))
        · exact .inr h1
        · exact .inl (e (.inl h1))
      rcases dcase y.dst with hyd | ⟨dy, hyd⟩ <;> rw [hyd] at hh ⊢
      · exact key _ _ e' (fun _ _ => rfl) (by rw [hxd]; exact ⟨hN, hh⟩)
      · have hne : dy ≠ dx := fun e => a2 dx hxd (by rw [hyd, e])
        refine ⟨hh.1, key _ _ e' (fun t ht => ?_) (by rw [hxd]; exact ⟨hN, hk _ _ _ (TEq.swap hne ry r) hh.2⟩)⟩
        simp only [tget]
        cases hb : Nat.beq dy t
        · rfl
        · exact absurd (Nat.eq_of_beq_eq_true hb ▸ ht) (a3 dy hyd)
  · cases hs
def runL (P : Program) (N : Nat) (ops : Array Oper) (fl : Nat → Bool) : List Nat → TM → List VB → (TM → List VB → Prop) → Prop
  | [], tm, H, k => k tm H
  | i :: is, tm, H, k => step P N ops fl i tm H fun tm H => runL P N ops fl is tm H k
theorem runL_resp {fl : Nat → Bool} {k : TM → List VB → Prop} (hk : RespT k) : ∀ is : List Nat, RespT fun tm H => runL P N ops fl is tm H k
  | [] => hk
  | i :: is => step_resp (runL_resp hk is)
/-- What may change places with all that stand ahead may be carried out first. -/
theorem runL_front {fl : Nat → Bool} {k : TM → List VB → Prop} (hk : RespT k) {i : Nat} : ∀ (pre post : List Nat), (∀ x, x ∈ pre → swapOk P ops fl x i = true) → ∀ (tm : TM) (H : List VB), runL P N ops fl (pre ++ i :: post) tm H k →
    step P N ops fl i tm H fun tm H => runL P N ops fl (pre ++ post) tm H k
  | [], post, _, tm, H, h => h
  | x :: pre, post, hs, tm, H, h => by
    refine step_swap (hs x (by simp)) (runL_resp hk (pre ++ post)) ?_
    exact step_mono h fun tm1 H1 h1 => runL_front hk pre post (fun y hy => hs y (by simp [hy])) tm1 H1 h1
end
end Go.Vm

/- The virtual machine, part 19: regions that draw their order: whatever is drawn. Generic: no program in sight. -/
set_option linter.unusedVariables false
set_option linter.unusedSimpArgs false
namespace Go.Vm
open Go.RowKit

/-- What must be listed first: by name. -/
def dirOf (o : Oper) : List Nat := (o.after.toList.filter (Region.binds .any)).map (·.on)
def ancOf (tab : List Nat) : List Nat → Nat
  | [] => 0
  | d :: ds => (1 <<< d) ||| tab.getD d 0 ||| ancOf tab ds
def ancTab : List Oper → List Nat → List Nat
  | [], tab => tab
  | o :: os, tab => ancTab os (tab ++ [ancOf tab (dirOf o)])
def pairOk (P : Program) (ops : Array Oper) (tab : List Nat) (fl : Nat → Bool) (ds : List Nat) (i j : Nat) : Bool :=
  !ds.contains j && (Nat.testBit (tab.getD j 0) i || swapOk P ops fl i j) && !Nat.beq i j
def orderGo (P : Program) (ops : Array Oper) (tab : List Nat) (fl : Nat → Bool) : List Nat → Bool
  | [] => true
  | i :: rest => match ops[i]? with
    | some o => (dirOf o).all (fun d => Nat.blt d ops.size && !Nat.beq d i) && rest.all (pairOk P ops tab fl (dirOf o) i) && orderGo P ops tab fl rest
    | none => false
def orderOk (P : Program) (ops : Array Oper) (fl : Nat → Bool) (L : List Nat) : Bool :=
  orderGo P ops (ancTab ops.toList []) fl L && (List.range ops.size).all (L.contains ·) && Nat.ble L.length ops.size && ops.toList.all noDefer
section
variable {P : Program} {ops : Array Oper} {N : Nat}
theorem ancOf_spec {tab : List Nat} {x : Nat} : ∀ ds : List Nat, (ancOf tab ds).testBit x = true → ∃ d, d ∈ ds ∧ (d = x ∨ (tab.getD d 0).testBit x = true)
  | [], h => by simp [ancOf] at h
  | d :: ds, h => by
    simp only [ancOf, Nat.testBit_or, Bool.or_eq_true] at h
    rcases h with (h | h) | h
    · rw [Nat.one_shiftLeft, Nat.testBit_two_pow] at h
      exact ⟨d, by simp, .inl (by simpa using h)⟩
    · exact ⟨d, by simp, .inr h⟩
    · obtain ⟨d', h1, h2⟩ := ancOf_spec ds h
      exact ⟨d', by simp [h1], h2⟩
theorem getD_some {tab : List Nat} {i x : Nat} (h : (tab.getD i 0).testBit x = true) : i < tab.length := by
  rcases Nat.lt_or_ge i tab.length with h1 | h1
  · exact h1
  · rw [List.getD_eq_getElem?_getD, List.getElem?_eq_none h1] at h; simp at h
theorem ancTab_spec : ∀ (os pre : List Oper) (tab : List Nat), tab.length = pre.length →
    (∀ i x, (tab.getD i 0).testBit x = true → ∃ o, (pre ++ os)[i]? = some o ∧ ∃ d, d ∈ dirOf o ∧ (d = x ∨ (d < i ∧ (tab.getD d 0).testBit x = true))) →
    ∀ i x, ((ancTab os tab).getD i 0).testBit x = true → ∃ o, (pre ++ os)[i]? = some o ∧ ∃ d, d ∈ dirOf o ∧ (d = x ∨ (d < i ∧ ((ancTab os tab).getD d 0).testBit x = true))
  | [], pre, tab, hl, h, i, x, hx => h i x hx
  | o :: os, pre, tab, hl, h, i, x, hx => by
    have key := ancTab_spec os (pre ++ [o]) (tab ++ [ancOf tab (dirOf o)]) (by simp [hl]) (fun i x hx => by
      have hi := getD_some hx
      simp only [List.length_append, List.length_cons, List.length_nil] at hi
      by_cases hlt : i < tab.length
      · rw [List.getD_eq_getElem?_getD, List.getElem?_append_left hlt, ← List.getD_eq_getElem?_getD] at hx
        obtain ⟨o', h1, d, h2, h3⟩ := h i x hx
        refine ⟨o', by simpa using h1, d, h2, h3.imp id fun ⟨h4, h5⟩ => ⟨h4, ?_⟩⟩
        rw [List.getD_eq_getElem?_getD, List.getElem?_append_left (by omega), ← List.getD_eq_getElem?_getD]
        exact h5
      · have : i = tab.length := by omega
        subst this
        rw [List.getD_eq_getElem?_getD, List.getElem?_append_right (Nat.le_refl _)] at hx
        simp only [Nat.sub_self, List.getElem?_cons_zero, Option.getD_some] at hx
        obtain ⟨d, h1, h2⟩ := ancOf_spec _ hx
        refine ⟨o, by rw [hl]; simp, d, h1, h2.imp id fun h3 => ?_⟩
        have h4 := getD_some h3
        refine ⟨h4, ?_⟩
        rw [List.getD_eq_getElem?_getD, List.getElem?_append_left h4, ← List.getD_eq_getElem?_getD]
        exact h3)
    have := key i x hx
    simpa [ancTab] using this
theorem tab_spec {i x : Nat} (h : ((ancTab ops.toList []).getD i 0).testBit x = true) : ∃ o, ops[i]? = some o ∧ ∃ d, d ∈ dirOf o ∧ (d = x ∨ (d < i ∧ ((ancTab ops.toList []).getD d 0).testBit x = true)) := by
  have := ancTab_spec ops.toList [] [] rfl (fun i x hx => by simp at hx) i x h
  simpa using this
def Cl (ops : Array Oper) (listed : Array Bool) : Prop := ∀ j, listed.getD j false = true → ∀ o, ops[j]? = some o → ∀ d, d ∈ dirOf o → listed.getD d false = true
theorem anc_listed {listed : Array Bool} (hc : Cl ops listed) : ∀ (i : Nat), (∀ o, ops[i]? = some o → ∀ d, d ∈ dirOf o → listed.getD d false = true) → ∀ x, ((ancTab ops.toList []).getD i 0).testBit x = true → listed.getD x false = true := by
  intro i
  induction i using Nat.strongRecOn with
  | ind i ih =>
    intro hi x hx
    obtain ⟨o, h1, d, h2, h3⟩ := tab_spec hx
    have hd := hi o h1 d h2
    rcases h3 with rfl | ⟨h3, h4⟩
    · exact hd
    · exact ih d h3 (hc d hd) x h4
def PairR (P : Program) (ops : Array Oper) (fl : Nat → Bool) (i j : Nat) : Prop :=
  (∀ o, ops[i]? = some o → j ∉ dirOf o) ∧ (((ancTab ops.toList []).getD j 0).testBit i = true ∨ swapOk P ops fl i j = true) ∧ i ≠ j
theorem orderGo_spec {fl : Nat → Bool} : ∀ L : List Nat, orderGo P ops (ancTab ops.toList []) fl L = true → L.Pairwise (PairR P ops fl) ∧ ∀ i, i ∈ L → ∃ o, ops[i]? = some o ∧ ∀ d, d ∈ dirOf o → d < ops.size ∧ d ≠ i
  | [], _ => ⟨.nil, by simp⟩
  | i :: rest, h => by
    unfold orderGo at h
    split at h
    · rename_i o ho
      simp only [Bool.and_eq_true, List.all_eq_true] at h
      obtain ⟨⟨h1, h2⟩, h3⟩ := h
      obtain ⟨q1, q2⟩ := orderGo_spec rest h3
      refine ⟨.cons (fun j hj => ?_) q1, fun k hk => ?_⟩
      · have := h2 j hj
        simp only [pairOk, Bool.and_eq_true, Bool.not_eq_true', Bool.or_eq_true] at this
        obtain ⟨⟨p1, p2⟩, p3⟩ := this
        refine ⟨fun o' ho' => ?_, p2, fun e => ?_⟩
        · rw [ho] at ho'; cases ho'
          simpa using p1
        · subst e; simp at p3
      · rcases List.mem_cons.1 hk with rfl | hk
        · refine ⟨o, ho, fun d hd => ?_⟩
          have := h1 d hd
          simp only [Bool.and_eq_true, Bool.not_eq_true'] at this
          refine ⟨by simpa using this.1, fun e => ?_⟩
          subst e; simp at this
        · exact q2 k hk
    · cases h
theorem dir_ready {listed : Array Bool} {o : Oper} : (∀ e ∈ o.after, Region.binds .any e = true → listed.getD e.on false = true) ↔ ∀ d, d ∈ dirOf o → listed.getD d false = true := by
  unfold dirOf
  constructor
  · intro h d hd
    obtain ⟨e, he, rfl⟩ := List.mem_map.1 hd
    obtain ⟨h1, h2⟩ := List.mem_filter.1 he
    exact h e (by simpa using h1) h2
  · intro h e he hb
    exact h e.on (List.mem_map.2 ⟨e, List.mem_filter.2 ⟨by simpa using he, hb⟩, rfl⟩)
theorem TRep.teq {R : Env} {tm tm' : TM} {a : Act} (h : TRep R N tm a) (e : TEq tm tm') : TRep R N tm' a := ⟨h.size, fun t => by rw [← e t]; exact h.get t⟩
theorem draw_sound {R0 : Env} {r0 : Nat} {ro : Option Nat} {ds : List Deferred} {k : TM → List VB → Prop} {Q : Exit → Act → World → Prop} {fl : Nat → Bool} (hk : RNext R0 N ds k (Q .normal)) (hresp : RespT k)
    (hnd : ops.toList.all noDefer = true) : ∀ (fuel : Nat) (listed : Array Bool) (L : List Nat), L.length ≤ fuel → listed.size = ops.size → Cl ops listed → (∀ i, i ∈ L ↔ i < ops.size ∧ listed.getD i true = false) →
      L.Pairwise (PairR P ops fl) → (∀ i, i < ops.size → ∃ o, ops[i]? = some o ∧ ∀ d, d ∈ dirOf o → d < ops.size ∧ d ≠ i) →
      RNext R0 N ds (fun tm H => runL P N ops fl L tm H k) (wpAnyIn (WF ro) r0 P .any ops Q fuel listed) := by
  have lf : ∀ {listed : Array Bool} {i : Nat}, listed.size = ops.size → i < ops.size → (listed.getD i true = false ↔ ¬ listed.getD i false = true) := fun {listed i} hs hi => by
    rw [Array.getD_eq_getD_getElem?, Array.getD_eq_getD_getElem?, Array.getElem?_eq_getElem (by omega)]
    simp
  have stuck : ∀ (listed : Array Bool) (L : List Nat), listed.size = ops.size → (∀ i, i ∈ L ↔ i < ops.size ∧ listed.getD i true = false) → L.Pairwise (PairR P ops fl) →
      (∀ i, i < ops.size → ∃ o, ops[i]? = some o ∧ ∀ d, d ∈ dirOf o → d < ops.size ∧ d ≠ i) → Region.ready .any ops listed = [] → L = [] := by
    intro listed L hs hm hp hself hr
    cases L with
    | nil => rfl
    | cons i rest =>
      exfalso
      obtain ⟨hi, hli⟩ := (hm i).1 (by simp)
      obtain ⟨o, ho, hd⟩ := hself i hi
      have : i ∈ Region.ready .any ops listed := by
        rw [mem_ready]
        refine ⟨hli, o, ho, dir_ready.2 fun d hdd => ?_⟩
        obtain ⟨d1, d2⟩ := hd d hdd
        rcases Bool.eq_false_or_eq_true (listed.getD d false) with h | h
        · exact h
        · exfalso
          have hmem : d ∈ i :: rest := (hm d).2 ⟨d1, (lf hs d1).2 (by simp [h])⟩
          rcases List.mem_cons.1 hmem with e | hmem
          · exact d2 e
          · exact (List.rel_of_pairwise_cons hp hmem).1 o ho hdd
      rw [hr] at this
      cases this
  intro fuel
  induction fuel with
  | zero =>
    intro listed L hlen hs hcl hm hp hself R tm a e hR ht hd hv
    have hL : L = [] := List.length_eq_zero_iff.1 (by omega)
    subst hL
    refine ⟨?_, hk R tm a e hR ht hd hv⟩
    rcases hr : Region.ready .any ops listed with _ | ⟨i, rest⟩
    · rfl
    · have hi : i ∈ Region.ready .any ops listed := by rw [hr]; simp
      rw [mem_ready] at hi
      obtain ⟨h1, o, h2, _⟩ := hi
      have := (hm i).2 ⟨(Array.getElem?_eq_some_iff.1 h2).1, h1⟩
      cases this
  | succ fuel ih =>
    intro listed L hlen hs hcl hm hp hself R tm a e hR ht hd hv
    refine ⟨fun hr => ?_, fun i hi => ?_⟩
    · have hL := stuck listed L hs hm hp hself hr
      subst hL
      exact hk R tm a e hR ht hd hv
    · rw [mem_ready] at hi
      obtain ⟨h1, o, h2, h3⟩ := hi
      have hlt := (Array.getElem?_eq_some_iff.1 h2).1
      rw [dir_ready] at h3
      obtain ⟨A, B, rfl⟩ := List.append_of_mem ((hm i).2 ⟨hlt, h1⟩)
      have hpp := List.pairwise_append.1 hp
      have hA : ∀ x, x ∈ A → swapOk P ops fl x i = true := fun x hx => by
        have hxi := hpp.2.2 x hx i (by simp)
        rcases hxi.2.1 with h | h
        · exfalso
          have hl := anc_listed hcl i (fun o' ho' => by rw [h2] at ho'; cases ho'; exact h3) x h
          have hx' := (hm x).1 (by simp [hx])
          exact (lf hs hx'.1).1 hx'.2 hl
        · exact h
      have hf := runL_front hresp A B hA tm R.H hv
      simp only [step, h2] at hf
      have hlen' : (A ++ B).length ≤ fuel := by simp at hlen ⊢; omega
      have hset : (listed.setIfInBounds i true).size = ops.size := by simpa using hs
      have hcl' : Cl ops (listed.setIfInBounds i true) := fun j hj o' ho' d hdd => by
        by_cases hji : j = i
        · subst hji
          rw [h2] at ho'; cases ho'
          exact getD_set_true (h3 d hdd)
        · rw [getD_set_ne false (Ne.symm hji)] at hj
          exact getD_set_true (hcl j hj o' ho' d hdd)
      have hnot : i ∉ A ++ B := fun hmem => by
        rcases List.mem_append.1 hmem with h | h
        · exact (hpp.2.2 i h i (by simp)).2.2 rfl
        · exact (List.rel_of_pairwise_cons hpp.2.1 h).2.2 rfl
      have hm' : ∀ j, j ∈ A ++ B ↔ j < ops.size ∧ (listed.setIfInBounds i true).getD j true = false := fun j => by
        by_cases hji : j = i
        · subst hji
          refine ⟨fun h => absurd h hnot, fun ⟨_, h⟩ => ?_⟩
          rw [Array.getD_eq_getD_getElem?, Array.getElem?_setIfInBounds_self_of_lt (by omega)] at h
          cases h
        · rw [getD_set_ne true (Ne.symm hji), ← hm j]
          simp only [List.mem_append, List.mem_cons]
          constructor
          · rintro (h | h)
            · exact .inl h
            · exact .inr (.inr h)
          · rintro (h | h | h)
            · exact .inl h
            · exact absurd h hji
            · exact .inr h
      have hp' : (A ++ B).Pairwise (PairR P ops fl) := hp.sublist (List.Sublist.append (List.Sublist.refl A) (List.sublist_cons_self i B))
      have hnext := ih (listed.setIfInBounds i true) (A ++ B) hlen' hset hcl' hm' hp' hself
      have hndo : noDefer o = true := by
        rw [List.all_eq_true] at hnd
        exact hnd o (by simpa using Array.mem_of_getElem? h2)
      have := vop_sound (Q := Q) (r0 := r0) (ro := ro) (ops := ops) hnext e hR ht hd (vop_of_yval hf) (noDefer_spec hndo)
      unfold wpOpIn
      simp only [h2]
      split
      · rename_i hw; simpa only [hw, if_true] using this
      · rename_i hw
        simp only [hw, if_false] at this
        exact ⟨fun _ _ => trivial, this⟩
/-- A region that draws its order. -/
theorem vwp_draw {R0 : Env} {id : Nat} {tm : TM} {H : List VB} {Q : VQ} {fl : Nat → Bool} (L : List Nat) (hm : P.follows .mixedOrders = true) (hc : orderOk P ops fl L = true) (h : runL P N ops fl L tm H (Q .normal)) : VWp R0 P N (.region id ops true) tm H Q := by
  intro r m R a h1 h2 h3 h4
  subst h3
  simp only [orderOk, Bool.and_eq_true] at hc
  obtain ⟨⟨⟨c1, c2⟩, c3⟩, c4⟩ := hc
  obtain ⟨q1, q2⟩ := orderGo_spec L c1
  have hmem : ∀ i, i < ops.size → i ∈ L := fun i hi => by
    rw [List.all_eq_true] at c2
    simpa using c2 i (by simpa using hi)
  have hg : Grows R.w R.w.drew := Grows.drew R.w
  refine wpIn_region_any hm ?_
  let k : TM → List VB → Prop := fun tm H => ∃ tm', TEq tm' tm ∧ Q .normal tm' H
  have hresp : RespT k := fun tm tm' H e ⟨tm1, e1, hq⟩ => ⟨tm1, fun t => (e1 t).trans (e t), hq⟩
  have hk : RNext R0 N a.defers k (VPost R0 N a.defers Q .normal) := fun R tm a' e hR ht hd ⟨tm1, e1, hq⟩ => ⟨R, tm1, rfl, e, hR, ht.teq (fun t => (e1 t).symm), hd, hq⟩
  have hrun : ∀ (is : List Nat) (tm : TM) (H : List VB), runL P N ops fl is tm H (Q .normal) → runL P N ops fl is tm H k := by
    intro is
    induction is with
    | nil => exact fun tm H h => ⟨tm, fun _ => rfl, h⟩
    | cons i is ih => exact fun tm H h => step_mono h fun tm1 H1 h1 => ih tm1 H1 h1
  have := draw_sound (Q := VPost R0 N a.defers Q) (r0 := m) (ro := r) (P := P) (ops := ops) (fl := fl) hk hresp c4 ops.size (Array.replicate ops.size false) L (by simpa using c3) (by simp) (fun j hj => by
      rw [Array.getD_eq_getD_getElem?, Array.getElem?_replicate] at hj; split at hj <;> simp at hj) (fun i => ⟨fun hi => ?_, fun hi => hmem i hi.1⟩) q1 (fun i hi => q2 i (hmem i hi))
      { R with w := R.w.drew } tm a (h1.trans (hg.ext h2)) (hg.rep h2) (h4.mono (hg.ext h2)) rfl (hrun L tm _ h)
  · exact this
  · obtain ⟨o, ho, _⟩ := q2 i hi
    have hlt := (Array.getElem?_eq_some_iff.1 ho).1
    exact ⟨hlt, by rw [Array.getD_eq_getD_getElem?, Array.getElem?_replicate, if_pos hlt]; rfl⟩
end
end Go.Vm

/- The virtual machine, part 20: the rules at the stops. Generic: no program in sight. -/
set_option linter.unusedVariables false
set_option linter.unusedSimpArgs false
namespace Go.Vm
open Go.RowKit

theorem flat_get_top {n0 : Nat} {base top : List VB} (ho : base.length = n0) (j : Nat) : (KH.flat ⟨n0, base, top⟩)[n0 + j]? = top[j]? := by
  subst ho
  simp [KH.flat, List.getElem?_append_right]
theorem flat_get_base {n0 : Nat} {base top : List VB} {id : Nat} {b : VB} (h : base[id]? = some b) : (KH.flat ⟨n0, base, top⟩)[id]? = some b := by
  simp [KH.flat, List.getElem?_append_left (lt_of_some h), h]
theorem flat_set_top {n0 : Nat} {base top : List VB} (ho : base.length = n0) (j : Nat) (b : VB) : (KH.flat ⟨n0, base, top⟩).set (n0 + j) b = KH.flat ⟨n0, base, top.set j b⟩ := by
  subst ho
  simp [KH.flat, List.set_append_right]
theorem flat_set_base {n0 : Nat} {base top : List VB} {id : Nat} (hid : id < base.length) (b : VB) : (KH.flat ⟨n0, base, top⟩).set id b = KH.flat ⟨n0, base.set id b, top⟩ := by
  simp [KH.flat, List.set_append_left _ _ hid]
theorem kbox_top {n0 : Nat} {base top : List VB} {j : Nat} {cs : List SV} {K : List SV → Prop} (ho : base.length = n0) (h : top[j]? = some (.box cs)) (hk : K cs) : KBox ⟨n0, base, top⟩ (n0 + j) K :=
  ⟨cs, (flat_get_top ho j).trans h, hk⟩
theorem kbox_base {n0 : Nat} {base top : List VB} {id : Nat} {cs : List SV} {K : List SV → Prop} (h : base[id]? = some (.box cs)) (hk : K cs) : KBox ⟨n0, base, top⟩ id K :=
  ⟨cs, flat_get_base h, hk⟩
theorem krow_top {n0 : Nat} {base top : List VB} {j g n : Nat} {xs : List SV} {K : Nat → Nat → List SV → Prop} (ho : base.length = n0) (h : top[j]? = some (.row g n xs)) (hk : K g n xs) : KRow ⟨n0, base, top⟩ (n0 + j) K :=
  ⟨g, n, xs, (flat_get_top ho j).trans h, hk⟩
theorem krow_base {n0 : Nat} {base top : List VB} {id g n : Nat} {xs : List SV} {K : Nat → Nat → List SV → Prop} (h : base[id]? = some (.row g n xs)) (hk : K g n xs) : KRow ⟨n0, base, top⟩ id K :=
  ⟨g, n, xs, flat_get_base h, hk⟩
theorem kset_top {n0 : Nat} {base top : List VB} {j : Nat} {b : VB} {K : KH → Prop} (ho : base.length = n0) (hk : K ⟨n0, base, top.set j b⟩) : KSet ⟨n0, base, top⟩ (n0 + j) b K :=
  ⟨_, (flat_set_top ho j b).symm, ho, rfl, hk⟩
theorem kset_base {n0 : Nat} {base top : List VB} {id : Nat} {b : VB} {K : KH → Prop} (ho : base.length = n0) (hid : id < base.length) (hk : K ⟨n0, base.set id b, top⟩) : KSet ⟨n0, base, top⟩ id b K :=
  ⟨_, (flat_set_base hid b).symm, by simpa [KH.ok] using ho, rfl, hk⟩
theorem kget_some {xs : List SV} {i : Nat} {z : SV} {K : SV → Prop} (h : xs[i]? = some z) (hk : K z) : KGet xs i K := ⟨z, h, hk⟩
section
variable {P : Program} {ats : Array TypeId}
theorem kb_append_top {n0 : Nat} {base top : List VB} {j g n : Nat} {xs ys : List SV} {x : SV} {len : Nat} {K : SV → KH → Prop} (ho : base.length = n0) (ht : appTypes P ats = some n) (h : top[j]? = some (.row g n xs)) (hlen : len = xs.length)
    (hx : vsrc (KH.flat ⟨n0, base, top⟩) n x = some ys) (hb : xs.length + ys.length ≤ 68719476736) (hcl : ∀ y, y ∈ ys → ∀ c, c ∈ y.cells → svCell (KH.flat ⟨n0, base, top⟩) c = true)
    (hk : K (.slc (n0 + j) (g + 1) 0 (xs ++ ys).length) ⟨n0, base, top.set j (.row (g + 1) n (xs ++ ys))⟩) : KB P ⟨n0, base, top⟩ .append ats [.slc (n0 + j) g 0 len, x] K := by
  subst hlen
  rw [List.length_append] at hk
  exact ⟨n, ys, ht, hx, xs, (flat_get_top ho j).trans h, rfl, rfl, hb, hcl, ⟨_, (flat_set_top ho j _).symm, ho, rfl, hk⟩⟩
theorem flat_snoc {n0 : Nat} {base top : List VB} (ho : base.length = n0) (b : VB) : KH.flat ⟨n0, base, top ++ [b]⟩ = KH.flat ⟨n0, base, top⟩ ++ [b] ∧ (KH.flat ⟨n0, base, top⟩).length = n0 + top.length := by
  subst ho; simp [KH.flat]
theorem kb_append_nil {n0 : Nat} {base top : List VB} {n : Nat} {ys : List SV} {x : SV} {K : SV → KH → Prop} (ho : base.length = n0) (ht : appTypes P ats = some n)
    (hx : vsrc (KH.flat ⟨n0, base, top⟩) n x = some ys) (hb : ys.length ≤ 68719476736)
    (hk : K (.slc (n0 + top.length) 0 0 ys.length) ⟨n0, base, top ++ [.row 0 n ys]⟩) : KB P ⟨n0, base, top⟩ .append ats [.v (.slice none 0 0), x] K := by
  refine ⟨n, ys, ht, hx, hb, ⟨_, (flat_snoc ho _).1, ho, rfl, ?_⟩⟩
  rw [(flat_snoc (top := top) ho .dead).2]
  exact hk
theorem kb_append_list {n0 : Nat} {base top : List VB} {n : Nat} {xs ys : List SV} {x : SV} {K : SV → KH → Prop} (ho : base.length = n0) (ht : appTypes P ats = some n)
    (hx : vsrc (KH.flat ⟨n0, base, top⟩) n x = some ys) (hb : xs.length + ys.length ≤ 68719476736) (hne : xs = [] ∨ ys ≠ [])
    (hk : K (.slc (n0 + top.length) 0 0 (xs ++ ys).length) ⟨n0, base, top ++ [.row 0 n (xs ++ ys)]⟩) : KB P ⟨n0, base, top⟩ .append ats [.list n true xs, x] K := by
  rw [List.length_append] at hk
  refine ⟨n, ys, ht, hx, rfl, rfl, hb, fun _ => ⟨_, (flat_snoc ho _).1, ho, rfl, ?_⟩, fun h1 h2 => ?_⟩
  · rw [(flat_snoc (top := top) ho .dead).2]
    exact hk
  · rcases hne with h | h
    · exact absurd h h1
    · exact absurd h2 h
theorem kmake {n0 : Nat} {base top : List VB} {t : TypeId} {k k' : IntKind} {len cap : Nat} {e : TypeId} {z : List SV} {x : SV} {K : SV → KH → Prop} (ho : base.length = n0) (hu : P.underlying t = some (.slice e)) (hs : (P.underlying e).isSome = true) (hz : zcells P e = some z)
    (hzl : z.length = P.cellsOf e) (hpos : 1 ≤ P.cellsOf e) (hx : x.cells = z) (hby : P.bytesOf e ≤ 1024) (hle : len ≤ cap) (hcap : cap ≤ 68719476736)
    (hk : K (.slc (n0 + top.length) 0 0 len) ⟨n0, base, top ++ [.row 0 (P.cellsOf e) (List.replicate len x)]⟩) : KMake P ⟨n0, base, top⟩ t (.v (.int k len)) (.v (.int k' cap)) K := by
  refine ⟨k, k', len, cap, e, z, x, rfl, rfl, hu, hs, hz, hzl, hpos, hx, hle, hcap, hby, ⟨_, (flat_snoc ho _).1, ho, rfl, ?_⟩⟩
  rw [(flat_snoc (top := top) ho .dead).2]
  exact hk
theorem kconvb {n0 : Nat} {base top : List VB} {s d e : TypeId} {b : ByteArray} {K : SV → KH → Prop} (ho : base.length = n0) (hs : (P.underlying s).isSome = true) (hd : P.underlying d = some (.slice e)) (he : P.underlying e = some (.int .u8)) (hb : b.size ≤ 1099511627776)
    (hk : K (.slc (n0 + top.length) 0 0 b.size) ⟨n0, base, top ++ [.row 0 1 (b.data.toList.map byteSV)]⟩) : KConvB P ⟨n0, base, top⟩ s d (.v (.string b)) K := by
  refine ⟨b, e, rfl, hs, hd, he, hb, .inl ⟨_, (flat_snoc ho _).1, ho, rfl, ?_⟩⟩
  rw [(flat_snoc (top := top) ho .dead).2]
  exact hk
end
theorem runL_of_vopsL {P : Program} {N : Nat} {ops : Array Oper} {k : TM → List VB → Prop} : ∀ (is : List Nat) (os : List Oper), is.map (ops[·]?) = os.map some → ∀ (tm : TM) (H : List VB), vopsL P N ops os tm H k → runL P N ops (fun _ => false) is tm H k
  | [], [], _, _, _, h => h
  | [], _ :: _, h, _, _, _ => by simp at h
  | _ :: _, [], h, _, _, _ => by simp at h
  | i :: is, o :: os, h, tm, H, hv => by
    simp only [List.map_cons, List.cons.injEq] at h
    have ih := runL_of_vopsL (P := P) (N := N) (k := k) is os h.2
    simp only [runL, step, h.1]
    have hv' : vop P N ops o tm H fun tm H => runL P N ops (fun _ => false) is tm H k := vop_mono hv fun tm H hh => ih tm H hh
    refine vguard_mono hv' (fun h' => ?_) id
    split at h'
    · rename_i hc; rw [if_pos hc]; exact vC_mono h' fun r H' hh => ⟨fun hf => (by cases hf), hh⟩
    · rename_i hc; rw [if_neg hc]; exact h'
/-- A region that draws its order: the order of the text stands for all. -/
theorem kwp_draw {R0 : Env} {P : Program} {N id : Nat} {ops : Array Oper} {tm : TM} {h : KH} {Q : KQ} (hm : P.follows .mixedOrders = true) (hc : orderOk P ops (fun _ => false) (List.range ops.size) = true) (ho : h.ok)
    (hk : kopsL P N ops ops.toList tm h (Q .normal)) : KWp R0 P N (.region id ops true) tm h Q :=
  ⟨vwp_draw (List.range ops.size) hm hc (runL_of_vopsL _ ops.toList (by obtain ⟨l⟩ := ops; exact range_get) tm _ (kopsL_sound _ ho hk))⟩
/-- The same, in an order that is named; at some operations memory may only have grown. -/
def kopsD (P : Program) (N : Nat) (ops : Array Oper) (es : List Nat) : List Nat → List Oper → TM → KH → (TM → KH → Prop) → Prop
  | i :: is, o :: os, tm, h, k => match es.contains i with
    | true => kop P N ops o tm h fun tm' h' => VReq (HExt h.flat h'.flat) (kopsD P N ops es is os tm' h' k)
    | false => kop P N ops o tm h fun tm' h' => kopsD P N ops es is os tm' h' k
  | [], [], tm, h, k => k tm h
  | _, _, _, _, _ => False
theorem vput_hLift {N n0 : Nat} {dst : Option Tmp} {r : SV} {H' : List VB} {tm : TM} {p : KH → Prop} {k : TM → KH → Prop} (h : vput N dst r H' tm (hLift n0 fun tm' h' => VReq (p h') (k tm' h'))) :
    (∃ h' : KH, h'.flat = H' ∧ p h') ∧ vput N dst r H' tm (hLift n0 k) := by
  cases dst with
  | none =>
    obtain ⟨h', e1, e2, e3, e4⟩ := h
    exact ⟨⟨h', e1, e4.p⟩, ⟨h', e1, e2, e3, e4.h⟩⟩
  | some d =>
    obtain ⟨hd, h', e1, e2, e3, e4⟩ := h
    exact ⟨⟨h', e1, e4.p⟩, hd, ⟨h', e1, e2, e3, e4.h⟩⟩
theorem kopsD_sound {P : Program} {N : Nat} {ops : Array Oper} {es : List Nat} : ∀ (is : List Nat) (os : List Oper), is.map (ops[·]?) = os.map some → ∀ {tm : TM} {h : KH} {k : TM → KH → Prop}, h.ok → kopsD P N ops es is os tm h k →
    runL P N ops (es.contains ·) is tm h.flat (hLift h.n0 k)
  | [], [], _, tm, h, k, ho, hk => ⟨h, rfl, ho, rfl, hk⟩
  | [], _ :: _, h, _, _, _, _, _ => by simp at h
  | _ :: _, [], h, _, _, _, _, _ => by simp at h
  | i :: is, o :: os, he, tm, h, k, ho, hk => by
    simp only [List.map_cons, List.cons.injEq] at he
    have ih := fun {tm : TM} {h : KH} {k : TM → KH → Prop} => kopsD_sound (P := P) (N := N) (es := es) is os he.2 (tm := tm) (h := h) (k := k)
    have lift : ∀ tm' H', hLift h.n0 (fun tm' h' => kopsD P N ops es is os tm' h' k) tm' H' → runL P N ops (es.contains ·) is tm' H' (hLift h.n0 k) := fun tm' H' ⟨h', e1, e2, e3, e4⟩ => by
      have := ih e2 e4
      rw [e1, e3] at this
      exact this
    simp only [runL, step, he.1]
    simp only [kopsD] at hk
    split at hk
    · rename_i hc
      refine vguard_mono (kop_sound ho hk) (fun h' => ?_) fun h' => vput_mono (vput_hLift h').2 lift
      split at h'
      · rename_i hC
        rw [if_pos hC]
        refine vC_mono h' fun r H' hh => ?_
        obtain ⟨⟨h1, q1, q2⟩, q3⟩ := vput_hLift hh
        exact ⟨fun _ => q1 ▸ q2, vput_mono q3 lift⟩
      · rename_i hC
        rw [if_neg hC]
        split at h'
        · rename_i hs; rw [hs]; exact vput_mono (vput_hLift h').2 lift
        · exact h'.elim
    · rename_i hc
      have hc' : es.contains i = false := by simpa using hc
      refine vguard_mono (kop_sound ho hk) (fun h' => ?_) fun h' => vput_mono h' lift
      split at h'
      · rename_i hC
        rw [if_pos hC]
        exact vC_mono h' fun r H' hh => ⟨fun hf => (by rw [hc'] at hf; cases hf), vput_mono hh lift⟩
      · rename_i hC
        rw [if_neg hC]
        split at h'
        · rename_i hs; rw [hs]; exact vput_mono h' lift
        · exact h'.elim
def pickL (ops : Array Oper) (L : List Nat) : List Oper := L.filterMap (ops[·]?)
theorem pickL_spec {ops : Array Oper} : ∀ L : List Nat, (∀ i, i ∈ L → i < ops.size) → L.map (ops[·]?) = (pickL ops L).map some
  | [], _ => rfl
  | i :: L, h => by
    have hi := h i (by simp)
    have ih := pickL_spec L fun j hj => h j (by simp [hj])
    simp only [pickL, List.filterMap_cons, List.map_cons, Array.getElem?_eq_getElem hi] at ih ⊢
    rw [ih]
theorem kwp_draw_in {R0 : Env} {P : Program} {N id : Nat} {ops : Array Oper} {tm : TM} {h : KH} {Q : KQ} (L es : List Nat) (hm : P.follows .mixedOrders = true) (hc : orderOk P ops (es.contains ·) L = true) (hL : L.all (Nat.blt · ops.size) = true) (ho : h.ok)
    (hk : kopsD P N ops es L (pickL ops L) tm h (Q .normal)) : KWp R0 P N (.region id ops true) tm h Q :=
  ⟨vwp_draw L hm hc (kopsD_sound L _ (pickL_spec L fun i hi => by rw [List.all_eq_true] at hL; simpa using hL i hi) ho hk)⟩
/-- A loop over a nil slice that grows: from the start on it is a row of nothing. -/
theorem kwp_nilrow {R0 : Env} {P : Program} {N : Nat} {c : Code} {tm : TM} {h : KH} {Q : KQ} (t n : Nat) (ho : h.ok) (ht : tget tm t = .v (.slice none 0 0))
    (hk : KWp R0 P N c ((t, .slc (h.n0 + h.top.length) 0 0 0) :: tm) { h with top := h.top ++ [.row 0 n []] } Q) : KWp R0 P N c tm h Q := by
  refine ⟨vwp_nilrow t n ht ?_⟩
  have := hk.h
  obtain ⟨e1, e2⟩ := flat_top ho (.row 0 n [])
  rw [e1] at this
  rw [e2]
  exact this
theorem kwp_of_exec {R0 : Env} {P : Program} {N : Nat} {c : Code} {tm : TM} {h : KH} {Q : KQ} (ho : h.ok) (hk : kexec R0 P N c tm h Q) : KWp R0 P N c tm h Q := ⟨kexec_sound c tm h Q ho hk⟩
theorem kcall_bool {P : Program} {f : FuncId} {args : List SV} {h : KH} {K : SV → KH → Prop} {b : Bool} (hc : VCalls P f args h.flat fun r H' => r = .v (.bool b) ∧ H' = h.flat) (ho : h.ok) (ht : b = true → K (.v (.bool true)) h) (hf : b = false → K (.v (.bool false)) h) : KCall P f args h K :=
  kcall_pure hc ho (by cases b; exact hf rfl; exact ht rfl)
theorem tsub_nil {tm : TM} : TSub tm [] := fun p hp => by cases hp
theorem tsub_cons {tm r : TM} {k : Nat} {x : SV} (h : tget tm k = x) (hr : TSub tm r) : TSub tm ((k, x) :: r) := fun p hp => by
  rcases List.mem_cons.1 hp with rfl | hp
  · exact h
  · exact hr p hp
theorem kdone_row {R0 : Env} {K : SV → List VB → Prop} {H top : List VB} {n0 j g n len : Nat} {xs : List SV} (hH : R0.H = H) (h : top[j]? = some (.row g n xs)) (hlen : len = xs.length) (hp : ∀ x, x ∈ xs → x.Bel H.length) (hk : K (.list n false xs) H) :
    KDone R0 K (.slc (H.length + j) g 0 len) ⟨n0, H, top⟩ := by
  subst hlen
  refine kdone_frz hH ?_ hk
  refine .row _ _ _ _ n xs xs (Nat.le_add_right _ _) ((flat_get_top (base := H) rfl j).trans h) (by simp) rfl (fun i hi hj => by simp) fun i hi hj k h1 h2 => ?_
  have e : xs[0 + i] = xs[i] := by simp
  simp only [e]
  exact .keep _ (bel_cells (hp _ (List.getElem_mem _)) _ (List.getElem_mem _))
end Go.Vm

/- The virtual machine, part 21: from the machine to a row's walk. Generic: no program in sight. -/
set_option linter.unusedVariables false
set_option linter.unusedSimpArgs false
namespace Go.Vm
open Go.RowKit

def env0 (w : World) : Env := ⟨[], fun _ => none, w⟩
theorem hrep0 (w : World) : HRep (env0 w) where
  addr := fun id a h _ => by obtain ⟨b, h1, _⟩ := h; simp [env0] at h1
  inj := fun id id' a a' h _ _ _ _ => by obtain ⟨b, h1, _⟩ := h; simp [env0] at h1
  box := fun id cs h => by simp [env0] at h
  row := fun id g n xs h => by simp [env0] at h
  map := fun id es h => by simp [env0] at h
theorem below0 {w : World} {R' : Env} (e : Ext (env0 w) R') : Below w.heap.size w R'.w :=
  ⟨e.os, e.tape, e.output, e.size, fun k hk => e.keep k hk fun id a h _ => by obtain ⟨b, h1, _⟩ := h; simp [env0] at h1⟩
theorem walk0 {P : Program} {f : FuncId} {args : List SV} {vs : Array Value} {w : World} (hv : RepL (env0 w) args vs) (h : VCalls P f args [] fun r H' => r = .v (.bool true)) :
    Calls P f vs w fun e w' => e = .returned (.bool true) ∧ Below w.heap.size w w' := by
  refine (h.2 (env0 w) vs (hrep0 w) rfl hv).mono ?_
  rintro e w' ⟨v, r, R', rfl, rfl, h1, h2, h3, rfl⟩
  rw [rep_v.1 h3]
  exact ⟨rfl, below0 h1⟩
theorem repL_vs (R : Env) (vs : List Value) : RepL R (vs.map .v) vs.toArray := ⟨by simp, fun i hi hj => by simp; exact .v _⟩
end Go.Vm

/- The virtual machine, part 22: a block that holds no cells turns. Generic: no program in sight. -/
set_option linter.unusedVariables false
set_option linter.unusedSimpArgs false
namespace Go.Vm
open Go.RowKit

def NoMap (H : List VB) : Prop := ∀ (id : Nat) (es : List (Value × SV)), H[id]? ≠ some (.map es)
/-- What holds cells lies as it lay. -/
structure Turn (w w' : World) : Prop where
  like : Like w w'
  size : w.heap.size ≤ w'.heap.size
  cells : ∀ (b : Nat) (c : Array Value) (e : TypeId) (fz : Nat × Nat), w.heap[b]? = some (Obj.cells c e fz) → w'.heap[b]? = some (Obj.cells c e fz)
theorem Turn.of {w w' : World} {row : Option Nat} (g : w.grownBy w' row) (hr : ∀ r, row = some r → ∃ o : Obj, w.heap[r]? = some o ∧ o.isCells = false) : Turn w w' := by
  refine ⟨⟨g.os, g.tape, g.output⟩, g.size, fun b c e fz h => ?_⟩
  have hb : b < w.heap.size := (Array.getElem?_eq_some_iff.1 h).1
  refine (g.block b hb fun e' => ?_).trans h
  obtain ⟨o, h1, h2⟩ := hr b e'.symm
  rw [h] at h1
  cases h1
  cases h2
theorem Turn.imm {R : Env} {w' : World} (t : Turn R.w w') {b : Nat} (h : R.imm b) : Env.imm { R with w := w' } b := ⟨Nat.lt_of_lt_of_le h.1 t.size, h.2⟩
theorem Rep.turn {R : Env} {w' : World} (hR : HRep R) (nm : NoMap R.H) (t : Turn R.w w') {x : SV} {y : Value} (h : Rep R x y) : Rep { R with w := w' } x y := by
  have hc : ∀ b o v, Go.Vm.cellAt R.w b o = some v → Go.Vm.cellAt w' b o = some v := fun b o v h => by
    unfold Go.Vm.cellAt World.cell? at h ⊢
    cases hb : R.w.heap[b]? with
    | none => simp [hb] at h
    | some ob =>
      cases ob with
      | cells c e fz =>
        have := t.cells b c e fz hb
        simp only [hb] at h
        simp only [this]
        exact h
      | _ => simp [hb] at h
  induction h with
  | junk y => exact .junk y
  | v x => exact .v x
  | agg cs a hl h ih => exact .agg cs a hl ih
  | tup cs a hl h ih => exact .tup cs a hl ih
  | ptr id off a hid hb hρ hs => exact .ptr id off a hid hb hρ hs
  | ro cs b o f hi hcl hz h ih => exact .ro cs b o f (t.imm hi) (fun j hj => hc _ _ _ (hcl j hj)) (Nat.lt_of_lt_of_le hz t.size) ih
  | list n full xs a c f hcl hfull hn ha h ih =>
    refine .list n full xs a c f hcl hfull hn ?_ ih
    rcases ha with ha | ⟨b, o, h1, h2, h3⟩
    · exact .inl ha
    · exact .inr ⟨b, o, h1, t.imm h2, fun j hj => hc _ _ _ (h3 j hj)⟩
  | slc id g off len n xs x c hr hle hcl ha =>
    refine .slc id g off len n xs x c hr hle hcl fun hp => ?_
    obtain ⟨a, q1, q2, q3⟩ := ha hp
    refine ⟨a, q1, q2, ?_⟩
    obtain ⟨_, h1 | ⟨a', c', e', fz, r1, r2, _⟩⟩ := hR.row id g n xs hr
    · rw [h1.1] at q1; cases q1
    · rw [q1] at r1
      cases r1
      have := t.cells _ _ _ _ r2
      unfold blkSize at q3 ⊢
      rw [r2] at q3
      simp only [this]
      exact q3
  | slcOld id g off len y hid hr => exact .slcOld id g off len y hid hr
  | rptr id g i o n xs a hr hi hρ hs => exact .rptr id g i o n xs a hr hi hρ hs
  | rptrOld id g i o y hid hr => exact .rptrOld id g i o y hid hr
  | fn fi cs a hl h ih => exact .fn fi cs a hl ih
  | mapv id b hid hb hρ => exact .mapv id b hid hb hρ
  | bsl id off n len cap x hid hb hle ha => exact .bsl id off n len cap x hid hb hle ha
theorem HRep.turn {R : Env} {w' : World} (hR : HRep R) (nm : NoMap R.H) (t : Turn R.w w') : HRep { R with w := w' } where
  addr := fun id a hl hr => ⟨(hR.addr id a hl hr).1, Nat.lt_of_lt_of_le (hR.addr id a hl hr).2 t.size⟩
  inj := hR.inj
  box := fun id cs h => by
    obtain ⟨a, c, e, fz, q1, q2, q3, q4, q5⟩ := hR.box id cs h
    exact ⟨a, c, e, fz, q1, t.cells _ _ _ _ q2, q3, q4, fun j hj hk => (q5 j hj hk).turn hR nm t⟩
  row := fun id g n xs h => by
    obtain ⟨hn, h1 | ⟨a, c, e, fz, q1, q2, q3, q4, q5⟩⟩ := hR.row id g n xs h
    · exact ⟨hn, .inl h1⟩
    · exact ⟨hn, .inr ⟨a, c, e, fz, q1, t.cells _ _ _ _ q2, q3, q4, fun i hi j hj hk => (q5 i hi j hj hk).turn hR nm t⟩⟩
  map := fun id es h => absurd h (nm id es)
theorem Ext.turn {R0 R : Env} {w' : World} (e : Ext R0 R) {row : Option Nat} (g : R.w.grownBy w' row) (hr : ∀ r, row = some r → R0.w.heap.size ≤ r) : Ext R0 { R with w := w' } where
  os := g.os.trans e.os
  tape := g.tape.trans e.tape
  output := g.output.trans e.output
  size := Nat.le_trans e.size g.size
  len := e.len
  keep := fun b hb hn => (g.block b (Nat.lt_of_lt_of_le hb e.size) (fun h => by have := hr b h.symm; omega)).trans (e.keep b hb hn)
  bsz := fun b hb => by
    have h1 := g.block b (Nat.lt_of_lt_of_le hb e.size) (fun h => by have := hr b h.symm; omega)
    have h2 := e.bsz b hb
    unfold blkSize at h2 ⊢
    show (match w'.heap[b]? with | some (.cells c _ _) => c.size | _ => 0) = _
    rw [h1]
    exact h2
  live := e.live
  rho := e.rho
  row := e.row
  rowB := e.rowB
/-- A block that holds neither cells nor a map is kept. -/
theorem Ext.other {R R' : Env} (e : Ext R R') (hR : HRep R) (nm : NoMap R.H) {k : Nat} {o : Obj} (h : R.w.heap[k]? = some o) (ho : o.isCells = false) : R'.w.heap[k]? = some o := by
  have hk : k < R.w.heap.size := (Array.getElem?_eq_some_iff.1 h).1
  refine (e.keep k hk fun id a hl hr hb => ?_).trans h
  obtain ⟨b, h1, h2⟩ := hl
  subst hb
  cases b with
  | dead => exact h2 rfl
  | box cs =>
    obtain ⟨a', c, e', fz, q1, q2, _⟩ := hR.box id cs h1
    rw [hr] at q1
    cases q1
    rw [h] at q2
    cases q2
    cases ho
  | row g n xs =>
    obtain ⟨_, h3 | ⟨a', c, e', fz, q1, q2, _⟩⟩ := hR.row id g n xs h1
    · rw [h3.1] at hr; cases hr
    · rw [hr] at q1
      cases q1
      rw [h] at q2
      cases q2
      cases ho
  | map es => exact nm id es h1
theorem Ext.keepsFrom {R R' : Env} (e : Ext R R') (hR : HRep R) (nm : NoMap R.H) (B : Nat) : KeepsFrom B R.w R'.w := ⟨e.size, fun k o _ h ho => e.other hR nm h ho⟩
end Go.Vm

/- The virtual machine, part 23: functions that range over a function. Generic: no program in sight. -/
set_option linter.unusedVariables false
set_option linter.unusedSimpArgs false
namespace Go.Vm
open Go.RowKit

def MarksOk (n0 : Nat) (ds : List Deferred) (w : World) : Prop := ∃ D, ds = [{ target := .collected D, args := #[] }] ∧ w.heap[D]? = some (.deferred (some [])) ∧ n0 ≤ D
def VPostM (R0 : Env) (N : Nat) (Q : VQ) : Exit → Act → World → Prop := fun e a' w' =>
  ∃ R' tm', R'.w = w' ∧ Ext R0 R' ∧ HRep R' ∧ TRep R' N tm' a' ∧ (a'.defers = [] ∨ MarksOk R0.w.heap.size a'.defers w') ∧ NoMap R'.H ∧ Q e tm' R'.H
theorem VPostM.mono {R0 : Env} {N : Nat} {Q Q' : VQ} (h : ∀ e tm H, Q e tm H → Q' e tm H) : ∀ e a w, VPostM R0 N Q e a w → VPostM R0 N Q' e a w := fun _ _ _ ⟨R', tm', h1, h2, h3, h4, h5, h6, h7⟩ => ⟨R', tm', h1, h2, h3, h4, h5, h6, h _ _ _ h7⟩
/-- Nothing is marked yet. -/
def VWpS (R0 : Env) (P : Program) (N : Nat) (c : Code) (tm : TM) (H : List VB) (Q : VQ) : Prop :=
  ∀ (R : Env) (a : Act), Ext R0 R → HRep R → R.H = H → TRep R N tm a → a.defers = [] → c.wpIn (WF none) 2 P (VPostM R0 N Q) a R.w
/-- Marked, or not. -/
def VWpM (R0 : Env) (P : Program) (N : Nat) (c : Code) (tm : TM) (H : List VB) (Q : VQ) : Prop :=
  ∀ (R : Env) (a : Act), Ext R0 R → HRep R → R.H = H → TRep R N tm a → (a.defers = [] ∨ MarksOk R0.w.heap.size a.defers R.w) → c.wpIn (WF none) 2 P (VPostM R0 N Q) a R.w
def QNoMap (Q : VQ) : Prop := ∀ e tm H, Q e tm H → NoMap H
section
variable {R0 : Env} {P : Program} {N : Nat} {tm : TM} {H : List VB} {Q : VQ}
theorem vwpm_of {c : Code} (hq : ∀ e tm H, Q e tm H → NoMap H) (nm : NoMap H) (h : ∀ R1 : Env, R1.H = H → HBel H → R0.H.length ≤ R1.H.length → VWp R1 P N c tm H Q) : VWpM R0 P N c tm H Q := by
  intro R a h1 h2 h3 h4 h5
  have hB : HBel R.H := fun id b hb => h2.bel hb
  refine wpIn_mono (h R h3 (h3 ▸ hB) h1.len none 2 R a (Ext.refl h2) h2 h3 h4) ?_
  rintro e a' w' ⟨R', tm', rfl, q2, q3, q4, q5, q6⟩
  refine ⟨R', tm', rfl, h1.trans q2, q3, q4, ?_, hq _ _ _ q6, q6⟩
  rw [q5]
  refine h5.imp id ?_
  rintro ⟨D, e1, e2, e3⟩
  exact ⟨D, e1, q2.other h2 (h3 ▸ nm) e2 rfl, e3⟩
theorem vwps_m {c : Code} (h : VWpM R0 P N c tm H Q) : VWpS R0 P N c tm H Q := fun R a h1 h2 h3 h4 h5 => h R a h1 h2 h3 h4 (.inl h5)
theorem vwps_pre {x y : Code} (h : VWp R0 P N x tm H (vthen (fun tm H => VWpS R0 P N y tm H Q) (fun _ _ _ => False))) : VWpS R0 P N (.seq x y) tm H Q := by
  intro R a h1 h2 h3 h4 h5
  refine wpIn_seq (wpIn_mono (h none 2 R a h1 h2 h3 h4) ?_)
  rintro e a' w' ⟨R', tm', rfl, q2, q3, q4, q5, q6⟩
  cases e with
  | normal => exact q6 R' a' q2 q3 rfl q4 (q5.trans h5)
  | _ => exact q6.elim
theorem vwps_seq {x y : Code} (h : VWpS R0 P N x tm H (vthen (fun tm H => VWpM R0 P N y tm H Q) Q)) : VWpS R0 P N (.seq x y) tm H Q := by
  intro R a h1 h2 h3 h4 h5
  refine wpIn_seq (wpIn_mono (h R a h1 h2 h3 h4 h5) ?_)
  rintro e a' w' ⟨R', tm', rfl, q2, q3, q4, q5, q6, q7⟩
  cases e with
  | normal => exact q7 R' a' q2 q3 rfl q4 q5
  | _ => exact ⟨R', tm', rfl, q2, q3, q4, q5, q6, q7⟩
theorem vwps_block {id : Nat} {c : Code} (h : VWpS R0 P N c tm H (vblock id Q)) : VWpS R0 P N (.block id c) tm H Q := by
  intro R a h1 h2 h3 h4 h5
  refine wpIn_block (wpIn_mono (h R a h1 h2 h3 h4 h5) ?_)
  rintro e a' w' ⟨R', tm', rfl, q2, q3, q4, q5, q6, q7⟩
  cases e with
  | exit id' =>
    simp only [vblock] at q7
    simp only [Exit.inBlock]
    by_cases hid : id' = id
    · subst hid
      simp only [Nat.beq_refl, cond_true] at q7
      rw [if_pos rfl]
      exact ⟨R', tm', rfl, q2, q3, q4, q5, q6, q7⟩
    · have : Nat.beq id' id = false := by
        cases hb : Nat.beq id' id
        · rfl
        · exact absurd (Nat.eq_of_beq_eq_true hb) hid
      simp only [this, cond_false] at q7
      rw [if_neg hid]
      exact ⟨R', tm', rfl, q2, q3, q4, q5, q6, q7⟩
  | _ => exact ⟨R', tm', rfl, q2, q3, q4, q5, q6, q7⟩
def SameAt (b o : Nat) (W W' : World) : Prop := W'.cell? ⟨b, o, none⟩ = W.cell? ⟨b, o, none⟩
/-- A range over an iterator that has captured one number in a box; the rounds never leave early. -/
theorem vwps_range {α : Type} {enc : α → Int} {g : Operand} {t d : Tmp} {rid : Nat} {ty : TypeId} {pos : String} {after : Array Edge} {body : Code} {gf : FuncId} {id : Nat} {c : Int} {xs : List α} {NN : Nat} (hcall : callable P gf = true) {Hinv : List α → List VB} (nm : ∀ pre, NoMap (Hinv pre)) (hg : vev tm g = .fn gf [.ptr id 0])
    (h0 : Hinv [] = H) (hid : ∀ pre, (Hinv pre)[id]? = some (.box [.v (.int .i64 c)])) (ht : Nat.blt t N = true) (hd : Nat.blt d N = true)
    (hiter : ∀ (b o : Nat) (w : World), w.cell? ⟨b, o, none⟩ = some (.int .i64 c) → SeqStopsK (WF none) 1 P gf #[.pointer (some ⟨b, o, none⟩)] (fun x : α => #[Value.int .i64 (enc x)]) (SameAt b o) (fun ys => ys = xs) (fun pre => pre <+: xs) NN w)
    (hbody : ∀ (R1 : Env) (pre : List α) (x : α), pre.length < NN → R1.H = Hinv pre → HBel (Hinv pre) → VWp R1 P N body ((d, .v (.int .i64 (enc x))) :: (t, .v (.int .i64 (enc x))) :: tm) (Hinv pre) (vthen (fun tm' H' => H' = Hinv (pre ++ [x])) fun _ _ _ => False))
    (hdone : Q .normal tm (Hinv xs)) : VWpS R0 P N (.rangeFunc g #[t] (.region rid #[⟨some d, .assign (.tmp t), ty, pos, after, none⟩] false) body) tm H Q := by
  intro R a h1 h2 h3 h4 h5
  have hgr := h4.ev g
  rw [hg] at hgr
  obtain ⟨ad, hρ, hspot, hgv⟩ : ∃ ad : Addr, R.ρ id = some ad ∧ ad.spot = none ∧ a.eval g = .func (.func gf) #[] #[.pointer (some ⟨ad.block, ad.off, none⟩)] := by
    generalize a.eval g = v at hgr
    cases hgr with
    | fn fi cs ar hl hh =>
      obtain ⟨l⟩ := ar
      match l, hl with
      | [y], _ =>
        have hy := hh 0 (by simp) (by simp)
        simp only [List.getElem_cons_zero, List.getElem_toArray] at hy
        cases hy with
        | ptr _ _ ad hid' hb hρ hs => exact ⟨ad, hρ, hs, rfl⟩
  have cellOf : ∀ (R1 : Env) (pre : List α), HRep R1 → R1.H = Hinv pre → R1.ρ id = some ad → R1.w.cell? ⟨ad.block, ad.off, none⟩ = some (.int .i64 c) := fun R1 pre hR1 hH1 hr => by
    obtain ⟨a', cs, e, fz, q1, q2, q3, q4, q5⟩ := hR1.box id _ (hH1 ▸ hid pre)
    rw [hr] at q1
    cases q1
    have h0' : ad.off < cs.size := by simp at q4; omega
    have := q5 0 (by simp) (by simpa using h0')
    simp only [Nat.add_zero, List.getElem_cons_zero] at this
    rw [rep_v] at this
    simp [World.cell?, q2, h0', this]
  have hρ' : ∀ R1, Ext R R1 → R1.ρ id = some ad := fun R1 e => by
    have hlt := lt_of_some (hid [])
    rw [h0, ← h3] at hlt
    exact ((e.rho id hlt (fun g n xs h => by rw [h3, ← h0, hid []] at h; cases h)).1).trans hρ
  let I : List α → World → Prop := fun pre W => ∃ R1 : Env, R1.w = W ∧ Ext R R1 ∧ HRep R1 ∧ R1.H = Hinv pre
  have turnI : ∀ (R1 : Env) (W' : World) (row : Option Nat) (pre : List α), Ext R R1 → HRep R1 → R1.H = Hinv pre → R1.w.grownBy W' row → (∀ r, row = some r → R.w.heap.size ≤ r ∧ ∃ o : Obj, R1.w.heap[r]? = some o ∧ o.isCells = false) →
      Ext R { R1 with w := W' } ∧ HRep { R1 with w := W' } := fun R1 W' row pre e1 e2 e3 g hr =>
    ⟨e1.turn g (fun r hr' => (hr r hr').1), e2.turn (e3 ▸ nm pre) (Turn.of g fun r hr' => (hr r hr').2)⟩
  have hI : OwnFrom R.w.heap.size I := by
    rintro pre W W' row ⟨R1, rfl, e1, e2, e3⟩ g hr
    obtain ⟨q1, q2⟩ := turnI R1 W' row pre e1 e2 e3 g hr
    exact ⟨{ R1 with w := W' }, rfl, q1, q2, e3⟩
  have hps : ∀ x : α, (#[Value.int .i64 (enc x)] : Array Value).size = (#[t] : Array Tmp).size := fun _ => rfl
  refine wpIn_rangeFunc_ownG (F := WF none) (n := 2) rfl (by omega) (gf := gf) (lb := #[.pointer (some ⟨ad.block, ad.off, none⟩)]) hgv trivial (fun args w => callFunc_enter hcall args w)
    (hiter ad.block ad.off R.w (cellOf R [] h2 (h3.trans h0.symm) hρ)) (fun h k => k.trans h) (fun W l o o' hl ho hc hw => ?_) (Below.refl _ _) hps I (fun _ _ _ => False) hI (fun _ _ _ _ _ hs _ _ => hs)
    ⟨R, rfl, Ext.refl h2, h2, h3.trans h0.symm⟩ (fun x => { tmps := (a.tmps.setIfInBounds t (.int .i64 (enc x))).setIfInBounds d (.int .i64 (enc x)), defers := [] }) ?_ ?_ ?_ ?_
  · have hlt := (h2.addr id ad ⟨_, by rw [h3, ← h0]; exact hid [], by simp⟩ hρ).2
    exact World.cell?_of_block (World.putObj_heap_other (by show ad.block ≠ l; omega))
  · intro l x W K hK
    have e1 : ((#[t] : Array Tmp).zip #[Value.int .i64 (enc x)]).foldl (fun t (p, v) => t.setIfInBounds p v) a.tmps = a.tmps.setIfInBounds t (.int .i64 (enc x)) := by simp
    rw [e1]
    refine wpIn_region ?_
    have htl : t < a.tmps.size := by rw [h4.size]; simpa using ht
    have hev : Act.eval { tmps := a.tmps.setIfInBounds t (.int .i64 (enc x)), defers := [] } (.tmp t) = .int .i64 (enc x) := by
      simp only [Act.eval]
      rw [Array.getD_eq_getD_getElem?, Array.getElem?_setIfInBounds_self_of_lt htl]
      rfl
    show wpOpsIn (WF (some l)) 0 P _ _ [0] _ _
    simp only [wpOpsIn, List.getElem?_toArray, List.getElem?_cons_zero, Region.wanted, if_true]
    refine ⟨fun f hf => trivial, ?_⟩
    rw [Oper.semAt_eq _ _ _ (by simp)]
    simp only [execOp, hev, Sem.run_pure, Oper.uponIn]
    exact hK
  · rintro l pre x W ⟨R1, rfl, e1, e2, e3⟩ hlt
    have hB : HBel (Hinv pre) := fun id b hb => e3 ▸ e2.bel (e3 ▸ hb)
    have htr : TRep R1 N ((d, .v (.int .i64 (enc x))) :: (t, .v (.int .i64 (enc x))) :: tm) { tmps := (a.tmps.setIfInBounds t (.int .i64 (enc x))).setIfInBounds d (.int .i64 (enc x)), defers := [] } := by
      have := ((h4.mono e1).put ht (.v (.int .i64 (enc x)))).put hd (.v (.int .i64 (enc x)))
      exact ⟨this.size, this.get⟩
    refine wpIn_mono (hbody R1 pre x hlt e3 hB (some l) 0 R1 _ (Ext.refl e2) e2 e3 htr) ?_
    rintro e a' w' ⟨R', tm', rfl, q2, q3, q4, q5, q6⟩
    cases e with
    | normal =>
      refine ⟨q2.keepsFrom e2 (e3 ▸ nm pre) _, ?_, R', rfl, e1.trans q2, q3, q6⟩
      exact (cellOf R' _ q3 q6 (hρ' R' (e1.trans q2))).trans (cellOf R1 _ e2 e3 (hρ' R1 e1)).symm
    | _ => exact q6.elim
  · rintro D ys W hD rfl ⟨R1, rfl, e1, e2, e3⟩ hK
    have htr := h4.mono e1
    refine ⟨R1, tm, rfl, h1.trans e1, e2, ⟨htr.size, htr.get⟩, .inr ⟨D, by rw [h5], hK, Nat.le_trans h1.size hD⟩, e3 ▸ nm ys, ?_⟩
    rw [e3]
    exact hdone
  · rintro D c' pre W hD _ hF _
    exact hF.elim
theorem vcalls_marks {f : FuncId} {fn : Func} {c : Code} {args : List SV} {H : List VB} {K : SV → List VB → Prop} (hf : P.funcs[f]? = some fn) (hb : fn.body = some c)
    (hc : callable P f = true) (hlen : args.length ≤ fn.ntmps)
    (h : ∀ R0 : Env, R0.H = H → HBel R0.H → VWpS R0 P fn.ntmps c (argsTM 0 args) R0.H (vfn R0 P fn.results.toList K)) : VCalls P f args H K := by
  refine ⟨hc, fun R vs h1 h2 h3 => ?_⟩
  refine callsIn_wide (n := 2).1 (callsIn_of_wp_marks hf hb trivial ?_)
  have hB : HBel R.H := fun id b hb => h1.bel hb
  have ht : TRep R fn.ntmps (argsTM 0 args) { tmps := vs ++ Array.replicate (fn.ntmps - vs.size) undef, defers := [] } := by
    refine ⟨by simp [h3.1]; omega, fun t => ?_⟩
    rw [argsTM_get]
    simp only [Nat.zero_le, if_true, Nat.sub_zero]
    by_cases hlt : t < args.length
    · have hv : t < vs.size := by rw [h3.1]; exact hlt
      have := h3.2 t hlt hv
      rw [List.getD_eq_getElem?_getD, List.getElem?_eq_getElem hlt, Array.getD_eq_getD_getElem?, Array.getElem?_append_left hv, Array.getElem?_eq_getElem hv]
      exact this
    · rw [List.getD_eq_getElem?_getD, List.getElem?_eq_none (by omega)]
      exact .junk _
  refine wpIn_mono (h R h2 hB R _ (Ext.refl h1) h1 rfl ht rfl) ?_
  rintro e a' w' ⟨R', tm', rfl, q2, q3, q4, q5, q6, q7⟩
  -- the return, in whatever world that differs from the last one by the shut block
  have key : ∀ R1 : Env, R1.H = R'.H → Ext R R1 → HRep R1 → TRep R1 fn.ntmps tm' a' → VRet R P fn.results.toList K tm' R'.H → ∃ v, (results fn a'.tmps).run P R1.w = .ok v R1.w ∧
      ∃ v' r R'', Ending.returned v = .returned v' ∧ R''.w = R1.w ∧ Ext R R'' ∧ HRep R'' ∧ Rep R'' r v' ∧ K r R''.H := by
    rintro R1 e1 e2 e3 e4 ⟨r, hr, hk⟩
    rw [← e1] at hr hk
    obtain ⟨v, p1, p2⟩ := vresults_sound e3 e4 hr
    refine ⟨v, p1, ?_⟩
    rcases hk with hk | ⟨Hf, r', s, hfz, hk⟩
    · exact ⟨v, r, R1, rfl, rfl, e2, e3, p2, hk⟩
    · have s' : R1.sub Hf := ⟨s.high, s.sub⟩
      exact ⟨v, r', { R1 with H := Hf }, rfl, rfl, e2.forget s' s.low, e3.forget s' (s.all hB), frz_sound e3 s' hfz p2, hk⟩
  have fin : VRet R P fn.results.toList K tm' R'.H → LeavesInM Fence.wide 2 P fn a'.tmps (fun e w' => ∃ v r R', e = .returned v ∧ R'.w = w' ∧ Ext R R' ∧ HRep R' ∧ Rep R' r v ∧ K r R'.H) a'.defers .returning R'.w := by
    intro hv
    rcases q5 with hd | ⟨D, hd, hk, hD⟩
    · rw [hd]
      exact key R' rfl q2 q3 q4 hv
    · rw [hd]
      refine ⟨by simp, .inl ⟨D, _, rfl, run_takeDeferred hk, ?_⟩⟩
      have g := grownBy_putObj' R'.w D (.deferred none)
      have hr : ∀ r, some D = some r → ∃ o : Obj, R'.w.heap[r]? = some o ∧ o.isCells = false := fun r e => by cases e; exact ⟨_, hk, rfl⟩
      have t := Turn.of g hr
      exact key { R' with w := _ } rfl (q2.turn g (fun r e => by cases e; exact hD)) (q3.turn q6 t) ⟨q4.size, fun k => (q4.get k).turn q3 q6 t⟩ hv
  cases e with
  | normal => exact fin q7
  | ret => exact fin q7
  | _ => exact q7.elim
end
end Go.Vm

/- The virtual machine, part 24: functions that range over a function, as a reckoning. Generic: no program in sight. -/
set_option linter.unusedVariables false
set_option linter.unusedSimpArgs false
namespace Go.Vm
open Go.RowKit

structure KWpS (R0 : Env) (P : Program) (N : Nat) (c : Code) (tm : TM) (h : KH) (Q : KQ) : Prop where
  h : VWpS R0 P N c tm h.flat (qLift h.n0 Q)
structure KWpM (R0 : Env) (P : Program) (N : Nat) (c : Code) (tm : TM) (h : KH) (Q : KQ) : Prop where
  h : VWpM R0 P N c tm h.flat (qLift h.n0 Q)
section
variable {R0 : Env} {P : Program} {N : Nat} {tm : TM} {h : KH} {Q : KQ}
theorem kwps_pre {x y : Code} (ho : h.ok) (hk : kexec R0 P N x tm h (kthen (fun tm' h' => KWpS R0 P N y tm' h' Q) fun _ _ _ => False)) : KWpS R0 P N (.seq x y) tm h Q :=
  ⟨vwps_pre (VWp.mono (kexec_sound x tm h _ ho hk) fun e tm' H' ⟨h', e1, e2, e3, e4⟩ => by
    cases e with
    | normal =>
      have := e4.h
      rw [e1, e3] at this
      exact this
    | _ => exact e4)⟩
theorem VWpS.mono {c : Code} {H : List VB} {Q Q' : VQ} (hk : VWpS R0 P N c tm H Q) (hq : ∀ e tm H, Q e tm H → Q' e tm H) : VWpS R0 P N c tm H Q' :=
  fun R a h1 h2 h3 h4 h5 => wpIn_mono (hk R a h1 h2 h3 h4 h5) fun e a w hh => VPostM.mono hq e a w hh
theorem kwps_seq {x y : Code} (hk : KWpS R0 P N x tm h (kthen (fun tm' h' => KWpM R0 P N y tm' h' Q) Q)) : KWpS R0 P N (.seq x y) tm h Q :=
  ⟨vwps_seq (hk.h.mono fun e tm' H' ⟨h', e1, e2, e3, e4⟩ => by
    cases e with
    | normal =>
      have := e4.h
      rw [e1, e3] at this
      exact this
    | _ => exact ⟨h', e1, e2, e3, e4⟩)⟩
theorem kwps_block {id : Nat} {c : Code} (hk : KWpS R0 P N c tm h (kblock id Q)) : KWpS R0 P N (.block id c) tm h Q :=
  ⟨vwps_block (hk.h.mono fun e tm' H' ⟨h', e1, e2, e3, e4⟩ => by
    cases e with
    | exit id' =>
      simp only [kblock] at e4
      simp only [vblock]
      split at e4
      · rename_i hb; rw [hb]; exact ⟨h', e1, e2, e3, e4⟩
      · rename_i hb; rw [hb]; exact ⟨h', e1, e2, e3, e4⟩
    | _ => exact ⟨h', e1, e2, e3, e4⟩)⟩
theorem kwps_m {c : Code} (hk : KWpM R0 P N c tm h Q) : KWpS R0 P N c tm h Q := ⟨vwps_m hk.h⟩
/-- Behind the loop: what is walked is walked from there. -/
theorem kwpm_of {c : Code} (ho : h.ok) (nm : NoMap h.flat) (hk : ∀ R1 : Env, R1.H = h.flat → HBel h.flat → kexec R1 P N c tm h fun e tm' h' => NoMap h'.flat ∧ Q e tm' h') : KWpM R0 P N c tm h Q :=
  ⟨by
    have := vwpm_of (R0 := R0) (P := P) (N := N) (c := c) (tm := tm) (H := h.flat) (Q := qLift h.n0 fun e tm' h' => NoMap h'.flat ∧ Q e tm' h') (fun e tm H ⟨h', e1, _, _, e4⟩ => e1 ▸ e4.1) nm
      (fun R1 h1 hb _ => kexec_sound c tm h _ ho (hk R1 h1 hb))
    intro R a q1 q2 q3 q4 q5
    exact wpIn_mono (this R a q1 q2 q3 q4 q5) fun e a w hh => VPostM.mono (fun e tm H ⟨h', e1, e2, e3, e4⟩ => ⟨h', e1, e2, e3, e4.2⟩) e a w hh⟩
theorem kwps_range {α : Type} {enc : α → Int} {g : Operand} {t d : Tmp} {rid : Nat} {ty : TypeId} {pos : String} {after : Array Edge} {body : Code} {gf : FuncId} {id : Nat} {c : Int} {xs : List α} {NN : Nat} (hf : List α → KH)
    (hiter : ∀ (b o : Nat) (w : World), w.cell? ⟨b, o, none⟩ = some (.int .i64 c) → SeqStopsK (WF none) 1 P gf #[.pointer (some ⟨b, o, none⟩)] (fun x : α => #[Value.int .i64 (enc x)]) (SameAt b o) (fun ys => ys = xs) (fun pre => pre <+: xs) NN w)
    (h0 : hf [] = h) (hcall : callable P gf = true) (nm : ∀ pre, NoMap (hf pre).flat) (hg : vev tm g = .fn gf [.ptr id 0])
    (hid : ∀ pre, (hf pre).flat[id]? = some (.box [.v (.int .i64 c)])) (ht : Nat.blt t N = true) (hd : Nat.blt d N = true) (ok : ∀ pre, (hf pre).ok ∧ (hf pre).n0 = h.n0)
    (hbody : ∀ (R1 : Env) (pre : List α) (x : α), pre.length < NN → R1.H = (hf pre).flat → HBel (hf pre).flat → kexec R1 P N body ((d, .v (.int .i64 (enc x))) :: (t, .v (.int .i64 (enc x))) :: tm) (hf pre) (kthen (fun tm' h' => KEnd (h' = hf (pre ++ [x]))) fun _ _ _ => False))
    (hdone : Q .normal tm (hf xs)) : KWpS R0 P N (.rangeFunc g #[t] (.region rid #[⟨some d, .assign (.tmp t), ty, pos, after, none⟩] false) body) tm h Q := by
  subst h0
  refine ⟨vwps_range (Hinv := fun pre => (hf pre).flat) hcall nm hg rfl hid ht hd hiter (fun R1 pre x hlt h1 hb => ?_) ⟨hf xs, rfl, (ok xs).1, (ok xs).2, hdone⟩⟩
  refine VWp.mono (kexec_sound body _ (hf pre) _ (ok pre).1 (hbody R1 pre x hlt h1 hb)) fun e tm' H' ⟨h', e1, e2, e3, e4⟩ => ?_
  cases e with
  | normal => exact e1.symm.trans (congrArg KH.flat e4.h)
  | _ => exact e4
theorem kcalls_marks {f : FuncId} {fn : Func} {c : Code} {args : List SV} {H : List VB} {K : SV → List VB → Prop} (hf : P.funcs[f]? = some fn) (hb : fn.body = some c)
    (hc : callable P f = true) (hlen : Nat.ble args.length fn.ntmps = true)
    (hk : ∀ R0 : Env, R0.H = H → HBel H → KWpS R0 P fn.ntmps c (argsTM 0 args) ⟨H.length, H, []⟩ (kfn R0 P fn.results.toList K)) : VCalls P f args H K := by
  refine vcalls_marks hf hb hc (by simpa using hlen) fun R0 h1 h2 => ?_
  have := (hk R0 h1 (h1 ▸ h2)).h
  have e : (⟨H.length, H, []⟩ : KH).flat = R0.H := by simp [KH.flat, h1]
  rw [e] at this
  refine this.mono ?_
  rintro en tm H' ⟨h', e1, e2, e3, e4⟩
  cases en with
  | normal => exact e1 ▸ kret_sound e4
  | ret => exact e1 ▸ kret_sound e4
  | _ => exact e4.elim
end
theorem noMap_append {H X : List VB} (h : NoMap H) (hx : ∀ b, b ∈ X → ∀ es, b ≠ .map es) : NoMap (H ++ X) := fun id es he => by
  by_cases hlt : id < H.length
  · rw [List.getElem?_append_left hlt] at he; exact h id es he
  · rw [List.getElem?_append_right (by omega)] at he
    exact hx _ (List.mem_of_getElem? he) es rfl
end Go.Vm
