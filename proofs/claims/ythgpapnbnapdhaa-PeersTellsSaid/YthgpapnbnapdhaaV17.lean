/- The virtual machine, part 17: what an operation that turns nothing yields is as it was where memory has grown; it hangs on its own operands. Generic: no program in sight. -/
import Derived.Test.YthgpapnbnapdhaaV16
import Derived.OrdersIn
set_option linter.unusedVariables false
set_option linter.unusedSimpArgs false
namespace Go.Vm
open Go.RowKit

def HExt (H H' : List VB) : Prop := ∀ (id : Nat) (b : VB), H[id]? = some b → H'[id]? = some b
theorem HExt.refl (H : List VB) : HExt H H := fun _ _ h => h
theorem HExt.append (H X : List VB) : HExt H (H ++ X) := fun id b h => by rw [List.getElem?_append_left (lt_of_some h)]; exact h
section
variable {P : Program} {H H' : List VB}
theorem svValid_ext (e : HExt H H') {x : SV} (h : svValid H x = true) : svValid H' x = true := by
  cases x with
  | slc id g off len =>
    simp only [svValid] at h ⊢
    split at h
    · rename_i hh; rw [e _ _ hh]; exact h
    · cases h
  | rptr id g i o =>
    simp only [svValid] at h ⊢
    split at h
    · rename_i hh; rw [e _ _ hh]; exact h
    · cases h
  | _ => exact h
theorem vread_ext (e : HExt H H') {x : SV} {r : Nat × List SV} (h : vread H x = some r) : vread H' x = some r := by
  cases x with
  | slc id g off len =>
    simp only [vread] at h ⊢
    split at h
    · rename_i hh; rw [e _ _ hh]; exact h
    · cases h
  | _ => exact h
theorem vcells_ext (e : HExt H H') {x : SV} {r : List SV} (h : vcells H x = some r) : vcells H' x = some r := by
  cases x with
  | ptr id off =>
    simp only [vcells] at h ⊢
    split at h
    · rename_i hh; rw [e _ _ hh]; exact h
    · cases h
  | rptr id g i o =>
    simp only [vcells] at h ⊢
    split at h
    · rename_i hh; rw [e _ _ hh]; exact h
    · cases h
  | _ => exact h
theorem vload_ext (e : HExt H H') {t : TypeId} {x r : SV} (h : vload P H t x = some r) : vload P H' t x = some r := by
  unfold vload at h ⊢
  split at h
  · rename_i hh; rw [vcells_ext e hh]; exact h
  · cases h
theorem pAdd_ext (e : HExt H H') {k : Nat} {x r : SV} (h : pAdd H k x = some r) : pAdd H' k x = some r := by
  cases x with
  | rptr id g i o =>
    simp only [pAdd] at h ⊢
    split at h
    · rename_i hh; rw [e _ _ hh]; exact h
    · cases h
  | _ => exact h
theorem pSliceS_ext (e : HExt H H') {n : Nat} {x r : SV} {lo hi mx : Option SV} (h : pSliceS H n x lo hi mx = some r) : pSliceS H' n x lo hi mx = some r := by
  cases x with
  | slc id g off len =>
    simp only [pSliceS] at h ⊢
    split at h
    · rename_i hh; rw [e _ _ hh]; exact h
    · cases h
  | v x =>
    have hx : pSliceS H' n (.v x) lo hi mx = pSliceS H n (.v x) lo hi mx := by
      simp only [pSliceS]
      split <;> first | rfl | (rename_i hh; cases hh)
    rw [hx]
    exact h
  | _ => exact h
theorem pSlice_ext (e : HExt H H') {t : TypeId} {x r : SV} {lo hi mx : Option SV} (h : pSlice P H t x lo hi mx = some r) : pSlice P H' t x lo hi mx = some r := by
  unfold pSlice at h ⊢
  split at h
  · exact h
  · split at h
    · rename_i hs; rw [if_pos hs]; exact pSliceS_ext e h
    · cases h
  · exact h
  · exact h
  · cases h
theorem pConvBytes_ext (e : HExt H H') {t : TypeId} {x r : SV} (h : pConvBytes P H t x = some r) : pConvBytes P H' t x = some r := by
  unfold pConvBytes at h ⊢
  split at h
  · split at h
    · exact h
    · split at h
      · rename_i hh; rw [vread_ext e hh]; exact h
      · cases h
  · cases h
theorem pConv_ext (e : HExt H H') {s d : TypeId} {x r : SV} (h : pConv P H s d x = some r) : pConv P H' s d x = some r := by
  unfold pConv at h ⊢
  split at h
  · exact pConvBytes_ext e h
  · exact h
  · exact h
  · cases h
theorem pFieldAddr_ext (e : HExt H H') {t : TypeId} {f : Nat} {x r : SV} (h : pFieldAddr P H t f x = some r) : pFieldAddr P H' t f x = some r := by
  unfold pFieldAddr at h ⊢
  split at h
  · split at h
    · split at h
      · rename_i hc; rw [if_pos hc]; exact pAdd_ext e h
      · cases h
    · cases h
  · cases h
theorem pIndexAddr_ext (e : HExt H H') {t : TypeId} {x i r : SV} (h : pIndexAddr P H t x i = some r) : pIndexAddr P H' t x i = some r := by
  unfold pIndexAddr at h ⊢
  split at h
  · split at h
    · split at h
      · rename_i hc; rw [if_pos hc]; exact pAdd_ext e h
      · cases h
    · split at h
      · rename_i hc
        rw [if_pos hc]
        split at h
        · exact h
        · split at h
          · rename_i hh; rw [e _ _ hh]; exact h
          · cases h
        · exact h
        · cases h
      · cases h
    · cases h
  · cases h
theorem vfill_ext (e : HExt H H') {place : Nat → Option (Nat × Nat)} : ∀ (ps : List (Nat × SV)) {cells r : List SV}, vfill H place cells ps = some r → vfill H' place cells ps = some r
  | [], _, _, h => h
  | (i, x) :: rest, cells, r, h => by
    unfold vfill at h ⊢
    split at h
    · cases h
    · split at h
      · rename_i hc; rw [if_pos ⟨svValid_ext e hc.1, hc.2⟩]; exact vfill_ext e rest h
      · cases h
theorem pBuild_ext (e : HExt H H') {t : TypeId} {ps : List (Nat × SV)} {r : SV} (h : pBuild P H t ps = some r) : pBuild P H' t ps = some r := by
  unfold pBuild at h ⊢
  split at h
  · split at h
    · split at h
      · rename_i hh; rw [vfill_ext e _ hh]; exact h
      · cases h
    · cases h
  · split at h
    · rename_i hs
      rw [if_pos hs]
      split at h
      · rename_i hh; rw [vfill_ext e _ hh]; exact h
      · cases h
    · cases h
  · cases h
theorem pBuildSlice_ext (e : HExt H H') {t : TypeId} {len : Nat} {ps : List (Nat × SV)} {r : SV} (h : pBuildSlice P H t len ps = some r) : pBuildSlice P H' t len ps = some r := by
  unfold pBuildSlice at h ⊢
  split at h
  · split at h
    · split at h
      · rename_i hc
        obtain ⟨c1, c2, c3, c4, c5, c6, c7, c8⟩ := hc
        rw [if_pos ⟨c1, c2, c3, c4, c5, c6, c7, fun p hp => ⟨svValid_ext e (c8 p hp).1, (c8 p hp).2⟩⟩]
        exact h
      · cases h
    · cases h
  · cases h
theorem pLen_ext (e : HExt H H') {t : TypeId} {x r : SV} (h : pLen P H t x = some r) : pLen P H' t x = some r := by
  unfold pLen at h ⊢
  split at h
  · exact h
  · exact h
  · split at h
    · exact h
    · split at h
      · rename_i hh; rw [e _ _ hh]; exact h
      · cases h
    · exact h
    · exact h
    · cases h
  · split at h
    · exact h
    · split at h
      · rename_i hh; rw [e _ _ hh]; exact h
      · cases h
    · cases h
  · cases h
theorem pNil_ext (e : HExt H H') {x r : SV} (h : pNil H x = some r) : pNil H' x = some r := by
  cases x with
  | rptr id g i o =>
    simp only [pNil] at h ⊢
    split at h
    · rename_i hc; rw [if_pos (svValid_ext e hc)]; exact h
    · cases h
  | _ => exact h
theorem stepF_ext (e : HExt H H') {o : Oper} {ρ : Operand → SV} {r : SV} (h : stepF P o ρ H = some r) : stepF P o ρ H' = some r := by
  obtain ⟨dst, op, type, pos, after, guard⟩ := o
  cases op with
  | load t a => exact vload_ext e h
  | nilCheck x => exact pNil_ext e h
  | convert s d x => exact pConv_ext e h
  | slice t x lo hi mx => exact pSlice_ext e h
  | fieldAddr t x f => exact pFieldAddr_ext e h
  | indexAddr t x i => exact pIndexAddr_ext e h
  | build t ps => exact pBuild_ext e h
  | buildSlice t len ps => exact pBuildSlice_ext e h
  | call c =>
    simp only [stepF] at h ⊢
    split at h
    · split at h
      · exact pLen_ext e h
      · cases h
    · exact h
    · exact h
    · cases h
  | makeFunc fn first captured => cases fn <;> exact h
  | _ => exact h
/-- Does the operation look at memory? (A turn of memory apart.) -/
def looksH (P : Program) : Op → Bool
  | .move .. | .assign .. | .pick .. | .binOp .. | .unOp .. | .makeFunc .. | .field .. | .index .. | .extract .. => false
  | .convert s d _ => match P.underlying s with | some (.slice _) => true | _ => false
  | .call c => match c.callee with
    | .builtin .max | .builtin .min => false
    | _ => true
  | _ => true
theorem stepF_free {o : Oper} {ρ : Operand → SV} (hl : looksH P o.op = false) (H H' : List VB) : stepF P o ρ H = stepF P o ρ H' := by
  obtain ⟨dst, op, type, pos, after, guard⟩ := o
  cases op with
  | convert s d x =>
    simp only [looksH] at hl
    simp only [stepF, pConv]
    split at hl
    · cases hl
    · split
      · rename_i hn _ _ _ hs _; exact absurd hs (hn _)
      · rfl
      · rfl
      · rfl
  | call c =>
    obtain ⟨callee, args, argTypes⟩ := c
    simp only [looksH] at hl
    simp only [stepF]
    generalize args.toList.map ρ = l
    split at hl
    · cases l <;> rfl
    · cases l <;> rfl
    · cases hl
  | makeFunc fn first captured => cases fn <;> rfl
  | _ => first | rfl | cases hl
end
theorem map_congr' {α β : Type} {f g : α → β} {l : List α} (h : ∀ x, x ∈ l → f x = g x) : l.map f = l.map g := List.map_congr_left h
theorem stepF_congr {P : Program} {o : Oper} {ρ ρ' : Operand → SV} {H : List VB} (h : ∀ x, x ∈ o.op.operands → ρ x = ρ' x) : stepF P o ρ H = stepF P o ρ' H := by
  obtain ⟨dst, op, type, pos, after, guard⟩ := o
  have opt : ∀ y : Option Operand, (∀ x, x ∈ y.toArray → ρ x = ρ' x) → y.map ρ = y.map ρ' := fun y hy => by
    cases y with
    | none => rfl
    | some y => simp only [Option.map_some]; rw [hy y (by simp)]
  have prt : ∀ ps : Array (Nat × Operand), (∀ x, x ∈ (ps.toList.map (·.2)).toArray → ρ x = ρ' x) → evParts ρ ps = evParts ρ' ps := fun ps hp => by
    unfold evParts
    refine map_congr' fun p hp' => ?_
    show (p.1, ρ p.2) = (p.1, ρ' p.2)
    rw [hp p.2 (by simp; exact ⟨p.1, by simpa using hp'⟩)]
  cases op with
  | pick c a b => simp only [stepF]; rw [h c (by simp [Op.operands]), h a (by simp [Op.operands]), h b (by simp [Op.operands])]
  | makeFunc fn first captured =>
    cases fn with
    | func f =>
      simp only [stepF]
      rw [map_congr' (f := ρ) (g := ρ') (l := captured.toList) fun x hx => h x (by simp only [Op.operands, Array.mem_append]; exact .inr (by simpa using hx))]
    | _ => rfl
  | slice t x lo hi mx =>
    simp only [stepF]
    rw [h x (by simp [Op.operands]), opt lo fun y hy => h y (by simp only [Op.operands, Array.mem_append]; exact .inl (.inl (.inr hy))), opt hi fun y hy => h y (by simp only [Op.operands, Array.mem_append]; exact .inl (.inr hy)),
      opt mx fun y hy => h y (by simp only [Op.operands, Array.mem_append]; exact .inr hy)]
  | build t ps => simp only [stepF]; rw [prt ps h]
  | buildSlice t len ps => simp only [stepF]; rw [prt ps h]
  | binOp op t x y u => simp only [stepF]; rw [h x (by simp [Op.operands]), h y (by simp [Op.operands])]
  | indexAddr t x y => simp only [stepF]; rw [h x (by simp [Op.operands]), h y (by simp [Op.operands])]
  | index t x y => simp only [stepF]; rw [h x (by simp [Op.operands]), h y (by simp [Op.operands])]
  | call c =>
    obtain ⟨callee, args, argTypes⟩ := c
    simp only [stepF]
    rw [map_congr' (f := ρ) (g := ρ') (l := args.toList) fun x hx => h x (by
      have hx' : x ∈ args := by simpa using hx
      cases callee <;> simp [Op.operands, Call.operands, hx'])]
  | move x | assign x | load _ x | nilCheck x | unOp _ _ x | convert _ _ x | fieldAddr _ x _ | field _ x _ | extract x _ => simp only [stepF]; rw [h x (by simp [Op.operands])]
  | _ => rfl
theorem vC_congr {P : Program} {o : Oper} {ρ ρ' : Operand → SV} {H : List VB} {K : SV → List VB → Prop} (h : ∀ x, x ∈ o.op.operands → ρ x = ρ' x) (hv : vC P o ρ H K) : vC P o ρ' H K := by
  obtain ⟨dst, op, type, pos, after, guard⟩ := o
  cases op with
  | box e x => simp only [vC] at hv ⊢; rw [← h x (by simp [Op.operands])]; exact hv
  | alloc e => exact hv
  | store t a x => simp only [vC] at hv ⊢; rw [← h a (by simp [Op.operands]), ← h x (by simp [Op.operands])]; exact hv
  | makeSlice t a x => simp only [vC] at hv ⊢; rw [← h a (by simp [Op.operands]), ← h x (by simp [Op.operands])]; exact hv
  | convert s d x => simp only [vC] at hv ⊢; rw [← h x (by simp [Op.operands])]; exact hv
  | call c =>
    obtain ⟨callee, args, argTypes⟩ := c
    have hm : args.toList.map ρ = args.toList.map ρ' := map_congr' fun x hx => h x (by
      have hx' : x ∈ args := by simpa using hx
      cases callee <;> simp [Op.operands, Call.operands, hx'])
    cases callee with
    | value f =>
      simp only [vC] at hv ⊢
      rw [← hm, ← h f (by simp [Op.operands, Call.operands])]
      exact hv
    | builtin b => simp only [vC] at hv ⊢; rw [← hm]; exact hv
    | invoke r m => exact hv
  | _ => exact hv
end Go.Vm
