/- The virtual machine: the walk as a reckoning (parts 15, 16). Generic: no program in sight. -/
import Derived.Test.YthgpapnbnapdhaaVB
/- The virtual machine, part 15: operations, regions, code, functions as a reckoning (kexec, kcalls). Generic: no program in sight. -/
set_option linter.unusedVariables false
set_option linter.unusedSimpArgs false
namespace Go.Vm
open Go.RowKit

structure KB (P : Program) (h : KH) (b : Builtin) (ats : Array TypeId) (args : List SV) (K : SV → KH → Prop) : Prop where
  h : vBuiltin P h.flat b ats args fun r H' => ∃ h' : KH, h'.flat = H' ∧ h'.ok ∧ h'.n0 = h.n0 ∧ K r h'
structure KMake (P : Program) (h : KH) (t : TypeId) (l c : SV) (K : SV → KH → Prop) : Prop where
  h : vMakeSlice P h.flat t l c fun r H' => ∃ h' : KH, h'.flat = H' ∧ h'.ok ∧ h'.n0 = h.n0 ∧ K r h'
structure KLook (P : Program) (h : KH) (t : TypeId) (x k : SV) (c : Bool) (K : SV → Prop) : Prop where
  h : ∃ r, pLookup P h.flat t x k c = some r ∧ K r
structure KMapUpd (P : Program) (h : KH) (t : TypeId) (m k v : SV) (K : SV → KH → Prop) : Prop where
  h : vMapUpd P h.flat t m k v fun r H' => ∃ h' : KH, h'.flat = H' ∧ h'.ok ∧ h'.n0 = h.n0 ∧ K r h'
/-- Both answers are wanted. -/
structure VBoth (p q : Prop) : Prop where
  h1 : p
  h2 : q
def kSEq (P : Program) (h : KH) (op : BinOp) (t : TypeId) (x y : SV) (K : SV → KH → Prop) : Prop :=
  match x with
  | .list _ _ [] => match y with
    | .v (.slice none 0 0) => VBoth (K (.v (.bool true)) h) (K (.v (.bool false)) h)
    | _ => False
  | _ => kBin P op t x y fun r => K r h
theorem isC_bin {P : Program} {op : BinOp} {t u : TypeId} {x y : Operand} (h : isC P (.binOp op t x y u) = true) : (op = .eql ∨ op = .neq) ∧ ∃ e, P.underlying t = some (.slice e) := by
  simp only [isC] at h
  split at h
  · split at h
    · rename_i e hu; exact ⟨.inl rfl, e, hu⟩
    · cases h
  · split at h
    · rename_i e hu; exact ⟨.inr rfl, e, hu⟩
    · cases h
  · cases h
structure KConvB (P : Program) (h : KH) (s d : TypeId) (x : SV) (K : SV → KH → Prop) : Prop where
  h : vConvBytes P h.flat s d x fun r H' => ∃ h' : KH, h'.flat = H' ∧ h'.ok ∧ h'.n0 = h.n0 ∧ K r h'
def kputCells (h : KH) (a : SV) (vs : List SV) (K : KH → Prop) : Prop :=
  match a with
  | .ptr id off => KBox h id fun cs => VReq (off + vs.length ≤ cs.length) (KSet h id (.box (lput cs off vs)) K)
  | .rptr id g i o => KRow h id fun g' n xs => VReq (g = g') (KGet xs i fun old => VReq (o + vs.length ≤ old.cells.length) (KSet h id (.row g n (xs.set i (elemPut old o vs))) K))
  | _ => False
theorem kputCells_sound {h : KH} {a : SV} {vs : List SV} {K : KH → Prop} (hk : kputCells h a vs K) : ∃ H', putCells h.flat a vs = some H' ∧ ∃ h' : KH, h'.flat = H' ∧ h'.ok ∧ h'.n0 = h.n0 ∧ K h' := by
  unfold kputCells at hk
  split at hk
  · obtain ⟨cs, q1, q2⟩ := hk.h
    obtain ⟨h', p1, p2⟩ := q2.h.h
    exact ⟨_, by simp only [putCells, q1]; rw [if_pos q2.p], h', p1, p2⟩
  · obtain ⟨g', n, xs, q1, q2⟩ := hk.h
    obtain ⟨old, p1, p2⟩ := q2.h.h
    obtain ⟨h', r1, r2⟩ := p2.h.h
    exact ⟨_, by simp only [putCells, q1]; rw [if_pos q2.p]; simp only [p1]; rw [if_pos p2.p], h', r1, r2⟩
  · exact hk.elim
def kStep (P : Program) (o : Oper) (ρ : Operand → SV) (h : KH) (K : SV → KH → Prop) : Prop :=
  match o.op with
  | .move x => K (ρ x) h
  | .assign x => K (ρ x) h
  | .pick c a b => match ρ c with
    | .v (.bool t) => match t with
      | true => K (ρ a) h
      | false => K (ρ b) h
    | _ => False
  | .load t a => kload P h t (ρ a) fun r => K r h
  | .nilCheck x => match ρ x with
    | .ptr i o => K (.ptr i o) h
    | .ro cs => K (.ro cs) h
    | .fn f cs => K (.fn f cs) h
    | .rptr id g i o => KRow h id fun g' n xs => VReq (g' = g) (K (.rptr id g i o) h)
    | _ => False
  | .binOp op t x y u => match isC P (.binOp op t x y u) with
    | true => kSEq P h op t (ρ x) (ρ y) K
    | false => kBin P op t (ρ x) (ρ y) fun r => K r h
  | .unOp op _ x => kUn op (ρ x) fun r => K r h
  | .convert s d x => match isC P (.convert s d x) with
    | true => KConvB P h s d (ρ x) K
    | false => kconv P h s d (ρ x) fun r => K r h
  | .makeFunc fn first captured => match fn with
    | .func f => match Nat.beq first.size 0 with
      | true => K (.fn f (captured.toList.map ρ)) h
      | false => False
    | _ => False
  | .slice t x lo hi mx => kslice P h t (ρ x) (lo.map ρ) (hi.map ρ) (mx.map ρ) fun r => K r h
  | .fieldAddr t x f => kfieldAddr P h t f (ρ x) fun r => K r h
  | .field t x f => kfield P t f (ρ x) fun r => K r h
  | .indexAddr t x i => kindexAddr P h t (ρ x) (ρ i) fun r => K r h
  | .index t x i => kindex P t (ρ x) (ρ i) fun r => K r h
  | .build t ps => kbuild P h t (evParts ρ ps) fun r => K r h
  | .buildSlice t len ps => kbuildSlice P h t len (evParts ρ ps) fun r => K r h
  | .extract t i => match ρ t with
    | .tup cs => KGet cs i fun r => K r h
    | _ => False
  | .box e x => kcv h (ρ x) fun vs => K (.ptr (h.n0 + h.top.length) 0) { h with top := h.top ++ [.box vs] }
  | .alloc e => match zcells P e with
    | some cs => K (.ptr (h.n0 + h.top.length) 0) { h with top := h.top ++ [.box cs] }
    | none => False
  | .store t a x => match (P.underlying t).isSome with
    | true => kst h (ρ x) fun vs => VReq (vs.length = P.cellsOf t) (kputCells h (ρ a) vs fun h' => K .junk h')
    | false => False
  | .makeSlice t l c => KMake P h t (ρ l) (ρ c) K
  | .lookup t x k c => KLook P h t (ρ x) (ρ k) c fun r => K r h
  | .makeMap t r => match r with
    | none => K (.mapv (h.n0 + h.top.length)) { h with top := h.top ++ [.map []] }
    | some _ => False
  | .mapUpdate t m k v => KMapUpd P h t (ρ m) (ρ k) (ρ v) K
  | .call c => match c.callee with
    | .value f => match ρ f with
      | .fn g caps => KCall P g (c.args.toList.map ρ ++ caps) h K
      | _ => False
    | .builtin .len => match c.args.toList.map ρ with
      | [x] => match c.argTypes[0]? with
        | some t => klen P h t x fun r => K r h
        | none => False
      | _ => False
    | .builtin .max => match c.args.toList.map ρ with
      | x :: xs => kmm true x xs fun r => K r h
      | _ => False
    | .builtin .min => match c.args.toList.map ρ with
      | x :: xs => kmm false x xs fun r => K r h
      | _ => False
    | .builtin b => KB P h b c.argTypes (c.args.toList.map ρ) K
    | _ => False
  | _ => False
def kLift (n0 : Nat) (K : SV → KH → Prop) : SV → List VB → Prop := fun r H' => ∃ h' : KH, h'.flat = H' ∧ h'.ok ∧ h'.n0 = n0 ∧ K r h'
theorem flat_top {h : KH} (ho : h.ok) (b : VB) : ({ h with top := h.top ++ [b] } : KH).flat = h.flat ++ [b] ∧ h.flat.length = h.n0 + h.top.length := by
  have h1 : h.base.length = h.n0 := ho
  simp [KH.flat, h1]
theorem kStep_sound {P : Program} {o : Oper} {ρ : Operand → SV} {h : KH} (ho : h.ok) {K : SV → KH → Prop} (hk : kStep P o ρ h K) :
    if isC P o.op = true then vC P o ρ h.flat (kLift h.n0 K) else ∃ r, stepF P o ρ h.flat = some r ∧ K r h := by
  obtain ⟨dst, op, type, pos, after, guard⟩ := o
  cases op with
  | move x => exact ⟨_, rfl, hk⟩
  | assign x => exact ⟨_, rfl, hk⟩
  | pick c a b =>
    simp only [kStep] at hk
    split at hk
    · rename_i t hc
      split at hk
      · exact ⟨_, by simp only [stepF, hc, if_true], hk⟩
      · exact ⟨_, by simp only [stepF, hc, Bool.false_eq_true, if_false], hk⟩
    · exact hk.elim
  | load t a => exact kload_sound hk
  | nilCheck x =>
    simp only [kStep] at hk
    split at hk
    · rename_i hx; exact ⟨_, by simp only [stepF, pNil, hx], hk⟩
    · rename_i hx; exact ⟨_, by simp only [stepF, pNil, hx], hk⟩
    · rename_i hx; exact ⟨_, by simp only [stepF, pNil, hx], hk⟩
    · rename_i hx
      obtain ⟨g', n, xs, q1, q2⟩ := hk.h
      have := q2.p
      exact ⟨_, by simp only [stepF, pNil, hx, svValid, q1, this, beq_self_eq_true, if_true], q2.h⟩
    · exact hk.elim
  | binOp op t x y yt =>
    simp only [kStep] at hk
    split at hk
    · rename_i hc
      rw [if_pos hc]
      have : vC P ⟨dst, .binOp op t x y yt, type, pos, after, guard⟩ ρ h.flat (kLift h.n0 K) := by
        simp only [vC]
        unfold kSEq at hk
        split at hk
        · split at hk
          · rename_i n f hx _ hy
            exact .inr ⟨(isC_bin hc).1, (isC_bin hc).2, ⟨n, f, hx⟩, hy, fun b => ⟨h, rfl, ho, rfl, by cases b; exact hk.h2; exact hk.h1⟩⟩
          · exact hk.elim
        · obtain ⟨r, q1, q2⟩ := kBin_sound hk
          exact .inl ⟨r, q1, h, rfl, ho, rfl, q2⟩
      exact this
    · rename_i hc
      simp only [hc, Bool.false_eq_true, if_false]
      exact kBin_sound hk
  | unOp op t x => exact kUn_sound hk
  | convert s d x =>
    simp only [kStep] at hk
    split at hk
    · rename_i hc
      rw [if_pos hc]
      exact hk.h
    · rename_i hc
      simp only [hc, Bool.false_eq_true, if_false]
      exact kconv_sound hk
  | makeFunc fn first captured =>
    simp only [kStep] at hk
    split at hk
    · split at hk
      · rename_i f hz
        exact ⟨_, by simp only [stepF]; rw [if_pos (Nat.eq_of_beq_eq_true hz)], hk⟩
      · exact hk.elim
    · exact hk.elim
  | slice t x lo hi mx => exact kslice_sound hk
  | fieldAddr t x f => exact kfieldAddr_sound hk
  | field t x f => exact kfield_sound hk
  | indexAddr t x i => exact kindexAddr_sound hk
  | index t x i => exact kindex_sound hk
  | build t ps => exact kbuild_sound hk
  | buildSlice t len ps => exact kbuildSlice_sound hk
  | extract t i =>
    simp only [kStep] at hk
    split at hk
    · rename_i cs hx
      obtain ⟨r, q1, q2⟩ := hk.h
      exact ⟨r, by simp only [stepF, pExtract, hx, q1], q2⟩
    · exact hk.elim
  | box e x =>
    obtain ⟨q1, q2⟩ := kcv_sound hk
    obtain ⟨f1, f2⟩ := flat_top ho (.box (ρ x).cells)
    exact ⟨q1, _, f1, ho, rfl, by rw [f2]; exact q2⟩
  | alloc e =>
    simp only [kStep] at hk
    split at hk
    · rename_i cs hz
      obtain ⟨f1, f2⟩ := flat_top ho (.box cs)
      have : vC P ⟨dst, .alloc e, type, pos, after, guard⟩ ρ h.flat (kLift h.n0 K) := by
        simp only [vC, hz]
        exact .inl ⟨_, f1, ho, rfl, by rw [f2]; exact hk⟩
      exact this
    · exact hk.elim
  | store t a x =>
    simp only [kStep] at hk
    split at hk
    · rename_i hs
      obtain ⟨q1, q2, q3⟩ := kst_sound hk
      obtain ⟨H', p1, h', p2, p3, p4, p5⟩ := kputCells_sound q3.h
      have : vC P ⟨dst, .store t a x, type, pos, after, guard⟩ ρ h.flat (kLift h.n0 K) := by
        simp only [vC, pStore]
        rw [if_pos ⟨hs, q1, q3.p, q2⟩, p1]
        exact ⟨h', p2, p3, p4, p5⟩
      exact this
    · exact hk.elim
  | makeSlice t l c => exact hk.h
  | lookup t x k c => exact hk.h
  | makeMap t r =>
    cases r with
    | some _ => exact hk.elim
    | none =>
      obtain ⟨f1, f2⟩ := flat_top ho (.map [])
      have : vC P ⟨dst, .makeMap t none, type, pos, after, guard⟩ ρ h.flat (kLift h.n0 K) := by
        simp only [vC]
        exact ⟨_, f1, ho, rfl, by rw [f2]; exact hk⟩
      exact this
  | mapUpdate t m k v => exact hk.h
  | call c =>
    obtain ⟨callee, args, argTypes⟩ := c
    cases callee with
    | value f =>
      simp only [kStep] at hk
      split at hk
      · rename_i g caps hf
        have : vC P ⟨dst, .call ⟨.value f, args, argTypes⟩, type, pos, after, guard⟩ ρ h.flat (kLift h.n0 K) := by
          simp only [vC, hf]
          exact hk.h
        exact this
      · exact hk.elim
    | invoke r m => exact hk.elim
    | builtin b =>
      cases b with
      | len =>
        simp only [kStep] at hk
        split at hk
        · rename_i x hx
          split at hk
          · rename_i t ht
            obtain ⟨r, q1, q2⟩ := klen_sound hk
            exact ⟨r, by simp only [stepF, hx, ht, q1], q2⟩
          · exact hk.elim
        · exact hk.elim
      | max =>
        simp only [kStep] at hk
        split at hk
        · rename_i x xs hx
          obtain ⟨r, q1, q2⟩ := kmm_sound _ _ _ _ hk
          exact ⟨r, by simp only [stepF, hx, q1], q2⟩
        · exact hk.elim
      | min =>
        simp only [kStep] at hk
        split at hk
        · rename_i x xs hx
          obtain ⟨r, q1, q2⟩ := kmm_sound _ _ _ _ hk
          exact ⟨r, by simp only [stepF, hx, q1], q2⟩
        · exact hk.elim
      | _ => exact hk.h
  | _ => exact hk.elim

/-! ### Regions -/
def kput (N : Nat) (dst : Option Tmp) (r : SV) (h : KH) (tm : TM) (next : TM → KH → Prop) : Prop :=
  match dst with
  | some d => match Nat.blt d N with
    | true => match r with
      | .v x => match x with
        | .int k n => next ((d, .v (.int k n)) :: tm) h
        | .bool b => match b with
          | true => next ((d, .v (.bool true)) :: tm) h
          | false => next ((d, .v (.bool false)) :: tm) h
        | .string s => next ((d, .v (.string s)) :: tm) h
        | x => next ((d, .v x) :: tm) h
      | r => next ((d, r) :: tm) h
    | false => False
  | none => next tm h
def kguard (ops : Array Oper) (guard : Option (Nat × Bool)) (tm : TM) (yes no : Prop) : Prop :=
  match guard with
  | none => yes
  | some (g, b) => match gslot ops g with
    | some d => match tget tm d with
      | .v (.bool c) => match c == b with
        | true => yes
        | false => no
      | .v (.tuple _) => no
      | _ => False
    | none => False
def kop (P : Program) (N : Nat) (ops : Array Oper) (o : Oper) (tm : TM) (h : KH) (next : TM → KH → Prop) : Prop :=
  kguard ops o.guard tm (kStep P o (vev tm) h fun r h' => kput N o.dst r h' tm next) (kput N o.dst (.v undef) h tm next)
def hLift (n0 : Nat) (k : TM → KH → Prop) : TM → List VB → Prop := fun tm H => ∃ h : KH, h.flat = H ∧ h.ok ∧ h.n0 = n0 ∧ k tm h
theorem kput_sound {N : Nat} {dst : Option Tmp} {r : SV} {h : KH} {tm : TM} {next : TM → KH → Prop} (ho : h.ok) (hk : kput N dst r h tm next) : vput N dst r h.flat tm (hLift h.n0 next) := by
  unfold kput at hk
  split at hk
  · split at hk
    · rename_i hd
      have key : ∀ tm', next tm' h → hLift h.n0 next tm' h.flat := fun tm' hn => ⟨h, rfl, ho, rfl, hn⟩
      split at hk
      · split at hk
        · exact ⟨hd, key _ hk⟩
        · split at hk
          · exact ⟨hd, key _ hk⟩
          · exact ⟨hd, key _ hk⟩
        · exact ⟨hd, key _ hk⟩
        · exact ⟨hd, key _ hk⟩
      · exact ⟨hd, key _ hk⟩
    · exact hk.elim
  · exact ⟨h, rfl, ho, rfl, hk⟩
theorem kop_sound {P : Program} {N : Nat} {ops : Array Oper} {o : Oper} {tm : TM} {h : KH} {next : TM → KH → Prop} (ho : h.ok) (hk : kop P N ops o tm h next) : vop P N ops o tm h.flat (hLift h.n0 next) := by
  have yes : (kStep P o (vev tm) h fun r h' => kput N o.dst r h' tm next) → (if isC P o.op = true then vC P o (vev tm) h.flat (fun r H' => vput N o.dst r H' tm (hLift h.n0 next))
      else match stepF P o (vev tm) h.flat with
        | some r => vput N o.dst r h.flat tm (hLift h.n0 next)
        | none => False) := by
    intro hk
    have := kStep_sound ho hk
    split at this
    · rename_i hc
      rw [if_pos hc]
      have e : (kLift h.n0 fun r h' => kput N o.dst r h' tm next) = kLift h.n0 fun r h' => kput N o.dst r h' tm next := rfl
      exact vC_mono this fun r H' ⟨h', p1, p2, p3, p4⟩ => by
        have := kput_sound p2 p4
        rw [p1, p3] at this
        exact this
    · rename_i hc
      rw [if_neg hc]
      obtain ⟨r, q1, q2⟩ := this
      rw [q1]
      exact kput_sound ho q2
  unfold kop kguard at hk
  unfold vop vguard
  split at hk
  · rename_i hg
    rw [hg]
    exact yes hk
  · rename_i g b hg
    rw [hg]
    simp only
    split at hk
    · rename_i d hd
      rw [hd]
      simp only
      split at hk
      · rename_i c hc
        rw [hc]
        simp only
        split at hk
        · rename_i hcb
          rw [if_pos (by simpa using hcb)]
          exact yes hk
        · rename_i hcb
          rw [if_neg (by simpa using hcb)]
          exact kput_sound ho hk
      · rename_i cs hc
        rw [hc]
        simp only
        exact kput_sound ho hk
      · exact hk.elim
    · exact hk.elim
end Go.Vm

/- The virtual machine, part 16: code and functions as a reckoning (kexec, kcalls), loops. Generic: no program in sight. -/
set_option linter.unusedVariables false
set_option linter.unusedSimpArgs false
namespace Go.Vm
open Go.RowKit

theorem vput_mono {N : Nat} {dst : Option Tmp} {r : SV} {H : List VB} {tm : TM} {k k' : TM → List VB → Prop} (h : vput N dst r H tm k) (hk : ∀ tm H, k tm H → k' tm H) : vput N dst r H tm k' := by
  cases dst with
  | none => exact hk _ _ h
  | some d => exact ⟨h.1, hk _ _ h.2⟩
theorem vop_mono {P : Program} {N : Nat} {ops : Array Oper} {o : Oper} {tm : TM} {H : List VB} {k k' : TM → List VB → Prop} (h : vop P N ops o tm H k) (hk : ∀ tm H, k tm H → k' tm H) : vop P N ops o tm H k' := by
  have yes : (if isC P o.op = true then vC P o (vev tm) H (fun r H' => vput N o.dst r H' tm k) else match stepF P o (vev tm) H with
        | some r => vput N o.dst r H tm k
        | none => False) → (if isC P o.op = true then vC P o (vev tm) H (fun r H' => vput N o.dst r H' tm k') else match stepF P o (vev tm) H with
        | some r => vput N o.dst r H tm k'
        | none => False) := by
    intro h
    split at h
    · rename_i hc; rw [if_pos hc]; exact vC_mono h fun r H' hh => vput_mono hh hk
    · rename_i hc
      rw [if_neg hc]
      split at h
      · exact vput_mono h hk
      · exact h.elim
  unfold vop vguard at *
  split at h
  · exact yes h
  · split at h
    · split at h
      · split at h
        · rename_i hcb; rw [if_pos hcb]; exact yes h
        · rename_i hcb; rw [if_neg hcb]; exact vput_mono h hk
      · exact vput_mono h hk
      · exact h.elim
    · exact h.elim
def kopsL (P : Program) (N : Nat) (ops : Array Oper) : List Oper → TM → KH → (TM → KH → Prop) → Prop
  | [], tm, h, k => k tm h
  | o :: rest, tm, h, k => kop P N ops o tm h fun tm' h' => kopsL P N ops rest tm' h' k
theorem vopsL_mono {P : Program} {N : Nat} {ops : Array Oper} : ∀ (os : List Oper) {tm : TM} {H : List VB} {k k' : TM → List VB → Prop}, vopsL P N ops os tm H k → (∀ tm H, k tm H → k' tm H) → vopsL P N ops os tm H k'
  | [], _, _, _, _, h, hk => hk _ _ h
  | o :: rest, _, _, _, _, h, hk => vop_mono h fun tm H hh => vopsL_mono rest hh hk
theorem kopsL_sound {P : Program} {N : Nat} {ops : Array Oper} : ∀ (os : List Oper) {tm : TM} {h : KH} {k : TM → KH → Prop}, h.ok → kopsL P N ops os tm h k → vopsL P N ops os tm h.flat (hLift h.n0 k)
  | [], tm, h, k, ho, hk => ⟨h, rfl, ho, rfl, hk⟩
  | o :: rest, tm, h, k, ho, hk => vop_mono (kop_sound ho hk) fun tm' H' ⟨h', e1, e2, e3, e4⟩ => by
      have := kopsL_sound rest e2 e4
      rw [e1, e3] at this
      exact this

abbrev KQ := Exit → TM → KH → Prop
def qLift (n0 : Nat) (Q : KQ) : VQ := fun e tm H => ∃ h : KH, h.flat = H ∧ h.ok ∧ h.n0 = n0 ∧ Q e tm h
structure KWp (R0 : Env) (P : Program) (N : Nat) (c : Code) (tm : TM) (h : KH) (Q : KQ) : Prop where
  h : VWp R0 P N c tm h.flat (qLift h.n0 Q)
def kcond (x : SV) (A B : Prop) : Prop := match x with
  | .v (.bool b) => match b with
    | true => A
    | false => B
  | _ => False
def kthen (next : TM → KH → Prop) (Q : KQ) : KQ
  | .normal, tm, h => next tm h
  | e, tm, h => Q e tm h
def kblock (id : Nat) (Q : KQ) : KQ
  | .exit id', tm, h => match Nat.beq id' id with
    | true => Q .normal tm h
    | false => Q (.exit id') tm h
  | e, tm, h => Q e tm h
def kexec (R0 : Env) (P : Program) (N : Nat) : Code → TM → KH → KQ → Prop
  | .skip, tm, h, Q => Q .normal tm h
  | .label _, tm, h, Q => Q .normal tm h
  | .ret, tm, h, Q => Q .ret tm h
  | .exit id, tm, h, Q => Q (.exit id) tm h
  | .seq x y, tm, h, Q => kexec R0 P N x tm h (kthen (fun tm' h' => kexec R0 P N y tm' h' Q) Q)
  | .cond c x y, tm, h, Q => kcond (vev tm c) (kexec R0 P N x tm h Q) (kexec R0 P N y tm h Q)
  | .block id c, tm, h, Q => kexec R0 P N c tm h (kblock id Q)
  | .region id ops draw, tm, h, Q => match draw with
    | false => match ops.toList.all noDefer with
      | true => kopsL P N ops ops.toList tm h (Q .normal)
      | false => False
    | true => KWp R0 P N (.region id ops true) tm h Q
  | c, tm, h, Q => KWp R0 P N c tm h Q
theorem kexec_sound {R0 : Env} {P : Program} {N : Nat} : ∀ (c : Code) (tm : TM) (h : KH) (Q : KQ), h.ok → kexec R0 P N c tm h Q → VWp R0 P N c tm h.flat (qLift h.n0 Q)
  | .skip, tm, h, Q, ho, hk => vwp_skip ⟨h, rfl, ho, rfl, hk⟩
  | .label _, tm, h, Q, ho, hk => vwp_label ⟨h, rfl, ho, rfl, hk⟩
  | .ret, tm, h, Q, ho, hk => vwp_ret ⟨h, rfl, ho, rfl, hk⟩
  | .exit id, tm, h, Q, ho, hk => vwp_exit ⟨h, rfl, ho, rfl, hk⟩
  | .seq x y, tm, h, Q, ho, hk => vwp_seq (VWp.mono (kexec_sound x tm h _ ho hk) fun e tm' H' ⟨h', e1, e2, e3, e4⟩ => by
      cases e with
      | normal =>
        have := kexec_sound y tm' h' Q e2 e4
        rw [e1, e3] at this
        exact this
      | _ => exact ⟨h', e1, e2, e3, e4⟩)
  | .cond c x y, tm, h, Q, ho, hk => vwp_cond (by
      unfold kexec kcond at hk
      unfold vcond
      split at hk
      · rename_i b hb
        rw [hb]
        cases b
        · exact kexec_sound y tm h Q ho hk
        · exact kexec_sound x tm h Q ho hk
      · exact hk.elim)
  | .block id c, tm, h, Q, ho, hk => vwp_block (VWp.mono (kexec_sound c tm h _ ho hk) fun e tm' H' ⟨h', e1, e2, e3, e4⟩ => by
      cases e with
      | exit id' =>
        simp only [kblock] at e4
        simp only [vblock]
        split at e4
        · rename_i hb; rw [hb]; exact ⟨h', e1, e2, e3, e4⟩
        · rename_i hb; rw [hb]; exact ⟨h', e1, e2, e3, e4⟩
      | _ => exact ⟨h', e1, e2, e3, e4⟩)
  | .region id ops draw, tm, h, Q, ho, hk => by
    unfold kexec at hk
    split at hk
    · split at hk
      · rename_i hc
        obtain ⟨l⟩ := ops
        exact vwp_region hc (kopsL_sound _ ho hk)
      · exact hk.elim
    · exact hk.h
  | .loop c, tm, h, Q, ho, hk => hk.h
  | .rangeFunc f p a b, tm, h, Q, ho, hk => hk.h
  | .scope c, tm, h, Q, ho, hk => hk.h
  | .goto l, tm, h, Q, ho, hk => hk.h
  | .refuse s, tm, h, Q, ho, hk => hk.h

/-! ### Functions -/
/-- The function hands back. -/
structure KDone (R0 : Env) (K : SV → List VB → Prop) (r : SV) (h : KH) : Prop where
  h : K r h.flat ∨ ∃ Hf r', HSub R0.H h.flat Hf ∧ Frz h.flat Hf.length r r' ∧ K r' Hf
def kforce (r : SV) (K : SV → Prop) : Prop :=
  match r with
  | .v x => match x with
    | .int k n => K (.v (.int k n))
    | .bool b => match b with
      | true => K (.v (.bool true))
      | false => K (.v (.bool false))
    | .string s => K (.v (.string s))
    | x => K (.v x)
  | .agg cs => K (.agg cs)
  | .list n f xs => K (.list n f xs)
  | .slc a b c d => K (.slc a b c d)
  | .ptr a b => K (.ptr a b)
  | r => K r
theorem kforce_sound {r : SV} {K : SV → Prop} (hk : kforce r K) : K r := by
  unfold kforce at hk
  split at hk
  · split at hk
    · exact hk
    · split at hk <;> exact hk
    · exact hk
    · exact hk
  · exact hk
  · exact hk
  · exact hk
  · exact hk
  · exact hk
def kresL (P : Program) (h : KH) (tm : TM) : List ResultVar → (List SV → Prop) → Prop
  | [], K => K []
  | .tmp t :: rs, K => kforce (tget tm t) fun r => kresL P h tm rs fun l => K (r :: l)
  | .cell a t :: rs, K => kload P h t (tget tm a) fun r => kforce r fun r => kresL P h tm rs fun l => K (r :: l)
theorem kresL_sound {P : Program} {h : KH} {tm : TM} : ∀ (rs : List ResultVar) (K : List SV → Prop), kresL P h tm rs K → ∃ l, vresL P h.flat tm rs = some l ∧ K l
  | [], K, hk => ⟨[], rfl, hk⟩
  | .tmp t :: rs, K, hk => by
    obtain ⟨l, q1, q2⟩ := kresL_sound rs _ (kforce_sound hk)
    exact ⟨_, by simp only [vresL, vres1, q1], q2⟩
  | .cell a t :: rs, K, hk => by
    obtain ⟨r, p1, p2⟩ := kload_sound hk
    obtain ⟨l, q1, q2⟩ := kresL_sound rs _ (kforce_sound p2)
    exact ⟨_, by simp only [vresL, vres1, p1, q1], q2⟩
def kret (R0 : Env) (P : Program) (rs : List ResultVar) (K : SV → List VB → Prop) (tm : TM) (h : KH) : Prop :=
  kresL P h tm rs fun l => match l with
    | [x] => KDone R0 K x h
    | l => KDone R0 K (.tup l) h
theorem kret_sound {R0 : Env} {P : Program} {rs : List ResultVar} {K : SV → List VB → Prop} {tm : TM} {h : KH} (hk : kret R0 P rs K tm h) : VRet R0 P rs K tm h.flat := by
  obtain ⟨l, q1, q2⟩ := kresL_sound rs _ hk
  refine ⟨vone l, by simp only [vresults, q1, Option.map_some], ?_⟩
  match l, q2 with
  | [], q2 => exact q2.h
  | [x], q2 => exact q2.h
  | x :: y :: l, q2 => exact q2.h
def kfn (R0 : Env) (P : Program) (rs : List ResultVar) (K : SV → List VB → Prop) : KQ
  | .normal, tm, h => kret R0 P rs K tm h
  | .ret, tm, h => kret R0 P rs K tm h
  | _, _, _ => False
theorem kcalls {P : Program} {f : FuncId} {fn : Func} {c : Code} {args : List SV} {H : List VB} {K : SV → List VB → Prop} (hf : P.funcs[f]? = some fn) (hb : fn.body = some c)
    (hc : callable P f = true) (hlen : Nat.ble args.length fn.ntmps = true)
    (h : ∀ R0 : Env, R0.H = H → HBel H → kexec R0 P fn.ntmps c (argsTM 0 args) ⟨H.length, H, []⟩ (kfn R0 P fn.results.toList K)) : VCalls P f args H K := by
  refine vcalls_intro hf hb hc (by simpa using hlen) fun R0 h1 h2 => ?_
  have := kexec_sound _ _ _ _ (rfl : KH.ok ⟨H.length, H, []⟩) (h R0 h1 (h1 ▸ h2))
  have e : (⟨H.length, H, []⟩ : KH).flat = R0.H := by simp [KH.flat, h1]
  rw [e] at this
  refine this.mono ?_
  rintro en tm H' ⟨h', e1, e2, e3, e4⟩
  cases en with
  | normal => exact e1 ▸ kret_sound e4
  | ret => exact e1 ▸ kret_sound e4
  | _ => exact e4.elim
theorem hsub_base {R0 : Env} {H top : List VB} {n0 : Nat} (hH : R0.H = H) : HSub R0.H (KH.flat ⟨n0, H, top⟩) H :=
  ⟨by rw [hH]; exact Nat.le_refl _, by simp [KH.flat], fun id hid => .inl (by simp [KH.flat, List.getElem?_append_left hid]), fun id b h => .inl (by rw [hH]; exact h)⟩
/-- It hands back, all that it laid is forgotten. -/
theorem kdone_pure {R0 : Env} {K : SV → List VB → Prop} {H top : List VB} {n0 : Nat} {r : SV} (hH : R0.H = H) (hb : r.Bel H.length) (hk : K r H) : KDone R0 K r ⟨n0, H, top⟩ :=
  ⟨.inr ⟨H, r, hsub_base hH, .keep r hb, hk⟩⟩
/-- It hands back what it laid, frozen; the rest is forgotten. -/
theorem kdone_frz {R0 : Env} {K : SV → List VB → Prop} {H top : List VB} {n0 : Nat} {r r' : SV} (hH : R0.H = H) (hb : Frz (H ++ top) H.length r r') (hk : K r' H) : KDone R0 K r ⟨n0, H, top⟩ :=
  ⟨.inr ⟨H, r', hsub_base hH, hb, hk⟩⟩
theorem kdone_keep {R0 : Env} {K : SV → List VB → Prop} {h : KH} {r : SV} (hk : K r h.flat) : KDone R0 K r h := ⟨.inl hk⟩
theorem kcall_pure {P : Program} {f : FuncId} {args : List SV} {h : KH} {K : SV → KH → Prop} {r0 : SV} (hc : VCalls P f args h.flat fun r H' => r = r0 ∧ H' = h.flat) (ho : h.ok) (hk : K r0 h) : KCall P f args h K :=
  ⟨hc.mono fun r H' ⟨e1, e2⟩ => ⟨h, e2.symm, ho, rfl, e1 ▸ hk⟩⟩
/-- A call of which more is known than one result. -/
theorem kcall_some {P : Program} {f : FuncId} {args : List SV} {h : KH} {K : SV → KH → Prop} {p : SV → Prop} (hc : VCalls P f args h.flat fun r H' => p r ∧ H' = h.flat) (ho : h.ok) (hk : ∀ r, p r → K r h) : KCall P f args h K :=
  ⟨hc.mono fun r H' ⟨e1, e2⟩ => ⟨h, e2.symm, ho, rfl, hk r e1⟩⟩

/-! ### Loops -/
/-- The end of a round. -/
structure KEnd (p : Prop) : Prop where
  h : p
theorem kwp_loop {R0 : Env} {P : Program} {N : Nat} {c : Code} {tm : TM} {h : KH} {Q : KQ} {S : Type} (tmf : S → TM) (hf : S → KH) (inv : S → Prop) (μ : S → Nat) (s0 : S) (h0 : inv s0) (e0 : TSub tm (tmf s0)) (eh : h = hf s0)
    (ok : ∀ s, inv s → (hf s).ok ∧ (hf s).n0 = h.n0)
    (round : ∀ s, inv s → kexec R0 P N c (tmf s) (hf s) (kthen (fun tm' h' => KEnd (∃ s', inv s' ∧ μ s' < μ s ∧ TSub tm' (tmf s') ∧ h' = hf s')) Q)) : KWp R0 P N (.loop c) tm h Q := by
  subst eh
  refine ⟨vwp_loop (fun n tm' H' => ∃ s, inv s ∧ μ s = n ∧ TSub tm' (tmf s) ∧ H' = (hf s).flat) (μ s0) ⟨s0, h0, rfl, e0, rfl⟩ ?_⟩
  rintro n tm' H' ⟨s, hi, rfl, hsub, rfl⟩
  have := kexec_sound c (tmf s) (hf s) _ (ok s hi).1 (round s hi)
  refine vwp_weak hsub (this.mono ?_)
  rintro e tm3 H3 ⟨h', e1, e2, e3, e4⟩
  cases e with
  | normal =>
    obtain ⟨s', i1, i2, i3, rfl⟩ := e4.h
    exact ⟨μ s', i2, s', i1, rfl, i3, e1.symm⟩
  | _ => exact ⟨h', e1, e2, by rw [e3]; exact (ok s hi).2, e4⟩
end Go.Vm
