/- The virtual machine, part 13: the walk as a reckoning that stops at each fork, each demand, each call (kStep). Generic: no program in sight. -/
import Derived.Test.YthgpapnbnapdhaaV12
set_option linter.unusedVariables false
set_option linter.unusedSimpArgs false
namespace Go.Vm
open Go.RowKit

/-! ### Where the reckoning stops -/
structure VIf (p : Prop) (K : Bool → Prop) : Prop where
  t : p → K true
  f : ¬ p → K false
structure VReq (p A : Prop) : Prop where
  p : p
  h : A
structure KGet (xs : List SV) (i : Nat) (K : SV → Prop) : Prop where
  h : ∃ z, xs[i]? = some z ∧ K z
theorem VIf.elim {p : Prop} {K : Bool → Prop} (h : VIf p K) : (p ∧ K true) ∨ (¬ p ∧ K false) := by
  by_cases hp : p
  · exact .inl ⟨hp, h.t hp⟩
  · exact .inr ⟨hp, h.f hp⟩
/-- The virtual heap in two parts: what was there, and what the function has laid. -/
structure KH where
  n0 : Nat
  base : List VB
  top : List VB
def KH.flat (h : KH) : List VB := h.base ++ h.top
def KH.ok (h : KH) : Prop := h.base.length = h.n0
structure KBox (h : KH) (id : Nat) (K : List SV → Prop) : Prop where
  h : ∃ cs, h.flat[id]? = some (.box cs) ∧ K cs
structure KRow (h : KH) (id : Nat) (K : Nat → Nat → List SV → Prop) : Prop where
  h : ∃ g n xs, h.flat[id]? = some (.row g n xs) ∧ K g n xs
structure KMap (h : KH) (id : Nat) (K : List (Value × SV) → Prop) : Prop where
  h : ∃ es, h.flat[id]? = some (.map es) ∧ K es
/-- What a heap becomes where one id is written. -/
structure KSet (h : KH) (id : Nat) (b : VB) (K : KH → Prop) : Prop where
  h : ∃ h' : KH, h'.flat = h.flat.set id b ∧ h'.ok ∧ h'.n0 = h.n0 ∧ K h'
structure KCall (P : Program) (f : FuncId) (args : List SV) (h : KH) (K : SV → KH → Prop) : Prop where
  h : VCalls P f args h.flat fun r H' => ∃ h' : KH, h'.flat = H' ∧ h'.ok ∧ h'.n0 = h.n0 ∧ K r h'

def kb (k : SV → Prop) : Bool → Prop
  | true => k (.v (.bool true))
  | false => k (.v (.bool false))
def kbn (k : SV → Prop) : Bool → Prop
  | true => k (.v (.bool false))
  | false => k (.v (.bool true))
def kInt (op : BinOp) (k : IntKind) (a b : Int) (K : SV → Prop) : Prop :=
  match op with
  | .add => K (.v (.int k (k.wrap (a + b))))
  | .sub => K (.v (.int k (k.wrap (a - b))))
  | .mul => K (.v (.int k (k.wrap (a * b))))
  | .quo => VReq (b ≠ 0) (K (.v (.int k (k.wrap (a.tdiv b)))))
  | .rem => VReq (b ≠ 0) (K (.v (.int k (a.tmod b))))
  | .and => K (.v (.int k (k.wrap (BitVec.ofInt k.bits a &&& BitVec.ofInt k.bits b).toNat)))
  | .or => K (.v (.int k (k.wrap (BitVec.ofInt k.bits a ||| BitVec.ofInt k.bits b).toNat)))
  | .xor => K (.v (.int k (k.wrap (BitVec.ofInt k.bits a ^^^ BitVec.ofInt k.bits b).toNat)))
  | .andNot => K (.v (.int k (k.wrap (BitVec.ofInt k.bits a &&& ~~~ BitVec.ofInt k.bits b).toNat)))
  | .eql => VIf (a = b) (kb K)
  | .neq => VIf (a = b) (kbn K)
  | .lss => VIf (a < b) (kb K)
  | .leq => VIf (a ≤ b) (kb K)
  | .gtr => VIf (b < a) (kb K)
  | .geq => VIf (b ≤ a) (kb K)
  | .shl => False
  | .shr => False
theorem kInt_sound {op : BinOp} {k : IntKind} {a b : Int} {K : SV → Prop} (h : kInt op k a b K) : ∃ v, pInt op k a b = some v ∧ K (.v v) := by
  cases op <;> simp only [kInt] at h
  case quo => exact ⟨_, by simp only [pInt]; rw [if_neg h.p], h.h⟩
  case rem => exact ⟨_, by simp only [pInt]; rw [if_neg h.p], h.h⟩
  case eql => rcases h.elim with ⟨hp, h⟩ | ⟨hp, h⟩ <;> exact ⟨_, by simp only [pInt]; simp [hp], h⟩
  case neq => rcases h.elim with ⟨hp, h⟩ | ⟨hp, h⟩ <;> exact ⟨_, by simp only [pInt]; simp [hp], h⟩
  case lss => rcases h.elim with ⟨hp, h⟩ | ⟨hp, h⟩ <;> exact ⟨_, by simp only [pInt]; simp [hp], h⟩
  case leq => rcases h.elim with ⟨hp, h⟩ | ⟨hp, h⟩ <;> exact ⟨_, by simp only [pInt]; simp [hp], h⟩
  case gtr => rcases h.elim with ⟨hp, h⟩ | ⟨hp, h⟩ <;> exact ⟨_, by simp only [pInt]; simp [hp], h⟩
  case geq => rcases h.elim with ⟨hp, h⟩ | ⟨hp, h⟩ <;> exact ⟨_, by simp only [pInt]; simp [hp], h⟩
  all_goals first | exact ⟨_, rfl, h⟩ | exact h.elim
def kStr (op : BinOp) (a b : ByteArray) (K : SV → Prop) : Prop :=
  match op with
  | .add => VReq (a.size + b.size ≤ 9223372036854775807) (K (.v (.string (a ++ b))))
  | .eql => VIf (a = b) (kb K)
  | .neq => VIf (a = b) (kbn K)
  | .lss => VIf (Op.bytesLess a.toList b.toList = true) (kb K)
  | .geq => VIf (Op.bytesLess a.toList b.toList = true) (kbn K)
  | .leq => VIf (Op.bytesLess a.toList b.toList = true ∨ a = b) (kb K)
  | .gtr => VIf (Op.bytesLess a.toList b.toList = true ∨ a = b) (kbn K)
  | _ => False
theorem kStr_sound {op : BinOp} {a b : ByteArray} {K : SV → Prop} (h : kStr op a b K) : ∃ v, pStr op a b = some v ∧ K (.v v) := by
  cases op <;> simp only [kStr] at h
  case add => exact ⟨_, by simp only [pStr]; rw [if_pos h.p], h.h⟩
  case eql => rcases h.elim with ⟨hp, h⟩ | ⟨hp, h⟩ <;> exact ⟨_, by simp only [pStr]; simp [hp], h⟩
  case neq => rcases h.elim with ⟨hp, h⟩ | ⟨hp, h⟩ <;> exact ⟨_, by simp only [pStr]; simp [hp], h⟩
  case lss => rcases h.elim with ⟨hp, h⟩ | ⟨hp, h⟩ <;> exact ⟨_, by simp only [pStr]; simp [hp], h⟩
  case geq => rcases h.elim with ⟨hp, h⟩ | ⟨hp, h⟩ <;> exact ⟨_, by simp only [pStr]; simp [hp], h⟩
  case leq =>
    rcases h.elim with ⟨hp, h⟩ | ⟨hp, h⟩
    · refine ⟨_, rfl, ?_⟩
      have : (Op.bytesLess a.toList b.toList || decide (a = b)) = true := by simpa using hp
      rw [this]; exact h
    · refine ⟨_, rfl, ?_⟩
      have : (Op.bytesLess a.toList b.toList || decide (a = b)) = false := by
        rw [Bool.eq_false_iff]; simpa using hp
      rw [this]; exact h
  case gtr =>
    rcases h.elim with ⟨hp, h⟩ | ⟨hp, h⟩
    · refine ⟨_, rfl, ?_⟩
      have : (Op.bytesLess a.toList b.toList || decide (a = b)) = true := by simpa using hp
      rw [this]; exact h
    · refine ⟨_, rfl, ?_⟩
      have : (Op.bytesLess a.toList b.toList || decide (a = b)) = false := by
        rw [Bool.eq_false_iff]; simpa using hp
      rw [this]; exact h
  all_goals exact h.elim
def kindEq : IntKind → IntKind → Bool
  | .i8, .i8 | .i16, .i16 | .i32, .i32 | .i64, .i64 | .u8, .u8 | .u16, .u16 | .u32, .u32 | .u64, .u64 => true
  | _, _ => false
theorem kindEq_eq {a b : IntKind} (h : kindEq a b = true) : a = b := by cases a <;> cases b <;> first | rfl | cases h
def kBin (P : Program) (op : BinOp) (t : TypeId) (x y : SV) (K : SV → Prop) : Prop :=
  match x, y with
  | .v (.int k a), .v (.int k' b) => match op with
    | .shl => VReq (0 ≤ b) (K (.v (.int k (k.wrap (a * 2 ^ (min b.toNat k.bits))))))
    | .shr => VReq (0 ≤ b) (K (.v (.int k (a.fdiv (2 ^ (min b.toNat k.bits))))))
    | op => match kindEq k k' with | true => kInt op k a b K | false => False
  | .v (.string a), .v (.string b) => kStr op a b K
  | .v (.bool a), .v (.bool b) => match P.underlying t with
    | some .bool => match op with
      | .eql => K (.v (.bool (a == b)))
      | .neq => K (.v (.bool (!(a == b))))
      | _ => False
    | _ => False
  | .v (.pointer none), .v (.pointer none) => match P.underlying t with
    | some (.pointer _) => match op with
      | .eql => K (.v (.bool true))
      | .neq => K (.v (.bool false))
      | _ => False
    | _ => False
  | .ptr i o, .v (.pointer none) => match P.underlying t with
    | some (.pointer _) => match op with
      | .eql => K (.v (.bool false))
      | .neq => K (.v (.bool true))
      | _ => False
    | _ => False
  | .ro cs, .v (.pointer none) => match P.underlying t with
    | some (.pointer _) => match op with
      | .eql => K (.v (.bool false))
      | .neq => K (.v (.bool true))
      | _ => False
    | _ => False
  | _, _ => False
theorem kBin_sound {P : Program} {op : BinOp} {t : TypeId} {x y : SV} {K : SV → Prop} (h : kBin P op t x y K) : ∃ r, pBin P op t x y = some r ∧ K r := by
  unfold kBin at h
  split at h
  · split at h
    · exact ⟨_, by simp only [pBin, pShift]; rw [if_neg (by have := h.p; omega)]; rfl, h.h⟩
    · exact ⟨_, by simp only [pBin, pShift]; rw [if_neg (by have := h.p; omega)]; rfl, h.h⟩
    · rename_i k a k' b op h1 h2
      split at h
      · rename_i hk
        obtain ⟨v, q1, q2⟩ := kInt_sound h
        obtain rfl := kindEq_eq hk
        refine ⟨_, ?_, q2⟩
        cases op <;> first | exact absurd rfl h1 | exact absurd rfl h2 | (simp only [pBin, if_true, q1, Option.map_some])
      · exact h.elim
  · obtain ⟨v, q1, q2⟩ := kStr_sound h
    exact ⟨_, by simp only [pBin, q1, Option.map_some], q2⟩
  · split at h
    · rename_i hu
      split at h
      · exact ⟨_, by simp only [pBin, hu], h⟩
      · exact ⟨_, by simp only [pBin, hu], h⟩
      · exact h.elim
    · exact h.elim
  · split at h
    · rename_i hu
      split at h
      · exact ⟨_, by simp only [pBin, hu], h⟩
      · exact ⟨_, by simp only [pBin, hu], h⟩
      · exact h.elim
    · exact h.elim
  · split at h
    · rename_i hu
      split at h
      · exact ⟨_, by simp only [pBin, SV.addr, hu, if_true], h⟩
      · exact ⟨_, by simp only [pBin, SV.addr, hu, if_true], h⟩
      · exact h.elim
    · exact h.elim
  · split at h
    · rename_i hu
      split at h
      · exact ⟨_, by simp only [pBin, SV.addr, hu, if_true], h⟩
      · exact ⟨_, by simp only [pBin, SV.addr, hu, if_true], h⟩
      · exact h.elim
    · exact h.elim
  · exact h.elim
def kUn (op : UnOp) (x : SV) (K : SV → Prop) : Prop :=
  match x with
  | .v (.int k n) => match op with
    | .neg => K (.v (.int k (k.wrap (0 - n))))
    | .xor => K (.v (.int k (k.wrap (BitVec.ofInt k.bits (if k.signed then -1 else k.max) ^^^ BitVec.ofInt k.bits n).toNat)))
    | _ => False
  | .v (.bool b) => match op with
    | .not => match b with | true => K (.v (.bool false)) | false => K (.v (.bool true))
    | _ => False
  | _ => False
theorem kUn_sound {op : UnOp} {x : SV} {K : SV → Prop} (h : kUn op x K) : ∃ r, pUn op x = some r ∧ K r := by
  unfold kUn at h
  split at h
  · split at h
    · exact ⟨_, rfl, h⟩
    · exact ⟨_, rfl, h⟩
    · exact h.elim
  · split at h
    · split at h <;> exact ⟨_, rfl, h⟩
    · exact h.elim
  · exact h.elim

/-! ### Reading memory -/
def kcells (h : KH) (x : SV) (K : List SV → Prop) : Prop :=
  match x with
  | .ptr id off => KBox h id fun cs => K (cs.drop off)
  | .ro cs => K cs
  | .rptr id g i o => KRow h id fun g' n xs => VReq (g = g') (KGet xs i fun z => K (z.cells.drop o))
  | _ => False
theorem kcells_sound {h : KH} {x : SV} {K : List SV → Prop} (hk : kcells h x K) : ∃ cs, vcells h.flat x = some cs ∧ K cs := by
  unfold kcells at hk
  split at hk
  · obtain ⟨cs, q1, q2⟩ := hk.h
    exact ⟨_, by simp only [vcells, q1], q2⟩
  · exact ⟨_, rfl, hk⟩
  · obtain ⟨g', n, xs, q1, q2⟩ := hk.h
    obtain ⟨z, p1, p2⟩ := q2.h.h
    exact ⟨_, by simp only [vcells, q1]; rw [if_pos q2.p, p1]; rfl, p2⟩
  · exact hk.elim
def kload (P : Program) (h : KH) (t : TypeId) (x : SV) (K : SV → Prop) : Prop :=
  kcells h x fun cs => match (P.underlying t).isSome with
    | true => match isAggT P t with
      | true => VReq (P.cellsOf t ≤ cs.length) (K (.agg (cs.take (P.cellsOf t))))
      | false => KGet cs 0 K
    | false => False
theorem kload_sound {P : Program} {h : KH} {t : TypeId} {x : SV} {K : SV → Prop} (hk : kload P h t x K) : ∃ r, vload P h.flat t x = some r ∧ K r := by
  obtain ⟨cs, q1, q2⟩ := kcells_sound hk
  split at q2
  · rename_i hs
    split at q2
    · rename_i ha
      exact ⟨_, by simp only [vload, q1, hs, ha, if_true]; rw [if_pos q2.p], q2.h⟩
    · rename_i ha
      obtain ⟨z, p1, p2⟩ := q2.h
      exact ⟨z, by simp only [vload, q1, hs, ha, if_true, if_false, Bool.false_eq_true, p1], p2⟩
  · exact q2.elim
def kpart (P : Program) (t : TypeId) (cs : List SV) (off : Nat) (K : SV → Prop) : Prop :=
  match (P.underlying t).isSome with
  | true => match isAggT P t with
    | true => VReq (off + P.cellsOf t ≤ cs.length) (K (.agg ((cs.drop off).take (P.cellsOf t))))
    | false => KGet cs off K
  | false => False
theorem kpart_sound {P : Program} {t : TypeId} {cs : List SV} {off : Nat} {K : SV → Prop} (hk : kpart P t cs off K) : ∃ r, pPart P t cs off = some r ∧ K r := by
  unfold kpart at hk
  split at hk
  · rename_i hs
    split at hk
    · rename_i ha
      exact ⟨_, by simp only [pPart, hs, ha, if_true]; rw [if_pos hk.p], hk.h⟩
    · rename_i ha
      obtain ⟨z, p1, p2⟩ := hk.h
      exact ⟨z, by simp only [pPart, hs, ha, if_true, if_false, Bool.false_eq_true, p1], p2⟩
  · exact hk.elim
def kfield (P : Program) (t : TypeId) (f : Nat) (x : SV) (K : SV → Prop) : Prop :=
  match x with
  | .agg cs => match P.underlying t with
    | some (.struct fields) => match fields[f]? with
      | some fd => kpart P fd.type cs fd.offset K
      | none => False
    | _ => False
  | _ => False
theorem kfield_sound {P : Program} {t : TypeId} {f : Nat} {x : SV} {K : SV → Prop} (hk : kfield P t f x K) : ∃ r, pField P t f x = some r ∧ K r := by
  unfold kfield at hk
  split at hk
  · split at hk
    · rename_i hu
      split at hk
      · rename_i hf
        obtain ⟨r, q1, q2⟩ := kpart_sound hk
        exact ⟨r, by simp only [pField, hu, hf, q1], q2⟩
      · exact hk.elim
    · exact hk.elim
  · exact hk.elim
def kadd (h : KH) (k : Nat) (x : SV) (K : SV → Prop) : Prop :=
  match x with
  | .ptr id off => K (.ptr id (off + k))
  | .ro cs => K (.ro (cs.drop k))
  | .rptr id g i o => KRow h id fun g' n xs => VReq (g = g' ∧ i < xs.length) (K (.rptr id g i (o + k)))
  | _ => False
theorem kadd_sound {h : KH} {k : Nat} {x : SV} {K : SV → Prop} (hk : kadd h k x K) : ∃ r, pAdd h.flat k x = some r ∧ K r := by
  unfold kadd at hk
  split at hk
  · exact ⟨_, rfl, hk⟩
  · exact ⟨_, rfl, hk⟩
  · obtain ⟨g', n, xs, q1, q2⟩ := hk.h
    exact ⟨_, by simp only [pAdd, q1]; rw [if_pos q2.p], q2.h⟩
  · exact hk.elim
def kfieldAddr (P : Program) (h : KH) (t : TypeId) (f : Nat) (x : SV) (K : SV → Prop) : Prop :=
  match P.underlying t with
  | some (.struct fields) => match fields[f]? with
    | some fd => match (P.underlying fd.type).isSome && !(Nat.beq (P.cellsOf fd.type) 0) with
      | true => kadd h fd.offset x K
      | false => False
    | none => False
  | _ => False
theorem kfieldAddr_sound {P : Program} {h : KH} {t : TypeId} {f : Nat} {x : SV} {K : SV → Prop} (hk : kfieldAddr P h t f x K) : ∃ r, pFieldAddr P h.flat t f x = some r ∧ K r := by
  unfold kfieldAddr at hk
  split at hk
  · rename_i hu
    split at hk
    · rename_i hf
      split at hk
      · rename_i hc
        obtain ⟨r, q1, q2⟩ := kadd_sound hk
        simp only [Bool.and_eq_true, Bool.not_eq_true'] at hc
        refine ⟨r, ?_, q2⟩
        simp only [pFieldAddr, hu, hf]
        rw [if_pos ⟨hc.1, fun h0 => by rw [h0] at hc; simp at hc⟩, q1]
      · exact hk.elim
    · exact hk.elim
  · exact hk.elim
def kindexAddr (P : Program) (h : KH) (t : TypeId) (x i : SV) (K : SV → Prop) : Prop :=
  match i with
  | .v (.int _ k) => match P.underlying t with
    | some (.array len e) => match (P.underlying e).isSome with
      | true => VReq (0 ≤ k ∧ k < len) (kadd h (k.toNat * P.cellsOf e) x K)
      | false => False
    | some (.slice e) => match (P.underlying e).isSome with
      | true => match x with
        | .list n _ xs => VReq (n = P.cellsOf e ∧ 0 ≤ k) (KGet xs k.toNat fun z => K (.ro z.cells))
        | .slc id g off len => KRow h id fun g' n xs => VReq (0 ≤ k ∧ k < len ∧ g = g' ∧ n = P.cellsOf e ∧ off + len ≤ xs.length) (K (.rptr id g (off + k.toNat) 0))
        | .bsl id off n len _ => VReq (0 ≤ k ∧ k < len ∧ n = P.cellsOf e) (K (.ptr id (off + k.toNat * n)))
        | _ => False
      | false => False
    | _ => False
  | _ => False
theorem kindexAddr_sound {P : Program} {h : KH} {t : TypeId} {x i : SV} {K : SV → Prop} (hk : kindexAddr P h t x i K) : ∃ r, pIndexAddr P h.flat t x i = some r ∧ K r := by
  unfold kindexAddr at hk
  split at hk
  · split at hk
    · rename_i hu
      split at hk
      · rename_i hs
        obtain ⟨r, q1, q2⟩ := kadd_sound hk.h
        refine ⟨r, ?_, q2⟩
        simp only [pIndexAddr, hu]
        rw [if_pos ⟨hk.p.1, hk.p.2, hs⟩, q1]
      · exact hk.elim
    · rename_i hu
      split at hk
      · rename_i hs
        split at hk
        · obtain ⟨z, q1, q2⟩ := hk.h.h
          refine ⟨_, ?_, q2⟩
          simp only [pIndexAddr, hu]
          rw [if_pos ⟨hk.p.2, hs⟩, if_pos hk.p.1, q1]
          rfl
        · obtain ⟨g', n, xs, q1, q2⟩ := hk.h
          refine ⟨_, ?_, q2.h⟩
          simp only [pIndexAddr, hu, q1]
          rw [if_pos ⟨q2.p.1, hs⟩, if_pos ⟨q2.p.2.2.1, q2.p.2.2.2.1, q2.p.2.1, q2.p.2.2.2.2⟩]
        · refine ⟨_, ?_, hk.h⟩
          simp only [pIndexAddr, hu]
          rw [if_pos ⟨hk.p.1, hs⟩, if_pos ⟨hk.p.2.2, hk.p.2.1⟩]
        · exact hk.elim
      · exact hk.elim
    · exact hk.elim
  · exact hk.elim
def kindex (P : Program) (t : TypeId) (x i : SV) (K : SV → Prop) : Prop :=
  match i with
  | .v (.int _ k) => match P.underlying t with
    | some .string => match x with
      | .v (.string s) => VReq (0 ≤ k ∧ k.toNat < s.size) (K (.v (.int .u8 ((s.data.getD k.toNat 0).toNat : Int))))
      | _ => False
    | some (.array len e) => match x with
      | .agg cs => match (P.underlying e).isSome with
        | true => VReq (0 ≤ k ∧ k < len) (kpart P e cs (k.toNat * P.cellsOf e) K)
        | false => False
      | _ => False
    | _ => False
  | _ => False
theorem kindex_sound {P : Program} {t : TypeId} {x i : SV} {K : SV → Prop} (hk : kindex P t x i K) : ∃ r, pIndex P t x i = some r ∧ K r := by
  unfold kindex at hk
  split at hk
  · rename_i kk k
    split at hk
    · rename_i hu
      split at hk
      · rename_i s
        refine ⟨_, ?_, hk.h⟩
        simp only [pIndex, hu]
        have h2 : k.toNat < s.size := hk.p.2
        rw [if_pos hk.p.1]
        have e1 : s[k.toNat]? = some (s[k.toNat]'h2) := by rw [getElem?_pos]
        rw [e1]
        have e2 : s.data.getD k.toNat 0 = s[k.toNat]'h2 := by
          have h3 : k.toNat < s.data.size := h2
          rw [Array.getD_eq_getD_getElem?, Array.getElem?_eq_getElem h3]; rfl
        rw [e2]
        rfl
      · exact hk.elim
    · rename_i hu
      split at hk
      · split at hk
        · rename_i hs
          obtain ⟨r, q1, q2⟩ := kpart_sound hk.h
          refine ⟨r, ?_, q2⟩
          simp only [pIndex, hu]
          rw [if_pos ⟨hk.p.1, hk.p.2, hs⟩, q1]
        · exact hk.elim
      · exact hk.elim
    · exact hk.elim
  · exact hk.elim
end Go.Vm
