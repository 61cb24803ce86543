/- The virtual machine, part 4: operations that only compute or read. Generic: no program in sight. -/
import Derived.Test.YthgpapnbnapdhaaV3
import Derived.Laws.BytesArg
import Derived.Lib.Strings
set_option linter.unusedVariables false
set_option linter.unusedSimpArgs false
namespace Go.Vm
open Go.RowKit

/-- The run of a piece that leaves the world alone, and what its value stands for. -/
def Snd (P : Program) (R : Env) (s : Sem Value) (r : SV) : Prop := ∃ v, s.run P R.w = .ok v R.w ∧ Rep R r v
theorem Snd.pure {P : Program} {R : Env} {r : SV} {v : Value} (h : Rep R r v) : Snd P R (Pure.pure v) r := ⟨v, rfl, h⟩
theorem Snd.of {P : Program} {R : Env} {s : Sem Value} {r : SV} (v : Value) (h1 : s.run P R.w = .ok v R.w) (h2 : Rep R r v) : Snd P R s r := ⟨v, h1, h2⟩

/-! ### Two operands -/
def pShift (op : BinOp) (k : IntKind) (a b : Int) : Option Value :=
  if b < 0 then none else match op with
  | .shl => some (.int k (k.wrap (a * 2 ^ (min b.toNat k.bits))))
  | .shr => some (.int k (a.fdiv (2 ^ (min b.toNat k.bits))))
  | _ => none
def pInt (op : BinOp) (k : IntKind) (a b : Int) : Option Value :=
  match op with
  | .add => some (.int k (k.wrap (a + b)))
  | .sub => some (.int k (k.wrap (a - b)))
  | .mul => some (.int k (k.wrap (a * b)))
  | .quo => if b = 0 then none else some (.int k (k.wrap (a.tdiv b)))
  | .rem => if b = 0 then none else some (.int k (a.tmod b))
  | .and => some (.int k (k.wrap (BitVec.ofInt k.bits a &&& BitVec.ofInt k.bits b).toNat))
  | .or => some (.int k (k.wrap (BitVec.ofInt k.bits a ||| BitVec.ofInt k.bits b).toNat))
  | .xor => some (.int k (k.wrap (BitVec.ofInt k.bits a ^^^ BitVec.ofInt k.bits b).toNat))
  | .andNot => some (.int k (k.wrap (BitVec.ofInt k.bits a &&& ~~~ BitVec.ofInt k.bits b).toNat))
  | .eql => some (.bool (a == b))
  | .neq => some (.bool (a != b))
  | .lss => some (.bool (decide (a < b)))
  | .leq => some (.bool (decide (a ≤ b)))
  | .gtr => some (.bool (decide (a > b)))
  | .geq => some (.bool (decide (a ≥ b)))
  | .shl => none
  | .shr => none
def pStr (op : BinOp) (a b : ByteArray) : Option Value :=
  match op with
  | .add => if a.size + b.size ≤ 9223372036854775807 then some (.string (a ++ b)) else none
  | .eql => some (.bool (decide (a = b)))
  | .neq => some (.bool (!decide (a = b)))
  | .lss => some (.bool (Op.bytesLess a.toList b.toList))
  | .leq => some (.bool (Op.bytesLess a.toList b.toList || decide (a = b)))
  | .gtr => some (.bool (!(Op.bytesLess a.toList b.toList || decide (a = b))))
  | .geq => some (.bool (!Op.bytesLess a.toList b.toList))
  | _ => none
/-- Is it an address, and not nil? -/
def SV.addr : SV → Bool
  | .ptr _ _ | .ro _ => true
  | _ => false
def pBin (P : Program) (op : BinOp) (t : TypeId) : SV → SV → Option SV
  | .v (.int k a), .v (.int k' b) => match op with
    | .shl => (pShift .shl k a b).map .v
    | .shr => (pShift .shr k a b).map .v
    | op => if k = k' then (pInt op k a b).map .v else none
  | .v (.string a), .v (.string b) => (pStr op a b).map .v
  | .v (.bool a), .v (.bool b) => match op, P.underlying t with
    | .eql, some .bool => some (.v (.bool (a == b)))
    | .neq, some .bool => some (.v (.bool (!(a == b))))
    | _, _ => none
  | .v (.pointer none), .v (.pointer none) => match op, P.underlying t with
    | .eql, some (.pointer _) => some (.v (.bool true))
    | .neq, some (.pointer _) => some (.v (.bool false))
    | _, _ => none
  | x, .v (.pointer none) => if x.addr then (match op, P.underlying t with
    | .eql, some (.pointer _) => some (.v (.bool false))
    | .neq, some (.pointer _) => some (.v (.bool true))
    | _, _ => none) else none
  | _, _ => none
theorem toList_eq_iff (a b : ByteArray) : (a.toList == b.toList) = decide (a = b) := by
  rw [Bool.eq_iff_iff]
  simp only [beq_iff_eq, decide_eq_true_eq]
  constructor
  · intro h
    rw [ByteArray.toList_eq, ByteArray.toList_eq] at h
    cases a; cases b
    congr 1
    exact Array.toList_inj.1 h
  · rintro rfl; rfl
theorem run_eqGuard_int (P : Program) (op : BinOp) (t : TypeId) (x y : Operand) (k : IntKind) (a : Int) (b : Value) (w : World) : (eqGuard op t x y (.int k a) b).run P w = .ok () w := by cases op <;> rfl
theorem run_eqGuard_string (P : Program) (op : BinOp) (t : TypeId) (x y : Operand) (a : ByteArray) (b : Value) (w : World) : (eqGuard op t x y (.string a) b).run P w = .ok () w := by cases op <;> rfl
theorem run_eqGuard_bool (P : Program) (op : BinOp) (t : TypeId) (x y : Operand) (a : Bool) (b : Value) (w : World) : (eqGuard op t x y (.bool a) b).run P w = .ok () w := by cases op <;> rfl
theorem run_eqGuard_ptr (P : Program) (op : BinOp) (t : TypeId) (x y : Operand) (a : Option Addr) (b : Value) (w : World) : (eqGuard op t x y (.pointer a) b).run P w = .ok () w := by cases op <;> rfl
theorem run_equalIn_bool {P : Program} {t : TypeId} (h : P.underlying t = some .bool) (a b : Bool) (d : Nat) (w : World) : (Op.equalIn (d + 1) t (.bool a) (.bool b)).run P w = .ok (a == b) w := by
  simp only [Op.equalIn, Sem.run_bind, run_underlying h, Result.andThen_ok, Sem.run_pure]
theorem run_equalIn_nil {P : Program} {t e : TypeId} (h : P.underlying t = some (.pointer e)) (a : Option Addr) (d : Nat) (w : World) : (Op.equalIn (d + 1) t (.pointer a) (.pointer none)).run P w = .ok a.isNone w := by
  cases a <;> simp only [Op.equalIn, Sem.run_bind, run_underlying h, Result.andThen_ok, Sem.run_pure, Option.isNone]
theorem run_equal_bool {P : Program} {t : TypeId} (h : P.underlying t = some .bool) (a b : Bool) (w : World) : (Op.equal t (.bool a) (.bool b)).run P w = .ok (a == b) w :=
  run_equalIn_bool h a b 9999 w
theorem run_equal_nil {P : Program} {t e : TypeId} (h : P.underlying t = some (.pointer e)) (a : Option Addr) (w : World) : (Op.equal t (.pointer a) (.pointer none)).run P w = .ok a.isNone w :=
  run_equalIn_nil h a 9999 w
theorem pBin_sound {P : Program} {R : Env} {op : BinOp} {t : TypeId} {x y : Operand} {sx sy r : SV} {a b : Value} (h : pBin P op t sx sy = some r) (ha : Rep R sx a) (hb : Rep R sy b) :
    Snd P R (do eqGuard op t x y a b; binOp op t a b) r := by
  have key : ∀ (v : Value), (eqGuard op t x y a b).run P R.w = .ok () R.w → (binOp op t a b).run P R.w = .ok v R.w → Rep R r v → Snd P R (do eqGuard op t x y a b; binOp op t a b) r :=
    fun v h1 h2 h3 => ⟨v, by simp only [Sem.run_bind, h1, Result.andThen_ok, h2], h3⟩
  unfold pBin at h
  split at h
  · rename_i k m k' n
    obtain rfl := rep_v.1 ha
    obtain rfl := rep_v.1 hb
    have hg : (eqGuard op t x y (.int k m) (.int k' n)).run P R.w = .ok () R.w := run_eqGuard_int ..
    split at h
    · obtain ⟨v, hv, rfl⟩ := Option.map_eq_some_iff.1 h
      unfold pShift at hv
      split at hv
      · cases hv
      · rename_i hn
        cases hv
        exact key _ hg (by simp [binOp, Op.shift, hn]) (.v _)
    · obtain ⟨v, hv, rfl⟩ := Option.map_eq_some_iff.1 h
      unfold pShift at hv
      split at hv
      · cases hv
      · rename_i hn
        cases hv
        exact key _ hg (by simp [binOp, Op.shift, hn]) (.v _)
    · rename_i h1 h2
      split at h
      · rename_i hk
        subst hk
        obtain ⟨v, hv, rfl⟩ := Option.map_eq_some_iff.1 h
        refine key v hg ?_ (.v _)
        cases op <;> simp only [pInt] at hv <;> first
          | (cases hv; simp [binOp, Op.intArith, Op.intBits, Op.intCmp]; done)
          | (split at hv <;> first | (cases hv; done) | (cases hv; rename_i hz; simp [binOp, Op.intDiv, hz]; done))
          | (cases hv; done)
      · cases h
  · rename_i s u
    obtain rfl := rep_v.1 ha
    obtain rfl := rep_v.1 hb
    have hg : (eqGuard op t x y (.string s) (.string u)).run P R.w = .ok () R.w := run_eqGuard_string ..
    obtain ⟨v, hv, rfl⟩ := Option.map_eq_some_iff.1 h
    refine key v hg ?_ (.v _)
    cases op <;> simp only [pStr] at hv <;> first
      | (cases hv; done)
      | (cases hv; simp [binOp, Op.stringOp, toList_eq_iff]; done)
      | (split at hv <;> first | (cases hv; done) | (cases hv; rename_i hz; simp only [binOp, Op.stringOp]; rw [if_neg (by simp [IntKind.max, IntKind.signed, IntKind.bits]; omega)]; rfl))
  · rename_i s u
    obtain rfl := rep_v.1 ha
    obtain rfl := rep_v.1 hb
    have hg : (eqGuard op t x y (.bool s) (.bool u)).run P R.w = .ok () R.w := run_eqGuard_bool ..
    split at h
    · rename_i hu; cases h
      exact key _ hg (by simp only [binOp, Sem.run_bind, run_equal_bool hu, Result.andThen_ok, Sem.run_pure]) (.v _)
    · rename_i hu; cases h
      exact key _ hg (by simp only [binOp, Sem.run_bind, run_equal_bool hu, Result.andThen_ok, Sem.run_pure]) (.v _)
    · cases h
  · obtain rfl := rep_v.1 ha
    obtain rfl := rep_v.1 hb
    have hg : (eqGuard op t x y (.pointer none) (.pointer none)).run P R.w = .ok () R.w := run_eqGuard_ptr ..
    split at h
    · rename_i hu; cases h
      exact key _ hg (by simp only [binOp, Sem.run_bind, run_equal_nil hu, Result.andThen_ok, Sem.run_pure, Option.isNone, Bool.not_true]) (.v _)
    · rename_i hu; cases h
      exact key _ hg (by simp only [binOp, Sem.run_bind, run_equal_nil hu, Result.andThen_ok, Sem.run_pure, Option.isNone, Bool.not_true]) (.v _)
    · cases h
  · rename_i hx
    obtain rfl := rep_v.1 hb
    split at h
    · rename_i hadr
      obtain ⟨ad, rfl⟩ : ∃ ad, a = .pointer (some ad) := by
        cases ha <;> first | exact ⟨_, rfl⟩ | (simp [SV.addr] at hadr; done)
      have hg : (eqGuard op t x y (.pointer (some ad)) (.pointer none)).run P R.w = .ok () R.w := run_eqGuard_ptr ..
      split at h
      · rename_i hu; cases h
        exact key _ hg (by simp only [binOp, Sem.run_bind, run_equal_nil hu, Result.andThen_ok, Sem.run_pure, Option.isNone, Bool.not_false]) (.v _)
      · rename_i hu; cases h
        exact key _ hg (by simp only [binOp, Sem.run_bind, run_equal_nil hu, Result.andThen_ok, Sem.run_pure, Option.isNone, Bool.not_false]) (.v _)
      · cases h
    · cases h
  · cases h

/-! ### One operand -/
def pUn (op : UnOp) : SV → Option SV
  | .v (.int k n) => match op with
    | .neg => some (.v (.int k (k.wrap (0 - n))))
    | .xor => some (.v (.int k (k.wrap (BitVec.ofInt k.bits (if k.signed then -1 else k.max) ^^^ BitVec.ofInt k.bits n).toNat)))
    | _ => none
  | .v (.bool b) => match op with
    | .not => some (.v (.bool (!b)))
    | _ => none
  | _ => none
theorem pUn_sound {P : Program} {R : Env} {op : UnOp} {sx r : SV} {a : Value} (h : pUn op sx = some r) (ha : Rep R sx a) : Snd P R (Op.unary op a) r := by
  unfold pUn at h
  split at h
  · obtain rfl := rep_v.1 ha
    split at h
    · cases h; exact ⟨_, by simp [Op.unary, Op.intArith], .v _⟩
    · cases h; exact ⟨_, by simp [Op.unary, Op.intBits], .v _⟩
    · cases h
  · obtain rfl := rep_v.1 ha
    split at h
    · cases h; exact ⟨_, by simp [Op.unary], .v _⟩
    · cases h
  · cases h
def byteSV (b : UInt8) : SV := .v (.int .u8 (b.toNat : Int))
def svByte : SV → Option UInt8
  | .v (.int .u8 n) => if 0 ≤ n ∧ n < 256 then some (UInt8.ofNat n.toNat) else none
  | _ => none
def svBytes : List SV → Option (List UInt8)
  | [] => some []
  | x :: xs => match svByte x, svBytes xs with
    | some b, some l => some (b :: l)
    | _, _ => none
theorem svByte_byteSV (b : UInt8) : svByte (byteSV b) = some b := by
  have := b.toNat_lt
  simp only [svByte, byteSV]
  rw [if_pos (by omega)]
  simp
theorem svByte_inv {x : SV} {b : UInt8} (h : svByte x = some b) : x = byteSV b := by
  unfold svByte at h
  split at h
  · split at h
    · rename_i n hn
      cases h
      simp only [byteSV]
      congr 2
      simp only [UInt8.toNat_ofNat']
      omega
    · cases h
  · cases h
theorem svBytes_map (l : List UInt8) : svBytes (l.map byteSV) = some l := by
  induction l with
  | nil => rfl
  | cons b l ih => simp [svBytes, svByte_byteSV, ih]
theorem svBytes_inv : ∀ {xs : List SV} {l : List UInt8}, svBytes xs = some l → xs = l.map byteSV
  | [], l, h => by cases h; rfl
  | x :: xs, l, h => by
    simp only [svBytes] at h
    split at h
    · rename_i b l' hb hl
      cases h
      rw [svByte_inv hb, svBytes_inv hl]
      rfl
    · cases h
/-- A slice's elements, as they are read: of an immutable list, of a row. -/
def vread (H : List VB) : SV → Option (Nat × List SV)
  | .list n _ xs => some (n, xs)
  | .slc id g off len => match H[id]? with
    | some (.row g' n xs) => if g = g' ∧ off + len ≤ xs.length then some (n, (xs.drop off).take len) else none
    | _ => none
  | _ => none
/-- What a read slice is in the world. -/
theorem vread_sound {R : Env} (h : HRep R) {x : SV} {n : Nat} {xs : List SV} {y : Value} (hx : vread R.H x = some (n, xs)) (hr : Rep R x y) :
    ∃ a c, y = .slice a xs.length c ∧ xs.length ≤ c ∧ (∀ z, z ∈ xs → z.cells.length = n) ∧ (xs = [] ∨ ∃ b o, a = some ⟨b, o, none⟩ ∧
      ∀ (i : Nat) (hi : i < xs.length) (j : Nat) (hj : j < xs[i].cells.length), ∃ v, cellAt R.w b (o + (i * n + j)) = some v ∧ Rep R xs[i].cells[j] v) := by
  cases hr with
  | list n' full xs' a c f hc hfull hn ha h' =>
    cases hx
    refine ⟨a, c, rfl, hc, hn, ?_⟩
    rcases ha with ha | ⟨b, o, h1, h2, h3⟩
    · exact .inl ha
    · refine .inr ⟨b, o, h1, fun i hi j hj => ⟨_, h3 _ ?_, h' i hi j hj⟩⟩
      have e1 := hn _ (List.getElem_mem hi)
      have h4 : (i + 1) * n ≤ xs.length * n := Nat.mul_le_mul_right n hi
      have h5 : (i + 1) * n = i * n + n := Nat.succ_mul i n
      omega
  | slc id g off len n' ys x c hr hle hc ha =>
    simp only [vread, hr, true_and, hle, if_true] at hx
    cases hx
    have hlen : ((ys.drop off).take len).length = len := by simp; omega
    obtain ⟨hn, hrow⟩ := h.row id g n ys hr
    refine ⟨x, c, by rw [hlen], by omega, fun z hz => hn z (List.mem_of_mem_drop (List.mem_of_mem_take hz)), ?_⟩
    by_cases h0 : len = 0
    · exact .inl (List.eq_nil_of_length_eq_zero (hlen.trans h0))
    · right
      obtain ⟨a, q1, q2, q3⟩ := ha (by omega)
      rcases hrow with hrow | ⟨a', c', e, fz, p1, p2, p3, p4, p5⟩
      · rw [hrow.1] at q1; cases q1
      · rw [q1] at p1
        cases p1
        refine ⟨_, _, q2, fun i hi j hj => ?_⟩
        have hi' : off + i < ys.length := by omega
        have eg : ((ys.drop off).take len)[i] = ys[off + i] := by simp
        have hj' : j < ys[off + i].cells.length := by rw [← eg]; exact hj
        have e1 := hn _ (List.getElem_mem hi')
        have h4 : (off + i + 1) * n ≤ ys.length * n := Nat.mul_le_mul_right n hi'
        have h5 : (off + i + 1) * n = (off + i) * n + n := Nat.succ_mul _ n
        have h6 : (off + i) * n = off * n + i * n := Nat.add_mul ..
        have hlt : a.off + (off + i) * n + j < c'.size := by omega
        refine ⟨c'[a.off + (off + i) * n + j], ?_, ?_⟩
        · rw [cellAt_of_block p2, show a.off + off * n + (i * n + j) = a.off + (off + i) * n + j by omega]
          exact Array.getElem?_eq_getElem hlt
        · have := p5 (off + i) hi' j hj' hlt
          simpa only [eg] using this
  | slcOld id g off len y hid hr =>
    simp only [vread] at hx
    split at hx
    · rename_i g' n' ys hc
      have := hr g' n' ys hc
      rw [if_neg (by omega)] at hx
      cases hx
    · cases hx
  | _ => cases hx
def pConvBytes (P : Program) (H : List VB) (e : TypeId) (x : SV) : Option SV :=
  match P.underlying e with
  | some (.int .u8) => match x with
    | .v (.slice none 0 0) => some (.v (.string .empty))
    | x => match vread H x with
      | some (1, xs) => (svBytes xs).map fun l => .v (.string ⟨l.toArray⟩)
      | _ => none
  | _ => none
def pConv (P : Program) (H : List VB) (src dst : TypeId) (x : SV) : Option SV :=
  match P.underlying src, P.underlying dst with
  | some (.slice e), some .string => pConvBytes P H e x
  | some _, some (.int k) => match x with
    | .v (.int _ n) => some (.v (.int k (k.wrap n)))
    | _ => none
  | some _, some .string => match x with
    | .v (.string s) => some (.v (.string s))
    | _ => none
  | _, _ => none
theorem strOfNums_bytes (l : List UInt8) : strOfNums (l.map fun b => (b.toNat : Int)) = ⟨l.toArray⟩ := by
  simp only [strOfNums, List.map_map]
  congr 2
  conv => rhs; rw [← List.map_id l]
  refine List.map_congr_left fun b _ => ?_
  simp [Function.comp]
theorem pConvBytes_sound {P : Program} {R : Env} (hR : HRep R) {src dst e : TypeId} (hs : P.underlying src = some (.slice e)) (hd : P.underlying dst = some .string) {sx r : SV} {a : Value}
    (h : pConvBytes P R.H e sx = some r) (ha : Rep R sx a) : Snd P R (convert src dst a) r := by
  unfold pConvBytes at h
  split at h
  · rename_i he
    split at h
    · obtain rfl := rep_v.1 ha
      cases h
      exact ⟨_, run_convert_bytes_nil R.w src e hs he 0 0 dst hd, .v _⟩
    · split at h
      · rename_i xs hx
        obtain ⟨l, hl, rfl⟩ := Option.map_eq_some_iff.1 h
        obtain ⟨ad, c, rfl, hc, hn, hcells⟩ := vread_sound hR hx ha
        have hxs := svBytes_inv hl
        rcases hcells with h0 | ⟨b, o, rfl, hcells⟩
        · have hl0 : l = [] := by rw [hxs] at h0; simpa using h0
          subst h0 hl0
          refine ⟨_, ?_, .v _⟩
          cases ad with
          | none => exact run_convert_bytes_nil R.w src e hs he 0 c dst hd
          | some ad =>
            simp only [convert, underlying, Sem.run_bind, run_program, Result.andThen_ok, hs, hd, Sem.run_pure, he, Conv.bytesToString, List.length_nil, loadCells, loadCellsFrom]
            rfl
        · refine ⟨_, ?_, .v _⟩
          have hlen : (l.map fun b => (b.toNat : Int)).length = xs.length := by rw [hxs]; simp
          have := run_convert_bytes_arg R.w src e hs he b o xs.length c (l.map fun b => (b.toNat : Int)) hlen (fun i hi => ?_) dst hd
          · rw [strOfNums_bytes] at this; exact this
          · have hi' : i < xs.length := hi
            have hil : i < l.length := by rw [hxs] at hi'; simpa using hi'
            have ex : xs[i] = byteSV l[i] := by simp [hxs]
            obtain ⟨v, h1, h2⟩ := hcells i hi' 0 (by rw [ex]; simp [byteSV, SV.cells])
            have h3 : v = .int .u8 (l[i].toNat : Int) := by
              have : xs[i].cells[0]'(by rw [ex]; simp [byteSV, SV.cells]) = byteSV l[i] := by simp [ex, byteSV, SV.cells]
              rw [this] at h2
              exact rep_v.1 h2
            subst h3
            have h4 : R.w.cell? ⟨b, o + (i * 1 + 0), none⟩ = _ := h1
            simpa [List.getD_eq_getElem?_getD, hil] using h4
      · cases h
  · cases h
theorem pConv_sound {P : Program} {R : Env} (hR : HRep R) {src dst : TypeId} {sx r : SV} {a : Value} (h : pConv P R.H src dst sx = some r) (ha : Rep R sx a) : Snd P R (convert src dst a) r := by
  unfold pConv at h
  split at h
  · rename_i e hs hd
    exact pConvBytes_sound hR hs hd h ha
  · rename_i d k hs hd
    split at h
    · obtain rfl := rep_v.1 ha
      cases h
      refine ⟨_, ?_, .v _⟩
      simp only [convert, underlying, Sem.run_bind, run_program, Result.andThen_ok, hs, hd, Sem.run_pure, Conv.intToInt]
    · cases h
  · rename_i d hs hd
    split at h
    · obtain rfl := rep_v.1 ha
      cases h
      refine ⟨_, ?_, .v _⟩
      simp only [convert, underlying, Sem.run_bind, run_program, Result.andThen_ok, hs, hd, Sem.run_pure]
    · cases h
  · cases h
end Go.Vm
