/- The virtual machine, part 14: the walk as a reckoning, second half; whole functions (kcalls). Generic: no program in sight. -/
import Derived.Test.YthgpapnbnapdhaaV13
set_option linter.unusedVariables false
set_option linter.unusedSimpArgs false
namespace Go.Vm
open Go.RowKit

/-! ### Cells of a value -/
def kcv (h : KH) (x : SV) (K : List SV → Prop) : Prop :=
  match x with
  | .agg cs => K cs
  | .v y => match y.oneCell' with | true => K [.v y] | false => False
  | .ptr i o => K [.ptr i o]
  | .ro cs => K [.ro cs]
  | .list n f xs => K [.list n f xs]
  | .fn f cs => K [.fn f cs]
  | .mapv i => K [.mapv i]
  | .bsl i o n l c => K [.bsl i o n l c]
  | .slc id g off len => KRow h id fun g' n xs => VReq (g' = g) (K [.slc id g off len])
  | .rptr id g i o => KRow h id fun g' n xs => VReq (g' = g) (K [.rptr id g i o])
  | _ => False
theorem kcv_sound {h : KH} {x : SV} {K : List SV → Prop} (hk : kcv h x K) : svValid h.flat x = true ∧ K x.cells := by
  unfold kcv at hk
  split at hk
  · exact ⟨rfl, hk⟩
  · split at hk
    · rename_i ho; exact ⟨ho, hk⟩
    · exact hk.elim
  · exact ⟨rfl, hk⟩
  · exact ⟨rfl, hk⟩
  · exact ⟨rfl, hk⟩
  · exact ⟨rfl, hk⟩
  · exact ⟨rfl, hk⟩
  · exact ⟨rfl, hk⟩
  · obtain ⟨g', n, xs, q1, q2⟩ := hk.h
    exact ⟨by simp only [svValid, q1]; simpa using q2.p, q2.h⟩
  · obtain ⟨g', n, xs, q1, q2⟩ := hk.h
    exact ⟨by simp only [svValid, q1]; simpa using q2.p, q2.h⟩
  · exact hk.elim
def kst (h : KH) (x : SV) (K : List SV → Prop) : Prop :=
  match x with
  | .agg cs => VReq (∀ c, c ∈ cs → svCell h.flat c = true) (K cs)
  | x => kcv h x K
theorem kst_sound {h : KH} {x : SV} {K : List SV → Prop} (hk : kst h x K) : svValid h.flat x = true ∧ (∀ c, c ∈ x.cells → svCell h.flat c = true) ∧ K x.cells := by
  cases x with
  | agg cs => exact ⟨rfl, hk.p, hk.h⟩
  | junk => exact hk.elim
  | tup cs => exact hk.elim
  | v y => have := kcv_sound (h := h) (x := .v y) (K := K) hk; exact ⟨this.1, fun c hc => by simp [SV.cells] at hc; subst hc; exact this.1, this.2⟩
  | ptr i o => have := kcv_sound (h := h) (x := .ptr i o) (K := K) hk; exact ⟨this.1, fun c hc => by simp [SV.cells] at hc; subst hc; exact this.1, this.2⟩
  | ro cs => have := kcv_sound (h := h) (x := .ro cs) (K := K) hk; exact ⟨this.1, fun c hc => by simp [SV.cells] at hc; subst hc; exact this.1, this.2⟩
  | list n f xs => have := kcv_sound (h := h) (x := .list n f xs) (K := K) hk; exact ⟨this.1, fun c hc => by simp [SV.cells] at hc; subst hc; exact this.1, this.2⟩
  | slc a b c d => have := kcv_sound (h := h) (x := .slc a b c d) (K := K) hk; exact ⟨this.1, fun c hc => by simp [SV.cells] at hc; subst hc; exact this.1, this.2⟩
  | rptr a b c d => have := kcv_sound (h := h) (x := .rptr a b c d) (K := K) hk; exact ⟨this.1, fun c hc => by simp [SV.cells] at hc; subst hc; exact this.1, this.2⟩
  | fn a b => have := kcv_sound (h := h) (x := .fn a b) (K := K) hk; exact ⟨this.1, fun c hc => by simp [SV.cells] at hc; subst hc; exact this.1, this.2⟩
  | mapv a => have := kcv_sound (h := h) (x := .mapv a) (K := K) hk; exact ⟨this.1, fun c hc => by simp [SV.cells] at hc; subst hc; exact this.1, this.2⟩
  | bsl a b c d e => have := kcv_sound (h := h) (x := .bsl a b c d e) (K := K) hk; exact ⟨this.1, fun c hc => by simp [SV.cells] at hc; subst hc; exact this.1, this.2⟩

/-! ### Slices -/
def kbnd (top : Nat) (x : SV) (K : Nat → Prop) : Prop :=
  match x with
  | .v (.int _ k) => VReq (0 ≤ k ∧ k ≤ top) (K k.toNat)
  | _ => False
theorem kbnd_sound {top : Nat} {x : SV} {K : Nat → Prop} (hk : kbnd top x K) : ∃ n, pBnd top x = some n ∧ K n := by
  unfold kbnd at hk
  split at hk
  · exact ⟨_, by simp only [pBnd]; rw [if_pos hk.p], hk.h⟩
  · exact hk.elim
def kbounds (len cap : Nat) (lo hi mx : Option SV) (K : Nat → Nat → Nat → Prop) : Prop :=
  (match mx with | none => fun (k : Nat → Prop) => k cap | some x => kbnd cap x) fun m =>
    (match hi with | none => fun (k : Nat → Prop) => (match mx with | none => VReq (len ≤ m) (k len) | some _ => False) | some x => kbnd m x) fun h =>
      (match lo with | none => fun (k : Nat → Prop) => k 0 | some x => kbnd h x) fun l => K l h m
theorem kbounds_sound {len cap : Nat} {lo hi mx : Option SV} {K : Nat → Nat → Nat → Prop} (hk : kbounds len cap lo hi mx K) : ∃ l h m, pBounds len cap lo hi mx = some (l, h, m) ∧ K l h m := by
  unfold kbounds at hk
  have h1 : ∃ m, (match mx with | none => some cap | some x => pBnd cap x) = some m ∧ (match hi with | none => fun (k : Nat → Prop) => (match mx with | none => VReq (len ≤ m) (k len) | some _ => False) | some x => kbnd m x) fun h =>
      (match lo with | none => fun (k : Nat → Prop) => k 0 | some x => kbnd h x) fun l => K l h m := by
    cases mx with
    | none => exact ⟨cap, rfl, hk⟩
    | some x => exact kbnd_sound hk
  obtain ⟨m, e1, h1⟩ := h1
  have h2 : ∃ h, (match hi with | none => (if mx.isNone ∧ len ≤ m then some len else none) | some x => pBnd m x) = some h ∧ (match lo with | none => fun (k : Nat → Prop) => k 0 | some x => kbnd h x) fun l => K l h m := by
    cases hi with
    | none =>
      cases mx with
      | none => exact ⟨len, by simp only [Option.isNone_none, true_and]; rw [if_pos h1.p], h1.h⟩
      | some x => exact h1.elim
    | some x => exact kbnd_sound h1
  obtain ⟨h, e2, h2⟩ := h2
  have h3 : ∃ l, (match lo with | none => some 0 | some x => pBnd h x) = some l ∧ K l h m := by
    cases lo with
    | none => exact ⟨0, rfl, h2⟩
    | some x => exact kbnd_sound h2
  obtain ⟨l, e3, h3⟩ := h3
  exact ⟨l, h, m, by unfold pBounds; cases mx <;> cases hi <;> cases lo <;> simp_all <;> (have hle : h ≤ m := by omega) <;> simp_all, h3⟩
def ksliceA (n size : Nat) (x : SV) (lo hi mx : Option SV) (K : SV → Prop) : Prop :=
  match x with
  | .ptr id off => kbounds n n lo hi mx fun l h m => K (.bsl id (off + l * size) size (h - l) (m - l))
  | _ => False
theorem ksliceA_sound {n size : Nat} {x : SV} {lo hi mx : Option SV} {K : SV → Prop} (hk : ksliceA n size x lo hi mx K) : ∃ r, pSliceA n size x lo hi mx = some r ∧ K r := by
  unfold ksliceA at hk
  split at hk
  · obtain ⟨l, h, m, q1, q2⟩ := kbounds_sound hk
    exact ⟨_, by simp only [pSliceA, q1], q2⟩
  · exact hk.elim
def kslice (P : Program) (h : KH) (t : TypeId) (x : SV) (lo hi mx : Option SV) (K : SV → Prop) : Prop :=
  match P.underlying t with
  | some .string => match x with
    | .v (.string s) => match mx with
      | none => kbounds s.size s.size lo hi none fun l hh m => K (.v (.string (s.extract l hh)))
      | some _ => False
    | _ => False
  | some (.slice e) => match (P.underlying e).isSome with
    | true => match x with
      | .list n f xs => VReq (n = P.cellsOf e) (kbounds xs.length xs.length lo hi mx fun l hh m => K (.list n ((mx.isSome && m == hh) || (mx.isNone && f && hh == xs.length)) ((xs.drop l).take (hh - l))))
      | .slc id g off len => KRow h id fun g' n' xs => VReq (g = g' ∧ n' = P.cellsOf e ∧ off + len ≤ xs.length) (kbounds len len lo hi mx fun l hh m => K (.slc id g (off + l) (hh - l)))
      | .bsl id off n' len cap => VReq (n' = P.cellsOf e) (kbounds len cap lo hi mx fun l hh m => K (.bsl id (off + l * n') n' (hh - l) (m - l)))
      | .v (.slice none 0 0) => kbounds 0 0 lo hi mx fun l hh m => K (.v (.slice none 0 0))
      | _ => False
    | false => False
  | some (.array n e) => match (P.underlying e).isSome with
    | true => ksliceA n (P.cellsOf e) x lo hi mx K
    | false => False
  | some (.pointer arr) => match P.underlying arr with
    | some (.array n e) => match (P.underlying e).isSome with
      | true => ksliceA n (P.cellsOf e) x lo hi mx K
      | false => False
    | _ => False
  | _ => False
theorem kslice_sound {P : Program} {h : KH} {t : TypeId} {x : SV} {lo hi mx : Option SV} {K : SV → Prop} (hk : kslice P h t x lo hi mx K) : ∃ r, pSlice P h.flat t x lo hi mx = some r ∧ K r := by
  unfold kslice at hk
  split at hk
  · rename_i hu
    split at hk
    · split at hk
      · obtain ⟨l, hh, m, q1, q2⟩ := kbounds_sound hk
        exact ⟨_, by simp only [pSlice, hu, q1], q2⟩
      · exact hk.elim
    · exact hk.elim
  · rename_i hu
    split at hk
    · rename_i hs
      split at hk
      · obtain ⟨l, hh, m, q1, q2⟩ := kbounds_sound hk.h
        refine ⟨_, ?_, q2⟩
        have := hk.p
        subst this
        simp only [pSlice, hu, hs, if_true, pSliceS, q1]
      · obtain ⟨g', n', xs, p1, p2⟩ := hk.h
        obtain ⟨l, hh, m, q1, q2⟩ := kbounds_sound p2.h
        refine ⟨_, ?_, q2⟩
        simp only [pSlice, hu, hs, if_true, pSliceS, p1]
        rw [if_pos p2.p, q1]
      · obtain ⟨l, hh, m, q1, q2⟩ := kbounds_sound hk.h
        refine ⟨_, ?_, q2⟩
        have := hk.p
        subst this
        simp only [pSlice, hu, hs, if_true, pSliceS, q1]
      · obtain ⟨l, hh, m, q1, q2⟩ := kbounds_sound hk
        exact ⟨_, by simp only [pSlice, hu, hs, if_true, pSliceS, q1], q2⟩
      · exact hk.elim
    · exact hk.elim
  · rename_i hu
    split at hk
    · rename_i hs
      obtain ⟨r, q1, q2⟩ := ksliceA_sound hk
      exact ⟨r, by simp only [pSlice, hu, hs, if_true, q1], q2⟩
    · exact hk.elim
  · rename_i hu
    split at hk
    · rename_i hu2
      split at hk
      · rename_i hs
        obtain ⟨r, q1, q2⟩ := ksliceA_sound hk
        exact ⟨r, by simp only [pSlice, hu, hu2, hs, if_true, q1], q2⟩
      · exact hk.elim
    · exact hk.elim
  · exact hk.elim

/-! ### Literals -/
def kfill (h : KH) (place : Nat → Option (Nat × Nat)) : List SV → List (Nat × SV) → (List SV → Prop) → Prop
  | cells, [], K => K cells
  | cells, (i, x) :: rest, K => match place i with
    | none => False
    | some (off, size) => kcv h x fun vs => VReq (vs.length = size ∧ off + size ≤ cells.length) (kfill h place (lput cells off vs) rest K)
theorem kfill_sound {h : KH} {place : Nat → Option (Nat × Nat)} : ∀ (ps : List (Nat × SV)) (cells : List SV) (K : List SV → Prop), kfill h place cells ps K → ∃ r, vfill h.flat place cells ps = some r ∧ K r
  | [], cells, K, hk => ⟨cells, rfl, hk⟩
  | (i, x) :: ps, cells, K, hk => by
    simp only [kfill] at hk
    split at hk
    · exact hk.elim
    · rename_i off size hp
      obtain ⟨q1, q2⟩ := kcv_sound hk
      obtain ⟨r, p1, p2⟩ := kfill_sound ps _ K q2.h
      refine ⟨r, ?_, p2⟩
      simp only [vfill, hp]
      rw [if_pos ⟨q1, q2.p.1, q2.p.2⟩, p1]
def kbuild (P : Program) (h : KH) (t : TypeId) (ps : List (Nat × SV)) (K : SV → Prop) : Prop :=
  match P.underlying t with
  | some (.struct _) => match zcells P t with
    | some z => match placesOf P t with
      | some pl => kfill h (fun i => pl[i]?) z ps fun cs => K (.agg cs)
      | none => False
    | none => False
  | some (.array _ e) => match zcells P t with
    | some z => match (P.underlying e).isSome with
      | true => kfill h (fun i => some (i * P.cellsOf e, P.cellsOf e)) z ps fun cs => K (.agg cs)
      | false => False
    | none => False
  | _ => False
theorem kbuild_sound {P : Program} {h : KH} {t : TypeId} {ps : List (Nat × SV)} {K : SV → Prop} (hk : kbuild P h t ps K) : ∃ r, pBuild P h.flat t ps = some r ∧ K r := by
  unfold kbuild at hk
  split at hk
  · rename_i hu
    split at hk
    · rename_i hz
      split at hk
      · rename_i hp
        obtain ⟨cs, q1, q2⟩ := kfill_sound _ _ _ hk
        exact ⟨_, by simp only [pBuild, hu, hz, hp, q1], q2⟩
      · exact hk.elim
    · exact hk.elim
  · rename_i hu
    split at hk
    · rename_i hz
      split at hk
      · rename_i hs
        obtain ⟨cs, q1, q2⟩ := kfill_sound _ _ _ hk
        exact ⟨_, by simp only [pBuild, hu, hz, hs, if_true, q1], q2⟩
      · exact hk.elim
    · exact hk.elim
  · exact hk.elim
def kall (h : KH) (n : Nat) : List (Nat × SV) → Prop → Prop
  | [], K => K
  | (_, x) :: r, K => kcv h x fun vs => VReq (vs.length = n) (kall h n r K)
theorem kall_sound {h : KH} {n : Nat} : ∀ (ps : List (Nat × SV)) (K : Prop), kall h n ps K → (∀ p, p ∈ ps → svValid h.flat p.2 = true ∧ p.2.cells.length = n) ∧ K
  | [], K, hk => ⟨fun p hp => (by cases hp), hk⟩
  | (i, x) :: ps, K, hk => by
    obtain ⟨q1, q2⟩ := kcv_sound hk
    obtain ⟨p1, p2⟩ := kall_sound ps K q2.h
    refine ⟨fun p hp => ?_, p2⟩
    rcases List.mem_cons.1 hp with rfl | hp
    · exact ⟨q1, q2.p⟩
    · exact p1 p hp
def kbuildSlice (P : Program) (h : KH) (t : TypeId) (len : Nat) (ps : List (Nat × SV)) (K : SV → Prop) : Prop :=
  match P.underlying t with
  | some (.slice e) => match zcells P e with
    | some z => match ordered 0 ps && Nat.beq ps.length len && Nat.ble 1 len && Nat.ble (len * P.cellsOf e) 16777216 && Nat.ble 1 (P.cellsOf e) && Nat.beq z.length (P.cellsOf e) && (P.underlying e).isSome with
      | true => kall h (P.cellsOf e) ps (K (.list (P.cellsOf e) true (ps.map (·.2))))
      | false => False
    | none => False
  | _ => False
theorem kbuildSlice_sound {P : Program} {h : KH} {t : TypeId} {len : Nat} {ps : List (Nat × SV)} {K : SV → Prop} (hk : kbuildSlice P h t len ps K) : ∃ r, pBuildSlice P h.flat t len ps = some r ∧ K r := by
  unfold kbuildSlice at hk
  split at hk
  · rename_i hu
    split at hk
    · rename_i hz
      split at hk
      · rename_i hc
        obtain ⟨q1, q2⟩ := kall_sound _ _ hk
        simp only [Bool.and_eq_true, Nat.beq_eq, Nat.ble_eq] at hc
        obtain ⟨⟨⟨⟨⟨⟨c1, c2⟩, c3⟩, c4⟩, c5⟩, c6⟩, c7⟩ := hc
        refine ⟨_, ?_, q2⟩
        simp only [pBuildSlice, hu, hz]
        rw [if_pos ⟨c1, c2, c3, c4, c5, c6, c7, q1⟩]
      · exact hk.elim
    · exact hk.elim
  · exact hk.elim

/-! ### Builtins, conversions -/
def klen (P : Program) (h : KH) (t : TypeId) (x : SV) (K : SV → Prop) : Prop :=
  match P.underlying t with
  | some .string => match x with
    | .v (.string s) => K (.v (.int .i64 s.size))
    | _ => False
  | some (.array n _) => K (.v (.int .i64 n))
  | some (.slice _) => match x with
    | .list _ _ xs => K (.v (.int .i64 xs.length))
    | .slc id g off len => KRow h id fun g' _ _ => VReq (g' = g) (K (.v (.int .i64 len)))
    | .bsl _ _ _ len _ => K (.v (.int .i64 len))
    | .v (.slice none 0 0) => K (.v (.int .i64 0))
    | _ => False
  | some (.map _ _) => match x with
    | .v (.map none) => K (.v (.int .i64 0))
    | .mapv id => KMap h id fun es => K (.v (.int .i64 es.length))
    | _ => False
  | _ => False
theorem klen_sound {P : Program} {h : KH} {t : TypeId} {x : SV} {K : SV → Prop} (hk : klen P h t x K) : ∃ r, pLen P h.flat t x = some r ∧ K r := by
  unfold klen at hk
  split at hk
  · rename_i hu
    split at hk
    · exact ⟨_, by simp only [pLen, hu], hk⟩
    · exact hk.elim
  · rename_i hu
    exact ⟨_, by simp only [pLen, hu], hk⟩
  · rename_i hu
    split at hk
    · exact ⟨_, by simp only [pLen, hu], hk⟩
    · obtain ⟨g', n, xs, q1, q2⟩ := hk.h
      exact ⟨_, by simp only [pLen, hu, q1]; rw [if_pos q2.p], q2.h⟩
    · exact ⟨_, by simp only [pLen, hu], hk⟩
    · exact ⟨_, by simp only [pLen, hu], hk⟩
    · exact hk.elim
  · rename_i hu
    split at hk
    · exact ⟨_, by simp only [pLen, hu], hk⟩
    · obtain ⟨es, q1, q2⟩ := hk.h
      exact ⟨_, by simp only [pLen, hu, q1], q2⟩
    · exact hk.elim
  · exact hk.elim
def kmm (mx : Bool) : SV → List SV → (SV → Prop) → Prop
  | x, [], K => K x
  | .v (.int k a), .v (.int k' b) :: rest, K => match kindEq k' k with
    | true => match mx with
      | true => kmm true (.v (.int k (max a b))) rest K
      | false => kmm false (.v (.int k (min a b))) rest K
    | false => False
  | _, _, _ => False
theorem kmm_sound : ∀ (xs : List SV) (mx : Bool) (x : SV) (K : SV → Prop), kmm mx x xs K → ∃ r, pMM mx x xs = some r ∧ K r
  | [], mx, x, K, hk => ⟨x, by cases x <;> rfl, by unfold kmm at hk; exact hk⟩
  | y :: rest, mx, x, K, hk => by
    unfold kmm at hk
    split at hk
    · rename_i heq; cases heq
    · rename_i k a k' b rest' heq
      cases heq
      split at hk
      · rename_i hkk
        obtain rfl := kindEq_eq hkk
        cases mx
        · obtain ⟨r, q1, q2⟩ := kmm_sound rest false _ _ hk
          exact ⟨r, by simp only [pMM, if_true, Bool.false_eq_true, if_false, q1], q2⟩
        · obtain ⟨r, q1, q2⟩ := kmm_sound rest true _ _ hk
          exact ⟨r, by simp only [pMM, if_true, q1], q2⟩
      · exact hk.elim
    · exact hk.elim
def kread (h : KH) (x : SV) (K : Nat → List SV → Prop) : Prop :=
  match x with
  | .list n _ xs => K n xs
  | .slc id g off len => KRow h id fun g' n xs => VReq (g = g' ∧ off + len ≤ xs.length) (K n ((xs.drop off).take len))
  | _ => False
theorem kread_sound {h : KH} {x : SV} {K : Nat → List SV → Prop} (hk : kread h x K) : ∃ n xs, vread h.flat x = some (n, xs) ∧ K n xs := by
  unfold kread at hk
  split at hk
  · exact ⟨_, _, rfl, hk⟩
  · obtain ⟨g', n, xs, q1, q2⟩ := hk.h
    exact ⟨_, _, by simp only [vread, q1]; rw [if_pos q2.p], q2.h⟩
  · exact hk.elim
structure KBytes (xs : List SV) (K : List UInt8 → Prop) : Prop where
  h : ∃ l : List UInt8, xs = l.map byteSV ∧ K l
def kconv (P : Program) (h : KH) (src dst : TypeId) (x : SV) (K : SV → Prop) : Prop :=
  match P.underlying src with
  | none => False
  | some d => match P.underlying dst with
    | some (.int k) => match d with
      | .slice _ => False
      | _ => match x with
        | .v (.int _ n) => K (.v (.int k (k.wrap n)))
        | _ => False
    | some .string => match d with
      | .slice e => match P.underlying e with
        | some (.int .u8) => match x with
          | .v (.slice none 0 0) => K (.v (.string .empty))
          | x => kread h x fun n xs => VReq (n = 1) (KBytes xs fun l => K (.v (.string ⟨l.toArray⟩)))
        | _ => False
      | _ => match x with
        | .v (.string s) => K (.v (.string s))
        | _ => False
    | _ => False
theorem kconv_sound {P : Program} {h : KH} {src dst : TypeId} {x : SV} {K : SV → Prop} (hk : kconv P h src dst x K) : ∃ r, pConv P h.flat src dst x = some r ∧ K r := by
  unfold kconv at hk
  split at hk
  · exact hk.elim
  · rename_i d hs
    split at hk
    · rename_i k hd
      split at hk
      · exact hk.elim
      · split at hk
        · exact ⟨_, by simp only [pConv, hs, hd], hk⟩
        · exact hk.elim
    · rename_i hd
      split at hk
      · rename_i e
        split at hk
        · rename_i he
          split at hk
          · exact ⟨_, by simp only [pConv, hs, hd, pConvBytes, he], hk⟩
          · rename_i hx
            obtain ⟨n, xs, q1, q2⟩ := kread_sound hk
            obtain ⟨l, p1, p2⟩ := q2.h.h
            have hn := q2.p
            subst hn p1
            refine ⟨_, ?_, p2⟩
            simp only [pConv, hs, hd, pConvBytes, he, q1, svBytes_map, Option.map_some]
        · exact hk.elim
      · split at hk
        · exact ⟨_, by simp only [pConv, hs, hd], hk⟩
        · exact hk.elim
    · exact hk.elim
end Go.Vm
