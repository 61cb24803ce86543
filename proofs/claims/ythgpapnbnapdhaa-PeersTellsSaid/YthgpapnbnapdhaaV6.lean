/- The virtual machine, part 6: slice expressions, composite literals, builtins that only read; all of them together (stepF). Generic: no program in sight. -/
import Derived.Test.YthgpapnbnapdhaaV5
set_option linter.unusedVariables false
set_option linter.unusedSimpArgs false
namespace Go.Vm
open Go.RowKit

def pSliceS (H : List VB) (n : Nat) (x : SV) (lo hi mx : Option SV) : Option SV :=
  match x with
  | .list n' f xs => if n' = n then (match pBounds xs.length xs.length lo hi mx with
      | some (l, h, m) => some (.list n ((mx.isSome && m == h) || (mx.isNone && f && h == xs.length)) ((xs.drop l).take (h - l)))
      | none => none) else none
  | .slc id g off len => match H[id]? with
    | some (.row g' n' xs) => if g = g' ∧ n' = n ∧ off + len ≤ xs.length then (match pBounds len len lo hi mx with
      | some (l, h, _) => some (.slc id g (off + l) (h - l))
      | none => none) else none
    | _ => none
  | .bsl id off n' len cap => if n' = n then (match pBounds len cap lo hi mx with
      | some (l, h, m) => some (.bsl id (off + l * n) n (h - l) (m - l))
      | none => none) else none
  | .v (.slice none 0 0) => match pBounds 0 0 lo hi mx with
      | some _ => some (.v (.slice none 0 0))
      | none => none
  | _ => none
def pSliceA (n size : Nat) (x : SV) (lo hi mx : Option SV) : Option SV :=
  match x with
  | .ptr id off => match pBounds n n lo hi mx with
    | some (l, h, m) => some (.bsl id (off + l * size) size (h - l) (m - l))
    | none => none
  | _ => none
def pSlice (P : Program) (H : List VB) (t : TypeId) (x : SV) (lo hi mx : Option SV) : Option SV :=
  match P.underlying t with
  | some .string => match x, mx with
    | .v (.string s), none => match pBounds s.size s.size lo hi none with
      | some (l, h, _) => some (.v (.string (s.extract l h)))
      | none => none
    | _, _ => none
  | some (.slice e) => if (P.underlying e).isSome then pSliceS H (P.cellsOf e) x lo hi mx else none
  | some (.array n e) => if (P.underlying e).isSome then pSliceA n (P.cellsOf e) x lo hi mx else none
  | some (.pointer arr) => match P.underlying arr with
    | some (.array n e) => if (P.underlying e).isSome then pSliceA n (P.cellsOf e) x lo hi mx else none
    | _ => none
  | _ => none
theorem pSliceS_sound {P : Program} {R : Env} (hR : HRep R) {t e : TypeId} {d : TypeDesc} (hu : P.underlying t = some (.slice e)) (hd : P.underlying e = some d) {x r : SV} {lo hi mx : Option SV} {a : Value} {lo' hi' mx' : Option Value}
    (h : pSliceS R.H (P.cellsOf e) x lo hi mx = some r) (ha : Rep R x a) (h1 : RepO R lo lo') (h2 : RepO R hi hi') (h3 : RepO R mx mx') : Snd P R (Instr.sliceAt t a lo' hi' mx') r := by
  have run : ∀ (ad : Option Addr) (len c l hh m : Nat), (Instr.sliceBounds true len c lo' hi' mx').run P R.w = .ok (l, hh, m) R.w →
      (Instr.sliceAt t (.slice ad len c) lo' hi' mx').run P R.w = .ok (.slice (if m = l then ad else ad.map (·.add (l * P.cellsOf e))) (hh - l) (m - l)) R.w := by
    intro ad len c l hh m hb
    simp only [Instr.sliceAt, Sem.run_bind, run_underlying hu, Result.andThen_ok, Instr.slice, hb, run_sizeOf hd, Sem.run_pure]
  unfold pSliceS at h
  split at h
  · rename_i n' f xs
    split at h
    · rename_i hn
      split at h
      · rename_i l hh m hb
        cases h
        cases ha with
        | list n2 full xs' ad c g hc hfull hnn hcells h' =>
          obtain ⟨q1, q2, q3, q4, q5⟩ := pBounds_sound (P := P) hb hc h1 h2 h3 true
          refine ⟨_, run _ _ _ _ _ _ q1, ?_⟩
          have hlen : ((xs.drop l).take (hh - l)).length = hh - l := by simp; omega
          have hm' : hh ≤ (if mx.isNone = true then c else m) := by split <;> omega
          have := Rep.list (R := R) (P.cellsOf e) ((mx.isSome && m == hh) || (mx.isNone && f && hh == xs.length)) ((xs.drop l).take (hh - l))
            (if (if mx.isNone = true then c else m) = l then ad else ad.map (·.add (l * P.cellsOf e))) ((if mx.isNone = true then c else m) - l) (fun j => g (l * P.cellsOf e + j)) (by omega) ?_ ?_ ?_ ?_
          · rwa [hlen] at this
          · intro hf
            rw [hlen]
            simp only [Bool.or_eq_true, Bool.and_eq_true, beq_iff_eq, Option.isSome_iff_ne_none] at hf
            rcases hf with ⟨hs, he⟩ | ⟨⟨hs, hf⟩, he⟩
            · have : mx.isNone = false := by cases mx <;> simp_all
              rw [this]; simp [he]
            · rw [hs]
              have := hfull hf
              simp only [if_true]
              omega
          · intro z hz
            rw [← hn]
            exact hnn z (List.mem_of_mem_drop (List.mem_of_mem_take hz))
          · by_cases h0 : hh - l = 0
            · exact .inl (List.eq_nil_of_length_eq_zero (hlen.trans h0))
            · right
              rcases hcells with h0' | ⟨b, o, rfl, p2, p3⟩
              · have : xs.length = 0 := by rw [h0']; rfl
                omega
              · refine ⟨b, o + l * P.cellsOf e, ?_, p2, fun j hj => ?_⟩
                · rw [if_neg (by omega)]
                  simp only [Option.map_some, add_plain]
                · rw [hlen] at hj
                  rw [Nat.add_assoc]
                  refine p3 _ ?_
                  rw [hn]
                  have e1 : hh * P.cellsOf e ≤ xs.length * P.cellsOf e := Nat.mul_le_mul_right _ (by omega)
                  have e2 : hh * P.cellsOf e = (hh - l) * P.cellsOf e + l * P.cellsOf e := by rw [← Nat.add_mul]; congr 1; omega
                  omega
          · intro i hi j hj
            have hil : i < hh - l := by rw [hlen] at hi; exact hi
            have hi' : l + i < xs.length := by omega
            have eg : ((xs.drop l).take (hh - l))[i] = xs[l + i] := by simp
            have hj' : j < xs[l + i].cells.length := by rw [← eg]; exact hj
            have := h' (l + i) hi' j hj'
            simp only [eg]
            rwa [hn, Nat.add_mul, Nat.add_assoc] at this
      · cases h
    · cases h
  · rename_i id g off len
    split at h
    · rename_i g' n' xs hrow
      split at h
      · rename_i hc
        obtain ⟨rfl, hn, hle⟩ := hc
        split at h
        · rename_i l hh m hb
          cases h
          cases ha with
          | slc id' g2 off' len' n2 xs2 x c hr hle' hc' ha' =>
            rw [hrow] at hr
            cases hr
            obtain ⟨q1, q2, q3, q4, q5⟩ := pBounds_sound (P := P) hb hc' h1 h2 h3 true
            refine ⟨_, run _ _ _ _ _ _ q1, ?_⟩
            have hm' : hh ≤ (if mx.isNone = true then c else m) := by split <;> omega
            have hm2 : (if mx.isNone = true then c else m) ≤ c := by split <;> omega
            generalize (if mx.isNone = true then c else m) = m' at *
            refine .slc id g (off + l) (hh - l) n' xs _ (m' - l) hrow (by omega) (by omega) fun hp => ?_
            obtain ⟨a, p1, rfl, p3⟩ := ha' (by omega)
            refine ⟨a, p1, ?_, ?_⟩
            · rw [if_neg (by omega)]
              simp only [Option.map_some, add_plain, hn, Nat.add_mul, Nat.add_assoc]
            · have e1 : (off + l + (m' - l)) * n' ≤ (off + c) * n' := Nat.mul_le_mul_right _ (by omega)
              omega
          | slcOld id' g2 off' len' y hid hr =>
            have := hr _ _ _ hrow
            omega
        · cases h
      · cases h
    · cases h
  · rename_i id off n' len cap
    split at h
    · rename_i hn
      subst hn
      split at h
      · rename_i l hh m hb
        cases h
        cases ha with
        | bsl id' off' n2 len' c' x hid hbb hle ha' =>
          obtain ⟨q1, q2, q3, q4, q5⟩ := pBounds_sound (P := P) hb (Nat.le_refl _) h1 h2 h3 true
          refine ⟨_, run _ _ _ _ _ _ q1, ?_⟩
          have hm' : (if mx.isNone = true then cap else m) = m := by
            split
            · rename_i hs; exact (q5 hs).symm
            · rfl
          rw [hm']
          refine .bsl id _ _ (hh - l) (m - l) _ hid hbb (by omega) fun hp => ?_
          obtain ⟨a, p1, p2, rfl⟩ := ha' (by omega)
          refine ⟨a, p1, p2, ?_⟩
          rw [if_neg (by omega)]
          simp only [Option.map_some, add_plain, Nat.add_assoc]
      · cases h
    · cases h
  · split at h
    · rename_i y hb
      obtain ⟨l, hh, m⟩ := y
      cases h
      obtain rfl := rep_v.1 ha
      obtain ⟨q1, q2, q3, q4, q5⟩ := pBounds_sound (P := P) hb (Nat.le_refl _) h1 h2 h3 true
      refine ⟨_, run _ _ _ _ _ _ q1, ?_⟩
      have : (if mx.isNone = true then 0 else m) = 0 := by split <;> omega
      rw [this]
      have hl : l = 0 := by omega
      have hz : hh = 0 := by omega
      subst hl hz
      exact .v _
    · cases h
  · cases h
theorem pSliceA_sound {P : Program} {R : Env} {n size : Nat} {x r : SV} {lo hi mx : Option SV} {a : Value} {lo' hi' mx' : Option Value}
    (h : pSliceA n size x lo hi mx = some r) (ha : Rep R x a) (h1 : RepO R lo lo') (h2 : RepO R hi hi') (h3 : RepO R mx mx') :
    ∃ b o l hh m, a = .pointer (some ⟨b, o, none⟩) ∧ (Instr.sliceBounds false n n lo' hi' mx').run P R.w = .ok (l, hh, m) R.w ∧
      Rep R r (.slice (some (if m = l then ⟨b, o, none⟩ else (⟨b, o, none⟩ : Addr).add (l * size))) (hh - l) (m - l)) := by
  unfold pSliceA at h
  split at h
  · rename_i id off
    split at h
    · rename_i l hh m hb
      cases h
      cases ha with
      | ptr id' off' ad hid hbb hρ hs =>
        obtain ⟨q1, q2, q3, q4, q5⟩ := pBounds_sound (P := P) hb (Nat.le_refl _) h1 h2 h3 false
        have hm' : (if mx.isNone = true then n else m) = m := by
          split
          · rename_i hs; exact (q5 hs).symm
          · rfl
        rw [hm'] at q1
        refine ⟨_, _, l, hh, m, rfl, q1, .bsl id _ _ _ _ _ hid hbb (by omega) fun hp => ⟨ad, hρ, hs, ?_⟩⟩
        rw [if_neg (by omega), add_plain, Nat.add_assoc]
    · cases h
  · cases h
theorem pSlice_sound {P : Program} {R : Env} (hR : HRep R) {t : TypeId} {x r : SV} {lo hi mx : Option SV} {a : Value} {lo' hi' mx' : Option Value}
    (h : pSlice P R.H t x lo hi mx = some r) (ha : Rep R x a) (h1 : RepO R lo lo') (h2 : RepO R hi hi') (h3 : RepO R mx mx') : Snd P R (Instr.sliceAt t a lo' hi' mx') r := by
  unfold pSlice at h
  split at h
  · rename_i hu
    split at h
    · rename_i s
      obtain rfl := rep_v.1 ha
      split at h
      · rename_i l hh m hb
        cases h
        cases mx' with
        | some _ => exact h3.elim
        | none =>
          obtain ⟨q1, _⟩ := pBounds_sound (P := P) hb (Nat.le_refl _) h1 h2 h3 false
          refine ⟨_, ?_, .v _⟩
          simp only [Instr.sliceAt, Sem.run_bind, run_underlying hu, Result.andThen_ok, Instr.slice, Option.isSome_none, Bool.false_eq_true, if_false, q1, Sem.run_pure, pure_bind]
      · cases h
    · cases h
  · rename_i e hu
    split at h
    · rename_i hs
      obtain ⟨d, hd⟩ := Option.isSome_iff_exists.1 hs
      exact pSliceS_sound hR hu hd h ha h1 h2 h3
    · cases h
  · rename_i n e hu
    split at h
    · rename_i hs
      obtain ⟨d, hd⟩ := Option.isSome_iff_exists.1 hs
      obtain ⟨b, o, l, hh, m, rfl, q1, q2⟩ := pSliceA_sound (P := P) h ha h1 h2 h3
      refine ⟨_, ?_, q2⟩
      simp only [Instr.sliceAt, Sem.run_bind, run_underlying hu, Result.andThen_ok, Instr.sureAddr, q1, run_sizeOf hd, Sem.run_pure]
    · cases h
  · rename_i arr hu
    split at h
    · rename_i n e hu2
      split at h
      · rename_i hs
        obtain ⟨d, hd⟩ := Option.isSome_iff_exists.1 hs
        obtain ⟨b, o, l, hh, m, rfl, q1, q2⟩ := pSliceA_sound (P := P) h ha h1 h2 h3
        refine ⟨_, ?_, q2⟩
        simp only [Instr.sliceAt, Sem.run_bind, run_underlying hu, Result.andThen_ok, Instr.slice, asAddr, run_underlying hu2, q1, run_sizeOf hd, Sem.run_pure]
      · cases h
    · cases h
  · cases h
end Go.Vm
