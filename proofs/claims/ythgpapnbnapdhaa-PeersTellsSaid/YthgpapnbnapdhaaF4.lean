/- slices.SortFunc over a few numbers. -/
import Derived.Test.YthgpapnbnapdhaaF2
import Derived.Test.YthgpapnbnapdhaaV24
set_option linter.unusedVariables false
set_option linter.unusedSimpArgs false
namespace Go.Vm
open Go.Proofs
set_option maxRecDepth 100000
/-- What a comparison of numbers computes. -/
def CmpIs (P : Program) (f : FuncId) (cmp : Int → Int → Int) : Prop := ∀ (x y : Int) (H : List VB), VCalls P f [I x, I y] H fun r H' => r = I (cmp x y) ∧ H' = H
def rowI (g : Nat) (ys : List Int) : VB := .row g 1 (ys.map I)
def swp (ys : List Int) (j : Nat) : List Int := (ys.set j (ys.getD (j - 1) 0)).set (j - 1) (ys.getD j 0)
/-- Sorted up to i, but for what stands at j. -/
def Srt (cmp : Int → Int → Int) (ys : List Int) (i j : Nat) : Prop := ∀ p q, p < q → q ≤ i → q ≠ j → ¬ cmp (ys.getD q 0) (ys.getD p 0) < 0
theorem getI {ys : List Int} {k : Nat} (h : k < ys.length) : (ys.map I)[k]? = some (I (ys.getD k 0)) := by
  rw [List.getElem?_map, List.getElem?_eq_getElem h, List.getD_eq_getElem?_getD, List.getElem?_eq_getElem h]; rfl
theorem swp_len (ys : List Int) (j : Nat) : (swp ys j).length = ys.length := by simp [swp]
theorem swp_get {ys : List Int} {j : Nat} (hj : 0 < j) (hl : j < ys.length) (k : Nat) : (swp ys j).getD k 0 = if k = j - 1 then ys.getD j 0 else if k = j then ys.getD (j - 1) 0 else ys.getD k 0 := by
  unfold swp
  simp only [List.getD_eq_getElem?_getD, List.getElem?_set, List.length_set]
  by_cases h1 : k = j - 1
  · subst h1
    have : j - 1 < ys.length := by omega
    simp [this]
  · have h1' : ¬ j - 1 = k := fun h => h1 h.symm
    rw [if_neg h1', if_neg h1]
    by_cases h2 : k = j
    · subst h2; simp [hl]
    · have h2' : ¬ j = k := fun h => h2 h.symm
      rw [if_neg h2', if_neg h2]
theorem swp_perm {ys : List Int} {j : Nat} (hj : 0 < j) (hl : j < ys.length) : (swp ys j).Perm ys := by
  have := @List.set_set_perm _ ys j (j - 1) hl (by omega)
  unfold swp
  rw [List.getD_eq_getElem?_getD, List.getElem?_eq_getElem (by omega), List.getD_eq_getElem?_getD, List.getElem?_eq_getElem hl]
  exact this
theorem srt_done {cmp : Int → Int → Int} (htr : ∀ a b c, ¬ cmp a b < 0 → ¬ cmp b c < 0 → ¬ cmp a c < 0) {zs : List Int} {i j : Nat} (h : Srt cmp zs i j) (hx : j = 0 ∨ ¬ cmp (zs.getD j 0) (zs.getD (j - 1) 0) < 0) : Srt cmp zs (i + 1) (i + 1) := by
  intro p q hpq hq hne
  by_cases hqj : q = j
  · subst hqj
    rcases hx with hx | hx
    · omega
    · by_cases hp : p = q - 1
      · subst hp; exact hx
      · exact htr _ _ _ hx (h p (q - 1) (by omega) (by omega) (by omega))
  · exact h p q hpq (by omega) hqj
theorem srt_swap {cmp : Int → Int → Int} (has : ∀ a b, cmp a b < 0 → ¬ cmp b a < 0) {zs : List Int} {i j : Nat} (h : Srt cmp zs i j) (hj : 0 < j) (hji : j ≤ i) (hil : i < zs.length) (hl : cmp (zs.getD j 0) (zs.getD (j - 1) 0) < 0) : Srt cmp (swp zs j) i (j - 1) := by
  intro p q hpq hq hne
  rw [swp_get hj (by omega), swp_get hj (by omega), if_neg hne]
  by_cases hqj : q = j
  · subst hqj
    rw [if_pos rfl]
    by_cases hp : p = q - 1
    · rw [if_pos hp]; exact has _ _ hl
    · rw [if_neg hp, if_neg (by omega)]
      exact h p (q - 1) (by omega) (by omega) (by omega)
  · rw [if_neg hqj]
    by_cases hp : p = j - 1
    · rw [if_pos hp]; exact h j q (by omega) hq hqj
    · rw [if_neg hp]
      by_cases hp2 : p = j
      · rw [if_pos hp2]; exact h (j - 1) q (by omega) hq hqj
      · rw [if_neg hp2]; exact h p q hpq hq hqj
theorem ins_spec {f : FuncId} {cmp : Int → Int → Int} (hcmp : CmpIs Try.prog f cmp) (has : ∀ a b, cmp a b < 0 → ¬ cmp b a < 0) (htr : ∀ a b c, ¬ cmp a b < 0 → ¬ cmp b c < 0 → ¬ cmp a c < 0) (H : List VB) (id g : Nat) (xs : List Int) (hr : H[id]? = some (rowI g xs)) (hl : xs.length ≤ 12) :
    VCalls Try.prog 100 [.slc id g 0 xs.length, I 0, I xs.length, .fn f []] H (fun r H' => ∃ ys : List Int, ys.Perm xs ∧ Srt cmp ys xs.length xs.length ∧ r = .tup [] ∧ H' = H.set id (rowI g ys)) := by
  refine kcalls Try.func100 rfl (by kernel_rfl) rfl ?_
  intro R0 h0 hb
  have hid : id < H.length := lt_of_some hr
  (conv => whnf)
  refine kwp_loop (S := Nat × List Int) (fun s => [(0, .slc id g 0 xs.length), (1, I 0), (2, I xs.length), (3, .fn f []), (8, I s.1)]) (fun s => ⟨H.length, H.set id (rowI g s.2), []⟩) (fun s => s.2.Perm xs ∧ 1 ≤ s.1 ∧ s.1 ≤ 13 ∧ (s.1 ≤ xs.length ∨ xs.length ≤ 1) ∧ Srt cmp s.2 s.1 s.1) (fun s => 13 - s.1) (1, xs) ⟨List.Perm.refl _, by dsimp only; omega, by dsimp only; omega, by dsimp only; omega, fun p q h1 h2 h3 => by dsimp only at *; omega⟩ (tsub_cons rfl (tsub_cons rfl (tsub_cons rfl (tsub_cons rfl (tsub_cons rfl tsub_nil))))) (by simp [set_same_id hr]) (fun s hs => ⟨by simp [KH.ok], rfl⟩) ?_
  rintro ⟨i, ys⟩ ⟨hp, hi1, hi2, hi3, hs⟩
  have hlen := hp.length_eq
  simp only at hp hi1 hi2 hi3 hs hlen
  rcases Nat.lt_or_ge i xs.length with hlt | hge
  · repeat' (first | (conv => whnf) | skip); (first | (refine VIf.mk (fun _ => ?_) (fun _ => by omega)) | (refine VReq.mk (by kernel_rfl) ?_) | (refine VReq.mk ⟨by kernel_rfl, by omega⟩ ?_))
    (conv => whnf)
    refine kwp_loop (S := Nat × List Int) (fun s => [(0, .slc id g 0 xs.length), (1, I 0), (2, I xs.length), (3, .fn f []), (8, I i), (9, I s.1)]) (fun s => ⟨H.length, H.set id (rowI g s.2), []⟩) (fun s => s.2.Perm xs ∧ s.1 ≤ i ∧ Srt cmp s.2 i s.1) (fun s => s.1) (i, ys) ⟨hp, Nat.le_refl _, hs⟩ (tsub_cons rfl (tsub_cons rfl (tsub_cons rfl (tsub_cons rfl (tsub_cons rfl (tsub_cons rfl tsub_nil)))))) rfl (fun s hs => ⟨by simp [KH.ok], rfl⟩) ?_
    rintro ⟨j, zs⟩ ⟨hq, hj, hz⟩
    simp only at hq hj hz
    have hlz := hq.length_eq
    have hrow : (H.set id (rowI g zs))[id]? = some (.row g 1 (zs.map I)) := by simp [hid, rowI]
    have hmap : (zs.map I).length = xs.length := by simp [hlz]
    rcases Nat.eq_zero_or_pos j with hj0 | hjp
    · subst hj0
      repeat' (first | (conv => whnf) | skip); (first | (refine VIf.mk (fun _ => by omega) (fun _ => ?_)) | (refine VReq.mk (by kernel_rfl) ?_) | (refine kwp_draw (by kernel_rfl) (by kernel_rfl) (by simp [KH.ok]) ?_) | (refine krow_base hrow ?_) | (refine KEnd.mk ?_))
      exact ⟨(i + 1, zs), ⟨hq, by dsimp only; omega, by dsimp only; omega, by dsimp only; omega, srt_done htr hz (.inl rfl)⟩, by dsimp only; omega, tsub_cons rfl (tsub_cons rfl (tsub_cons rfl (tsub_cons rfl (tsub_cons (congrArg I (inc64 (by omega))) tsub_nil)))), rfl⟩
    · have hw : IntKind.i64.wrap ((j : Int) - 1) = ((j - 1 : Nat) : Int) := by rw [IntWalk.i64_in _ (by omega)]; omega
      have hg0 : (zs.map I)[0 + ((j : Nat) : Int).toNat]? = some (I (zs.getD j 0)) := by rw [Nat.zero_add, Int.toNat_natCast]; exact getI (by omega)
      have hg1 : (zs.map I)[0 + (IntKind.i64.wrap ((j : Int) - 1)).toNat]? = some (I (zs.getD (j - 1) 0)) := by rw [hw, Nat.zero_add, Int.toNat_natCast]; exact getI (by omega)
      have hg2 : ∀ v, ((zs.map I).set (0 + ((j : Nat) : Int).toNat) v)[0 + (IntKind.i64.wrap ((j : Int) - 1)).toNat]? = some (I (zs.getD (j - 1) 0)) := fun v => by
        rw [hw, Nat.zero_add, Nat.zero_add, Int.toNat_natCast, Int.toNat_natCast, List.getElem?_set_ne (by omega)]; exact getI (by omega)
      repeat' (first | (conv => whnf) | skip); (first | (refine VIf.mk (fun _ => ?_) (fun _ => by omega)) | (refine VIf.mk (fun _ => ?_) (fun _ => ?_)) | (refine VReq.mk (by kernel_rfl) ?_) | (refine VReq.mk ⟨by dsimp only; rw [hw]; omega, by dsimp only; rw [hw]; omega, rfl, by kernel_rfl, by rw [List.length_set]; omega⟩ ?_) | (refine VReq.mk (by show _ ≤ _; exact Nat.le_refl 1) ?_) | (refine kget_some (hg2 _) ?_) | (refine VReq.mk ⟨by dsimp only; omega, by dsimp only; omega, rfl, by kernel_rfl, by omega⟩ ?_) | (refine VReq.mk ⟨by dsimp only; rw [hw]; omega, by dsimp only; rw [hw]; omega, rfl, by kernel_rfl, by omega⟩ ?_) | (refine kwp_draw (by kernel_rfl) (by kernel_rfl) (by simp [KH.ok]) ?_) | (refine krow_base hrow ?_) | (refine kget_some hg0 ?_) | (refine kget_some hg1 ?_) | (refine kget_some rfl ?_) | (refine kcall_pure (hcmp _ _ _) (by simp [KH.ok]) ?_) | (refine krow_base (List.getElem?_set_self (by simpa using hid)) ?_) | (refine kset_base (by simp) (by simpa using hid) ?_) | (refine KEnd.mk ?_))
      · rename_i h1 h2 h3
        refine ⟨(j - 1, swp zs j), ⟨(swp_perm hjp (by omega)).trans hq, by dsimp only; omega, srt_swap has hz hjp hj (by omega) h3⟩, by dsimp only; omega, tsub_cons rfl (tsub_cons rfl (tsub_cons rfl (tsub_cons rfl (tsub_cons rfl (tsub_cons (congrArg I hw) tsub_nil))))), ?_⟩
        refine congrArg (fun b => KH.mk H.length b []) ?_
        rw [List.set_set, List.set_set]
        refine congrArg (fun b => H.set id b) ?_
        simp only [rowI, swp, List.map_set, hw, Nat.zero_add, Int.toNat_natCast]
        rfl
      · rename_i h1 h2 h3
        exact ⟨(i + 1, zs), ⟨hq, by dsimp only; omega, by dsimp only; omega, by dsimp only; omega, srt_done htr hz (.inr h3)⟩, by dsimp only; omega, tsub_cons rfl (tsub_cons rfl (tsub_cons rfl (tsub_cons rfl (tsub_cons (congrArg I (inc64 (by omega))) tsub_nil)))), rfl⟩
  · repeat' (first | (conv => whnf) | skip); (first | (refine VIf.mk (fun _ => by omega) (fun _ => ?_)) | (refine VReq.mk (by kernel_rfl) ?_) | (refine kdone_keep ?_) | (refine KEnd.mk ?_))
    refine ⟨ys, hp, ?_, rfl, by simp [KH.flat]⟩
    rcases hi3 with h | h
    · obtain rfl : i = xs.length := by omega
      exact hs
    · intro p q h1 h2 h3; omega
theorem pdq_spec {f : FuncId} {cmp : Int → Int → Int} (hcmp : CmpIs Try.prog f cmp) (has : ∀ a b, cmp a b < 0 → ¬ cmp b a < 0) (htr : ∀ a b c, ¬ cmp a b < 0 → ¬ cmp b c < 0 → ¬ cmp a c < 0) (H : List VB) (id g : Nat) (xs : List Int) (hr : H[id]? = some (rowI g xs)) (hl : xs.length ≤ 12) (lim : Int) :
    VCalls Try.prog 77 [.slc id g 0 xs.length, I 0, I xs.length, I lim, .fn f []] H (fun r H' => ∃ ys : List Int, ys.Perm xs ∧ Srt cmp ys xs.length xs.length ∧ r = .tup [] ∧ H' = H.set id (rowI g ys)) := by
  refine kcalls Try.func77 rfl (by kernel_rfl) rfl ?_
  intro R0 h0 hb
  have hw : IntKind.i64.wrap ((xs.length : Int) - 0) = (xs.length : Int) := by rw [IntWalk.i64_in _ (by omega)]; omega
  (conv => whnf)
  refine kwp_loop (S := Unit) (fun s => [(0, .slc id g 0 xs.length), (1, I 0), (2, I xs.length), (3, I lim), (4, .fn f []), (10, B true), (11, B true)]) (fun s => ⟨H.length, H, []⟩) (fun s => True) (fun s => 0) () trivial (tsub_cons rfl (tsub_cons rfl (tsub_cons rfl (tsub_cons rfl (tsub_cons rfl (tsub_cons rfl (tsub_cons rfl tsub_nil))))))) rfl (fun s hs => ⟨rfl, rfl⟩) ?_
  intro s hs
  repeat' (first | (conv => whnf) | skip); (first | (refine VIf.mk (fun _ => ?_) (fun h => absurd (by rw [hw]; omega) h)) | (refine KEnd.mk ?_))
  refine ⟨VCalls.mono (ins_spec hcmp has htr _ id g xs (flat_get_base hr) hl) fun r H' ⟨ys, hp, hsr, er, e⟩ => ⟨⟨H.length, H.set id (rowI g ys), []⟩, by rw [e]; simp [KH.flat], by simp [KH.ok], rfl, ?_⟩⟩
  subst er
  repeat' (first | (conv => whnf) | skip); (first | (refine kdone_keep ?_) | (refine KEnd.mk ?_))
  exact ⟨ys, hp, hsr, rfl, by simp [KH.flat]⟩
theorem len64_spec (x : Nat) (hx : x < 256) (H : List VB) : VCalls Try.prog 99 [.v (.int .u64 x)] H (fun r H' => (∃ n, r = I n) ∧ H' = H) := by
  refine kcalls Try.func99 rfl (by kernel_rfl) rfl ?_
  intro R0 h0 hb
  have hu : IntKind.u8.wrap (x : Int) = (x : Int) := IntWalk.u8_in _ (by omega)
  repeat' (first | (conv => whnf) | skip); (first | (refine VIf.mk (fun _ => by omega) (fun _ => ?_)) | (refine VReq.mk ⟨by rw [hu]; omega, Nat.lt_of_lt_of_le (m := 256) (by rw [hu]; omega) (by decide +kernel)⟩ ?_) | (refine kdone_pure h0 (by simp) ⟨⟨_, rfl⟩, rfl⟩))
theorem len_spec (x : Nat) (hx : x < 256) (H : List VB) : VCalls Try.prog 75 [.v (.int .u64 x)] H (fun r H' => (∃ n, r = I n) ∧ H' = H) := by
  refine kcalls Try.func75 rfl (by kernel_rfl) rfl ?_
  intro R0 h0 hb
  repeat' (first | (conv => whnf) | skip); (first | (refine kcall_some (len64_spec x hx _) rfl ?_; rintro r ⟨n, rfl⟩) | (refine kdone_pure h0 (by simp) ⟨⟨_, rfl⟩, rfl⟩))
theorem sort_spec {f : FuncId} {cmp : Int → Int → Int} (hcmp : CmpIs Try.prog f cmp) (has : ∀ a b, cmp a b < 0 → ¬ cmp b a < 0) (htr : ∀ a b c, ¬ cmp a b < 0 → ¬ cmp b c < 0 → ¬ cmp a c < 0) (H : List VB) (id g : Nat) (xs : List Int) (hr : H[id]? = some (rowI g xs)) (hl : xs.length ≤ 12) :
    VCalls Try.prog 52 [.slc id g 0 xs.length, .fn f []] H (fun r H' => ∃ ys : List Int, ys.Perm xs ∧ Srt cmp ys xs.length xs.length ∧ r = .tup [] ∧ H' = H.set id (rowI g ys)) := by
  refine kcalls Try.func52 rfl (by kernel_rfl) rfl ?_
  intro R0 h0 hb
  have hw : IntKind.u64.wrap (xs.length : Int) = (xs.length : Int) := IntWalk.u64_in _ (by omega)
  repeat' (first | (conv => whnf) | skip); (first | (refine krow_base hr ?_) | (refine VReq.mk (by kernel_rfl) ?_) | (refine kcall_some (p := fun r => ∃ n, r = I n) (by rw [hw]; exact len_spec xs.length (by omega) _) rfl ?_; rintro r ⟨n, rfl⟩) | (refine kdone_keep ?_))
  refine ⟨VCalls.mono (pdq_spec hcmp has htr _ id g xs (flat_get_base hr) hl n) fun r H' ⟨ys, hp, hsr, er, e⟩ => ⟨⟨H.length, H.set id (rowI g ys), []⟩, by rw [e]; simp [KH.flat], by simp [KH.ok], rfl, ?_⟩⟩
  subst er
  repeat' (first | (conv => whnf) | skip); (first | (refine kdone_keep ?_) | (refine KEnd.mk ?_))
  exact ⟨ys, hp, hsr, rfl, by simp [KH.flat]⟩
end Go.Vm
