/- slices.SortFunc over a few nodes with their ranks. -/
import Derived.Test.YthgpapnbnapdhaaS14
set_option linter.unusedVariables false
set_option linter.unusedSimpArgs false
namespace Go.Vm
open Go.Proofs
set_option maxRecDepth 100000
abbrev RK := Fin 8 × ByteArray
def E (x : RK) : SV := .agg [I (x.1.val : Nat), T x.2]
def rk0 : RK := (0, ByteArray.empty)
/-- What a comparison of nodes computes. -/
def CmpIsR (P : Program) (f : FuncId) (cmp : RK → RK → Int) : Prop := ∀ (x y : RK) (H : List VB), VCalls P f [E x, E y] H fun r H' => r = I (cmp x y) ∧ H' = H
def rowIR (g : Nat) (ys : List RK) : VB := .row g 2 (ys.map E)
def swpR (ys : List RK) (j : Nat) : List RK := (ys.set j (ys.getD (j - 1) rk0)).set (j - 1) (ys.getD j rk0)
/-- Sorted up to i, but for what stands at j. -/
def SrtR (cmp : RK → RK → Int) (ys : List RK) (i j : Nat) : Prop := ∀ p q, p < q → q ≤ i → q ≠ j → ¬ cmp (ys.getD q rk0) (ys.getD p rk0) < 0
theorem getIR {ys : List RK} {k : Nat} (h : k < ys.length) : (ys.map E)[k]? = some (E (ys.getD k rk0)) := by
  rw [List.getElem?_map, List.getElem?_eq_getElem h, List.getD_eq_getElem?_getD, List.getElem?_eq_getElem h]; rfl
theorem swp_lenR (ys : List RK) (j : Nat) : (swpR ys j).length = ys.length := by simp [swpR]
theorem swp_getR {ys : List RK} {j : Nat} (hj : 0 < j) (hl : j < ys.length) (k : Nat) : (swpR ys j).getD k rk0 = if k = j - 1 then ys.getD j rk0 else if k = j then ys.getD (j - 1) rk0 else ys.getD k rk0 := by
  unfold swpR
  simp only [List.getD_eq_getElem?_getD, List.getElem?_set, List.length_set]
  by_cases h1 : k = j - 1
  · subst h1
    have : j - 1 < ys.length := by omega
    simp [this]
  · have h1' : ¬ j - 1 = k := fun h => h1 h.symm
    rw [if_neg h1', if_neg h1]
    by_cases h2 : k = j
    · subst h2; simp [hl]
    · have h2' : ¬ j = k := fun h => h2 h.symm
      rw [if_neg h2', if_neg h2]
theorem swp_permR {ys : List RK} {j : Nat} (hj : 0 < j) (hl : j < ys.length) : (swpR ys j).Perm ys := by
  have := @List.set_set_perm _ ys j (j - 1) hl (by omega)
  unfold swpR
  rw [List.getD_eq_getElem?_getD, List.getElem?_eq_getElem (by omega), List.getD_eq_getElem?_getD, List.getElem?_eq_getElem hl]
  exact this
theorem srt_doneR {cmp : RK → RK → Int} (htr : ∀ a b c, ¬ cmp a b < 0 → ¬ cmp b c < 0 → ¬ cmp a c < 0) {zs : List RK} {i j : Nat} (h : SrtR cmp zs i j) (hx : j = 0 ∨ ¬ cmp (zs.getD j rk0) (zs.getD (j - 1) rk0) < 0) : SrtR cmp zs (i + 1) (i + 1) := by
  intro p q hpq hq hne
  by_cases hqj : q = j
  · subst hqj
    rcases hx with hx | hx
    · omega
    · by_cases hp : p = q - 1
      · subst hp; exact hx
      · exact htr _ _ _ hx (h p (q - 1) (by omega) (by omega) (by omega))
  · exact h p q hpq (by omega) hqj
theorem srt_swapR {cmp : RK → RK → Int} (has : ∀ a b, cmp a b < 0 → ¬ cmp b a < 0) {zs : List RK} {i j : Nat} (h : SrtR cmp zs i j) (hj : 0 < j) (hji : j ≤ i) (hil : i < zs.length) (hl : cmp (zs.getD j rk0) (zs.getD (j - 1) rk0) < 0) : SrtR cmp (swpR zs j) i (j - 1) := by
  intro p q hpq hq hne
  rw [swp_getR hj (by omega), swp_getR hj (by omega), if_neg hne]
  by_cases hqj : q = j
  · subst hqj
    rw [if_pos rfl]
    by_cases hp : p = q - 1
    · rw [if_pos hp]; exact has _ _ hl
    · rw [if_neg hp, if_neg (by omega)]
      exact h p (q - 1) (by omega) (by omega) (by omega)
  · rw [if_neg hqj]
    by_cases hp : p = j - 1
    · rw [if_pos hp]; exact h j q (by omega) hq hqj
    · rw [if_neg hp]
      by_cases hp2 : p = j
      · rw [if_pos hp2]; exact h (j - 1) q (by omega) hq hqj
      · rw [if_neg hp2]; exact h p q hpq hq hqj
theorem ins_specR {f : FuncId} {cmp : RK → RK → Int} (hcmp : CmpIsR Try.prog f cmp) (has : ∀ a b, cmp a b < 0 → ¬ cmp b a < 0) (htr : ∀ a b c, ¬ cmp a b < 0 → ¬ cmp b c < 0 → ¬ cmp a c < 0) (H : List VB) (id g : Nat) (xs : List RK) (hr : H[id]? = some (rowIR g xs)) (hl : xs.length ≤ 12) :
    VCalls Try.prog 112 [.slc id g 0 xs.length, I 0, I xs.length, .fn f []] H (fun r H' => ∃ ys : List RK, ys.Perm xs ∧ SrtR cmp ys xs.length xs.length ∧ r = .tup [] ∧ H' = H.set id (rowIR g ys)) := by
  refine kcalls Try.func112 rfl (by kernel_rfl) rfl ?_
  intro R0 h0 hb
  have hid : id < H.length := lt_of_some hr
  have hc60 : Try.prog.cellsOf 60 = 2 := by kernel_rfl
  (conv => whnf)
  refine kwp_loop (S := Nat × List RK) (fun s => [(0, .slc id g 0 xs.length), (1, I 0), (2, I xs.length), (3, .fn f []), (8, I s.1)]) (fun s => ⟨H.length, H.set id (rowIR g s.2), []⟩) (fun s => s.2.Perm xs ∧ 1 ≤ s.1 ∧ s.1 ≤ 13 ∧ (s.1 ≤ xs.length ∨ xs.length ≤ 1) ∧ SrtR cmp s.2 s.1 s.1) (fun s => 13 - s.1) (1, xs) ⟨List.Perm.refl _, by dsimp only; omega, by dsimp only; omega, by dsimp only; omega, fun p q h1 h2 h3 => by dsimp only at *; omega⟩ (tsub_cons rfl (tsub_cons rfl (tsub_cons rfl (tsub_cons rfl (tsub_cons rfl tsub_nil))))) (by simp [set_same_id hr]) (fun s hs => ⟨by simp [KH.ok], rfl⟩) ?_
  rintro ⟨i, ys⟩ ⟨hp, hi1, hi2, hi3, hs⟩
  have hlen := hp.length_eq
  simp only at hp hi1 hi2 hi3 hs hlen
  rcases Nat.lt_or_ge i xs.length with hlt | hge
  · repeat' (first | (conv => whnf) | skip); (first | (refine VIf.mk (fun _ => ?_) (fun _ => by omega)) | (refine VReq.mk (by kernel_rfl) ?_) | (refine VReq.mk ⟨by kernel_rfl, by omega⟩ ?_))
    (conv => whnf)
    refine kwp_loop (S := Nat × List RK) (fun s => [(0, .slc id g 0 xs.length), (1, I 0), (2, I xs.length), (3, .fn f []), (8, I i), (9, I s.1)]) (fun s => ⟨H.length, H.set id (rowIR g s.2), []⟩) (fun s => s.2.Perm xs ∧ s.1 ≤ i ∧ SrtR cmp s.2 i s.1) (fun s => s.1) (i, ys) ⟨hp, Nat.le_refl _, hs⟩ (tsub_cons rfl (tsub_cons rfl (tsub_cons rfl (tsub_cons rfl (tsub_cons rfl (tsub_cons rfl tsub_nil)))))) rfl (fun s hs => ⟨by simp [KH.ok], rfl⟩) ?_
    rintro ⟨j, zs⟩ ⟨hq, hj, hz⟩
    simp only at hq hj hz
    have hlz := hq.length_eq
    have hrow : (H.set id (rowIR g zs))[id]? = some (.row g 2 (zs.map E)) := by simp [hid, rowIR]
    have hmap : (zs.map E).length = xs.length := by simp [hlz]
    rcases Nat.eq_zero_or_pos j with hj0 | hjp
    · subst hj0
      repeat' (first | (conv => whnf) | skip); (first | (refine VIf.mk (fun _ => by omega) (fun _ => ?_)) | (refine VReq.mk (by kernel_rfl) ?_) | (refine kwp_draw (by kernel_rfl) (by kernel_rfl) (by simp [KH.ok]) ?_) | (refine krow_base hrow ?_) | (refine KEnd.mk ?_))
      exact ⟨(i + 1, zs), ⟨hq, by dsimp only; omega, by dsimp only; omega, by dsimp only; omega, srt_doneR htr hz (.inl rfl)⟩, by dsimp only; omega, tsub_cons rfl (tsub_cons rfl (tsub_cons rfl (tsub_cons rfl (tsub_cons (congrArg I (inc64 (by omega))) tsub_nil)))), rfl⟩
    · have hw : IntKind.i64.wrap ((j : Int) - 1) = ((j - 1 : Nat) : Int) := by rw [IntWalk.i64_in _ (by omega)]; omega
      have hg0 : (zs.map E)[0 + ((j : Nat) : Int).toNat]? = some (E (zs.getD j rk0)) := by rw [Nat.zero_add, Int.toNat_natCast]; exact getIR (by omega)
      have hg1 : (zs.map E)[0 + (IntKind.i64.wrap ((j : Int) - 1)).toNat]? = some (E (zs.getD (j - 1) rk0)) := by rw [hw, Nat.zero_add, Int.toNat_natCast]; exact getIR (by omega)
      have hg2 : ∀ v, ((zs.map E).set (0 + ((j : Nat) : Int).toNat) v)[0 + (IntKind.i64.wrap ((j : Int) - 1)).toNat]? = some (E (zs.getD (j - 1) rk0)) := fun v => by
        rw [hw, Nat.zero_add, Nat.zero_add, Int.toNat_natCast, Int.toNat_natCast, List.getElem?_set_ne (by omega)]; exact getIR (by omega)
      have hle : ∀ x : RK, Try.prog.cellsOf 60 ≤ ((E x).cells.drop 0).length := fun x => by rw [hc60]; exact Nat.le_refl 2
      have htk : ∀ x : RK, ((E x).cells.drop 0).take (Try.prog.cellsOf 60) = [I (x.1.val : Nat), T x.2] := fun x => by rw [hc60]; rfl
      have hcl : ∀ (x : RK) (HH : List VB), ∀ c, c ∈ [I (x.1.val : Nat), T x.2] → svCell HH c = true := fun x HH c hc => by
        simp only [List.mem_cons, List.not_mem_nil, or_false] at hc
        rcases hc with rfl | rfl <;> rfl
      repeat' (first | (conv => whnf) | skip); (first | (refine VIf.mk (fun _ => ?_) (fun h => absurd (by omega) h)) | (refine VReq.mk (hle _) ?_; rw [htk]) | (refine VReq.mk ⟨by dsimp only; omega, by dsimp only; omega, rfl, by kernel_rfl, by omega⟩ ?_) | (refine VReq.mk ⟨by dsimp only; rw [hw]; omega, by dsimp only; rw [hw]; omega, rfl, by kernel_rfl, by omega⟩ ?_) | (refine VReq.mk (by kernel_rfl) ?_) | (refine kwp_draw (by kernel_rfl) (by kernel_rfl) (by simp [KH.ok]) ?_) | (refine krow_base hrow ?_) | (refine kget_some hg0 ?_) | (refine kget_some hg1 ?_))
      refine kcall_eq (args' := [E (zs.getD j rk0), E (zs.getD (j - 1) rk0)]) rfl (kcall_pure (hcmp _ _ _) (by simp [KH.ok]) ?_)
      (conv => whnf)
      refine VIf.mk (fun h3 => ?_) (fun h3 => ?_)
      · repeat' (first | (conv => whnf) | skip); (first | (refine VReq.mk (hle _) ?_; rw [htk]) | (refine VReq.mk (hcl _ _) ?_) | (refine VReq.mk hc60.symm ?_) | (refine VReq.mk (Nat.le_refl 2) ?_) | (refine VReq.mk ⟨by dsimp only; omega, by dsimp only; omega, rfl, by kernel_rfl, by omega⟩ ?_) | (refine VReq.mk ⟨by dsimp only; rw [hw]; omega, by dsimp only; rw [hw]; omega, rfl, by kernel_rfl, by omega⟩ ?_) | (refine VReq.mk ⟨by dsimp only; rw [hw]; omega, by dsimp only; rw [hw]; omega, rfl, by kernel_rfl, by rw [List.length_set]; omega⟩ ?_) | (refine VReq.mk rfl ?_) | (refine kwp_draw (by kernel_rfl) (by kernel_rfl) (by simp [KH.ok]) ?_) | (refine krow_base hrow ?_) | (refine kget_some hg0 ?_) | (refine kget_some hg1 ?_) | (refine kget_some (hg2 _) ?_) | (refine krow_base (List.getElem?_set_self (by simpa using hid)) ?_) | (refine kset_base (by simp) (by simpa using hid) ?_) | (refine KEnd.mk ?_))
        refine ⟨(j - 1, swpR zs j), ⟨(swp_permR hjp (by omega)).trans hq, by dsimp only; omega, srt_swapR has hz hjp hj (by omega) h3⟩, by dsimp only; omega, tsub_cons rfl (tsub_cons rfl (tsub_cons rfl (tsub_cons rfl (tsub_cons rfl (tsub_cons (congrArg I hw) tsub_nil))))), ?_⟩
        refine congrArg (fun b => KH.mk H.length b []) ?_
        rw [List.set_set, List.set_set]
        refine congrArg (fun b => H.set id b) ?_
        simp only [rowIR, swpR, List.map_set, hw, Nat.zero_add, Int.toNat_natCast]
        rfl
      · repeat' (first | (conv => whnf) | skip); (first | (refine KEnd.mk ?_))
        exact ⟨(i + 1, zs), ⟨hq, by dsimp only; omega, by dsimp only; omega, by dsimp only; omega, srt_doneR htr hz (.inr h3)⟩, by dsimp only; omega, tsub_cons rfl (tsub_cons rfl (tsub_cons rfl (tsub_cons rfl (tsub_cons (congrArg I (inc64 (by omega))) tsub_nil)))), rfl⟩
  · repeat' (first | (conv => whnf) | skip); (first | (refine VIf.mk (fun _ => by omega) (fun _ => ?_)) | (refine VReq.mk (by kernel_rfl) ?_) | (refine kdone_keep ?_) | (refine KEnd.mk ?_))
    refine ⟨ys, hp, ?_, rfl, by simp [KH.flat]⟩
    rcases hi3 with h | h
    · obtain rfl : i = xs.length := by omega
      exact hs
    · intro p q h1 h2 h3; omega
theorem pdq_specR {f : FuncId} {cmp : RK → RK → Int} (hcmp : CmpIsR Try.prog f cmp) (has : ∀ a b, cmp a b < 0 → ¬ cmp b a < 0) (htr : ∀ a b c, ¬ cmp a b < 0 → ¬ cmp b c < 0 → ¬ cmp a c < 0) (H : List VB) (id g : Nat) (xs : List RK) (hr : H[id]? = some (rowIR g xs)) (hl : xs.length ≤ 12) (lim : Int) :
    VCalls Try.prog 84 [.slc id g 0 xs.length, I 0, I xs.length, I lim, .fn f []] H (fun r H' => ∃ ys : List RK, ys.Perm xs ∧ SrtR cmp ys xs.length xs.length ∧ r = .tup [] ∧ H' = H.set id (rowIR g ys)) := by
  refine kcalls Try.func84 rfl (by kernel_rfl) rfl ?_
  intro R0 h0 hb
  have hw : IntKind.i64.wrap ((xs.length : Int) - 0) = (xs.length : Int) := by rw [IntWalk.i64_in _ (by omega)]; omega
  (conv => whnf)
  refine kwp_loop (S := Unit) (fun s => [(0, .slc id g 0 xs.length), (1, I 0), (2, I xs.length), (3, I lim), (4, .fn f []), (10, B true), (11, B true)]) (fun s => ⟨H.length, H, []⟩) (fun s => True) (fun s => 0) () trivial (tsub_cons rfl (tsub_cons rfl (tsub_cons rfl (tsub_cons rfl (tsub_cons rfl (tsub_cons rfl (tsub_cons rfl tsub_nil))))))) rfl (fun s hs => ⟨rfl, rfl⟩) ?_
  intro s hs
  repeat' (first | (conv => whnf) | skip); (first | (refine VIf.mk (fun _ => ?_) (fun h => absurd (by rw [hw]; omega) h)) | (refine KEnd.mk ?_))
  refine ⟨VCalls.mono (ins_specR hcmp has htr _ id g xs (flat_get_base hr) hl) fun r H' ⟨ys, hp, hsr, er, e⟩ => ⟨⟨H.length, H.set id (rowIR g ys), []⟩, by rw [e]; simp [KH.flat], by simp [KH.ok], rfl, ?_⟩⟩
  subst er
  repeat' (first | (conv => whnf) | skip); (first | (refine kdone_keep ?_) | (refine KEnd.mk ?_))
  exact ⟨ys, hp, hsr, rfl, by simp [KH.flat]⟩
theorem sort_specR {f : FuncId} {cmp : RK → RK → Int} (hcmp : CmpIsR Try.prog f cmp) (has : ∀ a b, cmp a b < 0 → ¬ cmp b a < 0) (htr : ∀ a b c, ¬ cmp a b < 0 → ¬ cmp b c < 0 → ¬ cmp a c < 0) (H : List VB) (id g : Nat) (xs : List RK) (hr : H[id]? = some (rowIR g xs)) (hl : xs.length ≤ 12) :
    VCalls Try.prog 67 [.slc id g 0 xs.length, .fn f []] H (fun r H' => ∃ ys : List RK, ys.Perm xs ∧ SrtR cmp ys xs.length xs.length ∧ r = .tup [] ∧ H' = H.set id (rowIR g ys)) := by
  refine kcalls Try.func67 rfl (by kernel_rfl) rfl ?_
  intro R0 h0 hb
  have hw : IntKind.u64.wrap (xs.length : Int) = (xs.length : Int) := IntWalk.u64_in _ (by omega)
  repeat' (first | (conv => whnf) | skip); (first | (refine krow_base hr ?_) | (refine VReq.mk (by kernel_rfl) ?_) | (refine kcall_some (p := fun r => ∃ n, r = I n) (by rw [hw]; exact len_spec xs.length (by omega) _) rfl ?_; rintro r ⟨n, rfl⟩) | (refine kdone_keep ?_))
  refine ⟨VCalls.mono (pdq_specR hcmp has htr _ id g xs (flat_get_base hr) hl n) fun r H' ⟨ys, hp, hsr, er, e⟩ => ⟨⟨H.length, H.set id (rowIR g ys), []⟩, by rw [e]; simp [KH.flat], by simp [KH.ok], rfl, ?_⟩⟩
  subst er
  repeat' (first | (conv => whnf) | skip); (first | (refine kdone_keep ?_) | (refine KEnd.mk ?_))
  exact ⟨ys, hp, hsr, rfl, by simp [KH.flat]⟩
end Go.Vm
