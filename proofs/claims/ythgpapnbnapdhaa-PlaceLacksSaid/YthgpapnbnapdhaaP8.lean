/- Layer 29: slices.Sort and slices.Clone of a few numbers. -/
import Derived.Test.YthgpapnbnapdhaaP7
set_option linter.unusedVariables false
set_option linter.unusedSimpArgs false
namespace Go.Vm
open Go.Proofs
set_option maxRecDepth 100000
def cmpA (a b : Int) : Int := a - b
theorem cmpA_lt {a b : Int} : cmpA a b < 0 ↔ a < b := by unfold cmpA; omega
theorem cmpA_as : ∀ a b, cmpA a b < 0 → ¬ cmpA b a < 0 := by intro a b; unfold cmpA; omega
theorem cmpA_tr : ∀ a b c, ¬ cmpA a b < 0 → ¬ cmpA b c < 0 → ¬ cmpA a c < 0 := by intro a b c; unfold cmpA; omega
theorem isNaN_spec (x : Int) (H : List VB) : VCalls Try.prog 129 [I x] H (fun r H' => r = B false ∧ H' = H) := by
  refine kcalls Try.func129 rfl (by kernel_rfl) rfl ?_
  intro R0 h0 hb
  repeat' (first | (conv => whnf) | skip); (first | (refine VIf.mk (fun _ => ?_) (fun h => absurd rfl h)) | (refine kdone_pure h0 (.v _) ⟨rfl, rfl⟩))
theorem less_spec (x y : Int) (H : List VB) : VCalls Try.prog 95 [I x, I y] H (fun r H' => r = B (decide (x < y)) ∧ H' = H) := by
  refine kcalls Try.func95 rfl (by kernel_rfl) rfl ?_
  intro R0 h0 hb
  repeat' (first | (conv => whnf) | skip); (first | (refine kcall_pure (isNaN_spec _ _) rfl ?_) | (refine VIf.mk (fun h => ?_) (fun h => ?_)) | (refine kdone_pure h0 (.v _) ⟨?_, rfl⟩))
  · rw [decide_eq_true h]
  · rw [decide_eq_false h]
theorem insO_spec (H : List VB) (id g : Nat) (xs : List Int) (hr : H[id]? = some (rowI g xs)) (hl : xs.length ≤ 12) :
    VCalls Try.prog 89 [.slc id g 0 xs.length, I 0, I xs.length] H (fun r H' => ∃ ys : List Int, ys.Perm xs ∧ Srt cmpA ys xs.length xs.length ∧ r = .tup [] ∧ H' = H.set id (rowI g ys)) := by
  refine kcalls Try.func89 rfl (by kernel_rfl) rfl ?_
  intro R0 h0 hb
  have hid : id < H.length := lt_of_some hr
  (conv => whnf)
  refine kwp_loop (S := Nat × List Int) (fun s => [(0, .slc id g 0 xs.length), (1, I 0), (2, I xs.length), (6, I s.1)]) (fun s => ⟨H.length, H.set id (rowI g s.2), []⟩) (fun s => s.2.Perm xs ∧ 1 ≤ s.1 ∧ s.1 ≤ 13 ∧ (s.1 ≤ xs.length ∨ xs.length ≤ 1) ∧ Srt cmpA s.2 s.1 s.1) (fun s => 13 - s.1) (1, xs) ⟨List.Perm.refl _, by dsimp only; omega, by dsimp only; omega, by dsimp only; omega, fun p q h1 h2 h3 => by dsimp only at *; omega⟩ (tsub_cons rfl (tsub_cons rfl (tsub_cons rfl (tsub_cons rfl tsub_nil)))) (by simp [set_same_id hr]) (fun s hs => ⟨by simp [KH.ok], rfl⟩) ?_
  rintro ⟨i, ys⟩ ⟨hp, hi1, hi2, hi3, hs⟩
  have hlen := hp.length_eq
  simp only at hp hi1 hi2 hi3 hs hlen
  rcases Nat.lt_or_ge i xs.length with hlt | hge
  · repeat' (first | (conv => whnf) | skip); (first | (refine VIf.mk (fun _ => ?_) (fun _ => by omega)) | (refine VReq.mk (by kernel_rfl) ?_) | (refine VReq.mk ⟨by kernel_rfl, by omega⟩ ?_))
    (conv => whnf)
    refine kwp_loop (S := Nat × List Int) (fun s => [(0, .slc id g 0 xs.length), (1, I 0), (2, I xs.length), (6, I i), (7, I s.1)]) (fun s => ⟨H.length, H.set id (rowI g s.2), []⟩) (fun s => s.2.Perm xs ∧ s.1 ≤ i ∧ Srt cmpA s.2 i s.1) (fun s => s.1) (i, ys) ⟨hp, Nat.le_refl _, hs⟩ (tsub_cons rfl (tsub_cons rfl (tsub_cons rfl (tsub_cons rfl (tsub_cons rfl tsub_nil))))) rfl (fun s hs => ⟨by simp [KH.ok], rfl⟩) ?_
    rintro ⟨j, zs⟩ ⟨hq, hj, hz⟩
    simp only at hq hj hz
    have hlz := hq.length_eq
    have hrow : (H.set id (rowI g zs))[id]? = some (.row g 1 (zs.map I)) := by simp [hid, rowI]
    have hmap : (zs.map I).length = xs.length := by simp [hlz]
    rcases Nat.eq_zero_or_pos j with hj0 | hjp
    · subst hj0
      repeat' (first | (conv => whnf) | skip); (first | (refine VIf.mk (fun _ => by omega) (fun _ => ?_)) | (refine VReq.mk (by kernel_rfl) ?_) | (refine kwp_draw (by kernel_rfl) (by kernel_rfl) (by simp [KH.ok]) ?_) | (refine krow_base hrow ?_) | (refine KEnd.mk ?_))
      exact ⟨(i + 1, zs), ⟨hq, by dsimp only; omega, by dsimp only; omega, by dsimp only; omega, srt_done cmpA_tr hz (.inl rfl)⟩, by dsimp only; omega, tsub_cons rfl (tsub_cons rfl (tsub_cons rfl (tsub_cons (congrArg I (inc64 (by omega))) tsub_nil))), rfl⟩
    · have hw : IntKind.i64.wrap ((j : Int) - 1) = ((j - 1 : Nat) : Int) := by rw [IntWalk.i64_in _ (by omega)]; omega
      have hg0 : (zs.map I)[0 + ((j : Nat) : Int).toNat]? = some (I (zs.getD j 0)) := by rw [Nat.zero_add, Int.toNat_natCast]; exact getI (by omega)
      have hg1 : (zs.map I)[0 + (IntKind.i64.wrap ((j : Int) - 1)).toNat]? = some (I (zs.getD (j - 1) 0)) := by rw [hw, Nat.zero_add, Int.toNat_natCast]; exact getI (by omega)
      have hg2 : ∀ v, ((zs.map I).set (0 + ((j : Nat) : Int).toNat) v)[0 + (IntKind.i64.wrap ((j : Int) - 1)).toNat]? = some (I (zs.getD (j - 1) 0)) := fun v => by
        rw [hw, Nat.zero_add, Nat.zero_add, Int.toNat_natCast, Int.toNat_natCast, List.getElem?_set_ne (by omega)]; exact getI (by omega)
      repeat' (first | (conv => whnf) | skip); (first | (refine VIf.mk (fun _ => ?_) (fun _ => by omega)) | (refine VReq.mk (by kernel_rfl) ?_) | (refine VReq.mk ⟨by dsimp only; rw [hw]; omega, by dsimp only; rw [hw]; omega, rfl, by kernel_rfl, by rw [List.length_set]; omega⟩ ?_) | (refine VReq.mk (by show _ ≤ _; exact Nat.le_refl 1) ?_) | (refine kget_some (hg2 _) ?_) | (refine VReq.mk ⟨by dsimp only; omega, by dsimp only; omega, rfl, by kernel_rfl, by omega⟩ ?_) | (refine VReq.mk ⟨by dsimp only; rw [hw]; omega, by dsimp only; rw [hw]; omega, rfl, by kernel_rfl, by omega⟩ ?_) | (refine kwp_draw (by kernel_rfl) (by kernel_rfl) (by simp [KH.ok]) ?_) | (refine krow_base hrow ?_) | (refine kget_some hg0 ?_) | (refine kget_some hg1 ?_) | (refine kget_some rfl ?_) | (refine kcall_bool (less_spec _ _ _) (by simp [KH.ok]) (fun _ => ?_) (fun _ => ?_)) | (refine krow_base (List.getElem?_set_self (by simpa using hid)) ?_) | (refine kset_base (by simp) (by simpa using hid) ?_) | (refine KEnd.mk ?_))
      · rename_i h1 h3
        have h3 := cmpA_lt.2 (of_decide_eq_true h3)
        refine ⟨(j - 1, swp zs j), ⟨(swp_perm hjp (by omega)).trans hq, by dsimp only; omega, srt_swap cmpA_as hz hjp hj (by omega) h3⟩, by dsimp only; omega, tsub_cons rfl (tsub_cons rfl (tsub_cons rfl (tsub_cons rfl (tsub_cons (congrArg I hw) tsub_nil)))), ?_⟩
        refine congrArg (fun b => KH.mk H.length b []) ?_
        rw [List.set_set, List.set_set]
        refine congrArg (fun b => H.set id b) ?_
        simp only [rowI, swp, List.map_set, hw, Nat.zero_add, Int.toNat_natCast]
        rfl
      · rename_i h1 h3
        have h3 := fun h => (of_decide_eq_false h3) (cmpA_lt.1 h)
        exact ⟨(i + 1, zs), ⟨hq, by dsimp only; omega, by dsimp only; omega, by dsimp only; omega, srt_done cmpA_tr hz (.inr h3)⟩, by dsimp only; omega, tsub_cons rfl (tsub_cons rfl (tsub_cons rfl (tsub_cons (congrArg I (inc64 (by omega))) tsub_nil))), rfl⟩
  · repeat' (first | (conv => whnf) | skip); (first | (refine VIf.mk (fun _ => by omega) (fun _ => ?_)) | (refine VReq.mk (by kernel_rfl) ?_) | (refine kdone_keep ?_) | (refine KEnd.mk ?_))
    refine ⟨ys, hp, ?_, rfl, by simp [KH.flat]⟩
    rcases hi3 with h | h
    · obtain rfl : i = xs.length := by omega
      exact hs
    · intro p q h1 h2 h3; omega
theorem pdqO_spec (H : List VB) (id g : Nat) (xs : List Int) (hr : H[id]? = some (rowI g xs)) (hl : xs.length ≤ 12) (lim : Int) :
    VCalls Try.prog 74 [.slc id g 0 xs.length, I 0, I xs.length, I lim] H (fun r H' => ∃ ys : List Int, ys.Perm xs ∧ Srt cmpA ys xs.length xs.length ∧ r = .tup [] ∧ H' = H.set id (rowI g ys)) := by
  refine kcalls Try.func74 rfl (by kernel_rfl) rfl ?_
  intro R0 h0 hb
  have hw : IntKind.i64.wrap ((xs.length : Int) - 0) = (xs.length : Int) := by rw [IntWalk.i64_in _ (by omega)]; omega
  (conv => whnf)
  refine kwp_loop (S := Unit) (fun s => [(0, .slc id g 0 xs.length), (1, I 0), (2, I xs.length), (3, I lim), (8, B true), (9, B true)]) (fun s => ⟨H.length, H, []⟩) (fun s => True) (fun s => 0) () trivial (tsub_cons rfl (tsub_cons rfl (tsub_cons rfl (tsub_cons rfl (tsub_cons rfl (tsub_cons rfl tsub_nil)))))) rfl (fun s hs => ⟨rfl, rfl⟩) ?_
  intro s hs
  repeat' (first | (conv => whnf) | skip); (first | (refine VIf.mk (fun _ => ?_) (fun h => absurd (by rw [hw]; omega) h)) | (refine KEnd.mk ?_))
  refine ⟨VCalls.mono (insO_spec _ id g xs (flat_get_base hr) hl) fun r H' ⟨ys, hp, hsr, er, e⟩ => ⟨⟨H.length, H.set id (rowI g ys), []⟩, by rw [e]; simp [KH.flat], by simp [KH.ok], rfl, ?_⟩⟩
  subst er
  repeat' (first | (conv => whnf) | skip); (first | (refine kdone_keep ?_) | (refine KEnd.mk ?_))
  exact ⟨ys, hp, hsr, rfl, by simp [KH.flat]⟩
theorem sortO_spec (H : List VB) (id g : Nat) (xs : List Int) (hr : H[id]? = some (rowI g xs)) (hl : xs.length ≤ 12) :
    VCalls Try.prog 50 [.slc id g 0 xs.length] H (fun r H' => ∃ ys : List Int, ys.Perm xs ∧ Srt cmpA ys xs.length xs.length ∧ r = .tup [] ∧ H' = H.set id (rowI g ys)) := by
  refine kcalls Try.func50 rfl (by kernel_rfl) rfl ?_
  intro R0 h0 hb
  have hw : IntKind.u64.wrap (xs.length : Int) = (xs.length : Int) := IntWalk.u64_in _ (by omega)
  repeat' (first | (conv => whnf) | skip); (first | (refine krow_base hr ?_) | (refine VReq.mk (by kernel_rfl) ?_) | (refine kcall_some (p := fun r => ∃ n, r = I n) (by rw [hw]; exact len_spec xs.length (by omega) _) rfl ?_; rintro r ⟨n, rfl⟩) | (refine kdone_keep ?_))
  refine ⟨VCalls.mono (pdqO_spec _ id g xs (flat_get_base hr) hl n) fun r H' ⟨ys, hp, hsr, er, e⟩ => ⟨⟨H.length, H.set id (rowI g ys), []⟩, by rw [e]; simp [KH.flat], by simp [KH.ok], rfl, ?_⟩⟩
  subst er
  repeat' (first | (conv => whnf) | skip); (first | (refine kdone_keep ?_) | (refine KEnd.mk ?_))
  exact ⟨ys, hp, hsr, rfl, by simp [KH.flat]⟩
/-- A copy of a list of numbers. -/
theorem clone_spec (x : Int) (l : List Int) (hl : (x :: l).length ≤ 1000) (H : List VB) : VCalls Try.prog 49 [.list 1 false ((x :: l).map I)] H (fun r H' => r = .slc H.length 0 0 (x :: l).length ∧ H' = H ++ [rowI 0 (x :: l)]) := by
  have hc3 : Try.prog.cellsOf 3 = 1 := by kernel_rfl
  have hlm : ((x :: l).map I).length = (x :: l).length := List.length_map ..
  refine kcalls Try.func49 rfl (by kernel_rfl) rfl ?_
  intro R0 h0 hb
  repeat' (first | (conv => whnf) | skip); (first | (refine kb_append_list (n := 1) (xs := []) (ys := (x :: l).map I) rfl (by kernel_rfl) (vsrc_list hc3) (by rw [hlm]; simp only [List.length_nil]; omega) (.inl rfl) ?_))
  (conv => whnf)
  refine kdone_keep ⟨?_, ?_⟩
  · rw [List.nil_append, hlm]; rfl
  · rfl
end Go.Vm
