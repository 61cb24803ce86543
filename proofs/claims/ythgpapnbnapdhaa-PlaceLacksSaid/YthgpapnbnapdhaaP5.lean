/- place.Nodes, Has, Others and the reference's: what they compute. -/
import Derived.Test.YthgpapnbnapdhaaP4
set_option linter.unusedVariables false
set_option linter.unusedSimpArgs false
namespace Go.Vm
open Go.Proofs
set_option maxRecDepth 100000
def ordZ (sum : ByteArray) (k : Nat) : List Int := (ordK sum k).map fun x => (x.1.val : Int)
theorem ordN_Z (sum : ByteArray) (k : Nat) : ordN sum k = (ordZ sum k).map I := by
  simp only [ordN, ordZ, List.map_map]; rfl
theorem ordZ_len (sum : ByteArray) (k : Nat) : (ordZ sum k).length = k := by rw [ordZ, List.length_map, ordK_len]
def ndsZ (sum : ByteArray) (k : Nat) : List Int := (ordZ sum k).take 3
theorem ndsZ_len (sum : ByteArray) (k : Nat) : (ndsZ sum k).length = min 3 k := by rw [ndsZ, List.length_take, ordZ_len]
theorem pNodes_spec (sum : ByteArray) (hs : sum.size ≤ 500000) (n : Int) (H : List VB) : VCalls Try.prog 39 [T sum, I n] H (fun r H' => r = .list 1 false ((ndsZ sum (upT n)).map I) ∧ H' = H) := by
  have hc3 : Try.prog.cellsOf 3 = 1 := by kernel_rfl
  have hk7 := upT_le n
  have hol := ordN_len sum (upT n)
  refine kcalls Try.func39 rfl (by kernel_rfl) rfl ?_
  intro R0 h0 hb
  have hmin : min 3 (((ordN sum (upT n)).length : Nat) : Int) = ((min 3 (upT n) : Nat) : Int) := by rw [hol]; omega
  have hres : (((ordN sum (upT n)).drop 0).take (((min 3 (((ordN sum (upT n)).length : Nat) : Int))).toNat - 0)) = (ndsZ sum (upT n)).map I := by
    rw [hmin, Int.toNat_natCast, List.drop_zero, Nat.sub_zero, ndsZ, List.map_take, ← ordN_Z]
    rcases Nat.lt_or_ge 3 (upT n) with h | h
    · rw [Nat.min_eq_left (by omega)]
    · rw [Nat.min_eq_right h, List.take_of_length_le (by omega), List.take_of_length_le (by omega)]
  repeat' (first | (conv => whnf) | skip); (first | (refine kcall_pure (pOrder_spec sum hs n _) rfl ?_) | (refine VReq.mk hc3.symm ?_) | (refine VReq.mk (Nat.le_refl _) ?_) | (refine VReq.mk ⟨by rw [hmin]; omega, by rw [hmin, hol]; omega⟩ ?_) | (rw [hres]; refine kdone_pure h0 (.list _ _ _ (fun x hx => ?_)) ⟨rfl, rfl⟩))
  obtain ⟨z, _, rfl⟩ := List.mem_map.1 hx; exact .v _
theorem rNodes_spec (sum : ByteArray) (hs : sum.size ≤ 500000) (n : Int) (H : List VB) : VCalls Try.prog 40 [T sum, I n] H (fun r H' => r = .list 1 false ((ndsZ sum (upT n)).map I) ∧ H' = H) := by
  have hc3 : Try.prog.cellsOf 3 = 1 := by kernel_rfl
  have hk7 := upT_le n
  have hol := ordN_len sum (upT n)
  refine kcalls Try.func40 rfl (by kernel_rfl) rfl ?_
  intro R0 h0 hb
  have hmin : min (((ordN sum (upT n)).length : Nat) : Int) 3 = ((min 3 (upT n) : Nat) : Int) := by rw [hol]; omega
  have hres : (((ordN sum (upT n)).drop 0).take (((min (((ordN sum (upT n)).length : Nat) : Int) 3)).toNat - 0)) = (ndsZ sum (upT n)).map I := by
    rw [hmin, Int.toNat_natCast, List.drop_zero, Nat.sub_zero, ndsZ, List.map_take, ← ordN_Z]
    rcases Nat.lt_or_ge 3 (upT n) with h | h
    · rw [Nat.min_eq_left (by omega)]
    · rw [Nat.min_eq_right h, List.take_of_length_le (by omega), List.take_of_length_le (by omega)]
  repeat' (first | (conv => whnf) | skip); (first | (refine kcall_pure (rOrder_spec sum hs n _) rfl ?_) | (refine VReq.mk hc3.symm ?_) | (refine VReq.mk (Nat.le_refl _) ?_) | (refine VReq.mk ⟨by rw [hmin]; omega, by rw [hmin, hol]; omega⟩ ?_) | (rw [hres]; refine kdone_pure h0 (.list _ _ _ (fun x hx => ?_)) ⟨rfl, rfl⟩))
  obtain ⟨z, _, rfl⟩ := List.mem_map.1 hx; exact .v _
theorem pNodesR_spec (sum : ByteArray) (hs : sum.size ≤ 500000) (n : Int) (H : List VB) : VCalls Try.prog 39 [T sum, I n] H (fun r H' => r = .slc (H.length + 1) (upT n) 0 (min 3 (upT n)) ∧ H' = H ++ [.dead, .row (upT n) 1 (ordN sum (upT n))]) := by
  have hc3 : Try.prog.cellsOf 3 = 1 := by kernel_rfl
  have hk7 := upT_le n
  have hol := ordN_len sum (upT n)
  refine kcalls Try.func39 rfl (by kernel_rfl) rfl ?_
  intro R0 h0 hb
  have hmin : min 3 ((upT n : Nat) : Int) = ((min 3 (upT n) : Nat) : Int) := by omega
  (conv => whnf)
  refine ⟨(pOrderR_spec sum hs n _).mono ?_⟩
  rintro r H' ⟨rfl, e⟩
  refine ⟨⟨H.length, H, [.dead, .row (upT n) 1 (ordN sum (upT n))]⟩, by rw [e]; simp [KH.flat], rfl, rfl, ?_⟩
  have hfl : (KH.flat ⟨H.length, H, []⟩).length + 1 = H.length + 1 := by simp [KH.flat]
  rw [hfl]
  clear e hfl
  repeat' (first | (conv => whnf) | skip); (first | (refine krow_top (j := 1) rfl rfl ?_) | (refine VReq.mk ⟨rfl, hc3.symm, by omega⟩ ?_) | (refine VReq.mk rfl ?_) | (refine VReq.mk (Nat.le_refl _) ?_) | (refine VReq.mk ⟨by rw [hmin]; omega, by rw [hmin]; omega⟩ ?_))
  rw [hmin]
  exact kdone_keep ⟨rfl, by simp [KH.flat]⟩
/-- Where a number stands in a list of numbers. -/
theorem index_spec (f : Bool) (xs : List Int) (v : Int) (hl : xs.length ≤ 100000) (H : List VB) : VCalls Try.prog 87 [.list 1 f (xs.map I), I v] H (fun r H' => (∃ m : Int, r = I m ∧ ((0 ≤ m ∧ v ∈ xs) ∨ (m < 0 ∧ v ∉ xs))) ∧ H' = H) := by
  have hc3 : Try.prog.cellsOf 3 = 1 := by kernel_rfl
  have hlm : (xs.map I).length = xs.length := List.length_map ..
  refine kcalls Try.func87 rfl (by kernel_rfl) rfl ?_
  intro R0 h0 hb
  (conv => whnf)
  refine kwp_loop (S := Nat) (fun i => [(0, .list 1 f (xs.map I)), (1, I v), (7, I ((xs.map I).length : Nat)), (8, I i)]) (fun i => ⟨H.length, H, []⟩) (fun i => i ≤ xs.length ∧ v ∉ xs.take i) (fun i => xs.length - i) 0 ⟨by omega, by simp⟩ (tsub_cons rfl (tsub_cons rfl (tsub_cons rfl (tsub_cons rfl tsub_nil)))) rfl (fun i hi => ⟨rfl, rfl⟩) ?_
  rintro i ⟨hi, hno⟩
  rcases Nat.lt_or_ge i xs.length with hlt | hge
  · have hg : (xs.map I)[((i : Nat) : Int).toNat]? = some (I (xs.getD i 0)) := by rw [Int.toNat_natCast]; exact getI hlt
    have hx : xs.getD i 0 = xs[i] := by rw [List.getD_eq_getElem?_getD, List.getElem?_eq_getElem hlt]; rfl
    repeat' (first | (conv => whnf) | skip); (first | (refine VIf.mk (fun _ => ?_) (fun h => absurd (by rw [hlm]; omega) h)) | (refine VReq.mk ⟨hc3.symm, by omega⟩ ?_) | (refine kget_some hg ?_) | (refine kget_some rfl ?_) | (refine VReq.mk (by kernel_rfl) ?_))
    (conv => whnf)
    refine VIf.mk (fun he => ?_) (fun hne => ?_)
    · (conv => whnf)
      exact kdone_pure h0 (.v _) ⟨⟨_, rfl, .inl ⟨by omega, by rw [he, hx]; exact List.getElem_mem hlt⟩⟩, rfl⟩
    · repeat' (first | (conv => whnf) | skip); (first | (refine KEnd.mk ?_))
      refine ⟨i + 1, ⟨hlt, ?_⟩, by omega, tsub_cons rfl (tsub_cons rfl (tsub_cons rfl (tsub_cons (congrArg I (inc64 (by omega))) tsub_nil))), rfl⟩
      rw [List.take_add_one, List.getElem?_eq_getElem hlt, Option.toList_some, List.mem_append, List.mem_singleton]
      rintro (h | h)
      · exact hno h
      · exact hne (by rw [hx]; exact h)
  · have : xs.take i = xs := List.take_of_length_le hge
    rw [this] at hno
    repeat' (first | (conv => whnf) | skip); (first | (refine VIf.mk (fun h => absurd h (by rw [hlm]; omega)) (fun _ => ?_)))
    exact kdone_pure h0 (.v _) ⟨⟨-1, rfl, .inr ⟨by decide, hno⟩⟩, rfl⟩
theorem contains_spec (f : Bool) (xs : List Int) (v : Int) (hl : xs.length ≤ 100000) (H : List VB) : VCalls Try.prog 70 [.list 1 f (xs.map I), I v] H (fun r H' => r = B (decide (v ∈ xs)) ∧ H' = H) := by
  refine kcalls Try.func70 rfl (by kernel_rfl) rfl ?_
  intro R0 h0 hb
  (conv => whnf)
  refine kcall_some (index_spec f xs v hl _) rfl ?_
  rintro r ⟨m, rfl, hm⟩
  repeat' (first | (conv => whnf) | skip); (first | (refine VIf.mk (fun h => ?_) (fun h => ?_)) | (refine kdone_pure h0 (.v _) ⟨?_, rfl⟩))
  · rw [decide_eq_true (hm.resolve_right fun h' => by omega).2]
  · rw [decide_eq_false (hm.resolve_left fun h' => by omega).2]
theorem pHas_spec (sum : ByteArray) (hs : sum.size ≤ 500000) (n v : Int) (H : List VB) : VCalls Try.prog 41 [T sum, I n, I v] H (fun r H' => r = B (decide (v ∈ ndsZ sum (upT n))) ∧ H' = H) := by
  have hl := ndsZ_len sum (upT n)
  refine kcalls Try.func41 rfl (by kernel_rfl) rfl ?_
  intro R0 h0 hb
  repeat' (first | (conv => whnf) | skip); (first | (refine kcall_pure (pNodes_spec sum hs n _) rfl ?_) | (refine kcall_bool (contains_spec false _ v (by omega) _) rfl (fun h => ?_) (fun h => ?_)) | (refine kdone_pure h0 (.v _) ⟨by rw [h], rfl⟩))
end Go.Vm
