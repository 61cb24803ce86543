/- Layer baileyref12: what the functions compute. -/
import Derived.Test.YthgpapnbnapdhaaF1
set_option linter.unusedVariables false
set_option linter.unusedSimpArgs false
namespace Go.Vm
open Go.Proofs
set_option maxRecDepth 100000
theorem inc64 {i : Nat} (h : i < 4611686018427387904) : IntKind.i64.wrap ((i : Int) + 1) = ((i + 1 : Nat) : Int) := by
  rw [IntWalk.i64_in _ (by omega)]; omega
/-- The members below n. -/
def mems (c : Int) (n : Nat) : List SV := ((List.range n).filter (tb c ·)).map fun i : Nat => I i
theorem mems_succ (c : Int) (n : Nat) : mems c (n + 1) = if tb c n = true then mems c n ++ [I n] else mems c n := by
  unfold mems
  rw [List.range_succ, List.filter_append, List.map_append]
  cases h : tb c n <;> simp [h]
theorem mems_len (c : Int) (n : Nat) : (mems c n).length ≤ n := by
  unfold mems
  rw [List.length_map]
  exact Nat.le_trans (List.length_filter_le _ _) (by simp)
theorem mems_bel (c : Int) (n k : Nat) : ∀ x, x ∈ mems c n → SV.Bel k x := fun x hx => by
  obtain ⟨i, _, rfl⟩ := List.mem_map.1 hx
  exact .v _
theorem mem7_nat {c : Int} {i : Nat} (h : i < 7) : mem7 c i = tb c i := by unfold mem7; rw [decide_eq_true (by omega)]; rfl
theorem mems_cnt (c : Int) : (mems c 7).length = cnt c := by
  have h : ∀ n, (mems c (n + 1)).length = (mems c n).length + (tb c n).toNat := fun n => by
    rw [mems_succ]; cases tb c n <;> simp
  rw [h, h, h, h, h, h, h]
  simp [mems, cnt]
theorem r12list_spec (c : Int) (H : List VB) : VCalls Try.prog 35 [I c] H (fun r H' => r = .list 1 false (mems c 7) ∧ H' = H) := by
  refine kcalls Try.func35 rfl (by kernel_rfl) rfl ?_
  intro R0 h0 hb
  conv => whnf
  refine kwp_nilrow 3 1 rfl rfl ?_
  refine kwp_loop (S := Nat) (fun i => [(0, I c), (3, .slc (H.length + 0) (mems c i).length 0 (mems c i).length), (4, I i)]) (fun i => ⟨H.length, H, [.row (mems c i).length 1 (mems c i)]⟩) (fun i => i ≤ 7) (fun i => 7 - i) 0 (by omega) (tsub_cons rfl (tsub_cons rfl (tsub_cons rfl tsub_nil))) rfl (fun i hi => ⟨rfl, rfl⟩) ?_
  intro i hi
  have hl := mems_len c i
  repeat' (first | (conv => whnf) | skip); (first | (refine VIf.mk (fun _ => ?_) (fun _ => ?_)) | (refine VReq.mk (by kernel_rfl) ?_) | (refine kcall_bool (r12has_spec _ _ _) rfl (fun _ => ?_) (fun _ => ?_)) | (refine kdone_row h0 rfl rfl ?_ ⟨?_, rfl⟩) | (refine KEnd.mk ?_) | (refine kb_append_top (n := 1) (ys := [I i]) rfl (by kernel_rfl) rfl rfl rfl (by simp only [List.length_cons, List.length_nil]; omega) (by simp [SV.cells, svCell, svValid, Value.oneCell']) ?_))
  · rename_i h1 h2
    have h3 := mems_succ c i
    rw [if_pos (by rw [← mem7_nat (by omega)]; exact h2)] at h3
    refine ⟨i + 1, by omega, by omega, tsub_cons rfl (tsub_cons ?_ (tsub_cons ?_ tsub_nil)), ?_⟩
    · show SV.slc (H.length + 0) ((mems c i).length + 1) 0 (mems c i ++ [I i]).length = _
      rw [h3, List.length_append]; rfl
    · exact congrArg I (inc64 (by omega))
    · rw [h3]; simp
  · rename_i h1 h2
    have h3 := mems_succ c i
    rw [if_neg (by rw [← mem7_nat (by omega), h2]; simp)] at h3
    refine ⟨i + 1, by omega, by omega, tsub_cons rfl (tsub_cons ?_ (tsub_cons ?_ tsub_nil)), ?_⟩
    · rw [h3]; rfl
    · exact congrArg I (inc64 (by omega))
    · rw [h3]
  · exact mems_bel c i _
  · rename_i h1
    have : i = 7 := by omega
    rw [this]
theorem r12count_spec (c : Int) (H : List VB) : VCalls Try.prog 30 [I c] H (fun r H' => r = I (cnt c) ∧ H' = H) := by
  refine kcalls Try.func30 rfl (by kernel_rfl) rfl ?_
  intro R0 h0 hb
  repeat' (first | (conv => whnf) | skip); (first | (refine VIf.mk (fun _ => ?_) (fun _ => ?_)) | (refine VReq.mk (by kernel_rfl) ?_) | (refine kcall_pure (r12list_spec _ _) rfl ?_) | (refine kdone_pure h0 (by simp) ⟨?_, rfl⟩))
  rw [mems_cnt]
/-- How many bits of the first n differ. -/
def dif (o c : Int) : Nat → Nat
  | 0 => 0
  | n + 1 => dif o c n + (tb o n ^^ tb c n).toNat
theorem dif_le (o c : Int) : ∀ n, dif o c n ≤ n
  | 0 => Nat.le_refl _
  | n + 1 => by
    have := dif_le o c n
    have h : ∀ b : Bool, b.toNat ≤ 1 := by decide
    have := h (tb o n ^^ tb c n)
    simp only [dif]; omega
theorem r12change_spec (o c : Int) (H : List VB) : VCalls Try.prog 15 [I o, I c] H (fun r H' => r = I (if chk o = 0 ∧ chk c = 0 ∧ dif o c 7 = 1 then 0 else 19) ∧ H' = H) := by
  refine kcalls Try.func15 rfl (by kernel_rfl) rfl ?_
  intro R0 h0 hb
  conv => whnf
  refine kwp_loop (S := Nat) (fun i => [(0, I o), (1, I c), (5, I (dif o c i)), (6, I i)]) (fun i => ⟨H.length, H, []⟩) (fun i => i ≤ 7) (fun i => 7 - i) 0 (by omega) (tsub_cons rfl (tsub_cons rfl (tsub_cons rfl (tsub_cons rfl tsub_nil)))) rfl (fun i hi => ⟨rfl, rfl⟩) ?_
  intro i hi
  have hd := dif_le o c i
  repeat' (first | (conv => whnf) | skip); (first | (refine VIf.mk (fun _ => ?_) (fun _ => ?_)) | (refine VReq.mk (by kernel_rfl) ?_) | (refine kcall_bool (r12has_spec _ _ _) rfl (fun _ => ?_) (fun _ => ?_)) | (refine kcall_pure (r12check_spec _ _) rfl ?_) | (refine kdone_pure h0 (by simp) ⟨?_, rfl⟩) | (refine KEnd.mk ?_))
  case refine_1.refine_1.refine_1 =>
    rename_i h1 h2 h3
    rw [mem7_nat (by omega)] at h2 h3
    exact ⟨i + 1, by omega, by omega, tsub_cons rfl (tsub_cons rfl (tsub_cons (by show I _ = I _; simp only [dif, h2, h3]; rfl) (tsub_cons (congrArg I (inc64 (by omega))) tsub_nil))), rfl⟩
  case refine_1.refine_1.refine_2 =>
    rename_i h1 h2 h3
    rw [mem7_nat (by omega)] at h2 h3
    exact ⟨i + 1, by omega, by omega, tsub_cons rfl (tsub_cons rfl (tsub_cons (by simp only [dif, h2, h3]; exact congrArg I (inc64 (by omega))) (tsub_cons (congrArg I (inc64 (by omega))) tsub_nil))), rfl⟩
  case refine_1.refine_2.refine_1 =>
    rename_i h1 h2 h3
    rw [mem7_nat (by omega)] at h2 h3
    exact ⟨i + 1, by omega, by omega, tsub_cons rfl (tsub_cons rfl (tsub_cons (by simp only [dif, h2, h3]; exact congrArg I (inc64 (by omega))) (tsub_cons (congrArg I (inc64 (by omega))) tsub_nil))), rfl⟩
  case refine_1.refine_2.refine_2 =>
    rename_i h1 h2 h3
    rw [mem7_nat (by omega)] at h2 h3
    exact ⟨i + 1, by omega, by omega, tsub_cons rfl (tsub_cons rfl (tsub_cons (by show I _ = I _; simp only [dif, h2, h3]; rfl) (tsub_cons (congrArg I (inc64 (by omega))) tsub_nil))), rfl⟩
  · rename_i h0 h1 h2 h3; obtain rfl : i = 7 := by omega
    rw [if_pos ⟨h1, h2, by omega⟩]
  · rename_i h0 h1 h2 h3; obtain rfl : i = 7 := by omega
    rw [if_neg (fun h => h3 (by omega))]
  · rename_i h3; rw [if_neg (fun h => h3 h.2.1)]
  · rename_i h3; rw [if_neg (fun h => h3 h.1)]
theorem mems_get {c : Int} {n k : Nat} (h : k < (mems c n).length) : ∃ j : Nat, j < n ∧ tb c j = true ∧ (mems c n)[k]? = some (I j) := by
  rw [List.getElem?_eq_getElem h]
  have hm := List.getElem_mem h
  obtain ⟨j, hj, e⟩ := List.mem_map.1 hm
  obtain ⟨h1, h2⟩ := List.mem_filter.1 hj
  exact ⟨j, by simpa using h1, h2, by rw [← e]⟩
/-- How many of a list a number has. -/
def cntIn (y : Int) : List SV → Nat
  | [] => 0
  | x :: xs => (match x with | .v (.int _ j) => (tb y j.toNat).toNat | _ => 0) + cntIn y xs
theorem cntIn_append (y : Int) : ∀ xs ys : List SV, cntIn y (xs ++ ys) = cntIn y xs + cntIn y ys
  | [], ys => by simp [cntIn]
  | x :: xs, ys => by simp only [List.cons_append, cntIn, cntIn_append y xs ys]; omega
theorem cntIn_le (y : Int) : ∀ xs : List SV, cntIn y xs ≤ xs.length
  | [] => Nat.le_refl _
  | x :: xs => by
    have := cntIn_le y xs
    have h : ∀ b : Bool, b.toNat ≤ 1 := by decide
    simp only [cntIn, List.length_cons]
    split
    · have := h (tb y ‹Int›.toNat); omega
    · omega
theorem cntIn_mems (c y : Int) : cntIn y (mems c 7) = (tb c 0 && tb y 0).toNat + (tb c 1 && tb y 1).toNat + (tb c 2 && tb y 2).toNat + (tb c 3 && tb y 3).toNat + (tb c 4 && tb y 4).toNat + (tb c 5 && tb y 5).toNat + (tb c 6 && tb y 6).toNat := by
  have h : ∀ n, cntIn y (mems c (n + 1)) = cntIn y (mems c n) + (tb c n && tb y n).toNat := fun n => by
    rw [mems_succ]
    cases tb c n
    · simp
    · simp [cntIn_append, cntIn]
  rw [h, h, h, h, h, h, h]
  simp [mems, cntIn]
theorem r12quorum_spec (c y : Int) (H : List VB) : VCalls Try.prog 31 [I c, I y] H (fun r H' => r = B (decide ((mems c 7).length < 2 * cntIn y (mems c 7))) ∧ H' = H) := by
  refine kcalls Try.func31 rfl (by kernel_rfl) rfl ?_
  intro R0 h0 hb
  have hl := mems_len c 7
  repeat' (first | (conv => whnf) | skip); (first | (refine kcall_pure (r12list_spec _ _) rfl ?_))
  refine kwp_loop (S := Nat) (fun i => [(0, I c), (1, I y), (5, I (cntIn y ((mems c 7).take i))), (6, .list 1 false (mems c 7)), (7, I i)]) (fun i => ⟨H.length, H, []⟩) (fun i => i ≤ (mems c 7).length) (fun i => (mems c 7).length - i) 0 (by omega) (tsub_cons rfl (tsub_cons rfl (tsub_cons rfl (tsub_cons rfl (tsub_cons rfl tsub_nil))))) rfl (fun i hi => ⟨rfl, rfl⟩) ?_
  intro i hi
  have hd := cntIn_le y ((mems c 7).take i)
  have hd2 : ((mems c 7).take i).length ≤ 7 := by simp; omega
  rcases Nat.lt_or_ge i (mems c 7).length with hlt | hge
  · obtain ⟨j, hj, hjt, hg⟩ := mems_get hlt
    have htk : (mems c 7).take (i + 1) = (mems c 7).take i ++ [I j] := by rw [List.take_add_one, hg]; rfl
    repeat' (first | (conv => whnf) | skip); (first | (refine VIf.mk (fun _ => ?_) (fun _ => by omega)) | (refine VIf.mk (fun _ => ?_) (fun _ => ?_)) | (refine VReq.mk (by kernel_rfl) ?_) | (refine VReq.mk ⟨by kernel_rfl, by omega⟩ ?_) | (refine kget_some hg ?_) | (refine kget_some rfl ?_) | (refine kcall_bool (r12has_spec _ _ _) rfl (fun _ => ?_) (fun _ => ?_)) | (refine kdone_pure h0 (by simp) ⟨?_, rfl⟩) | (refine KEnd.mk ?_))
    all_goals rename_i h1 h2
    all_goals rw [mem7_nat (by omega)] at h2
    · refine ⟨i + 1, hlt, by omega, tsub_cons rfl (tsub_cons rfl (tsub_cons ?_ (tsub_cons rfl (tsub_cons (congrArg I (inc64 (by omega))) tsub_nil)))), rfl⟩
      rw [htk, cntIn_append]
      simp only [cntIn, Int.toNat_natCast, h2]
      exact congrArg I (inc64 (by omega))
    · refine ⟨i + 1, hlt, by omega, tsub_cons rfl (tsub_cons rfl (tsub_cons ?_ (tsub_cons rfl (tsub_cons (congrArg I (inc64 (by omega))) tsub_nil)))), rfl⟩
      rw [htk, cntIn_append]
      simp only [cntIn, Int.toNat_natCast, h2]
      rfl
  · have : i = (mems c 7).length := by omega
    subst this
    repeat' (first | (conv => whnf) | skip); (first | (refine VIf.mk (fun _ => by omega) (fun _ => ?_)) | (refine VIf.mk (fun _ => ?_) (fun _ => ?_)) | (refine VReq.mk (by kernel_rfl) ?_) | (refine kdone_pure h0 (by simp) ⟨?_, rfl⟩) | (refine KEnd.mk ?_))
    all_goals rename_i h1 h2
    all_goals rw [List.take_length] at *
    all_goals rw [IntWalk.i64_in _ (by omega)] at h2
    · rw [decide_eq_true (by omega)]
    · rw [decide_eq_false (by omega)]
end Go.Vm
