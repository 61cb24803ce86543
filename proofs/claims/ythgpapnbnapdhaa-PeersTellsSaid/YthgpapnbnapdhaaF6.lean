/- Layer 12: the plain laws; awake. -/
import Derived.Test.YthgpapnbnapdhaaF5
set_option linter.unusedVariables false
set_option linter.unusedSimpArgs false
namespace Go.Vm
open Go.Proofs
set_option maxRecDepth 100000
theorem cmpD_ge {a b : Int} : ¬ cmpD a b < 0 ↔ a ≤ b := by
  unfold cmpD; split
  · omega
  · split <;> omega
/-- What stands in the midst of the numbers: more than half are at least it, and of the greater ones there is no majority. -/
theorem matOk_count {l : List Int} {v : Int} (h : MatOk l v) (hne : l ≠ []) : v ∈ l ∧ l.length / 2 < l.countP (fun x => decide (v ≤ x)) ∧ l.countP (fun x => decide (v < x)) ≤ l.length / 2 := by
  rcases h with ⟨h, _⟩ | ⟨_, ys, hp, hs, hv⟩
  · exact absurd h hne
  · have hlen := hp.length_eq
    have hpos : 0 < l.length := List.length_pos_iff.2 hne
    have hk : l.length / 2 < ys.length := by omega
    have hget : ∀ i (hi : i < ys.length), ys.getD i 0 = ys[i] := fun i hi => by rw [List.getD_eq_getElem?_getD, List.getElem?_eq_getElem hi]; rfl
    rw [hget _ hk] at hv
    refine ⟨hp.mem_iff.1 (hv ▸ List.getElem_mem hk), ?_, ?_⟩
    · rw [← hp.countP_eq, ← List.take_append_drop (l.length / 2 + 1) ys, List.countP_append]
      have h1 : (ys.take (l.length / 2 + 1)).countP (fun x => decide (v ≤ x)) = (ys.take (l.length / 2 + 1)).length := by
        rw [List.countP_eq_length]
        intro x hx
        obtain ⟨i, hi, rfl⟩ := List.getElem_of_mem hx
        have hi' : i < l.length / 2 + 1 := by simp at hi; omega
        rw [List.getElem_take]
        rcases Nat.lt_or_ge i (l.length / 2) with h2 | h2
        · have := hs i (l.length / 2) h2 (by omega) (by omega)
          rw [hget _ hk, hget _ (by omega), cmpD_ge] at this
          simpa [hv] using this
        · have : i = l.length / 2 := by omega
          subst this
          simp [hv]
      rw [h1, List.length_take]
      omega
    · rw [← hp.countP_eq]
      conv => lhs; rw [← List.take_append_drop (l.length / 2) ys, List.countP_append]
      have h1 : (ys.drop (l.length / 2)).countP (fun x => decide (v < x)) = 0 := by
        rw [List.countP_eq_zero]
        intro x hx
        obtain ⟨i, hi, rfl⟩ := List.getElem_of_mem hx
        rw [List.getElem_drop]
        simp only [List.length_drop] at hi
        rcases Nat.eq_zero_or_pos i with h2 | h2
        · subst h2; simp [hv]
        · have := hs (l.length / 2) (l.length / 2 + i) (by omega) (by omega) (by omega)
          rw [hget _ hk, hget _ (by omega), cmpD_ge] at this
          simp [hv]; omega
      have h2 := List.countP_le_length (p := fun x => decide (v < x)) (l := ys.take (l.length / 2))
      rw [List.length_take] at h2
      omega
theorem match_awake {v : Int} (h : MatOk (hav 7 [5, 3, 4, 0, 0, 0, 0] (memA 7 7)) v) : v = 4 := by
  have e : hav 7 [5, 3, 4, 0, 0, 0, 0] (memA 7 7) = [5, 3, 4] := by decide +kernel
  rw [e] at h
  obtain ⟨h1, h2, h3⟩ := matOk_count h (by simp)
  simp at h1
  rcases h1 with rfl | rfl | rfl
  · revert h2; decide
  · revert h3; decide
  · rfl
theorem awake_spec (H : List VB) (nm : NoMap H) : VCalls Try.prog 13 [] H (fun r H' => r = B true ∧ H' = H) := by
  refine kcalls Try.func13 rfl (by kernel_rfl) rfl ?_
  intro R0 h0 hb
  have nm' : NoMap (KH.flat ⟨H.length, H, []⟩) := by simpa [KH.flat] using nm
  repeat' (first | (conv => whnf) | skip); (first | (refine kcall_bool (pquorum_spec 7 3 _) rfl (fun _ => ?_) (fun h => absurd h (by decide +kernel))) | (refine kcall_bool (pquorum_spec 7 1 _) rfl (fun h => absurd h (by decide +kernel)) (fun _ => ?_)) | (refine VReq.mk (by kernel_rfl) ?_) | (refine VReq.mk ⟨by kernel_rfl, by decide +kernel⟩ ?_) | (refine kcall_some (p := fun r => r = I 4) ((match_spec 7 5 3 4 0 0 0 0 _ nm').mono fun r H' ⟨v, hv, e1, e2⟩ => ⟨by rw [e1, match_awake hv], e2⟩) rfl ?_; rintro r rfl) | (refine kcall_pure (pchange_spec 7 15 _) rfl ?_) | (refine VIf.mk (fun _ => ?_) (fun h => absurd (by decide +kernel) h)) | (refine kdone_pure h0 (by simp) ⟨?_, rfl⟩))
  rfl
end Go.Vm
