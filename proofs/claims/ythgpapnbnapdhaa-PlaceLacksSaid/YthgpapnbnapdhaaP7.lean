/- Layer 29: the law PlaceOrders. -/
import Derived.Test.YthgpapnbnapdhaaP6
import Derived.Test.YthgpapnbnapdhaaFB
set_option linter.unusedVariables false
set_option linter.unusedSimpArgs false
namespace Go.Vm
open Go.Proofs
set_option maxRecDepth 100000
/-- The order of k nodes has each below k. -/
theorem ordZ_perm (sum : ByteArray) {k : Nat} (hk : k ≤ 8) : (ordZ sum k).Perm ((List.range k).map fun (i : Nat) => (i : Int)) := by
  have h := (ordK_perm sum k).map fun x : RK => (x.1.val : Int)
  rw [nodesK, List.map_map] at h
  refine h.trans (List.Perm.of_eq (List.map_congr_left fun i hi => ?_))
  have : i < 8 := by have := List.mem_range.1 hi; omega
  simp [Nat.mod_eq_of_lt this]
theorem ordZ_nodup (sum : ByteArray) {k : Nat} (hk : k ≤ 8) : (ordZ sum k).Nodup := by
  rw [(ordZ_perm sum hk).nodup_iff]
  refine List.nodup_iff_pairwise_ne.2 ?_
  rw [List.pairwise_map]
  exact (List.pairwise_lt_range (n := k)).imp fun h e => by omega
theorem ndsZ_nodup (sum : ByteArray) {k : Nat} (hk : k ≤ 8) : (ndsZ sum k).Nodup := (ordZ_nodup sum hk).sublist (List.take_sublist ..)
theorem nds5 (sum : ByteArray) : ∃ a b c : Int, ndsZ sum 5 = [a, b, c] ∧ a ≠ b ∧ b ≠ c ∧ othZ [a, b, c] a = [b, c] := by
  have hl := ndsZ_len sum 5
  have hd := ndsZ_nodup sum (k := 5) (by omega)
  match e : ndsZ sum 5, hl, hd with
  | [a, b, c], _, hd =>
    simp at hd
    refine ⟨a, b, c, rfl, hd.1.1, hd.2, ?_⟩
    simp [othZ, Ne.symm hd.1.1, Ne.symm hd.1.2]
theorem nds2 (sum : ByteArray) : ∃ a b : Int, ndsZ sum 2 = [a, b] := by
  have hl := ndsZ_len sum 2
  match e : ndsZ sum 2, hl with
  | [a, b], _ => exact ⟨a, b, rfl⟩
theorem awake29_spec (H : List VB) : VCalls Try.prog 36 [] H (fun r H' => r = B true ∧ H' = H) := by
  have hc3 : Try.prog.cellsOf 3 = 1 := by kernel_rfl
  obtain ⟨a, b, c, hn, hab, hbc, ho⟩ := nds5 ⟨#[115]⟩
  obtain ⟨d, e, hn2⟩ := nds2 ⟨#[115]⟩
  have h5 := pNodes_spec ⟨#[115]⟩ (by decide) 5
  have h2 := pNodes_spec ⟨#[115]⟩ (by decide) 2
  have h3 := pOthers_spec ⟨#[115]⟩ (by decide) 5 a
  rw [show upT 5 = 5 from rfl, hn] at h5 h3
  rw [show upT 2 = 2 from rfl, hn2] at h2
  rw [ho] at h3
  refine kcalls Try.func36 rfl (by kernel_rfl) rfl ?_
  intro R0 h0 hb
  (conv => whnf)
  refine kcall_pure (h5 _) rfl ?_
  repeat' (first | (conv => whnf) | skip); (first | (refine kcall_pure (h3 _) rfl ?_) | (refine kcall_pure (h2 _) rfl ?_) | (refine VIf.mk (fun _ => ?_) (fun h => absurd rfl h)) | (refine VIf.mk (fun h => absurd h (by first | exact hab | exact hbc)) (fun _ => ?_)) | (refine VReq.mk ⟨hc3.symm, by decide⟩ ?_) | (refine kget_some rfl ?_) | (refine kwp_draw (by kernel_rfl) (by kernel_rfl) rfl ?_) | (refine kdone_pure h0 (.v _) ⟨?_, rfl⟩) | (refine VReq.mk (by kernel_rfl) ?_))
  all_goals rfl
theorem placeOrders_spec (sum : ByteArray) (n nd : Int) : VCalls Try.prog 8 [T sum, I n, I nd] [] (fun r H' => r = B true) := by
  have ho := ordZ_len sum (upT n)
  have hn := ndsZ_len sum (upT n)
  have hk7 := upT_le n
  refine kcalls Try.func8 rfl (by kernel_rfl) rfl ?_
  intro R0 h0 hb
  (conv => whnf)
  refine VIf.mk (fun hbig => ?_) (fun hsm => ?_)
  · repeat' (first | (conv => whnf) | skip); (first | (refine kcall_pure (awake29_spec _) rfl ?_) | (refine kdone_pure h0 (.v _) rfl))
  · have hs : sum.size ≤ 500000 := by have : ¬ ((sum.size : Int) > 500) := hsm; omega
    have heO := equal_spec false false (ordZ sum (upT n)) (by omega) []
    have heN := equal_spec false false (ndsZ sum (upT n)) (by omega) []
    have heT := equal_spec false false (othZ (ndsZ sum (upT n)) nd) (by have := othZ_le (ndsZ sum (upT n)) nd; omega) []
    rw [← ordN_Z] at heO
    repeat' (first | (conv => whnf) | skip); (first | (refine kcall_pure (pOrder_spec sum hs n _) rfl ?_) | (refine kcall_pure (rOrder_spec sum hs n _) rfl ?_) | (refine kcall_pure heO rfl ?_) | (refine kcall_pure (pNodes_spec sum hs n _) rfl ?_) | (refine kcall_pure (rNodes_spec sum hs n _) rfl ?_) | (refine kcall_pure heN rfl ?_) | (refine kcall_bool (pHas_spec sum hs n nd _) rfl (fun _ => ?_) (fun _ => ?_)) | (refine kcall_bool (rHas_spec sum hs n nd _) rfl (fun _ => ?_) (fun _ => ?_)) | (refine kcall_pure (pOthers_spec sum hs n nd _) rfl ?_) | (refine kcall_pure (rOthers_spec sum hs n nd _) rfl ?_) | (refine kcall_pure heT rfl ?_) | (refine kcall_pure (awake29_spec _) rfl ?_) | (refine VIf.mk (fun _ => ?_) (fun h => absurd rfl h)) | (refine kdone_pure h0 (.v _) ?_))
    all_goals (try rfl)
    all_goals (rename_i g1 g2; rw [g1] at g2; cases g2)
end Go.Vm
