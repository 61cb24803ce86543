/- Layer 29: the law PlaceOnce. -/
import Derived.Test.YthgpapnbnapdhaaP8
set_option linter.unusedVariables false
set_option linter.unusedSimpArgs false
namespace Go.Vm
open Go.Proofs
set_option maxRecDepth 100000
def zlist (k : Nat) : List Int := (List.range k).map fun (i : Nat) => (i : Int)
theorem zlist_len (k : Nat) : (zlist k).length = k := by simp [zlist]
theorem zlist_get {k i : Nat} (h : i < k) : (zlist k).getD i 0 = (i : Int) := by
  rw [List.getD_eq_getElem?_getD, zlist, List.getElem?_map, List.getElem?_range h]; rfl
theorem zlist_lt (k : Nat) : (zlist k).Pairwise (· < ·) := by
  rw [zlist, List.pairwise_map]
  exact (List.pairwise_lt_range (n := k)).imp fun h => by omega
theorem zlist_is {k : Nat} {ys : List Int} (hp : ys.Perm (zlist k)) (hs : Srt cmpA ys k k) : ys = zlist k := by
  have hlen : ys.length = k := by rw [hp.length_eq, zlist_len]
  refine List.Perm.eq_of_pairwise (le := fun a b : Int => a ≤ b) (fun a b _ _ h1 h2 => by omega) ?_ ((zlist_lt k).imp fun h => by omega) hp
  rw [List.pairwise_iff_getElem]
  intro i j hi hj hij
  have h1 := hs i j hij (by omega) (by omega)
  rw [cmpA_lt, List.getD_eq_getElem?_getD, List.getD_eq_getElem?_getD, List.getElem?_eq_getElem hi, List.getElem?_eq_getElem hj, Option.getD_some, Option.getD_some] at h1
  omega
/-- How many numbers below i stand in a list. -/
def cntZ (l : List Int) (i : Nat) : Nat := ((zlist i).filter fun x => decide (x ∈ l)).length
theorem cntZ_succ (l : List Int) (i : Nat) : cntZ l (i + 1) = cntZ l i + if (i : Int) ∈ l then 1 else 0 := by
  simp only [cntZ, zlist, List.range_succ, List.map_append, List.filter_append, List.length_append]
  congr 1
  by_cases h : (i : Int) ∈ l
  · simp [h]
  · simp [h]
theorem cntZ_le (l : List Int) (i : Nat) : cntZ l i ≤ i := Nat.le_trans (List.length_filter_le ..) (Nat.le_of_eq (zlist_len i))
theorem cntZ_all {l : List Int} {k : Nat} (hn : l.Nodup) (hm : ∀ x, x ∈ l → x ∈ zlist k) : cntZ l k = l.length := by
  refine List.Perm.length_eq ?_
  refine (List.perm_ext_iff_of_nodup ?_ hn).2 fun x => ?_
  · exact (List.nodup_iff_pairwise_ne.2 ((zlist_lt k).imp fun h e => by omega)).sublist List.filter_sublist
  · simp only [List.mem_filter, decide_eq_true_eq]
    exact ⟨fun h => h.2, fun h => ⟨hm x h, h⟩⟩
theorem cnt_nds (sum : ByteArray) {k : Nat} (hk : k ≤ 8) : cntZ (ndsZ sum k) k = min 3 k := by
  rw [cntZ_all (ndsZ_nodup sum hk) (fun x hx => (ordZ_perm sum hk).mem_iff.1 (List.mem_of_mem_take hx)), ndsZ_len]
theorem placeOnce_spec (sum : ByteArray) (n : Int) : VCalls Try.prog 10 [T sum, I n] [] (fun r H' => r = B true) := by
  have hc3 : Try.prog.cellsOf 3 = 1 := by kernel_rfl
  obtain ⟨H, hH⟩ : ∃ H : List VB, H = [] := ⟨_, rfl⟩
  rw [← hH]
  by_cases hsm : sum.size ≤ 500 ∧ 1 ≤ n ∧ n ≤ 7
  · obtain ⟨k, rfl⟩ : ∃ k : Nat, n = k := ⟨n.toNat, by omega⟩
    obtain ⟨hs', hk1, hk7⟩ := hsm
    have hs : sum.size ≤ 500000 := by omega
    have hup : upT (k : Int) = k := by unfold upT; omega
    have hol := ordZ_len sum k
    have hOrd := pOrder_spec sum hs (k : Int)
    rw [hup, ordN_Z] at hOrd
    have hHas := fun v H => pHas_spec sum hs (k : Int) v H
    simp only [hup] at hHas
    have hcn := cnt_nds sum (k := k) (by omega)
    have hne : ordZ sum k ≠ [] := fun h => by rw [h] at hol; simp at hol; omega
    have hpz := ordZ_perm sum (k := k) (by omega)
    generalize ndsZ sum k = l at *
    refine kcalls Try.func10 rfl (by kernel_rfl) rfl ?_
    intro R0 h0 hb
    repeat' (first | (conv => whnf) | skip); (first | (refine VIf.mk (fun h => absurd h (by omega)) (fun _ => ?_)) | (refine kcall_pure (hOrd _) rfl ?_))
    (conv => whnf)
    have hclo : ∀ H : List VB, VCalls Try.prog 49 [.list 1 false ((ordZ sum k).map I)] H (fun r H' => r = .slc H.length 0 0 (ordZ sum k).length ∧ H' = H ++ [rowI 0 (ordZ sum k)]) := by
      match e : ordZ sum k, hne with
      | x :: l, _ => exact clone_spec x l (by rw [← e]; omega)
    refine ⟨(hclo _).mono ?_⟩
    rintro r H' ⟨er, e⟩
    have er' : r = .slc (H.length + 0) 0 0 (ordZ sum k).length := er.trans (congrArg (fun q => SV.slc q 0 0 (ordZ sum k).length) (by simp [KH.flat]))
    subst er'
    clear er
    refine ⟨⟨H.length, H, [rowI 0 (ordZ sum k)]⟩, by rw [e]; simp [KH.flat], rfl, rfl, ?_⟩
    clear e
    (conv => whnf)
    refine ⟨VCalls.mono (sortO_spec (KH.flat ⟨H.length, H, [rowI 0 (ordZ sum k)]⟩) (H.length + 0) 0 (ordZ sum k) (flat_get_top (n0 := H.length) rfl 0) (by omega)) ?_⟩
    rintro r H' ⟨ys, hp, hsr, rfl, e⟩
    rw [hol] at hsr ⊢
    obtain rfl := zlist_is (hp.trans hpz) hsr
    have hzl := zlist_len k
    have hzm : ((zlist k).map I).length = k := by rw [List.length_map, hzl]
    refine ⟨⟨H.length, H, [.row 0 1 ((zlist k).map I)]⟩, by rw [e]; exact (flat_set_top (n0 := H.length) (top := [rowI 0 (ordZ sum k)]) rfl 0 _).symm, rfl, rfl, ?_⟩
    clear e hp hsr
    repeat' (first | (conv => whnf) | skip); (first | (refine krow_top (j := 0) rfl rfl ?_) | (refine VReq.mk rfl ?_))
    (conv => whnf)
    refine kwp_loop (S := Nat) (fun i => [(0, T sum), (1, I k), (5, .slc (H.length + 0) 0 0 k), (28, .slc (H.length + 0) 0 0 k), (29, I k), (30, I i)]) (fun i => ⟨H.length, H, [.row 0 1 ((zlist k).map I)]⟩) (fun i => i ≤ k) (fun i => k - i) 0 (by omega) (tsub_cons rfl (tsub_cons rfl (tsub_cons rfl (tsub_cons rfl (tsub_cons rfl (tsub_cons rfl tsub_nil)))))) rfl (fun i hi => ⟨rfl, rfl⟩) ?_
    intro i hi
    rcases Nat.lt_or_ge i k with hlt | hge
    · have hg : ((zlist k).map I)[0 + ((i : Nat) : Int).toNat]? = some (I (i : Nat)) := by rw [Nat.zero_add, Int.toNat_natCast, getI (by omega), zlist_get hlt]
      repeat' (first | (conv => whnf) | skip); (first | (refine VIf.mk (fun _ => ?_) (fun h => absurd (by omega) h)) | (refine VIf.mk (fun _ => ?_) (fun h => absurd rfl h)) | (refine krow_top (j := 0) rfl rfl ?_) | (refine VReq.mk ⟨by omega, by omega, rfl, hc3.symm, by omega⟩ ?_) | (refine kget_some hg ?_) | (refine kget_some rfl ?_) | (refine KEnd.mk ?_) | (refine VReq.mk rfl ?_))
      exact ⟨i + 1, hlt, by omega, tsub_cons rfl (tsub_cons rfl (tsub_cons rfl (tsub_cons rfl (tsub_cons rfl (tsub_cons (congrArg I (inc64 (by omega))) tsub_nil))))), rfl⟩
    · obtain rfl : i = k := by omega
      repeat' (first | (conv => whnf) | skip); (first | (refine VIf.mk (fun h => absurd h (by omega)) (fun _ => ?_)))
      (conv => whnf)
      refine kwp_loop (S := Nat) (fun j => [(0, T sum), (1, I i), (5, .slc (H.length + 0) 0 0 i), (8, I (cntZ l j : Nat)), (39, I i), (40, I j)]) (fun j => ⟨H.length, H, [.row 0 1 ((zlist i).map I)]⟩) (fun j => j ≤ i) (fun j => i - j) 0 (by omega) (tsub_cons rfl (tsub_cons rfl (tsub_cons rfl (tsub_cons rfl (tsub_cons rfl (tsub_cons rfl tsub_nil)))))) rfl (fun j hj => ⟨rfl, rfl⟩) ?_
      intro j hj
      have hcl := cntZ_le l j
      have hcs := cntZ_succ l j
      rcases Nat.lt_or_ge j i with hlt | hge2
      · repeat' (first | (conv => whnf) | skip); (first | (refine VIf.mk (fun _ => ?_) (fun h => absurd (by omega) h)) | (refine kcall_bool (hHas _ _) rfl (fun _ => ?_) (fun _ => ?_)) | (refine KEnd.mk ?_))
        · rename_i hm
          rw [if_pos (of_decide_eq_true hm)] at hcs
          exact ⟨j + 1, hlt, by omega, tsub_cons rfl (tsub_cons rfl (tsub_cons rfl (tsub_cons (by rw [hcs]; exact congrArg I (inc64 (by omega))) (tsub_cons rfl (tsub_cons (congrArg I (inc64 (by omega))) tsub_nil))))), rfl⟩
        · rename_i hm
          rw [if_neg (of_decide_eq_false hm)] at hcs
          exact ⟨j + 1, hlt, by omega, tsub_cons rfl (tsub_cons rfl (tsub_cons rfl (tsub_cons (by rw [hcs]; rfl) (tsub_cons rfl (tsub_cons (congrArg I (inc64 (by omega))) tsub_nil))))), rfl⟩
      · obtain rfl : j = i := by omega
        repeat' (first | (conv => whnf) | skip); (first | (refine VIf.mk (fun h => absurd h (by omega)) (fun _ => ?_)) | (refine VIf.mk (fun _ => ?_) (fun h => absurd (by first | rfl | omega) h)) | (refine krow_top (j := 0) rfl rfl ?_) | (refine kcall_pure (awake29_spec _) rfl ?_) | (refine kdone_pure h0 (.v _) rfl) | (refine VReq.mk rfl ?_))
  · refine kcalls Try.func10 rfl (by kernel_rfl) rfl ?_
    intro R0 h0 hb
    repeat' (first | (conv => whnf) | skip); (first | (refine VIf.mk (fun h => ?_) (fun h => absurd h (by omega))) | (refine VIf.mk (fun _ => ?_) (fun _ => ?_)) | (refine kcall_pure (awake29_spec _) rfl ?_) | (refine kdone_pure h0 (.v _) rfl))
end Go.Vm
