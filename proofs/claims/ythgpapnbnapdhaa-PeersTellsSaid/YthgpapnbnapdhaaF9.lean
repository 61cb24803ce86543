/- baileyref12.Match: the walk. -/
import Derived.Test.YthgpapnbnapdhaaF8
set_option linter.unusedVariables false
set_option linter.unusedSimpArgs false
namespace Go.Vm
open Go.Proofs
set_option maxRecDepth 100000
theorem m7get {m0 m1 m2 m3 m4 m5 m6 : Int} {j : Nat} (hj : j < 7) : (([I m0, I m1, I m2, I m3, I m4, I m5, I m6] : List SV).drop (0 + ((j : Nat) : Int).toNat * Try.prog.cellsOf 3))[0]? = some (I ([m0, m1, m2, m3, m4, m5, m6].getD j 0)) := by
  have hc3 : Try.prog.cellsOf 3 = 1 := by kernel_rfl
  rw [hc3, Int.toNat_natCast]
  rcases j with _ | _ | _ | _ | _ | _ | _ | j <;> first | rfl | omega
theorem cnt_take (p : Int → Bool) {L : List Int} {k : Nat} (h : k < L.length) : (L.take (k + 1)).countP p = (L.take k).countP p + (if p (L.getD k 0) = true then 1 else 0) := by
  rw [List.take_add_one, List.getElem?_eq_getElem h, Option.toList_some, List.countP_append, List.getD_eq_getElem?_getD, List.getElem?_eq_getElem h]
  simp [List.countP_cons]
theorem r12match_spec (c m0 m1 m2 m3 m4 m5 m6 : Int) (H : List VB) : VCalls Try.prog 12 [I c, .agg [I m0, I m1, I m2, I m3, I m4, I m5, I m6]] H (fun r H' => r = I (refRun (hav c [m0, m1, m2, m3, m4, m5, m6] (memA c 7)) (mems c 7).length).1 ∧ H' = H) := by
  refine kcalls Try.func12 rfl (by kernel_rfl) rfl ?_
  intro R0 h0 hb
  have hL := hav_len c [m0, m1, m2, m3, m4, m5, m6]
  have hl7 := mems_len c 7
  repeat' (first | (conv => whnf) | skip); (first | (refine VReq.mk (by kernel_rfl) ?_) | (refine kcall_pure (r12list_spec _ _) rfl ?_))
  (conv => whnf)
  refine kwp_loop (S := Nat) (fun i => [(0, I c), (3, .ptr (H.length + 0) 0), (5, .list 1 false (mems c 7)), (6, I (refRun (hav c [m0, m1, m2, m3, m4, m5, m6] (memA c 7)) i).1), (7, B (refRun (hav c [m0, m1, m2, m3, m4, m5, m6] (memA c 7)) i).2), (8, I i)]) (fun i => ⟨H.length, H, [.box [I m0, I m1, I m2, I m3, I m4, I m5, I m6]]⟩) (fun i => i ≤ (mems c 7).length) (fun i => (mems c 7).length - i) 0 (by omega) (tsub_cons rfl (tsub_cons rfl (tsub_cons rfl (tsub_cons rfl (tsub_cons rfl (tsub_cons rfl tsub_nil)))))) rfl (fun i hi => ⟨rfl, rfl⟩) ?_
  intro i hi
  obtain ⟨⟨b1, b2⟩, hrr⟩ : ∃ b, refRun (hav c [m0, m1, m2, m3, m4, m5, m6] (memA c 7)) i = b := ⟨_, rfl⟩
  rw [hrr]
  rcases Nat.lt_or_ge i (mems c 7).length with hlt | hge
  · obtain ⟨j, hj, hg, hv⟩ := mem_at (ms := [m0, m1, m2, m3, m4, m5, m6]) hlt
    have hsucc := refRun_succ (L := (hav c [m0, m1, m2, m3, m4, m5, m6] (memA c 7))) (i := i) (by omega)
    rw [hrr] at hsucc
    cases b2 with
    | false =>
      repeat' (first | (conv => whnf) | skip); (first | (refine VIf.mk (fun _ => ?_) (fun _ => by omega)) | (refine VReq.mk (by kernel_rfl) ?_))
      (conv => whnf)
      refine kwp_loop (S := Nat) (fun k => [(0, I c), (3, .ptr (H.length + 0) 0), (5, .list 1 false (mems c 7)), (6, I b1), (7, B false), (8, I i), (9, I (((hav c [m0, m1, m2, m3, m4, m5, m6] (memA c 7)).take k).countP fun y => decide ((hav c [m0, m1, m2, m3, m4, m5, m6] (memA c 7)).getD i 0 ≤ y))), (10, I k)]) (fun k => ⟨H.length, H, [.box [I m0, I m1, I m2, I m3, I m4, I m5, I m6]]⟩) (fun k => k ≤ (mems c 7).length) (fun k => (mems c 7).length - k) 0 (by omega) (tsub_cons rfl (tsub_cons rfl (tsub_cons rfl (tsub_cons rfl (tsub_cons rfl (tsub_cons rfl (tsub_cons rfl (tsub_cons rfl tsub_nil)))))))) rfl (fun i hi => ⟨rfl, rfl⟩) ?_
      intro k hk
      rcases Nat.lt_or_ge k (mems c 7).length with hkt | hkg
      · obtain ⟨n, hn, hgk, hvk⟩ := mem_at (ms := [m0, m1, m2, m3, m4, m5, m6]) hkt
        have hct := cnt_take (fun y => decide ((hav c [m0, m1, m2, m3, m4, m5, m6] (memA c 7)).getD i 0 ≤ y)) (L := (hav c [m0, m1, m2, m3, m4, m5, m6] (memA c 7))) (k := k) (by omega)
        have hcl := List.countP_le_length (p := fun y => decide ((hav c [m0, m1, m2, m3, m4, m5, m6] (memA c 7)).getD i 0 ≤ y)) (l := (hav c [m0, m1, m2, m3, m4, m5, m6] (memA c 7)).take k)
        rw [List.length_take] at hcl
        rw [hv, hvk] at hct
        rw [hv] at hcl
        repeat' (first | (conv => whnf) | skip); (first | (refine VIf.mk (fun _ => ?_) (fun _ => by omega)) | (refine VIf.mk (fun _ => ?_) (fun _ => ?_)) | (refine VReq.mk (by kernel_rfl) ?_) | (refine VReq.mk ⟨by kernel_rfl, by omega⟩ ?_) | (refine VReq.mk ⟨by omega, by omega⟩ ?_) | (refine kwp_draw (by kernel_rfl) (by kernel_rfl) rfl ?_) | (refine kget_some hgk ?_) | (refine kget_some hg ?_) | (refine kget_some (m7get hn) ?_) | (refine kget_some (m7get hj) ?_) | (refine kget_some rfl ?_) | (refine kbox_top rfl rfl ?_) | (refine KEnd.mk ?_))
        · rename_i g1 g2
          refine ⟨k + 1, hkt, by omega, tsub_cons rfl (tsub_cons rfl (tsub_cons rfl (tsub_cons rfl (tsub_cons rfl (tsub_cons rfl (tsub_cons ?_ (tsub_cons (congrArg I (inc64 (by omega))) tsub_nil))))))), rfl⟩
          rw [hv, hct, decide_eq_true g2]
          refine (congrArg I ?_)
          rw [if_pos rfl]
          exact inc64 (by omega)
        · rename_i g1 g2
          refine ⟨k + 1, hkt, by omega, tsub_cons rfl (tsub_cons rfl (tsub_cons rfl (tsub_cons rfl (tsub_cons rfl (tsub_cons rfl (tsub_cons ?_ (tsub_cons (congrArg I (inc64 (by omega))) tsub_nil))))))), rfl⟩
          rw [hv, hct, decide_eq_false g2]
          refine (congrArg I ?_)
          simp
      · have hke : k = (mems c 7).length := by omega
        subst hke
        have hcl := List.countP_le_length (p := fun y => decide ((hav c [m0, m1, m2, m3, m4, m5, m6] (memA c 7)).getD i 0 ≤ y)) (l := (hav c [m0, m1, m2, m3, m4, m5, m6] (memA c 7)).take (mems c 7).length)
        rw [List.length_take] at hcl
        have hfull : (hav c [m0, m1, m2, m3, m4, m5, m6] (memA c 7)).take (mems c 7).length = (hav c [m0, m1, m2, m3, m4, m5, m6] (memA c 7)) := by rw [← hL, List.take_length]
        have hw : IntKind.i64.wrap (2 * ((((hav c [m0, m1, m2, m3, m4, m5, m6] (memA c 7)).take (mems c 7).length).countP fun y => decide ((hav c [m0, m1, m2, m3, m4, m5, m6] (memA c 7)).getD i 0 ≤ y) : Nat) : Int)) = 2 * ((((hav c [m0, m1, m2, m3, m4, m5, m6] (memA c 7)).take (mems c 7).length).countP fun y => decide ((hav c [m0, m1, m2, m3, m4, m5, m6] (memA c 7)).getD i 0 ≤ y) : Nat) : Int) := IntWalk.i64_in _ (by omega)
        have hmaj : maj (hav c [m0, m1, m2, m3, m4, m5, m6] (memA c 7)) ((hav c [m0, m1, m2, m3, m4, m5, m6] (memA c 7)).getD i 0) = decide ((mems c 7).length < 2 * ((hav c [m0, m1, m2, m3, m4, m5, m6] (memA c 7)).take (mems c 7).length).countP fun y => decide ((hav c [m0, m1, m2, m3, m4, m5, m6] (memA c 7)).getD i 0 ≤ y)) := by rw [hfull]; unfold maj; rw [hL]
        repeat' (first | (conv => whnf) | skip); (first | (refine VIf.mk (fun _ => by omega) (fun _ => ?_)) | (refine VIf.mk (fun _ => ?_) (fun _ => ?_)) | (refine VReq.mk (by kernel_rfl) ?_) | (refine VReq.mk ⟨by kernel_rfl, by omega⟩ ?_) | (refine VReq.mk ⟨by omega, by omega⟩ ?_) | (refine kwp_draw (by kernel_rfl) (by kernel_rfl) rfl ?_) | (refine kget_some hg ?_) | (refine kget_some (m7get hj) ?_) | (refine kget_some rfl ?_) | (refine kbox_top rfl rfl ?_) | (refine KEnd.mk ?_))
        · rename_i g
          rw [hw] at g
          have hm : maj (hav c [m0, m1, m2, m3, m4, m5, m6] (memA c 7)) ((hav c [m0, m1, m2, m3, m4, m5, m6] (memA c 7)).getD i 0) = true := by rw [hmaj, decide_eq_true_iff]; omega
          have hR : refRun (hav c [m0, m1, m2, m3, m4, m5, m6] (memA c 7)) (i + 1) = (((hav c [m0, m1, m2, m3, m4, m5, m6] (memA c 7)).getD i 0), true) := by
            rw [hsucc, refStep, if_pos ⟨hm, .inl rfl⟩]
          exact ⟨i + 1, hlt, by omega, tsub_cons rfl (tsub_cons rfl (tsub_cons rfl (tsub_cons (by rw [hR]; exact congrArg I hv.symm) (tsub_cons (by rw [hR]; rfl) (tsub_cons (congrArg I (inc64 (by omega))) tsub_nil))))), rfl⟩
        · rename_i g
          rw [hw] at g
          have hm : ¬ maj (hav c [m0, m1, m2, m3, m4, m5, m6] (memA c 7)) ((hav c [m0, m1, m2, m3, m4, m5, m6] (memA c 7)).getD i 0) = true := by rw [hmaj, decide_eq_true_iff]; omega
          have hR : refRun (hav c [m0, m1, m2, m3, m4, m5, m6] (memA c 7)) (i + 1) = (b1, false) := by
            rw [hsucc, refStep, if_neg (fun h => hm h.1)]
          exact ⟨i + 1, hlt, by omega, tsub_cons rfl (tsub_cons rfl (tsub_cons rfl (tsub_cons (by rw [hR]; exact rfl) (tsub_cons (by rw [hR]; rfl) (tsub_cons (congrArg I (inc64 (by omega))) tsub_nil))))), rfl⟩
    | true =>
      repeat' (first | (conv => whnf) | skip); (first | (refine VIf.mk (fun _ => ?_) (fun _ => by omega)) | (refine VReq.mk (by kernel_rfl) ?_))
      (conv => whnf)
      refine kwp_loop (S := Nat) (fun k => [(0, I c), (3, .ptr (H.length + 0) 0), (5, .list 1 false (mems c 7)), (6, I b1), (7, B true), (8, I i), (9, I (((hav c [m0, m1, m2, m3, m4, m5, m6] (memA c 7)).take k).countP fun y => decide ((hav c [m0, m1, m2, m3, m4, m5, m6] (memA c 7)).getD i 0 ≤ y))), (10, I k)]) (fun k => ⟨H.length, H, [.box [I m0, I m1, I m2, I m3, I m4, I m5, I m6]]⟩) (fun k => k ≤ (mems c 7).length) (fun k => (mems c 7).length - k) 0 (by omega) (tsub_cons rfl (tsub_cons rfl (tsub_cons rfl (tsub_cons rfl (tsub_cons rfl (tsub_cons rfl (tsub_cons rfl (tsub_cons rfl tsub_nil)))))))) rfl (fun i hi => ⟨rfl, rfl⟩) ?_
      intro k hk
      rcases Nat.lt_or_ge k (mems c 7).length with hkt | hkg
      · obtain ⟨n, hn, hgk, hvk⟩ := mem_at (ms := [m0, m1, m2, m3, m4, m5, m6]) hkt
        have hct := cnt_take (fun y => decide ((hav c [m0, m1, m2, m3, m4, m5, m6] (memA c 7)).getD i 0 ≤ y)) (L := (hav c [m0, m1, m2, m3, m4, m5, m6] (memA c 7))) (k := k) (by omega)
        have hcl := List.countP_le_length (p := fun y => decide ((hav c [m0, m1, m2, m3, m4, m5, m6] (memA c 7)).getD i 0 ≤ y)) (l := (hav c [m0, m1, m2, m3, m4, m5, m6] (memA c 7)).take k)
        rw [List.length_take] at hcl
        rw [hv, hvk] at hct
        rw [hv] at hcl
        repeat' (first | (conv => whnf) | skip); (first | (refine VIf.mk (fun _ => ?_) (fun _ => by omega)) | (refine VIf.mk (fun _ => ?_) (fun _ => ?_)) | (refine VReq.mk (by kernel_rfl) ?_) | (refine VReq.mk ⟨by kernel_rfl, by omega⟩ ?_) | (refine VReq.mk ⟨by omega, by omega⟩ ?_) | (refine kwp_draw (by kernel_rfl) (by kernel_rfl) rfl ?_) | (refine kget_some hgk ?_) | (refine kget_some hg ?_) | (refine kget_some (m7get hn) ?_) | (refine kget_some (m7get hj) ?_) | (refine kget_some rfl ?_) | (refine kbox_top rfl rfl ?_) | (refine KEnd.mk ?_))
        · rename_i g1 g2
          refine ⟨k + 1, hkt, by omega, tsub_cons rfl (tsub_cons rfl (tsub_cons rfl (tsub_cons rfl (tsub_cons rfl (tsub_cons rfl (tsub_cons ?_ (tsub_cons (congrArg I (inc64 (by omega))) tsub_nil))))))), rfl⟩
          rw [hv, hct, decide_eq_true g2]
          refine (congrArg I ?_)
          rw [if_pos rfl]
          exact inc64 (by omega)
        · rename_i g1 g2
          refine ⟨k + 1, hkt, by omega, tsub_cons rfl (tsub_cons rfl (tsub_cons rfl (tsub_cons rfl (tsub_cons rfl (tsub_cons rfl (tsub_cons ?_ (tsub_cons (congrArg I (inc64 (by omega))) tsub_nil))))))), rfl⟩
          rw [hv, hct, decide_eq_false g2]
          refine (congrArg I ?_)
          simp
      · have hke : k = (mems c 7).length := by omega
        subst hke
        have hcl := List.countP_le_length (p := fun y => decide ((hav c [m0, m1, m2, m3, m4, m5, m6] (memA c 7)).getD i 0 ≤ y)) (l := (hav c [m0, m1, m2, m3, m4, m5, m6] (memA c 7)).take (mems c 7).length)
        rw [List.length_take] at hcl
        have hfull : (hav c [m0, m1, m2, m3, m4, m5, m6] (memA c 7)).take (mems c 7).length = (hav c [m0, m1, m2, m3, m4, m5, m6] (memA c 7)) := by rw [← hL, List.take_length]
        have hw : IntKind.i64.wrap (2 * ((((hav c [m0, m1, m2, m3, m4, m5, m6] (memA c 7)).take (mems c 7).length).countP fun y => decide ((hav c [m0, m1, m2, m3, m4, m5, m6] (memA c 7)).getD i 0 ≤ y) : Nat) : Int)) = 2 * ((((hav c [m0, m1, m2, m3, m4, m5, m6] (memA c 7)).take (mems c 7).length).countP fun y => decide ((hav c [m0, m1, m2, m3, m4, m5, m6] (memA c 7)).getD i 0 ≤ y) : Nat) : Int) := IntWalk.i64_in _ (by omega)
        have hmaj : maj (hav c [m0, m1, m2, m3, m4, m5, m6] (memA c 7)) ((hav c [m0, m1, m2, m3, m4, m5, m6] (memA c 7)).getD i 0) = decide ((mems c 7).length < 2 * ((hav c [m0, m1, m2, m3, m4, m5, m6] (memA c 7)).take (mems c 7).length).countP fun y => decide ((hav c [m0, m1, m2, m3, m4, m5, m6] (memA c 7)).getD i 0 ≤ y)) := by rw [hfull]; unfold maj; rw [hL]
        repeat' (first | (conv => whnf) | skip); (first | (refine VIf.mk (fun _ => by omega) (fun _ => ?_)) | (refine VIf.mk (fun _ => ?_) (fun _ => ?_)) | (refine VReq.mk (by kernel_rfl) ?_) | (refine VReq.mk ⟨by kernel_rfl, by omega⟩ ?_) | (refine VReq.mk ⟨by omega, by omega⟩ ?_) | (refine kwp_draw (by kernel_rfl) (by kernel_rfl) rfl ?_) | (refine kget_some hg ?_) | (refine kget_some (m7get hj) ?_) | (refine kget_some rfl ?_) | (refine kbox_top rfl rfl ?_) | (refine KEnd.mk ?_))
        · rename_i g g2
          rw [hw] at g
          have hm : maj (hav c [m0, m1, m2, m3, m4, m5, m6] (memA c 7)) ((hav c [m0, m1, m2, m3, m4, m5, m6] (memA c 7)).getD i 0) = true := by rw [hmaj, decide_eq_true_iff]; omega
          have hR : refRun (hav c [m0, m1, m2, m3, m4, m5, m6] (memA c 7)) (i + 1) = (((hav c [m0, m1, m2, m3, m4, m5, m6] (memA c 7)).getD i 0), true) := by
            rw [hsucc, refStep, if_pos ⟨hm, .inr (by rw [hv]; exact g2)⟩]
          exact ⟨i + 1, hlt, by omega, tsub_cons rfl (tsub_cons rfl (tsub_cons rfl (tsub_cons (by rw [hR]; exact congrArg I hv.symm) (tsub_cons (by rw [hR]; rfl) (tsub_cons (congrArg I (inc64 (by omega))) tsub_nil))))), rfl⟩
        · rename_i g g2
          rw [hw] at g
          have hm : maj (hav c [m0, m1, m2, m3, m4, m5, m6] (memA c 7)) ((hav c [m0, m1, m2, m3, m4, m5, m6] (memA c 7)).getD i 0) = true := by rw [hmaj, decide_eq_true_iff]; omega
          have hR : refRun (hav c [m0, m1, m2, m3, m4, m5, m6] (memA c 7)) (i + 1) = (b1, true) := by
            rw [hsucc, refStep, if_neg (fun h => by rcases h.2 with h | h; cases h; rw [hv] at h; exact g2 h)]
          exact ⟨i + 1, hlt, by omega, tsub_cons rfl (tsub_cons rfl (tsub_cons rfl (tsub_cons (by rw [hR]; exact rfl) (tsub_cons (by rw [hR]; rfl) (tsub_cons (congrArg I (inc64 (by omega))) tsub_nil))))), rfl⟩
        · rename_i g
          rw [hw] at g
          have hm : ¬ maj (hav c [m0, m1, m2, m3, m4, m5, m6] (memA c 7)) ((hav c [m0, m1, m2, m3, m4, m5, m6] (memA c 7)).getD i 0) = true := by rw [hmaj, decide_eq_true_iff]; omega
          have hR : refRun (hav c [m0, m1, m2, m3, m4, m5, m6] (memA c 7)) (i + 1) = (b1, true) := by
            rw [hsucc, refStep, if_neg (fun h => hm h.1)]
          exact ⟨i + 1, hlt, by omega, tsub_cons rfl (tsub_cons rfl (tsub_cons rfl (tsub_cons (by rw [hR]; exact rfl) (tsub_cons (by rw [hR]; rfl) (tsub_cons (congrArg I (inc64 (by omega))) tsub_nil))))), rfl⟩
  · have hie : i = (mems c 7).length := by omega
    subst hie
    repeat' (first | (conv => whnf) | skip); (first | (refine VIf.mk (fun _ => by omega) (fun _ => ?_)) | (refine VReq.mk (by kernel_rfl) ?_) | (refine kdone_pure h0 (by simp) ⟨?_, rfl⟩))
    rw [hrr]
end Go.Vm
