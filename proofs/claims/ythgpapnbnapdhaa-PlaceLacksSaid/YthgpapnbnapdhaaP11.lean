/- Layer 29: the law PlaceLacks. -/
import Derived.Test.YthgpapnbnapdhaaP10
set_option linter.unusedVariables false
set_option linter.unusedSimpArgs false
namespace Go.Vm
open Go.Proofs
set_option maxRecDepth 100000
theorem cloneT_cons (x : ByteArray) (l : List ByteArray) (hl : (x :: l).length ≤ 1000) (H : List VB) : VCalls Try.prog 45 [.list 1 false ((x :: l).map T)] H (fun r H' => r = .slc H.length 0 0 (x :: l).length ∧ H' = H ++ [.row 0 1 ((x :: l).map T)]) := by
  have hc9 : Try.prog.cellsOf 9 = 1 := by kernel_rfl
  have hlm : ((x :: l).map T).length = (x :: l).length := List.length_map ..
  refine kcalls Try.func45 rfl (by kernel_rfl) rfl ?_
  intro R0 h0 hb
  repeat' (first | (conv => whnf) | skip); (first | (refine kb_append_list (n := 1) (xs := []) (ys := (x :: l).map T) rfl (by kernel_rfl) (vsrc_list hc9) (by rw [hlm]; simp only [List.length_nil]; omega) (.inl rfl) ?_))
  (conv => whnf)
  refine kdone_keep ⟨?_, ?_⟩
  · rw [List.nil_append, hlm]; rfl
  · rfl
theorem cloneT_nil (H : List VB) : VCalls Try.prog 45 [.list 1 false (([] : List ByteArray).map T)] H (fun r H' => (r = .v (.slice none 0 0) ∧ H' = H) ∨ (r = .slc H.length 0 0 0 ∧ H' = H ++ [.row 0 1 []])) := by
  have hc9 : Try.prog.cellsOf 9 = 1 := by kernel_rfl
  refine kcalls Try.func45 rfl (by kernel_rfl) rfl ?_
  intro R0 h0 hb
  (conv => whnf)
  refine ⟨?_, ?_⟩
  · (conv => whnf)
    exact kdone_pure h0 (.v _) (.inl ⟨rfl, rfl⟩)
  · repeat' (first | (conv => whnf) | skip); (first | (refine kb_append_list (n := 1) (xs := []) (ys := []) rfl (by kernel_rfl) (vsrc_list hc9) (by simp) (.inl rfl) ?_))
    (conv => whnf)
    exact kdone_keep (.inr ⟨rfl, rfl⟩)
theorem placeLacks_spec (me n : Int) (needs hv : List ByteArray) : VCalls Try.prog 9 [I me, I n, .list 1 false (needs.map T), .list 1 false (hv.map T)] [] (fun r H' => r = B true) := by
  have hc9 : Try.prog.cellsOf 9 = 1 := by kernel_rfl
  obtain ⟨H, hH⟩ : ∃ H : List VB, H = [] := ⟨_, rfl⟩
  rw [← hH]
  have hlm : (needs.map T).length = needs.length := List.length_map ..
  have hlv : (hv.map T).length = hv.length := List.length_map ..
  refine kcalls Try.func9 rfl (by kernel_rfl) rfl ?_
  intro R0 h0 hb
  by_cases hsm : needs.length ≤ 30 ∧ hv.length ≤ 30
  · obtain ⟨h30, hv30⟩ := hsm
    have hll := lackL_le me n hv needs
    have hpl := fun hs : ∀ s, s ∈ needs → s.size ≤ 500000 => pLacks_spec me n needs hv (by omega) (by omega) hs
    have hrl := fun hs : ∀ s, s ∈ needs → s.size ≤ 500000 => rLacks_spec me n needs hv (by omega) (by omega) hs
    have heq := equalT_spec false false (lackL me n hv needs) (by omega)
    generalize lackL me n hv needs = lk at *
    repeat' (first | (conv => whnf) | skip); (first | (refine VIf.mk (fun h => absurd h (by rw [hlm]; omega)) (fun _ => ?_)) | (refine VIf.mk (fun h => absurd h (by rw [hlv]; omega)) (fun _ => ?_)))
    (conv => whnf)
    rcases needs with _ | ⟨x, l⟩
    · refine ⟨(cloneT_nil _).mono ?_⟩
      rintro r H' (⟨rfl, e⟩ | ⟨er, e⟩)
      · refine ⟨⟨H.length, H, []⟩, e.symm, rfl, rfl, ?_⟩
        clear e
        repeat' (first | (conv => whnf) | skip); (first | (refine kb_append_nil (n := 1) (ys := hv.map T) rfl (by kernel_rfl) (vsrc_list hc9) (by rw [hlv]; omega) ?_) | (refine krow_top (j := 0) rfl rfl ?_) | (refine VReq.mk rfl ?_))
        (conv => whnf)
        have hrow : (hv.map T) = (hv.map T) := by first | rfl | exact (List.map_append ..).symm
        have hls : hv.length ≤ 60 := by first | omega | (rw [List.length_append]; omega)
        have hlr : (hv.map T).length = hv.length := List.length_map ..
        refine kwp_loop (S := Nat) (fun i => [(0, I me), (1, I n), (2, .list 1 false (([] : List ByteArray).map T)), (3, .list 1 false (hv.map T)), (23, .slc (H.length + 0) 0 0 (hv.map T).length), (24, I (hv.map T).length), (25, I i)]) (fun i => ⟨H.length, H, [.row 0 1 (hv.map T)]⟩) (fun i => i ≤ hv.length ∧ ∀ s, s ∈ hv.take i → s.size ≤ 200) (fun i => hv.length - i) 0 ⟨by omega, by simp⟩ (tsub_cons rfl (tsub_cons rfl (tsub_cons rfl (tsub_cons rfl (tsub_cons (by rw [← hrow]; rfl) (tsub_cons (by rw [← hrow]; rfl) (tsub_cons rfl tsub_nil))))))) (by rw [← hrow]; rfl) (fun i hi => ⟨rfl, rfl⟩) ?_
        clear hrow
        rintro i ⟨hi, hall⟩
        rcases Nat.lt_or_ge i hv.length with hlt | hge
        · have hg : (hv.map T)[0 + ((i : Nat) : Int).toNat]? = some (T hv[i]) := by rw [Nat.zero_add, Int.toNat_natCast]; exact getT hlt
          repeat' (first | (conv => whnf) | skip); (first | (refine VIf.mk (fun _ => ?_) (fun h => absurd (by rw [hlr]; omega) h)) | (refine VIf.mk (fun _ => ?_) (fun hsz => ?_)) | (refine krow_top (j := 0) rfl rfl ?_) | (refine VReq.mk ⟨by omega, by rw [hlr]; omega, rfl, hc9.symm, by rw [hlr]; omega⟩ ?_) | (refine kget_some hg ?_) | (refine kget_some rfl ?_) | (refine kcall_pure (awake29_spec _) rfl ?_) | (refine kdone_pure h0 (.v _) rfl) | (refine KEnd.mk ?_) | (refine VReq.mk rfl ?_))
          refine ⟨i + 1, ⟨hlt, fun s hs => ?_⟩, by omega, tsub_cons rfl (tsub_cons rfl (tsub_cons rfl (tsub_cons rfl (tsub_cons rfl (tsub_cons rfl (tsub_cons (congrArg I (inc64 (by omega))) tsub_nil)))))), rfl⟩
          rw [List.take_add_one, List.getElem?_eq_getElem hlt, Option.toList_some, List.mem_append, List.mem_singleton] at hs
          rcases hs with hs | rfl
          · exact hall s hs
          · have : ¬ ((hv[i].size : Nat) : Int) > 200 := hsz
            omega
        · have htk : hv.take i = hv := List.take_of_length_le hge
          rw [htk] at hall
          have hneed : ∀ s, s ∈ ([] : List ByteArray) → s.size ≤ 500000 := (fun s hs => by cases hs)
          repeat' (first | (conv => whnf) | skip); (first | (refine VIf.mk (fun h => absurd h (by rw [hlr]; omega)) (fun _ => ?_)) | (refine kcall_pure (hpl hneed _) rfl ?_) | (refine kcall_pure (hrl hneed _) rfl ?_) | (refine kcall_pure (heq _) rfl ?_) | (refine kcall_pure (awake29_spec _) rfl ?_) | (refine kdone_pure h0 (.v _) rfl))
      · have er' : r = .slc (H.length + 0) 0 0 ([] : List SV).length := er.trans (congrArg (fun q => SV.slc q 0 0 0) (by simp [KH.flat]))
        subst er'
        clear er
        refine ⟨⟨H.length, H, [.row 0 1 []]⟩, by rw [e]; simp [KH.flat], rfl, rfl, ?_⟩
        clear e
        repeat' (first | (conv => whnf) | skip); (first | (refine kb_append_top (j := 0) (n := 1) (ys := hv.map T) rfl (by kernel_rfl) rfl rfl (vsrc_list hc9) (by rw [hlv]; simp only [List.length_nil]; omega) (cellsT (l := hv)) ?_) | (refine krow_top (j := 0) rfl rfl ?_) | (refine VReq.mk rfl ?_))
        (conv => whnf)
        have hrow : ([] ++ hv.map T) = (hv.map T) := by first | rfl | exact (List.map_append ..).symm
        have hls : hv.length ≤ 60 := by first | omega | (rw [List.length_append]; omega)
        have hlr : (hv.map T).length = hv.length := List.length_map ..
        refine kwp_loop (S := Nat) (fun i => [(0, I me), (1, I n), (2, .list 1 false (([] : List ByteArray).map T)), (3, .list 1 false (hv.map T)), (23, .slc (H.length + 0) 1 0 (hv.map T).length), (24, I (hv.map T).length), (25, I i)]) (fun i => ⟨H.length, H, [.row 1 1 (hv.map T)]⟩) (fun i => i ≤ hv.length ∧ ∀ s, s ∈ hv.take i → s.size ≤ 200) (fun i => hv.length - i) 0 ⟨by omega, by simp⟩ (tsub_cons rfl (tsub_cons rfl (tsub_cons rfl (tsub_cons rfl (tsub_cons (by rw [← hrow]; rfl) (tsub_cons (by rw [← hrow]; rfl) (tsub_cons rfl tsub_nil))))))) (by rw [← hrow]; rfl) (fun i hi => ⟨rfl, rfl⟩) ?_
        clear hrow
        rintro i ⟨hi, hall⟩
        rcases Nat.lt_or_ge i hv.length with hlt | hge
        · have hg : (hv.map T)[0 + ((i : Nat) : Int).toNat]? = some (T hv[i]) := by rw [Nat.zero_add, Int.toNat_natCast]; exact getT hlt
          repeat' (first | (conv => whnf) | skip); (first | (refine VIf.mk (fun _ => ?_) (fun h => absurd (by rw [hlr]; omega) h)) | (refine VIf.mk (fun _ => ?_) (fun hsz => ?_)) | (refine krow_top (j := 0) rfl rfl ?_) | (refine VReq.mk ⟨by omega, by rw [hlr]; omega, rfl, hc9.symm, by rw [hlr]; omega⟩ ?_) | (refine kget_some hg ?_) | (refine kget_some rfl ?_) | (refine kcall_pure (awake29_spec _) rfl ?_) | (refine kdone_pure h0 (.v _) rfl) | (refine KEnd.mk ?_) | (refine VReq.mk rfl ?_))
          refine ⟨i + 1, ⟨hlt, fun s hs => ?_⟩, by omega, tsub_cons rfl (tsub_cons rfl (tsub_cons rfl (tsub_cons rfl (tsub_cons rfl (tsub_cons rfl (tsub_cons (congrArg I (inc64 (by omega))) tsub_nil)))))), rfl⟩
          rw [List.take_add_one, List.getElem?_eq_getElem hlt, Option.toList_some, List.mem_append, List.mem_singleton] at hs
          rcases hs with hs | rfl
          · exact hall s hs
          · have : ¬ ((hv[i].size : Nat) : Int) > 200 := hsz
            omega
        · have htk : hv.take i = hv := List.take_of_length_le hge
          rw [htk] at hall
          have hneed : ∀ s, s ∈ ([] : List ByteArray) → s.size ≤ 500000 := (fun s hs => by cases hs)
          repeat' (first | (conv => whnf) | skip); (first | (refine VIf.mk (fun h => absurd h (by rw [hlr]; omega)) (fun _ => ?_)) | (refine kcall_pure (hpl hneed _) rfl ?_) | (refine kcall_pure (hrl hneed _) rfl ?_) | (refine kcall_pure (heq _) rfl ?_) | (refine kcall_pure (awake29_spec _) rfl ?_) | (refine kdone_pure h0 (.v _) rfl))
    · have hcl : ((x :: l).map T).length = (x :: l).length := List.length_map ..
      refine ⟨(cloneT_cons x l (by omega) _).mono ?_⟩
      rintro r H' ⟨er, e⟩
      have er' : r = .slc (H.length + 0) 0 0 ((x :: l).map T).length := er.trans ((congrArg (fun q => SV.slc q 0 0 (x :: l).length) (show (KH.flat ⟨H.length, H, []⟩).length = H.length + 0 by simp [KH.flat])).trans (by rw [hcl]))
      subst er'
      clear er
      refine ⟨⟨H.length, H, [.row 0 1 ((x :: l).map T)]⟩, by rw [e]; simp [KH.flat], rfl, rfl, ?_⟩
      clear e
      repeat' (first | (conv => whnf) | skip); (first | (refine kb_append_top (j := 0) (n := 1) (ys := hv.map T) rfl (by kernel_rfl) rfl rfl (vsrc_list hc9) (by rw [hlv, hcl]; omega) (cellsT (l := hv)) ?_) | (refine krow_top (j := 0) rfl rfl ?_) | (refine VReq.mk rfl ?_))
      (conv => whnf)
      have hrow : ((x :: l).map T ++ hv.map T) = (((x :: l) ++ hv).map T) := by first | rfl | exact (List.map_append ..).symm
      have hls : ((x :: l) ++ hv).length ≤ 60 := by first | omega | (rw [List.length_append]; omega)
      have hlr : (((x :: l) ++ hv).map T).length = ((x :: l) ++ hv).length := List.length_map ..
      refine kwp_loop (S := Nat) (fun i => [(0, I me), (1, I n), (2, .list 1 false ((x :: l).map T)), (3, .list 1 false (hv.map T)), (23, .slc (H.length + 0) 1 0 (((x :: l) ++ hv).map T).length), (24, I (((x :: l) ++ hv).map T).length), (25, I i)]) (fun i => ⟨H.length, H, [.row 1 1 (((x :: l) ++ hv).map T)]⟩) (fun i => i ≤ ((x :: l) ++ hv).length ∧ ∀ s, s ∈ ((x :: l) ++ hv).take i → s.size ≤ 200) (fun i => ((x :: l) ++ hv).length - i) 0 ⟨by omega, by simp⟩ (tsub_cons rfl (tsub_cons rfl (tsub_cons rfl (tsub_cons rfl (tsub_cons (by rw [← hrow]; rfl) (tsub_cons (by rw [← hrow]; rfl) (tsub_cons rfl tsub_nil))))))) (by rw [← hrow]; rfl) (fun i hi => ⟨rfl, rfl⟩) ?_
      clear hrow
      generalize hgl : ((x :: l) ++ hv) = ls at *
      rintro i ⟨hi, hall⟩
      rcases Nat.lt_or_ge i ls.length with hlt | hge
      · have hg : (ls.map T)[0 + ((i : Nat) : Int).toNat]? = some (T ls[i]) := by rw [Nat.zero_add, Int.toNat_natCast]; exact getT hlt
        repeat' (first | (conv => whnf) | skip); (first | (refine VIf.mk (fun _ => ?_) (fun h => absurd (by rw [hlr]; omega) h)) | (refine VIf.mk (fun _ => ?_) (fun hsz => ?_)) | (refine krow_top (j := 0) rfl rfl ?_) | (refine VReq.mk ⟨by omega, by rw [hlr]; omega, rfl, hc9.symm, by rw [hlr]; omega⟩ ?_) | (refine kget_some hg ?_) | (refine kget_some rfl ?_) | (refine kcall_pure (awake29_spec _) rfl ?_) | (refine kdone_pure h0 (.v _) rfl) | (refine KEnd.mk ?_) | (refine VReq.mk rfl ?_))
        refine ⟨i + 1, ⟨hlt, fun s hs => ?_⟩, by omega, tsub_cons rfl (tsub_cons rfl (tsub_cons rfl (tsub_cons rfl (tsub_cons rfl (tsub_cons rfl (tsub_cons (congrArg I (inc64 (by omega))) tsub_nil)))))), rfl⟩
        rw [List.take_add_one, List.getElem?_eq_getElem hlt, Option.toList_some, List.mem_append, List.mem_singleton] at hs
        rcases hs with hs | rfl
        · exact hall s hs
        · have : ¬ ((ls[i].size : Nat) : Int) > 200 := hsz
          omega
      · have htk : ls.take i = ls := List.take_of_length_le hge
        rw [htk] at hall
        subst hgl
        have hneed : ∀ s, s ∈ x :: l → s.size ≤ 500000 := (fun s hs => Nat.le_trans (hall s (List.mem_append_left _ hs)) (by omega))
        repeat' (first | (conv => whnf) | skip); (first | (refine VIf.mk (fun h => absurd h (by rw [hlr]; omega)) (fun _ => ?_)) | (refine kcall_pure (hpl hneed _) rfl ?_) | (refine kcall_pure (hrl hneed _) rfl ?_) | (refine kcall_pure (heq _) rfl ?_) | (refine kcall_pure (awake29_spec _) rfl ?_) | (refine kdone_pure h0 (.v _) rfl))
  · repeat' (first | (conv => whnf) | skip); (first | (refine VIf.mk (fun h => ?_) (fun h => absurd h (by simp only [hlm, hlv]; omega))) | (refine VIf.mk (fun _ => ?_) (fun _ => ?_)) | (refine kcall_pure (awake29_spec _) rfl ?_) | (refine kdone_pure h0 (.v _) rfl))
end Go.Vm
