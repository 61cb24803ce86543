/- Layers peers, baileyref12, ballot: the walks of PeersMatch, PeersBest, PeersTells, BallotCommits (F8 to F17). -/
import Derived.Test.YthgpapnbnapdhaaFA
/- baileyref12.Match: what it computes; it is what peers.Match computes. -/
set_option linter.unusedVariables false
set_option linter.unusedSimpArgs false
namespace Go.Vm
open Go.Proofs
set_option maxRecDepth 100000
/-- Have more than half at least so much? -/
def maj (L : List Int) (x : Int) : Bool := decide (L.length < 2 * L.countP fun y => decide (x ≤ y))
def refStep (L : List Int) (b : Int × Bool) (x : Int) : Int × Bool := if maj L x = true ∧ (b.2 = false ∨ b.1 < x) then (x, true) else b
def refRun (L : List Int) (i : Nat) : Int × Bool := (L.take i).foldl (refStep L) (0, false)
theorem refRun_succ {L : List Int} {i : Nat} (h : i < L.length) : refRun L (i + 1) = refStep L (refRun L i) (L.getD i 0) := by
  unfold refRun
  rw [List.take_add_one, List.getElem?_eq_getElem h, Option.toList_some, List.foldl_append, List.getD_eq_getElem?_getD, List.getElem?_eq_getElem h]
  rfl
theorem refRun_inv (L : List Int) : ∀ (P : List Int) (b : Int × Bool), (b.2 = true → maj L b.1 = true) → ((P.foldl (refStep L) b).2 = true → maj L (P.foldl (refStep L) b).1 = true) ∧
    (b.2 = true → (P.foldl (refStep L) b).2 = true ∧ b.1 ≤ (P.foldl (refStep L) b).1) ∧ ∀ x, x ∈ P → maj L x = true → (P.foldl (refStep L) b).2 = true ∧ x ≤ (P.foldl (refStep L) b).1
  | [], b, hb => ⟨hb, fun h => ⟨h, Int.le_refl _⟩, fun x hx => by cases hx⟩
  | y :: P, b, hb => by
    have hb' : (refStep L b y).2 = true → maj L (refStep L b y).1 = true := by
      unfold refStep; split
      · rename_i h; exact fun _ => h.1
      · exact hb
    have hmono : b.2 = true → (refStep L b y).2 = true ∧ b.1 ≤ (refStep L b y).1 := by
      intro h2
      unfold refStep; split
      · rename_i h
        rcases h.2 with h3 | h3
        · rw [h2] at h3; cases h3
        · exact ⟨rfl, by dsimp only; omega⟩
      · exact ⟨h2, Int.le_refl _⟩
    have hy : maj L y = true → (refStep L b y).2 = true ∧ y ≤ (refStep L b y).1 := by
      intro h2
      unfold refStep; split
      · exact ⟨rfl, Int.le_refl _⟩
      · rename_i h
        have h3 : ¬ (b.2 = false ∨ b.1 < y) := fun h' => h ⟨h2, h'⟩
        have h4 : b.2 = true := by cases hb2 : b.2; exact absurd (.inl hb2) h3; rfl
        have h5 : ¬ b.1 < y := fun h' => h3 (.inr h')
        exact ⟨h4, by omega⟩
    obtain ⟨i1, i2, i3⟩ := refRun_inv L P (refStep L b y) hb'
    refine ⟨i1, fun h => ?_, fun x hx hm => ?_⟩
    · obtain ⟨q1, q2⟩ := hmono h
      obtain ⟨q3, q4⟩ := i2 q1
      exact ⟨q3, Int.le_trans q2 q4⟩
    · rcases List.mem_cons.1 hx with rfl | hx
      · obtain ⟨q1, q2⟩ := hy hm
        obtain ⟨q3, q4⟩ := i2 q1
        exact ⟨q3, Int.le_trans q2 q4⟩
      · exact i3 x hx hm
theorem ref_is {L : List Int} {v : Int} (h : MatOk L v) : (refRun L L.length).1 = v := by
  by_cases hne : L = []
  · rcases h with ⟨_, rfl⟩ | ⟨h, _⟩
    · subst hne; rfl
    · exact absurd hne h
  · obtain ⟨h1, h2, h3⟩ := matOk_count h hne
    have hrun : refRun L L.length = L.foldl (refStep L) (0, false) := by unfold refRun; rw [List.take_length]
    rw [hrun]
    obtain ⟨i1, _, i3⟩ := refRun_inv L L (0, false) (fun h => by cases h)
    have hm : maj L v = true := by unfold maj; rw [decide_eq_true_iff]; omega
    obtain ⟨q1, q2⟩ := i3 v h1 hm
    have q3 := i1 q1
    by_cases hgt : v < (L.foldl (refStep L) (0, false)).1
    · exfalso
      unfold maj at q3
      rw [decide_eq_true_iff] at q3
      have : L.countP (fun y => decide ((L.foldl (refStep L) (0, false)).1 ≤ y)) ≤ L.countP (fun y => decide (v < y)) := List.countP_mono_left fun y _ hy => by
        simp only [decide_eq_true_eq] at hy ⊢; omega
      omega
    · omega
theorem mems_memA (c : Int) : ∀ n, n ≤ 7 → mems c n = (memA c n).map fun x => I x.1
  | 0, _ => rfl
  | n + 1, h => by
    rw [mems_succ, mems_memA c n (by omega)]
    cases hb : tb c n with
    | false => rw [memA_no hb]; simp
    | true =>
      have := memA_yes (c := c) (k := n) ⟨by omega, by omega⟩ (by simpa using hb)
      simp only [Int.toNat_natCast] at this
      rw [this]
      simp
theorem mem_at {c : Int} {ms : List Int} {k : Nat} (h : k < (mems c 7).length) : ∃ j : Nat, j < 7 ∧ (mems c 7)[k]? = some (I j) ∧ (hav c ms (memA c 7)).getD k 0 = ms.getD j 0 := by
  rw [mems_memA c 7 (by omega)] at h ⊢
  rw [List.length_map] at h
  have hx := (memA c 7)[k].2
  refine ⟨((memA c 7)[k]).1.toNat, by omega, ?_, ?_⟩
  · rw [List.getElem?_map, List.getElem?_eq_getElem h]
    simp only [Option.map_some]
    congr 2
    omega
  · unfold hav
    rw [List.getD_eq_getElem?_getD, List.getElem?_map, List.getElem?_eq_getElem h]
    rfl
theorem hav_len (c : Int) (ms : List Int) : (hav c ms (memA c 7)).length = (mems c 7).length := by
  rw [mems_memA c 7 (by omega)]; simp [hav]
end Go.Vm

/- baileyref12.Match: the walk. -/
set_option linter.unusedVariables false
set_option linter.unusedSimpArgs false
namespace Go.Vm
open Go.Proofs
set_option maxRecDepth 100000
theorem m7get {m0 m1 m2 m3 m4 m5 m6 : Int} {j : Nat} (hj : j < 7) : (([I m0, I m1, I m2, I m3, I m4, I m5, I m6] : List SV).drop (0 + ((j : Nat) : Int).toNat * Try.prog.cellsOf 3))[0]? = some (I ([m0, m1, m2, m3, m4, m5, m6].getD j 0)) := by
  have hc3 : Try.prog.cellsOf 3 = 1 := by kernel_rfl
  rw [hc3, Int.toNat_natCast]
  rcases j with _ | _ | _ | _ | _ | _ | _ | j <;> first | rfl | omega
theorem cnt_take (p : Int → Bool) {L : List Int} {k : Nat} (h : k < L.length) : (L.take (k + 1)).countP p = (L.take k).countP p + (if p (L.getD k 0) = true then 1 else 0) := by
  rw [List.take_add_one, List.getElem?_eq_getElem h, Option.toList_some, List.countP_append, List.getD_eq_getElem?_getD, List.getElem?_eq_getElem h]
  simp [List.countP_cons]
theorem r12match_spec (c m0 m1 m2 m3 m4 m5 m6 : Int) (H : List VB) : VCalls Try.prog 12 [I c, .agg [I m0, I m1, I m2, I m3, I m4, I m5, I m6]] H (fun r H' => r = I (refRun (hav c [m0, m1, m2, m3, m4, m5, m6] (memA c 7)) (mems c 7).length).1 ∧ H' = H) := by
  refine kcalls Try.func12 rfl (by kernel_rfl) rfl ?_
  intro R0 h0 hb
  have hL := hav_len c [m0, m1, m2, m3, m4, m5, m6]
  have hl7 := mems_len c 7
  repeat' (first | (conv => whnf) | skip); (first | (refine VReq.mk (by kernel_rfl) ?_) | (refine kcall_pure (r12list_spec _ _) rfl ?_))
  (conv => whnf)
  refine kwp_loop (S := Nat) (fun i => [(0, I c), (3, .ptr (H.length + 0) 0), (5, .list 1 false (mems c 7)), (6, I (refRun (hav c [m0, m1, m2, m3, m4, m5, m6] (memA c 7)) i).1), (7, B (refRun (hav c [m0, m1, m2, m3, m4, m5, m6] (memA c 7)) i).2), (8, I i)]) (fun i => ⟨H.length, H, [.box [I m0, I m1, I m2, I m3, I m4, I m5, I m6]]⟩) (fun i => i ≤ (mems c 7).length) (fun i => (mems c 7).length - i) 0 (by omega) (tsub_cons rfl (tsub_cons rfl (tsub_cons rfl (tsub_cons rfl (tsub_cons rfl (tsub_cons rfl tsub_nil)))))) rfl (fun i hi => ⟨rfl, rfl⟩) ?_
  intro i hi
  obtain ⟨⟨b1, b2⟩, hrr⟩ : ∃ b, refRun (hav c [m0, m1, m2, m3, m4, m5, m6] (memA c 7)) i = b := ⟨_, rfl⟩
  rw [hrr]
  rcases Nat.lt_or_ge i (mems c 7).length with hlt | hge
  · obtain ⟨j, hj, hg, hv⟩ := mem_at (ms := [m0, m1, m2, m3, m4, m5, m6]) hlt
    have hsucc := refRun_succ (L := (hav c [m0, m1, m2, m3, m4, m5, m6] (memA c 7))) (i := i) (by omega)
    rw [hrr] at hsucc
    cases b2 with
    | false =>
      repeat' (first | (conv => whnf) | skip); (first | (refine VIf.mk (fun _ => ?_) (fun _ => by omega)) | (refine VReq.mk (by kernel_rfl) ?_))
      (conv => whnf)
      refine kwp_loop (S := Nat) (fun k => [(0, I c), (3, .ptr (H.length + 0) 0), (5, .list 1 false (mems c 7)), (6, I b1), (7, B false), (8, I i), (9, I (((hav c [m0, m1, m2, m3, m4, m5, m6] (memA c 7)).take k).countP fun y => decide ((hav c [m0, m1, m2, m3, m4, m5, m6] (memA c 7)).getD i 0 ≤ y))), (10, I k)]) (fun k => ⟨H.length, H, [.box [I m0, I m1, I m2, I m3, I m4, I m5, I m6]]⟩) (fun k => k ≤ (mems c 7).length) (fun k => (mems c 7).length - k) 0 (by omega) (tsub_cons rfl (tsub_cons rfl (tsub_cons rfl (tsub_cons rfl (tsub_cons rfl (tsub_cons rfl (tsub_cons rfl (tsub_cons rfl tsub_nil)))))))) rfl (fun i hi => ⟨rfl, rfl⟩) ?_
      intro k hk
      rcases Nat.lt_or_ge k (mems c 7).length with hkt | hkg
      · obtain ⟨n, hn, hgk, hvk⟩ := mem_at (ms := [m0, m1, m2, m3, m4, m5, m6]) hkt
        have hct := cnt_take (fun y => decide ((hav c [m0, m1, m2, m3, m4, m5, m6] (memA c 7)).getD i 0 ≤ y)) (L := (hav c [m0, m1, m2, m3, m4, m5, m6] (memA c 7))) (k := k) (by omega)
        have hcl := List.countP_le_length (p := fun y => decide ((hav c [m0, m1, m2, m3, m4, m5, m6] (memA c 7)).getD i 0 ≤ y)) (l := (hav c [m0, m1, m2, m3, m4, m5, m6] (memA c 7)).take k)
        rw [List.length_take] at hcl
        rw [hv, hvk] at hct
        rw [hv] at hcl
        repeat' (first | (conv => whnf) | skip); (first | (refine VIf.mk (fun _ => ?_) (fun _ => by omega)) | (refine VIf.mk (fun _ => ?_) (fun _ => ?_)) | (refine VReq.mk (by kernel_rfl) ?_) | (refine VReq.mk ⟨by kernel_rfl, by omega⟩ ?_) | (refine VReq.mk ⟨by omega, by omega⟩ ?_) | (refine kwp_draw (by kernel_rfl) (by kernel_rfl) rfl ?_) | (refine kget_some hgk ?_) | (refine kget_some hg ?_) | (refine kget_some (m7get hn) ?_) | (refine kget_some (m7get hj) ?_) | (refine kget_some rfl ?_) | (refine kbox_top rfl rfl ?_) | (refine KEnd.mk ?_))
        · rename_i g1 g2
          refine ⟨k + 1, hkt, by omega, tsub_cons rfl (tsub_cons rfl (tsub_cons rfl (tsub_cons rfl (tsub_cons rfl (tsub_cons rfl (tsub_cons ?_ (tsub_cons (congrArg I (inc64 (by omega))) tsub_nil))))))), rfl⟩
          rw [hv, hct, decide_eq_true g2]
          refine (congrArg I ?_)
          rw [if_pos rfl]
          exact inc64 (by omega)
        · rename_i g1 g2
          refine ⟨k + 1, hkt, by omega, tsub_cons rfl (tsub_cons rfl (tsub_cons rfl (tsub_cons rfl (tsub_cons rfl (tsub_cons rfl (tsub_cons ?_ (tsub_cons (congrArg I (inc64 (by omega))) tsub_nil))))))), rfl⟩
          rw [hv, hct, decide_eq_false g2]
          refine (congrArg I ?_)
          simp
      · have hke : k = (mems c 7).length := by omega
        subst hke
        have hcl := List.countP_le_length (p := fun y => decide ((hav c [m0, m1, m2, m3, m4, m5, m6] (memA c 7)).getD i 0 ≤ y)) (l := (hav c [m0, m1, m2, m3, m4, m5, m6] (memA c 7)).take (mems c 7).length)
        rw [List.length_take] at hcl
        have hfull : (hav c [m0, m1, m2, m3, m4, m5, m6] (memA c 7)).take (mems c 7).length = (hav c [m0, m1, m2, m3, m4, m5, m6] (memA c 7)) := by rw [← hL, List.take_length]
        have hw : IntKind.i64.wrap (2 * ((((hav c [m0, m1, m2, m3, m4, m5, m6] (memA c 7)).take (mems c 7).length).countP fun y => decide ((hav c [m0, m1, m2, m3, m4, m5, m6] (memA c 7)).getD i 0 ≤ y) : Nat) : Int)) = 2 * ((((hav c [m0, m1, m2, m3, m4, m5, m6] (memA c 7)).take (mems c 7).length).countP fun y => decide ((hav c [m0, m1, m2, m3, m4, m5, m6] (memA c 7)).getD i 0 ≤ y) : Nat) : Int) := IntWalk.i64_in _ (by omega)
        have hmaj : maj (hav c [m0, m1, m2, m3, m4, m5, m6] (memA c 7)) ((hav c [m0, m1, m2, m3, m4, m5, m6] (memA c 7)).getD i 0) = decide ((mems c 7).length < 2 * ((hav c [m0, m1, m2, m3, m4, m5, m6] (memA c 7)).take (mems c 7).length).countP fun y => decide ((hav c [m0, m1, m2, m3, m4, m5, m6] (memA c 7)).getD i 0 ≤ y)) := by rw [hfull]; unfold maj; rw [hL]
        repeat' (first | (conv => whnf) | skip); (first | (refine VIf.mk (fun _ => by omega) (fun _ => ?_)) | (refine VIf.mk (fun _ => ?_) (fun _ => ?_)) | (refine VReq.mk (by kernel_rfl) ?_) | (refine VReq.mk ⟨by kernel_rfl, by omega⟩ ?_) | (refine VReq.mk ⟨by omega, by omega⟩ ?_) | (refine kwp_draw (by kernel_rfl) (by kernel_rfl) rfl ?_) | (refine kget_some hg ?_) | (refine kget_some (m7get hj) ?_) | (refine kget_some rfl ?_) | (refine kbox_top rfl rfl ?_) | (refine KEnd.mk ?_))
        · rename_i g
          rw [hw] at g
          have hm : maj (hav c [m0, m1, m2, m3, m4, m5, m6] (memA c 7)) ((hav c [m0, m1, m2, m3, m4, m5, m6] (memA c 7)).getD i 0) = true := by rw [hmaj, decide_eq_true_iff]; omega
          have hR : refRun (hav c [m0, m1, m2, m3, m4, m5, m6] (memA c 7)) (i + 1) = (((hav c [m0, m1, m2, m3, m4, m5, m6] (memA c 7)).getD i 0), true) := by
            rw [hsucc, refStep, if_pos ⟨hm, .inl rfl⟩]
          exact ⟨i + 1, hlt, by omega, tsub_cons rfl (tsub_cons rfl (tsub_cons rfl (tsub_cons (by rw [hR]; exact congrArg I hv.symm) (tsub_cons (by rw [hR]; rfl) (tsub_cons (congrArg I (inc64 (by omega))) tsub_nil))))), rfl⟩
        · rename_i g
          rw [hw] at g
          have hm : ¬ maj (hav c [m0, m1, m2, m3, m4, m5, m6] (memA c 7)) ((hav c [m0, m1, m2, m3, m4, m5, m6] (memA c 7)).getD i 0) = true := by rw [hmaj, decide_eq_true_iff]; omega
          have hR : refRun (hav c [m0, m1, m2, m3, m4, m5, m6] (memA c 7)) (i + 1) = (b1, false) := by
            rw [hsucc, refStep, if_neg (fun h => hm h.1)]
          exact ⟨i + 1, hlt, by omega, tsub_cons rfl (tsub_cons rfl (tsub_cons rfl (tsub_cons (by rw [hR]; exact rfl) (tsub_cons (by rw [hR]; rfl) (tsub_cons (congrArg I (inc64 (by omega))) tsub_nil))))), rfl⟩
    | true =>
      repeat' (first | (conv => whnf) | skip); (first | (refine VIf.mk (fun _ => ?_) (fun _ => by omega)) | (refine VReq.mk (by kernel_rfl) ?_))
      (conv => whnf)
      refine kwp_loop (S := Nat) (fun k => [(0, I c), (3, .ptr (H.length + 0) 0), (5, .list 1 false (mems c 7)), (6, I b1), (7, B true), (8, I i), (9, I (((hav c [m0, m1, m2, m3, m4, m5, m6] (memA c 7)).take k).countP fun y => decide ((hav c [m0, m1, m2, m3, m4, m5, m6] (memA c 7)).getD i 0 ≤ y))), (10, I k)]) (fun k => ⟨H.length, H, [.box [I m0, I m1, I m2, I m3, I m4, I m5, I m6]]⟩) (fun k => k ≤ (mems c 7).length) (fun k => (mems c 7).length - k) 0 (by omega) (tsub_cons rfl (tsub_cons rfl (tsub_cons rfl (tsub_cons rfl (tsub_cons rfl (tsub_cons rfl (tsub_cons rfl (tsub_cons rfl tsub_nil)))))))) rfl (fun i hi => ⟨rfl, rfl⟩) ?_
      intro k hk
      rcases Nat.lt_or_ge k (mems c 7).length with hkt | hkg
      · obtain ⟨n, hn, hgk, hvk⟩ := mem_at (ms := [m0, m1, m2, m3, m4, m5, m6]) hkt
        have hct := cnt_take (fun y => decide ((hav c [m0, m1, m2, m3, m4, m5, m6] (memA c 7)).getD i 0 ≤ y)) (L := (hav c [m0, m1, m2, m3, m4, m5, m6] (memA c 7))) (k := k) (by omega)
        have hcl := List.countP_le_length (p := fun y => decide ((hav c [m0, m1, m2, m3, m4, m5, m6] (memA c 7)).getD i 0 ≤ y)) (l := (hav c [m0, m1, m2, m3, m4, m5, m6] (memA c 7)).take k)
        rw [List.length_take] at hcl
        rw [hv, hvk] at hct
        rw [hv] at hcl
        repeat' (first | (conv => whnf) | skip); (first | (refine VIf.mk (fun _ => ?_) (fun _ => by omega)) | (refine VIf.mk (fun _ => ?_) (fun _ => ?_)) | (refine VReq.mk (by kernel_rfl) ?_) | (refine VReq.mk ⟨by kernel_rfl, by omega⟩ ?_) | (refine VReq.mk ⟨by omega, by omega⟩ ?_) | (refine kwp_draw (by kernel_rfl) (by kernel_rfl) rfl ?_) | (refine kget_some hgk ?_) | (refine kget_some hg ?_) | (refine kget_some (m7get hn) ?_) | (refine kget_some (m7get hj) ?_) | (refine kget_some rfl ?_) | (refine kbox_top rfl rfl ?_) | (refine KEnd.mk ?_))
        · rename_i g1 g2
          refine ⟨k + 1, hkt, by omega, tsub_cons rfl (tsub_cons rfl (tsub_cons rfl (tsub_cons rfl (tsub_cons rfl (tsub_cons rfl (tsub_cons ?_ (tsub_cons (congrArg I (inc64 (by omega))) tsub_nil))))))), rfl⟩
          rw [hv, hct, decide_eq_true g2]
          refine (congrArg I ?_)
          rw [if_pos rfl]
          exact inc64 (by omega)
        · rename_i g1 g2
          refine ⟨k + 1, hkt, by omega, tsub_cons rfl (tsub_cons rfl (tsub_cons rfl (tsub_cons rfl (tsub_cons rfl (tsub_cons rfl (tsub_cons ?_ (tsub_cons (congrArg I (inc64 (by omega))) tsub_nil))))))), rfl⟩
          rw [hv, hct, decide_eq_false g2]
          refine (congrArg I ?_)
          simp
      · have hke : k = (mems c 7).length := by omega
        subst hke
        have hcl := List.countP_le_length (p := fun y => decide ((hav c [m0, m1, m2, m3, m4, m5, m6] (memA c 7)).getD i 0 ≤ y)) (l := (hav c [m0, m1, m2, m3, m4, m5, m6] (memA c 7)).take (mems c 7).length)
        rw [List.length_take] at hcl
        have hfull : (hav c [m0, m1, m2, m3, m4, m5, m6] (memA c 7)).take (mems c 7).length = (hav c [m0, m1, m2, m3, m4, m5, m6] (memA c 7)) := by rw [← hL, List.take_length]
        have hw : IntKind.i64.wrap (2 * ((((hav c [m0, m1, m2, m3, m4, m5, m6] (memA c 7)).take (mems c 7).length).countP fun y => decide ((hav c [m0, m1, m2, m3, m4, m5, m6] (memA c 7)).getD i 0 ≤ y) : Nat) : Int)) = 2 * ((((hav c [m0, m1, m2, m3, m4, m5, m6] (memA c 7)).take (mems c 7).length).countP fun y => decide ((hav c [m0, m1, m2, m3, m4, m5, m6] (memA c 7)).getD i 0 ≤ y) : Nat) : Int) := IntWalk.i64_in _ (by omega)
        have hmaj : maj (hav c [m0, m1, m2, m3, m4, m5, m6] (memA c 7)) ((hav c [m0, m1, m2, m3, m4, m5, m6] (memA c 7)).getD i 0) = decide ((mems c 7).length < 2 * ((hav c [m0, m1, m2, m3, m4, m5, m6] (memA c 7)).take (mems c 7).length).countP fun y => decide ((hav c [m0, m1, m2, m3, m4, m5, m6] (memA c 7)).getD i 0 ≤ y)) := by rw [hfull]; unfold maj; rw [hL]
        repeat' (first | (conv => whnf) | skip); (first | (refine VIf.mk (fun _ => by omega) (fun _ => ?_)) | (refine VIf.mk (fun _ => ?_) (fun _ => ?_)) | (refine VReq.mk (by kernel_rfl) ?_) | (refine VReq.mk ⟨by kernel_rfl, by omega⟩ ?_) | (refine VReq.mk ⟨by omega, by omega⟩ ?_) | (refine kwp_draw (by kernel_rfl) (by kernel_rfl) rfl ?_) | (refine kget_some hg ?_) | (refine kget_some (m7get hj) ?_) | (refine kget_some rfl ?_) | (refine kbox_top rfl rfl ?_) | (refine KEnd.mk ?_))
        · rename_i g g2
          rw [hw] at g
          have hm : maj (hav c [m0, m1, m2, m3, m4, m5, m6] (memA c 7)) ((hav c [m0, m1, m2, m3, m4, m5, m6] (memA c 7)).getD i 0) = true := by rw [hmaj, decide_eq_true_iff]; omega
          have hR : refRun (hav c [m0, m1, m2, m3, m4, m5, m6] (memA c 7)) (i + 1) = (((hav c [m0, m1, m2, m3, m4, m5, m6] (memA c 7)).getD i 0), true) := by
            rw [hsucc, refStep, if_pos ⟨hm, .inr (by rw [hv]; exact g2)⟩]
          exact ⟨i + 1, hlt, by omega, tsub_cons rfl (tsub_cons rfl (tsub_cons rfl (tsub_cons (by rw [hR]; exact congrArg I hv.symm) (tsub_cons (by rw [hR]; rfl) (tsub_cons (congrArg I (inc64 (by omega))) tsub_nil))))), rfl⟩
        · rename_i g g2
          rw [hw] at g
          have hm : maj (hav c [m0, m1, m2, m3, m4, m5, m6] (memA c 7)) ((hav c [m0, m1, m2, m3, m4, m5, m6] (memA c 7)).getD i 0) = true := by rw [hmaj, decide_eq_true_iff]; omega
          have hR : refRun (hav c [m0, m1, m2, m3, m4, m5, m6] (memA c 7)) (i + 1) = (b1, true) := by
            rw [hsucc, refStep, if_neg (fun h => by rcases h.2 with h | h; cases h; rw [hv] at h; exact g2 h)]
          exact ⟨i + 1, hlt, by omega, tsub_cons rfl (tsub_cons rfl (tsub_cons rfl (tsub_cons (by rw [hR]; exact rfl) (tsub_cons (by rw [hR]; rfl) (tsub_cons (congrArg I (inc64 (by omega))) tsub_nil))))), rfl⟩
        · rename_i g
          rw [hw] at g
          have hm : ¬ maj (hav c [m0, m1, m2, m3, m4, m5, m6] (memA c 7)) ((hav c [m0, m1, m2, m3, m4, m5, m6] (memA c 7)).getD i 0) = true := by rw [hmaj, decide_eq_true_iff]; omega
          have hR : refRun (hav c [m0, m1, m2, m3, m4, m5, m6] (memA c 7)) (i + 1) = (b1, true) := by
            rw [hsucc, refStep, if_neg (fun h => hm h.1)]
          exact ⟨i + 1, hlt, by omega, tsub_cons rfl (tsub_cons rfl (tsub_cons rfl (tsub_cons (by rw [hR]; exact rfl) (tsub_cons (by rw [hR]; rfl) (tsub_cons (congrArg I (inc64 (by omega))) tsub_nil))))), rfl⟩
  · have hie : i = (mems c 7).length := by omega
    subst hie
    repeat' (first | (conv => whnf) | skip); (first | (refine VIf.mk (fun _ => by omega) (fun _ => ?_)) | (refine VReq.mk (by kernel_rfl) ?_) | (refine kdone_pure h0 (by simp) ⟨?_, rfl⟩))
    rw [hrr]
end Go.Vm

/- PeersMatch: the walk. -/
set_option linter.unusedVariables false
set_option linter.unusedSimpArgs false
namespace Go.Vm
open Go.Proofs
set_option maxRecDepth 100000
theorem peersMatch_spec (c m0 m1 m2 m3 m4 m5 m6 : Int) : VCalls Try.prog 3 [I c, .agg [I m0, I m1, I m2, I m3, I m4, I m5, I m6]] [] fun r H' => r = .v (.bool true) := by
  refine VCalls.mono (K := fun r H' => r = B true ∧ H' = []) ?_ fun r H' h => h.1
  refine kcalls Try.func3 rfl (by kernel_rfl) rfl ?_
  intro R0 h0 hb
  have nm : NoMap (KH.flat ⟨([] : List VB).length, [], [.box [I m0, I m1, I m2, I m3, I m4, I m5, I m6]]⟩) := noMap_append (H := []) (X := [.box [I m0, I m1, I m2, I m3, I m4, I m5, I m6]]) (by intro id es h; simp at h) (by intro b hb es he; subst he; simp at hb)
  (conv => whnf)
  refine kwp_draw_in [0, 1, 3, 4, 2, 5, 6, 7, 8, 9, 10] [2] (by kernel_rfl) (by kernel_rfl) (by kernel_rfl) rfl ?_
  have hc22 : Try.prog.cellsOf 22 = 7 := by kernel_rfl
  have hms := @match_spec c m0 m1 m2 m3 m4 m5 m6 _ nm
  repeat' (first | (conv => whnf) | skip); (first | (refine VReq.mk (HExt.refl _) ?_) | (refine VReq.mk (by kernel_rfl) ?_) | (refine VReq.mk (by rw [hc22]; exact Nat.le_refl 7) ?_) | (refine kbox_top rfl rfl ?_) | (refine kget_some rfl ?_) | (refine kcall_some (p := fun r => ∃ v, MatOk (hav c [m0, m1, m2, m3, m4, m5, m6] (memA c 7)) v ∧ r = I v) (hms.mono fun r H' ⟨v, hv, e1, e2⟩ => ⟨⟨v, hv, e1⟩, e2⟩) rfl ?_; rintro r ⟨v, hv, rfl⟩) | (refine kcall_pure (r12match_spec c m0 m1 m2 m3 m4 m5 m6 _) rfl ?_) | (refine kcall_pure (awake_spec _ nm) rfl ?_) | (refine VIf.mk (fun _ => ?_) (fun h => absurd (by rw [← hav_len c [m0, m1, m2, m3, m4, m5, m6]]; exact (ref_is hv).symm) h)) | (refine kdone_pure h0 (by simp) ⟨?_, rfl⟩))
  all_goals rfl
end Go.Vm

/- peers.List: slices.Collect over the members. -/
set_option linter.unusedVariables false
set_option linter.unusedSimpArgs false
namespace Go.Vm
open Go.Proofs
set_option maxRecDepth 100000
/-- A list of members as it is handed back. -/
def lstv (l : List M7) : SV := match l with
  | [] => .v (.slice none 0 0)
  | x :: r => .list 1 false ((x :: r).map fun y => I y.1)
def aH (H : List VB) (pre : List M7) : KH :=
  match pre with
  | [] => ⟨H.length, H, [.box [.v (.slice none 0 0)]]⟩
  | x :: r => ⟨H.length, H, [.box [.slc (H.length + 1) r.length 0 (r.length + 1)], .row r.length 1 ((x :: r).map fun y => I y.1)]⟩
theorem aH_nm {H : List VB} (nm : NoMap H) (pre : List M7) : NoMap (aH H pre).flat := by
  cases pre with
  | nil => exact noMap_append (X := [.box [.v (.slice none 0 0)]]) nm (by intro b hb es he; subst he; simp at hb)
  | cons x r => exact noMap_append (X := [.box [.slc (H.length + 1) r.length 0 (r.length + 1)], .row r.length 1 ((x :: r).map fun y => I y.1)]) nm (by intro b hb es he; subst he; simp at hb)
theorem appendSeq_spec (c : Int) (id : Nat) (H : List VB) (hid : H[id]? = some (.box [I c])) (nm : NoMap H) :
    VCalls Try.prog 79 [.v (.slice none 0 0), .fn 76 [.ptr id 0]] H (fun r H' => r = lstv (memA c 7) ∧ H' = H) := by
  refine kcalls_marks Try.func79 rfl (by kernel_rfl) rfl ?_
  intro R0 h0 hb
  refine kwps_pre rfl ?_
  (conv => whnf)
  refine kwps_seq (kwps_pre rfl ?_)
  (conv => whnf)
  refine kwps_block (kwps_range (α := M7) (enc := fun x => x.1) (xs := memA c 7) (NN := 7) (aH H) (fun b o w hw => members_stops 1 (by omega) b o c w hw) rfl (by kernel_rfl) (fun pre => aH_nm nm pre) rfl ?hid rfl rfl ?ok ?body ?done)
  case hid => intro pre; cases pre <;> exact flat_get_base hid
  case ok => intro pre; cases pre <;> exact ⟨rfl, rfl⟩
  case body =>
    intro R1 pre x hlt h1 hb1
    cases pre with
    | nil =>
      repeat' (first | (conv => whnf) | skip); (first | (refine VReq.mk (by kernel_rfl) ?_) | (refine kbox_top rfl rfl ?_) | (refine kget_some rfl ?_) | (refine kb_append_nil (n := 1) (ys := [I x.1]) rfl (by kernel_rfl) rfl (by simp only [List.length_cons, List.length_nil]; omega) ?_) | (refine krow_top rfl rfl ?_) | (refine VReq.mk rfl ?_) | (refine VReq.mk (Nat.le_refl 1) ?_) | (refine kset_top rfl ?_) | (refine KEnd.mk ?_))
      rfl
    | cons y r =>
      have hl : ((y :: r).map fun y : M7 => I y.1).length = r.length + 1 := by simp
      have hlt' : r.length < 7 := by simp at hlt; omega
      repeat' (first | (conv => whnf) | skip); (first | (refine VReq.mk (by kernel_rfl) ?_) | (refine kbox_top rfl rfl ?_) | (refine kget_some rfl ?_) | (refine kb_append_top (n := 1) (ys := [I x.1]) rfl (by kernel_rfl) rfl hl.symm rfl (by rw [hl]; simp only [List.length_cons, List.length_nil]; omega) (by simp [SV.cells, svCell, svValid, Value.oneCell']) ?_) | (refine krow_top rfl rfl ?_) | (refine VReq.mk rfl ?_) | (refine VReq.mk (Nat.le_refl 1) ?_) | (refine kset_top rfl ?_) | (refine KEnd.mk ?_))
      have e3 : ((y :: r ++ [x]).map fun y : M7 => I y.1) = ((y :: r).map fun y : M7 => I y.1) ++ [I x.1] := by simp
      show KH.mk H.length H [VB.box [SV.slc (H.length + 1) (r.length + 1) 0 (((y :: r).map fun y : M7 => I y.1) ++ [I x.1]).length], VB.row (r.length + 1) 1 (((y :: r).map fun y : M7 => I y.1) ++ [I x.1])] =
        KH.mk H.length H [VB.box [SV.slc (H.length + 1) (r ++ [x]).length 0 ((r ++ [x]).length + 1)], VB.row (r ++ [x]).length 1 ((y :: r ++ [x]).map fun y : M7 => I y.1)]
      rw [e3]
      simp
  case done =>
    (conv => whnf)
    cases hmem : memA c 7 with
    | nil =>
      refine kwpm_of rfl (aH_nm nm _) ?_
      intro R2 hR2 hb2
      repeat' (first | (conv => whnf) | skip); (first | (refine VReq.mk (by kernel_rfl) ?_) | (refine kbox_top rfl rfl ?_) | (refine kget_some rfl ?_) | (refine VReq.mk rfl ?_))
      (conv => whnf)
      refine ⟨aH_nm nm _, ?_⟩
      (conv => whnf)
      exact kdone_pure h0 (by simp) ⟨rfl, rfl⟩
    | cons y r =>
      refine kwpm_of rfl (aH_nm nm _) ?_
      intro R2 hR2 hb2
      repeat' (first | (conv => whnf) | skip); (first | (refine VReq.mk (by kernel_rfl) ?_) | (refine kbox_top rfl rfl ?_) | (refine kget_some rfl ?_) | (refine krow_top rfl rfl ?_) | (refine VReq.mk rfl ?_))
      (conv => whnf)
      refine ⟨aH_nm nm _, ?_⟩
      (conv => whnf)
      refine kdone_row h0 rfl (by simp) (fun z hz => ?_) ⟨rfl, rfl⟩
      obtain ⟨q, _, rfl⟩ := List.mem_map.1 hz
      exact .v _
theorem collect_spec (c : Int) (id : Nat) (H : List VB) (hid : H[id]? = some (.box [I c])) (nm : NoMap H) :
    VCalls Try.prog 57 [.fn 76 [.ptr id 0]] H (fun r H' => r = lstv (memA c 7) ∧ H' = H) := by
  refine kcalls Try.func57 rfl (by kernel_rfl) rfl ?_
  intro R0 h0 hb
  have e0 : KH.flat ⟨H.length, H, []⟩ = H := by simp [KH.flat]
  cases hmem : memA c 7 with
  | nil =>
    repeat' (first | (conv => whnf) | skip); (first | (refine kcall_pure (r0 := lstv []) (by rw [e0, ← hmem]; exact appendSeq_spec c id H hid nm) rfl ?_) | (refine kdone_pure h0 (by simp) ⟨?_, rfl⟩))
    rfl
  | cons y r =>
    repeat' (first | (conv => whnf) | skip); (first | (refine kcall_pure (r0 := lstv (y :: r)) (by rw [e0, ← hmem]; exact appendSeq_spec c id H hid nm) rfl ?_) | (refine kdone_pure h0 (by rw [bel_list]; intro z hz; obtain ⟨q, _, rfl⟩ := List.mem_map.1 hz; exact .v _) ⟨?_, rfl⟩))
    rfl
theorem plist_spec (c : Int) (H : List VB) (nm : NoMap H) : VCalls Try.prog 19 [I c] H (fun r H' => r = lstv (memA c 7) ∧ H' = H) := by
  refine kcalls Try.func19 rfl (by kernel_rfl) rfl ?_
  intro R0 h0 hb
  have nm2 : NoMap (KH.flat ⟨H.length, H, [.box [I c]]⟩) := noMap_append (X := [.box [I c]]) nm (by intro b hb es he; subst he; simp at hb)
  have hcol := collect_spec c (H.length + 0) (KH.flat ⟨H.length, H, [.box [I c]]⟩) (flat_get_top rfl 0) nm2
  (conv => whnf)
  refine ⟨(members_spec c _).mono ?_⟩
  rintro r H' ⟨e1, e2⟩
  have e0 : KH.flat ⟨H.length, H, []⟩ = H := by simp [KH.flat]
  have e3 : r = .fn 76 [.ptr (H.length + 0) 0] := e1.trans (congrArg (fun L : List VB => SV.fn 76 [.ptr L.length 0]) e0)
  have e4 : H' = H ++ [.box [I c]] := e2.trans (congrArg (fun L : List VB => L ++ [.box [I c]]) e0)
  clear e1 e2
  subst e3
  refine ⟨⟨H.length, H, [.box [I c]]⟩, by rw [e4]; rfl, rfl, rfl, ?_⟩
  cases hmem : memA c 7 with
  | nil =>
    rw [hmem] at hcol
    repeat' (first | (conv => whnf) | skip); (first | (refine kcall_pure (r0 := lstv []) hcol rfl ?_) | (refine kdone_pure h0 (by simp) ⟨?_, rfl⟩))
    rfl
  | cons y r =>
    rw [hmem] at hcol
    repeat' (first | (conv => whnf) | skip); (first | (refine kcall_pure (r0 := lstv (y :: r)) hcol rfl ?_) | (refine kdone_pure h0 (by rw [bel_list]; intro z hz; obtain ⟨q, _, rfl⟩ := List.mem_map.1 hz; exact .v _) ⟨?_, rfl⟩))
    rfl
end Go.Vm

/- PeersBest: the plain law. -/
set_option linter.unusedVariables false
set_option linter.unusedSimpArgs false
namespace Go.Vm
open Go.Proofs
set_option maxRecDepth 100000
def orI (a b : Int) : Int := IntKind.i64.wrap ((BitVec.ofInt IntKind.i64.bits a ||| BitVec.ofInt IntKind.i64.bits b).toNat : Int)
theorem tb_or (a b : Int) (i : Nat) : tb (orI a b) i = (tb a i || tb b i) := by
  unfold tb orI
  show (BitVec.ofInt 64 (IntKind.i64.wrap ((BitVec.ofInt 64 a ||| BitVec.ofInt 64 b).toNat : Int))).getLsbD i = _
  rw [ofInt_wrap, BitVec.getLsbD_or]
theorem tb_pow {k i : Nat} (hk : k < 7) : tb (IntKind.i64.wrap (1 * 2 ^ (min k IntKind.i64.bits))) i = decide (k = i) := by
  have h1 : min k IntKind.i64.bits = k := by have : IntKind.i64.bits = 64 := rfl; omega
  have hp := pow_lt (k := k) (by omega)
  obtain ⟨m, hm⟩ : ∃ m, 2 ^ k = m := ⟨_, rfl⟩
  have h2 : (2 : Int) ^ k = (m : Int) := by rw [← hm]; simp
  rw [hm] at hp
  rw [h1, Int.one_mul, IntWalk.i64_in ((2 : Int) ^ k) (by rw [h2]; omega)]
  unfold tb
  rw [ofInt_pow (by omega), BitVec.getLsbD_twoPow]
  have : k < 64 := by omega
  simp [this]
theorem cnt_hav (c : Int) (ms : List Int) (p : Int → Bool) : (hav c ms (memA c 7)).countP p = sm fun k => (tb c k && p (ms.getD k 0)).toNat := by
  have h : ∀ n, n < 7 → (hav c ms (memA c (n + 1))).countP p = (hav c ms (memA c n)).countP p + (tb c n && p (ms.getD n 0)).toNat := fun n hn => by
    cases hb : tb c n with
    | false => rw [memA_no hb]; simp
    | true =>
      have := memA_yes (c := c) (k := n) ⟨by omega, by omega⟩ (by simpa using hb)
      simp only [Int.toNat_natCast] at this
      rw [this, hav, List.map_append, List.countP_append]
      unfold hav
      simp only [List.map_cons, List.map_nil, List.countP_cons, List.countP_nil, Int.toNat_natCast, Bool.true_and]
      cases p (ms.getD n 0) <;> simp
  rw [h 6 (by omega), h 5 (by omega), h 4 (by omega), h 3 (by omega), h 2 (by omega), h 1 (by omega), h 0 (by omega)]
  simp [memA, hav, sm]
/-- Which of some members fulfil something. -/
def anyA (p : Int → Bool) (ms : List Int) (l : List M7) (k : Nat) : Bool := l.any fun x => decide (x.1 = (k : Int)) && p (ms.getD k 0)
theorem anyA_mem (p : Int → Bool) (c : Int) (ms : List Int) : ∀ n, n ≤ 7 → ∀ k, anyA p ms (memA c n) k = (decide (k < n) && tb c k && p (ms.getD k 0))
  | 0, _, k => by simp [anyA, memA]
  | n + 1, hn, k => by
    have ih := anyA_mem p c ms n (by omega) k
    cases hb : tb c n with
    | false =>
      rw [memA_no hb, ih]
      by_cases h : k = n
      · subst h; simp [hb]
      · have : (k < n) = (k < n + 1) := by apply propext; omega
        simp [this]
    | true =>
      have := memA_yes (c := c) (k := n) ⟨by omega, by omega⟩ (by simpa using hb)
      simp only [Int.toNat_natCast] at this
      rw [this]
      unfold anyA at ih ⊢
      rw [List.any_append, ih]
      by_cases h : k = n
      · subst h; simp [hb]
      · have h2 : ¬ ((n : Int) = (k : Int)) := by omega
        have : (k < n) = (k < n + 1) := by apply propext; omega
        simp [this, h2]
theorem best_law {c v : Int} {ms : List Int} (hc : chk c = 0) (hv : MatOk (hav c ms (memA c 7)) v) {a b : Int} (ha : ∀ k, k < 7 → tb a k = anyA (fun x => decide (v ≤ x)) ms (memA c 7) k) (hb : ∀ k, k < 7 → tb b k = anyA (fun x => decide (v < x)) ms (memA c 7) k) :
    quo c a = true ∧ quo c b = false := by
  have key : ∀ (p : Int → Bool) (y : Int), (∀ k, k < 7 → tb y k = anyA p ms (memA c 7) k) → cnt (andI c y) = (hav c ms (memA c 7)).countP p := fun p y hy => by
    rw [cnt_hav, cnt_sm]
    have : ∀ k, k < 7 → (tb (andI c y) k).toNat = (tb c k && p (ms.getD k 0)).toNat := fun k hk => by
      rw [tb_and, hy k hk, anyA_mem p c ms 7 (by omega)]
      cases tb c k <;> simp [hk]
    exact Nat.le_antisymm (sm_le fun k hk => Nat.le_of_eq (this k hk)) (sm_le fun k hk => Nat.le_of_eq (this k hk).symm)
  have hlen : (hav c ms (memA c 7)).length = cnt c := by rw [hav_len, mems_cnt]
  have hpos : 0 < cnt c := by
    unfold chk at hc
    split at hc
    · rename_i h
      have hd : ∀ n : Nat, n < 128 → 0 < n → 0 < pop7 n := by decide +kernel
      rw [cnt_pop]
      refine hd _ (lo7_lt c) ?_
      have : lo7 c = c.toNat := by
        unfold lo7
        have e : c = ((c.toNat : Nat) : Int) := by omega
        have hk : c.toNat < 128 := by omega
        rw [e]
        generalize c.toNat = k at hk
        revert k
        decide +kernel
      omega
    · cases hc
  have hne : hav c ms (memA c 7) ≠ [] := fun h => by rw [h] at hlen; simp at hlen; omega
  obtain ⟨h1, h2, h3⟩ := matOk_count hv hne
  rw [hlen] at h2 h3
  unfold quo
  rw [key _ a ha, key _ b hb]
  constructor
  · simp only [Bool.and_eq_true, decide_eq_true_eq]; omega
  · rw [decide_eq_false (p := cnt c / 2 < _) (by omega), Bool.and_false]
end Go.Vm

/- PeersBest: the walk. -/
set_option linter.unusedVariables false
set_option linter.unusedSimpArgs false
namespace Go.Vm
open Go.Proofs
set_option maxRecDepth 100000
theorem memA_ne {c : Int} (hc : chk c = 0) : memA c 7 ≠ [] := by
  intro h
  have h1 : (hav c [] (memA c 7)).length = cnt c := by rw [hav_len, mems_cnt]
  rw [h] at h1
  unfold chk at hc
  split at hc
  · rename_i hr
    have hd : ∀ n : Nat, n < 128 → 0 < n → 0 < pop7 n := by decide +kernel
    have : lo7 c = c.toNat := by
      unfold lo7
      have e : c = ((c.toNat : Nat) : Int) := by omega
      have hk : c.toNat < 128 := by omega
      rw [e]
      generalize c.toNat = k at hk
      revert k
      decide +kernel
    have := hd (lo7 c) (lo7_lt c) (by omega)
    rw [← cnt_pop] at this
    simp [hav] at h1
    omega
  · cases hc
theorem any_step {p : Int → Bool} {ms : List Int} {L : List M7} {i : Nat} (hi : i < L.length) (k : Nat) : anyA p ms (L.take (i + 1)) k = (anyA p ms (L.take i) k || (decide (L[i].1 = (k : Int)) && p (ms.getD k 0))) := by
  unfold anyA
  rw [List.take_add_one, List.getElem?_eq_getElem hi, Option.toList_some, List.any_append, List.any_cons, List.any_nil, Bool.or_false]
theorem peersBest_spec (c m0 m1 m2 m3 m4 m5 m6 : Int) : VCalls Try.prog 5 [I c, .agg [I m0, I m1, I m2, I m3, I m4, I m5, I m6]] [] fun r H' => r = .v (.bool true) := by
  refine VCalls.mono (K := fun r H' => r = B true ∧ H' = []) ?_ fun r H' h => h.1
  refine kcalls Try.func5 rfl (by kernel_rfl) rfl ?_
  intro R0 h0 hb
  have nm : NoMap (KH.flat ⟨([] : List VB).length, [], [.box [I m0, I m1, I m2, I m3, I m4, I m5, I m6]]⟩) := noMap_append (H := []) (X := [.box [I m0, I m1, I m2, I m3, I m4, I m5, I m6]]) (by intro id es h; simp at h) (by intro b hb es he; subst he; simp at hb)
  have hc22 : Try.prog.cellsOf 22 = 7 := by kernel_rfl
  have hms := @match_spec c m0 m1 m2 m3 m4 m5 m6 _ nm
  repeat' (first | (conv => whnf) | skip); (first | (refine VReq.mk (by kernel_rfl) ?_) | (refine VReq.mk (by rw [hc22]; exact Nat.le_refl 7) ?_) | (refine kbox_top rfl rfl ?_) | (refine kcall_some (p := fun r => ∃ v, MatOk (hav c [m0, m1, m2, m3, m4, m5, m6] (memA c 7)) v ∧ r = I v) (hms.mono fun r H' ⟨v, hv, e1, e2⟩ => ⟨⟨v, hv, e1⟩, e2⟩) rfl ?_; rintro r ⟨v, hv, rfl⟩) | (refine kcall_pure (pcheck_spec _ _) rfl ?_) | (refine kcall_pure (awake_spec _ nm) rfl ?_) | (refine VIf.mk (fun _ => ?_) (fun h => ?_)) | (refine kdone_pure h0 (by simp) ⟨?_, rfl⟩))
  · rename_i hck
    have hln := memA_len c 7
    obtain ⟨y, r, hmem⟩ := List.exists_cons_of_ne_nil (memA_ne hck)
    have hpl := plist_spec c _ nm
    rw [hmem] at hpl hln
    have hbl := fun {a b : Int} => best_law (a := a) (b := b) hck hv
    rw [hmem] at hbl
    refine kcall_pure (r0 := .list 1 false ((y :: r).map fun y : M7 => I y.1)) hpl rfl ?_
    repeat' (first | (conv => whnf) | skip); (first | (refine VReq.mk (by kernel_rfl) ?_))
    (conv => whnf)
    refine kwp_loop (S := Nat × Int × Int) (fun s => [(0, I c), (3, .ptr (([] : List VB).length + 0) 0), (5, I v), (6, I s.2.1), (7, I s.2.2), (18, .list 1 false ((y :: r).map fun y : M7 => I y.1)), (19, I (((y :: r).map fun y : M7 => I y.1).length : Nat)), (20, I s.1)]) (fun s => ⟨([] : List VB).length, [], [.box [I m0, I m1, I m2, I m3, I m4, I m5, I m6]]⟩)
      (fun s => s.1 ≤ (y :: r).length ∧ (∀ k, k < 7 → tb s.2.1 k = anyA (fun x => decide (v ≤ x)) [m0, m1, m2, m3, m4, m5, m6] ((y :: r).take s.1) k) ∧ (∀ k, k < 7 → tb s.2.2 k = anyA (fun x => decide (v < x)) [m0, m1, m2, m3, m4, m5, m6] ((y :: r).take s.1) k)) (fun s => (y :: r).length - s.1) (0, 0, 0) ⟨by simp, fun k hk => by simp [anyA, tb], fun k hk => by simp [anyA, tb]⟩ (tsub_cons rfl (tsub_cons rfl (tsub_cons rfl (tsub_cons rfl (tsub_cons rfl (tsub_cons rfl (tsub_cons rfl (tsub_cons rfl tsub_nil)))))))) rfl (fun i hi => ⟨rfl, rfl⟩) ?_
    rintro ⟨i, a, b⟩ ⟨hi, ha, hb'⟩
    dsimp only at hi ha hb'
    have hlm : (((y :: r).map fun y : M7 => I y.1).length : Int) = ((y :: r).length : Nat) := by rw [List.length_map]
    rcases Nat.lt_or_ge i (y :: r).length with hlt | hge
    · have hx := (y :: r)[i].2
      have hgi : ((y :: r).map fun y : M7 => I y.1)[((i : Nat) : Int).toNat]? = some (I (y :: r)[i].1) := by rw [Int.toNat_natCast, List.getElem?_map, List.getElem?_eq_getElem hlt]; rfl
      have hst := fun p => @any_step p [m0, m1, m2, m3, m4, m5, m6] (y :: r) i hlt
      generalize (y :: r)[i].1 = x at hx hgi hst
      obtain ⟨n, rfl⟩ : ∃ n : Nat, x = n := ⟨x.toNat, by omega⟩
      have hn : n < 7 := by omega
      have hup : ∀ (p : Int → Bool) (z : Int), (∀ k, k < 7 → tb z k = anyA p [m0, m1, m2, m3, m4, m5, m6] ((y :: r).take i) k) → p ([m0, m1, m2, m3, m4, m5, m6].getD n 0) = true → ∀ k, k < 7 → tb (orI z (IntKind.i64.wrap (1 * 2 ^ (min n IntKind.i64.bits)))) k = anyA p [m0, m1, m2, m3, m4, m5, m6] ((y :: r).take (i + 1)) k := fun p z hz hp k hk => by
        rw [hst p k, tb_or, hz k hk, tb_pow hn]
        by_cases h : n = k
        · subst h; rw [hp]; simp
        · have : ¬ ((n : Int) = (k : Int)) := by omega
          simp [h, this]
      have hno : ∀ (p : Int → Bool) (z : Int), (∀ k, k < 7 → tb z k = anyA p [m0, m1, m2, m3, m4, m5, m6] ((y :: r).take i) k) → p ([m0, m1, m2, m3, m4, m5, m6].getD n 0) = false → ∀ k, k < 7 → tb z k = anyA p [m0, m1, m2, m3, m4, m5, m6] ((y :: r).take (i + 1)) k := fun p z hz hp k hk => by
        rw [hst p k, hz k hk]
        by_cases h : n = k
        · subst h; rw [hp]; simp
        · have : ¬ ((n : Int) = (k : Int)) := by omega
          simp [this]
      repeat' (first | (conv => whnf) | skip); (first | (refine VIf.mk (fun _ => ?_) (fun h => absurd (by first | omega | (dsimp only; omega)) h)) | (refine VIf.mk (fun h => absurd h (by first | omega | (dsimp only; omega))) (fun _ => ?_)) | (refine VIf.mk (fun _ => ?_) (fun _ => ?_)) | (refine VReq.mk (by kernel_rfl) ?_) | (refine VReq.mk ⟨by kernel_rfl, by first | omega | (dsimp only; omega)⟩ ?_) | (refine VReq.mk ⟨by omega, by omega⟩ ?_) | (refine VReq.mk (by omega) ?_) | (refine kget_some hgi ?_) | (refine kget_some (m7get hn) ?_) | (refine kget_some rfl ?_) | (refine kbox_top rfl rfl ?_) | (refine KEnd.mk ?_))
      · rename_i g1 g2 g3 g4 g5
        exact ⟨(i + 1, orI a (IntKind.i64.wrap (1 * 2 ^ (min n IntKind.i64.bits))), orI b (IntKind.i64.wrap (1 * 2 ^ (min n IntKind.i64.bits)))), ⟨hlt, hup _ a ha (decide_eq_true g4), hup _ b hb' (decide_eq_true g5)⟩, by dsimp only; omega, tsub_cons rfl (tsub_cons rfl (tsub_cons rfl (tsub_cons rfl (tsub_cons rfl (tsub_cons rfl (tsub_cons rfl (tsub_cons (congrArg I (inc64 (by simp only [List.length_cons] at hlt hln; omega))) tsub_nil))))))), rfl⟩
      · rename_i g1 g2 g3 g4 g5
        exact ⟨(i + 1, orI a (IntKind.i64.wrap (1 * 2 ^ (min n IntKind.i64.bits))), b), ⟨hlt, hup _ a ha (decide_eq_true g4), hno _ b hb' (decide_eq_false g5)⟩, by dsimp only; omega, tsub_cons rfl (tsub_cons rfl (tsub_cons rfl (tsub_cons rfl (tsub_cons rfl (tsub_cons rfl (tsub_cons rfl (tsub_cons (congrArg I (inc64 (by simp only [List.length_cons] at hlt hln; omega))) tsub_nil))))))), rfl⟩
      · rename_i g1 g2 g3 g4 g5
        exact ⟨(i + 1, a, b), ⟨hlt, hno _ a ha (decide_eq_false g4), hno _ b hb' (decide_eq_false g5)⟩, by dsimp only; omega, tsub_cons rfl (tsub_cons rfl (tsub_cons rfl (tsub_cons rfl (tsub_cons rfl (tsub_cons rfl (tsub_cons rfl (tsub_cons (congrArg I (inc64 (by simp only [List.length_cons] at hlt hln; omega))) tsub_nil))))))), rfl⟩
    · rw [List.take_of_length_le hge] at ha hb'
      obtain ⟨k1, k2⟩ := hbl ha hb'
      repeat' (first | (conv => whnf) | skip); (first | (refine VIf.mk (fun h => absurd h (by rw [hlm]; first | omega | (dsimp only; omega))) (fun _ => ?_)) | (refine VReq.mk (by kernel_rfl) ?_) | (refine kcall_bool (pquorum_spec c a _) rfl (fun _ => ?_) (fun h => by rw [k1] at h; cases h)) | (refine kcall_bool (pquorum_spec c b _) rfl (fun h => by rw [k2] at h; cases h) (fun _ => ?_)) | (refine kcall_pure (awake_spec _ nm) rfl ?_) | (refine kdone_pure h0 (by simp) ⟨?_, rfl⟩))
      rfl
  · rfl
end Go.Vm

/- slices.Equal of a list of numbers with itself; the nodes below a number. -/
set_option linter.unusedVariables false
set_option linter.unusedSimpArgs false
namespace Go.Vm
open Go.Proofs
set_option maxRecDepth 100000
theorem equal_spec (f1 f2 : Bool) (xs : List Int) (hl : xs.length ≤ 1000) (H : List VB) : VCalls Try.prog 34 [.list 1 f1 (xs.map I), .list 1 f2 (xs.map I)] H (fun r H' => r = B true ∧ H' = H) := by
  refine kcalls Try.func34 rfl (by kernel_rfl) rfl ?_
  intro R0 h0 hb
  repeat' (first | (conv => whnf) | skip); (first | (refine VIf.mk (fun _ => ?_) (fun h => absurd rfl h)) | (refine VReq.mk (by kernel_rfl) ?_))
  (conv => whnf)
  refine kwp_loop (S := Nat) (fun i => [(0, .list 1 f1 (xs.map I)), (1, .list 1 f2 (xs.map I)), (12, I ((xs.map I).length : Nat)), (13, I i)]) (fun i => ⟨H.length, H, []⟩) (fun i => i ≤ (xs.map I).length) (fun i => (xs.map I).length - i) 0 (by omega) (tsub_cons rfl (tsub_cons rfl (tsub_cons rfl (tsub_cons rfl tsub_nil)))) rfl (fun i hi => ⟨rfl, rfl⟩) ?_
  intro i hi
  have hlm : (xs.map I).length = xs.length := List.length_map ..
  rcases Nat.lt_or_ge i (xs.map I).length with hlt | hge
  · have hg : (xs.map I)[((i : Nat) : Int).toNat]? = some (I (xs.getD i 0)) := by rw [Int.toNat_natCast]; exact getI (by omega)
    repeat' (first | (conv => whnf) | skip); (first | (refine VIf.mk (fun _ => ?_) (fun h => absurd rfl h)) | (refine VIf.mk (fun _ => ?_) (fun _ => by omega)) | (refine VReq.mk (by kernel_rfl) ?_) | (refine VReq.mk ⟨by kernel_rfl, by omega⟩ ?_) | (refine kwp_draw (by kernel_rfl) (by kernel_rfl) rfl ?_) | (refine kget_some hg ?_) | (refine kget_some rfl ?_) | (refine KEnd.mk ?_))
    exact ⟨i + 1, hlt, by omega, tsub_cons rfl (tsub_cons rfl (tsub_cons rfl (tsub_cons (congrArg I (inc64 (by omega))) tsub_nil))), rfl⟩
  · repeat' (first | (conv => whnf) | skip); (first | (refine VIf.mk (fun h => absurd h (by omega)) (fun _ => ?_)) | (refine VReq.mk (by kernel_rfl) ?_) | (refine kdone_pure h0 (by simp) ⟨?_, rfl⟩))
    rfl
/-- The nodes below a number. -/
def allI (k : Nat) : Int := ((2 ^ k - 1 : Nat) : Int)
def upTo (n : Int) : Nat := min n.toNat 7
theorem pall_spec (n : Int) (H : List VB) : VCalls Try.prog 32 [I n] H (fun r H' => r = I (allI (upTo n)) ∧ H' = H) := by
  refine kcalls Try.func32 rfl (by kernel_rfl) rfl ?_
  intro R0 h0 hb
  repeat' (first | (conv => whnf) | skip); (first | (refine VIf.mk (fun _ => ?_) (fun _ => ?_)) | (refine VReq.mk (by omega) ?_) | (refine kdone_pure h0 (by simp) ⟨?_, rfl⟩))
  have e : (min (max n 0) 7).toNat = upTo n := by unfold upTo; omega
  have h7 : upTo n < 8 := by unfold upTo; omega
  rw [e]
  refine congrArg I ?_
  generalize upTo n = k at h7
  clear e h0 hb
  revert k
  decide +kernel
theorem r01with_spec (k : Nat) (hk : k < 7) (H : List VB) : VCalls Try.prog 65 [I (allI k), I k] H (fun r H' => r = I (allI (k + 1)) ∧ H' = H) := by
  refine kcalls Try.func65 rfl (by kernel_rfl) rfl ?_
  intro R0 h0 hb
  have hno : has61 (allI k) k = false := by revert k; decide +kernel
  repeat' (first | (conv => whnf) | skip); (first | (refine VIf.mk (fun h => absurd h (by omega)) (fun _ => ?_)) | (refine VReq.mk (by omega) ?_) | (refine kcall_bool (r01has_spec _ _ _) rfl (fun h => by rw [hno] at h; cases h) (fun _ => ?_)) | (refine kdone_pure h0 (by simp) ⟨?_, rfl⟩))
  refine congrArg I ?_
  clear h0 hb hno
  rename_i g1 g2 g3
  clear g1 g2 g3
  revert k
  decide +kernel
theorem r12all_spec (n : Int) (H : List VB) : VCalls Try.prog 33 [I n] H (fun r H' => r = I (allI (upTo n)) ∧ H' = H) := by
  refine kcalls Try.func33 rfl (by kernel_rfl) rfl ?_
  intro R0 h0 hb
  (conv => whnf)
  refine kwp_loop (S := Nat) (fun i => [(0, I n), (3, I (allI i)), (4, I i)]) (fun i => ⟨H.length, H, []⟩) (fun i => i ≤ upTo n) (fun i => upTo n - i) 0 (by omega) (tsub_cons rfl (tsub_cons rfl (tsub_cons rfl tsub_nil))) rfl (fun i hi => ⟨rfl, rfl⟩) ?_
  intro i hi
  have h7 : upTo n ≤ 7 := by unfold upTo; omega
  rcases Nat.lt_or_ge i (upTo n) with hlt | hge
  · have h1 : i < 7 := by omega
    have h2 : (i : Int) < n := by unfold upTo at hlt; omega
    repeat' (first | (conv => whnf) | skip); (first | (refine VIf.mk (fun _ => ?_) (fun h => absurd (by omega) h)) | (refine kcall_pure (r01with_spec i h1 _) rfl ?_) | (refine KEnd.mk ?_))
    exact ⟨i + 1, hlt, by omega, tsub_cons rfl (tsub_cons rfl (tsub_cons (congrArg I (inc64 (by omega))) tsub_nil)), rfl⟩
  · have he : i = upTo n := by omega
    subst he
    have h3 : ¬ ((upTo n : Nat) : Int) < 7 ∨ ¬ ((upTo n : Nat) : Int) < n := by unfold upTo; omega
    repeat' (first | (conv => whnf) | skip); (first | (refine VIf.mk (fun _ => by omega) (fun _ => ?_)) | (refine VIf.mk (fun _ => ?_) (fun _ => ?_)) | (refine kdone_pure h0 (by simp) ⟨?_, rfl⟩))
    all_goals rfl
end Go.Vm

/- PeersTells: the walk. -/
set_option linter.unusedVariables false
set_option linter.unusedSimpArgs false
namespace Go.Vm
open Go.Proofs
set_option maxRecDepth 100000
theorem equal_nil (f2 : Bool) (H : List VB) : VCalls Try.prog 34 [.v (.slice none 0 0), .list 1 f2 []] H (fun r H' => r = B true ∧ H' = H) := by
  refine kcalls Try.func34 rfl (by kernel_rfl) rfl ?_
  intro R0 h0 hb
  repeat' (first | (conv => whnf) | skip); (first | (refine VIf.mk (fun _ => ?_) (fun h => absurd rfl h)) | (refine VReq.mk (by kernel_rfl) ?_))
  (conv => whnf)
  refine kwp_loop (S := Unit) (fun _ => [(12, I 0), (13, I 0)]) (fun i => ⟨H.length, H, []⟩) (fun _ => True) (fun _ => 0) () trivial (tsub_cons rfl (tsub_cons rfl tsub_nil)) rfl (fun i hi => ⟨rfl, rfl⟩) ?_
  intro i hi
  repeat' (first | (conv => whnf) | skip); (first | (refine VIf.mk (fun h => absurd h (by decide)) (fun _ => ?_)) | (refine VReq.mk (by kernel_rfl) ?_) | (refine kdone_pure h0 (by simp) ⟨?_, rfl⟩))
  rfl
theorem quo_eq (c y : Int) : decide ((mems c 7).length < 2 * cntIn y (mems c 7)) = quo c y := by
  have e : cntIn y (mems c 7) = cnt (andI c y) := by
    rw [cntIn_mems, cnt_sm]
    simp only [tb_and]
    rfl
  rw [e, mems_cnt]
  unfold quo
  by_cases h : cnt c / 2 < cnt (andI c y)
  · rw [decide_eq_true (by omega), decide_eq_true (p := 0 < _) (by omega), decide_eq_true h]; rfl
  · rw [decide_eq_false (by omega), decide_eq_false (p := cnt c / 2 < _) h, Bool.and_false]
set_option maxHeartbeats 4000000 in
theorem peersTells_spec (c node y n : Int) : VCalls Try.prog 7 [I c, I node, I y, I n] [] fun r H' => r = .v (.bool true) := by
  refine VCalls.mono (K := fun r H' => r = B true ∧ H' = []) ?_ fun r H' h => h.1
  refine kcalls Try.func7 rfl (by kernel_rfl) rfl ?_
  intro R0 h0 hb
  have nm : NoMap (KH.flat ⟨([] : List VB).length, [], []⟩) := by intro id es h; simp [KH.flat] at h
  have hpl := plist_spec c _ nm
  have hrl := r12list_spec c (KH.flat ⟨([] : List VB).length, [], []⟩)
  rw [mems_memA c 7 (by omega)] at hrl
  have hq := r12quorum_spec c y (KH.flat ⟨([] : List VB).length, [], []⟩)
  rw [quo_eq] at hq
  cases hmem : memA c 7 with
  | nil =>
    rw [hmem] at hpl hrl
    repeat' (first | (conv => whnf) | skip); (first | (refine kcall_pure (r0 := lstv []) hpl rfl ?_) | (refine kcall_pure hrl rfl ?_) | (refine kcall_pure (equal_nil false _) rfl ?_) | (refine kcall_pure (pcheck_spec _ _) rfl ?_) | (refine kcall_pure (r12check_spec _ _) rfl ?_) | (refine kcall_bool (phas_spec _ _ _) rfl (fun _ => ?_) (fun _ => ?_)) | (refine kcall_bool (r12has_spec _ _ _) rfl (fun _ => ?_) (fun _ => ?_)) | (refine kcall_pure (pcount_spec _ _) rfl ?_) | (refine kcall_pure (r12count_spec _ _) rfl ?_) | (refine kcall_bool (pquorum_spec _ _ _) rfl (fun _ => ?_) (fun _ => ?_)) | (refine kcall_bool hq rfl (fun _ => ?_) (fun _ => ?_)) | (refine kcall_pure (pall_spec _ _) rfl ?_) | (refine kcall_pure (r12all_spec _ _) rfl ?_) | (refine kcall_pure (awake_spec _ nm) rfl ?_) | (refine VIf.mk (fun _ => ?_) (fun h => absurd rfl h)) | (refine kdone_pure h0 (by simp) ⟨?_, rfl⟩))
    all_goals (try rfl)
    all_goals (rename_i g1 g2; rw [g1] at g2; cases g2)
  | cons x r =>
    rw [hmem] at hpl hrl
    have heq := equal_spec false false ((x :: r).map fun z : M7 => z.1) (by have := memA_len c 7; rw [hmem] at this; simp at this ⊢; omega) (KH.flat ⟨([] : List VB).length, [], []⟩)
    rw [List.map_map] at heq
    repeat' (first | (conv => whnf) | skip); (first | (refine kcall_pure (r0 := lstv (x :: r)) hpl rfl ?_) | (refine kcall_pure hrl rfl ?_) | (refine kcall_pure heq rfl ?_) | (refine kcall_pure (pcheck_spec _ _) rfl ?_) | (refine kcall_pure (r12check_spec _ _) rfl ?_) | (refine kcall_bool (phas_spec _ _ _) rfl (fun _ => ?_) (fun _ => ?_)) | (refine kcall_bool (r12has_spec _ _ _) rfl (fun _ => ?_) (fun _ => ?_)) | (refine kcall_pure (pcount_spec _ _) rfl ?_) | (refine kcall_pure (r12count_spec _ _) rfl ?_) | (refine kcall_bool (pquorum_spec _ _ _) rfl (fun _ => ?_) (fun _ => ?_)) | (refine kcall_bool hq rfl (fun _ => ?_) (fun _ => ?_)) | (refine kcall_pure (pall_spec _ _) rfl ?_) | (refine kcall_pure (r12all_spec _ _) rfl ?_) | (refine kcall_pure (awake_spec _ nm) rfl ?_) | (refine VIf.mk (fun _ => ?_) (fun h => absurd rfl h)) | (refine kdone_pure h0 (by simp) ⟨?_, rfl⟩))
    all_goals (try rfl)
    all_goals (rename_i g1 g2; rw [g1] at g2; cases g2)
end Go.Vm

/- Layer 15: what the functions compute. -/
set_option linter.unusedVariables false
set_option linter.unusedSimpArgs false
namespace Go.Vm
open Go.Proofs
set_option maxRecDepth 100000
def hld (n : Int) : Int := min (max n 0) 2147483648
theorem hld_ge (n : Int) : 0 ≤ hld n ∧ hld n ≤ 2147483648 := by unfold hld; omega
def bak (a b c : Int) : Int := max (hld b + 1) (min (hld c + 1) (max (hld a - 1) 1))
theorem held_spec (n : Int) (H : List VB) : VCalls Try.prog 58 [I n] H (fun r H' => r = I (hld n) ∧ H' = H) := by
  refine kcalls Try.func58 rfl (by kernel_rfl) rfl ?_
  intro R0 h0 hb
  repeat' (first | (conv => whnf) | skip); (first | (refine VIf.mk (fun _ => ?_) (fun _ => ?_)) | (refine VReq.mk (by omega) ?_) | (refine kdone_pure h0 (by simp) ⟨?_, rfl⟩))
  rfl
theorem r15held_spec (n : Int) (H : List VB) : VCalls Try.prog 59 [I n] H (fun r H' => r = I (hld n) ∧ H' = H) := by
  refine kcalls Try.func59 rfl (by kernel_rfl) rfl ?_
  intro R0 h0 hb
  repeat' (first | (conv => whnf) | skip); (first | (refine VIf.mk (fun _ => ?_) (fun _ => ?_)) | (refine VReq.mk (by omega) ?_) | (refine kdone_pure h0 (by simp) ⟨?_, rfl⟩))
  rfl
theorem back_spec (a b c : Int) (H : List VB) : VCalls Try.prog 24 [I a, I b, I c] H (fun r H' => r = I (bak a b c) ∧ H' = H) := by
  refine kcalls Try.func24 rfl (by kernel_rfl) rfl ?_
  intro R0 h0 hb
  have ha := hld_ge a
  have hb' := hld_ge b
  have hc := hld_ge c
  repeat' (first | (conv => whnf) | skip); (first | (refine VIf.mk (fun _ => ?_) (fun _ => ?_)) | (refine kcall_pure (held_spec _ _) rfl ?_) | (refine VReq.mk (by omega) ?_) | (refine kwp_draw (by kernel_rfl) (by kernel_rfl) rfl ?_) | (refine kdone_pure h0 (by simp) ⟨?_, rfl⟩))
  refine congrArg I ?_
  rw [IntWalk.i64_in (hld a - 1) (by omega), IntWalk.i64_in (hld b + 1) (by omega), IntWalk.i64_in (hld c + 1) (by omega)]
  rfl
theorem r15back_spec (a b c : Int) (H : List VB) : VCalls Try.prog 25 [I a, I b, I c] H (fun r H' => r = I (bak a b c) ∧ H' = H) := by
  refine kcalls Try.func25 rfl (by kernel_rfl) rfl ?_
  intro R0 h0 hb
  have ha := hld_ge a
  have hb' := hld_ge b
  have hc := hld_ge c
  repeat' (first | (conv => whnf) | skip); (first | (refine VIf.mk (fun _ => ?_) (fun _ => ?_)) | (refine kcall_pure (r15held_spec _ _) rfl ?_) | (refine VReq.mk (by omega) ?_) | (refine kwp_draw (by kernel_rfl) (by kernel_rfl) rfl ?_) | (refine kdone_pure h0 (by simp) ⟨?_, rfl⟩))
  refine congrArg I ?_
  rw [IntWalk.i64_in (hld a - 1) (by omega), IntWalk.i64_in (hld b + 1) (by omega), IntWalk.i64_in (hld c + 1) (by omega)]
  rfl
theorem bwon_spec (c y : Int) (H : List VB) : VCalls Try.prog 22 [I c, I y] H (fun r H' => r = B (quo c y) ∧ H' = H) := by
  refine kcalls Try.func22 rfl (by kernel_rfl) rfl ?_
  intro R0 h0 hb
  repeat' (first | (conv => whnf) | skip); (first | (refine kcall_bool (pquorum_spec _ _ _) rfl (fun h => ?_) (fun h => ?_)) | (refine kdone_pure h0 (by simp) ⟨by rw [h], rfl⟩))
theorem bfresh_spec (a b c d : Int) (H : List VB) : VCalls Try.prog 60 [I a, I b, I c, I d] H (fun r H' => r = B (if b ≠ d then decide (d < b) else decide (c ≤ a)) ∧ H' = H) := by
  refine kcalls Try.func60 rfl (by kernel_rfl) rfl ?_
  intro R0 h0 hb
  repeat' (first | (conv => whnf) | skip); (first | (refine VIf.mk (fun _ => ?_) (fun _ => ?_)) | (refine kdone_pure h0 (by simp) ⟨?_, rfl⟩))
  all_goals simp_all
theorem bvote_spec (a b : Int) (f : Bool) (H : List VB) (ha : 0 < a ∧ a < 100) : VCalls Try.prog 61 [I a, I b, B f] H (fun r H' => r = B (decide (a - 1 = b) && f) ∧ H' = H) := by
  refine kcalls Try.func61 rfl (by kernel_rfl) rfl ?_
  intro R0 h0 hb
  cases f <;> repeat' (first | (conv => whnf) | skip); (first | (refine VIf.mk (fun h => by omega) (fun _ => ?_)) | (refine VIf.mk (fun _ => ?_) (fun _ => ?_)) | (refine kdone_pure h0 (by simp) ⟨?_, rfl⟩))
  all_goals (rename_i h; rw [IntWalk.i64_in (a - 1) (by omega)] at h; simp_all)
theorem btimeout_spec (H : List VB) : VCalls Try.prog 62 [I 2] H (fun r H' => r = I 16 ∧ H' = H) := by
  refine kcalls Try.func62 rfl (by kernel_rfl) rfl ?_
  intro R0 h0 hb
  repeat' (first | (conv => whnf) | skip); (first | (refine kcall_bool (within_spec _ _ _ _) rfl (fun _ => ?_) (fun h => absurd h (by decide))) | (refine VIf.mk (fun _ => ?_) (fun _ => ?_)) | (refine kdone_pure h0 (by simp) ⟨?_, rfl⟩))
  rfl
theorem awake15_spec (H : List VB) : VCalls Try.prog 26 [] H (fun r H' => r = B true ∧ H' = H) := by
  refine kcalls Try.func26 rfl (by kernel_rfl) rfl ?_
  intro R0 h0 hb
  repeat' (first | (conv => whnf) | skip); (first | (refine kcall_pure (bfresh_spec _ _ _ _ _) rfl ?_) | (refine kcall_pure (bvote_spec _ _ _ _ (by omega)) rfl ?_) | (refine kcall_pure (btimeout_spec _) rfl ?_) | (refine VIf.mk (fun _ => ?_) (fun h => absurd rfl h)) | (refine kdone_pure h0 (by simp) ⟨?_, rfl⟩))
  rfl
end Go.Vm

/- BallotCommits: the walk. -/
set_option linter.unusedVariables false
set_option linter.unusedSimpArgs false
namespace Go.Vm
open Go.Proofs
set_option maxRecDepth 100000
def com (v a d e : Int) : Int := if d = e then max a v else a
/-- What more than half of the members have. -/
def matV (c : Int) (ms : List Int) : Int := (refRun (hav c ms (memA c 7)) (mems c 7).length).1
theorem bcommit_spec (c m0 m1 m2 m3 m4 m5 m6 a d e : Int) (H : List VB) (nm : NoMap H) : VCalls Try.prog 20 [I c, .agg [I m0, I m1, I m2, I m3, I m4, I m5, I m6], I a, I d, I e] H (fun r H' => r = I (com (matV c [m0, m1, m2, m3, m4, m5, m6]) a d e) ∧ H' = H) := by
  have nm' : NoMap (KH.flat ⟨H.length, H, [.box [I m0, I m1, I m2, I m3, I m4, I m5, I m6]]⟩) := noMap_append (H := H) (X := [.box [I m0, I m1, I m2, I m3, I m4, I m5, I m6]]) nm (by intro b hb es he; subst he; simp at hb)
  have hms := @match_spec c m0 m1 m2 m3 m4 m5 m6 _ nm'
  have hms2 : VCalls Try.prog 11 [I c, .agg [I m0, I m1, I m2, I m3, I m4, I m5, I m6]] (KH.flat ⟨H.length, H, [.box [I m0, I m1, I m2, I m3, I m4, I m5, I m6]]⟩) (fun r H' => r = I (matV c [m0, m1, m2, m3, m4, m5, m6]) ∧ H' = (KH.flat ⟨H.length, H, [.box [I m0, I m1, I m2, I m3, I m4, I m5, I m6]]⟩)) :=
    hms.mono fun r H' ⟨v, hv, e1, e2⟩ => ⟨by rw [e1, matV, ← hav_len c [m0, m1, m2, m3, m4, m5, m6], ref_is hv], e2⟩
  have hc22 : Try.prog.cellsOf 22 = 7 := by kernel_rfl
  refine kcalls Try.func20 rfl (by kernel_rfl) rfl ?_
  intro R0 h0 hb
  repeat' (first | (conv => whnf) | skip); (first | (refine VIf.mk (fun _ => ?_) (fun _ => ?_)) | (refine VReq.mk (by kernel_rfl) ?_) | (refine VReq.mk (by rw [hc22]; exact Nat.le_refl 7) ?_) | (refine kbox_top rfl rfl ?_) | (refine kcall_pure hms2 rfl ?_) | (refine kdone_pure h0 (by simp) ⟨?_, rfl⟩))
  · rename_i h; rw [com, if_pos h]
  · rename_i h; rw [com, if_neg h]
theorem r15commit_spec (c m0 m1 m2 m3 m4 m5 m6 a d e : Int) (H : List VB) : VCalls Try.prog 21 [I c, .agg [I m0, I m1, I m2, I m3, I m4, I m5, I m6], I a, I d, I e] H (fun r H' => r = I (com (matV c [m0, m1, m2, m3, m4, m5, m6]) a d e) ∧ H' = H) := by
  have hc22 : Try.prog.cellsOf 22 = 7 := by kernel_rfl
  refine kcalls Try.func21 rfl (by kernel_rfl) rfl ?_
  intro R0 h0 hb
  repeat' (first | (conv => whnf) | skip); (first | (refine VIf.mk (fun _ => ?_) (fun _ => ?_)) | (refine VReq.mk (by kernel_rfl) ?_) | (refine VReq.mk (by rw [hc22]; exact Nat.le_refl 7) ?_) | (refine kbox_top rfl rfl ?_) | (refine kcall_pure (r12match_spec c m0 m1 m2 m3 m4 m5 m6 _) rfl ?_) | (refine kdone_pure h0 (by simp) ⟨?_, rfl⟩))
  all_goals (refine congrArg I ?_; unfold com matV; repeat' split)
  all_goals omega
theorem r12won_spec (c y : Int) (H : List VB) : VCalls Try.prog 23 [I c, I y] H (fun r H' => r = B (quo c y) ∧ H' = H) := by
  refine kcalls Try.func23 rfl (by kernel_rfl) rfl ?_
  intro R0 h0 hb
  have hq := r12quorum_spec c y (KH.flat ⟨H.length, H, []⟩)
  rw [quo_eq] at hq
  repeat' (first | (conv => whnf) | skip); (first | (refine kcall_bool hq rfl (fun h => ?_) (fun h => ?_)) | (refine kdone_pure h0 (by simp) ⟨by rw [h], rfl⟩))
theorem ballotCommits_spec (c m0 m1 m2 m3 m4 m5 m6 a d e : Int) : VCalls Try.prog 6 [I c, .agg [I m0, I m1, I m2, I m3, I m4, I m5, I m6], I a, I d, I e] [] fun r H' => r = .v (.bool true) := by
  refine VCalls.mono (K := fun r H' => r = B true ∧ H' = []) ?_ fun r H' h => h.1
  refine kcalls Try.func6 rfl (by kernel_rfl) rfl ?_
  intro R0 h0 hb
  have nm' : NoMap (KH.flat ⟨([] : List VB).length, [], [.box [I m0, I m1, I m2, I m3, I m4, I m5, I m6]]⟩) := noMap_append (H := []) (X := [.box [I m0, I m1, I m2, I m3, I m4, I m5, I m6]]) (by intro id es h; simp at h) (by intro b hb es he; subst he; simp at hb)
  have hc22 : Try.prog.cellsOf 22 = 7 := by kernel_rfl
  repeat' (first | (conv => whnf) | skip); (first | (refine VReq.mk (HExt.refl _) ?_) | (refine kwp_draw_in [0, 1, 2, 3, 4, 6, 7, 8, 9, 10, 5, 11, 12, 13, 14, 15, 17, 18, 16, 19, 20, 21, 22] [5] (by kernel_rfl) (by kernel_rfl) (by kernel_rfl) rfl ?_) | (refine VReq.mk (by kernel_rfl) ?_) | (refine VReq.mk (by rw [hc22]; exact Nat.le_refl 7) ?_) | (refine kbox_top rfl rfl ?_) | (refine kcall_pure (bcommit_spec c m0 m1 m2 m3 m4 m5 m6 a d e _ nm') rfl ?_) | (refine kcall_pure (r15commit_spec c m0 m1 m2 m3 m4 m5 m6 a d e _) rfl ?_) | (refine kcall_bool (bwon_spec _ _ _) rfl (fun _ => ?_) (fun _ => ?_)) | (refine kcall_bool (r12won_spec _ _ _) rfl (fun _ => ?_) (fun _ => ?_)) | (refine kcall_pure (back_spec _ _ _ _) rfl ?_) | (refine kcall_pure (r15back_spec _ _ _ _) rfl ?_) | (refine kcall_pure (awake15_spec _) rfl ?_) | (refine VIf.mk (fun _ => ?_) (fun h => absurd rfl h)) | (refine kdone_pure h0 (by simp) ⟨?_, rfl⟩))
  all_goals (try rfl)
  all_goals (rename_i g1 g2; rw [g1] at g2; cases g2)
end Go.Vm
