/- place.Order, baileyref29.Order: what they compute. -/
import Derived.Test.YthgpapnbnapdhaaP2
set_option linter.unusedVariables false
set_option linter.unusedSimpArgs false
namespace Go.Vm
open Go.Proofs
set_option maxRecDepth 100000
def ndI (x : RK) : SV := I (x.1.val : Nat)
/-- The nodes in their order, as a row of numbers. -/
def ordN (sum : ByteArray) (k : Nat) : List SV := (ordK sum k).map ndI
def upT (n : Int) : Nat := min n.toNat 7
theorem upT_le (n : Int) : upT n ≤ 7 := by unfold upT; omega
theorem nodesK_succ (sum : ByteArray) (k : Nat) : nodesK sum (k + 1) = nodesK sum k ++ [(Fin.ofNat 8 k, rk sum k)] := by
  rw [nodesK, List.range_succ, List.map_append]; rfl
theorem nodesK_len (sum : ByteArray) (k : Nat) : (nodesK sum k).length = k := by simp [nodesK]
theorem belE {n : Nat} {l : List RK} : ∀ x, x ∈ l.map E → SV.Bel n x := fun x hx => by
  obtain ⟨z, _, rfl⟩ := List.mem_map.1 hx
  exact .agg _ fun c hc => by
    simp only [List.mem_cons, List.not_mem_nil, or_false] at hc
    rcases hc with rfl | rfl <;> exact .v _
theorem belN {n : Nat} {l : List RK} : ∀ x, x ∈ l.map ndI → SV.Bel n x := fun x hx => by
  obtain ⟨z, _, rfl⟩ := List.mem_map.1 hx; exact .v _
theorem cellsN {H : List VB} {l : List RK} : ∀ y, y ∈ l.map ndI → ∀ c, c ∈ y.cells → svCell H c = true := fun y hy c hc => by
  obtain ⟨x, _, rfl⟩ := List.mem_map.1 hy
  simp only [ndI, SV.cells, List.mem_singleton] at hc
  subst hc; rfl
theorem cellsE {H : List VB} (x : RK) : ∀ c, c ∈ (E x).cells → svCell H c = true := fun c hc => by
  simp only [E, SV.cells, List.mem_cons, List.not_mem_nil, or_false] at hc
  rcases hc with rfl | rfl <;> rfl
theorem pOrder_gen (sum : ByteArray) (hs : sum.size ≤ 500000) (n : Int) (H : List VB) (K : SV → List VB → Prop) (hK : K (.list 1 false (ordN sum (upT n))) H ∨ K (.slc (H.length + 1) (upT n) 0 (upT n)) (H ++ [.dead, .row (upT n) 1 (ordN sum (upT n))])) : VCalls Try.prog 37 [T sum, I n] H K := by
  have hc3 : Try.prog.cellsOf 3 = 1 := by kernel_rfl
  have hc60 : Try.prog.cellsOf 60 = 2 := by kernel_rfl
  have hk7 := upT_le n
  have hmin : min (max n 0) 7 = ((upT n : Nat) : Int) := by unfold upT; omega
  refine kcalls Try.func37 rfl (by kernel_rfl) rfl ?_
  intro R0 h0 hb
  (conv => whnf)
  rw [hmin]
  generalize upT n = k at *
  refine kwp_nilrow 5 2 rfl rfl ?_
  refine kwp_loop (S := Nat) (fun i => [(0, T sum), (5, .slc (H.length + 0) i 0 (nodesK sum i).length), (12, I k), (13, I i)]) (fun i => ⟨H.length, H, [.row i 2 ((nodesK sum i).map E)]⟩) (fun i => i ≤ k) (fun i => k - i) 0 (by omega) (tsub_cons rfl (tsub_cons rfl (tsub_cons rfl (tsub_cons rfl tsub_nil)))) rfl (fun i hi => ⟨rfl, rfl⟩) ?_
  intro i hi
  have hil : ((nodesK sum i).map E).length = i := by rw [List.length_map, nodesK_len]
  rcases Nat.lt_or_ge i k with hlt | hge
  · have hE : E (Fin.ofNat 8 i, rk sum i) = .agg [I i, T (rk sum i)] := by
      simp only [E]; rw [show (Fin.ofNat 8 i).val = i by simp [Fin.ofNat]; omega]
    have hnx : (nodesK sum i).map E ++ [E (Fin.ofNat 8 i, rk sum i)] = (nodesK sum (i + 1)).map E := by rw [nodesK_succ, List.map_append]; rfl
    have hcl1 : ∀ (HH : List VB) (y : SV), y ∈ [E (Fin.ofNat 8 i, rk sum i)] → ∀ c, c ∈ y.cells → svCell HH c = true := fun HH y hy c hc => by
      rw [List.mem_singleton] at hy; subst hy; exact cellsE _ c hc
    repeat' (first | (conv => whnf) | skip); (first | (refine VIf.mk (fun _ => ?_) (fun h => absurd (by omega) h)) | (refine kcall_pure (rank_spec sum hs i (by omega) _) rfl ?_) | (refine VReq.mk ⟨by kernel_rfl, Nat.le_of_ble_eq_true (by kernel_rfl)⟩ ?_) | (refine VReq.mk ⟨by kernel_rfl, by kernel_rfl⟩ ?_) | (refine kb_append_top (j := 0) (n := 2) (ys := [E (Fin.ofNat 8 i, rk sum i)]) rfl (by kernel_rfl) rfl (List.length_map ..).symm ((vsrc_list hc60).trans (by rw [hE]; rfl)) (by rw [hil]; simp only [List.length_cons, List.length_nil]; omega) (hcl1 _) ?_) | (refine VReq.mk (show _ = _ by kernel_rfl) ?_) | (refine KEnd.mk ?_))
    refine ⟨i + 1, hlt, by omega, tsub_cons rfl (tsub_cons ?_ (tsub_cons rfl (tsub_cons (congrArg I (inc64 (by omega))) tsub_nil))), congrArg (fun z => KH.mk H.length H [.row (i + 1) 2 z]) hnx⟩
    exact congrArg (fun z => SV.slc (H.length + 0) (i + 1) 0 z) ((congrArg List.length hnx).trans (List.length_map ..))
  · obtain rfl : i = k := by omega
    repeat' (first | (conv => whnf) | skip); (first | (refine VIf.mk (fun h => absurd h (by omega)) (fun _ => ?_)))
    refine ⟨VCalls.mono (sort_specR order_spec cmpK_as cmpK_tr (KH.flat ⟨H.length, H, [.row i 2 ((nodesK sum i).map E)]⟩) (H.length + 0) i (nodesK sum i) (flat_get_top (n0 := H.length) rfl 0) (by rw [nodesK_len]; omega)) ?_⟩
    rintro r' H2 ⟨ys, hp, hsr, er, e⟩
    subst er
    rw [nodesK_len] at hsr
    obtain rfl := srt_is (by omega) hp hsr
    have hol : ((ordK sum i).map E).length = i := by rw [List.length_map, ordK_len]
    refine ⟨⟨H.length, H, [.row i 2 ((ordK sum i).map E)]⟩, by rw [e]; exact (flat_set_top (n0 := H.length) (top := [.row i 2 ((nodesK sum i).map E)]) rfl 0 _).symm, rfl, rfl, ?_⟩
    rw [nodesK_len]
    repeat' (first | (conv => whnf) | skip); (first | (refine krow_top (j := 0) rfl rfl ?_) | (refine VReq.mk rfl ?_))
    (conv => whnf)
    refine kwp_nilrow 7 1 rfl rfl ?_
    refine kwp_loop_drop (S := Nat) (h0 ▸ hb) (fun j => [(7, .slc (H.length + 1) j 0 (((ordK sum i).take j).map ndI).length), (27, .slc (H.length + 0) i 0 i), (28, I i), (29, I j)]) (fun j => ⟨H.length, H, [.row i 2 ((ordK sum i).map E), .row j 1 (((ordK sum i).take j).map ndI)]⟩) (fun j => j ≤ i) (fun j => i - j) 0 (by omega) (tsub_cons rfl (tsub_cons rfl (tsub_cons rfl (tsub_cons rfl tsub_nil)))) rfl (fun j hj => ⟨rfl, rfl⟩) (fun j hj => ⟨?bel1, ?bel2, by simp [KH.flat, h0]⟩) ?_
    case bel1 =>
      intro p hp
      simp only [List.mem_cons, List.not_mem_nil, or_false] at hp
      rcases hp with rfl | rfl | rfl | rfl <;> simp [KH.flat]
    case bel2 =>
      intro id bb hbb
      rcases Nat.lt_or_ge id H.length with hlt | hge
      · left
        rw [KH.flat, List.getElem?_append_left hlt] at hbb
        rw [h0]; exact hbb
      · right
        rw [KH.flat, List.getElem?_append_right hge] at hbb
        obtain ⟨q, hq⟩ : ∃ q, id - H.length = q := ⟨_, rfl⟩
        rw [hq] at hbb
        match q, hbb with
        | 0, hbb => cases hbb; exact belE
        | 1, hbb => cases hbb; exact belN
        | q + 2, hbb => cases hbb
    intro j hj
    rcases Nat.lt_or_ge j i with hlt | hge
    · have hje : j < (ordK sum i).length := by rw [ordK_len]; exact hlt
      have hge0 : ((ordK sum i).map E)[0 + ((j : Nat) : Int).toNat]? = some (E (ordK sum i)[j]) := by rw [Nat.zero_add, Int.toNat_natCast, List.getElem?_map, List.getElem?_eq_getElem hje]; rfl
      have htl : (((ordK sum i).take j).map ndI).length = j := by rw [List.length_map, List.length_take]; omega
      have hnx : ((ordK sum i).take j).map ndI ++ [ndI (ordK sum i)[j]] = ((ordK sum i).take (j + 1)).map ndI := by rw [List.take_add_one, List.getElem?_eq_getElem hje, Option.toList_some, List.map_append]; rfl
      generalize (ordK sum i)[j] = x at hge0 hnx
      have hle : Try.prog.cellsOf 60 ≤ ((E x).cells.drop 0).length := by rw [hc60]; exact Nat.le_refl 2
      have htk : ((E x).cells.drop 0).take (Try.prog.cellsOf 60) = (E x).cells := by rw [hc60]; rfl
      repeat' (first | (conv => whnf) | skip); (first | (refine VIf.mk (fun _ => ?_) (fun h => absurd (by omega) h)) | (refine krow_top (j := 0) rfl rfl ?_) | (refine VReq.mk ⟨by omega, by omega, rfl, hc60.symm, by rw [hol]; omega⟩ ?_) | (refine kget_some hge0 ?_) | (refine VReq.mk hle ?_; rw [htk]) | (refine VReq.mk (cellsE _) ?_) | (refine VReq.mk hc60.symm ?_) | (refine kbox_top (j := 2) rfl rfl ?_) | (refine VReq.mk (Nat.le_refl 2) ?_) | (refine kset_top (j := 2) rfl ?_) | (refine kget_some rfl ?_) | (refine VReq.mk ⟨by kernel_rfl, by kernel_rfl⟩ ?_) | (refine VReq.mk rfl ?_) | (refine kb_append_top (j := 1) (n := 1) (ys := [ndI x]) rfl (by kernel_rfl) rfl rfl (vsrc_list hc3) (by rw [htl]; simp only [List.length_cons, List.length_nil]; omega) (cellsN (l := [x])) ?_) | (refine KEnd.mk ?_))
      exact ⟨j + 1, hlt, by omega, tsub_cons (congrArg (fun z : List SV => SV.slc (H.length + 1) (j + 1) 0 z.length) hnx) (tsub_cons rfl (tsub_cons rfl (tsub_cons (congrArg I (inc64 (by omega))) tsub_nil))), rfl, [.box (E x).cells], congrArg (fun z => [VB.row i 2 ((ordK sum i).map E), .row (j + 1) 1 z, .box (E x).cells]) hnx⟩
    · obtain rfl : j = i := by omega
      have htl : ((ordK sum j).take j) = ordK sum j := List.take_of_length_le (by rw [ordK_len]; omega)
      rw [htl]
      repeat' (first | (conv => whnf) | skip); (first | (refine VIf.mk (fun h => absurd h (by omega)) (fun _ => ?_)))
      rcases hK with hK | hK
      · exact kdone_row (j := 1) h0 rfl rfl belN hK
      · have hlo : ((ordK sum j).map ndI).length = j := by rw [List.length_map, ordK_len]
        rw [hlo]
        refine ⟨.inr ⟨H ++ [.dead, .row j 1 (ordN sum j)], .slc (H.length + 1) j 0 j, ⟨by rw [h0]; simp, by simp [KH.flat], fun id hid => ?_, fun id b hbb => ?_⟩, .keep _ (by simp), hK⟩⟩
        · rcases Nat.lt_or_ge id H.length with hlt | hge
          · left; simp [KH.flat, List.getElem?_append_left hlt]
          · simp only [List.length_append, List.length_cons, List.length_nil] at hid
            obtain rfl | rfl : id = H.length ∨ id = H.length + 1 := by omega
            · right; simp
            · left; simp [KH.flat, ordN]
        · rcases Nat.lt_or_ge id H.length with hlt | hge
          · left; rw [List.getElem?_append_left hlt] at hbb; rw [h0]; exact hbb
          · right
            rw [List.getElem?_append_right hge] at hbb
            obtain ⟨q, hq⟩ : ∃ q, id - H.length = q := ⟨_, rfl⟩
            rw [hq] at hbb
            match q, hbb with
            | 0, hbb => cases hbb; trivial
            | 1, hbb => cases hbb; exact belN
            | q + 2, hbb => cases hbb
theorem pOrder_spec (sum : ByteArray) (hs : sum.size ≤ 500000) (n : Int) (H : List VB) : VCalls Try.prog 37 [T sum, I n] H (fun r H' => r = .list 1 false (ordN sum (upT n)) ∧ H' = H) :=
  pOrder_gen sum hs n H _ (.inl ⟨rfl, rfl⟩)
theorem pOrderR_spec (sum : ByteArray) (hs : sum.size ≤ 500000) (n : Int) (H : List VB) : VCalls Try.prog 37 [T sum, I n] H (fun r H' => r = .slc (H.length + 1) (upT n) 0 (upT n) ∧ H' = H ++ [.dead, .row (upT n) 1 (ordN sum (upT n))]) :=
  pOrder_gen sum hs n H _ (.inr ⟨rfl, rfl⟩)
end Go.Vm
