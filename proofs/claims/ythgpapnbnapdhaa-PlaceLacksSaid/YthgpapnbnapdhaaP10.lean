/- Layer 29: which pieces a node lacks: place.Lacks, baileyref29.Lacks. -/
import Derived.Test.YthgpapnbnapdhaaP9
import Derived.Test.YthgpapnbnapdhaaVF
set_option linter.unusedVariables false
set_option linter.unusedSimpArgs false
namespace Go.Vm
open Go.Proofs
set_option maxRecDepth 100000
theorem getT {ys : List ByteArray} {k : Nat} (h : k < ys.length) : (ys.map T)[k]? = some (T ys[k]) := by
  rw [List.getElem?_map, List.getElem?_eq_getElem h]; rfl
theorem belT {n : Nat} {l : List ByteArray} : ∀ x, x ∈ l.map T → SV.Bel n x := fun x hx => by
  obtain ⟨z, _, rfl⟩ := List.mem_map.1 hx; exact .v _
theorem cellsT {H : List VB} {l : List ByteArray} : ∀ y, y ∈ l.map T → ∀ c, c ∈ y.cells → svCell H c = true := fun y hy c hc => by
  obtain ⟨x, _, rfl⟩ := List.mem_map.1 hy
  simp only [SV.cells, List.mem_singleton] at hc
  subst hc; rfl
/-- What a node lacks. -/
def lackL (me n : Int) (have_ needs : List ByteArray) : List ByteArray := needs.filter fun s => !memS s have_ && decide (me ∈ ndsZ s (upT n))
theorem lackL_succ (me n : Int) (hv : List ByteArray) {l : List ByteArray} {i : Nat} (h : i < l.length) : lackL me n hv (l.take (i + 1)) = lackL me n hv (l.take i) ++ (if (!memS l[i] hv && decide (me ∈ ndsZ l[i] (upT n))) = true then [l[i]] else []) := by
  unfold lackL
  rw [List.take_add_one, List.getElem?_eq_getElem h, Option.toList_some, List.filter_append]
  congr 1
  simp only [List.filter_cons, List.filter_nil]
theorem lackL_le (me n : Int) (hv l : List ByteArray) : (lackL me n hv l).length ≤ l.length := List.length_filter_le ..
theorem in_spec (l : List ByteArray) (s : ByteArray) (hl : l.length ≤ 100000) (H : List VB) : VCalls Try.prog 73 [.list 1 false (l.map T), T s] H (fun r H' => r = B (memS s l) ∧ H' = H) := by
  have hc9 : Try.prog.cellsOf 9 = 1 := by kernel_rfl
  have hlm : (l.map T).length = l.length := List.length_map ..
  refine kcalls Try.func73 rfl (by kernel_rfl) rfl ?_
  intro R0 h0 hb
  (conv => whnf)
  refine kwp_loop (S := Nat) (fun i => [(0, .list 1 false (l.map T)), (1, T s), (5, I i)]) (fun i => ⟨H.length, H, []⟩) (fun i => i ≤ l.length ∧ s ∉ l.take i) (fun i => l.length - i) 0 ⟨by omega, by simp⟩ (tsub_cons rfl (tsub_cons rfl (tsub_cons rfl tsub_nil))) rfl (fun i hi => ⟨rfl, rfl⟩) ?_
  rintro i ⟨hi, hno⟩
  rcases Nat.lt_or_ge i l.length with hlt | hge
  · have hg : (l.map T)[((i : Nat) : Int).toNat]? = some (T l[i]) := by rw [Int.toNat_natCast]; exact getT hlt
    repeat' (first | (conv => whnf) | skip); (first | (refine VIf.mk (fun _ => ?_) (fun h => absurd (by rw [hlm]; omega) h)) | (refine VReq.mk ⟨hc9.symm, by omega⟩ ?_) | (refine kget_some hg ?_) | (refine kget_some rfl ?_) | (refine VReq.mk (by kernel_rfl) ?_))
    (conv => whnf)
    refine VIf.mk (fun he => ?_) (fun hne => ?_)
    · (conv => whnf)
      exact kdone_pure h0 (.v _) ⟨by rw [memS_iff.2 (he ▸ List.getElem_mem hlt)], rfl⟩
    · repeat' (first | (conv => whnf) | skip); (first | (refine KEnd.mk ?_))
      refine ⟨i + 1, ⟨hlt, ?_⟩, by omega, tsub_cons rfl (tsub_cons rfl (tsub_cons (congrArg I (inc64 (by omega))) tsub_nil)), rfl⟩
      rw [List.take_add_one, List.getElem?_eq_getElem hlt, Option.toList_some, List.mem_append, List.mem_singleton]
      rintro (h | h)
      · exact hno h
      · exact hne h.symm
  · have : l.take i = l := List.take_of_length_le hge
    rw [this] at hno
    repeat' (first | (conv => whnf) | skip); (first | (refine VIf.mk (fun h => absurd h (by rw [hlm]; omega)) (fun _ => ?_)))
    exact kdone_pure h0 (.v _) ⟨by rw [memS_no hno], rfl⟩
theorem rLacks_spec (me n : Int) (needs hv : List ByteArray) (hn : needs.length ≤ 1000) (hh : hv.length ≤ 1000) (hs : ∀ s, s ∈ needs → s.size ≤ 500000) (H : List VB) :
    VCalls Try.prog 48 [I me, I n, .list 1 false (needs.map T), .list 1 false (hv.map T)] H (fun r H' => r = .list 1 false ((lackL me n hv needs).map T) ∧ H' = H) := by
  have hc9 : Try.prog.cellsOf 9 = 1 := by kernel_rfl
  have hlm : (needs.map T).length = needs.length := List.length_map ..
  refine kcalls Try.func48 rfl (by kernel_rfl) rfl ?_
  intro R0 h0 hb
  (conv => whnf)
  refine kwp_nilrow 9 1 rfl rfl ?_
  (conv => whnf)
  refine kwp_loop (S := Nat × Nat) (fun s => [(0, I me), (1, I n), (2, .list 1 false (needs.map T)), (3, .list 1 false (hv.map T)), (9, .slc (H.length + 0) s.2 0 ((lackL me n hv (needs.take s.1)).map T).length), (10, I s.1)]) (fun s => ⟨H.length, H, [.row s.2 1 ((lackL me n hv (needs.take s.1)).map T)]⟩) (fun s => s.1 ≤ needs.length) (fun s => needs.length - s.1) (0, 0) (by simp) (tsub_cons rfl (tsub_cons rfl (tsub_cons rfl (tsub_cons rfl (tsub_cons rfl (tsub_cons rfl tsub_nil)))))) rfl (fun i hi => ⟨rfl, rfl⟩) ?_
  rintro ⟨i, g⟩ hi
  dsimp only at hi ⊢
  rcases Nat.lt_or_ge i needs.length with hlt | hge
  · have hg : (needs.map T)[((i : Nat) : Int).toNat]? = some (T needs[i]) := by rw [Int.toNat_natCast]; exact getT hlt
    have hsz := hs _ (List.getElem_mem hlt)
    have hsucc := lackL_succ me n hv hlt
    have hle2 := lackL_le me n hv (needs.take i)
    rw [List.length_take] at hle2
    generalize needs[i] = x at *
    repeat' (first | (conv => whnf) | skip); (first | (refine VIf.mk (fun _ => ?_) (fun h => absurd (by rw [hlm]; omega) h)) | (refine VReq.mk ⟨hc9.symm, by omega⟩ ?_) | (refine kget_some hg ?_) | (refine kget_some rfl ?_) | (refine kcall_bool (rHas_spec x hsz n me _) rfl (fun _ => ?_) (fun _ => ?_)) | (refine kcall_bool (in_spec hv x (by omega) _) rfl (fun _ => ?_) (fun _ => ?_)) | (refine kb_append_top (j := 0) (n := 1) (ys := [T x]) rfl (by kernel_rfl) rfl rfl (vsrc_list hc9) (by rw [List.length_map]; simp only [List.length_cons, List.length_nil]; omega) (cellsT (l := [x])) ?_) | (refine VReq.mk ⟨by kernel_rfl, by kernel_rfl⟩ ?_) | (refine KEnd.mk ?_) | (refine VReq.mk (show _ = _ by kernel_rfl) ?_))
    · rename_i h1 h2
      rw [if_neg (by simp [h2]), List.append_nil] at hsucc
      exact ⟨(i + 1, g), hlt, by dsimp only; omega, tsub_cons rfl (tsub_cons rfl (tsub_cons rfl (tsub_cons rfl (tsub_cons (by dsimp only; rw [hsucc]; rfl) (tsub_cons (congrArg I (inc64 (by omega))) tsub_nil))))), by dsimp only; rw [hsucc]⟩
    · rename_i h1 h2
      rw [if_pos (by rw [h2, h1]; rfl)] at hsucc
      have hnx : (lackL me n hv (needs.take i)).map T ++ [T x] = (lackL me n hv (needs.take (i + 1))).map T := by rw [hsucc, List.map_append]; rfl
      exact ⟨(i + 1, g + 1), hlt, by dsimp only; omega, tsub_cons rfl (tsub_cons rfl (tsub_cons rfl (tsub_cons rfl (tsub_cons (congrArg (fun z : List SV => SV.slc (H.length + 0) (g + 1) 0 z.length) hnx) (tsub_cons (congrArg I (inc64 (by omega))) tsub_nil))))), congrArg (fun z => KH.mk H.length H [.row (g + 1) 1 z]) hnx⟩
    · rename_i h1
      rw [if_neg (by rw [h1]; simp), List.append_nil] at hsucc
      exact ⟨(i + 1, g), hlt, by dsimp only; omega, tsub_cons rfl (tsub_cons rfl (tsub_cons rfl (tsub_cons rfl (tsub_cons (by dsimp only; rw [hsucc]; rfl) (tsub_cons (congrArg I (inc64 (by omega))) tsub_nil))))), by dsimp only; rw [hsucc]⟩
  · have : needs.take i = needs := List.take_of_length_le hge
    rw [this]
    repeat' (first | (conv => whnf) | skip); (first | (refine VIf.mk (fun h => absurd h (by rw [hlm]; omega)) (fun _ => ?_)))
    exact kdone_row (j := 0) h0 rfl rfl belT ⟨rfl, rfl⟩
theorem pLacks_spec (me n : Int) (needs hv : List ByteArray) (hn : needs.length ≤ 1000) (hh : hv.length ≤ 1000) (hs : ∀ s, s ∈ needs → s.size ≤ 500000) (H : List VB) :
    VCalls Try.prog 47 [I me, I n, .list 1 false (needs.map T), .list 1 false (hv.map T)] H (fun r H' => r = .list 1 false ((lackL me n hv needs).map T) ∧ H' = H) := by
  have hc9 : Try.prog.cellsOf 9 = 1 := by kernel_rfl
  have hu : Try.prog.underlying 66 = some (.map 9 4) := by kernel_rfl
  have hk : Try.prog.underlying 9 = some .string := by kernel_rfl
  have hz : pZero1 Try.prog 4 = some (.v (.bool false)) := by kernel_rfl
  have hlm : (needs.map T).length = needs.length := List.length_map ..
  have hlv : (hv.map T).length = hv.length := List.length_map ..
  refine kcalls Try.func47 rfl (by kernel_rfl) rfl ?_
  intro R0 h0 hb
  (conv => whnf)
  refine kwp_loop (S := Nat) (fun i => [(0, I me), (1, I n), (2, .list 1 false (needs.map T)), (9, .mapv (H.length + 0)), (16, .list 1 false (hv.map T)), (17, I (hv.map T).length), (18, I i)]) (fun i => ⟨H.length, H, [.map (setE (setL (hv.take i)))]⟩) (fun i => i ≤ hv.length) (fun i => hv.length - i) 0 (by omega) (tsub_cons rfl (tsub_cons rfl (tsub_cons rfl (tsub_cons rfl (tsub_cons rfl (tsub_cons rfl (tsub_cons rfl tsub_nil))))))) rfl (fun i hi => ⟨rfl, rfl⟩) ?_
  intro i hi
  rcases Nat.lt_or_ge i hv.length with hlt | hge
  · have hg : (hv.map T)[((i : Nat) : Int).toNat]? = some (T hv[i]) := by rw [Int.toNat_natCast]; exact getT hlt
    have hsl := setL_succ hlt
    generalize hv[i] = x at *
    repeat' (first | (conv => whnf) | skip); (first | (refine VIf.mk (fun _ => ?_) (fun h => absurd (by rw [hlv]; omega) h)) | (refine VReq.mk ⟨hc9.symm, by omega⟩ ?_) | (refine kget_some hg ?_) | (refine kget_some rfl ?_) | (refine kupd_set (j := 0) rfl hu hk rfl ?_) | (refine KEnd.mk ?_) | (refine VReq.mk (show _ = _ by kernel_rfl) ?_))
    exact ⟨i + 1, hlt, by omega, tsub_cons rfl (tsub_cons rfl (tsub_cons rfl (tsub_cons rfl (tsub_cons rfl (tsub_cons rfl (tsub_cons (congrArg I (inc64 (by omega))) tsub_nil)))))), congrArg (fun z => KH.mk H.length H [.map (setE z)]) hsl.symm⟩
  · have htk : hv.take i = hv := List.take_of_length_le hge
    rw [htk]
    repeat' (first | (conv => whnf) | skip); (first | (refine VIf.mk (fun h => absurd h (by rw [hlv]; omega)) (fun _ => ?_)))
    (conv => whnf)
    refine kwp_nilrow 12 1 rfl rfl ?_
    (conv => whnf)
    refine kwp_loop (S := Nat × Nat) (fun s => [(0, I me), (1, I n), (9, .mapv (H.length + 0)), (12, .slc (H.length + 1) s.2 0 ((lackL me n hv (needs.take s.1)).map T).length), (25, .list 1 false (needs.map T)), (26, I (needs.map T).length), (27, I s.1)]) (fun s => ⟨H.length, H, [.map (setE (setL hv)), .row s.2 1 ((lackL me n hv (needs.take s.1)).map T)]⟩) (fun s => s.1 ≤ needs.length) (fun s => needs.length - s.1) (0, 0) (by simp) (tsub_cons rfl (tsub_cons rfl (tsub_cons rfl (tsub_cons rfl (tsub_cons rfl (tsub_cons rfl (tsub_cons rfl tsub_nil))))))) rfl (fun i hi => ⟨rfl, rfl⟩) ?_
    rintro ⟨k, g⟩ hk2
    dsimp only at hk2 ⊢
    rcases Nat.lt_or_ge k needs.length with hlt | hge2
    · have hg : (needs.map T)[((k : Nat) : Int).toNat]? = some (T needs[k]) := by rw [Int.toNat_natCast]; exact getT hlt
      have hsz := hs _ (List.getElem_mem hlt)
      have hsucc := lackL_succ me n hv hlt
      have hle2 := lackL_le me n hv (needs.take k)
      rw [List.length_take] at hle2
      generalize needs[k] = x at *
      repeat' (first | (conv => whnf) | skip); (first | (refine VIf.mk (fun _ => ?_) (fun h => absurd (by rw [hlm]; omega) h)) | (refine VReq.mk ⟨hc9.symm, by omega⟩ ?_) | (refine kget_some hg ?_) | (refine kget_some rfl ?_) | (refine klook_set (j := 0) rfl hu hk rfl hz (fun hm => ?_) (fun hm => ?_)) | (refine kcall_bool (pHas_spec x hsz n me _) rfl (fun _ => ?_) (fun _ => ?_)) | (refine kb_append_top (j := 1) (n := 1) (ys := [T x]) rfl (by kernel_rfl) rfl rfl (vsrc_list hc9) (by rw [List.length_map]; simp only [List.length_cons, List.length_nil]; omega) (cellsT (l := [x])) ?_) | (refine VReq.mk ⟨by kernel_rfl, by kernel_rfl⟩ ?_) | (refine KEnd.mk ?_) | (refine VReq.mk (show _ = _ by kernel_rfl) ?_))
      · rename_i hm
        rw [memS_setL] at hm
        rw [if_neg (by simp [hm]), List.append_nil] at hsucc
        exact ⟨(k + 1, g), hlt, by dsimp only; omega, tsub_cons rfl (tsub_cons rfl (tsub_cons rfl (tsub_cons (by dsimp only; rw [hsucc]; rfl) (tsub_cons rfl (tsub_cons rfl (tsub_cons (congrArg I (inc64 (by omega))) tsub_nil)))))), by dsimp only; rw [hsucc]⟩
      · rename_i hm h1
        rw [memS_setL] at hm
        rw [if_pos (by rw [hm, h1]; rfl)] at hsucc
        have hnx : (lackL me n hv (needs.take k)).map T ++ [T x] = (lackL me n hv (needs.take (k + 1))).map T := by rw [hsucc, List.map_append]; rfl
        exact ⟨(k + 1, g + 1), hlt, by dsimp only; omega, tsub_cons rfl (tsub_cons rfl (tsub_cons rfl (tsub_cons (congrArg (fun z : List SV => SV.slc (H.length + 1) (g + 1) 0 z.length) hnx) (tsub_cons rfl (tsub_cons rfl (tsub_cons (congrArg I (inc64 (by omega))) tsub_nil)))))), congrArg (fun z => KH.mk H.length H [.map (setE (setL hv)), .row (g + 1) 1 z]) hnx⟩
      · rename_i hm h1
        rw [if_neg (by rw [h1]; simp), List.append_nil] at hsucc
        exact ⟨(k + 1, g), hlt, by dsimp only; omega, tsub_cons rfl (tsub_cons rfl (tsub_cons rfl (tsub_cons (by dsimp only; rw [hsucc]; rfl) (tsub_cons rfl (tsub_cons rfl (tsub_cons (congrArg I (inc64 (by omega))) tsub_nil)))))), by dsimp only; rw [hsucc]⟩
    · have : needs.take k = needs := List.take_of_length_le hge2
      rw [this]
      repeat' (first | (conv => whnf) | skip); (first | (refine VIf.mk (fun h => absurd h (by rw [hlm]; omega)) (fun _ => ?_)))
      exact kdone_row (j := 1) h0 rfl rfl belT ⟨rfl, rfl⟩
theorem equalT_spec (f1 f2 : Bool) (xs : List ByteArray) (hl : xs.length ≤ 1000) (H : List VB) : VCalls Try.prog 46 [.list 1 f1 (xs.map T), .list 1 f2 (xs.map T)] H (fun r H' => r = B true ∧ H' = H) := by
  refine kcalls Try.func46 rfl (by kernel_rfl) rfl ?_
  intro R0 h0 hb
  repeat' (first | (conv => whnf) | skip); (first | (refine VIf.mk (fun _ => ?_) (fun h => absurd rfl h)) | (refine VReq.mk (by kernel_rfl) ?_))
  (conv => whnf)
  refine kwp_loop (S := Nat) (fun i => [(0, .list 1 f1 (xs.map T)), (1, .list 1 f2 (xs.map T)), (12, I ((xs.map T).length : Nat)), (13, I i)]) (fun i => ⟨H.length, H, []⟩) (fun i => i ≤ (xs.map T).length) (fun i => (xs.map T).length - i) 0 (by omega) (tsub_cons rfl (tsub_cons rfl (tsub_cons rfl (tsub_cons rfl tsub_nil)))) rfl (fun i hi => ⟨rfl, rfl⟩) ?_
  intro i hi
  have hlm : (xs.map T).length = xs.length := List.length_map ..
  rcases Nat.lt_or_ge i (xs.map T).length with hlt | hge
  · have hg : (xs.map T)[((i : Nat) : Int).toNat]? = some (T (xs[i]'(by omega))) := by rw [Int.toNat_natCast]; exact getT (by omega)
    repeat' (first | (conv => whnf) | skip); (first | (refine VIf.mk (fun _ => ?_) (fun h => absurd rfl h)) | (refine VIf.mk (fun _ => ?_) (fun _ => by omega)) | (refine VReq.mk (by kernel_rfl) ?_) | (refine VReq.mk ⟨by kernel_rfl, by omega⟩ ?_) | (refine kwp_draw (by kernel_rfl) (by kernel_rfl) rfl ?_) | (refine kget_some hg ?_) | (refine kget_some rfl ?_) | (refine KEnd.mk ?_))
    exact ⟨i + 1, hlt, by omega, tsub_cons rfl (tsub_cons rfl (tsub_cons rfl (tsub_cons (congrArg I (inc64 (by omega))) tsub_nil))), rfl⟩
  · repeat' (first | (conv => whnf) | skip); (first | (refine VIf.mk (fun h => absurd h (by omega)) (fun _ => ?_)) | (refine VReq.mk (by kernel_rfl) ?_) | (refine kdone_pure h0 (by simp) ⟨?_, rfl⟩))
    rfl
end Go.Vm
