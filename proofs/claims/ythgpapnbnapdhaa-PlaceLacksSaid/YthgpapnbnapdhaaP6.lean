/- baileyref29.Others, Has; slices.DeleteFunc; place.Others. -/
import Derived.Test.YthgpapnbnapdhaaP5
set_option linter.unusedVariables false
set_option linter.unusedSimpArgs false
namespace Go.Vm
open Go.Proofs
set_option maxRecDepth 100000
/-- The nodes of a piece but one. -/
def othZ (l : List Int) (me : Int) : List Int := l.filter fun x => decide (x ≠ me)
theorem othZ_succ {l : List Int} {me : Int} {i : Nat} (h : i < l.length) : othZ (l.take (i + 1)) me = othZ (l.take i) me ++ (if l[i] = me then [] else [l[i]]) := by
  unfold othZ
  rw [List.take_add_one, List.getElem?_eq_getElem h, Option.toList_some, List.filter_append]
  congr 1
  by_cases he : l[i] = me
  · simp [he]
  · simp [he]
theorem othZ_le (l : List Int) (me : Int) : (othZ l me).length ≤ l.length := List.length_filter_le ..
theorem cellsZ {H : List VB} {l : List Int} : ∀ y, y ∈ l.map I → ∀ c, c ∈ y.cells → svCell H c = true := fun y hy c hc => by
  obtain ⟨x, _, rfl⟩ := List.mem_map.1 hy
  simp only [SV.cells, List.mem_singleton] at hc
  subst hc; rfl
theorem belZ {n : Nat} {l : List Int} : ∀ x, x ∈ l.map I → SV.Bel n x := fun x hx => by
  obtain ⟨z, _, rfl⟩ := List.mem_map.1 hx; exact .v _
theorem rOthers_spec (sum : ByteArray) (hs : sum.size ≤ 500000) (n me : Int) (H : List VB) : VCalls Try.prog 44 [T sum, I n, I me] H (fun r H' => r = .list 1 false ((othZ (ndsZ sum (upT n)) me).map I) ∧ H' = H) := by
  have hc3 : Try.prog.cellsOf 3 = 1 := by kernel_rfl
  have hl := ndsZ_len sum (upT n)
  refine kcalls Try.func44 rfl (by kernel_rfl) rfl ?_
  intro R0 h0 hb
  repeat' (first | (conv => whnf) | skip); (first | (refine kcall_pure (rNodes_spec sum hs n _) rfl ?_))
  generalize ndsZ sum (upT n) = l at *
  have hl3 : l.length ≤ 3 := by omega
  have hlm : (l.map I).length = l.length := List.length_map ..
  (conv => whnf)
  refine kwp_nilrow 7 1 rfl rfl ?_
  refine kwp_loop (S := Nat × Nat) (fun s => [(2, I me), (7, .slc (H.length + 0) s.2 0 ((othZ (l.take s.1) me).map I).length), (8, .list 1 false (l.map I)), (9, I s.1)]) (fun s => ⟨H.length, H, [.row s.2 1 ((othZ (l.take s.1) me).map I)]⟩) (fun s => s.1 ≤ l.length) (fun s => l.length - s.1) (0, 0) (by simp) (tsub_cons rfl (tsub_cons rfl (tsub_cons rfl (tsub_cons rfl tsub_nil)))) rfl (fun i hi => ⟨rfl, rfl⟩) ?_
  rintro ⟨i, g⟩ hi
  dsimp only at hi ⊢
  rcases Nat.lt_or_ge i l.length with hlt | hge
  · have hg : (l.map I)[((i : Nat) : Int).toNat]? = some (I l[i]) := by rw [Int.toNat_natCast, List.getElem?_map, List.getElem?_eq_getElem hlt]; rfl
    have hsucc := othZ_succ (me := me) hlt
    have hle2 := othZ_le (l.take i) me
    rw [List.length_take] at hle2
    generalize l[i] = x at *
    repeat' (first | (conv => whnf) | skip); (first | (refine VIf.mk (fun _ => ?_) (fun h => absurd (by rw [hlm]; omega) h)) | (refine VReq.mk ⟨hc3.symm, by omega⟩ ?_) | (refine kget_some hg ?_) | (refine kget_some rfl ?_) | (refine VReq.mk (by kernel_rfl) ?_))
    (conv => whnf)
    refine VIf.mk (fun he => ?_) (fun hne => ?_)
    · rw [if_pos he, List.append_nil] at hsucc
      repeat' (first | (conv => whnf) | skip); (first | (refine KEnd.mk ?_))
      exact ⟨(i + 1, g), hlt, by dsimp only; omega, tsub_cons rfl (tsub_cons (by dsimp only; rw [hsucc]; rfl) (tsub_cons rfl (tsub_cons (congrArg I (inc64 (by omega))) tsub_nil))), by dsimp only; rw [hsucc]⟩
    · rw [if_neg hne] at hsucc
      have hnx : (othZ (l.take i) me).map I ++ [I x] = (othZ (l.take (i + 1)) me).map I := by rw [hsucc, List.map_append]; rfl
      repeat' (first | (conv => whnf) | skip); (first | (refine VReq.mk ⟨hc3.symm, by omega⟩ ?_) | (refine kget_some hg ?_) | (refine kget_some rfl ?_) | (refine VReq.mk ⟨by kernel_rfl, by kernel_rfl⟩ ?_) | (refine kb_append_top (j := 0) (n := 1) (ys := [I x]) rfl (by kernel_rfl) rfl rfl (vsrc_list hc3) (by rw [List.length_map]; simp only [List.length_cons, List.length_nil]; omega) (cellsZ (l := [x])) ?_) | (refine VReq.mk (show _ = _ by kernel_rfl) ?_) | (refine KEnd.mk ?_))
      exact ⟨(i + 1, g + 1), hlt, by dsimp only; omega, tsub_cons rfl (tsub_cons (congrArg (fun z : List SV => SV.slc (H.length + 0) (g + 1) 0 z.length) hnx) (tsub_cons rfl (tsub_cons (congrArg I (inc64 (by omega))) tsub_nil))), congrArg (fun z => KH.mk H.length H [.row (g + 1) 1 z]) hnx⟩
  · have : l.take i = l := List.take_of_length_le hge
    rw [this]
    repeat' (first | (conv => whnf) | skip); (first | (refine VIf.mk (fun h => absurd h (by rw [hlm]; omega)) (fun _ => ?_)))
    exact kdone_row (j := 0) h0 rfl rfl belZ ⟨rfl, rfl⟩
theorem oth_mem {l : List Int} {me : Int} : (othZ l me).length < l.length ↔ me ∈ l := by
  unfold othZ
  rw [List.length_filter_lt_length_iff_exists]
  constructor
  · rintro ⟨x, hx, h⟩
    have : x = me := by simpa using h
    exact this ▸ hx
  · intro h; exact ⟨me, h, by simp⟩
theorem rHas_spec (sum : ByteArray) (hs : sum.size ≤ 500000) (n v : Int) (H : List VB) : VCalls Try.prog 42 [T sum, I n, I v] H (fun r H' => r = B (decide (v ∈ ndsZ sum (upT n))) ∧ H' = H) := by
  refine kcalls Try.func42 rfl (by kernel_rfl) rfl ?_
  intro R0 h0 hb
  repeat' (first | (conv => whnf) | skip); (first | (refine kcall_pure (rOthers_spec sum hs n v _) rfl ?_) | (refine kcall_pure (rNodes_spec sum hs n _) rfl ?_) | (refine VIf.mk (fun h => ?_) (fun h => ?_)) | (refine kdone_pure h0 (.v _) ⟨?_, rfl⟩))
  · rw [List.length_map, List.length_map] at h
    rw [decide_eq_true (oth_mem.1 (by omega))]
  · rw [List.length_map, List.length_map] at h
    rw [decide_eq_false (fun h' => h (by have := oth_mem.2 h'; omega))]
/-! ### slices.DeleteFunc -/
theorem mine_spec (H : List VB) (bid : Nat) (me x : Int) (hb : H[bid]? = some (.box [I me])) : VCalls Try.prog 71 [I x, .ptr bid 0] H (fun r H' => r = B (decide (x = me)) ∧ H' = H) := by
  refine kcalls Try.func71 rfl (by kernel_rfl) rfl ?_
  intro R0 h0 hbb
  repeat' (first | (conv => whnf) | skip); (first | (refine kbox_base hb ?_) | (refine kget_some rfl ?_) | (refine VIf.mk (fun h => ?_) (fun h => ?_)) | (refine kdone_pure h0 (.v _) ⟨by simp [h], rfl⟩))
theorem indexF_spec (H : List VB) (id g bid len : Nat) (ys : List Int) (me : Int) (hr : H[id]? = some (.row g 1 (ys.map I))) (hle : len ≤ ys.length) (hlen : len ≤ 100000) (hbx : H[bid]? = some (.box [I me])) :
    VCalls Try.prog 88 [.slc id g 0 len, .fn 71 [.ptr bid 0]] H (fun r H' => (∃ m : Int, r = I m ∧ ((m = -1 ∧ me ∉ ys.take len) ∨ ∃ i : Nat, m = i ∧ i < len ∧ me ∉ ys.take i ∧ ys.getD i 0 = me)) ∧ H' = H) := by
  have hc3 : Try.prog.cellsOf 3 = 1 := by kernel_rfl
  have hlm : (ys.map I).length = ys.length := List.length_map ..
  refine kcalls Try.func88 rfl (by kernel_rfl) rfl ?_
  intro R0 h0 hb
  repeat' (first | (conv => whnf) | skip); (first | (refine krow_base hr ?_) | (refine VReq.mk rfl ?_))
  (conv => whnf)
  refine kwp_loop (S := Nat) (fun i => [(0, .slc id g 0 len), (1, .fn 71 [.ptr bid 0]), (7, I len), (8, I i)]) (fun i => ⟨H.length, H, []⟩) (fun i => i ≤ len ∧ me ∉ ys.take i) (fun i => len - i) 0 ⟨by omega, by simp⟩ (tsub_cons rfl (tsub_cons rfl (tsub_cons rfl (tsub_cons rfl tsub_nil)))) rfl (fun i hi => ⟨rfl, rfl⟩) ?_
  rintro i ⟨hi, hno⟩
  rcases Nat.lt_or_ge i len with hlt | hge
  · have hg : (ys.map I)[0 + ((i : Nat) : Int).toNat]? = some (I (ys.getD i 0)) := by rw [Nat.zero_add, Int.toNat_natCast]; exact getI (by omega)
    have hms := mine_spec (KH.flat ⟨H.length, H, []⟩) bid me (ys.getD i 0) (flat_get_base (top := []) hbx)
    repeat' (first | (conv => whnf) | skip); (first | (refine VIf.mk (fun _ => ?_) (fun h => absurd (by omega) h)) | (refine krow_base hr ?_) | (refine VReq.mk ⟨by omega, by omega, rfl, hc3.symm, by omega⟩ ?_) | (refine kget_some hg ?_) | (refine kget_some rfl ?_) | (refine VReq.mk rfl ?_))
    refine kcall_bool hms rfl (fun he => ?_) (fun hne => ?_)
    · (conv => whnf)
      exact kdone_pure h0 (.v _) ⟨⟨_, rfl, .inr ⟨i, rfl, hlt, hno, of_decide_eq_true he⟩⟩, rfl⟩
    · repeat' (first | (conv => whnf) | skip); (first | (refine KEnd.mk ?_))
      refine ⟨i + 1, ⟨hlt, ?_⟩, by omega, tsub_cons rfl (tsub_cons rfl (tsub_cons rfl (tsub_cons (congrArg I (inc64 (by omega))) tsub_nil))), rfl⟩
      have hx : ys.getD i 0 = ys[i]'(by omega) := by rw [List.getD_eq_getElem?_getD, List.getElem?_eq_getElem (by omega)]; rfl
      rw [List.take_add_one, List.getElem?_eq_getElem (by omega), Option.toList_some, List.mem_append, List.mem_singleton]
      rintro (h | h)
      · exact hno h
      · exact (of_decide_eq_false hne) (by rw [hx]; exact h.symm)
  · obtain rfl : i = len := by omega
    repeat' (first | (conv => whnf) | skip); (first | (refine VIf.mk (fun h => absurd h (by omega)) (fun _ => ?_)))
    exact kdone_pure h0 (.v _) ⟨⟨-1, rfl, .inl ⟨rfl, hno⟩⟩, rfl⟩
theorem othZ_no {l : List Int} {me : Int} (h : me ∉ l) : othZ l me = l := by
  unfold othZ
  rw [List.filter_eq_self]
  intro x hx
  simp only [decide_eq_true_eq]
  exact fun e => h (e ▸ hx)
/-- What slices.DeleteFunc makes of a row. -/
theorem delF_spec (H : List VB) (id g bid len : Nat) (ys : List Int) (me : Int) (hr : H[id]? = some (.row g 1 (ys.map I))) (hle : len ≤ ys.length) (hlen : len ≤ 100000) (hbx : H[bid]? = some (.box [I me])) :
    VCalls Try.prog 72 [.slc id g 0 len, .fn 71 [.ptr bid 0]] H (fun r H' => ∃ zs : List Int, zs.length = ys.length ∧ zs.take (othZ (ys.take len) me).length = othZ (ys.take len) me ∧ r = .slc id g 0 (othZ (ys.take len) me).length ∧ H' = H.set id (.row g 1 (zs.map I))) := by
  have hc3 : Try.prog.cellsOf 3 = 1 := by kernel_rfl
  have hid : id < H.length := lt_of_some hr
  have hne : id ≠ bid := fun h => by subst h; rw [hr] at hbx; cases hbx
  have hbx2 : ∀ X : VB, (H.set id X)[bid]? = some (.box [I me]) := fun X => by rw [List.getElem?_set_ne hne]; exact hbx
  have hr2 : ∀ zs : List Int, (H.set id (.row g 1 (zs.map I)))[id]? = some (.row g 1 (zs.map I)) := fun zs => set_same _ _ _ hid
  refine kcalls Try.func72 rfl (by kernel_rfl) rfl ?_
  intro R0 h0 hb
  (conv => whnf)
  refine kcall_some (indexF_spec _ id g bid len ys me (flat_get_base (top := []) hr) hle hlen (flat_get_base (top := []) hbx)) rfl ?_
  rintro r ⟨m, rfl, hm⟩
  (conv => whnf)
  refine VIf.mk (fun h1 => ?_) (fun h1 => ?_)
  · have hno := (hm.resolve_right fun ⟨i, h2, _⟩ => by omega).2
    (conv => whnf)
    refine kdone_keep ⟨ys, rfl, ?_, ?_, ?_⟩
    · rw [othZ_no hno, List.length_take, Nat.min_eq_left hle]
    · rw [othZ_no hno, List.length_take, Nat.min_eq_left hle]
    · rw [set_same_id hr]; simp [KH.flat]
  · obtain ⟨i0, rfl, hi0, hno, hat⟩ := hm.resolve_left fun h => h1 h.1
    have hone : othZ (ys.take (i0 + 1)) me = ys.take i0 := by
      rw [othZ_succ (by omega), othZ_no hno, if_pos, List.append_nil]
      rw [List.getD_eq_getElem?_getD, List.getElem?_eq_getElem (by omega)] at hat
      exact hat
    have hw0 : IntKind.i64.wrap (((i0 : Nat) : Int) + 1) = ((i0 + 1 : Nat) : Int) := inc64 (by omega)
    (conv => whnf)
    refine kwp_loop (S := Nat × List Int) (fun s => [(0, .slc id g 0 len), (1, .fn 71 [.ptr bid 0]), (5, I ((othZ (ys.take s.1) me).length : Nat)), (6, I s.1)]) (fun s => ⟨H.length, H.set id (.row g 1 (s.2.map I)), []⟩) (fun s => s.1 ≤ len ∧ s.2.length = ys.length ∧ (othZ (ys.take s.1) me).length < s.1 ∧ s.2.take (othZ (ys.take s.1) me).length = othZ (ys.take s.1) me ∧ s.2.drop s.1 = ys.drop s.1) (fun s => len - s.1) (i0 + 1, ys)
      ⟨by dsimp only; omega, rfl, by dsimp only; rw [hone, List.length_take]; omega, by dsimp only; rw [hone, List.length_take, Nat.min_eq_left (by omega)], rfl⟩ (tsub_cons rfl (tsub_cons rfl (tsub_cons (by dsimp only; rw [hone, List.length_take, Nat.min_eq_left (by omega)]; rfl) (tsub_cons (congrArg I hw0) tsub_nil)))) (by dsimp only; rw [set_same_id hr]) (fun s hs => ⟨by simp [KH.ok], rfl⟩) ?_
    rintro ⟨j, zs⟩ ⟨hj, hzl, hlt, htk, hdr⟩
    dsimp only at hj hzl hlt htk hdr ⊢
    have hzm : (zs.map I).length = ys.length := by rw [List.length_map, hzl]
    rcases Nat.lt_or_ge j len with hjl | hjl
    · have hzj : zs.getD j 0 = ys[j]'(by omega) := by
        have := congrArg (fun l : List Int => l[0]?) hdr
        simp only [List.getElem?_drop, Nat.add_zero] at this
        rw [List.getD_eq_getElem?_getD, this, List.getElem?_eq_getElem (by omega)]; rfl
      have hg : (zs.map I)[0 + ((j : Nat) : Int).toNat]? = some (I (zs.getD j 0)) := by rw [Nat.zero_add, Int.toNat_natCast]; exact getI (by omega)
      rw [hzj] at hg
      have hsucc := othZ_succ (me := me) (l := ys) (i := j) (by omega)
      have hms := mine_spec (KH.flat ⟨H.length, H.set id (.row g 1 (zs.map I)), []⟩) bid me (ys[j]'(by omega)) (flat_get_base (top := []) (hbx2 _))
      have hdr1 : zs.drop (j + 1) = ys.drop (j + 1) := by
        have := congrArg (List.drop 1) hdr
        simpa [List.drop_drop, Nat.add_comm] using this
      generalize (ys[j]'(by omega)) = x at *
      repeat' (first | (conv => whnf) | skip); (first | (refine VIf.mk (fun _ => ?_) (fun h => absurd (by omega) h)) | (refine krow_base (hr2 zs) ?_) | (refine VReq.mk ⟨by omega, by omega, rfl, hc3.symm, by omega⟩ ?_) | (refine kget_some hg ?_) | (refine kget_some rfl ?_) | (refine VReq.mk rfl ?_))
      refine kcall_bool hms (by simp [KH.ok]) (fun he => ?_) (fun hne' => ?_)
      · rw [if_pos (of_decide_eq_true he), List.append_nil] at hsucc
        repeat' (first | (conv => whnf) | skip); (first | (refine KEnd.mk ?_))
        exact ⟨(j + 1, zs), ⟨hjl, hzl, by dsimp only; rw [hsucc]; omega, by dsimp only; rw [hsucc]; exact htk, hdr1⟩, by dsimp only; omega, tsub_cons rfl (tsub_cons rfl (tsub_cons (by dsimp only; rw [hsucc]; rfl) (tsub_cons (congrArg I (inc64 (by omega))) tsub_nil))), rfl⟩
      · rw [if_neg (of_decide_eq_false hne')] at hsucc
        obtain ⟨q, hq⟩ : ∃ q, (othZ (ys.take j) me).length = q := ⟨_, rfl⟩
        have hql : (othZ (ys.take (j + 1)) me).length = q + 1 := by rw [hsucc, List.length_append, hq]; rfl
        rw [hq] at htk hlt ⊢
        have hgq : (zs.map I)[0 + ((q : Nat) : Int).toNat]? = some (I (zs.getD q 0)) := by rw [Nat.zero_add, Int.toNat_natCast]; exact getI (by omega)
        repeat' (first | (conv => whnf) | skip); (first | (refine krow_base (hr2 zs) ?_) | (refine VReq.mk ⟨by omega, by omega, rfl, hc3.symm, by omega⟩ ?_) | (refine kget_some hgq ?_) | (refine VReq.mk rfl ?_) | (refine VReq.mk (Nat.le_refl 1) ?_) | (refine kset_base (by simp) (by simpa using hid) ?_) | (refine VReq.mk (show _ = _ by kernel_rfl) ?_) | (refine KEnd.mk ?_))
        refine ⟨(j + 1, zs.set q x), ⟨hjl, by dsimp only; rw [List.length_set]; exact hzl, by dsimp only; rw [hql]; omega, ?_, ?_⟩, by dsimp only; omega, tsub_cons rfl (tsub_cons rfl (tsub_cons (by dsimp only; rw [hql]; exact congrArg I (inc64 (by omega))) (tsub_cons (congrArg I (inc64 (by omega))) tsub_nil))), ?_⟩
        · dsimp only
          rw [hql, hsucc, List.take_add_one, List.getElem?_set_self (by omega), Option.toList_some, List.take_set_of_le (Nat.le_refl q), htk]
        · dsimp only
          rw [List.drop_set_of_lt (by omega)]; exact hdr1
        · refine congrArg (fun b => KH.mk H.length b []) ?_
          rw [List.set_set]
          refine congrArg (fun b => H.set id (.row g 1 b)) ?_
          rw [Nat.zero_add, Int.toNat_natCast, List.map_set]; rfl
    · obtain rfl : j = len := by omega
      obtain ⟨q, hq⟩ : ∃ q, (othZ (ys.take j) me).length = q := ⟨_, rfl⟩
      rw [hq] at htk hlt ⊢
      repeat' (first | (conv => whnf) | skip); (first | (refine VIf.mk (fun h => absurd h (by omega)) (fun _ => ?_)) | (refine krow_base (hr2 zs) ?_) | (refine VReq.mk ⟨rfl, hc3.symm, by omega⟩ ?_) | (refine VReq.mk rfl ?_) | (refine VReq.mk (Nat.le_refl _) ?_) | (refine VReq.mk ⟨by omega, by omega⟩ ?_))
      refine kb_clear_base (e := 3) (z := .int .i64 0) (by simp) rfl (by kernel_rfl) (by kernel_rfl) rfl (hr2 zs) (by omega) ?_
      have hz2 : (zs.map I).take (0 + ((q : Nat) : Int).toNat) ++ List.replicate (j - ((q : Nat) : Int).toNat) (SV.v (.int .i64 0)) ++ (zs.map I).drop (0 + ((q : Nat) : Int).toNat + (j - ((q : Nat) : Int).toNat)) = (zs.take q ++ List.replicate (j - q) 0 ++ zs.drop (q + (j - q))).map I := by
        rw [Nat.zero_add, Int.toNat_natCast]
        simp only [List.map_append, List.map_take, List.map_drop, List.map_replicate]
      rw [hz2, List.set_set]
      have hl2 : (zs.take q ++ List.replicate (j - q) 0 ++ zs.drop (q + (j - q))).length = ys.length := by simp; omega
      have ht2 : (zs.take q ++ List.replicate (j - q) 0 ++ zs.drop (q + (j - q))).take q = zs.take q := by
        rw [List.append_assoc, List.take_append_of_le_length (by rw [List.length_take]; omega), List.take_of_length_le (by rw [List.length_take]; omega)]
      generalize zs.take q ++ List.replicate (j - q) 0 ++ zs.drop (q + (j - q)) = ws at hl2 ht2
      have hwm : (ws.map I).length = ys.length := by rw [List.length_map, hl2]
      repeat' (first | (conv => whnf) | skip); (first | (refine krow_base (hr2 ws) ?_) | (refine VReq.mk ⟨rfl, hc3.symm, by omega⟩ ?_) | (refine VReq.mk (Nat.le_refl _) ?_) | (refine VReq.mk ⟨by omega, by omega⟩ ?_) | (refine VReq.mk rfl ?_))
      exact kdone_keep ⟨ws, hl2, ht2.trans htk, rfl, by simp [KH.flat]⟩
theorem pOthers_spec (sum : ByteArray) (hs : sum.size ≤ 500000) (n me : Int) (H : List VB) : VCalls Try.prog 43 [T sum, I n, I me] H (fun r H' => r = .list 1 false ((othZ (ndsZ sum (upT n)) me).map I) ∧ H' = H) := by
  have hk7 := upT_le n
  refine kcalls Try.func43 rfl (by kernel_rfl) rfl ?_
  intro R0 h0 hb
  (conv => whnf)
  refine ⟨(pNodesR_spec sum hs n _).mono ?_⟩
  rintro r H' ⟨er, e⟩
  have hfl : (KH.flat ⟨H.length, H, [.box [I me]]⟩).length + 1 = H.length + 2 := by simp [KH.flat]
  have er' : r = .slc (H.length + 2) (upT n) 0 (min 3 (upT n)) := er.trans (congrArg (fun k => SV.slc k (upT n) 0 (min 3 (upT n))) hfl)
  subst er'
  clear er
  refine ⟨⟨H.length, H, [.box [I me], .dead, .row (upT n) 1 (ordN sum (upT n))]⟩, by rw [e]; simp [KH.flat], rfl, rfl, ?_⟩
  rw [ordN_Z]
  clear e hfl
  have hol := ordZ_len sum (upT n)
  have hdel := delF_spec (KH.flat ⟨H.length, H, [.box [I me], .dead, .row (upT n) 1 ((ordZ sum (upT n)).map I)]⟩) (H.length + 2) (upT n) (H.length + 0) (min 3 (upT n)) (ordZ sum (upT n)) me (flat_get_top (n0 := H.length) rfl 2) (by omega) (by omega) (flat_get_top (n0 := H.length) rfl 0)
  (conv => whnf)
  refine ⟨VCalls.mono hdel ?_⟩
  rintro r H' ⟨zs, hzl, htk, rfl, e⟩
  have hnd : (ordZ sum (upT n)).take (min 3 (upT n)) = ndsZ sum (upT n) := by
    rw [ndsZ]
    rcases Nat.lt_or_ge 3 (upT n) with h | h
    · rw [Nat.min_eq_left (by omega)]
    · rw [Nat.min_eq_right h, List.take_of_length_le (by omega), List.take_of_length_le (by omega)]
  rw [hnd] at htk ⊢
  refine ⟨⟨H.length, H, [.box [I me], .dead, .row (upT n) 1 (zs.map I)]⟩, by rw [e]; exact (flat_set_top (n0 := H.length) (top := [.box [I me], .dead, .row (upT n) 1 ((ordZ sum (upT n)).map I)]) rfl 2 _).symm, rfl, rfl, ?_⟩
  (conv => whnf)
  have hll := othZ_le (ndsZ sum (upT n)) me
  have hn3 := ndsZ_len sum (upT n)
  generalize othZ (ndsZ sum (upT n)) me = l at *
  refine kdone_frz h0 (r' := .list 1 false (l.map I)) ?_ ⟨rfl, rfl⟩
  have hel : ∀ (i : Nat) (hi : i < l.length), l[i] = zs[i]'(by omega) := fun i hi => by
    have := congrArg (fun l : List Int => l[i]?) htk
    simp only [List.getElem?_take_of_lt hi, List.getElem?_eq_getElem hi, List.getElem?_eq_getElem (show i < zs.length by omega), Option.some.injEq] at this
    exact this.symm
  refine .row (H.length + 2) (upT n) 0 l.length 1 (zs.map I) (l.map I) (by omega) (flat_get_top (n0 := H.length) (base := H) (top := [.box [I me], .dead, .row (upT n) 1 (zs.map I)]) rfl 2) (by rw [List.length_map]; omega) (List.length_map ..) (fun i hi hj => ?_) (fun i hi hj j h1 h2 => ?_)
  · simp only [List.getElem_map]; rfl
  · refine (?_ : Frz _ _ _ _)
    have hil : i < l.length := by simpa using hj
    have e1 : (zs.map I)[0 + i] = (l.map I)[i] := by simp only [List.getElem_map, Nat.zero_add, hel i hil]
    have e2 : (zs.map I)[0 + i].cells[j] = (l.map I)[i].cells[j] := by simp only [e1]
    rw [e2]
    exact .keep _ (bel_cells (belZ _ (List.getElem_mem hj)) _ (List.getElem_mem h2))
end Go.Vm
