/- PeersBest: the walk. -/
import Derived.Test.YthgpapnbnapdhaaF12
set_option linter.unusedVariables false
set_option linter.unusedSimpArgs false
namespace Go.Vm
open Go.Proofs
set_option maxRecDepth 100000
theorem memA_ne {c : Int} (hc : chk c = 0) : memA c 7 ≠ [] := by
  intro h
  have h1 : (hav c [] (memA c 7)).length = cnt c := by rw [hav_len, mems_cnt]
  rw [h] at h1
  unfold chk at hc
  split at hc
  · rename_i hr
    have hd : ∀ n : Nat, n < 128 → 0 < n → 0 < pop7 n := by decide +kernel
    have : lo7 c = c.toNat := by
      unfold lo7
      have e : c = ((c.toNat : Nat) : Int) := by omega
      have hk : c.toNat < 128 := by omega
      rw [e]
      generalize c.toNat = k at hk
      revert k
      decide +kernel
    have := hd (lo7 c) (lo7_lt c) (by omega)
    rw [← cnt_pop] at this
    simp [hav] at h1
    omega
  · cases hc
theorem any_step {p : Int → Bool} {ms : List Int} {L : List M7} {i : Nat} (hi : i < L.length) (k : Nat) : anyA p ms (L.take (i + 1)) k = (anyA p ms (L.take i) k || (decide (L[i].1 = (k : Int)) && p (ms.getD k 0))) := by
  unfold anyA
  rw [List.take_add_one, List.getElem?_eq_getElem hi, Option.toList_some, List.any_append, List.any_cons, List.any_nil, Bool.or_false]
theorem peersBest_spec (c m0 m1 m2 m3 m4 m5 m6 : Int) : VCalls Try.prog 5 [I c, .agg [I m0, I m1, I m2, I m3, I m4, I m5, I m6]] [] fun r H' => r = .v (.bool true) := by
  refine VCalls.mono (K := fun r H' => r = B true ∧ H' = []) ?_ fun r H' h => h.1
  refine kcalls Try.func5 rfl (by kernel_rfl) rfl ?_
  intro R0 h0 hb
  have nm : NoMap (KH.flat ⟨([] : List VB).length, [], [.box [I m0, I m1, I m2, I m3, I m4, I m5, I m6]]⟩) := noMap_append (H := []) (X := [.box [I m0, I m1, I m2, I m3, I m4, I m5, I m6]]) (by intro id es h; simp at h) (by intro b hb es he; subst he; simp at hb)
  have hc22 : Try.prog.cellsOf 22 = 7 := by kernel_rfl
  have hms := @match_spec c m0 m1 m2 m3 m4 m5 m6 _ nm
  repeat' (first | (conv => whnf) | skip); (first | (refine VReq.mk (by kernel_rfl) ?_) | (refine VReq.mk (by rw [hc22]; exact Nat.le_refl 7) ?_) | (refine kbox_top rfl rfl ?_) | (refine kcall_some (p := fun r => ∃ v, MatOk (hav c [m0, m1, m2, m3, m4, m5, m6] (memA c 7)) v ∧ r = I v) (hms.mono fun r H' ⟨v, hv, e1, e2⟩ => ⟨⟨v, hv, e1⟩, e2⟩) rfl ?_; rintro r ⟨v, hv, rfl⟩) | (refine kcall_pure (pcheck_spec _ _) rfl ?_) | (refine kcall_pure (awake_spec _ nm) rfl ?_) | (refine VIf.mk (fun _ => ?_) (fun h => ?_)) | (refine kdone_pure h0 (by simp) ⟨?_, rfl⟩))
  · rename_i hck
    have hln := memA_len c 7
    obtain ⟨y, r, hmem⟩ := List.exists_cons_of_ne_nil (memA_ne hck)
    have hpl := plist_spec c _ nm
    rw [hmem] at hpl hln
    have hbl := fun {a b : Int} => best_law (a := a) (b := b) hck hv
    rw [hmem] at hbl
    refine kcall_pure (r0 := .list 1 false ((y :: r).map fun y : M7 => I y.1)) hpl rfl ?_
    repeat' (first | (conv => whnf) | skip); (first | (refine VReq.mk (by kernel_rfl) ?_))
    (conv => whnf)
    refine kwp_loop (S := Nat × Int × Int) (fun s => [(0, I c), (3, .ptr (([] : List VB).length + 0) 0), (5, I v), (6, I s.2.1), (7, I s.2.2), (18, .list 1 false ((y :: r).map fun y : M7 => I y.1)), (19, I (((y :: r).map fun y : M7 => I y.1).length : Nat)), (20, I s.1)]) (fun s => ⟨([] : List VB).length, [], [.box [I m0, I m1, I m2, I m3, I m4, I m5, I m6]]⟩)
      (fun s => s.1 ≤ (y :: r).length ∧ (∀ k, k < 7 → tb s.2.1 k = anyA (fun x => decide (v ≤ x)) [m0, m1, m2, m3, m4, m5, m6] ((y :: r).take s.1) k) ∧ (∀ k, k < 7 → tb s.2.2 k = anyA (fun x => decide (v < x)) [m0, m1, m2, m3, m4, m5, m6] ((y :: r).take s.1) k)) (fun s => (y :: r).length - s.1) (0, 0, 0) ⟨by simp, fun k hk => by simp [anyA, tb], fun k hk => by simp [anyA, tb]⟩ (tsub_cons rfl (tsub_cons rfl (tsub_cons rfl (tsub_cons rfl (tsub_cons rfl (tsub_cons rfl (tsub_cons rfl (tsub_cons rfl tsub_nil)))))))) rfl (fun i hi => ⟨rfl, rfl⟩) ?_
    rintro ⟨i, a, b⟩ ⟨hi, ha, hb'⟩
    dsimp only at hi ha hb'
    have hlm : (((y :: r).map fun y : M7 => I y.1).length : Int) = ((y :: r).length : Nat) := by rw [List.length_map]
    rcases Nat.lt_or_ge i (y :: r).length with hlt | hge
    · have hx := (y :: r)[i].2
      have hgi : ((y :: r).map fun y : M7 => I y.1)[((i : Nat) : Int).toNat]? = some (I (y :: r)[i].1) := by rw [Int.toNat_natCast, List.getElem?_map, List.getElem?_eq_getElem hlt]; rfl
      have hst := fun p => @any_step p [m0, m1, m2, m3, m4, m5, m6] (y :: r) i hlt
      generalize (y :: r)[i].1 = x at hx hgi hst
      obtain ⟨n, rfl⟩ : ∃ n : Nat, x = n := ⟨x.toNat, by omega⟩
      have hn : n < 7 := by omega
      have hup : ∀ (p : Int → Bool) (z : Int), (∀ k, k < 7 → tb z k = anyA p [m0, m1, m2, m3, m4, m5, m6] ((y :: r).take i) k) → p ([m0, m1, m2, m3, m4, m5, m6].getD n 0) = true → ∀ k, k < 7 → tb (orI z (IntKind.i64.wrap (1 * 2 ^ (min n IntKind.i64.bits)))) k = anyA p [m0, m1, m2, m3, m4, m5, m6] ((y :: r).take (i + 1)) k := fun p z hz hp k hk => by
        rw [hst p k, tb_or, hz k hk, tb_pow hn]
        by_cases h : n = k
        · subst h; rw [hp]; simp
        · have : ¬ ((n : Int) = (k : Int)) := by omega
          simp [h, this]
      have hno : ∀ (p : Int → Bool) (z : Int), (∀ k, k < 7 → tb z k = anyA p [m0, m1, m2, m3, m4, m5, m6] ((y :: r).take i) k) → p ([m0, m1, m2, m3, m4, m5, m6].getD n 0) = false → ∀ k, k < 7 → tb z k = anyA p [m0, m1, m2, m3, m4, m5, m6] ((y :: r).take (i + 1)) k := fun p z hz hp k hk => by
        rw [hst p k, hz k hk]
        by_cases h : n = k
        · subst h; rw [hp]; simp
        · have : ¬ ((n : Int) = (k : Int)) := by omega
          simp [this]
      repeat' (first | (conv => whnf) | skip); (first | (refine VIf.mk (fun _ => ?_) (fun h => absurd (by first | omega | (dsimp only; omega)) h)) | (refine VIf.mk (fun h => absurd h (by first | omega | (dsimp only; omega))) (fun _ => ?_)) | (refine VIf.mk (fun _ => ?_) (fun _ => ?_)) | (refine VReq.mk (by kernel_rfl) ?_) | (refine VReq.mk ⟨by kernel_rfl, by first | omega | (dsimp only; omega)⟩ ?_) | (refine VReq.mk ⟨by omega, by omega⟩ ?_) | (refine VReq.mk (by omega) ?_) | (refine kget_some hgi ?_) | (refine kget_some (m7get hn) ?_) | (refine kget_some rfl ?_) | (refine kbox_top rfl rfl ?_) | (refine KEnd.mk ?_))
      · rename_i g1 g2 g3 g4 g5
        exact ⟨(i + 1, orI a (IntKind.i64.wrap (1 * 2 ^ (min n IntKind.i64.bits))), orI b (IntKind.i64.wrap (1 * 2 ^ (min n IntKind.i64.bits)))), ⟨hlt, hup _ a ha (decide_eq_true g4), hup _ b hb' (decide_eq_true g5)⟩, by dsimp only; omega, tsub_cons rfl (tsub_cons rfl (tsub_cons rfl (tsub_cons rfl (tsub_cons rfl (tsub_cons rfl (tsub_cons rfl (tsub_cons (congrArg I (inc64 (by simp only [List.length_cons] at hlt hln; omega))) tsub_nil))))))), rfl⟩
      · rename_i g1 g2 g3 g4 g5
        exact ⟨(i + 1, orI a (IntKind.i64.wrap (1 * 2 ^ (min n IntKind.i64.bits))), b), ⟨hlt, hup _ a ha (decide_eq_true g4), hno _ b hb' (decide_eq_false g5)⟩, by dsimp only; omega, tsub_cons rfl (tsub_cons rfl (tsub_cons rfl (tsub_cons rfl (tsub_cons rfl (tsub_cons rfl (tsub_cons rfl (tsub_cons (congrArg I (inc64 (by simp only [List.length_cons] at hlt hln; omega))) tsub_nil))))))), rfl⟩
      · rename_i g1 g2 g3 g4 g5
        exact ⟨(i + 1, a, b), ⟨hlt, hno _ a ha (decide_eq_false g4), hno _ b hb' (decide_eq_false g5)⟩, by dsimp only; omega, tsub_cons rfl (tsub_cons rfl (tsub_cons rfl (tsub_cons rfl (tsub_cons rfl (tsub_cons rfl (tsub_cons rfl (tsub_cons (congrArg I (inc64 (by simp only [List.length_cons] at hlt hln; omega))) tsub_nil))))))), rfl⟩
    · rw [List.take_of_length_le hge] at ha hb'
      obtain ⟨k1, k2⟩ := hbl ha hb'
      repeat' (first | (conv => whnf) | skip); (first | (refine VIf.mk (fun h => absurd h (by rw [hlm]; first | omega | (dsimp only; omega))) (fun _ => ?_)) | (refine VReq.mk (by kernel_rfl) ?_) | (refine kcall_bool (pquorum_spec c a _) rfl (fun _ => ?_) (fun h => by rw [k1] at h; cases h)) | (refine kcall_bool (pquorum_spec c b _) rfl (fun h => by rw [k2] at h; cases h) (fun _ => ?_)) | (refine kcall_pure (awake_spec _ nm) rfl ?_) | (refine kdone_pure h0 (by simp) ⟨?_, rfl⟩))
      rfl
  · rfl
end Go.Vm
