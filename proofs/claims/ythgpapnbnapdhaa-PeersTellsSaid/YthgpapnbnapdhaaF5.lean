/- peers.Match: what it computes. -/
import Derived.Test.YthgpapnbnapdhaaF3
import Derived.Test.YthgpapnbnapdhaaF4
set_option linter.unusedVariables false
set_option linter.unusedSimpArgs false
namespace Go.Vm
open Go.Proofs
set_option maxRecDepth 100000
def cmpD (a b : Int) : Int := if b < a then -1 else if a < b then 1 else 0
theorem cmpD_spec : CmpIs Try.prog 53 cmpD := by
  intro x y H
  refine kcalls Try.func53 rfl (by kernel_rfl) rfl ?_
  intro R0 h0 hb
  repeat' (first | (conv => whnf) | skip); (first | (refine VIf.mk (fun _ => ?_) (fun _ => ?_)) | (refine kdone_pure h0 (by simp) ⟨?_, rfl⟩))
  all_goals unfold cmpD
  · rename_i h1; rw [if_pos h1]
  · rename_i h1 h2; rw [if_neg h1, if_pos h2]
  · rename_i h1 h2; rw [if_neg h1, if_neg h2]
theorem cmpD_as : ∀ a b, cmpD a b < 0 → ¬ cmpD b a < 0 := by
  intro a b; unfold cmpD; split <;> split <;> (try split) <;> omega
theorem cmpD_tr : ∀ a b c, ¬ cmpD a b < 0 → ¬ cmpD b c < 0 → ¬ cmpD a c < 0 := by
  intro a b c; unfold cmpD; repeat' split
  all_goals omega
theorem members_spec (c : Int) (H : List VB) : VCalls Try.prog 51 [I c] H (fun r H' => r = .fn 76 [.ptr H.length 0] ∧ H' = H ++ [.box [I c]]) := by
  refine kcalls Try.func51 rfl (by kernel_rfl) rfl ?_
  intro R0 h0 hb
  repeat' (first | (conv => whnf) | skip); (first | (refine VReq.mk (by kernel_rfl) ?_) | (refine kdone_keep ⟨?_, ?_⟩))
  · rfl
  · simp [KH.flat]
/-- What the members have. -/
def hav (c : Int) (ms : List Int) (pre : List M7) : List Int := pre.map fun x => ms.getD x.1.toNat 0
def mH (H : List VB) (c : Int) (ms : List Int) (pre : List M7) : KH :=
  match pre with
  | [] => ⟨H.length, H, [.box (ms.map I), .box [.v (.slice none 0 0)], .box [I c]]⟩
  | x :: r => ⟨H.length, H, [.box (ms.map I), .box [.slc (H.length + 3) r.length 0 (r.length + 1)], .box [I c], rowI r.length (hav c ms (x :: r))]⟩
/-- What more than half of some numbers are at least. -/
def MatOk (l : List Int) (v : Int) : Prop := (l = [] ∧ v = 0) ∨ (l ≠ [] ∧ ∃ ys : List Int, ys.Perm l ∧ Srt cmpD ys l.length l.length ∧ v = ys.getD (l.length / 2) 0)
theorem mH_nm {H : List VB} (nm : NoMap H) (c : Int) (ms : List Int) (pre : List M7) : NoMap (mH H c ms pre).flat := by
  cases pre with
  | nil => exact noMap_append (X := [.box (ms.map I), .box [.v (.slice none 0 0)], .box [I c]]) nm (by intro b hb es he; subst he; simp at hb)
  | cons x r => exact noMap_append (X := [.box (ms.map I), .box [.slc (H.length + 3) r.length 0 (r.length + 1)], .box [I c], .row r.length 1 ((hav c ms (x :: r)).map I)]) nm (by intro b hb es he; subst he; simp at hb)
theorem match_spec (c m0 m1 m2 m3 m4 m5 m6 : Int) (H : List VB) (nm : NoMap H) : VCalls Try.prog 11 [I c, .agg [I m0, I m1, I m2, I m3, I m4, I m5, I m6]] H (fun r H' => ∃ v, MatOk (hav c [m0, m1, m2, m3, m4, m5, m6] (memA c 7)) v ∧ r = I v ∧ H' = H) := by
  refine kcalls_marks Try.func11 rfl (by kernel_rfl) rfl ?_
  intro R0 h0 hb
  refine kwps_pre rfl ?_
  (conv => whnf)
  refine kwps_pre rfl ?_
  (conv => whnf)
  refine kwps_seq (kwps_pre rfl ?_)
  (conv => whnf)
  refine ⟨(members_spec c _).mono ?_⟩
  rintro r H' ⟨e1, e2⟩
  have e2' : H' = KH.flat ⟨H.length, H, [VB.box [I m0, I m1, I m2, I m3, I m4, I m5, I m6], .box [.v (.slice none 0 0)]]⟩ ++ [.box [I c]] := e2
  clear e2
  refine ⟨mH H c [m0, m1, m2, m3, m4, m5, m6] [], by rw [e2']; simp [mH, KH.flat], rfl, rfl, ?_⟩
  clear e2'
  have hlen : (KH.flat ⟨H.length, H, [VB.box [I m0, I m1, I m2, I m3, I m4, I m5, I m6], .box [.v (.slice none 0 0)]]⟩).length = H.length + 2 := by simp [KH.flat]
  have e3 : r = .fn 76 [.ptr (H.length + 2) 0] := e1.trans (congrArg (fun k => SV.fn 76 [.ptr k 0]) hlen)
  subst e3
  (conv => whnf)
  refine kwps_block (kwps_range (α := M7) (enc := fun x => x.1) (xs := memA c 7) (NN := 7) (mH H c [m0, m1, m2, m3, m4, m5, m6]) (fun b o w hw => members_stops 1 (by omega) b o c w hw) rfl (by kernel_rfl) ?nm rfl ?hid rfl rfl ?ok ?body ?done)
  case nm => exact fun pre => mH_nm nm c _ pre
  case hid =>
    intro pre
    cases pre with
    | nil => exact flat_get_top (n0 := H.length) rfl 2
    | cons x r => exact flat_get_top (n0 := H.length) rfl 2
  case ok => intro pre; cases pre <;> exact ⟨rfl, rfl⟩
  case body =>
    intro R1 pre x hlt h1 hb1
    clear e1 hlen
    have hc3 : Try.prog.cellsOf 3 = 1 := by kernel_rfl
    have hget : (([I m0, I m1, I m2, I m3, I m4, I m5, I m6] : List SV).drop (0 + x.1.toNat * Try.prog.cellsOf 3))[0]? = some (I ([m0, m1, m2, m3, m4, m5, m6].getD x.1.toNat 0)) := by
      rw [hc3]
      have hk : x.1.toNat < 7 := by have := x.2; omega
      generalize x.1.toNat = k at hk
      rcases k with _ | _ | _ | _ | _ | _ | _ | k <;> first | rfl | omega
    cases pre with
    | nil =>
      repeat' (first | (conv => whnf) | skip); (first | (refine VIf.mk (fun _ => ?_) (fun _ => ?_)) | (refine VReq.mk (by kernel_rfl) ?_) | (refine VReq.mk x.2 ?_) | (refine kwp_draw (by kernel_rfl) (by kernel_rfl) rfl ?_) | (refine kbox_top rfl rfl ?_) | (refine kget_some hget ?_) | (refine kget_some rfl ?_) | (refine kb_append_nil (n := 1) (ys := [I ([m0, m1, m2, m3, m4, m5, m6].getD x.1.toNat 0)]) rfl (by kernel_rfl) rfl (by simp only [List.length_cons, List.length_nil]; omega) ?_) | (refine krow_top rfl rfl ?_) | (refine VReq.mk rfl ?_) | (refine VReq.mk (Nat.le_refl 1) ?_) | (refine kset_top rfl ?_) | (refine KEnd.mk ?_))
      rfl
    | cons y r =>
      have hl : (hav c [m0, m1, m2, m3, m4, m5, m6] (y :: r)).length = r.length + 1 := by simp [hav]
      have hlt' : r.length < 7 := by simp at hlt; omega
      repeat' (first | (conv => whnf) | skip); (first | (refine VIf.mk (fun _ => ?_) (fun _ => ?_)) | (refine VReq.mk (by kernel_rfl) ?_) | (refine VReq.mk x.2 ?_) | (refine kwp_draw (by kernel_rfl) (by kernel_rfl) rfl ?_) | (refine kbox_top rfl rfl ?_) | (refine kget_some hget ?_) | (refine kget_some rfl ?_) | (refine kb_append_top (n := 1) (ys := [I ([m0, m1, m2, m3, m4, m5, m6].getD x.1.toNat 0)]) rfl (by kernel_rfl) rfl (by rw [List.length_map, hl]) rfl (by rw [List.length_map, hl]; simp only [List.length_cons, List.length_nil]; omega) (by simp [SV.cells, svCell, svValid, Value.oneCell']) ?_) | (refine krow_top rfl rfl ?_) | (refine VReq.mk rfl ?_) | (refine VReq.mk (Nat.le_refl 1) ?_) | (refine kset_top rfl ?_) | (refine KEnd.mk ?_))
      have e3 : (hav c [m0, m1, m2, m3, m4, m5, m6] (y :: r ++ [x])).map I = (hav c [m0, m1, m2, m3, m4, m5, m6] (y :: r)).map I ++ [I ([m0, m1, m2, m3, m4, m5, m6].getD x.1.toNat 0)] := by simp [hav]
      show KH.mk H.length H [VB.box _, VB.box [SV.slc (H.length + 3) (r.length + 1) 0 (List.map I (hav c [m0, m1, m2, m3, m4, m5, m6] (y :: r)) ++ [I _]).length], VB.box [I c], VB.row (r.length + 1) 1 (List.map I (hav c [m0, m1, m2, m3, m4, m5, m6] (y :: r)) ++ [I _])] =
        KH.mk H.length H [VB.box _, VB.box [SV.slc (H.length + 3) (r ++ [x]).length 0 ((r ++ [x]).length + 1)], VB.box [I c], VB.row (r ++ [x]).length 1 ((hav c [m0, m1, m2, m3, m4, m5, m6] (y :: r ++ [x])).map I)]
      rw [e3]
      simp [hl]
  case done =>
    clear e1 hlen
    (conv => whnf)
    have hln := memA_len c 7
    cases hmem : memA c 7 with
    | nil =>
      refine kwpm_of rfl ?_ ?_
      · exact mH_nm nm c _ _
      intro R2 hR2 hb2
      repeat' (first | (conv => whnf) | skip); (first | (refine VIf.mk (fun _ => ?_) (fun h => absurd rfl h)) | (refine VReq.mk (by kernel_rfl) ?_) | (refine kbox_top rfl rfl ?_) | (refine kget_some rfl ?_) | (refine krow_top rfl rfl ?_) | (refine VReq.mk rfl ?_))
      (conv => whnf)
      refine ⟨mH_nm nm c _ _, ?_⟩
      (conv => whnf)
      exact kdone_pure h0 (by simp) ⟨0, .inl ⟨rfl, rfl⟩, rfl, rfl⟩
    | cons y r =>
      have hl : (hav c [m0, m1, m2, m3, m4, m5, m6] (y :: r)).length = r.length + 1 := by simp [hav]
      rw [hmem] at hln
      simp only [List.length_cons] at hln
      refine kwpm_of rfl ?_ ?_
      · exact mH_nm nm c _ _
      intro R2 hR2 hb2
      repeat' (first | (conv => whnf) | skip); (first | (refine VIf.mk (fun _ => by omega) (fun h => ?_)) | (refine VReq.mk (by kernel_rfl) ?_) | (refine kbox_top rfl rfl ?_) | (refine kget_some rfl ?_) | (refine krow_top rfl rfl ?_) | (refine VReq.mk rfl ?_))
      have hsort := sort_spec cmpD_spec cmpD_as cmpD_tr (mH H c [m0, m1, m2, m3, m4, m5, m6] (y :: r)).flat (H.length + 3) r.length (hav c [m0, m1, m2, m3, m4, m5, m6] (y :: r)) (flat_get_top (n0 := H.length) rfl 3) (by omega)
      rw [hl] at hsort
      refine ⟨VCalls.mono hsort ?_⟩
      rintro r' H2 ⟨ys, hp, hs, er, e⟩
      subst er
      have hyl : ys.length = r.length + 1 := hp.length_eq.trans hl
      refine ⟨⟨H.length, H, [.box ([m0, m1, m2, m3, m4, m5, m6].map I), .box [.slc (H.length + 3) r.length 0 (r.length + 1)], .box [I c], rowI r.length ys]⟩, by rw [e]; exact (flat_set_top (n0 := H.length) (top := [.box ([m0, m1, m2, m3, m4, m5, m6].map I), .box [.slc (H.length + 3) r.length 0 (r.length + 1)], .box [I c], rowI r.length (hav c [m0, m1, m2, m3, m4, m5, m6] (y :: r))]) rfl 3 _).symm, rfl, rfl, ?_⟩
      have hw : IntKind.i64.wrap (((r.length + 1 : Nat) : Int).tdiv 2) = (((r.length + 1) / 2 : Nat) : Int) := by
        rw [IntWalk.i64_quo _ _ (by omega)]; omega
      have hgt : (ys.map I)[0 + (IntKind.i64.wrap (((r.length + 1 : Nat) : Int).tdiv 2)).toNat]? = some (I (ys.getD ((r.length + 1) / 2) 0)) := by
        rw [hw, Nat.zero_add, Int.toNat_natCast]; exact getI (by omega)
      repeat' (first | (conv => whnf) | skip); (first | (refine VReq.mk (by kernel_rfl) ?_) | (refine VReq.mk (by decide) ?_) | (refine kwp_draw (by kernel_rfl) (by kernel_rfl) rfl ?_) | (refine kbox_top rfl rfl ?_) | (refine kget_some hgt ?_) | (refine kget_some rfl ?_) | (refine krow_top rfl rfl ?_) | (refine VReq.mk rfl ?_) | (refine VReq.mk ⟨by rw [hw]; omega, by rw [hw]; omega, rfl, by kernel_rfl, by rw [List.length_map]; omega⟩ ?_))
      (conv => whnf)
      refine ⟨?_, ?_⟩
      · exact noMap_append (X := [.box ([m0, m1, m2, m3, m4, m5, m6].map I), .box [.slc (H.length + 3) r.length 0 (r.length + 1)], .box [I c], .row r.length 1 (ys.map I)]) nm (by intro b hb es he; subst he; simp at hb)
      · (conv => whnf)
        exact kdone_pure h0 (by simp) ⟨_, .inr ⟨by simp [hav], ys, hp, by rw [hl]; exact hs, by rw [hl]⟩, rfl, rfl⟩
end Go.Vm
