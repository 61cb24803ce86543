/- peers.List: slices.Collect over the members. -/
import Derived.Test.YthgpapnbnapdhaaF6
set_option linter.unusedVariables false
set_option linter.unusedSimpArgs false
namespace Go.Vm
open Go.Proofs
set_option maxRecDepth 100000
/-- A list of members as it is handed back. -/
def lstv (l : List M7) : SV := match l with
  | [] => .v (.slice none 0 0)
  | x :: r => .list 1 false ((x :: r).map fun y => I y.1)
def aH (H : List VB) (pre : List M7) : KH :=
  match pre with
  | [] => ⟨H.length, H, [.box [.v (.slice none 0 0)]]⟩
  | x :: r => ⟨H.length, H, [.box [.slc (H.length + 1) r.length 0 (r.length + 1)], .row r.length 1 ((x :: r).map fun y => I y.1)]⟩
theorem aH_nm {H : List VB} (nm : NoMap H) (pre : List M7) : NoMap (aH H pre).flat := by
  cases pre with
  | nil => exact noMap_append (X := [.box [.v (.slice none 0 0)]]) nm (by intro b hb es he; subst he; simp at hb)
  | cons x r => exact noMap_append (X := [.box [.slc (H.length + 1) r.length 0 (r.length + 1)], .row r.length 1 ((x :: r).map fun y => I y.1)]) nm (by intro b hb es he; subst he; simp at hb)
theorem appendSeq_spec (c : Int) (id : Nat) (H : List VB) (hid : H[id]? = some (.box [I c])) (nm : NoMap H) :
    VCalls Try.prog 79 [.v (.slice none 0 0), .fn 76 [.ptr id 0]] H (fun r H' => r = lstv (memA c 7) ∧ H' = H) := by
  refine kcalls_marks Try.func79 rfl (by kernel_rfl) rfl ?_
  intro R0 h0 hb
  refine kwps_pre rfl ?_
  (conv => whnf)
  refine kwps_seq (kwps_pre rfl ?_)
  (conv => whnf)
  refine kwps_block (kwps_range (α := M7) (enc := fun x => x.1) (xs := memA c 7) (NN := 7) (aH H) (fun b o w hw => members_stops 1 (by omega) b o c w hw) rfl (by kernel_rfl) (fun pre => aH_nm nm pre) rfl ?hid rfl rfl ?ok ?body ?done)
  case hid => intro pre; cases pre <;> exact flat_get_base hid
  case ok => intro pre; cases pre <;> exact ⟨rfl, rfl⟩
  case body =>
    intro R1 pre x hlt h1 hb1
    cases pre with
    | nil =>
      repeat' (first | (conv => whnf) | skip); (first | (refine VReq.mk (by kernel_rfl) ?_) | (refine kbox_top rfl rfl ?_) | (refine kget_some rfl ?_) | (refine kb_append_nil (n := 1) (ys := [I x.1]) rfl (by kernel_rfl) rfl (by simp only [List.length_cons, List.length_nil]; omega) ?_) | (refine krow_top rfl rfl ?_) | (refine VReq.mk rfl ?_) | (refine VReq.mk (Nat.le_refl 1) ?_) | (refine kset_top rfl ?_) | (refine KEnd.mk ?_))
      rfl
    | cons y r =>
      have hl : ((y :: r).map fun y : M7 => I y.1).length = r.length + 1 := by simp
      have hlt' : r.length < 7 := by simp at hlt; omega
      repeat' (first | (conv => whnf) | skip); (first | (refine VReq.mk (by kernel_rfl) ?_) | (refine kbox_top rfl rfl ?_) | (refine kget_some rfl ?_) | (refine kb_append_top (n := 1) (ys := [I x.1]) rfl (by kernel_rfl) rfl hl.symm rfl (by rw [hl]; simp only [List.length_cons, List.length_nil]; omega) (by simp [SV.cells, svCell, svValid, Value.oneCell']) ?_) | (refine krow_top rfl rfl ?_) | (refine VReq.mk rfl ?_) | (refine VReq.mk (Nat.le_refl 1) ?_) | (refine kset_top rfl ?_) | (refine KEnd.mk ?_))
      have e3 : ((y :: r ++ [x]).map fun y : M7 => I y.1) = ((y :: r).map fun y : M7 => I y.1) ++ [I x.1] := by simp
      show KH.mk H.length H [VB.box [SV.slc (H.length + 1) (r.length + 1) 0 (((y :: r).map fun y : M7 => I y.1) ++ [I x.1]).length], VB.row (r.length + 1) 1 (((y :: r).map fun y : M7 => I y.1) ++ [I x.1])] =
        KH.mk H.length H [VB.box [SV.slc (H.length + 1) (r ++ [x]).length 0 ((r ++ [x]).length + 1)], VB.row (r ++ [x]).length 1 ((y :: r ++ [x]).map fun y : M7 => I y.1)]
      rw [e3]
      simp
  case done =>
    (conv => whnf)
    cases hmem : memA c 7 with
    | nil =>
      refine kwpm_of rfl (aH_nm nm _) ?_
      intro R2 hR2 hb2
      repeat' (first | (conv => whnf) | skip); (first | (refine VReq.mk (by kernel_rfl) ?_) | (refine kbox_top rfl rfl ?_) | (refine kget_some rfl ?_) | (refine VReq.mk rfl ?_))
      (conv => whnf)
      refine ⟨aH_nm nm _, ?_⟩
      (conv => whnf)
      exact kdone_pure h0 (by simp) ⟨rfl, rfl⟩
    | cons y r =>
      refine kwpm_of rfl (aH_nm nm _) ?_
      intro R2 hR2 hb2
      repeat' (first | (conv => whnf) | skip); (first | (refine VReq.mk (by kernel_rfl) ?_) | (refine kbox_top rfl rfl ?_) | (refine kget_some rfl ?_) | (refine krow_top rfl rfl ?_) | (refine VReq.mk rfl ?_))
      (conv => whnf)
      refine ⟨aH_nm nm _, ?_⟩
      (conv => whnf)
      refine kdone_row h0 rfl (by simp) (fun z hz => ?_) ⟨rfl, rfl⟩
      obtain ⟨q, _, rfl⟩ := List.mem_map.1 hz
      exact .v _
theorem collect_spec (c : Int) (id : Nat) (H : List VB) (hid : H[id]? = some (.box [I c])) (nm : NoMap H) :
    VCalls Try.prog 57 [.fn 76 [.ptr id 0]] H (fun r H' => r = lstv (memA c 7) ∧ H' = H) := by
  refine kcalls Try.func57 rfl (by kernel_rfl) rfl ?_
  intro R0 h0 hb
  have e0 : KH.flat ⟨H.length, H, []⟩ = H := by simp [KH.flat]
  cases hmem : memA c 7 with
  | nil =>
    repeat' (first | (conv => whnf) | skip); (first | (refine kcall_pure (r0 := lstv []) (by rw [e0, ← hmem]; exact appendSeq_spec c id H hid nm) rfl ?_) | (refine kdone_pure h0 (by simp) ⟨?_, rfl⟩))
    rfl
  | cons y r =>
    repeat' (first | (conv => whnf) | skip); (first | (refine kcall_pure (r0 := lstv (y :: r)) (by rw [e0, ← hmem]; exact appendSeq_spec c id H hid nm) rfl ?_) | (refine kdone_pure h0 (by rw [bel_list]; intro z hz; obtain ⟨q, _, rfl⟩ := List.mem_map.1 hz; exact .v _) ⟨?_, rfl⟩))
    rfl
theorem plist_spec (c : Int) (H : List VB) (nm : NoMap H) : VCalls Try.prog 19 [I c] H (fun r H' => r = lstv (memA c 7) ∧ H' = H) := by
  refine kcalls Try.func19 rfl (by kernel_rfl) rfl ?_
  intro R0 h0 hb
  have nm2 : NoMap (KH.flat ⟨H.length, H, [.box [I c]]⟩) := noMap_append (X := [.box [I c]]) nm (by intro b hb es he; subst he; simp at hb)
  have hcol := collect_spec c (H.length + 0) (KH.flat ⟨H.length, H, [.box [I c]]⟩) (flat_get_top rfl 0) nm2
  (conv => whnf)
  refine ⟨(members_spec c _).mono ?_⟩
  rintro r H' ⟨e1, e2⟩
  have e0 : KH.flat ⟨H.length, H, []⟩ = H := by simp [KH.flat]
  have e3 : r = .fn 76 [.ptr (H.length + 0) 0] := e1.trans (congrArg (fun L : List VB => SV.fn 76 [.ptr L.length 0]) e0)
  have e4 : H' = H ++ [.box [I c]] := e2.trans (congrArg (fun L : List VB => L ++ [.box [I c]]) e0)
  clear e1 e2
  subst e3
  refine ⟨⟨H.length, H, [.box [I c]]⟩, by rw [e4]; rfl, rfl, rfl, ?_⟩
  cases hmem : memA c 7 with
  | nil =>
    rw [hmem] at hcol
    repeat' (first | (conv => whnf) | skip); (first | (refine kcall_pure (r0 := lstv []) hcol rfl ?_) | (refine kdone_pure h0 (by simp) ⟨?_, rfl⟩))
    rfl
  | cons y r =>
    rw [hmem] at hcol
    repeat' (first | (conv => whnf) | skip); (first | (refine kcall_pure (r0 := lstv (y :: r)) hcol rfl ?_) | (refine kdone_pure h0 (by rw [bel_list]; intro z hz; obtain ⟨q, _, rfl⟩ := List.mem_map.1 hz; exact .v _) ⟨?_, rfl⟩))
    rfl
end Go.Vm
