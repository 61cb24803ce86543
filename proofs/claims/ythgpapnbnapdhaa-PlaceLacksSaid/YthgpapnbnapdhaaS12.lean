/- Layer 3 (sha): a sum; where a node stands for a piece (place.rank). -/
import Derived.Test.YthgpapnbnapdhaaS11
set_option linter.unusedVariables false
set_option linter.unusedSimpArgs false
namespace Go.Vm
open Go.Proofs
set_option maxRecDepth 100000
/-- A text's sum. -/
def shaS (l : List UInt8) : ByteArray := ⟨(tell (foldB V8.init (l ++ padL l.length) ((l ++ padL l.length).length / 64))).toArray⟩
theorem new_spec (H : List VB) : VCalls Try.prog 81 [] H (fun r H' => r = .ptr H.length 0 ∧ H' = H ++ [.box (hcells V8.init (List.replicate 64 0) 0)]) := by
  refine kcalls Try.func81 rfl (by kernel_rfl) rfl ?_
  intro R0 h0 hb
  repeat' (first | (conv => whnf) | skip); (first | (refine kcall_pure (start_spec _) rfl ?_) | (refine VReq.mk ⟨by kernel_rfl, Nat.le_of_ble_eq_true (by kernel_rfl)⟩ ?_) | (refine VReq.mk (by kernel_rfl) ?_))
  refine kdone_keep ⟨rfl, ?_⟩
  refine congrArg (fun z => H ++ [VB.box z]) ?_
  kernel_rfl
theorem hcells_cells {H : List VB} {s : V8} {p : List UInt8} {n : Int} : ∀ c, c ∈ hcells s p n → svCell H c = true := fun c hc => by
  simp only [hcells, List.mem_append] at hc
  rcases hc with hc | hc | hc
  · exact cells8 s c hc
  · exact cellsB p c hc
  · simp at hc; rcases hc with rfl | rfl <;> rfl
theorem sum_spec (s : V8) (p all : List UInt8) (hi : HInv all s p) (hn : all.length ≤ 900000) (id : Nat) (H : List VB) (hH : H[id]? = some (.box (hcells s p all.length))) :
    VCalls Try.prog 83 [.ptr id 0] H (fun r H' => r = .v (.string (shaS all)) ∧ H' = H) := by
  have hc100 : Try.prog.cellsOf 100 = 8 := by kernel_rfl
  have hc104 : Try.prog.cellsOf 104 = 74 := by kernel_rfl
  have hl74 := @hcells_len s p all.length hi.hl
  have hget : ((hcells s p all.length).drop 72)[0]? = some (I all.length) := by rw [List.getElem?_drop]; exact hcells_n hi.hl
  have hm0 : ((hcells s p all.length).drop 73)[0]? = some (B true) := by rw [List.getElem?_drop]; exact hcells_m hi.hl
  have htk : ((hcells s p all.length).drop 0).take (Try.prog.cellsOf 104) = hcells s p all.length := by rw [hc104]; exact take_drop0 hl74
  have hpz : zpad all.length < 64 := by unfold zpad; omega
  have hpl := padL_len all.length
  refine kcalls Try.func83 rfl (by kernel_rfl) rfl ?_
  intro R0 h0 hb
  have hle : Try.prog.cellsOf 104 ≤ ((hcells s p all.length).drop 0).length := by rw [hc104, List.drop_zero, hl74]; exact Nat.le_refl 74
  repeat' (first | (conv => whnf) | skip); (first | (refine kbox_base hH ?_) | (refine kget_some hm0 ?_) | (refine kget_some hget ?_) | (refine VReq.mk hle ?_) | (rw [htk]; refine VReq.mk hcells_cells ?_) | (refine VReq.mk (hl74.trans hc104.symm) ?_) | (refine VReq.mk (by kernel_rfl) ?_) | (refine kbox_top rfl rfl ?_) | (refine VReq.mk (by rw [hl74]; exact Nat.le_refl 74) ?_) | (refine kset_top rfl ?_; rw [lput_whole (hl74.trans rfl)]) | (refine kcall_pure (pad_spec all.length (by omega) _) rfl ?_))
  have hw := write_spec s p all (padL all.length) false hi (by omega) (H.length + 0) (KH.flat ⟨H.length, H, [.box (hcells s p all.length)]⟩) (flat_get_top rfl 0)
  refine ⟨VCalls.mono hw ?_⟩
  rintro r H' ⟨rfl, s', p', hi', e⟩
  refine ⟨⟨H.length, H, [.box (hcells s' p' (all ++ padL all.length).length)]⟩, by rw [e]; exact (flat_set_top (n0 := H.length) (top := [.box (hcells s p all.length)]) rfl 0 _).symm, rfl, rfl, ?_⟩
  have hs' : s' = foldB V8.init (all ++ padL all.length) ((all ++ padL all.length).length / 64) := hi'.hs
  have hle2 : Try.prog.cellsOf 100 ≤ ((hcells s' p' (all ++ padL all.length).length).drop 0).length := by rw [hc100, List.drop_zero, hcells_len hi'.hl]; decide
  repeat' (first | (conv => whnf) | skip); (first | (refine kbox_top rfl rfl ?_) | (refine VReq.mk hle2 ?_) | (refine VReq.mk (by kernel_rfl) ?_))
  refine kcall_eq (args' := [.agg s'.l]) ?_ (kcall_pure (told_spec s' _) rfl ?_)
  · show [SV.agg _] = _
    rw [hc100]; rfl
  (conv => whnf)
  exact kdone_pure h0 (by simp) ⟨by rw [shaS, hs'], rfl⟩
end Go.Vm
