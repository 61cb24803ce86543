/- place.rank, baileyref03.Sum, baileyref29.rank: what they compute. -/
import Derived.Test.YthgpapnbnapdhaaS12
set_option linter.unusedVariables false
set_option linter.unusedSimpArgs false
namespace Go.Vm
open Go.Proofs
set_option maxRecDepth 100000
abbrev T (s : ByteArray) : SV := .v (.string s)
/-- Where a node stands for a piece. -/
def rk (sum : ByteArray) (node : Nat) : ByteArray := shaS (sum.data.toList ++ [UInt8.ofNat node])
theorem node_byte {node : Nat} (h : node < 256) : SV.v (.int .u8 (IntKind.u8.wrap (node : Int))) = byteSV (UInt8.ofNat node) := by
  unfold byteSV
  rw [u8_wrap, UInt8.toNat_ofNat']
  congr 2
theorem rank_spec (sum : ByteArray) (hs : sum.size ≤ 500000) (node : Nat) (hn : node < 256) (H : List VB) : VCalls Try.prog 66 [T sum, I node] H (fun r H' => r = T (rk sum node) ∧ H' = H) := by
  have hc5 : Try.prog.cellsOf 5 = 1 := by kernel_rfl
  have hsl : sum.data.toList.length = sum.size := by rw [Array.length_toList]; rfl
  refine kcalls Try.func66 rfl (by kernel_rfl) rfl ?_
  intro R0 h0 hb
  (conv => whnf)
  refine ⟨(new_spec _).mono ?_⟩
  rintro r H' ⟨rfl, e⟩
  have hfl : (KH.flat ⟨H.length, H, []⟩).length = H.length + 0 := by simp [KH.flat]
  refine ⟨⟨H.length, H, [.box (hcells V8.init (List.replicate 64 0) 0)]⟩, by rw [e]; simp [KH.flat], rfl, rfl, ?_⟩
  rw [hfl]
  clear e hfl
  repeat' (first | (conv => whnf) | skip); (first | (refine kconvb_list (e := 5) rfl (by kernel_rfl) (by kernel_rfl) (by kernel_rfl) (by omega) ?_) | (refine VReq.mk (by kernel_rfl) ?_))
  have hw1 := write_spec V8.init (List.replicate 64 0) [] sum.data.toList false (hinv_nil (by simp)) (by rw [hsl]; simp; omega) (H.length + 0) (KH.flat ⟨H.length, H, [.box (hcells V8.init (List.replicate 64 0) 0)]⟩) (flat_get_top rfl 0)
  refine ⟨VCalls.mono hw1 ?_⟩
  rintro r H' ⟨rfl, s1, p1, hi1, e⟩
  rw [List.nil_append] at hi1 e
  refine ⟨⟨H.length, H, [.box (hcells s1 p1 sum.data.toList.length)]⟩, by rw [e]; exact (flat_set_top (n0 := H.length) (top := [.box (hcells V8.init (List.replicate 64 0) 0)]) rfl 0 _).symm, rfl, rfl, ?_⟩
  clear e hw1
  repeat' (first | (conv => whnf) | skip); (first | (refine VReq.mk ⟨by kernel_rfl, by kernel_rfl⟩ ?_) | (refine VReq.mk (by kernel_rfl) ?_))
  have hw2 := write_spec s1 p1 sum.data.toList [UInt8.ofNat node] true hi1 (by rw [hsl]; simp; omega) (H.length + 0) (KH.flat ⟨H.length, H, [.box (hcells s1 p1 sum.data.toList.length)]⟩) (flat_get_top rfl 0)
  refine kcall_eq (args' := [.ptr (H.length + 0) 0, .list 1 true ([UInt8.ofNat node].map byteSV)]) ?_ ⟨VCalls.mono hw2 ?_⟩
  · show [SV.ptr _ _, SV.list (Try.prog.cellsOf 5) true [SV.v (.int .u8 (IntKind.u8.wrap (node : Int)))]] = _
    rw [hc5, node_byte hn]; rfl
  rintro r H' ⟨rfl, s2, p2, hi2, e⟩
  refine ⟨⟨H.length, H, [.box (hcells s2 p2 (sum.data.toList ++ [UInt8.ofNat node]).length)]⟩, by rw [e]; exact (flat_set_top (n0 := H.length) (top := [.box (hcells s1 p1 sum.data.toList.length)]) rfl 0 _).symm, rfl, rfl, ?_⟩
  clear e hw2
  have hsum := sum_spec s2 p2 (sum.data.toList ++ [UInt8.ofNat node]) hi2 (by rw [List.length_append, hsl]; simp; omega) (H.length + 0) (KH.flat ⟨H.length, H, [.box (hcells s2 p2 (sum.data.toList ++ [UInt8.ofNat node]).length)]⟩) (flat_get_top rfl 0)
  repeat' (first | (conv => whnf) | skip); (first | (refine kcall_pure hsum rfl ?_) | (refine kdone_pure h0 (by simp) ⟨rfl, rfl⟩))
end Go.Vm
