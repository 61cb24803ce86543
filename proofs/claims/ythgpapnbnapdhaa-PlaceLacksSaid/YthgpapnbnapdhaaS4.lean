/- Layer 3 (sha): a block: what it makes of some words. -/
import Derived.Test.YthgpapnbnapdhaaS3
set_option linter.unusedVariables false
set_option linter.unusedSimpArgs false
namespace Go.Vm
open Go.Proofs
set_option maxRecDepth 100000
/-- The constants of the rounds. -/
def KK : List (BitVec 32) := [1116352408, 1899447441, 3049323471, 3921009573, 961987163, 1508970993, 2453635748, 2870763221, 3624381080, 310598401, 607225278, 1426881987, 1925078388, 2162078206, 2614888103, 3248222580, 3835390401, 4022224774, 264347078, 604807628, 770255983, 1249150122, 1555081692, 1996064986, 2554220882, 2821834349, 2952996808, 3210313671, 3336571891, 3584528711, 113926993, 338241895, 666307205, 773529912, 1294757372, 1396182291, 1695183700, 1986661051, 2177026350, 2456956037, 2730485921, 2820302411, 3259730800, 3345764771, 3516065817, 3600352804, 4094571909, 275423344, 430227734, 506948616, 659060556, 883997877, 958139571, 1322822218, 1537002063, 1747873779, 1955562222, 2024104815, 2227730452, 2361852424, 2428436474, 2756734187, 3204031479, 3329325298]
/-- Eight words. -/
structure V8 where
  a : BitVec 32
  b : BitVec 32
  c : BitVec 32
  d : BitVec 32
  e : BitVec 32
  f : BitVec 32
  g : BitVec 32
  h : BitVec 32
def V8.w (s : V8) : List (BitVec 32) := [s.a, s.b, s.c, s.d, s.e, s.f, s.g, s.h]
/-- Where a sum begins. -/
def V8.init : V8 := ⟨0x6a09e667, 0xbb67ae85, 0x3c6ef372, 0xa54ff53a, 0x510e527f, 0x9b05688c, 0x1f83d9ab, 0x5be0cd19⟩
def V8.l (s : V8) : List SV := [U s.a, U s.b, U s.c, U s.d, U s.e, U s.f, U s.g, U s.h]
def V8.x (s : V8) (k w : BitVec 32) : BitVec 32 := s.h + suB s.e + chs s.e s.f s.g + k + w
def V8.y (s : V8) : BitVec 32 := suA s.a + mst s.a s.b s.c
def V8.step (s : V8) (k w : BitVec 32) : V8 := ⟨s.x k w + s.y, s.a, s.b, s.c, s.d + s.x k w, s.e, s.f, s.g⟩
def V8.run (s : V8) (w : List (BitVec 32)) : Nat → V8
  | 0 => s
  | t + 1 => (s.run w t).step (KK.getD t 0) (w.getD t 0)
def V8.add (s o : V8) : V8 := ⟨s.a + o.a, s.b + o.b, s.c + o.c, s.d + o.d, s.e + o.e, s.f + o.f, s.g + o.g, s.h + o.h⟩
/-- What a block makes of some words. -/
def blk (h : V8) (b : List UInt8) : V8 := (h.run (sch b 64) 64).add h
theorem rounds_spec (H : List VB) : VCalls Try.prog 134 [] H (fun r H' => r = .agg (KK.map U) ∧ H' = H) := by
  refine kcalls Try.func134 rfl (by kernel_rfl) rfl ?_
  intro R0 h0 hb
  repeat' (first | (conv => whnf) | skip); (first | (refine VReq.mk ⟨by kernel_rfl, Nat.le_of_ble_eq_true (by kernel_rfl)⟩ ?_) | (refine VReq.mk (kcl (ys := KK.map U) (by kernel_rfl) (cellsU _)) ?_) | (refine VReq.mk (by kernel_rfl) ?_) | (refine VReq.mk (Nat.le_of_ble_eq_true (by kernel_rfl)) ?_) | (refine kbox_top rfl rfl ?_) | (refine kset_top rfl ?_))
  refine kdone_eq h0 (r' := .agg (KK.map U)) (congrArg SV.agg (by kernel_rfl)) (belU _) ⟨rfl, rfl⟩
theorem constants_spec (H : List VB) : VCalls Try.prog 144 [] H (fun r H' => r = .agg (KK.map U) ∧ H' = H) := by
  refine kcalls Try.func144 rfl (by kernel_rfl) rfl ?_
  intro R0 h0 hb
  repeat' (first | (conv => whnf) | skip); (first | (refine VReq.mk ⟨by kernel_rfl, Nat.le_of_ble_eq_true (by kernel_rfl)⟩ ?_) | (refine VReq.mk (kcl (ys := KK.map U) (by kernel_rfl) (cellsU _)) ?_) | (refine VReq.mk (by kernel_rfl) ?_) | (refine VReq.mk (Nat.le_of_ble_eq_true (by kernel_rfl)) ?_) | (refine kbox_top rfl rfl ?_) | (refine kset_top rfl ?_))
  refine kdone_eq h0 (r' := .agg (KK.map U)) (congrArg SV.agg (by kernel_rfl)) (belU _) ⟨rfl, rfl⟩
theorem start_spec (H : List VB) : VCalls Try.prog 108 [] H (fun r H' => r = .agg (V8.init.w.map U) ∧ H' = H) := by
  refine kcalls Try.func108 rfl (by kernel_rfl) rfl ?_
  intro R0 h0 hb
  repeat' (first | (conv => whnf) | skip); (first | (refine VReq.mk ⟨by kernel_rfl, Nat.le_of_ble_eq_true (by kernel_rfl)⟩ ?_) | (refine VReq.mk (kcl (ys := V8.init.w.map U) (by kernel_rfl) (cellsU _)) ?_) | (refine VReq.mk (by kernel_rfl) ?_) | (refine VReq.mk (Nat.le_of_ble_eq_true (by kernel_rfl)) ?_) | (refine kbox_top rfl rfl ?_) | (refine kset_top rfl ?_))
  refine kdone_eq h0 (r' := .agg (V8.init.w.map U)) (congrArg SV.agg (by kernel_rfl)) (belU _) ⟨rfl, rfl⟩
theorem r03start_spec (H : List VB) : VCalls Try.prog 122 [] H (fun r H' => r = .agg (V8.init.w.map U) ∧ H' = H) := by
  refine kcalls Try.func122 rfl (by kernel_rfl) rfl ?_
  intro R0 h0 hb
  repeat' (first | (conv => whnf) | skip); (first | (refine VReq.mk ⟨by kernel_rfl, Nat.le_of_ble_eq_true (by kernel_rfl)⟩ ?_) | (refine VReq.mk (kcl (ys := V8.init.w.map U) (by kernel_rfl) (cellsU _)) ?_) | (refine VReq.mk (by kernel_rfl) ?_) | (refine VReq.mk (Nat.le_of_ble_eq_true (by kernel_rfl)) ?_) | (refine kbox_top rfl rfl ?_) | (refine kset_top rfl ?_))
  refine kdone_eq h0 (r' := .agg (V8.init.w.map U)) (congrArg SV.agg (by kernel_rfl)) (belU _) ⟨rfl, rfl⟩
end Go.Vm
