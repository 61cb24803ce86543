/- Layer 3 (sha): what stands behind a text, of the reference. -/
import Derived.Test.YthgpapnbnapdhaaS7
set_option linter.unusedVariables false
set_option linter.unusedSimpArgs false
namespace Go.Vm
open Go.Proofs
set_option maxRecDepth 100000
def rowH (H : List VB) (g : Option Nat) (l : List UInt8) : KH := match g with
  | none => ⟨H.length, H, []⟩
  | some g => ⟨H.length, H, [.row g 1 (l.map byteSV)]⟩
def rowV (n0 : Nat) (g : Option Nat) (l : List UInt8) : SV := match g with
  | none => .list 1 true (l.map byteSV)
  | some g => .slc (n0 + 0) g 0 (l.map byteSV).length
theorem rowH_ok (H : List VB) (g : Option Nat) (l : List UInt8) : (rowH H g l).ok ∧ (rowH H g l).n0 = H.length := by cases g <;> exact ⟨rfl, rfl⟩
theorem cellsB1 {H : List VB} {l : List UInt8} : ∀ y, y ∈ l.map byteSV → ∀ c, c ∈ y.cells → svCell H c = true := fun y hy c hc => by
  obtain ⟨x, _, rfl⟩ := List.mem_map.1 hy
  simp only [byteSV, SV.cells, List.mem_singleton] at hc
  subst hc; rfl
theorem vsrc_list {H : List VB} {n m : Nat} {f : Bool} {ys : List SV} (h : m = n) : vsrc H n (.list m f ys) = some ys := by
  simp only [vsrc, vread]; rw [if_pos h]
theorem zpad_mod {n j : Nat} (h : j ≤ zpad n) : (n + 1 + j) % 64 = 56 ↔ j = zpad n := by
  unfold zpad at *; omega
def pad2 (n k : Nat) : List UInt8 := 128 :: (List.replicate (zpad n) 0 ++ (be8 (8 * n)).take k)
theorem pad2_zero (n : Nat) : pad2 n 0 = 128 :: List.replicate (zpad n) 0 := by simp [pad2]
theorem pad2_len (n : Nat) {k : Nat} (h : k ≤ 8) : (pad2 n k).length = 1 + zpad n + k := by simp [pad2, be8]; omega
theorem pad2_succ (n : Nat) {k : Nat} (h : k < 8) : pad2 n (k + 1) = pad2 n k ++ [byt (8 * n) (56 - 8 * k)] := by
  unfold pad2
  rw [List.cons_append, List.append_assoc]
  congr 2
  obtain rfl | rfl | rfl | rfl | rfl | rfl | rfl | rfl : k = 0 ∨ k = 1 ∨ k = 2 ∨ k = 3 ∨ k = 4 ∨ k = 5 ∨ k = 6 ∨ k = 7 := by omega
  all_goals rfl
theorem r03pad_spec (n : Nat) (hn : n ≤ 1000000) (H : List VB) : VCalls Try.prog 121 [I n] H (fun r H' => r = .list 1 false ((padL n).map byteSV) ∧ H' = H) := by
  have hc5 : Try.prog.cellsOf 5 = 1 := by kernel_rfl
  have hz : zpad n < 64 := by unfold zpad; omega
  refine kcalls Try.func121 rfl (by kernel_rfl) rfl ?_
  intro R0 h0 hb
  repeat' (first | (conv => whnf) | skip); (first | (refine VReq.mk (by decide) ?_) | (refine VReq.mk (by kernel_rfl) ?_) | (refine VReq.mk ⟨by kernel_rfl, by kernel_rfl⟩ ?_))
  have hcl : min (max ((n : Nat) : Int) 0) 576460752303423488 = (n : Int) := by omega
  refine kwp_loop (S := Option Nat × Nat) (fun s => [(0, I n), (3, rowV H.length s.1 (128 :: List.replicate s.2 0))]) (fun s => rowH H s.1 (128 :: List.replicate s.2 0)) (fun s => s.2 ≤ zpad n) (fun s => zpad n - s.2) (none, 0) (by simp) (tsub_cons (congrArg I hcl) (tsub_cons (by show SV.list (Try.prog.cellsOf 5) true _ = _; rw [hc5]; rfl) tsub_nil)) rfl (fun s hi => rowH_ok H s.1 _) ?_
  rintro ⟨g, j⟩ hj
  dsimp only at hj
  have hlen : ((128 :: List.replicate j 0 : List UInt8).map byteSV).length = 1 + j := by simp; omega
  have hrem : (IntKind.i64.wrap ((n : Int) + (((128 :: List.replicate j 0 : List UInt8).map byteSV).length : Nat))).tmod 64 = (((n + 1 + j) % 64 : Nat) : Int) := by
    rw [hlen, IntWalk.i64_in _ (by omega), Int.tmod_eq_emod_of_nonneg (by omega)]; omega
  have hnext : (128 :: List.replicate j 0 : List UInt8).map byteSV ++ [byteSV 0] = (128 :: List.replicate (j + 1) 0 : List UInt8).map byteSV := by
    rw [List.replicate_succ']; simp
  rcases Nat.lt_or_ge j (zpad n) with hlt | hge
  · have hne : ¬ ((n + 1 + j) % 64 = 56) := fun h => by have := (zpad_mod hj).1 h; omega
    cases g with
    | none =>
      dsimp only [rowV, rowH]
      repeat' (first | (conv => whnf) | skip); (first | (refine VIf.mk (fun h => absurd (by rw [hrem] at h; omega) hne) (fun _ => ?_)) | (refine VReq.mk (by decide) ?_) | (refine VReq.mk (by kernel_rfl) ?_) | (refine VReq.mk ⟨by kernel_rfl, by kernel_rfl⟩ ?_) | (refine kb_append_list (n := 1) (ys := [byteSV 0]) rfl (by kernel_rfl) (vsrc_list hc5) (by rw [hlen]; simp only [List.length_cons, List.length_nil]; omega) (.inr (List.cons_ne_nil _ _)) ?_) | (refine KEnd.mk ?_))
      refine ⟨(some 0, j + 1), hlt, by dsimp only; omega, tsub_cons rfl (tsub_cons (congrArg (fun z : List SV => SV.slc _ _ 0 z.length) hnext) tsub_nil), congrArg (fun z => KH.mk H.length H [.row _ 1 z]) hnext⟩
    | some g =>
      dsimp only [rowV, rowH]
      repeat' (first | (conv => whnf) | skip); (first | (refine VIf.mk (fun h => absurd (by rw [hrem] at h; omega) hne) (fun _ => ?_)) | (refine krow_top (j := 0) rfl rfl ?_) | (refine VReq.mk rfl ?_) | (refine VReq.mk (by decide) ?_) | (refine VReq.mk (by kernel_rfl) ?_) | (refine VReq.mk ⟨by kernel_rfl, by kernel_rfl⟩ ?_) | (refine kb_append_top (j := 0) (n := 1) (ys := [byteSV 0]) rfl (by kernel_rfl) rfl rfl (vsrc_list hc5) (by rw [hlen]; simp only [List.length_cons, List.length_nil]; omega) (cellsB1 (l := [0])) ?_) | (refine KEnd.mk ?_))
      refine ⟨(some (g + 1), j + 1), hlt, by dsimp only; omega, tsub_cons rfl (tsub_cons (congrArg (fun z : List SV => SV.slc _ _ 0 z.length) hnext) tsub_nil), congrArg (fun z => KH.mk H.length H [.row _ 1 z]) hnext⟩
  · obtain rfl : j = zpad n := by omega
    have heq := (zpad_mod hj).2 rfl
    cases g with
    | none =>
      dsimp only [rowV, rowH]
      repeat' (first | (conv => whnf) | skip); (first | (refine VIf.mk (fun _ => ?_) (fun h => absurd (by rw [hrem]; omega) h)) | (refine VReq.mk (by decide) ?_) | (refine VReq.mk (by kernel_rfl) ?_))
      refine kwp_loop (S := Option Nat × Nat) (fun s => [(0, I n), (3, rowV H.length s.1 (pad2 n s.2)), (4, I (56 - 8 * s.2))]) (fun s => rowH H s.1 (pad2 n s.2)) (fun s => s.2 ≤ 8 ∧ (s.1 = none → s.2 = 0)) (fun s => 8 - s.2) (none, 0) ⟨by simp, by simp⟩ (tsub_cons rfl (tsub_cons (by rw [pad2_zero]; rfl) (tsub_cons rfl tsub_nil))) (by rw [pad2_zero]; rfl) (fun s hi => rowH_ok H s.1 _) ?_
      rintro ⟨g2, k⟩ ⟨hk, hg0⟩
      dsimp only at hk hg0
      have hlen2 : ((pad2 n k).map byteSV).length = 1 + zpad n + k := by rw [List.length_map, pad2_len n hk]
      rcases Nat.lt_or_ge k 8 with hlt2 | hge2
      · have hnx : (pad2 n k).map byteSV ++ [byteSV (byt (8 * n) (56 - 8 * k))] = (pad2 n (k + 1)).map byteSV := by rw [pad2_succ n hlt2]; simp
        have hv : SV.v (.int .u8 (IntKind.u8.wrap ((IntKind.u64.wrap (IntKind.i64.wrap (8 * (n : Int)))).fdiv (2 ^ min ((56 - 8 * (k : Int)).toNat) IntKind.u64.bits)))) = byteSV (byt (8 * n) (56 - 8 * k)) := by
          rw [byt_sv, IntWalk.i64_in _ (by omega), show (56 - 8 * (k : Int)).toNat = 56 - 8 * k by omega, u64_wrap, show (8 * (n : Int)) % 18446744073709551616 = ((8 * n : Nat) : Int) by omega, shr_byt (by omega)]
        have hnk : IntKind.i64.wrap (56 - 8 * (k : Int) - 8) = 56 - 8 * ((k + 1 : Nat) : Int) := by rw [IntWalk.i64_in _ (by omega)]; omega
        cases g2 with
        | none =>
          dsimp only [rowV, rowH]
          repeat' (first | (conv => whnf) | skip); (first | (refine VIf.mk (fun _ => ?_) (fun h => absurd (by omega) h)) | (refine VReq.mk (by omega) ?_) | (refine VReq.mk (by decide) ?_) | (refine VReq.mk (by kernel_rfl) ?_) | (refine VReq.mk ⟨by kernel_rfl, by kernel_rfl⟩ ?_) | (refine kb_append_list (n := 1) (ys := [byteSV (byt (8 * n) (56 - 8 * k))]) rfl (by kernel_rfl) ((vsrc_list hc5).trans (by rw [← hv]; rfl)) (by rw [hlen2]; simp only [List.length_cons, List.length_nil]; omega) (.inr (List.cons_ne_nil _ _)) ?_) | (refine KEnd.mk ?_))
          exact ⟨(some 0, k + 1), ⟨hlt2, fun h => by cases h⟩, by dsimp only; omega, tsub_cons rfl (tsub_cons (congrArg (fun z : List SV => SV.slc _ _ 0 z.length) hnx) (tsub_cons (congrArg I hnk) tsub_nil)), congrArg (fun z => KH.mk H.length H [.row _ 1 z]) hnx⟩
        | some g =>
          dsimp only [rowV, rowH]
          repeat' (first | (conv => whnf) | skip); (first | (refine VIf.mk (fun _ => ?_) (fun h => absurd (by omega) h)) | (refine VReq.mk (by omega) ?_) | (refine VReq.mk (by decide) ?_) | (refine VReq.mk (by kernel_rfl) ?_) | (refine VReq.mk ⟨by kernel_rfl, by kernel_rfl⟩ ?_) | (refine kb_append_top (j := 0) (n := 1) (ys := [byteSV (byt (8 * n) (56 - 8 * k))]) rfl (by kernel_rfl) rfl rfl ((vsrc_list hc5).trans (by rw [← hv]; rfl)) (by rw [hlen2]; simp only [List.length_cons, List.length_nil]; omega) (cellsB1 (l := [_])) ?_) | (refine KEnd.mk ?_))
          exact ⟨(some (g + 1), k + 1), ⟨hlt2, fun h => by cases h⟩, by dsimp only; omega, tsub_cons rfl (tsub_cons (congrArg (fun z : List SV => SV.slc _ _ 0 z.length) hnx) (tsub_cons (congrArg I hnk) tsub_nil)), congrArg (fun z => KH.mk H.length H [.row _ 1 z]) hnx⟩
      · obtain rfl : k = 8 := by omega
        cases g2 with
        | none => exact absurd (hg0 rfl) (by decide)
        | some g =>
          dsimp only [rowV, rowH]
          repeat' (first | (conv => whnf) | skip); (first | (refine VIf.mk (fun h => absurd h (by omega)) (fun _ => ?_)))
          exact kdone_row (j := 0) h0 rfl rfl (fun x hx => (bytesP x hx).mono (Nat.zero_le _)) ⟨rfl, rfl⟩
    | some g =>
      dsimp only [rowV, rowH]
      repeat' (first | (conv => whnf) | skip); (first | (refine VIf.mk (fun _ => ?_) (fun h => absurd (by rw [hrem]; omega) h)) | (refine krow_top (j := 0) rfl rfl ?_) | (refine VReq.mk rfl ?_) | (refine VReq.mk (by decide) ?_) | (refine VReq.mk (by kernel_rfl) ?_))
      refine kwp_loop (S := Option Nat × Nat) (fun s => [(0, I n), (3, rowV H.length s.1 (pad2 n s.2)), (4, I (56 - 8 * s.2))]) (fun s => rowH H s.1 (pad2 n s.2)) (fun s => s.2 ≤ 8 ∧ (s.1 = none → s.2 = 0)) (fun s => 8 - s.2) (some g, 0) ⟨by simp, by simp⟩ (tsub_cons rfl (tsub_cons (by rw [pad2_zero]; rfl) (tsub_cons rfl tsub_nil))) (by rw [pad2_zero]; rfl) (fun s hi => rowH_ok H s.1 _) ?_
      rintro ⟨g2, k⟩ ⟨hk, hg0⟩
      dsimp only at hk hg0
      have hlen2 : ((pad2 n k).map byteSV).length = 1 + zpad n + k := by rw [List.length_map, pad2_len n hk]
      rcases Nat.lt_or_ge k 8 with hlt2 | hge2
      · have hnx : (pad2 n k).map byteSV ++ [byteSV (byt (8 * n) (56 - 8 * k))] = (pad2 n (k + 1)).map byteSV := by rw [pad2_succ n hlt2]; simp
        have hv : SV.v (.int .u8 (IntKind.u8.wrap ((IntKind.u64.wrap (IntKind.i64.wrap (8 * (n : Int)))).fdiv (2 ^ min ((56 - 8 * (k : Int)).toNat) IntKind.u64.bits)))) = byteSV (byt (8 * n) (56 - 8 * k)) := by
          rw [byt_sv, IntWalk.i64_in _ (by omega), show (56 - 8 * (k : Int)).toNat = 56 - 8 * k by omega, u64_wrap, show (8 * (n : Int)) % 18446744073709551616 = ((8 * n : Nat) : Int) by omega, shr_byt (by omega)]
        have hnk : IntKind.i64.wrap (56 - 8 * (k : Int) - 8) = 56 - 8 * ((k + 1 : Nat) : Int) := by rw [IntWalk.i64_in _ (by omega)]; omega
        cases g2 with
        | none =>
          dsimp only [rowV, rowH]
          repeat' (first | (conv => whnf) | skip); (first | (refine VIf.mk (fun _ => ?_) (fun h => absurd (by omega) h)) | (refine VReq.mk (by omega) ?_) | (refine VReq.mk (by decide) ?_) | (refine VReq.mk (by kernel_rfl) ?_) | (refine VReq.mk ⟨by kernel_rfl, by kernel_rfl⟩ ?_) | (refine kb_append_list (n := 1) (ys := [byteSV (byt (8 * n) (56 - 8 * k))]) rfl (by kernel_rfl) ((vsrc_list hc5).trans (by rw [← hv]; rfl)) (by rw [hlen2]; simp only [List.length_cons, List.length_nil]; omega) (.inr (List.cons_ne_nil _ _)) ?_) | (refine KEnd.mk ?_))
          exact ⟨(some 0, k + 1), ⟨hlt2, fun h => by cases h⟩, by dsimp only; omega, tsub_cons rfl (tsub_cons (congrArg (fun z : List SV => SV.slc _ _ 0 z.length) hnx) (tsub_cons (congrArg I hnk) tsub_nil)), congrArg (fun z => KH.mk H.length H [.row _ 1 z]) hnx⟩
        | some g =>
          dsimp only [rowV, rowH]
          repeat' (first | (conv => whnf) | skip); (first | (refine VIf.mk (fun _ => ?_) (fun h => absurd (by omega) h)) | (refine VReq.mk (by omega) ?_) | (refine VReq.mk (by decide) ?_) | (refine VReq.mk (by kernel_rfl) ?_) | (refine VReq.mk ⟨by kernel_rfl, by kernel_rfl⟩ ?_) | (refine kb_append_top (j := 0) (n := 1) (ys := [byteSV (byt (8 * n) (56 - 8 * k))]) rfl (by kernel_rfl) rfl rfl ((vsrc_list hc5).trans (by rw [← hv]; rfl)) (by rw [hlen2]; simp only [List.length_cons, List.length_nil]; omega) (cellsB1 (l := [_])) ?_) | (refine KEnd.mk ?_))
          exact ⟨(some (g + 1), k + 1), ⟨hlt2, fun h => by cases h⟩, by dsimp only; omega, tsub_cons rfl (tsub_cons (congrArg (fun z : List SV => SV.slc _ _ 0 z.length) hnx) (tsub_cons (congrArg I hnk) tsub_nil)), congrArg (fun z => KH.mk H.length H [.row _ 1 z]) hnx⟩
      · obtain rfl : k = 8 := by omega
        cases g2 with
        | none => exact absurd (hg0 rfl) (by decide)
        | some g =>
          dsimp only [rowV, rowH]
          repeat' (first | (conv => whnf) | skip); (first | (refine VIf.mk (fun h => absurd h (by omega)) (fun _ => ?_)))
          exact kdone_row (j := 0) h0 rfl rfl (fun x hx => (bytesP x hx).mono (Nat.zero_le _)) ⟨rfl, rfl⟩
end Go.Vm
