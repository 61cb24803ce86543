/- Layer 3 (sha): a block. (Printed by gen5.py.) -/
import Derived.Test.YthgpapnbnapdhaaS4
set_option linter.unusedVariables false
set_option linter.unusedSimpArgs false
namespace Go.Vm
open Go.Proofs
set_option maxRecDepth 100000
theorem get8 {P : Program} {t : TypeId} (hc : P.cellsOf t = 1) {l : List SV} {k : Int} {z : SV} (h : l[k.toNat]? = some z) : (l.drop (0 + k.toNat * P.cellsOf t))[0]? = some z := by
  rw [hc, Nat.zero_add, Nat.mul_one, List.getElem?_drop]; exact h
/-- The first words of a sum are added. -/
def V8.addN (s o : V8) : Nat → V8
  | 0 => s
  | 1 => { s with a := s.a + o.a }
  | 2 => { s with a := s.a + o.a, b := s.b + o.b }
  | 3 => { s with a := s.a + o.a, b := s.b + o.b, c := s.c + o.c }
  | 4 => { s with a := s.a + o.a, b := s.b + o.b, c := s.c + o.c, d := s.d + o.d }
  | 5 => { s with a := s.a + o.a, b := s.b + o.b, c := s.c + o.c, d := s.d + o.d, e := s.e + o.e }
  | 6 => { s with a := s.a + o.a, b := s.b + o.b, c := s.c + o.c, d := s.d + o.d, e := s.e + o.e, f := s.f + o.f }
  | 7 => { s with a := s.a + o.a, b := s.b + o.b, c := s.c + o.c, d := s.d + o.d, e := s.e + o.e, f := s.f + o.f, g := s.g + o.g }
  | _ => s.add o
theorem bel8 {n : Nat} (s : V8) : SV.Bel n (.agg s.l) := belU s.w
theorem cells8 {H : List VB} (s : V8) : ∀ c, c ∈ s.l → svCell H c = true := cellsU s.w
theorem wadd (x y : BitVec 32) : SV.v (.int .u32 (IntKind.u32.wrap ((x.toNat : Int) + (y.toNat : Int)))) = U (x + y) := by rw [uAdd]
theorem block_spec (h : V8) (b : List UInt8) (hbl : b.length = 64) (H : List VB) :
    VCalls Try.prog 109 [.agg h.l, .agg (b.map byteSV)] H (fun r H' => r = .agg (blk h b).l ∧ H' = H) := by
  have hc94 : Try.prog.cellsOf 94 = 1 := by kernel_rfl
  have hc100 : Try.prog.cellsOf 100 = 8 := by kernel_rfl
  have hc121 : Try.prog.cellsOf 121 = 64 := by kernel_rfl
  have hl : ((sch b 64).map U).length = 64 := by rw [List.length_map, sch_len]
  have hlk : (KK.map U).length = 64 := rfl
  have hp1 : lput (List.replicate 64 (U 0)) 0 ((sch b 64).map U) = (sch b 64).map U := lput_whole (by rw [hl, List.length_replicate])
  have hp2 : lput (List.replicate 64 (U 0)) 0 (KK.map U) = KK.map U := lput_whole (by rw [hlk, List.length_replicate])
  have hp3 : ∀ s : V8, lput (List.replicate 8 (U 0)) 0 s.l = s.l := fun s => lput_whole rfl
  have htk : ∀ s : V8, ((s.l).drop 0).take (Try.prog.cellsOf 100) = s.l := fun s => by rw [hc100]; rfl
  refine kcalls Try.func109 rfl (by kernel_rfl) rfl ?_
  intro R0 h0 hb
  repeat' (first | (conv => whnf) | skip); (first | (refine VReq.mk (by kernel_rfl) ?_) | (refine kcall_pure (schedule_spec b hbl _ _ (flat_get_top rfl 1)) rfl ?_) | (refine kcall_pure (rounds_spec _) rfl ?_) | (refine VReq.mk (cellsU _) ?_) | (refine VReq.mk (hl.trans hc121.symm) ?_) | (refine VReq.mk (hlk.trans hc121.symm) ?_) | (refine VReq.mk (by rw [hl]; exact Nat.le_refl 64) ?_) | (refine VReq.mk (by rw [hlk]; exact Nat.le_refl 64) ?_) | (refine kbox_top rfl rfl ?_) | (refine kset_top rfl ?_) | (refine VReq.mk (by rw [hc100]; exact Nat.le_refl 8) ?_) | (rw [htk]; refine VReq.mk (cells8 _) ?_) | (refine VReq.mk (Nat.le_refl 8) ?_))
  all_goals (try (conv => whnf))
  refine kwp_loop (S := Nat) (fun t => [(2, .ptr (H.length + 0) 0), (4, .ptr (H.length + 2) 0), (5, .ptr (H.length + 3) 0), (6, .ptr (H.length + 4) 0), (7, .ptr (H.length + 5) 0), (15, I t)]) (fun t => ⟨H.length, H, [.box h.l, .box (b.map byteSV), .box (List.replicate 8 (U 0)), .box ((sch b 64).map U), .box (KK.map U), .box (h.run (sch b 64) t).l]⟩) (fun t => t ≤ 64) (fun t => 64 - t) 0 (by omega) (tsub_cons rfl (tsub_cons rfl (tsub_cons rfl (tsub_cons rfl (tsub_cons rfl (tsub_cons rfl tsub_nil)))))) (by
      show KH.mk H.length H [.box h.l, .box (b.map byteSV), .box (List.replicate 8 (U 0)), .box (lput (List.replicate 64 (U 0)) 0 ((sch b 64).map U)), .box (lput (List.replicate 64 (U 0)) 0 (KK.map U)), .box (lput (List.replicate 8 (U 0)) 0 h.l)] = _
      rw [hp1, hp2, hp3]; rfl) (fun i hi => ⟨rfl, rfl⟩) ?_
  intro t ht
  rcases Nat.lt_or_ge t 64 with hlt | hge
  · have hrun : h.run (sch b 64) (t + 1) = (h.run (sch b 64) t).step (KK.getD t 0) ((sch b 64).getD t 0) := rfl
    have hgk := @get_U Try.prog 94 hc94 KK (t : Int) t rfl (by show t < 64; exact hlt)
    have hgw := @get_U Try.prog 94 hc94 (sch b 64) (t : Int) t rfl (by rw [sch_len]; exact hlt)
    generalize hs : h.run (sch b 64) t = s at hrun
    generalize hs2 : h.run (sch b 64) (t + 1) = s2 at hrun
    have hh2 : ∀ (n : Nat), n = t + 1 → h.run (sch b 64) n = s2 := fun n hn => by rw [hn]; exact hs2
    generalize sch b 64 = w at hgw hrun hs hs2 hh2 ⊢
    generalize KK = kk at hgk hrun ⊢
    repeat' (first | (conv => whnf) | skip); (first | (refine VIf.mk (fun _ => ?_) (fun h => absurd (by omega) h)) | (refine VReq.mk (HExt.refl _) ?_) | (refine VReq.mk (by omega) ?_) | (refine VReq.mk (by decide) ?_) | (refine VReq.mk (by kernel_rfl) ?_) | (refine kcall_pure (highA_spec _ _) rfl ?_) | (refine kcall_pure (highB_spec _ _) rfl ?_) | (refine kcall_pure (choose_spec _ _ _ _) rfl ?_) | (refine kcall_pure (most_spec _ _ _ _) rfl ?_) | (refine kbox_top rfl rfl ?_) | (refine kset_top rfl ?_) | (refine kget_some hgk ?_) | (refine kget_some hgw ?_) | (refine kget_some (get8 hc94 rfl) ?_) | (refine KEnd.mk ?_))
    refine kwp_draw_in [0, 1, 2, 3, 6, 7, 8, 9, 10, 11, 14, 15, 16, 18, 19, 20, 4, 5, 12, 13, 17, 21, 22] [4, 12] (by kernel_rfl) (by kernel_rfl) (by kernel_rfl) rfl ?_
    repeat' (first | (conv => whnf) | skip); (first | (refine VIf.mk (fun _ => ?_) (fun h => absurd (by omega) h)) | (refine VReq.mk (HExt.refl _) ?_) | (refine VReq.mk (by omega) ?_) | (refine VReq.mk (by decide) ?_) | (refine VReq.mk (by kernel_rfl) ?_) | (refine kcall_pure (highA_spec _ _) rfl ?_) | (refine kcall_pure (highB_spec _ _) rfl ?_) | (refine kcall_pure (choose_spec _ _ _ _) rfl ?_) | (refine kcall_pure (most_spec _ _ _ _) rfl ?_) | (refine kbox_top rfl rfl ?_) | (refine kset_top rfl ?_) | (refine kget_some hgk ?_) | (refine kget_some hgw ?_) | (refine kget_some (get8 hc94 rfl) ?_) | (refine KEnd.mk ?_))
    refine kwp_draw_in [0, 1, 3, 4, 5, 6, 7, 8, 2, 9, 10, 11] [2] (by kernel_rfl) (by kernel_rfl) (by kernel_rfl) rfl ?_
    repeat' (first | (conv => whnf) | skip); (first | (refine VIf.mk (fun _ => ?_) (fun h => absurd (by omega) h)) | (refine VReq.mk (HExt.refl _) ?_) | (refine VReq.mk (by omega) ?_) | (refine VReq.mk (by decide) ?_) | (refine VReq.mk (by kernel_rfl) ?_) | (refine kcall_pure (highA_spec _ _) rfl ?_) | (refine kcall_pure (highB_spec _ _) rfl ?_) | (refine kcall_pure (choose_spec _ _ _ _) rfl ?_) | (refine kcall_pure (most_spec _ _ _ _) rfl ?_) | (refine kbox_top rfl rfl ?_) | (refine kset_top rfl ?_) | (refine kget_some hgk ?_) | (refine kget_some hgw ?_) | (refine kget_some (get8 hc94 rfl) ?_) | (refine KEnd.mk ?_))
    refine kwp_draw (by kernel_rfl) (by kernel_rfl) rfl ?_
    repeat' (first | (conv => whnf) | skip); (first | (refine VIf.mk (fun _ => ?_) (fun h => absurd (by omega) h)) | (refine VReq.mk (HExt.refl _) ?_) | (refine VReq.mk (by omega) ?_) | (refine VReq.mk (by decide) ?_) | (refine VReq.mk (by kernel_rfl) ?_) | (refine kcall_pure (highA_spec _ _) rfl ?_) | (refine kcall_pure (highB_spec _ _) rfl ?_) | (refine kcall_pure (choose_spec _ _ _ _) rfl ?_) | (refine kcall_pure (most_spec _ _ _ _) rfl ?_) | (refine kbox_top rfl rfl ?_) | (refine kset_top rfl ?_) | (refine kget_some hgk ?_) | (refine kget_some hgw ?_) | (refine kget_some (get8 hc94 rfl) ?_) | (refine KEnd.mk ?_))
    refine kb_copy_to (j := 5) (e := 94) (cs := s.l) (ys := [U s.a, U s.b, U s.c, U s.d, U s.e, U s.f, U s.g]) (cs' := [U s.a, U s.a, U s.b, U s.c, U s.d, U s.e, U s.f, U s.g]) rfl rfl (by kernel_rfl) (by kernel_rfl) hc94 hc94 rfl (vsrc_bsl rfl hc94 rfl (by rw [hc94]; exact Nat.le_of_ble_eq_true rfl) (by rw [hc94]; rfl) (isCellU [s.a, s.b, s.c, s.d, s.e, s.f, s.g])) (fun y hy c hc => ?_) (by rw [hc94]; exact Nat.le_of_ble_eq_true rfl) (by rw [hc94]; rfl) ?_
    · obtain ⟨z, _, rfl⟩ := List.mem_map.1 (show y ∈ [s.a, s.b, s.c, s.d, s.e, s.f, s.g].map U from hy)
      simp only [SV.cells, List.mem_singleton] at hc
      subst hc; rfl
    repeat' (first | (conv => whnf) | skip); (first | (refine VReq.mk (by rw [hc94]; exact Nat.le_of_ble_eq_true rfl) ?_) | (refine VIf.mk (fun _ => ?_) (fun h => absurd (by omega) h)) | (refine VReq.mk (HExt.refl _) ?_) | (refine VReq.mk (by omega) ?_) | (refine VReq.mk (by decide) ?_) | (refine VReq.mk (by kernel_rfl) ?_) | (refine kcall_pure (highA_spec _ _) rfl ?_) | (refine kcall_pure (highB_spec _ _) rfl ?_) | (refine kcall_pure (choose_spec _ _ _ _) rfl ?_) | (refine kcall_pure (most_spec _ _ _ _) rfl ?_) | (refine kbox_top rfl rfl ?_) | (refine kset_top rfl ?_) | (refine kget_some hgk ?_) | (refine kget_some hgw ?_) | (refine kget_some (get8 hc94 rfl) ?_) | (refine KEnd.mk ?_))
    refine ⟨t + 1, hlt, by omega, tsub_cons rfl (tsub_cons rfl (tsub_cons rfl (tsub_cons rfl (tsub_cons rfl (tsub_cons (congrArg I (inc64 (by omega))) tsub_nil))))), ?_⟩
    rw [hh2 (t + 1) rfl, hrun, hc94]
    refine congrArg (fun z => KH.mk H.length H [.box h.l, .box (b.map byteSV), .box (List.replicate 8 (U 0)), .box (w.map U), .box (kk.map U), .box z]) ?_
    show [SV.v (.int .u32 (IntKind.u32.wrap (_ + _))), U s.a, U s.b, U s.c, SV.v (.int .u32 (IntKind.u32.wrap (_ + _))), U s.e, U s.f, U s.g] = [U _, U _, U _, U _, U _, U _, U _, U _]
    simp only [uAdd]
    rfl
  · obtain rfl : t = 64 := by omega
    have hbk : blk h b = (h.run (sch b 64) 64).add h := rfl
    generalize h.run (sch b 64) 64 = s at hbk
    generalize sch b 64 = w at hl
    clear hp1 hp2 hlk
    generalize KK = kk
    repeat' (first | (conv => whnf) | skip); (first | (refine VIf.mk (fun h => absurd h (by omega)) (fun _ => ?_)))
    refine kwp_loop (S := Nat) (fun i => [(2, .ptr (H.length + 0) 0), (4, .ptr (H.length + 2) 0), (7, .ptr (H.length + 5) 0), (64, I i)]) (fun i => ⟨H.length, H, [.box h.l, .box (b.map byteSV), .box (List.replicate 8 (U 0)), .box (w.map U), .box (kk.map U), .box (s.addN h i).l]⟩) (fun i => i ≤ 8) (fun i => 8 - i) 0 (by omega) (tsub_cons rfl (tsub_cons rfl (tsub_cons rfl (tsub_cons rfl tsub_nil)))) rfl (fun i hi => ⟨rfl, rfl⟩) ?_
    intro i hi
    obtain rfl | rfl | rfl | rfl | rfl | rfl | rfl | rfl | rfl : i = 0 ∨ i = 1 ∨ i = 2 ∨ i = 3 ∨ i = 4 ∨ i = 5 ∨ i = 6 ∨ i = 7 ∨ i = 8 := by omega
    · repeat' (first | (conv => whnf) | skip); (first | (refine VIf.mk (fun _ => ?_) (fun h => absurd (by omega) h)) | (refine VReq.mk (by omega) ?_) | (refine VReq.mk (by kernel_rfl) ?_) | (refine VReq.mk (by rw [hc94]; exact Nat.le_of_ble_eq_true rfl) ?_) | (refine kwp_draw (by kernel_rfl) (by kernel_rfl) rfl ?_) | (refine kbox_top rfl rfl ?_) | (refine kset_top rfl ?_) | (refine kget_some (get8 hc94 rfl) ?_) | (refine KEnd.mk ?_))
      refine ⟨1, by omega, by omega, tsub_cons rfl (tsub_cons rfl (tsub_cons rfl (tsub_cons (congrArg I (inc64 (by omega))) tsub_nil))), ?_⟩
      refine congrArg (fun z => KH.mk H.length H [.box h.l, .box (b.map byteSV), .box (List.replicate 8 (U 0)), .box (w.map U), .box (kk.map U), .box z]) ?_
      rw [hc94, uAdd]
      rfl
    · repeat' (first | (conv => whnf) | skip); (first | (refine VIf.mk (fun _ => ?_) (fun h => absurd (by omega) h)) | (refine VReq.mk (by omega) ?_) | (refine VReq.mk (by kernel_rfl) ?_) | (refine VReq.mk (by rw [hc94]; exact Nat.le_of_ble_eq_true rfl) ?_) | (refine kwp_draw (by kernel_rfl) (by kernel_rfl) rfl ?_) | (refine kbox_top rfl rfl ?_) | (refine kset_top rfl ?_) | (refine kget_some (get8 hc94 rfl) ?_) | (refine KEnd.mk ?_))
      refine ⟨2, by omega, by omega, tsub_cons rfl (tsub_cons rfl (tsub_cons rfl (tsub_cons (congrArg I (inc64 (by omega))) tsub_nil))), ?_⟩
      refine congrArg (fun z => KH.mk H.length H [.box h.l, .box (b.map byteSV), .box (List.replicate 8 (U 0)), .box (w.map U), .box (kk.map U), .box z]) ?_
      rw [hc94, uAdd]
      rfl
    · repeat' (first | (conv => whnf) | skip); (first | (refine VIf.mk (fun _ => ?_) (fun h => absurd (by omega) h)) | (refine VReq.mk (by omega) ?_) | (refine VReq.mk (by kernel_rfl) ?_) | (refine VReq.mk (by rw [hc94]; exact Nat.le_of_ble_eq_true rfl) ?_) | (refine kwp_draw (by kernel_rfl) (by kernel_rfl) rfl ?_) | (refine kbox_top rfl rfl ?_) | (refine kset_top rfl ?_) | (refine kget_some (get8 hc94 rfl) ?_) | (refine KEnd.mk ?_))
      refine ⟨3, by omega, by omega, tsub_cons rfl (tsub_cons rfl (tsub_cons rfl (tsub_cons (congrArg I (inc64 (by omega))) tsub_nil))), ?_⟩
      refine congrArg (fun z => KH.mk H.length H [.box h.l, .box (b.map byteSV), .box (List.replicate 8 (U 0)), .box (w.map U), .box (kk.map U), .box z]) ?_
      rw [hc94, uAdd]
      rfl
    · repeat' (first | (conv => whnf) | skip); (first | (refine VIf.mk (fun _ => ?_) (fun h => absurd (by omega) h)) | (refine VReq.mk (by omega) ?_) | (refine VReq.mk (by kernel_rfl) ?_) | (refine VReq.mk (by rw [hc94]; exact Nat.le_of_ble_eq_true rfl) ?_) | (refine kwp_draw (by kernel_rfl) (by kernel_rfl) rfl ?_) | (refine kbox_top rfl rfl ?_) | (refine kset_top rfl ?_) | (refine kget_some (get8 hc94 rfl) ?_) | (refine KEnd.mk ?_))
      refine ⟨4, by omega, by omega, tsub_cons rfl (tsub_cons rfl (tsub_cons rfl (tsub_cons (congrArg I (inc64 (by omega))) tsub_nil))), ?_⟩
      refine congrArg (fun z => KH.mk H.length H [.box h.l, .box (b.map byteSV), .box (List.replicate 8 (U 0)), .box (w.map U), .box (kk.map U), .box z]) ?_
      rw [hc94, uAdd]
      rfl
    · repeat' (first | (conv => whnf) | skip); (first | (refine VIf.mk (fun _ => ?_) (fun h => absurd (by omega) h)) | (refine VReq.mk (by omega) ?_) | (refine VReq.mk (by kernel_rfl) ?_) | (refine VReq.mk (by rw [hc94]; exact Nat.le_of_ble_eq_true rfl) ?_) | (refine kwp_draw (by kernel_rfl) (by kernel_rfl) rfl ?_) | (refine kbox_top rfl rfl ?_) | (refine kset_top rfl ?_) | (refine kget_some (get8 hc94 rfl) ?_) | (refine KEnd.mk ?_))
      refine ⟨5, by omega, by omega, tsub_cons rfl (tsub_cons rfl (tsub_cons rfl (tsub_cons (congrArg I (inc64 (by omega))) tsub_nil))), ?_⟩
      refine congrArg (fun z => KH.mk H.length H [.box h.l, .box (b.map byteSV), .box (List.replicate 8 (U 0)), .box (w.map U), .box (kk.map U), .box z]) ?_
      rw [hc94, uAdd]
      rfl
    · repeat' (first | (conv => whnf) | skip); (first | (refine VIf.mk (fun _ => ?_) (fun h => absurd (by omega) h)) | (refine VReq.mk (by omega) ?_) | (refine VReq.mk (by kernel_rfl) ?_) | (refine VReq.mk (by rw [hc94]; exact Nat.le_of_ble_eq_true rfl) ?_) | (refine kwp_draw (by kernel_rfl) (by kernel_rfl) rfl ?_) | (refine kbox_top rfl rfl ?_) | (refine kset_top rfl ?_) | (refine kget_some (get8 hc94 rfl) ?_) | (refine KEnd.mk ?_))
      refine ⟨6, by omega, by omega, tsub_cons rfl (tsub_cons rfl (tsub_cons rfl (tsub_cons (congrArg I (inc64 (by omega))) tsub_nil))), ?_⟩
      refine congrArg (fun z => KH.mk H.length H [.box h.l, .box (b.map byteSV), .box (List.replicate 8 (U 0)), .box (w.map U), .box (kk.map U), .box z]) ?_
      rw [hc94, uAdd]
      rfl
    · repeat' (first | (conv => whnf) | skip); (first | (refine VIf.mk (fun _ => ?_) (fun h => absurd (by omega) h)) | (refine VReq.mk (by omega) ?_) | (refine VReq.mk (by kernel_rfl) ?_) | (refine VReq.mk (by rw [hc94]; exact Nat.le_of_ble_eq_true rfl) ?_) | (refine kwp_draw (by kernel_rfl) (by kernel_rfl) rfl ?_) | (refine kbox_top rfl rfl ?_) | (refine kset_top rfl ?_) | (refine kget_some (get8 hc94 rfl) ?_) | (refine KEnd.mk ?_))
      refine ⟨7, by omega, by omega, tsub_cons rfl (tsub_cons rfl (tsub_cons rfl (tsub_cons (congrArg I (inc64 (by omega))) tsub_nil))), ?_⟩
      refine congrArg (fun z => KH.mk H.length H [.box h.l, .box (b.map byteSV), .box (List.replicate 8 (U 0)), .box (w.map U), .box (kk.map U), .box z]) ?_
      rw [hc94, uAdd]
      rfl
    · repeat' (first | (conv => whnf) | skip); (first | (refine VIf.mk (fun _ => ?_) (fun h => absurd (by omega) h)) | (refine VReq.mk (by omega) ?_) | (refine VReq.mk (by kernel_rfl) ?_) | (refine VReq.mk (by rw [hc94]; exact Nat.le_of_ble_eq_true rfl) ?_) | (refine kwp_draw (by kernel_rfl) (by kernel_rfl) rfl ?_) | (refine kbox_top rfl rfl ?_) | (refine kset_top rfl ?_) | (refine kget_some (get8 hc94 rfl) ?_) | (refine KEnd.mk ?_))
      refine ⟨8, by omega, by omega, tsub_cons rfl (tsub_cons rfl (tsub_cons rfl (tsub_cons (congrArg I (inc64 (by omega))) tsub_nil))), ?_⟩
      refine congrArg (fun z => KH.mk H.length H [.box h.l, .box (b.map byteSV), .box (List.replicate 8 (U 0)), .box (w.map U), .box (kk.map U), .box z]) ?_
      rw [hc94, uAdd]
      rfl
    · have hhp := hp3 (s.addN h 8)
      repeat' (first | (conv => whnf) | skip); (first | (refine VIf.mk (fun h => absurd h (by omega)) (fun _ => ?_)) | (refine VReq.mk (by kernel_rfl) ?_) | (refine kbox_top rfl rfl ?_) | (refine VReq.mk (by rw [hc100]; exact Nat.le_refl 8) ?_) | (rw [htk]; refine VReq.mk (cells8 _) ?_) | (refine VReq.mk (Nat.le_refl 8) ?_) | (refine kset_top rfl ?_; rw [hhp]))
      rw [htk]
      exact kdone_pure h0 (bel8 _) ⟨by rw [hbk]; rfl, rfl⟩
end Go.Vm
