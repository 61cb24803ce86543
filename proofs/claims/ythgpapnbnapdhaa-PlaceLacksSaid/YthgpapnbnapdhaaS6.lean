/- Layer 3 (sha): the reference's block. (Printed by gen6.py.) -/
import Derived.Test.YthgpapnbnapdhaaS5
set_option linter.unusedVariables false
set_option linter.unusedSimpArgs false
namespace Go.Vm
open Go.Proofs
set_option maxRecDepth 100000
theorem built8 (z : List SV) (hz : z.length = 8) (c : Nat) (hc : c = 1) (a0 a1 a2 a3 a4 a5 a6 a7 : SV) : lput (lput (lput (lput (lput (lput (lput (lput z (0 * c) [a0]) (1 * c) [a1]) (2 * c) [a2]) (3 * c) [a3]) (4 * c) [a4]) (5 * c) [a5]) (6 * c) [a6]) (7 * c) [a7] = [a0, a1, a2, a3, a4, a5, a6, a7] := by
  subst hc
  match z, hz with
  | [_, _, _, _, _, _, _, _], _ => rfl
set_option maxHeartbeats 8000000 in
theorem r03block_spec (h : V8) (b : List UInt8) (hbl : b.length = 64) (H : List VB) :
    VCalls Try.prog 123 [.agg h.l, .agg (b.map byteSV)] H (fun r H' => r = .agg (blk h b).l ∧ H' = H) := by
  have hc94 : Try.prog.cellsOf 94 = 1 := by kernel_rfl
  have hc100 : Try.prog.cellsOf 100 = 8 := by kernel_rfl
  have hc102 : Try.prog.cellsOf 102 = 64 := by kernel_rfl
  have hc121 : Try.prog.cellsOf 121 = 64 := by kernel_rfl
  have hl : ((sch b 64).map U).length = 64 := by rw [List.length_map, sch_len]
  have hlb : (b.map byteSV).length = 64 := by rw [List.length_map, hbl]
  have hlk : (KK.map U).length = 64 := rfl
  have hp1 : lput (List.replicate 64 (U 0)) 0 ((sch b 64).map U) = (sch b 64).map U := lput_whole (by rw [hl, List.length_replicate])
  have hp2 : lput (List.replicate 64 (U 0)) 0 (KK.map U) = KK.map U := lput_whole (by rw [hlk, List.length_replicate])
  have hp3 : ∀ s : V8, lput (List.replicate 8 (U 0)) 0 s.l = s.l := fun s => lput_whole rfl
  have htk : ∀ s : V8, ((s.l).drop 0).take (Try.prog.cellsOf 100) = s.l := fun s => by rw [hc100]; rfl
  have htb : ((b.map byteSV).drop 0).take (Try.prog.cellsOf 102) = b.map byteSV := by rw [hc102]; exact take_drop0 hlb
  refine kcalls Try.func123 rfl (by kernel_rfl) rfl ?_
  intro R0 h0 hb
  repeat' (first | (conv => whnf) | skip); (first | (refine VReq.mk (by kernel_rfl) ?_))
  refine kwp_reserve rfl (kwp_reserve rfl (kwp_reserve rfl ?_))
  refine kwp_drawInv (by kernel_rfl) (by kernel_rfl)
    (fun S => [(14, bif S 0 then .agg (b.map byteSV) else .junk), (15, bif S 1 then .agg ((sch b 64).map U) else .junk), (16, bif S 2 then .agg (KK.map U) else .junk), (17, bif S 3 then .agg h.l else .junk), (5, bif S 4 then .ptr (H.length + 3) 0 else .junk), (6, bif S 5 then .ptr (H.length + 4) 0 else .junk), (7, bif S 6 then .ptr (H.length + 5) 0 else .junk), (2, .ptr (H.length + 0) 0), (3, .ptr (H.length + 1) 0), (4, .ptr (H.length + 2) 0)])
    (fun S => ⟨H.length, H, [.box h.l, .box (b.map byteSV), .box (List.replicate 8 (U 0)), bif S 7 then .box ((sch b 64).map U) else bif S 4 then .box (List.replicate 64 (U 0)) else .row 0 0 [], bif S 8 then .box (KK.map U) else bif S 5 then .box (List.replicate 64 (U 0)) else .row 0 0 [], bif S 9 then .box h.l else bif S 6 then .box (List.replicate 8 (U 0)) else .row 0 0 []]⟩)
    (fun S => ⟨rfl, rfl⟩) (tsub_cons rfl (tsub_cons rfl (tsub_cons rfl (tsub_cons rfl (tsub_cons rfl (tsub_cons rfl (tsub_cons rfl (tsub_cons rfl (tsub_cons rfl (tsub_cons rfl tsub_nil)))))))))) rfl ?step ?same ?done
  case step =>
    intro S i o hcl hi hS hd
    have teq : ∀ (d : Nat) (v : SV) (l l' : TM), (∀ t, Nat.beq d t = false → tget l t = tget l' t) → tget l' d = v → TEq ((d, v) :: l) l' := fun d v l l' h1 h2 t => by
      simp only [tget]
      cases hbt : Nat.beq d t
      · exact h1 t hbt
      · obtain rfl := Nat.eq_of_beq_eq_true hbt; exact h2.symm
    rcases i with _ | _ | _ | _ | _ | _ | _ | _ | _ | _ | i
    · cases hi
      have es : S 0 = false := hS
      clear hd hS hcl
      dsimp only
      generalize S 0 = s0 at *
      generalize S 1 = s1 at *
      generalize S 2 = s2 at *
      generalize S 3 = s3 at *
      generalize S 4 = s4 at *
      generalize S 5 = s5 at *
      generalize S 6 = s6 at *
      generalize S 7 = s7 at *
      generalize S 8 = s8 at *
      generalize S 9 = s9 at *
      subst es
      refine .k ?_
      repeat' (first | (conv => whnf) | skip); (first | (refine VReq.mk (by rw [hc102, List.drop_zero, hlb]; exact Nat.le_refl 64) ?_) | (refine VReq.mk (by kernel_rfl) ?_) | (refine kbox_top rfl rfl ?_))
      rw [htb]
      refine KEnd.mk ⟨teq _ _ _ _ (fun t ht => by simp only [tget, ht, cond_false]; try rfl) rfl, rfl⟩
    · cases hi
      have e0 : S 0 = true := hd 0 (by decide)
      have es : S 1 = false := hS
      clear hd hS hcl
      dsimp only
      generalize S 0 = s0 at *
      generalize S 1 = s1 at *
      generalize S 2 = s2 at *
      generalize S 3 = s3 at *
      generalize S 4 = s4 at *
      generalize S 5 = s5 at *
      generalize S 6 = s6 at *
      generalize S 7 = s7 at *
      generalize S 8 = s8 at *
      generalize S 9 = s9 at *
      subst es
      subst e0
      refine .k ?_
      repeat' (first | (conv => whnf) | skip); (first | (refine kcall_pure (words_spec b hbl _) rfl ?_))
      refine KEnd.mk ⟨teq _ _ _ _ (fun t ht => by simp only [tget, ht, cond_false]; try rfl) rfl, rfl⟩
    · cases hi
      have e1 : S 1 = true := hd 1 (by decide)
      have es : S 2 = false := hS
      clear hd hS hcl
      dsimp only
      generalize S 0 = s0 at *
      generalize S 1 = s1 at *
      generalize S 2 = s2 at *
      generalize S 3 = s3 at *
      generalize S 4 = s4 at *
      generalize S 5 = s5 at *
      generalize S 6 = s6 at *
      generalize S 7 = s7 at *
      generalize S 8 = s8 at *
      generalize S 9 = s9 at *
      subst es
      subst e1
      refine .k ?_
      repeat' (first | (conv => whnf) | skip); (first | (refine kcall_pure (constants_spec _) rfl ?_))
      refine KEnd.mk ⟨teq _ _ _ _ (fun t ht => by simp only [tget, ht, cond_false]; try rfl) rfl, rfl⟩
    · cases hi
      have es : S 3 = false := hS
      clear hd hS hcl
      dsimp only
      generalize S 0 = s0 at *
      generalize S 1 = s1 at *
      generalize S 2 = s2 at *
      generalize S 3 = s3 at *
      generalize S 4 = s4 at *
      generalize S 5 = s5 at *
      generalize S 6 = s6 at *
      generalize S 7 = s7 at *
      generalize S 8 = s8 at *
      generalize S 9 = s9 at *
      subst es
      refine .k ?_
      repeat' (first | (conv => whnf) | skip); (first | (refine VReq.mk (by rw [hc100]; exact Nat.le_refl 8) ?_) | (refine VReq.mk (by kernel_rfl) ?_) | (refine kbox_top rfl rfl ?_))
      rw [htk]
      refine KEnd.mk ⟨teq _ _ _ _ (fun t ht => by simp only [tget, ht, cond_false]; try rfl) rfl, rfl⟩
    · cases hi
      have e7 : S 7 = false := by
        cases hh : S 7
        · rfl
        · have := hcl 7 _ rfl hh 4 (by decide)
          rw [show S 4 = false from hS] at this; cases this
      have es : S 4 = false := hS
      clear hd hS hcl
      dsimp only
      generalize S 0 = s0 at *
      generalize S 1 = s1 at *
      generalize S 2 = s2 at *
      generalize S 3 = s3 at *
      generalize S 4 = s4 at *
      generalize S 5 = s5 at *
      generalize S 6 = s6 at *
      generalize S 7 = s7 at *
      generalize S 8 = s8 at *
      generalize S 9 = s9 at *
      subst es
      subst e7
      refine .alloc 5 121 (List.replicate 64 (U 0)) 3 0 0 rfl rfl rfl (by kernel_rfl) (by kernel_rfl) rfl ⟨teq _ _ _ _ (fun t ht => by simp only [tget, ht, cond_false]; try rfl) rfl, rfl⟩
    · cases hi
      have e8 : S 8 = false := by
        cases hh : S 8
        · rfl
        · have := hcl 8 _ rfl hh 5 (by decide)
          rw [show S 5 = false from hS] at this; cases this
      have es : S 5 = false := hS
      clear hd hS hcl
      dsimp only
      generalize S 0 = s0 at *
      generalize S 1 = s1 at *
      generalize S 2 = s2 at *
      generalize S 3 = s3 at *
      generalize S 4 = s4 at *
      generalize S 5 = s5 at *
      generalize S 6 = s6 at *
      generalize S 7 = s7 at *
      generalize S 8 = s8 at *
      generalize S 9 = s9 at *
      subst es
      subst e8
      refine .alloc 6 121 (List.replicate 64 (U 0)) 4 0 0 rfl rfl rfl (by kernel_rfl) (by kernel_rfl) rfl ⟨teq _ _ _ _ (fun t ht => by simp only [tget, ht, cond_false]; try rfl) rfl, rfl⟩
    · cases hi
      have e9 : S 9 = false := by
        cases hh : S 9
        · rfl
        · have := hcl 9 _ rfl hh 6 (by decide)
          rw [show S 6 = false from hS] at this; cases this
      have es : S 6 = false := hS
      clear hd hS hcl
      dsimp only
      generalize S 0 = s0 at *
      generalize S 1 = s1 at *
      generalize S 2 = s2 at *
      generalize S 3 = s3 at *
      generalize S 4 = s4 at *
      generalize S 5 = s5 at *
      generalize S 6 = s6 at *
      generalize S 7 = s7 at *
      generalize S 8 = s8 at *
      generalize S 9 = s9 at *
      subst es
      subst e9
      refine .alloc 7 100 (List.replicate 8 (U 0)) 5 0 0 rfl rfl rfl (by kernel_rfl) (by kernel_rfl) rfl ⟨teq _ _ _ _ (fun t ht => by simp only [tget, ht, cond_false]; try rfl) rfl, rfl⟩
    · cases hi
      have e4 : S 4 = true := hd 4 (by decide)
      have e1 : S 1 = true := hd 1 (by decide)
      have es : S 7 = false := hS
      clear hd hS hcl
      dsimp only
      generalize S 0 = s0 at *
      generalize S 1 = s1 at *
      generalize S 2 = s2 at *
      generalize S 3 = s3 at *
      generalize S 4 = s4 at *
      generalize S 5 = s5 at *
      generalize S 6 = s6 at *
      generalize S 7 = s7 at *
      generalize S 8 = s8 at *
      generalize S 9 = s9 at *
      subst es
      subst e4
      subst e1
      refine .k ?_
      repeat' (first | (conv => whnf) | skip); (first | (refine VReq.mk (cellsU _) ?_) | (refine VReq.mk (hl.trans hc121.symm) ?_) | (refine VReq.mk (by rw [hl]; exact Nat.le_refl 64) ?_) | (refine kbox_top rfl rfl ?_) | (refine kset_top rfl ?_; rw [hp1]))
      refine KEnd.mk ⟨fun t => rfl, rfl⟩
    · cases hi
      have e5 : S 5 = true := hd 5 (by decide)
      have e2 : S 2 = true := hd 2 (by decide)
      have e7 : S 7 = true := hd 7 (by decide)
      have es : S 8 = false := hS
      clear hd hS hcl
      dsimp only
      generalize S 0 = s0 at *
      generalize S 1 = s1 at *
      generalize S 2 = s2 at *
      generalize S 3 = s3 at *
      generalize S 4 = s4 at *
      generalize S 5 = s5 at *
      generalize S 6 = s6 at *
      generalize S 7 = s7 at *
      generalize S 8 = s8 at *
      generalize S 9 = s9 at *
      subst es
      subst e5
      subst e2
      subst e7
      refine .k ?_
      repeat' (first | (conv => whnf) | skip); (first | (refine VReq.mk (cellsU _) ?_) | (refine VReq.mk (hlk.trans hc121.symm) ?_) | (refine VReq.mk (by rw [hlk]; exact Nat.le_refl 64) ?_) | (refine kbox_top rfl rfl ?_) | (refine kset_top rfl ?_; rw [hp2]))
      refine KEnd.mk ⟨fun t => rfl, rfl⟩
    · cases hi
      have e6 : S 6 = true := hd 6 (by decide)
      have e3 : S 3 = true := hd 3 (by decide)
      have e8 : S 8 = true := hd 8 (by decide)
      have es : S 9 = false := hS
      clear hd hS hcl
      dsimp only
      generalize S 0 = s0 at *
      generalize S 1 = s1 at *
      generalize S 2 = s2 at *
      generalize S 3 = s3 at *
      generalize S 4 = s4 at *
      generalize S 5 = s5 at *
      generalize S 6 = s6 at *
      generalize S 7 = s7 at *
      generalize S 8 = s8 at *
      generalize S 9 = s9 at *
      subst es
      subst e6
      subst e3
      subst e8
      refine .k ?_
      repeat' (first | (conv => whnf) | skip); (first | (refine VReq.mk (cells8 _) ?_) | (refine VReq.mk (by kernel_rfl) ?_) | (refine VReq.mk (Nat.le_refl 8) ?_) | (refine kbox_top rfl rfl ?_) | (refine kset_top rfl ?_; rw [hp3]))
      refine KEnd.mk ⟨fun t => rfl, rfl⟩
    · simp at hi
  case same =>
    intro S hall
    have e0 : S 0 = true := hall 0 (by decide)
    have e1 : S 1 = true := hall 1 (by decide)
    have e2 : S 2 = true := hall 2 (by decide)
    have e3 : S 3 = true := hall 3 (by decide)
    have e4 : S 4 = true := hall 4 (by decide)
    have e5 : S 5 = true := hall 5 (by decide)
    have e6 : S 6 = true := hall 6 (by decide)
    have e7 : S 7 = true := hall 7 (by decide)
    have e8 : S 8 = true := hall 8 (by decide)
    have e9 : S 9 = true := hall 9 (by decide)
    exact ⟨by simp only [e0, e1, e2, e3, e4, e5, e6, e7, e8, e9], by simp only [e0, e1, e2, e3, e4, e5, e6, e7, e8, e9]⟩
  case done =>
    (conv => whnf)
    refine kwp_loop (S := Nat) (fun t => [(2, .ptr (H.length + 0) 0), (4, .ptr (H.length + 2) 0), (5, .ptr (H.length + 3) 0), (6, .ptr (H.length + 4) 0), (7, .ptr (H.length + 5) 0), (8, I t)]) (fun t => ⟨H.length, H, [.box h.l, .box (b.map byteSV), .box (List.replicate 8 (U 0)), .box ((sch b 64).map U), .box (KK.map U), .box (h.run (sch b 64) t).l]⟩) (fun t => t ≤ 64) (fun t => 64 - t) 0 (by omega) (tsub_cons rfl (tsub_cons rfl (tsub_cons rfl (tsub_cons rfl (tsub_cons rfl (tsub_cons rfl tsub_nil)))))) rfl (fun i hi => ⟨rfl, rfl⟩) ?_
    intro t ht
    rcases Nat.lt_or_ge t 64 with hlt | hge
    · have hrun : h.run (sch b 64) (t + 1) = (h.run (sch b 64) t).step (KK.getD t 0) ((sch b 64).getD t 0) := rfl
      have hgk := @get_U Try.prog 94 hc94 KK (t : Int) t rfl (by show t < 64; exact hlt)
      have hgw := @get_U Try.prog 94 hc94 (sch b 64) (t : Int) t rfl (by rw [sch_len]; exact hlt)
      generalize hs : h.run (sch b 64) t = s at hrun
      generalize hs2 : h.run (sch b 64) (t + 1) = s2 at hrun
      have hh2 : ∀ (n : Nat), n = t + 1 → h.run (sch b 64) n = s2 := fun n hn => by rw [hn]; exact hs2
      clear hp1 hp2 hl hlk
      generalize sch b 64 = w at hgw hrun hs hs2 hh2 ⊢
      generalize KK = kk at hgk hrun ⊢
      repeat' (first | (conv => whnf) | skip); (first | (refine VIf.mk (fun _ => ?_) (fun h => absurd (by omega) h)) | (refine VReq.mk (HExt.refl _) ?_) | (refine VReq.mk (by omega) ?_) | (refine VReq.mk (by decide) ?_) | (refine VReq.mk (by kernel_rfl) ?_) | (refine kcall_pure (r03r_spec _ _ (by decide) _) rfl ?_) | (refine kbox_top rfl rfl ?_) | (refine kset_top rfl ?_) | (refine kget_some hgk ?_) | (refine kget_some hgw ?_) | (refine kget_some (get8 hc94 rfl) ?_) | (refine KEnd.mk ?_))
      refine kwp_draw (by kernel_rfl) (by kernel_rfl) rfl ?_
      repeat' (first | (conv => whnf) | skip); (first | (refine VIf.mk (fun _ => ?_) (fun h => absurd (by omega) h)) | (refine VReq.mk (HExt.refl _) ?_) | (refine VReq.mk (by omega) ?_) | (refine VReq.mk (by decide) ?_) | (refine VReq.mk (by kernel_rfl) ?_) | (refine kcall_pure (r03r_spec _ _ (by decide) _) rfl ?_) | (refine kbox_top rfl rfl ?_) | (refine kset_top rfl ?_) | (refine kget_some hgk ?_) | (refine kget_some hgw ?_) | (refine kget_some (get8 hc94 rfl) ?_) | (refine KEnd.mk ?_))
      refine kwp_draw_in [0, 1, 2, 4, 7, 11, 12, 13, 14, 15, 16, 17, 18, 19, 20, 22, 23, 24, 26, 27, 28, 3, 5, 6, 8, 9, 10, 21, 25, 29, 30] [3, 5, 8] (by kernel_rfl) (by kernel_rfl) (by kernel_rfl) rfl ?_
      repeat' (first | (conv => whnf) | skip); (first | (refine VIf.mk (fun _ => ?_) (fun h => absurd (by omega) h)) | (refine VReq.mk (HExt.refl _) ?_) | (refine VReq.mk (by omega) ?_) | (refine VReq.mk (by decide) ?_) | (refine VReq.mk (by kernel_rfl) ?_) | (refine kcall_pure (r03r_spec _ _ (by decide) _) rfl ?_) | (refine kbox_top rfl rfl ?_) | (refine kset_top rfl ?_) | (refine kget_some hgk ?_) | (refine kget_some hgw ?_) | (refine kget_some (get8 hc94 rfl) ?_) | (refine KEnd.mk ?_))
      (conv => whnf)
      have hX : s.h + (rr s.e (Int.toNat 6) ^^^ rr s.e (Int.toNat 11) ^^^ rr s.e (Int.toNat 25)) + chs s.e s.f s.g + kk.getD t 0 + w.getD t 0 = s.x (kk.getD t 0) (w.getD t 0) := rfl
      simp only [uXor, uAnd, uNot, uAdd, chs_ref]
      rw [hX]
      obtain ⟨x, hx⟩ : ∃ x, s.x (kk.getD t 0) (w.getD t 0) = x := ⟨_, rfl⟩
      rw [hx]
      refine kwp_draw_in [0, 2, 5, 8, 9, 10, 11, 12, 13, 14, 15, 16, 17, 18, 19, 20, 21, 22, 1, 3, 4, 6, 7, 23, 24] [1, 3, 6] (by kernel_rfl) (by kernel_rfl) (by kernel_rfl) rfl ?_
      repeat' (first | (conv => whnf) | skip); (first | (refine VReq.mk ⟨by kernel_rfl, by rw [hc94]; exact Nat.le_of_ble_eq_true rfl⟩ ?_) | (refine VIf.mk (fun _ => ?_) (fun h => absurd (by omega) h)) | (refine VReq.mk (HExt.refl _) ?_) | (refine VReq.mk (by omega) ?_) | (refine VReq.mk (by decide) ?_) | (refine VReq.mk (by kernel_rfl) ?_) | (refine kcall_pure (r03r_spec _ _ (by decide) _) rfl ?_) | (refine kbox_top rfl rfl ?_) | (refine kset_top rfl ?_) | (refine kget_some hgk ?_) | (refine kget_some hgw ?_) | (refine kget_some (get8 hc94 rfl) ?_) | (refine KEnd.mk ?_))
      (conv => whnf)
      rw [built8 _ rfl _ hc94]
      simp only [uXor, uAnd, uAdd, mst_ref]
      have h2l : [U (x + ((rr s.a (Int.toNat 2) ^^^ rr s.a (Int.toNat 13) ^^^ rr s.a (Int.toNat 22)) + mst s.a s.b s.c)), U s.a, U s.b, U s.c, U (s.d + x), U s.e, U s.f, U s.g] = s2.l := by rw [hrun, V8.step, hx]; rfl
      rw [h2l]
      have hq : lput s.l 0 s2.l = s2.l := lput_whole rfl
      refine VReq.mk (cells8 _) ?_
      repeat' (first | (conv => whnf) | skip); (first | (refine VReq.mk (hc100.symm) ?_) | (refine VReq.mk (Nat.le_refl 8) ?_) | (refine kbox_top rfl rfl ?_) | (refine kset_top rfl ?_; rw [hq]) | (refine KEnd.mk ?_))
      exact ⟨t + 1, hlt, by omega, tsub_cons rfl (tsub_cons rfl (tsub_cons rfl (tsub_cons rfl (tsub_cons rfl (tsub_cons (congrArg I (inc64 (by omega))) tsub_nil))))), by rw [hh2 (t + 1) rfl]; rfl⟩
    · obtain rfl : t = 64 := by omega
      have hbk : blk h b = (h.run (sch b 64) 64).add h := rfl
      generalize h.run (sch b 64) 64 = s at hbk
      generalize sch b 64 = w at hl
      clear hp1 hp2 hlk
      generalize KK = kk
      repeat' (first | (conv => whnf) | skip); (first | (refine VIf.mk (fun h => absurd h (by omega)) (fun _ => ?_)))
      refine kwp_loop (S := Nat) (fun i => [(2, .ptr (H.length + 0) 0), (4, .ptr (H.length + 2) 0), (7, .ptr (H.length + 5) 0), (13, I i)]) (fun i => ⟨H.length, H, [.box (h.addN s i).l, .box (b.map byteSV), .box (List.replicate 8 (U 0)), .box (w.map U), .box (kk.map U), .box s.l]⟩) (fun i => i ≤ 8) (fun i => 8 - i) 0 (by omega) (tsub_cons rfl (tsub_cons rfl (tsub_cons rfl (tsub_cons rfl tsub_nil)))) rfl (fun i hi => ⟨rfl, rfl⟩) ?_
      intro i hi
      obtain rfl | rfl | rfl | rfl | rfl | rfl | rfl | rfl | rfl : i = 0 ∨ i = 1 ∨ i = 2 ∨ i = 3 ∨ i = 4 ∨ i = 5 ∨ i = 6 ∨ i = 7 ∨ i = 8 := by omega
      · repeat' (first | (conv => whnf) | skip); (first | (refine VIf.mk (fun _ => ?_) (fun h => absurd (by omega) h)) | (refine VReq.mk (by omega) ?_) | (refine VReq.mk (by kernel_rfl) ?_) | (refine VReq.mk (by rw [hc94]; exact Nat.le_of_ble_eq_true rfl) ?_) | (refine kwp_draw (by kernel_rfl) (by kernel_rfl) rfl ?_) | (refine kbox_top rfl rfl ?_) | (refine kset_top rfl ?_) | (refine kget_some (get8 hc94 rfl) ?_) | (refine KEnd.mk ?_))
        refine ⟨1, by omega, by omega, tsub_cons rfl (tsub_cons rfl (tsub_cons rfl (tsub_cons (congrArg I (inc64 (by omega))) tsub_nil))), ?_⟩
        refine congrArg (fun z => KH.mk H.length H [.box z, .box (b.map byteSV), .box (List.replicate 8 (U 0)), .box (w.map U), .box (kk.map U), .box s.l]) ?_
        rw [hc94, uAdd]
        simp only [V8.addN, V8.l, V8.add]
        rfl
      · repeat' (first | (conv => whnf) | skip); (first | (refine VIf.mk (fun _ => ?_) (fun h => absurd (by omega) h)) | (refine VReq.mk (by omega) ?_) | (refine VReq.mk (by kernel_rfl) ?_) | (refine VReq.mk (by rw [hc94]; exact Nat.le_of_ble_eq_true rfl) ?_) | (refine kwp_draw (by kernel_rfl) (by kernel_rfl) rfl ?_) | (refine kbox_top rfl rfl ?_) | (refine kset_top rfl ?_) | (refine kget_some (get8 hc94 rfl) ?_) | (refine KEnd.mk ?_))
        refine ⟨2, by omega, by omega, tsub_cons rfl (tsub_cons rfl (tsub_cons rfl (tsub_cons (congrArg I (inc64 (by omega))) tsub_nil))), ?_⟩
        refine congrArg (fun z => KH.mk H.length H [.box z, .box (b.map byteSV), .box (List.replicate 8 (U 0)), .box (w.map U), .box (kk.map U), .box s.l]) ?_
        rw [hc94, uAdd]
        simp only [V8.addN, V8.l, V8.add]
        rfl
      · repeat' (first | (conv => whnf) | skip); (first | (refine VIf.mk (fun _ => ?_) (fun h => absurd (by omega) h)) | (refine VReq.mk (by omega) ?_) | (refine VReq.mk (by kernel_rfl) ?_) | (refine VReq.mk (by rw [hc94]; exact Nat.le_of_ble_eq_true rfl) ?_) | (refine kwp_draw (by kernel_rfl) (by kernel_rfl) rfl ?_) | (refine kbox_top rfl rfl ?_) | (refine kset_top rfl ?_) | (refine kget_some (get8 hc94 rfl) ?_) | (refine KEnd.mk ?_))
        refine ⟨3, by omega, by omega, tsub_cons rfl (tsub_cons rfl (tsub_cons rfl (tsub_cons (congrArg I (inc64 (by omega))) tsub_nil))), ?_⟩
        refine congrArg (fun z => KH.mk H.length H [.box z, .box (b.map byteSV), .box (List.replicate 8 (U 0)), .box (w.map U), .box (kk.map U), .box s.l]) ?_
        rw [hc94, uAdd]
        simp only [V8.addN, V8.l, V8.add]
        rfl
      · repeat' (first | (conv => whnf) | skip); (first | (refine VIf.mk (fun _ => ?_) (fun h => absurd (by omega) h)) | (refine VReq.mk (by omega) ?_) | (refine VReq.mk (by kernel_rfl) ?_) | (refine VReq.mk (by rw [hc94]; exact Nat.le_of_ble_eq_true rfl) ?_) | (refine kwp_draw (by kernel_rfl) (by kernel_rfl) rfl ?_) | (refine kbox_top rfl rfl ?_) | (refine kset_top rfl ?_) | (refine kget_some (get8 hc94 rfl) ?_) | (refine KEnd.mk ?_))
        refine ⟨4, by omega, by omega, tsub_cons rfl (tsub_cons rfl (tsub_cons rfl (tsub_cons (congrArg I (inc64 (by omega))) tsub_nil))), ?_⟩
        refine congrArg (fun z => KH.mk H.length H [.box z, .box (b.map byteSV), .box (List.replicate 8 (U 0)), .box (w.map U), .box (kk.map U), .box s.l]) ?_
        rw [hc94, uAdd]
        simp only [V8.addN, V8.l, V8.add]
        rfl
      · repeat' (first | (conv => whnf) | skip); (first | (refine VIf.mk (fun _ => ?_) (fun h => absurd (by omega) h)) | (refine VReq.mk (by omega) ?_) | (refine VReq.mk (by kernel_rfl) ?_) | (refine VReq.mk (by rw [hc94]; exact Nat.le_of_ble_eq_true rfl) ?_) | (refine kwp_draw (by kernel_rfl) (by kernel_rfl) rfl ?_) | (refine kbox_top rfl rfl ?_) | (refine kset_top rfl ?_) | (refine kget_some (get8 hc94 rfl) ?_) | (refine KEnd.mk ?_))
        refine ⟨5, by omega, by omega, tsub_cons rfl (tsub_cons rfl (tsub_cons rfl (tsub_cons (congrArg I (inc64 (by omega))) tsub_nil))), ?_⟩
        refine congrArg (fun z => KH.mk H.length H [.box z, .box (b.map byteSV), .box (List.replicate 8 (U 0)), .box (w.map U), .box (kk.map U), .box s.l]) ?_
        rw [hc94, uAdd]
        simp only [V8.addN, V8.l, V8.add]
        rfl
      · repeat' (first | (conv => whnf) | skip); (first | (refine VIf.mk (fun _ => ?_) (fun h => absurd (by omega) h)) | (refine VReq.mk (by omega) ?_) | (refine VReq.mk (by kernel_rfl) ?_) | (refine VReq.mk (by rw [hc94]; exact Nat.le_of_ble_eq_true rfl) ?_) | (refine kwp_draw (by kernel_rfl) (by kernel_rfl) rfl ?_) | (refine kbox_top rfl rfl ?_) | (refine kset_top rfl ?_) | (refine kget_some (get8 hc94 rfl) ?_) | (refine KEnd.mk ?_))
        refine ⟨6, by omega, by omega, tsub_cons rfl (tsub_cons rfl (tsub_cons rfl (tsub_cons (congrArg I (inc64 (by omega))) tsub_nil))), ?_⟩
        refine congrArg (fun z => KH.mk H.length H [.box z, .box (b.map byteSV), .box (List.replicate 8 (U 0)), .box (w.map U), .box (kk.map U), .box s.l]) ?_
        rw [hc94, uAdd]
        simp only [V8.addN, V8.l, V8.add]
        rfl
      · repeat' (first | (conv => whnf) | skip); (first | (refine VIf.mk (fun _ => ?_) (fun h => absurd (by omega) h)) | (refine VReq.mk (by omega) ?_) | (refine VReq.mk (by kernel_rfl) ?_) | (refine VReq.mk (by rw [hc94]; exact Nat.le_of_ble_eq_true rfl) ?_) | (refine kwp_draw (by kernel_rfl) (by kernel_rfl) rfl ?_) | (refine kbox_top rfl rfl ?_) | (refine kset_top rfl ?_) | (refine kget_some (get8 hc94 rfl) ?_) | (refine KEnd.mk ?_))
        refine ⟨7, by omega, by omega, tsub_cons rfl (tsub_cons rfl (tsub_cons rfl (tsub_cons (congrArg I (inc64 (by omega))) tsub_nil))), ?_⟩
        refine congrArg (fun z => KH.mk H.length H [.box z, .box (b.map byteSV), .box (List.replicate 8 (U 0)), .box (w.map U), .box (kk.map U), .box s.l]) ?_
        rw [hc94, uAdd]
        simp only [V8.addN, V8.l, V8.add]
        rfl
      · repeat' (first | (conv => whnf) | skip); (first | (refine VIf.mk (fun _ => ?_) (fun h => absurd (by omega) h)) | (refine VReq.mk (by omega) ?_) | (refine VReq.mk (by kernel_rfl) ?_) | (refine VReq.mk (by rw [hc94]; exact Nat.le_of_ble_eq_true rfl) ?_) | (refine kwp_draw (by kernel_rfl) (by kernel_rfl) rfl ?_) | (refine kbox_top rfl rfl ?_) | (refine kset_top rfl ?_) | (refine kget_some (get8 hc94 rfl) ?_) | (refine KEnd.mk ?_))
        refine ⟨8, by omega, by omega, tsub_cons rfl (tsub_cons rfl (tsub_cons rfl (tsub_cons (congrArg I (inc64 (by omega))) tsub_nil))), ?_⟩
        refine congrArg (fun z => KH.mk H.length H [.box z, .box (b.map byteSV), .box (List.replicate 8 (U 0)), .box (w.map U), .box (kk.map U), .box s.l]) ?_
        rw [hc94, uAdd]
        simp only [V8.addN, V8.l, V8.add]
        rfl
      · have hhp := hp3 (h.addN s 8)
        repeat' (first | (conv => whnf) | skip); (first | (refine VIf.mk (fun h => absurd h (by omega)) (fun _ => ?_)) | (refine VReq.mk (by kernel_rfl) ?_) | (refine kbox_top rfl rfl ?_) | (refine VReq.mk (by rw [hc100]; exact Nat.le_refl 8) ?_) | (rw [htk]; refine VReq.mk (cells8 _) ?_) | (refine VReq.mk (Nat.le_refl 8) ?_) | (refine kset_top rfl ?_; rw [hhp]))
        rw [htk]
        have hcomm : (h.addN s 8).l = (s.add h).l := by
          show (h.add s).l = (s.add h).l
          simp only [V8.add, V8.l, BitVec.add_comm]
        exact kdone_pure h0 (bel8 _) ⟨by rw [hbk, hcomm], rfl⟩
end Go.Vm
