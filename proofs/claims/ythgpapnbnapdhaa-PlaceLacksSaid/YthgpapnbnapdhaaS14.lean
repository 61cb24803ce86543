/- baileyref03.Sum: what it computes. -/
import Derived.Test.YthgpapnbnapdhaaS13
set_option linter.unusedVariables false
set_option linter.unusedSimpArgs false
namespace Go.Vm
open Go.Proofs
set_option maxRecDepth 100000
/-- A list that is laid bit by bit over zeros. -/
def fillL (l : List UInt8) (n m : Nat) : List UInt8 := l.take m ++ List.replicate (n - m) 0
theorem fillL_len {l : List UInt8} {n m : Nat} (hl : l.length = n) (h : m ≤ n) : (fillL l n m).length = n := by simp [fillL]; omega
theorem fillL_set {l : List UInt8} {n m : Nat} (hl : l.length = n) (h : m < n) : (fillL l n m).set m (l.getD m 0) = fillL l n (m + 1) := by
  unfold fillL
  have hk : (l.take m).length = m := by rw [List.length_take]; omega
  have hm : m < l.length := by omega
  have e1 : l.take (m + 1) = l.take m ++ [l[m]] := by rw [List.take_add_one, List.getElem?_eq_getElem hm, Option.toList_some]
  have e2 : l.getD m 0 = l[m] := by rw [List.getD_eq_getElem?_getD, List.getElem?_eq_getElem hm]; rfl
  rw [List.set_append, if_neg (by omega), hk, Nat.sub_self, show n - m = (n - (m + 1)) + 1 by omega, List.replicate_succ, List.set_cons_zero, e1, e2]
  simp only [List.append_assoc, List.cons_append, List.nil_append]
theorem fillL_full {l : List UInt8} {n : Nat} (hl : l.length = n) : fillL l n n = l := by
  unfold fillL; rw [List.take_of_length_le (by omega)]; simp
theorem mod64 (n : Nat) : (n + (zpad n + 9)) % 64 = 0 := by unfold zpad; omega
theorem r03sum_spec (f0 : Bool) (b : List UInt8) (hn : b.length ≤ 500100) (H : List VB) : VCalls Try.prog 86 [.list 1 f0 (b.map byteSV)] H (fun r H' => r = T (shaS b) ∧ H' = H) := by
  have hc5 : Try.prog.cellsOf 5 = 1 := by kernel_rfl
  have hc94 : Try.prog.cellsOf 94 = 1 := by kernel_rfl
  have hc100 : Try.prog.cellsOf 100 = 8 := by kernel_rfl
  have hc102 : Try.prog.cellsOf 102 = 64 := by kernel_rfl
  have hpz : zpad b.length < 64 := by unfold zpad; omega
  have hpl := padL_len b.length
  have hbm : (b.map byteSV).length = b.length := List.length_map ..
  have hpm : ((padL b.length).map byteSV).length = zpad b.length + 9 := by rw [List.length_map, hpl]
  refine kcalls Try.func86 rfl (by kernel_rfl) rfl ?_
  intro R0 h0 hb
  repeat' (first | (conv => whnf) | skip); (first | (refine kb_append_nil (n := 1) (ys := b.map byteSV) rfl (by kernel_rfl) (vsrc_list rfl) (by omega) ?_) | (refine kcall_pure (by rw [hbm]; exact r03pad_spec b.length (by omega) _) rfl ?_) | (refine kb_append_top (j := 0) (n := 1) (ys := (padL b.length).map byteSV) rfl (by kernel_rfl) rfl rfl (vsrc_list rfl) (by omega) cellsB1 ?_) | (refine kcall_pure (r03start_spec _) rfl ?_) | (refine VReq.mk (cellsU V8.init.w) ?_) | (refine VReq.mk (by kernel_rfl) ?_) | (refine kbox_top rfl rfl ?_) | (refine VReq.mk (Nat.le_refl 8) ?_) | (refine kset_top rfl ?_))
  have hq := mod64 b.length
  have hlen : (b ++ padL b.length).length = b.length + (zpad b.length + 9) := by rw [List.length_append, hpl]
  have hbig : (b ++ padL b.length).length ≤ 600000 := by omega
  obtain ⟨Q, hQ⟩ : ∃ Q, (b ++ padL b.length).length = 64 * Q := ⟨(b ++ padL b.length).length / 64, by omega⟩
  have hsh : shaS b = ⟨(tell (foldB V8.init (b ++ padL b.length) Q)).toArray⟩ := by rw [shaS, hQ, Nat.mul_div_cancel_left _ (by decide)]
  rw [hsh]
  clear hsh
  have hmapL : ((b ++ padL b.length).map byteSV).length = 64 * Q := by rw [List.length_map, hQ]
  refine kwp_loop_drop (S := Nat) (h0 ▸ hb) (fun q => [(3, .slc (H.length + 0) 1 0 ((b ++ padL b.length).map byteSV).length), (4, .ptr (H.length + 1) 0), (5, I ((64 * q : Nat) : Int))]) (fun q => ⟨H.length, H, [.row 1 1 ((b ++ padL b.length).map byteSV), .box (foldB V8.init (b ++ padL b.length) q).l]⟩) (fun q => q ≤ Q) (fun q => Q - q) 0 (by omega) (tsub_cons (by rw [List.map_append]; rfl) (tsub_cons rfl (tsub_cons rfl tsub_nil))) (by
      rw [List.map_append]
      refine congrArg (fun z => KH.mk H.length H [.row 1 1 (b.map byteSV ++ (padL b.length).map byteSV), .box z]) ?_
      exact lput_whole rfl) (fun q hq' => ⟨rfl, rfl⟩) (fun q hq' => ⟨?bel1, ?bel2, by simp [KH.flat, h0]⟩) ?_
  case bel1 =>
    intro p hp
    simp only [List.mem_cons, List.not_mem_nil, or_false] at hp
    rcases hp with rfl | rfl | rfl <;> simp [KH.flat]
  case bel2 =>
    intro id bb hbb
    rcases Nat.lt_or_ge id H.length with hlt | hge
    · left
      rw [KH.flat, List.getElem?_append_left hlt] at hbb
      rw [h0]; exact hbb
    · right
      rw [KH.flat, List.getElem?_append_right hge] at hbb
      obtain ⟨k, hk⟩ : ∃ k, id - H.length = k := ⟨_, rfl⟩
      rw [hk] at hbb
      match k, hbb with
      | 0, hbb => cases hbb; exact fun x hx => (bytesP x hx).mono (Nat.zero_le _)
      | 1, hbb => cases hbb; intro x hx; obtain ⟨c, _, rfl⟩ := List.mem_map.1 (show x ∈ (foldB V8.init (b ++ padL b.length) q).w.map U from hx); exact .v _
      | k + 2, hbb => cases hbb
  intro q hq'
  dsimp only
  generalize b ++ padL b.length = all at *
  rcases Nat.lt_or_ge q Q with hlt | hge
  · have hlq : ((64 * q : Nat) : Int) < ((all.map byteSV).length : Nat) := by rw [hmapL]; omega
    have hbl : ((all.drop (64 * q)).take 64).length = 64 := by rw [List.length_take, List.length_drop]; omega
    repeat' (first | (conv => whnf) | skip); (first | (refine VIf.mk (fun _ => ?_) (fun h => absurd hlq h)) | (refine krow_top (j := 0) rfl rfl ?_) | (refine VReq.mk rfl ?_))
    (conv => whnf)
    refine kwp_loop (S := Nat) (fun j => [(3, .slc (H.length + 0) 1 0 (all.map byteSV).length), (4, .ptr (H.length + 1) 0), (5, I ((64 * q : Nat) : Int)), (6, .ptr (H.length + 2) 0), (7, I j)]) (fun j => ⟨H.length, H, [.row 1 1 (all.map byteSV), .box (foldB V8.init all q).l, .box ((fillL ((all.drop (64 * q)).take 64) 64 j).map byteSV)]⟩) (fun j => j ≤ 64) (fun j => 64 - j) 0 (by omega) (tsub_cons rfl (tsub_cons rfl (tsub_cons rfl (tsub_cons rfl (tsub_cons rfl tsub_nil))))) (by
      refine congrArg (fun z => KH.mk H.length H [.row 1 1 (all.map byteSV), .box (foldB V8.init all q).l, .box z]) ?_
      simp only [fillL, List.take_zero, List.nil_append, Nat.sub_zero, List.map_replicate]
      rfl) (fun i hi => ⟨rfl, rfl⟩) ?_
    intro j hj
    rcases Nat.lt_or_ge j 64 with hlt2 | hge2
    · have hw : IntKind.i64.wrap (((64 * q : Nat) : Int) + (j : Int)) = ((64 * q + j : Nat) : Int) := by rw [IntWalk.i64_in _ (by omega)]; omega
      have hg : (all.map byteSV)[0 + (IntKind.i64.wrap (((64 * q : Nat) : Int) + (j : Int))).toNat]? = some (byteSV (all.getD (64 * q + j) 0)) := by
        rw [hw, Nat.zero_add, Int.toNat_natCast, List.getElem?_map, List.getElem?_eq_getElem (by omega), List.getD_eq_getElem?_getD, List.getElem?_eq_getElem (by omega)]; rfl
      have hgd : all.getD (64 * q + j) 0 = ((all.drop (64 * q)).take 64).getD j 0 := by
        rw [List.getD_eq_getElem?_getD, List.getD_eq_getElem?_getD, List.getElem?_take_of_lt hlt2, List.getElem?_drop]
      have hle : 0 + ((j : Nat) : Int).toNat * Try.prog.cellsOf 5 + 1 ≤ ((fillL ((all.drop (64 * q)).take 64) 64 j).map byteSV).length := by rw [hc5, Int.toNat_natCast, List.length_map, fillL_len hbl hj]; omega
      repeat' (first | (conv => whnf) | skip); (first | (refine VIf.mk (fun _ => ?_) (fun h => absurd (by omega) h)) | (refine krow_top (j := 0) rfl rfl ?_) | (refine VReq.mk ⟨by rw [hw]; omega, by rw [hw, hmapL]; omega, rfl, hc5.symm, by omega⟩ ?_) | (refine kget_some hg ?_) | (refine kget_some (show [byteSV (all.getD (64 * q + j) 0)][0]? = some _ from rfl) ?_) | (refine VReq.mk rfl ?_) | (refine VReq.mk hle ?_) | (refine VReq.mk (by omega) ?_) | (refine kbox_top rfl rfl ?_) | (refine kset_top rfl ?_) | (refine VReq.mk (by kernel_rfl) ?_) | (refine KEnd.mk ?_))
      refine ⟨j + 1, hlt2, by omega, tsub_cons rfl (tsub_cons rfl (tsub_cons rfl (tsub_cons rfl (tsub_cons (congrArg I (inc64 (by omega))) tsub_nil)))), ?_⟩
      refine congrArg (fun z => KH.mk H.length H [.row 1 1 (all.map byteSV), .box (foldB V8.init all q).l, .box z]) ?_
      rw [hc5, Int.toNat_natCast, Nat.zero_add, Nat.mul_one, lput_one (by rw [List.length_map, fillL_len hbl hj]; exact hlt2), ← fillL_set hbl hlt2, ← hgd, List.map_set]
      rfl
    · obtain rfl : j = 64 := by omega
      rw [fillL_full hbl]
      have hxm : (((all.drop (64 * q)).take 64).map byteSV).length = 64 := by rw [List.length_map, hbl]
      have hle8 : Try.prog.cellsOf 100 ≤ ((foldB V8.init all q).l.drop 0).length := by rw [hc100]; exact Nat.le_refl 8
      have hle64 : Try.prog.cellsOf 102 ≤ ((((all.drop (64 * q)).take 64).map byteSV).drop 0).length := by rw [hc102, List.drop_zero, hxm]; exact Nat.le_refl 64
      repeat' (first | (conv => whnf) | skip); (first | (refine VIf.mk (fun h => absurd h (by omega)) (fun _ => ?_)) | (refine VReq.mk hle8 ?_) | (refine VReq.mk hle64 ?_) | (refine kbox_top rfl rfl ?_) | (refine VReq.mk (by kernel_rfl) ?_))
      refine kcall_eq (args' := [.agg (foldB V8.init all q).l, .agg (((all.drop (64 * q)).take 64).map byteSV)]) ?_ (kcall_pure (r03block_spec _ _ hbl _) rfl ?_)
      · show [SV.agg _, SV.agg _] = _
        rw [hc100, hc102]
        exact congrArg (fun z => [SV.agg (foldB V8.init all q).l, SV.agg z]) (take_drop0 hxm)
      have hw8 : IntKind.i64.wrap (((64 * q : Nat) : Int) + 64) = ((64 * (q + 1) : Nat) : Int) := by rw [IntWalk.i64_in _ (by omega)]; omega
      repeat' (first | (conv => whnf) | skip); (first | (refine VReq.mk (cells8 _) ?_) | (refine VReq.mk hc100.symm ?_) | (refine VReq.mk (Nat.le_refl 8) ?_) | (refine kbox_top rfl rfl ?_) | (refine kset_top rfl ?_) | (refine KEnd.mk ?_))
      exact ⟨q + 1, hlt, by omega, tsub_cons rfl (tsub_cons rfl (tsub_cons (congrArg I hw8) tsub_nil)), rfl, [.box (((all.drop (64 * q)).take 64).map byteSV)], rfl⟩
  · obtain rfl : q = Q := by omega
    have hlq : ¬ ((64 * q : Nat) : Int) < ((all.map byteSV).length : Nat) := by rw [hmapL]; omega
    generalize foldB V8.init all q = s
    repeat' (first | (conv => whnf) | skip); (first | (refine VIf.mk (fun h => absurd h hlq) (fun _ => ?_)) | (refine krow_top (j := 0) rfl rfl ?_) | (refine VReq.mk rfl ?_))
    (conv => whnf)
    refine kwp_nilrow 8 1 rfl rfl ?_
    refine kwp_loop (S := Nat) (fun i => [(4, .ptr (H.length + 1) 0), (8, .slc (H.length + 2) i 0 (((tell s).take (4 * i)).map byteSV).length), (9, I i)]) (fun i => ⟨H.length, H, [.row 1 1 (all.map byteSV), .box s.l, .row i 1 (((tell s).take (4 * i)).map byteSV)]⟩) (fun i => i ≤ 8) (fun i => 8 - i) 0 (by omega) (tsub_cons rfl (tsub_cons rfl (tsub_cons rfl tsub_nil))) rfl (fun i hi => ⟨rfl, rfl⟩) ?_
    intro i hi
    have htl : ((tell s).take (4 * i)).length = 4 * i := by rw [List.length_take, tell_len]; omega
    rcases Nat.lt_or_ge i 8 with hlt2 | hge2
    · have hg := get8 hc94 (w_at s hlt2)
      have hnx : ((tell s).take (4 * i)).map byteSV ++ [byteSV (byt (s.w.getD i 0).toNat 24), byteSV (byt (s.w.getD i 0).toNat 16), byteSV (byt (s.w.getD i 0).toNat 8), byteSV (byt (s.w.getD i 0).toNat 0)] = ((tell s).take (4 * (i + 1))).map byteSV := by
        obtain rfl | rfl | rfl | rfl | rfl | rfl | rfl | rfl : i = 0 ∨ i = 1 ∨ i = 2 ∨ i = 3 ∨ i = 4 ∨ i = 5 ∨ i = 6 ∨ i = 7 := by omega
        all_goals rfl
      have hv : [SV.v (.int .u8 (IntKind.u8.wrap (((s.w.getD i 0).toNat : Int).fdiv (2 ^ min 24 IntKind.u32.bits)))), SV.v (.int .u8 (IntKind.u8.wrap (((s.w.getD i 0).toNat : Int).fdiv (2 ^ min 16 IntKind.u32.bits)))), SV.v (.int .u8 (IntKind.u8.wrap (((s.w.getD i 0).toNat : Int).fdiv (2 ^ min 8 IntKind.u32.bits)))), SV.v (.int .u8 (IntKind.u8.wrap ((s.w.getD i 0).toNat : Int)))] = [byteSV (byt (s.w.getD i 0).toNat 24), byteSV (byt (s.w.getD i 0).toNat 16), byteSV (byt (s.w.getD i 0).toNat 8), byteSV (byt (s.w.getD i 0).toNat 0)] := by
        rw [u32_byt _ (by omega), u32_byt _ (by omega), u32_byt _ (by omega), byt_sv _ 0]
        simp only [List.cons.injEq, true_and, and_true]
        rw [u8_wrap]; simp
      repeat' (first | (conv => whnf) | skip); (first | (refine VIf.mk (fun _ => ?_) (fun h => absurd (by omega) h)) | (refine kwp_draw (by kernel_rfl) (by kernel_rfl) rfl ?_) | (refine kget_some hg ?_) | (refine kbox_top rfl rfl ?_) | (refine VReq.mk (by omega) ?_) | (refine VReq.mk (by decide) ?_) | (refine VReq.mk ⟨by kernel_rfl, by kernel_rfl⟩ ?_) | (refine VReq.mk (by kernel_rfl) ?_) | (refine kb_append_top (j := 2) (n := 1) (ys := [byteSV (byt (s.w.getD i 0).toNat 24), byteSV (byt (s.w.getD i 0).toNat 16), byteSV (byt (s.w.getD i 0).toNat 8), byteSV (byt (s.w.getD i 0).toNat 0)]) rfl (by kernel_rfl) rfl rfl ((vsrc_list hc5).trans (congrArg some hv)) (by rw [List.length_map, htl]; simp only [List.length_cons, List.length_nil]; omega) (cellsB1 (l := [_, _, _, _])) ?_) | (refine KEnd.mk ?_))
      exact ⟨i + 1, hlt2, by omega, tsub_cons rfl (tsub_cons (congrArg (fun z : List SV => SV.slc _ _ 0 z.length) hnx) (tsub_cons (congrArg I (inc64 (by omega))) tsub_nil)), congrArg (fun z => KH.mk H.length H [.row 1 1 (all.map byteSV), .box s.l, .row (i + 1) 1 z]) hnx⟩
    · obtain rfl : i = 8 := by omega
      have e8 : (tell s).take (4 * 8) = tell s := List.take_of_length_le (by rw [tell_len]; decide)
      rw [e8]
      have hdt : (((tell s).map byteSV).drop 0).take ((tell s).map byteSV).length = (tell s).map byteSV := take_drop0 rfl
      repeat' (first | (conv => whnf) | skip); (first | (refine VIf.mk (fun h => absurd h (by omega)) (fun _ => ?_)) | (refine krow_top (j := 2) rfl rfl ?_) | (refine VReq.mk ⟨rfl, by omega⟩ ?_) | (refine VReq.mk rfl ?_) | (refine ⟨⟨tell s, hdt, ?_⟩⟩) | (refine kdone_pure h0 (by simp) ⟨rfl, rfl⟩))
/-- The reference's rank. -/
theorem r29rank_spec (sum : ByteArray) (hs : sum.size ≤ 500000) (node : Nat) (hn : node < 256) (H : List VB) : VCalls Try.prog 69 [T sum, I node] H (fun r H' => r = T (rk sum node) ∧ H' = H) := by
  have hc5 : Try.prog.cellsOf 5 = 1 := by kernel_rfl
  have hsl : sum.data.toList.length = sum.size := by rw [Array.length_toList]; rfl
  have hml : (sum.data.toList.map byteSV).length = sum.size := by rw [List.length_map, hsl]
  have hml' : sum.size = (sum.data.toList.map byteSV).length := hml.symm
  refine kcalls Try.func69 rfl (by kernel_rfl) rfl ?_
  intro R0 h0 hb
  have hmm : sum.data.toList.map byteSV ++ [byteSV (UInt8.ofNat node)] = (sum.data.toList ++ [UInt8.ofNat node]).map byteSV := by simp
  have hsum := r03sum_spec false (sum.data.toList ++ [UInt8.ofNat node]) (by rw [List.length_append, hsl]; simp; omega) (deadH (KH.flat ⟨H.length, H, [.row 1 1 ((sum.data.toList ++ [UInt8.ofNat node]).map byteSV)]⟩))
  repeat' (first | (conv => whnf) | skip); (first | (refine kconvb (e := 5) rfl (by kernel_rfl) (by kernel_rfl) (by kernel_rfl) (by omega) ?_) | (refine VReq.mk ⟨by kernel_rfl, by kernel_rfl⟩ ?_) | (refine VReq.mk (by kernel_rfl) ?_) | (refine kb_append_top (j := 0) (n := 1) (ys := [byteSV (UInt8.ofNat node)]) rfl (by kernel_rfl) rfl hml' ((vsrc_list hc5).trans (by rw [← node_byte hn]; rfl)) (by rw [hml]; simp only [List.length_cons, List.length_nil]; omega) (cellsB1 (l := [_])) ?_; rw [hmm]))
  refine kcall_lend (lendL_cons (lend_row (flat_get_top rfl 0) fun x hx c hc => ?_) lendL_nil) hsum (.v _) rfl ?_
  · obtain ⟨z, _, rfl⟩ := List.mem_map.1 hx
    simp only [byteSV, SV.cells, List.mem_singleton] at hc
    subst hc; exact .v _
  (conv => whnf)
  exact kdone_pure h0 (by simp) ⟨rfl, rfl⟩
end Go.Vm
