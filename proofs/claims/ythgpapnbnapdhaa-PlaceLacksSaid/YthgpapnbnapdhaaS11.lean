/- Layer 3 (sha): the walk of Write. -/
import Derived.Test.YthgpapnbnapdhaaS10
set_option linter.unusedVariables false
set_option linter.unusedSimpArgs false
namespace Go.Vm
open Go.Proofs
set_option maxRecDepth 100000
structure WS where
  s : V8
  p : List UInt8
  all : List UInt8
  rest : List UInt8
  f : Bool
theorem write_spec (s0 : V8) (p0 all0 b0 : List UInt8) (f0 : Bool) (hi0 : HInv all0 s0 p0) (hn0 : all0.length + b0.length ≤ 1000000) (id : Nat) (H : List VB) (hH : H[id]? = some (.box (hcells s0 p0 all0.length))) :
    VCalls Try.prog 82 [.ptr id 0, .list 1 f0 (b0.map byteSV)] H (fun r H' => r = .tup [] ∧ ∃ s' p', HInv (all0 ++ b0) s' p' ∧ H' = H.set id (.box (hcells s' p' (all0 ++ b0).length))) := by
  have hc5 : Try.prog.cellsOf 5 = 1 := by kernel_rfl
  have hc100 : Try.prog.cellsOf 100 = 8 := by kernel_rfl
  have hc102 : Try.prog.cellsOf 102 = 64 := by kernel_rfl
  have hid : id < H.length := lt_of_some hH
  have hget : ∀ {s : V8} {p : List UInt8} {n : Int}, p.length = 64 → ((hcells s p n).drop 72)[0]? = some (I n) := fun h => by rw [List.getElem?_drop]; exact hcells_n h
  have hm0 : ((hcells s0 p0 all0.length).drop 73)[0]? = some (B true) := by rw [List.getElem?_drop]; exact hcells_m hi0.hl
  refine kcalls Try.func82 rfl (by kernel_rfl) rfl ?_
  intro R0 h0 hb
  repeat' (first | (conv => whnf) | skip); (first | (refine kbox_base hH ?_) | (refine VReq.mk (by kernel_rfl) ?_) | (refine kget_some hm0 ?_))
  (conv => whnf)
  refine kwp_loop (S := WS) (fun z => [(0, .ptr id 0), (1, .list 1 z.f (z.rest.map byteSV))]) (fun z => ⟨H.length, H.set id (.box (hcells z.s z.p z.all.length)), []⟩) (fun z => HInv z.all z.s z.p ∧ z.all ++ z.rest = all0 ++ b0) (fun z => z.rest.length) ⟨s0, p0, all0, b0, f0⟩ ⟨hi0, rfl⟩ (tsub_cons rfl (tsub_cons rfl tsub_nil)) (by rw [set_same_id hH]) (fun z hi => ⟨by simp [KH.ok], rfl⟩) ?_
  rintro ⟨s, p, all, rest, f⟩ ⟨hi, hall⟩
  dsimp only at hi hall ⊢
  have hlen : all.length + rest.length ≤ 1000000 := by
    have := congrArg List.length hall
    simp only [List.length_append] at this
    omega
  have hX : (H.set id (.box (hcells s p all.length)))[id]? = some (.box (hcells s p all.length)) := set_same _ _ _ hid
  rcases Nat.eq_zero_or_pos rest.length with hz | hpos
  · have hr : rest = [] := List.eq_nil_of_length_eq_zero hz
    subst hr
    rw [List.append_nil] at hall
    repeat' (first | (conv => whnf) | skip); (first | (refine VIf.mk (fun h => absurd h (by simp)) (fun _ => ?_)))
    refine kdone_keep ⟨rfl, s, p, hall ▸ hi, ?_⟩
    rw [← hall]; simp [KH.flat]
  · have hrem : ((all.length : Nat) : Int).tmod 64 = ((all.length % 64 : Nat) : Int) := by rw [Int.tmod_eq_emod_of_nonneg (by omega)]; omega
    have hrl : ((rest.map byteSV).length : Int) = rest.length := by rw [List.length_map]
    repeat' (first | (conv => whnf) | skip); (first | (refine VIf.mk (fun _ => ?_) (fun h => absurd (by rw [hrl]; omega) h)) | (refine kbox_base hX ?_) | (refine VReq.mk (by kernel_rfl) ?_) | (refine VReq.mk (by decide) ?_) | (refine VReq.mk (by rw [hrem]; omega) ?_) | (refine kget_some (hget hi.hl) ?_))
    obtain ⟨k, hk⟩ : ∃ k, all.length % 64 = k := ⟨_, rfl⟩
    have hk64 : k < 64 := by omega
    obtain ⟨m, hm⟩ : ∃ m, min (rest.map byteSV).length (64 - k) = m := ⟨_, rfl⟩
    have hm1 : m ≤ rest.length ∧ k + m ≤ 64 ∧ 0 < m ∧ m ≤ 64 := by rw [List.length_map] at hm; omega
    have htk : ((rest.map byteSV).take m).flatMap SV.cells = (rest.take m).map byteSV := by
      rw [← List.map_take]
      generalize rest.take m = l
      induction l with
      | nil => rfl
      | cons a l ih => simp only [List.map_cons, List.flatMap_cons, ih]; rfl
    have hlm : (rest.take m).length = m := by rw [List.length_take]; omega
    have hkn : (((all.length : Nat) : Int).tmod 64).toNat = k := by rw [hrem, Int.toNat_natCast, hk]
    have hput := @hcells_putp s p (rest.take m) all.length k hi.hl (by rw [hlm]; omega)
    refine kb_copy_bto (e := 5) (ys := rest.map byteSV) (cs' := hcells s (plug p k (rest.take m)) all.length) (by simp) rfl (by kernel_rfl) (by kernel_rfl) hc5 hc5 hX (vsrc_list rfl) cellsB1 (by rw [hkn, hc5, hcells_len hi.hl]; show 8 + k * 1 + (64 - k) ≤ 74; omega) (by rw [hkn, hc5, hm, htk, Nat.mul_one]; exact hput) ?_
    rw [hkn, hm]
    have hpl : (plug p k (rest.take m)).length = 64 := by rw [plug_len (by rw [hlm, hi.hl]; omega), hi.hl]
    rw [List.set_set]
    have hX2 : ∀ X : VB, (H.set id X)[id]? = some X := fun X => set_same _ _ _ hid
    have hwn : IntKind.i64.wrap (((all.length : Nat) : Int) + (m : Int)) = ((all.length + m : Nat) : Int) := by rw [IntWalk.i64_in _ (by omega)]; omega
    have hst1 : (H.set id (.box (hcells s (plug p k (rest.take m)) all.length))).set id (.box (lput (hcells s (plug p k (rest.take m)) all.length) 72 [SV.v (.int .i64 (IntKind.i64.wrap (((all.length : Nat) : Int) + (m : Int))))])) = H.set id (.box (hcells s (plug p k (rest.take m)) ((all.length + m : Nat) : Int))) := by
      rw [List.set_set, hwn]; exact congrArg (fun z => H.set id (.box z)) (hcells_putn hpl)
    have hle1 : 72 + 1 ≤ (hcells s (plug p k (rest.take m)) all.length).length := by rw [hcells_len hpl]; decide
    repeat' (first | (conv => whnf) | skip); (first | (refine kbox_base (hX2 _) ?_) | (refine VReq.mk (by kernel_rfl) ?_) | (refine VReq.mk (by decide) ?_) | (refine VReq.mk hle1 ?_) | (refine kset_base_to (by simp) (by simpa using hid) hst1 ?_) | (refine kget_some (hget hpl) ?_) | (refine VReq.mk (Nat.le_refl _) ?_) | (refine VReq.mk (show (0 : Int) ≤ (m : Int) ∧ (m : Int) ≤ (rest.map byteSV).length by rw [List.length_map]; omega) ?_))
    have hrem2 : ((all.length + m : Nat) : Int).tmod 64 = (((all.length + m) % 64 : Nat) : Int) := by rw [Int.tmod_eq_emod_of_nonneg (by omega)]; omega
    have hstep := hinv_step (x := rest.take m) hi (by rw [hlm]; omega)
    have hxne : rest.take m ≠ [] := fun h => by rw [h] at hlm; simp at hlm; omega
    rw [hlm, hk, if_neg hxne] at hstep
    have hal : (all ++ rest.take m) ++ rest.drop m = all0 ++ b0 := by rw [List.append_assoc, List.take_append_drop]; exact hall
    have hall2 : ((all ++ rest.take m).length : Int) = ((all.length + m : Nat) : Int) := by rw [List.length_append, hlm]
    have hsl : ((rest.map byteSV).drop ((m : Int)).toNat).take ((rest.map byteSV).length - ((m : Int)).toNat) = (rest.drop m).map byteSV := by
      rw [Int.toNat_natCast, List.take_of_length_le (by rw [List.length_drop]; omega), List.map_drop]
    refine VIf.mk (fun hz => ?_) (fun hnz => ?_)
    · rw [if_pos (by rw [hrem2] at hz; omega)] at hstep
      have hst2 : (H.set id (.box (hcells s (plug p k (rest.take m)) ((all.length + m : Nat) : Int)))).set id (.box (lput (hcells s (plug p k (rest.take m)) ((all.length + m : Nat) : Int)) 0 (blk s (plug p k (rest.take m))).l)) = H.set id (.box (hcells (blk s (plug p k (rest.take m))) (plug p k (rest.take m)) ((all.length + m : Nat) : Int))) := by
        rw [List.set_set]; rfl
      (conv => whnf)
      refine kwp_draw (by kernel_rfl) (by kernel_rfl) (by simp [KH.ok]) ?_
      repeat' (first | (conv => whnf) | skip); (first | (refine kbox_base (hX2 _) ?_) | (refine VReq.mk (by kernel_rfl) ?_) | (refine VReq.mk (by rw [hc100, List.length_drop, hcells_len hpl]; decide) ?_) | (refine VReq.mk (by rw [hc102, List.length_drop, hcells_len hpl]; decide) ?_))
      refine kcall_eq (args' := [.agg s.l, .agg ((plug p k (rest.take m)).map byteSV)]) ?_ ?_
      · show [SV.agg _, SV.agg _] = _
        rw [hc100, hc102]
        refine (congrArg (fun z => [SV.agg _, SV.agg z]) (hcells_p hpl)).trans ?_
        rfl
      refine kcall_pure (block_spec s _ hpl _) (by simp [KH.ok]) ?_
      have hle2 : 0 + (blk s (plug p k (rest.take m))).l.length ≤ (hcells s (plug p k (rest.take m)) ((all.length + m : Nat) : Int)).length := by rw [hcells_len hpl]; exact Nat.le_of_ble_eq_true rfl
      repeat' (first | (conv => whnf) | skip); (first | (refine VReq.mk (cells8 _) ?_) | (refine VReq.mk hc100.symm ?_) | (refine kbox_base (hX2 _) ?_) | (refine VReq.mk hle2 ?_) | (refine kset_base_to (by simp) (by simpa using hid) hst2 ?_) | (refine KEnd.mk ?_))
      exact ⟨⟨blk s (plug p k (rest.take m)), plug p k (rest.take m), all ++ rest.take m, rest.drop m, _⟩, ⟨hstep, hal⟩, by dsimp only; rw [List.length_drop]; omega, tsub_cons rfl (tsub_cons (congrArg (SV.list 1 _) hsl) tsub_nil), by dsimp only; rw [hall2]⟩
    · rw [if_neg (by rw [hrem2] at hnz; omega)] at hstep
      repeat' (first | (conv => whnf) | skip); (first | (refine KEnd.mk ?_))
      exact ⟨⟨s, plug p k (rest.take m), all ++ rest.take m, rest.drop m, _⟩, ⟨hstep, hal⟩, by dsimp only; rw [List.length_drop]; omega, tsub_cons rfl (tsub_cons (congrArg (SV.list 1 _) hsl) tsub_nil), by dsimp only; rw [hall2]⟩
end Go.Vm
