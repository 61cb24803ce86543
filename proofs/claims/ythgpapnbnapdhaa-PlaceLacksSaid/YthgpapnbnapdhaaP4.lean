/- baileyref29.Order: what it computes. (Printed by gen4.py.) -/
import Derived.Test.YthgpapnbnapdhaaP3
set_option linter.unusedVariables false
set_option linter.unusedSimpArgs false
namespace Go.Vm
open Go.Proofs
set_option maxRecDepth 100000
theorem ordK_rk {sum : ByteArray} {k : Nat} (hk : k ≤ 8) {y : RK} (hy : y ∈ ordK sum k) : y.2 = rk sum y.1.val := by
  have := (ordK_perm sum k).mem_iff.1 hy
  simp only [nodesK, List.mem_map, List.mem_range] at this
  obtain ⟨i, hi, rfl⟩ := this
  rw [show (Fin.ofNat 8 i).val = i by simp [Fin.ofNat]; omega]
theorem insK_split {l : List RK} {x : RK} {k : Nat} (hk : k ≤ l.length) (h1 : ∀ j (hj : j < k), sltB x.2 (l[j]'(by omega)).2 = false) (h2 : ∀ (h : k < l.length), sltB x.2 l[k].2 = true) : insK l x = l.take k ++ x :: l.drop k := by
  have hsplit : l = l.take k ++ l.drop k := (List.take_append_drop k l).symm
  have ha : ∀ y, y ∈ l.take k → (!sltB x.2 y.2) = true := fun y hy => by
    obtain ⟨j, hj, rfl⟩ := List.getElem_of_mem hy
    have hjk : j < k := by rw [List.length_take] at hj; omega
    rw [List.getElem_take, h1 j hjk]; rfl
  have e1 : (l.takeWhile fun y => !sltB x.2 y.2) = l.take k := by
    conv => lhs; rw [hsplit]
    rw [List.takeWhile_append_of_pos ha]
    rcases Nat.lt_or_ge k l.length with hlt | hge
    · rw [List.drop_eq_getElem_cons hlt, List.takeWhile_cons, h2 hlt]; simp
    · rw [List.drop_of_length_le hge]; simp
  have e2 : (l.dropWhile fun y => !sltB x.2 y.2) = l.drop k := by
    conv => lhs; rw [hsplit]
    rw [List.dropWhile_append_of_pos ha]
    rcases Nat.lt_or_ge k l.length with hlt | hge
    · rw [List.drop_eq_getElem_cons hlt, List.dropWhile_cons, h2 hlt]; simp
    · rw [List.drop_of_length_le hge]; simp
  rw [insK, e1, e2]
theorem ordN_succ {sum : ByteArray} {i k : Nat} (hi : i < 8) (hk : k ≤ i) (h1 : ∀ j (hj : j < k), sltB (rk sum i) ((ordK sum i)[j]'(by rw [ordK_len]; omega)).2 = false) (h2 : ∀ (h : k < i), sltB (rk sum i) ((ordK sum i)[k]'(by rw [ordK_len]; omega)).2 = true) :
    ordN sum (i + 1) = (ordN sum i).take k ++ [I i] ++ ((ordN sum i).drop k).take ((ordN sum i).length - k) := by
  have e : ordK sum (i + 1) = (ordK sum i).take k ++ (Fin.ofNat 8 i, rk sum i) :: (ordK sum i).drop k := by
    rw [ordK]; exact insK_split (by rw [ordK_len]; omega) h1 fun h => h2 (by rw [ordK_len] at h; exact h)
  rw [List.take_of_length_le (l := (ordN sum i).drop k) (by rw [List.length_drop]; omega)]
  simp only [ordN, e, List.map_append, List.map_cons, List.map_take, List.map_drop, List.append_assoc, List.cons_append, List.nil_append]
  have : ndI (Fin.ofNat 8 i, rk sum i) = I i := by simp only [ndI]; rw [show (Fin.ofNat 8 i).val = i by simp [Fin.ofNat]; omega]
  rw [this]
theorem sle_iff (a b : ByteArray) : (Op.bytesLess a.toList b.toList = true ∨ a = b) ↔ sltB b a = false := by
  rw [ByteArray.toList_eq, ByteArray.toList_eq]
  constructor
  · rintro (h | rfl)
    · cases hh : sltB b a
      · rfl
      · exact absurd (slt_trans (show slt a b from h) (show slt b a from hh)) (slt_irrefl _)
    · exact bl_irrefl _
  · intro h
    rcases slt_tri a b with h1 | h1 | h1
    · exact .inl h1
    · exact .inr h1
    · rw [show sltB b a = true from h1] at h; cases h
theorem belO {n : Nat} (sum : ByteArray) (k : Nat) : ∀ x, x ∈ ordN sum k → SV.Bel n x := belN
theorem ordN_len (sum : ByteArray) (k : Nat) : (ordN sum k).length = k := by rw [ordN, List.length_map, ordK_len]
theorem isI {sum : ByteArray} {k : Nat} : ∀ y, y ∈ ordN sum k → ∃ n : Nat, y = I n := fun y hy => by
  obtain ⟨x, _, rfl⟩ := List.mem_map.1 hy; exact ⟨_, rfl⟩
theorem cellsI {H : List VB} {l : List SV} (h : ∀ y, y ∈ l → ∃ n : Nat, y = I n) : ∀ y, y ∈ l → ∀ c, c ∈ y.cells → svCell H c = true := fun y hy c hc => by
  obtain ⟨n, rfl⟩ := h y hy
  simp only [SV.cells, List.mem_singleton] at hc
  subst hc; rfl
set_option maxHeartbeats 2000000 in
theorem rOrder_spec (sum : ByteArray) (hs : sum.size ≤ 500000) (n : Int) (H : List VB) : VCalls Try.prog 38 [T sum, I n] H (fun r H' => r = .list 1 false (ordN sum (upT n)) ∧ H' = H) := by
  have hc3 : Try.prog.cellsOf 3 = 1 := by kernel_rfl
  have hk7 := upT_le n
  refine kcalls Try.func38 rfl (by kernel_rfl) rfl ?_
  intro R0 h0 hb
  (conv => whnf)
  refine kwp_loop_frz (S := Nat) (h0 ▸ hb) (fun i => [(0, T sum), (1, I n), (5, .list 1 false (ordN sum i)), (6, I i)]) (fun i => ⟨H.length, H, []⟩) (fun i => i ≤ upT n) (fun i => upT n - i) 0 (by omega) (tfrz_keep rfl (.v _) (tfrz_keep rfl (.v _) (tfrz_cons (.nil 1 false) (tfrz_keep rfl (.v _) tfrz_nil)))) ⟨rfl, [], rfl⟩ (fun i hi => ⟨rfl, rfl⟩) (fun i hi => ⟨fun id b hbb => .inl (by rw [h0]; simpa [KH.flat] using hbb), by simp [KH.flat, h0]⟩) ?_
  intro i hi
  have hol := ordN_len sum i
  rcases Nat.lt_or_ge i (upT n) with hlt | hge
  · have hi7 : i < 7 := by omega
    have hin : (i : Int) < n := by unfold upT at hlt; omega
    repeat' (first | (conv => whnf) | skip); (first | (refine VIf.mk (fun _ => ?_) (fun h => absurd hin h)) | (refine VIf.mk (fun _ => ?_) (fun h => absurd (by omega) h)))
    refine kwp_loop (S := Nat) (fun k => [(0, T sum), (1, I n), (5, .list 1 false (ordN sum i)), (6, I i), (7, I k)]) (fun k => ⟨H.length, H, []⟩) (fun k => k ≤ i ∧ ∀ j (hj : j < k) (hji : j < (ordK sum i).length), sltB (rk sum i) (ordK sum i)[j].2 = false) (fun k => i - k) 0 ⟨by omega, fun j hj => by omega⟩ (tsub_cons rfl (tsub_cons rfl (tsub_cons rfl (tsub_cons rfl (tsub_cons rfl tsub_nil))))) rfl (fun k hk => ⟨rfl, rfl⟩) ?_
    rintro k ⟨hk, hpre⟩
    have hfin : ∀ (hstop : ∀ (h : k < i), sltB (rk sum i) ((ordK sum i)[k]'(by rw [ordK_len]; omega)).2 = true), ordN sum (i + 1) = (ordN sum i).take k ++ [I i] ++ ((ordN sum i).drop k).take ((ordN sum i).length - k) := fun hstop => ordN_succ (by omega) hk (fun j hj => hpre j hj (by rw [ordK_len]; omega)) hstop
    have htl : ((ordN sum i).take k).length = k := by rw [List.length_take]; omega
    have hdl : (((ordN sum i).drop k).take ((ordN sum i).length - k)).length = i - k := by rw [List.length_take, List.length_drop]; omega
    rcases Nat.lt_or_ge k i with hki | hki
    · have hkl : k < (ordK sum i).length := by rw [ordK_len]; exact hki
      have hg : (ordN sum i)[((k : Nat) : Int).toNat]? = some (I (((ordK sum i)[k]).1.val : Nat)) := by rw [Int.toNat_natCast, ordN, List.getElem?_map, List.getElem?_eq_getElem hkl]; rfl
      have hrk := ordK_rk (sum := sum) (k := i) (by omega) (List.getElem_mem hkl)
      have hn8 := ((ordK sum i)[k]).1.isLt
      have hnext : sltB (rk sum i) ((ordK sum i)[k]).2 = false → ∀ j (hj : j < k + 1) (hji : j < (ordK sum i).length), sltB (rk sum i) (ordK sum i)[j].2 = false := fun hh j hj hji => by
        rcases Nat.lt_or_ge j k with h | h
        · exact hpre j h hji
        · obtain rfl : j = k := by omega
          exact hh
      repeat' (first | (conv => whnf) | skip); (first | (refine VIf.mk (fun _ => ?_) (fun h => absurd (by rw [hol]; omega) h)) | (refine VReq.mk ⟨hc3.symm, by omega⟩ ?_) | (refine kget_some hg ?_) | (refine kget_some rfl ?_) | (refine kcall_pure (r29rank_spec sum hs _ (by omega) _) rfl ?_) | (refine VReq.mk (by kernel_rfl) ?_))
      (conv => whnf)
      refine VIf.mk (fun hle => ?_) (fun hgt => ?_)
      · rw [sle_iff, ← hrk] at hle
        repeat' (first | (conv => whnf) | skip); (first | (refine KEnd.mk ?_))
        exact ⟨k + 1, ⟨hki, hnext hle⟩, by omega, tsub_cons rfl (tsub_cons rfl (tsub_cons rfl (tsub_cons rfl (tsub_cons (congrArg I (inc64 (by omega))) tsub_nil)))), rfl⟩
      · rw [sle_iff, ← hrk, Bool.not_eq_false] at hgt
        have hnew := hfin fun h => hgt
        (conv => whnf)
        refine kwp_drawInv (by kernel_rfl) (by kernel_rfl)
          (fun S => [(35, bif S 0 then .list 1 false (ordN sum i) else .junk), (36, bif S 1 then I k else .junk), (37, bif S 2 then .list 1 false ((ordN sum i).take k) else .junk), (38, bif S 3 then .slc (H.length + 0) 0 0 ((ordN sum i).take k).length else .junk), (39, bif S 4 then I i else .junk), (40, bif S 5 then .list (Try.prog.cellsOf 3) true [I i] else .junk), (41, bif S 6 then .slc (H.length + 0) 1 0 (((ordN sum i).take k) ++ [I i]).length else .junk), (42, bif S 7 then .list 1 false (ordN sum i) else .junk), (43, bif S 8 then I k else .junk), (44, bif S 9 then .list 1 false (((ordN sum i).drop k).take ((ordN sum i).length - k)) else .junk), (45, bif S 10 then .slc (H.length + 0) 2 0 ((((ordN sum i).take k) ++ [I i]) ++ (((ordN sum i).drop k).take ((ordN sum i).length - k))).length else .junk), (5, bif S 11 then .slc (H.length + 0) 2 0 ((((ordN sum i).take k) ++ [I i]) ++ (((ordN sum i).drop k).take ((ordN sum i).length - k))).length else .list 1 false (ordN sum i)), (0, T sum), (1, I n), (6, I i), (7, I k)])
          (fun S => ⟨H.length, H, bif S 10 then [.row 2 1 ((((ordN sum i).take k) ++ [I i]) ++ (((ordN sum i).drop k).take ((ordN sum i).length - k)))] else bif S 6 then [.row 1 1 (((ordN sum i).take k) ++ [I i])] else bif S 3 then [.row 0 1 ((ordN sum i).take k)] else []⟩)
          (fun S => ⟨rfl, rfl⟩) (tsub_cons rfl (tsub_cons rfl (tsub_cons rfl (tsub_cons rfl (tsub_cons rfl (tsub_cons rfl (tsub_cons rfl (tsub_cons rfl (tsub_cons rfl (tsub_cons rfl (tsub_cons rfl (tsub_cons rfl (tsub_cons rfl (tsub_cons rfl (tsub_cons rfl (tsub_cons rfl tsub_nil)))))))))))))))) rfl ?step ?same ?done
        case step =>
          intro S o_i o hcl hoi hS hd
          have teq : ∀ (d : Nat) (v : SV) (l l' : TM), (∀ t, Nat.beq d t = false → tget l t = tget l' t) → tget l' d = v → TEq ((d, v) :: l) l' := fun d v l l' h1 h2 t => by
            simp only [tget]
            cases hbt : Nat.beq d t
            · exact h1 t hbt
            · obtain rfl := Nat.eq_of_beq_eq_true hbt; exact h2.symm
          rcases o_i with _ | _ | _ | _ | _ | _ | _ | _ | _ | _ | _ | _ | o_i
          · cases hoi
            have f0 : S 0 = false := hS
            have f2 : S 2 = false := by
              cases hh : S 2
              · rfl
              · have := hcl 2 _ rfl hh 0 (by decide)
                rw [f0] at this; cases this
            have f3 : S 3 = false := by
              cases hh : S 3
              · rfl
              · have := hcl 3 _ rfl hh 2 (by decide)
                rw [f2] at this; cases this
            have f6 : S 6 = false := by
              cases hh : S 6
              · rfl
              · have := hcl 6 _ rfl hh 3 (by decide)
                rw [f3] at this; cases this
            have f10 : S 10 = false := by
              cases hh : S 10
              · rfl
              · have := hcl 10 _ rfl hh 6 (by decide)
                rw [f6] at this; cases this
            have f11 : S 11 = false := by
              cases hh : S 11
              · rfl
              · have := hcl 11 _ rfl hh 0 (by decide)
                rw [f0] at this; cases this
            clear hd hS hcl
            dsimp only
            generalize S 0 = s0 at *
            generalize S 1 = s1 at *
            generalize S 2 = s2 at *
            generalize S 3 = s3 at *
            generalize S 4 = s4 at *
            generalize S 5 = s5 at *
            generalize S 6 = s6 at *
            generalize S 7 = s7 at *
            generalize S 8 = s8 at *
            generalize S 9 = s9 at *
            generalize S 10 = s10 at *
            generalize S 11 = s11 at *
            subst f0
            subst f2
            subst f3
            subst f6
            subst f10
            subst f11
            refine .k ?_
            (conv => whnf)
            refine KEnd.mk ⟨teq _ _ _ _ (fun t ht => by simp only [tget, ht, cond_false]; try rfl) rfl, rfl⟩
          · cases hoi
            have f1 : S 1 = false := hS
            have f2 : S 2 = false := by
              cases hh : S 2
              · rfl
              · have := hcl 2 _ rfl hh 1 (by decide)
                rw [f1] at this; cases this
            have f3 : S 3 = false := by
              cases hh : S 3
              · rfl
              · have := hcl 3 _ rfl hh 2 (by decide)
                rw [f2] at this; cases this
            have f6 : S 6 = false := by
              cases hh : S 6
              · rfl
              · have := hcl 6 _ rfl hh 3 (by decide)
                rw [f3] at this; cases this
            have f10 : S 10 = false := by
              cases hh : S 10
              · rfl
              · have := hcl 10 _ rfl hh 6 (by decide)
                rw [f6] at this; cases this
            have f11 : S 11 = false := by
              cases hh : S 11
              · rfl
              · have := hcl 11 _ rfl hh 1 (by decide)
                rw [f1] at this; cases this
            clear hd hS hcl
            dsimp only
            generalize S 0 = s0 at *
            generalize S 1 = s1 at *
            generalize S 2 = s2 at *
            generalize S 3 = s3 at *
            generalize S 4 = s4 at *
            generalize S 5 = s5 at *
            generalize S 6 = s6 at *
            generalize S 7 = s7 at *
            generalize S 8 = s8 at *
            generalize S 9 = s9 at *
            generalize S 10 = s10 at *
            generalize S 11 = s11 at *
            subst f1
            subst f2
            subst f3
            subst f6
            subst f10
            subst f11
            refine .k ?_
            (conv => whnf)
            refine KEnd.mk ⟨teq _ _ _ _ (fun t ht => by simp only [tget, ht, cond_false]; try rfl) rfl, rfl⟩
          · cases hoi
            have e0 : S 0 = true := hd 0 (by decide)
            have e1 : S 1 = true := hd 1 (by decide)
            have f2 : S 2 = false := hS
            have f3 : S 3 = false := by
              cases hh : S 3
              · rfl
              · have := hcl 3 _ rfl hh 2 (by decide)
                rw [f2] at this; cases this
            have f6 : S 6 = false := by
              cases hh : S 6
              · rfl
              · have := hcl 6 _ rfl hh 3 (by decide)
                rw [f3] at this; cases this
            have f10 : S 10 = false := by
              cases hh : S 10
              · rfl
              · have := hcl 10 _ rfl hh 6 (by decide)
                rw [f6] at this; cases this
            have f11 : S 11 = false := by
              cases hh : S 11
              · rfl
              · have := hcl 11 _ rfl hh 10 (by decide)
                rw [f10] at this; cases this
            clear hd hS hcl
            dsimp only
            generalize S 0 = s0 at *
            generalize S 1 = s1 at *
            generalize S 2 = s2 at *
            generalize S 3 = s3 at *
            generalize S 4 = s4 at *
            generalize S 5 = s5 at *
            generalize S 6 = s6 at *
            generalize S 7 = s7 at *
            generalize S 8 = s8 at *
            generalize S 9 = s9 at *
            generalize S 10 = s10 at *
            generalize S 11 = s11 at *
            subst e0
            subst e1
            subst f2
            subst f3
            subst f6
            subst f10
            subst f11
            refine .k ?_
            repeat' (first | (conv => whnf) | skip); (first | (refine VReq.mk hc3.symm ?_) | (refine VReq.mk ⟨by omega, by rw [hol]; omega⟩ ?_))
            refine KEnd.mk ⟨teq _ _ _ _ (fun t ht => by simp only [tget, ht, cond_false]; try rfl) rfl, rfl⟩
          · cases hoi
            have e2 : S 2 = true := hd 2 (by decide)
            have e0 : S 0 = true := hcl 2 _ rfl e2 0 (by decide)
            have e1 : S 1 = true := hcl 2 _ rfl e2 1 (by decide)
            have f3 : S 3 = false := hS
            have f6 : S 6 = false := by
              cases hh : S 6
              · rfl
              · have := hcl 6 _ rfl hh 3 (by decide)
                rw [f3] at this; cases this
            have f10 : S 10 = false := by
              cases hh : S 10
              · rfl
              · have := hcl 10 _ rfl hh 6 (by decide)
                rw [f6] at this; cases this
            have f11 : S 11 = false := by
              cases hh : S 11
              · rfl
              · have := hcl 11 _ rfl hh 10 (by decide)
                rw [f10] at this; cases this
            clear hd hS hcl
            dsimp only
            generalize S 0 = s0 at *
            generalize S 1 = s1 at *
            generalize S 2 = s2 at *
            generalize S 3 = s3 at *
            generalize S 4 = s4 at *
            generalize S 5 = s5 at *
            generalize S 6 = s6 at *
            generalize S 7 = s7 at *
            generalize S 8 = s8 at *
            generalize S 9 = s9 at *
            generalize S 10 = s10 at *
            generalize S 11 = s11 at *
            subst e0
            subst e1
            subst e2
            subst f3
            subst f6
            subst f10
            subst f11
            refine .k ?_
            repeat' (first | (conv => whnf) | skip); (first | (refine kb_append_nil (n := 1) (ys := ((ordN sum i).take k)) rfl (by kernel_rfl) (vsrc_list rfl) (by rw [htl]; omega) ?_))
            refine KEnd.mk ⟨teq _ _ _ _ (fun t ht => by simp only [tget, ht, cond_false]; try rfl) rfl, rfl⟩
          · cases hoi
            have f4 : S 4 = false := hS
            have f5 : S 5 = false := by
              cases hh : S 5
              · rfl
              · have := hcl 5 _ rfl hh 4 (by decide)
                rw [f4] at this; cases this
            have f6 : S 6 = false := by
              cases hh : S 6
              · rfl
              · have := hcl 6 _ rfl hh 5 (by decide)
                rw [f5] at this; cases this
            have f10 : S 10 = false := by
              cases hh : S 10
              · rfl
              · have := hcl 10 _ rfl hh 6 (by decide)
                rw [f6] at this; cases this
            have f11 : S 11 = false := by
              cases hh : S 11
              · rfl
              · have := hcl 11 _ rfl hh 10 (by decide)
                rw [f10] at this; cases this
            clear hd hS hcl
            dsimp only
            generalize S 0 = s0 at *
            generalize S 1 = s1 at *
            generalize S 2 = s2 at *
            generalize S 3 = s3 at *
            generalize S 4 = s4 at *
            generalize S 5 = s5 at *
            generalize S 6 = s6 at *
            generalize S 7 = s7 at *
            generalize S 8 = s8 at *
            generalize S 9 = s9 at *
            generalize S 10 = s10 at *
            generalize S 11 = s11 at *
            subst f4
            subst f5
            subst f6
            subst f10
            subst f11
            refine .k ?_
            (conv => whnf)
            refine KEnd.mk ⟨teq _ _ _ _ (fun t ht => by simp only [tget, ht, cond_false]; try rfl) rfl, rfl⟩
          · cases hoi
            have e4 : S 4 = true := hd 4 (by decide)
            have f5 : S 5 = false := hS
            have f6 : S 6 = false := by
              cases hh : S 6
              · rfl
              · have := hcl 6 _ rfl hh 5 (by decide)
                rw [f5] at this; cases this
            have f10 : S 10 = false := by
              cases hh : S 10
              · rfl
              · have := hcl 10 _ rfl hh 6 (by decide)
                rw [f6] at this; cases this
            have f11 : S 11 = false := by
              cases hh : S 11
              · rfl
              · have := hcl 11 _ rfl hh 10 (by decide)
                rw [f10] at this; cases this
            clear hd hS hcl
            dsimp only
            generalize S 0 = s0 at *
            generalize S 1 = s1 at *
            generalize S 2 = s2 at *
            generalize S 3 = s3 at *
            generalize S 4 = s4 at *
            generalize S 5 = s5 at *
            generalize S 6 = s6 at *
            generalize S 7 = s7 at *
            generalize S 8 = s8 at *
            generalize S 9 = s9 at *
            generalize S 10 = s10 at *
            generalize S 11 = s11 at *
            subst e4
            subst f5
            subst f6
            subst f10
            subst f11
            refine .k ?_
            repeat' (first | (conv => whnf) | skip); (first | (refine VReq.mk ⟨by kernel_rfl, by kernel_rfl⟩ ?_) | (refine VReq.mk (show _ = _ by kernel_rfl) ?_))
            refine KEnd.mk ⟨teq _ _ _ _ (fun t ht => by simp only [tget, ht, cond_false]; try rfl) rfl, rfl⟩
          · cases hoi
            have e3 : S 3 = true := hd 3 (by decide)
            have e5 : S 5 = true := hd 5 (by decide)
            have e2 : S 2 = true := hcl 3 _ rfl e3 2 (by decide)
            have e4 : S 4 = true := hcl 5 _ rfl e5 4 (by decide)
            have e0 : S 0 = true := hcl 2 _ rfl e2 0 (by decide)
            have e1 : S 1 = true := hcl 2 _ rfl e2 1 (by decide)
            have f6 : S 6 = false := hS
            have f10 : S 10 = false := by
              cases hh : S 10
              · rfl
              · have := hcl 10 _ rfl hh 6 (by decide)
                rw [f6] at this; cases this
            have f11 : S 11 = false := by
              cases hh : S 11
              · rfl
              · have := hcl 11 _ rfl hh 10 (by decide)
                rw [f10] at this; cases this
            clear hd hS hcl
            dsimp only
            generalize S 0 = s0 at *
            generalize S 1 = s1 at *
            generalize S 2 = s2 at *
            generalize S 3 = s3 at *
            generalize S 4 = s4 at *
            generalize S 5 = s5 at *
            generalize S 6 = s6 at *
            generalize S 7 = s7 at *
            generalize S 8 = s8 at *
            generalize S 9 = s9 at *
            generalize S 10 = s10 at *
            generalize S 11 = s11 at *
            subst e0
            subst e1
            subst e2
            subst e3
            subst e4
            subst e5
            subst f6
            subst f10
            subst f11
            refine .k ?_
            repeat' (first | (conv => whnf) | skip); (first | (refine kb_append_top (j := 0) (n := 1) (ys := [I i]) rfl (by kernel_rfl) rfl rfl (vsrc_list hc3) (by rw [htl]; simp only [List.length_cons, List.length_nil]; omega) (cellsI (by intro y hy; rw [List.mem_singleton] at hy; exact ⟨_, hy⟩)) ?_))
            refine KEnd.mk ⟨teq _ _ _ _ (fun t ht => by simp only [tget, ht, cond_false]; try rfl) rfl, rfl⟩
          · cases hoi
            have f7 : S 7 = false := hS
            have f9 : S 9 = false := by
              cases hh : S 9
              · rfl
              · have := hcl 9 _ rfl hh 7 (by decide)
                rw [f7] at this; cases this
            have f10 : S 10 = false := by
              cases hh : S 10
              · rfl
              · have := hcl 10 _ rfl hh 9 (by decide)
                rw [f9] at this; cases this
            have f11 : S 11 = false := by
              cases hh : S 11
              · rfl
              · have := hcl 11 _ rfl hh 9 (by decide)
                rw [f9] at this; cases this
            clear hd hS hcl
            dsimp only
            generalize S 0 = s0 at *
            generalize S 1 = s1 at *
            generalize S 2 = s2 at *
            generalize S 3 = s3 at *
            generalize S 4 = s4 at *
            generalize S 5 = s5 at *
            generalize S 6 = s6 at *
            generalize S 7 = s7 at *
            generalize S 8 = s8 at *
            generalize S 9 = s9 at *
            generalize S 10 = s10 at *
            generalize S 11 = s11 at *
            subst f7
            subst f9
            subst f10
            subst f11
            refine .k ?_
            (conv => whnf)
            refine KEnd.mk ⟨teq _ _ _ _ (fun t ht => by simp only [tget, ht, cond_false]; try rfl) rfl, rfl⟩
          · cases hoi
            have f8 : S 8 = false := hS
            have f9 : S 9 = false := by
              cases hh : S 9
              · rfl
              · have := hcl 9 _ rfl hh 8 (by decide)
                rw [f8] at this; cases this
            have f10 : S 10 = false := by
              cases hh : S 10
              · rfl
              · have := hcl 10 _ rfl hh 9 (by decide)
                rw [f9] at this; cases this
            have f11 : S 11 = false := by
              cases hh : S 11
              · rfl
              · have := hcl 11 _ rfl hh 8 (by decide)
                rw [f8] at this; cases this
            clear hd hS hcl
            dsimp only
            generalize S 0 = s0 at *
            generalize S 1 = s1 at *
            generalize S 2 = s2 at *
            generalize S 3 = s3 at *
            generalize S 4 = s4 at *
            generalize S 5 = s5 at *
            generalize S 6 = s6 at *
            generalize S 7 = s7 at *
            generalize S 8 = s8 at *
            generalize S 9 = s9 at *
            generalize S 10 = s10 at *
            generalize S 11 = s11 at *
            subst f8
            subst f9
            subst f10
            subst f11
            refine .k ?_
            (conv => whnf)
            refine KEnd.mk ⟨teq _ _ _ _ (fun t ht => by simp only [tget, ht, cond_false]; try rfl) rfl, rfl⟩
          · cases hoi
            have e7 : S 7 = true := hd 7 (by decide)
            have e8 : S 8 = true := hd 8 (by decide)
            have f9 : S 9 = false := hS
            have f10 : S 10 = false := by
              cases hh : S 10
              · rfl
              · have := hcl 10 _ rfl hh 9 (by decide)
                rw [f9] at this; cases this
            have f11 : S 11 = false := by
              cases hh : S 11
              · rfl
              · have := hcl 11 _ rfl hh 9 (by decide)
                rw [f9] at this; cases this
            clear hd hS hcl
            dsimp only
            generalize S 0 = s0 at *
            generalize S 1 = s1 at *
            generalize S 2 = s2 at *
            generalize S 3 = s3 at *
            generalize S 4 = s4 at *
            generalize S 5 = s5 at *
            generalize S 6 = s6 at *
            generalize S 7 = s7 at *
            generalize S 8 = s8 at *
            generalize S 9 = s9 at *
            generalize S 10 = s10 at *
            generalize S 11 = s11 at *
            subst e7
            subst e8
            subst f9
            subst f10
            subst f11
            refine .k ?_
            repeat' (first | (conv => whnf) | skip); (first | (refine VReq.mk hc3.symm ?_) | (refine VReq.mk (Nat.le_refl _) ?_) | (refine VReq.mk ⟨by omega, by rw [hol]; omega⟩ ?_))
            refine KEnd.mk ⟨teq _ _ _ _ (fun t ht => by simp only [tget, ht, cond_false]; try rfl) rfl, rfl⟩
          · cases hoi
            have e6 : S 6 = true := hd 6 (by decide)
            have e9 : S 9 = true := hd 9 (by decide)
            have e3 : S 3 = true := hcl 6 _ rfl e6 3 (by decide)
            have e5 : S 5 = true := hcl 6 _ rfl e6 5 (by decide)
            have e7 : S 7 = true := hcl 9 _ rfl e9 7 (by decide)
            have e8 : S 8 = true := hcl 9 _ rfl e9 8 (by decide)
            have e2 : S 2 = true := hcl 3 _ rfl e3 2 (by decide)
            have e4 : S 4 = true := hcl 5 _ rfl e5 4 (by decide)
            have e0 : S 0 = true := hcl 2 _ rfl e2 0 (by decide)
            have e1 : S 1 = true := hcl 2 _ rfl e2 1 (by decide)
            have f10 : S 10 = false := hS
            have f11 : S 11 = false := by
              cases hh : S 11
              · rfl
              · have := hcl 11 _ rfl hh 10 (by decide)
                rw [f10] at this; cases this
            clear hd hS hcl
            dsimp only
            generalize S 0 = s0 at *
            generalize S 1 = s1 at *
            generalize S 2 = s2 at *
            generalize S 3 = s3 at *
            generalize S 4 = s4 at *
            generalize S 5 = s5 at *
            generalize S 6 = s6 at *
            generalize S 7 = s7 at *
            generalize S 8 = s8 at *
            generalize S 9 = s9 at *
            generalize S 10 = s10 at *
            generalize S 11 = s11 at *
            subst e0
            subst e1
            subst e2
            subst e3
            subst e4
            subst e5
            subst e6
            subst e7
            subst e8
            subst e9
            subst f10
            subst f11
            refine .k ?_
            repeat' (first | (conv => whnf) | skip); (first | (refine kb_append_top (j := 0) (n := 1) (ys := (((ordN sum i).drop k).take ((ordN sum i).length - k))) rfl (by kernel_rfl) rfl rfl (vsrc_list rfl) (by rw [List.length_append, htl, hdl]; simp only [List.length_cons, List.length_nil]; omega) (cellsI fun y hy => isI y (List.mem_of_mem_drop (List.mem_of_mem_take hy))) ?_))
            refine KEnd.mk ⟨teq _ _ _ _ (fun t ht => by simp only [tget, ht, cond_false]; try rfl) rfl, rfl⟩
          · cases hoi
            have e0 : S 0 = true := hd 0 (by decide)
            have e1 : S 1 = true := hd 1 (by decide)
            have e2 : S 2 = true := hd 2 (by decide)
            have e3 : S 3 = true := hd 3 (by decide)
            have e4 : S 4 = true := hd 4 (by decide)
            have e5 : S 5 = true := hd 5 (by decide)
            have e6 : S 6 = true := hd 6 (by decide)
            have e7 : S 7 = true := hd 7 (by decide)
            have e8 : S 8 = true := hd 8 (by decide)
            have e9 : S 9 = true := hd 9 (by decide)
            have e10 : S 10 = true := hd 10 (by decide)
            have f11 : S 11 = false := hS
            clear hd hS hcl
            dsimp only
            generalize S 0 = s0 at *
            generalize S 1 = s1 at *
            generalize S 2 = s2 at *
            generalize S 3 = s3 at *
            generalize S 4 = s4 at *
            generalize S 5 = s5 at *
            generalize S 6 = s6 at *
            generalize S 7 = s7 at *
            generalize S 8 = s8 at *
            generalize S 9 = s9 at *
            generalize S 10 = s10 at *
            generalize S 11 = s11 at *
            subst e0
            subst e1
            subst e2
            subst e3
            subst e4
            subst e5
            subst e6
            subst e7
            subst e8
            subst e9
            subst e10
            subst f11
            refine .k ?_
            (conv => whnf)
            refine KEnd.mk ⟨teq _ _ _ _ (fun t ht => by simp only [tget, ht, cond_false]; try rfl) rfl, rfl⟩
          · simp at hoi
        case same =>
          intro S hall
          have e0 : S 0 = true := hall 0 (by decide)
          have e1 : S 1 = true := hall 1 (by decide)
          have e2 : S 2 = true := hall 2 (by decide)
          have e3 : S 3 = true := hall 3 (by decide)
          have e4 : S 4 = true := hall 4 (by decide)
          have e5 : S 5 = true := hall 5 (by decide)
          have e6 : S 6 = true := hall 6 (by decide)
          have e7 : S 7 = true := hall 7 (by decide)
          have e8 : S 8 = true := hall 8 (by decide)
          have e9 : S 9 = true := hall 9 (by decide)
          have e10 : S 10 = true := hall 10 (by decide)
          have e11 : S 11 = true := hall 11 (by decide)
          exact ⟨by simp only [e0, e1, e2, e3, e4, e5, e6, e7, e8, e9, e10, e11], by simp only [e0, e1, e2, e3, e4, e5, e6, e7, e8, e9, e10, e11]⟩
        case done =>
          repeat' (first | (conv => whnf) | skip); (first | (refine KEnd.mk ?_))
          refine ⟨i + 1, hlt, by omega, tfrz_keep rfl (.v _) (tfrz_keep rfl (.v _) (tfrz_cons ?_ (tfrz_keep (congrArg I (inc64 (by omega))) (.v _) tfrz_nil))), rfl, [.row 2 1 ((((ordN sum i).take k) ++ [I i]) ++ (((ordN sum i).drop k).take ((ordN sum i).length - k)))], rfl⟩
          rw [hnew]
          exact frz_row (by simp [KH.flat]) (flat_get_top (n0 := H.length) rfl 0) rfl (hnew ▸ belO sum _)
    · obtain rfl : k = i := by omega
      have hnew := hfin fun h => absurd h (by omega)
      repeat' (first | (conv => whnf) | skip); (first | (refine VIf.mk (fun h => absurd h (by rw [hol]; omega)) (fun _ => ?_)))
      refine kwp_drawInv (by kernel_rfl) (by kernel_rfl)
        (fun S => [(35, bif S 0 then .list 1 false (ordN sum k) else .junk), (36, bif S 1 then I k else .junk), (37, bif S 2 then .list 1 false ((ordN sum k).take k) else .junk), (38, bif S 3 then .slc (H.length + 0) 0 0 ((ordN sum k).take k).length else .junk), (39, bif S 4 then I k else .junk), (40, bif S 5 then .list (Try.prog.cellsOf 3) true [I k] else .junk), (41, bif S 6 then .slc (H.length + 0) 1 0 (((ordN sum k).take k) ++ [I k]).length else .junk), (42, bif S 7 then .list 1 false (ordN sum k) else .junk), (43, bif S 8 then I k else .junk), (44, bif S 9 then .list 1 false (((ordN sum k).drop k).take ((ordN sum k).length - k)) else .junk), (45, bif S 10 then .slc (H.length + 0) 2 0 ((((ordN sum k).take k) ++ [I k]) ++ (((ordN sum k).drop k).take ((ordN sum k).length - k))).length else .junk), (5, bif S 11 then .slc (H.length + 0) 2 0 ((((ordN sum k).take k) ++ [I k]) ++ (((ordN sum k).drop k).take ((ordN sum k).length - k))).length else .list 1 false (ordN sum k)), (0, T sum), (1, I n), (6, I k), (7, I k)])
        (fun S => ⟨H.length, H, bif S 10 then [.row 2 1 ((((ordN sum k).take k) ++ [I k]) ++ (((ordN sum k).drop k).take ((ordN sum k).length - k)))] else bif S 6 then [.row 1 1 (((ordN sum k).take k) ++ [I k])] else bif S 3 then [.row 0 1 ((ordN sum k).take k)] else []⟩)
        (fun S => ⟨rfl, rfl⟩) (tsub_cons rfl (tsub_cons rfl (tsub_cons rfl (tsub_cons rfl (tsub_cons rfl (tsub_cons rfl (tsub_cons rfl (tsub_cons rfl (tsub_cons rfl (tsub_cons rfl (tsub_cons rfl (tsub_cons rfl (tsub_cons rfl (tsub_cons rfl (tsub_cons rfl (tsub_cons rfl tsub_nil)))))))))))))))) rfl ?step ?same ?done
      case step =>
        intro S o_i o hcl hoi hS hd
        have teq : ∀ (d : Nat) (v : SV) (l l' : TM), (∀ t, Nat.beq d t = false → tget l t = tget l' t) → tget l' d = v → TEq ((d, v) :: l) l' := fun d v l l' h1 h2 t => by
          simp only [tget]
          cases hbt : Nat.beq d t
          · exact h1 t hbt
          · obtain rfl := Nat.eq_of_beq_eq_true hbt; exact h2.symm
        rcases o_i with _ | _ | _ | _ | _ | _ | _ | _ | _ | _ | _ | _ | o_i
        · cases hoi
          have f0 : S 0 = false := hS
          have f2 : S 2 = false := by
            cases hh : S 2
            · rfl
            · have := hcl 2 _ rfl hh 0 (by decide)
              rw [f0] at this; cases this
          have f3 : S 3 = false := by
            cases hh : S 3
            · rfl
            · have := hcl 3 _ rfl hh 2 (by decide)
              rw [f2] at this; cases this
          have f6 : S 6 = false := by
            cases hh : S 6
            · rfl
            · have := hcl 6 _ rfl hh 3 (by decide)
              rw [f3] at this; cases this
          have f10 : S 10 = false := by
            cases hh : S 10
            · rfl
            · have := hcl 10 _ rfl hh 6 (by decide)
              rw [f6] at this; cases this
          have f11 : S 11 = false := by
            cases hh : S 11
            · rfl
            · have := hcl 11 _ rfl hh 0 (by decide)
              rw [f0] at this; cases this
          clear hd hS hcl
          dsimp only
          generalize S 0 = s0 at *
          generalize S 1 = s1 at *
          generalize S 2 = s2 at *
          generalize S 3 = s3 at *
          generalize S 4 = s4 at *
          generalize S 5 = s5 at *
          generalize S 6 = s6 at *
          generalize S 7 = s7 at *
          generalize S 8 = s8 at *
          generalize S 9 = s9 at *
          generalize S 10 = s10 at *
          generalize S 11 = s11 at *
          subst f0
          subst f2
          subst f3
          subst f6
          subst f10
          subst f11
          refine .k ?_
          (conv => whnf)
          refine KEnd.mk ⟨teq _ _ _ _ (fun t ht => by simp only [tget, ht, cond_false]; try rfl) rfl, rfl⟩
        · cases hoi
          have f1 : S 1 = false := hS
          have f2 : S 2 = false := by
            cases hh : S 2
            · rfl
            · have := hcl 2 _ rfl hh 1 (by decide)
              rw [f1] at this; cases this
          have f3 : S 3 = false := by
            cases hh : S 3
            · rfl
            · have := hcl 3 _ rfl hh 2 (by decide)
              rw [f2] at this; cases this
          have f6 : S 6 = false := by
            cases hh : S 6
            · rfl
            · have := hcl 6 _ rfl hh 3 (by decide)
              rw [f3] at this; cases this
          have f10 : S 10 = false := by
            cases hh : S 10
            · rfl
            · have := hcl 10 _ rfl hh 6 (by decide)
              rw [f6] at this; cases this
          have f11 : S 11 = false := by
            cases hh : S 11
            · rfl
            · have := hcl 11 _ rfl hh 1 (by decide)
              rw [f1] at this; cases this
          clear hd hS hcl
          dsimp only
          generalize S 0 = s0 at *
          generalize S 1 = s1 at *
          generalize S 2 = s2 at *
          generalize S 3 = s3 at *
          generalize S 4 = s4 at *
          generalize S 5 = s5 at *
          generalize S 6 = s6 at *
          generalize S 7 = s7 at *
          generalize S 8 = s8 at *
          generalize S 9 = s9 at *
          generalize S 10 = s10 at *
          generalize S 11 = s11 at *
          subst f1
          subst f2
          subst f3
          subst f6
          subst f10
          subst f11
          refine .k ?_
          (conv => whnf)
          refine KEnd.mk ⟨teq _ _ _ _ (fun t ht => by simp only [tget, ht, cond_false]; try rfl) rfl, rfl⟩
        · cases hoi
          have e0 : S 0 = true := hd 0 (by decide)
          have e1 : S 1 = true := hd 1 (by decide)
          have f2 : S 2 = false := hS
          have f3 : S 3 = false := by
            cases hh : S 3
            · rfl
            · have := hcl 3 _ rfl hh 2 (by decide)
              rw [f2] at this; cases this
          have f6 : S 6 = false := by
            cases hh : S 6
            · rfl
            · have := hcl 6 _ rfl hh 3 (by decide)
              rw [f3] at this; cases this
          have f10 : S 10 = false := by
            cases hh : S 10
            · rfl
            · have := hcl 10 _ rfl hh 6 (by decide)
              rw [f6] at this; cases this
          have f11 : S 11 = false := by
            cases hh : S 11
            · rfl
            · have := hcl 11 _ rfl hh 10 (by decide)
              rw [f10] at this; cases this
          clear hd hS hcl
          dsimp only
          generalize S 0 = s0 at *
          generalize S 1 = s1 at *
          generalize S 2 = s2 at *
          generalize S 3 = s3 at *
          generalize S 4 = s4 at *
          generalize S 5 = s5 at *
          generalize S 6 = s6 at *
          generalize S 7 = s7 at *
          generalize S 8 = s8 at *
          generalize S 9 = s9 at *
          generalize S 10 = s10 at *
          generalize S 11 = s11 at *
          subst e0
          subst e1
          subst f2
          subst f3
          subst f6
          subst f10
          subst f11
          refine .k ?_
          repeat' (first | (conv => whnf) | skip); (first | (refine VReq.mk hc3.symm ?_) | (refine VReq.mk ⟨by omega, by rw [hol]; omega⟩ ?_))
          refine KEnd.mk ⟨teq _ _ _ _ (fun t ht => by simp only [tget, ht, cond_false]; try rfl) rfl, rfl⟩
        · cases hoi
          have e2 : S 2 = true := hd 2 (by decide)
          have e0 : S 0 = true := hcl 2 _ rfl e2 0 (by decide)
          have e1 : S 1 = true := hcl 2 _ rfl e2 1 (by decide)
          have f3 : S 3 = false := hS
          have f6 : S 6 = false := by
            cases hh : S 6
            · rfl
            · have := hcl 6 _ rfl hh 3 (by decide)
              rw [f3] at this; cases this
          have f10 : S 10 = false := by
            cases hh : S 10
            · rfl
            · have := hcl 10 _ rfl hh 6 (by decide)
              rw [f6] at this; cases this
          have f11 : S 11 = false := by
            cases hh : S 11
            · rfl
            · have := hcl 11 _ rfl hh 10 (by decide)
              rw [f10] at this; cases this
          clear hd hS hcl
          dsimp only
          generalize S 0 = s0 at *
          generalize S 1 = s1 at *
          generalize S 2 = s2 at *
          generalize S 3 = s3 at *
          generalize S 4 = s4 at *
          generalize S 5 = s5 at *
          generalize S 6 = s6 at *
          generalize S 7 = s7 at *
          generalize S 8 = s8 at *
          generalize S 9 = s9 at *
          generalize S 10 = s10 at *
          generalize S 11 = s11 at *
          subst e0
          subst e1
          subst e2
          subst f3
          subst f6
          subst f10
          subst f11
          refine .k ?_
          repeat' (first | (conv => whnf) | skip); (first | (refine kb_append_nil (n := 1) (ys := ((ordN sum k).take k)) rfl (by kernel_rfl) (vsrc_list rfl) (by rw [htl]; omega) ?_))
          refine KEnd.mk ⟨teq _ _ _ _ (fun t ht => by simp only [tget, ht, cond_false]; try rfl) rfl, rfl⟩
        · cases hoi
          have f4 : S 4 = false := hS
          have f5 : S 5 = false := by
            cases hh : S 5
            · rfl
            · have := hcl 5 _ rfl hh 4 (by decide)
              rw [f4] at this; cases this
          have f6 : S 6 = false := by
            cases hh : S 6
            · rfl
            · have := hcl 6 _ rfl hh 5 (by decide)
              rw [f5] at this; cases this
          have f10 : S 10 = false := by
            cases hh : S 10
            · rfl
            · have := hcl 10 _ rfl hh 6 (by decide)
              rw [f6] at this; cases this
          have f11 : S 11 = false := by
            cases hh : S 11
            · rfl
            · have := hcl 11 _ rfl hh 10 (by decide)
              rw [f10] at this; cases this
          clear hd hS hcl
          dsimp only
          generalize S 0 = s0 at *
          generalize S 1 = s1 at *
          generalize S 2 = s2 at *
          generalize S 3 = s3 at *
          generalize S 4 = s4 at *
          generalize S 5 = s5 at *
          generalize S 6 = s6 at *
          generalize S 7 = s7 at *
          generalize S 8 = s8 at *
          generalize S 9 = s9 at *
          generalize S 10 = s10 at *
          generalize S 11 = s11 at *
          subst f4
          subst f5
          subst f6
          subst f10
          subst f11
          refine .k ?_
          (conv => whnf)
          refine KEnd.mk ⟨teq _ _ _ _ (fun t ht => by simp only [tget, ht, cond_false]; try rfl) rfl, rfl⟩
        · cases hoi
          have e4 : S 4 = true := hd 4 (by decide)
          have f5 : S 5 = false := hS
          have f6 : S 6 = false := by
            cases hh : S 6
            · rfl
            · have := hcl 6 _ rfl hh 5 (by decide)
              rw [f5] at this; cases this
          have f10 : S 10 = false := by
            cases hh : S 10
            · rfl
            · have := hcl 10 _ rfl hh 6 (by decide)
              rw [f6] at this; cases this
          have f11 : S 11 = false := by
            cases hh : S 11
            · rfl
            · have := hcl 11 _ rfl hh 10 (by decide)
              rw [f10] at this; cases this
          clear hd hS hcl
          dsimp only
          generalize S 0 = s0 at *
          generalize S 1 = s1 at *
          generalize S 2 = s2 at *
          generalize S 3 = s3 at *
          generalize S 4 = s4 at *
          generalize S 5 = s5 at *
          generalize S 6 = s6 at *
          generalize S 7 = s7 at *
          generalize S 8 = s8 at *
          generalize S 9 = s9 at *
          generalize S 10 = s10 at *
          generalize S 11 = s11 at *
          subst e4
          subst f5
          subst f6
          subst f10
          subst f11
          refine .k ?_
          repeat' (first | (conv => whnf) | skip); (first | (refine VReq.mk ⟨by kernel_rfl, by kernel_rfl⟩ ?_) | (refine VReq.mk (show _ = _ by kernel_rfl) ?_))
          refine KEnd.mk ⟨teq _ _ _ _ (fun t ht => by simp only [tget, ht, cond_false]; try rfl) rfl, rfl⟩
        · cases hoi
          have e3 : S 3 = true := hd 3 (by decide)
          have e5 : S 5 = true := hd 5 (by decide)
          have e2 : S 2 = true := hcl 3 _ rfl e3 2 (by decide)
          have e4 : S 4 = true := hcl 5 _ rfl e5 4 (by decide)
          have e0 : S 0 = true := hcl 2 _ rfl e2 0 (by decide)
          have e1 : S 1 = true := hcl 2 _ rfl e2 1 (by decide)
          have f6 : S 6 = false := hS
          have f10 : S 10 = false := by
            cases hh : S 10
            · rfl
            · have := hcl 10 _ rfl hh 6 (by decide)
              rw [f6] at this; cases this
          have f11 : S 11 = false := by
            cases hh : S 11
            · rfl
            · have := hcl 11 _ rfl hh 10 (by decide)
              rw [f10] at this; cases this
          clear hd hS hcl
          dsimp only
          generalize S 0 = s0 at *
          generalize S 1 = s1 at *
          generalize S 2 = s2 at *
          generalize S 3 = s3 at *
          generalize S 4 = s4 at *
          generalize S 5 = s5 at *
          generalize S 6 = s6 at *
          generalize S 7 = s7 at *
          generalize S 8 = s8 at *
          generalize S 9 = s9 at *
          generalize S 10 = s10 at *
          generalize S 11 = s11 at *
          subst e0
          subst e1
          subst e2
          subst e3
          subst e4
          subst e5
          subst f6
          subst f10
          subst f11
          refine .k ?_
          repeat' (first | (conv => whnf) | skip); (first | (refine kb_append_top (j := 0) (n := 1) (ys := [I k]) rfl (by kernel_rfl) rfl rfl (vsrc_list hc3) (by rw [htl]; simp only [List.length_cons, List.length_nil]; omega) (cellsI (by intro y hy; rw [List.mem_singleton] at hy; exact ⟨_, hy⟩)) ?_))
          refine KEnd.mk ⟨teq _ _ _ _ (fun t ht => by simp only [tget, ht, cond_false]; try rfl) rfl, rfl⟩
        · cases hoi
          have f7 : S 7 = false := hS
          have f9 : S 9 = false := by
            cases hh : S 9
            · rfl
            · have := hcl 9 _ rfl hh 7 (by decide)
              rw [f7] at this; cases this
          have f10 : S 10 = false := by
            cases hh : S 10
            · rfl
            · have := hcl 10 _ rfl hh 9 (by decide)
              rw [f9] at this; cases this
          have f11 : S 11 = false := by
            cases hh : S 11
            · rfl
            · have := hcl 11 _ rfl hh 9 (by decide)
              rw [f9] at this; cases this
          clear hd hS hcl
          dsimp only
          generalize S 0 = s0 at *
          generalize S 1 = s1 at *
          generalize S 2 = s2 at *
          generalize S 3 = s3 at *
          generalize S 4 = s4 at *
          generalize S 5 = s5 at *
          generalize S 6 = s6 at *
          generalize S 7 = s7 at *
          generalize S 8 = s8 at *
          generalize S 9 = s9 at *
          generalize S 10 = s10 at *
          generalize S 11 = s11 at *
          subst f7
          subst f9
          subst f10
          subst f11
          refine .k ?_
          (conv => whnf)
          refine KEnd.mk ⟨teq _ _ _ _ (fun t ht => by simp only [tget, ht, cond_false]; try rfl) rfl, rfl⟩
        · cases hoi
          have f8 : S 8 = false := hS
          have f9 : S 9 = false := by
            cases hh : S 9
            · rfl
            · have := hcl 9 _ rfl hh 8 (by decide)
              rw [f8] at this; cases this
          have f10 : S 10 = false := by
            cases hh : S 10
            · rfl
            · have := hcl 10 _ rfl hh 9 (by decide)
              rw [f9] at this; cases this
          have f11 : S 11 = false := by
            cases hh : S 11
            · rfl
            · have := hcl 11 _ rfl hh 8 (by decide)
              rw [f8] at this; cases this
          clear hd hS hcl
          dsimp only
          generalize S 0 = s0 at *
          generalize S 1 = s1 at *
          generalize S 2 = s2 at *
          generalize S 3 = s3 at *
          generalize S 4 = s4 at *
          generalize S 5 = s5 at *
          generalize S 6 = s6 at *
          generalize S 7 = s7 at *
          generalize S 8 = s8 at *
          generalize S 9 = s9 at *
          generalize S 10 = s10 at *
          generalize S 11 = s11 at *
          subst f8
          subst f9
          subst f10
          subst f11
          refine .k ?_
          (conv => whnf)
          refine KEnd.mk ⟨teq _ _ _ _ (fun t ht => by simp only [tget, ht, cond_false]; try rfl) rfl, rfl⟩
        · cases hoi
          have e7 : S 7 = true := hd 7 (by decide)
          have e8 : S 8 = true := hd 8 (by decide)
          have f9 : S 9 = false := hS
          have f10 : S 10 = false := by
            cases hh : S 10
            · rfl
            · have := hcl 10 _ rfl hh 9 (by decide)
              rw [f9] at this; cases this
          have f11 : S 11 = false := by
            cases hh : S 11
            · rfl
            · have := hcl 11 _ rfl hh 9 (by decide)
              rw [f9] at this; cases this
          clear hd hS hcl
          dsimp only
          generalize S 0 = s0 at *
          generalize S 1 = s1 at *
          generalize S 2 = s2 at *
          generalize S 3 = s3 at *
          generalize S 4 = s4 at *
          generalize S 5 = s5 at *
          generalize S 6 = s6 at *
          generalize S 7 = s7 at *
          generalize S 8 = s8 at *
          generalize S 9 = s9 at *
          generalize S 10 = s10 at *
          generalize S 11 = s11 at *
          subst e7
          subst e8
          subst f9
          subst f10
          subst f11
          refine .k ?_
          repeat' (first | (conv => whnf) | skip); (first | (refine VReq.mk hc3.symm ?_) | (refine VReq.mk (Nat.le_refl _) ?_) | (refine VReq.mk ⟨by omega, by rw [hol]; omega⟩ ?_))
          refine KEnd.mk ⟨teq _ _ _ _ (fun t ht => by simp only [tget, ht, cond_false]; try rfl) rfl, rfl⟩
        · cases hoi
          have e6 : S 6 = true := hd 6 (by decide)
          have e9 : S 9 = true := hd 9 (by decide)
          have e3 : S 3 = true := hcl 6 _ rfl e6 3 (by decide)
          have e5 : S 5 = true := hcl 6 _ rfl e6 5 (by decide)
          have e7 : S 7 = true := hcl 9 _ rfl e9 7 (by decide)
          have e8 : S 8 = true := hcl 9 _ rfl e9 8 (by decide)
          have e2 : S 2 = true := hcl 3 _ rfl e3 2 (by decide)
          have e4 : S 4 = true := hcl 5 _ rfl e5 4 (by decide)
          have e0 : S 0 = true := hcl 2 _ rfl e2 0 (by decide)
          have e1 : S 1 = true := hcl 2 _ rfl e2 1 (by decide)
          have f10 : S 10 = false := hS
          have f11 : S 11 = false := by
            cases hh : S 11
            · rfl
            · have := hcl 11 _ rfl hh 10 (by decide)
              rw [f10] at this; cases this
          clear hd hS hcl
          dsimp only
          generalize S 0 = s0 at *
          generalize S 1 = s1 at *
          generalize S 2 = s2 at *
          generalize S 3 = s3 at *
          generalize S 4 = s4 at *
          generalize S 5 = s5 at *
          generalize S 6 = s6 at *
          generalize S 7 = s7 at *
          generalize S 8 = s8 at *
          generalize S 9 = s9 at *
          generalize S 10 = s10 at *
          generalize S 11 = s11 at *
          subst e0
          subst e1
          subst e2
          subst e3
          subst e4
          subst e5
          subst e6
          subst e7
          subst e8
          subst e9
          subst f10
          subst f11
          refine .k ?_
          repeat' (first | (conv => whnf) | skip); (first | (refine kb_append_top (j := 0) (n := 1) (ys := (((ordN sum k).drop k).take ((ordN sum k).length - k))) rfl (by kernel_rfl) rfl rfl (vsrc_list rfl) (by rw [List.length_append, htl, hdl]; simp only [List.length_cons, List.length_nil]; omega) (cellsI fun y hy => isI y (List.mem_of_mem_drop (List.mem_of_mem_take hy))) ?_))
          refine KEnd.mk ⟨teq _ _ _ _ (fun t ht => by simp only [tget, ht, cond_false]; try rfl) rfl, rfl⟩
        · cases hoi
          have e0 : S 0 = true := hd 0 (by decide)
          have e1 : S 1 = true := hd 1 (by decide)
          have e2 : S 2 = true := hd 2 (by decide)
          have e3 : S 3 = true := hd 3 (by decide)
          have e4 : S 4 = true := hd 4 (by decide)
          have e5 : S 5 = true := hd 5 (by decide)
          have e6 : S 6 = true := hd 6 (by decide)
          have e7 : S 7 = true := hd 7 (by decide)
          have e8 : S 8 = true := hd 8 (by decide)
          have e9 : S 9 = true := hd 9 (by decide)
          have e10 : S 10 = true := hd 10 (by decide)
          have f11 : S 11 = false := hS
          clear hd hS hcl
          dsimp only
          generalize S 0 = s0 at *
          generalize S 1 = s1 at *
          generalize S 2 = s2 at *
          generalize S 3 = s3 at *
          generalize S 4 = s4 at *
          generalize S 5 = s5 at *
          generalize S 6 = s6 at *
          generalize S 7 = s7 at *
          generalize S 8 = s8 at *
          generalize S 9 = s9 at *
          generalize S 10 = s10 at *
          generalize S 11 = s11 at *
          subst e0
          subst e1
          subst e2
          subst e3
          subst e4
          subst e5
          subst e6
          subst e7
          subst e8
          subst e9
          subst e10
          subst f11
          refine .k ?_
          (conv => whnf)
          refine KEnd.mk ⟨teq _ _ _ _ (fun t ht => by simp only [tget, ht, cond_false]; try rfl) rfl, rfl⟩
        · simp at hoi
      case same =>
        intro S hall
        have e0 : S 0 = true := hall 0 (by decide)
        have e1 : S 1 = true := hall 1 (by decide)
        have e2 : S 2 = true := hall 2 (by decide)
        have e3 : S 3 = true := hall 3 (by decide)
        have e4 : S 4 = true := hall 4 (by decide)
        have e5 : S 5 = true := hall 5 (by decide)
        have e6 : S 6 = true := hall 6 (by decide)
        have e7 : S 7 = true := hall 7 (by decide)
        have e8 : S 8 = true := hall 8 (by decide)
        have e9 : S 9 = true := hall 9 (by decide)
        have e10 : S 10 = true := hall 10 (by decide)
        have e11 : S 11 = true := hall 11 (by decide)
        exact ⟨by simp only [e0, e1, e2, e3, e4, e5, e6, e7, e8, e9, e10, e11], by simp only [e0, e1, e2, e3, e4, e5, e6, e7, e8, e9, e10, e11]⟩
      case done =>
        repeat' (first | (conv => whnf) | skip); (first | (refine KEnd.mk ?_))
        refine ⟨k + 1, hlt, by omega, tfrz_keep rfl (.v _) (tfrz_keep rfl (.v _) (tfrz_cons ?_ (tfrz_keep (congrArg I (inc64 (by omega))) (.v _) tfrz_nil))), rfl, [.row 2 1 ((((ordN sum k).take k) ++ [I k]) ++ (((ordN sum k).drop k).take ((ordN sum k).length - k)))], rfl⟩
        rw [hnew]
        exact frz_row (by simp [KH.flat]) (flat_get_top (n0 := H.length) rfl 0) rfl (hnew ▸ belO sum _)
  · obtain rfl : i = upT n := by omega
    have hno : ¬ ((((upT n : Nat) : Int) < n) ∧ ((upT n : Nat) : Int) < 7) := by unfold upT; omega
    repeat' (first | (conv => whnf) | skip); (first | (refine VIf.mk (fun h1 => ?_) (fun _ => ?_)) | (refine kdone_pure h0 (.list _ _ _ (belO sum _)) ⟨rfl, rfl⟩))
    exact absurd ⟨by assumption, by assumption⟩ hno
end Go.Vm
