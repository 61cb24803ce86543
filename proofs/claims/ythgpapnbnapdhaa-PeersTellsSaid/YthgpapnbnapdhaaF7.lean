/- PeersMeet: the walk and the plain law. -/
import Derived.Test.YthgpapnbnapdhaaF6
set_option linter.unusedVariables false
set_option linter.unusedSimpArgs false
namespace Go.Vm
open Go.Proofs
set_option maxRecDepth 100000
theorem ofInt_wrap (x : BitVec 64) : BitVec.ofInt 64 (IntKind.i64.wrap (x.toNat : Int)) = x := by
  apply BitVec.eq_of_toNat_eq
  rw [BitVec.toNat_ofInt, IntKind.wrap_i64]
  have := x.isLt
  omega
theorem tb_and (a b : Int) (i : Nat) : tb (andI a b) i = (tb a i && tb b i) := by
  unfold tb andI
  show (BitVec.ofInt 64 (IntKind.i64.wrap ((BitVec.ofInt 64 a &&& BitVec.ofInt 64 b).toNat : Int))).getLsbD i = _
  rw [ofInt_wrap, BitVec.getLsbD_and]
theorem tb_xor (a b : Int) (i : Nat) : tb (xorI a b) i = (tb a i ^^ tb b i) := by
  unfold tb xorI
  show (BitVec.ofInt 64 (IntKind.i64.wrap ((BitVec.ofInt 64 a ^^^ BitVec.ofInt 64 b).toNat : Int))).getLsbD i = _
  rw [ofInt_wrap, BitVec.getLsbD_xor]
/-- The sum over the seven. -/
def sm (f : Nat → Nat) : Nat := f 0 + f 1 + f 2 + f 3 + f 4 + f 5 + f 6
theorem sm_le {f g : Nat → Nat} (h : ∀ i, i < 7 → f i ≤ g i) : sm f ≤ sm g := by
  have := h 0 (by omega); have := h 1 (by omega); have := h 2 (by omega); have := h 3 (by omega); have := h 4 (by omega); have := h 5 (by omega); have := h 6 (by omega)
  unfold sm; omega
theorem sm_add (f g : Nat → Nat) : sm (fun i => f i + g i) = sm f + sm g := by unfold sm; dsimp only; omega
theorem cnt_sm (c : Int) : cnt c = sm fun i => (tb c i).toNat := rfl
theorem dif_sm (o c : Int) : dif o c 7 = sm fun i => (tb o i ^^ tb c i).toNat := by simp [dif, sm]
theorem dif_cnt (o c : Int) : cnt (xorI o c) = dif o c 7 := by
  rw [cnt_sm, dif_sm]
  simp only [tb_xor]
theorem meet_law {o c a b : Int} (h1 : quo o a = true) (h2 : quo c b = true) (hd : dif o c 7 ≤ 1) (hn : ∀ i, i < 7 → (tb a i && tb b i) = false) : False := by
  unfold quo at h1 h2
  simp only [Bool.and_eq_true, decide_eq_true_eq] at h1 h2
  have e1 : cnt (andI o a) = sm fun i => (tb o i && tb a i).toNat := by rw [cnt_sm]; simp only [tb_and]
  have e2 : cnt (andI c b) = sm fun i => (tb c i && tb b i).toNat := by rw [cnt_sm]; simp only [tb_and]
  have k1 : ∀ p q r s : Bool, (r && s) = false → (p && r).toNat + (q && s).toNat ≤ p.toNat + (q && !p).toNat := by decide
  have k2 : ∀ p q : Bool, q.toNat + (p && !q).toNat ≤ p.toNat + (q && !p).toNat ∧ p.toNat + (q && !p).toNat ≤ q.toNat + (p && !q).toNat := by decide
  have k3 : ∀ p q : Bool, (p && !q).toNat + (q && !p).toNat ≤ (p ^^ q).toNat := by decide
  have s1 : sm (fun i => (tb o i && tb a i).toNat) + sm (fun i => (tb c i && tb b i).toNat) ≤ sm (fun i => (tb o i).toNat) + sm (fun i => (tb c i && !tb o i).toNat) := by
    rw [← sm_add, ← sm_add]; exact sm_le fun i hi => k1 _ _ _ _ (hn i hi)
  have s2 : sm (fun i => (tb c i).toNat) + sm (fun i => (tb o i && !tb c i).toNat) ≤ sm (fun i => (tb o i).toNat) + sm (fun i => (tb c i && !tb o i).toNat) := by
    rw [← sm_add, ← sm_add]; exact sm_le fun i hi => (k2 _ _).1
  have s2' : sm (fun i => (tb o i).toNat) + sm (fun i => (tb c i && !tb o i).toNat) ≤ sm (fun i => (tb c i).toNat) + sm (fun i => (tb o i && !tb c i).toNat) := by
    rw [← sm_add, ← sm_add]; exact sm_le fun i hi => (k2 _ _).2
  have s3 : sm (fun i => (tb o i && !tb c i).toNat) + sm (fun i => (tb c i && !tb o i).toNat) ≤ sm fun i => (tb o i ^^ tb c i).toNat := by
    rw [← sm_add]; exact sm_le fun i hi => k3 _ _
  rw [dif_sm] at hd
  rw [e1, cnt_sm] at h1
  rw [e2, cnt_sm] at h2
  omega
theorem peersMeet_spec (a0 a1 a2 a3 : Int) : VCalls Try.prog 4 [I a0, I a1, I a2, I a3] [] fun r H' => r = .v (.bool true) := by
  refine VCalls.mono (K := fun r H' => r = B true ∧ H' = []) ?_ fun r H' h => h.1
  refine kcalls Try.func4 rfl (by kernel_rfl) rfl ?_
  intro R0 h0 hb
  have nm : NoMap (KH.flat ⟨([] : List VB).length, [], []⟩) := by intro id es h; simp [KH.flat] at h
  repeat' (first | (conv => whnf) | skip); (first | (refine VIf.mk (fun _ => ?_) (fun _ => ?_)) | (refine VReq.mk (by kernel_rfl) ?_) | (refine kcall_pure (pchange_spec _ _ _) rfl ?_) | (refine kcall_pure (r12change_spec _ _ _) rfl ?_) | (refine kcall_pure (pcheck_spec _ _) rfl ?_) | (refine kcall_bool (pquorum_spec _ _ _) rfl (fun _ => ?_) (fun _ => ?_)) | (refine kcall_pure (awake_spec _ nm) rfl ?_) | (refine kdone_pure h0 (by simp) ⟨?_, rfl⟩))
  · rename_i e h1 h2 q1 q2
    have hd : dif a0 a1 7 ≤ 1 := by rw [h1]; simp [dif]
    conv => whnf
    refine kwp_loop (S := Nat) (fun i => [(0, I a0), (1, I a1), (2, I a2), (3, I a3), (44, I i)]) (fun i => ⟨([] : List VB).length, [], []⟩) (fun i => i ≤ 7 ∧ ∀ k, k < i → (tb a2 k && tb a3 k) = false) (fun i => 7 - i) 0 ⟨by omega, fun k hk => by omega⟩ (tsub_cons rfl (tsub_cons rfl (tsub_cons rfl (tsub_cons rfl (tsub_cons rfl tsub_nil))))) rfl (fun i hi => ⟨rfl, rfl⟩) ?_
    rintro i ⟨hi, hn⟩
    rcases Nat.lt_or_ge i 7 with hlt | hge
    · repeat' (first | (conv => whnf) | skip); (first | (refine VIf.mk (fun _ => ?_) (fun _ => by omega)) | (refine VReq.mk (by kernel_rfl) ?_) | (refine kcall_bool (phas_spec _ _ _) rfl (fun _ => ?_) (fun _ => ?_)) | (refine kcall_pure (awake_spec _ nm) rfl ?_) | (refine kdone_pure h0 (by simp) ⟨?_, rfl⟩) | (refine KEnd.mk ?_))
      · rfl
      · rename_i g1 g2 g3
        rw [mem7_nat hlt] at g2 g3
        exact ⟨i + 1, ⟨by omega, fun k hk => by
          rcases Nat.lt_or_ge k i with h | h
          · exact hn k h
          · obtain rfl : k = i := by omega
            rw [g2, g3]; rfl⟩, by omega, tsub_cons rfl (tsub_cons rfl (tsub_cons rfl (tsub_cons rfl (tsub_cons (congrArg I (inc64 (by omega))) tsub_nil)))), rfl⟩
      · rename_i g1 g2
        rw [mem7_nat hlt] at g2
        exact ⟨i + 1, ⟨by omega, fun k hk => by
          rcases Nat.lt_or_ge k i with h | h
          · exact hn k h
          · obtain rfl : k = i := by omega
            rw [g2]; rfl⟩, by omega, tsub_cons rfl (tsub_cons rfl (tsub_cons rfl (tsub_cons rfl (tsub_cons (congrArg I (inc64 (by omega))) tsub_nil)))), rfl⟩
    · exact (meet_law q1 q2 hd fun k hk => hn k (by omega)).elim
  all_goals try rfl
  · rename_i e h1 h2 h3 q1 q2
    have hd : dif a0 a1 7 ≤ 1 := by
      rw [h2] at e
      rcases Nat.lt_or_ge 1 (dif a0 a1 7) with h | h
      · rw [if_neg (fun h' => by omega)] at e; cases e
      · exact h
    conv => whnf
    refine kwp_loop (S := Nat) (fun i => [(0, I a0), (1, I a1), (2, I a2), (3, I a3), (44, I i)]) (fun i => ⟨([] : List VB).length, [], []⟩) (fun i => i ≤ 7 ∧ ∀ k, k < i → (tb a2 k && tb a3 k) = false) (fun i => 7 - i) 0 ⟨by omega, fun k hk => by omega⟩ (tsub_cons rfl (tsub_cons rfl (tsub_cons rfl (tsub_cons rfl (tsub_cons rfl tsub_nil))))) rfl (fun i hi => ⟨rfl, rfl⟩) ?_
    rintro i ⟨hi, hn⟩
    rcases Nat.lt_or_ge i 7 with hlt | hge
    · repeat' (first | (conv => whnf) | skip); (first | (refine VIf.mk (fun _ => ?_) (fun _ => by omega)) | (refine VReq.mk (by kernel_rfl) ?_) | (refine kcall_bool (phas_spec _ _ _) rfl (fun _ => ?_) (fun _ => ?_)) | (refine kcall_pure (awake_spec _ nm) rfl ?_) | (refine kdone_pure h0 (by simp) ⟨?_, rfl⟩) | (refine KEnd.mk ?_))
      · rfl
      · rename_i g1 g2 g3
        rw [mem7_nat hlt] at g2 g3
        exact ⟨i + 1, ⟨by omega, fun k hk => by
          rcases Nat.lt_or_ge k i with h | h
          · exact hn k h
          · obtain rfl : k = i := by omega
            rw [g2, g3]; rfl⟩, by omega, tsub_cons rfl (tsub_cons rfl (tsub_cons rfl (tsub_cons rfl (tsub_cons (congrArg I (inc64 (by omega))) tsub_nil)))), rfl⟩
      · rename_i g1 g2
        rw [mem7_nat hlt] at g2
        exact ⟨i + 1, ⟨by omega, fun k hk => by
          rcases Nat.lt_or_ge k i with h | h
          · exact hn k h
          · obtain rfl : k = i := by omega
            rw [g2]; rfl⟩, by omega, tsub_cons rfl (tsub_cons rfl (tsub_cons rfl (tsub_cons rfl (tsub_cons (congrArg I (inc64 (by omega))) tsub_nil)))), rfl⟩
    · exact (meet_law q1 q2 hd fun k hk => hn k (by omega)).elim
  all_goals try rfl
  · rename_i h
    exact absurd (by rw [chg, dif_cnt]) h
end Go.Vm
