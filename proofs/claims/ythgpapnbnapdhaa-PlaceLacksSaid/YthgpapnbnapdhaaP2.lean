/- The order of nodes for a piece: the plain law. -/
import Derived.Test.YthgpapnbnapdhaaP1
set_option linter.unusedVariables false
set_option linter.unusedSimpArgs false
namespace Go.Vm
open Go.Proofs
theorem bl_irrefl : ∀ a : List UInt8, Op.bytesLess a a = false
  | [] => rfl
  | a :: us => by simp [Op.bytesLess, bl_irrefl us]
theorem cb_lt : ∀ a b : List UInt8, Lib.compareBytes a b < 0 ↔ Op.bytesLess a b = true
  | [], [] => by simp [Lib.compareBytes, Op.bytesLess]
  | [], _ :: _ => by simp [Lib.compareBytes, Op.bytesLess]
  | _ :: _, [] => by simp [Lib.compareBytes, Op.bytesLess]
  | a :: us, b :: bs => by
    have ih := cb_lt us bs
    simp only [Lib.compareBytes, Op.bytesLess, Bool.or_eq_true, Bool.and_eq_true, decide_eq_true_eq, beq_iff_eq]
    by_cases h1 : a < b
    · simp [h1]
    · by_cases h2 : b < a
      · have hne : a ≠ b := fun h => by subst h; exact h1 h2
        simp [h1, h2, hne]
      · have : a = b := UInt8.le_antisymm (UInt8.not_lt.1 h2) (UInt8.not_lt.1 h1)
        subst this
        simp [h1, ih]
theorem cb_swap : ∀ a b : List UInt8, Lib.compareBytes a b = - Lib.compareBytes b a
  | [], [] => by simp [Lib.compareBytes]
  | [], _ :: _ => by simp [Lib.compareBytes]
  | _ :: _, [] => by simp [Lib.compareBytes]
  | a :: us, b :: bs => by
    have ih := cb_swap us bs
    simp only [Lib.compareBytes]
    by_cases h1 : a < b
    · have h2 : ¬ b < a := UInt8.not_lt.2 (UInt8.le_of_lt h1)
      simp [h1, h2]
    · by_cases h2 : b < a
      · simp [h1, h2]
      · simp [h1, h2, ih]
theorem cb_zero : ∀ a b : List UInt8, Lib.compareBytes a b = 0 → a = b
  | [], [], _ => rfl
  | [], _ :: _, h => by simp [Lib.compareBytes] at h
  | _ :: _, [], h => by simp [Lib.compareBytes] at h
  | a :: us, b :: bs, h => by
    simp only [Lib.compareBytes] at h
    split at h
    · cases h
    · split at h
      · cases h
      · rename_i h1 h2
        have : a = b := UInt8.le_antisymm (UInt8.not_lt.1 h2) (UInt8.not_lt.1 h1)
        rw [this, cb_zero us bs h]
theorem bl_trans : ∀ a b c : List UInt8, Op.bytesLess a b = true → Op.bytesLess b c = true → Op.bytesLess a c = true
  | _, [], _, h, _ => by cases ‹List UInt8› <;> simp [Op.bytesLess] at h
  | _, _ :: _, [], _, h => by simp [Op.bytesLess] at h
  | [], _ :: _, _ :: _, _, _ => rfl
  | a :: us, b :: bs, c :: cs, h1, h2 => by
    simp only [Op.bytesLess, Bool.or_eq_true, Bool.and_eq_true, decide_eq_true_eq, beq_iff_eq] at *
    rcases h1 with h1 | ⟨rfl, h1⟩
    · rcases h2 with h2 | ⟨rfl, h2⟩
      · exact .inl (UInt8.lt_trans h1 h2)
      · exact .inl h1
    · rcases h2 with h2 | ⟨rfl, h2⟩
      · exact .inl h2
      · exact .inr ⟨rfl, bl_trans us bs cs h1 h2⟩
/-- A text stands ahead of another one. -/
def slt (a b : ByteArray) : Prop := Op.bytesLess a.data.toList b.data.toList = true
theorem slt_irrefl (a : ByteArray) : ¬ slt a a := by unfold slt; rw [bl_irrefl]; simp
theorem slt_trans {a b c : ByteArray} (h1 : slt a b) (h2 : slt b c) : slt a c := bl_trans _ _ _ h1 h2
theorem slt_tri (a b : ByteArray) : slt a b ∨ a = b ∨ slt b a := by
  unfold slt
  rw [← cb_lt, ← cb_lt]
  have h1 := cb_swap a.data.toList b.data.toList
  rcases Int.lt_trichotomy (Lib.compareBytes a.data.toList b.data.toList) 0 with h | h | h
  · exact .inl h
  · refine .inr (.inl ?_)
    have := cb_zero _ _ h
    cases a; cases b
    simp only [ByteArray.mk.injEq]
    exact Array.toList_inj.1 this
  · exact .inr (.inr (by omega))
theorem scmp_lt {a b : ByteArray} : scmp a b < 0 ↔ slt a b := cb_lt _ _
/-- A node stands ahead of another one. -/
def klt (x y : RK) : Prop := slt x.2 y.2 ∨ (x.2 = y.2 ∧ x.1.val < y.1.val)
theorem cmpK_lt {x y : RK} : cmpK x y < 0 ↔ klt x y := by
  unfold cmpK klt
  by_cases h : x.2 = y.2
  · rw [if_pos h]
    constructor
    · intro h1; exact .inr ⟨h, by omega⟩
    · rintro (h1 | ⟨_, h1⟩)
      · rw [h] at h1; exact absurd h1 (slt_irrefl _)
      · omega
  · rw [if_neg h, scmp_lt]
    exact ⟨.inl, fun h1 => h1.resolve_right fun h2 => h h2.1⟩
theorem klt_irrefl (x : RK) : ¬ klt x x := by
  rintro (h | ⟨_, h⟩)
  · exact slt_irrefl _ h
  · omega
theorem klt_trans {x y z : RK} (h1 : klt x y) (h2 : klt y z) : klt x z := by
  rcases h1 with h1 | ⟨e1, h1⟩
  · rcases h2 with h2 | ⟨e2, h2⟩
    · exact .inl (slt_trans h1 h2)
    · exact .inl (e2 ▸ h1)
  · rcases h2 with h2 | ⟨e2, h2⟩
    · exact .inl (e1 ▸ h2)
    · exact .inr ⟨e1.trans e2, by omega⟩
theorem klt_tri (x y : RK) : klt x y ∨ x = y ∨ klt y x := by
  rcases slt_tri x.2 y.2 with h | h | h
  · exact .inl (.inl h)
  · rcases Nat.lt_trichotomy x.1.val y.1.val with h1 | h1 | h1
    · exact .inl (.inr ⟨h, h1⟩)
    · exact .inr (.inl (Prod.ext (Fin.ext h1) h))
    · exact .inr (.inr (.inr ⟨h.symm, h1⟩))
  · exact .inr (.inr (.inl h))
theorem cmpK_as (a b : RK) : cmpK a b < 0 → ¬ cmpK b a < 0 := by
  rw [cmpK_lt, cmpK_lt]; exact fun h1 h2 => klt_irrefl _ (klt_trans h1 h2)
theorem cmpK_tr (a b c : RK) : ¬ cmpK a b < 0 → ¬ cmpK b c < 0 → ¬ cmpK a c < 0 := by
  rw [cmpK_lt, cmpK_lt, cmpK_lt]
  intro h1 h2 h3
  rcases klt_tri a b with h | h | h
  · exact h1 h
  · subst h; exact h2 h3
  · rcases klt_tri b c with h' | h' | h'
    · exact h2 h'
    · subst h'; exact h1 h3
    · exact klt_irrefl _ (klt_trans h3 (klt_trans h' h))
/-- What is sorted, and has the same elements, is the same. -/
theorem sorted_uniq : ∀ (l m : List RK), l.Pairwise klt → m.Pairwise klt → l.Perm m → l = m
  | [], m, _, _, h => (List.nil_perm.1 h).symm
  | x :: l, [], _, _, h => absurd h.length_eq (by simp)
  | x :: l, y :: m, hl, hm, h => by
    have e : x = y := by
      have h1 : x ∈ y :: m := h.mem_iff.1 (by simp)
      have h2 : y ∈ x :: l := h.mem_iff.2 (by simp)
      rcases List.mem_cons.1 h1 with h1 | h1
      · exact h1
      · rcases List.mem_cons.1 h2 with h2 | h2
        · exact h2.symm
        · exact absurd (klt_trans (List.rel_of_pairwise_cons hl h2) (List.rel_of_pairwise_cons hm h1)) (klt_irrefl _)
    subst e
    rw [sorted_uniq l m (List.Pairwise.of_cons hl) (List.Pairwise.of_cons hm) ((List.perm_cons x).1 h)]
def sltB (a b : ByteArray) : Bool := Op.bytesLess a.data.toList b.data.toList
/-- One node more, behind all that stand ahead of it. -/
def insK (l : List RK) (x : RK) : List RK := (l.takeWhile fun y => !sltB x.2 y.2) ++ x :: (l.dropWhile fun y => !sltB x.2 y.2)
/-- The nodes below a number in their order, with their ranks. -/
def ordK (sum : ByteArray) : Nat → List RK
  | 0 => []
  | k + 1 => insK (ordK sum k) (Fin.ofNat 8 k, rk sum k)
theorem insK_perm (l : List RK) (x : RK) : (insK l x).Perm (x :: l) := by
  unfold insK
  refine List.perm_middle.trans ?_
  rw [List.takeWhile_append_dropWhile]
theorem insK_sorted {l : List RK} {x : RK} (h : l.Pairwise klt) (hlt : ∀ y, y ∈ l → y.1.val < x.1.val) : (insK l x).Pairwise klt := by
  unfold insK
  have h1 : ∀ y, y ∈ (l.takeWhile fun y => !sltB x.2 y.2) → klt y x := fun y hy => by
    have hb := List.all_eq_true.1 (List.all_takeWhile (p := fun y : RK => !sltB x.2 y.2) (l := l)) y hy
    have hm := (List.takeWhile_prefix _).subset hy
    simp only [Bool.not_eq_true', sltB] at hb
    rcases slt_tri y.2 x.2 with h2 | h2 | h2
    · exact .inl h2
    · exact .inr ⟨h2, hlt y hm⟩
    · unfold slt at h2; rw [hb] at h2; cases h2
  have h2 : ∀ y, y ∈ (l.dropWhile fun y => !sltB x.2 y.2) → klt x y := fun y hy => by
    rcases hd : (l.dropWhile fun y => !sltB x.2 y.2) with _ | ⟨z, r⟩
    · rw [hd] at hy; cases hy
    · have hz : sltB x.2 z.2 = true := by
        have := List.head?_dropWhile_not (fun y : RK => !sltB x.2 y.2) l
        rw [hd] at this
        simpa using this
      have hxz : klt x z := .inl hz
      rw [hd] at hy
      rcases List.mem_cons.1 hy with rfl | hy
      · exact hxz
      · have hs : (z :: r).Pairwise klt := hd ▸ h.sublist (List.dropWhile_sublist _)
        exact klt_trans hxz (List.rel_of_pairwise_cons hs hy)
  rw [List.pairwise_append]
  refine ⟨h.sublist (List.takeWhile_sublist _), List.pairwise_cons.2 ⟨h2, h.sublist (List.dropWhile_sublist _)⟩, fun a ha b hb => ?_⟩
  rcases List.mem_cons.1 hb with rfl | hb
  · exact h1 a ha
  · exact klt_trans (h1 a ha) (h2 b hb)
/-- The nodes below a number. -/
def nodesK (sum : ByteArray) (k : Nat) : List RK := (List.range k).map fun i => (Fin.ofNat 8 i, rk sum i)
theorem ordK_perm (sum : ByteArray) : ∀ k, (ordK sum k).Perm (nodesK sum k)
  | 0 => .refl _
  | k + 1 => by
    rw [ordK, nodesK, List.range_succ, List.map_append]
    refine (insK_perm _ _).trans ?_
    refine ((ordK_perm sum k).cons _).trans ?_
    exact (List.perm_append_singleton _ _).symm
theorem ordK_lt (sum : ByteArray) {k : Nat} (hk : k ≤ 8) {y : RK} (hy : y ∈ ordK sum k) : y.1.val < k := by
  have := (ordK_perm sum k).mem_iff.1 hy
  simp only [nodesK, List.mem_map, List.mem_range] at this
  obtain ⟨i, hi, rfl⟩ := this
  simp [Nat.mod_eq_of_lt (by omega : i < 8)]; omega
theorem ordK_sorted (sum : ByteArray) : ∀ k, k ≤ 8 → (ordK sum k).Pairwise klt
  | 0, _ => .nil
  | k + 1, h => insK_sorted (ordK_sorted sum k (by omega)) fun y hy => by
    have := ordK_lt sum (by omega) hy
    simp [Nat.mod_eq_of_lt (by omega : k < 8)]; omega
theorem ordK_len (sum : ByteArray) (k : Nat) : (ordK sum k).length = k := by rw [(ordK_perm sum k).length_eq]; simp [nodesK]
theorem nodesK_nodup (sum : ByteArray) {k : Nat} (hk : k ≤ 8) : (nodesK sum k).Nodup := by
  refine List.nodup_iff_pairwise_ne.2 ?_
  rw [nodesK, List.pairwise_map]
  refine (List.pairwise_lt_range (n := k)).imp_of_mem fun {a b} ha hb hlt h => ?_
  have h1 := congrArg (fun x : RK => x.1.val) h
  simp only [List.mem_range] at ha hb
  simp [Nat.mod_eq_of_lt (by omega : a < 8), Nat.mod_eq_of_lt (by omega : b < 8)] at h1
  omega
/-- What is sorted by place.order is the order. -/
theorem srt_is {sum : ByteArray} {k : Nat} (hk : k ≤ 8) {ys : List RK} (hp : ys.Perm (nodesK sum k)) (hs : SrtR cmpK ys k k) : ys = ordK sum k := by
  have hlen : ys.length = k := by rw [hp.length_eq]; simp [nodesK]
  refine sorted_uniq _ _ ?_ (ordK_sorted sum k hk) (hp.trans (ordK_perm sum k).symm)
  rw [List.pairwise_iff_getElem]
  intro i j hi hj hij
  have h1 := hs i j hij (by omega) (by omega)
  rw [List.getD_eq_getElem?_getD, List.getD_eq_getElem?_getD, List.getElem?_eq_getElem hi, List.getElem?_eq_getElem hj, Option.getD_some, Option.getD_some, cmpK_lt] at h1
  rcases klt_tri ys[i] ys[j] with h | h | h
  · exact h
  · exfalso
    have hnd := hp.nodup_iff.2 (nodesK_nodup sum hk)
    exact absurd ((List.getElem_inj hnd).1 h) (by omega)
  · exact absurd h h1
end Go.Vm
