/- peers.members: the iterator's contract. -/
import Derived.RangeFuncNested
import Derived.RangeFuncBound
import Derived.RangeFuncCalls
import Derived.RangeFuncLeaves
import Derived.Shelf.Abstract
import Derived.Shelf.RegionOpen
import Derived.WalkKit
import Derived.OwnWalkIn
import Derived.TacticsInMore
import Derived.LoopNIn
import Derived.LoopIn
import Derived.Test.YthgpapnbnapdhaaF2
import Derived.Test.YthgpapnbnapdhaaV23
set_option linter.unusedVariables false
set_option linter.unusedSimpArgs false
namespace Go.Vm
open Go.RowKit Go.Shelf Go.Proofs
abbrev Wd : Fence := WF none
theorem cell_kept {w w' : World} (hg : w.grownBy w' none) {b o : Nat} {v : Value} (h : w.cell? ⟨b, o, none⟩ = some v) : w'.cell? ⟨b, o, none⟩ = some v := by
  have hb : b < w.heap.size := by
    rcases Nat.lt_or_ge b w.heap.size with h1 | h1
    · exact h1
    · simp [World.cell?, Array.getElem?_eq_none h1] at h
  exact (World.cell?_of_block (hg.block b hb (by simp))).trans h
theorem grow0 {w : World} {R' : Env} (e : Ext (env0 w) R') : w.grownBy R'.w none :=
  ⟨e.os, e.tape, e.output, e.size, fun k hk _ => e.keep k hk fun id a h _ => by obtain ⟨b, h1, _⟩ := h; simp [env0] at h1⟩
theorem phas_in (n : Nat) (c i : Int) (w : World) : CallsIn Wd n Try.prog 18 #[.int .i64 c, .int .i64 i] w fun e w' => e = .returned (.bool (mem7 c i)) ∧ w.grownBy w' none := by
  refine callsIn_WF (((phas_spec c i []).2 (env0 w) _ (hrep0 w) rfl (repL_vs _ [.int .i64 c, .int .i64 i])).mono ?_)
  rintro e w' ⟨v, r, R', rfl, rfl, h1, h2, h3, rfl, h4⟩
  rw [rep_v.1 h3]
  exact ⟨rfl, grow0 h1⟩
abbrev M7 := { x : Int // 0 ≤ x ∧ x < 7 }
/-- The members below n, as numbers. -/
def memA (c : Int) : Nat → List M7
  | 0 => []
  | n + 1 => if h : tb c n = true ∧ n < 7 then memA c n ++ [⟨n, by omega⟩] else memA c n
theorem memA_no {c : Int} {n : Nat} (h : tb c n = false) : memA c (n + 1) = memA c n := by simp [memA, h]
theorem memA_yes {c k : Int} (h0 : 0 ≤ k ∧ k < 7) (h : tb c k.toNat = true) : memA c (k.toNat + 1) = memA c k.toNat ++ [⟨k, h0⟩] := by
  have h7 : k.toNat < 7 := by omega
  have hk : ((k.toNat : Nat) : Int) = k := by omega
  simp only [memA, h, h7, and_self, dite_true, hk]
theorem memA_len (c : Int) : ∀ n, (memA c n).length ≤ n
  | 0 => Nat.le_refl _
  | n + 1 => by
    have := memA_len c n
    unfold memA
    split
    · simp; omega
    · omega
theorem memA_prefix (c : Int) : ∀ (n k : Nat), memA c n <+: memA c (n + k)
  | n, 0 => List.prefix_refl _
  | n, k + 1 => by
    refine (memA_prefix c n k).trans ?_
    rw [← Nat.add_assoc]
    show _ <+: memA c (n + k + 1)
    conv => rhs; unfold memA
    split
    · exact List.prefix_append _ _
    · exact List.prefix_refl _
set_option maxRecDepth 100000 in
set_option maxHeartbeats 1000000 in
theorem members1_in {F : Fence} (hHas : ∀ (n : Nat) (c i : Int) (w : World), CallsIn F n Try.prog 18 #[.int .i64 c, .int .i64 i] w fun e w' => e = .returned (.bool (mem7 c i)) ∧ w.grownBy w' none) (hro : F.round = none) (h76 : F.fn 76) (h18 : F.fn 18) (n : Nat) (hn : 1 ≤ n) (l Bm o : Nat) (c : Int) (J Jx : List M7 → World → Prop)
    (hY : ∀ pre x W, J pre W → pre.length < 7 → YieldAt F (n - 1) Try.prog l #[.int .i64 x.1] W fun e W' =>
      (e = .returned (.bool true) ∧ J (pre ++ [x]) W' ∧ W'.cell? ⟨Bm, o, none⟩ = W.cell? ⟨Bm, o, none⟩) ∨ (e = .returned (.bool false) ∧ Jx (pre ++ [x]) W'))
    (W : World) (hJ : AbidesFrom W.heap.size J) (hBm : W.cell? ⟨Bm, o, none⟩ = some (.int .i64 c)) (h0 : J [] W) :
    CallsIn F n Try.prog 76 #[.func (.yield l) #[] #[], .pointer (some ⟨Bm, o, none⟩)] W fun e W' => (∃ v, e = .returned v) ∧
      ((∃ ys, ys = memA c 7 ∧ J ys W') ∨ (∃ pre, pre <+: memA c 7 ∧ Jx pre W')) := by
  refine callsIn_of_wp Try.func76 rfl h76 ?_ hro
  simp only [Try.ntmps76, List.size_toArray, List.length_cons, List.length_nil, Nat.reduceAdd, Nat.reduceSub, Array.replicate_succ, Array.replicate_zero, List.push_toArray, List.append_toArray, List.nil_append, List.cons_append]
  gi_wp2
  gi_loopw [4] (fun p wr => ∃ k : Int, p = .int .i64 k ∧ 0 ≤ k ∧ k ≤ 7 ∧ wr.cell? ⟨Bm, o, none⟩ = some (.int .i64 c) ∧ J (memA c k.toNat) wr)
    (fun p wr => 7 - (intOf p).toNat)
  case atStart =>
    exact ⟨0, rfl, by omega, by omega, hBm, h0⟩
  case round =>
    obtain ⟨k, rfl, hk0, hk7, hc, hJs⟩ := hrel
    by_cases hlt : k < 7
    · have hm : mem7 c k = tb c k.toNat := by unfold mem7; rw [decide_eq_true (by omega)]; rfl
      cases hb : tb c k.toNat with
      | false =>
        rw [hb] at hm
        have hs : memA c (k.toNat + 1) = memA c k.toNat := memA_no hb
        gi_wp2_with (gi_at_call 18; refine (hHas _ c k _).mono ?_; rw [hm]; rintro e w' ⟨rfl, hg⟩)
        refine ⟨fun _ h => (by cases h), ?_⟩
        gi_wp2
        go_roundw
        case rel =>
          refine ⟨k + 1, ?_, by omega, by omega, (cell_kept hg hc), ?_⟩
          · first | rfl | simp | (congr 1; omega)
          · rw [show (k + 1).toNat = k.toNat + 1 by omega, hs]
            exact hJ _ _ _ none hJs hg (fun r e => by cases e)
        case measure => simp [intOf]; omega
      | true =>
        rw [hb] at hm
        have hs : memA c (k.toNat + 1) = memA c k.toNat ++ [⟨k, hk0, hlt⟩] := memA_yes ⟨hk0, hlt⟩ hb
        have hlen := memA_len c k.toNat
        gi_wp2_with (gi_at_call 18; refine (hHas _ c k _).mono ?_; rw [hm]; rintro e w' ⟨rfl, hg⟩; have hJ2 : J (memA c k.toNat) w' := hJ _ _ _ none hJs hg (fun r e => by cases e); obtain ⟨fn, tmps, assign, body, hy, hR⟩ := hY (memA c k.toNat) ⟨k, hk0, hlt⟩ w' hJ2 (by omega))
        have hc2 := cell_kept hg hc
        refine hR.mono ?_
        rintro e W3 (⟨rfl, hJ3, hk3⟩ | ⟨rfl, hJx3⟩)
        · have hc3 := hk3.trans hc2
          gi_wp2
          go_roundw
          case rel =>
            refine ⟨k + 1, ?_, by omega, by omega, hc3, ?_⟩
            · first | rfl | simp | (congr 1; omega)
            · rw [show (k + 1).toNat = k.toNat + 1 by omega, hs]
              exact hJ3
          case measure => simp [intOf]; omega
        · gi_wp2
          refine bodyPost_ret (results_none rfl _ _ _) rfl ?_
          refine ⟨⟨_, rfl⟩, .inr ⟨_, ?_, hJx3⟩⟩
          rw [← hs, show (7 : Nat) = k.toNat + 1 + (6 - k.toNat) by omega]
          exact memA_prefix c _ _
    · have : k = 7 := by omega
      subst this
      gi_wp2
      go_end0
      exact ⟨⟨_, rfl⟩, .inl hJs⟩
/-- The iterator that peers.members hands back. -/
theorem members_stops (n : Nat) (hn : 1 ≤ n) (Bm o : Nat) (c : Int) (w : World) (hc : w.cell? ⟨Bm, o, none⟩ = some (.int .i64 c)) :
    SeqStopsK Wd n Try.prog 76 #[.pointer (some ⟨Bm, o, none⟩)] (fun x : M7 => #[Value.int .i64 x.1]) (SameAt Bm o) (fun ys => ys = memA c 7) (fun pre => pre <+: memA c 7) 7 w := fun l J Jx W hW hJ _ hY h0 => by
  have hb : Bm < w.heap.size := by
    rcases Nat.lt_or_ge Bm w.heap.size with h1 | h1
    · exact h1
    · simp [World.cell?, Array.getElem?_eq_none h1] at hc
  exact members1_in phas_in rfl trivial trivial n hn l Bm o c J Jx hY W hJ ((hW.cell (p := ⟨Bm, o, none⟩) hb).trans hc) h0
end Go.Vm
