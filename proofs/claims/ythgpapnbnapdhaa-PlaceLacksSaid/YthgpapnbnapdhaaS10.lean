/- Layer 3 (sha): a hash that is written to: the plain law, and the walk of Write. -/
import Derived.Test.YthgpapnbnapdhaaS9
set_option linter.unusedVariables false
set_option linter.unusedSimpArgs false
namespace Go.Vm
open Go.Proofs
set_option maxRecDepth 100000
theorem kset_base_to {n0 : Nat} {base base' top : List VB} {id : Nat} {b : VB} {K : KH → Prop} (ho : base.length = n0) (hid : id < base.length) (he : base.set id b = base') (hk : K ⟨n0, base', top⟩) : KSet ⟨n0, base, top⟩ id b K := by
  subst he
  exact kset_base ho hid hk
theorem kcall_eq {P : Program} {f : FuncId} {args args' : List SV} {h : KH} {K : SV → KH → Prop} (he : args = args') (hk : KCall P f args' h K) : KCall P f args h K := he ▸ hk
/-- The words behind some blocks of a text. -/
def foldB (s : V8) (l : List UInt8) : Nat → V8
  | 0 => s
  | k + 1 => blk (foldB s l k) ((l.drop (64 * k)).take 64)
theorem foldB_append (s : V8) (l x : List UInt8) : ∀ k, 64 * k ≤ l.length → foldB s (l ++ x) k = foldB s l k
  | 0, _ => rfl
  | k + 1, h => by
    rw [foldB, foldB, foldB_append s l x k (by omega), List.drop_append_of_le_length (by omega), List.take_append_of_le_length (by rw [List.length_drop]; omega)]
/-- A hash that has taken a text. -/
structure HInv (all : List UInt8) (s : V8) (p : List UInt8) : Prop where
  hs : s = foldB V8.init all (all.length / 64)
  hp : p.take (all.length % 64) = all.drop (64 * (all.length / 64))
  hl : p.length = 64
theorem hinv_nil {p : List UInt8} (h : p.length = 64) : HInv [] V8.init p := ⟨rfl, by simp, h⟩
def plug (p : List UInt8) (k : Nat) (x : List UInt8) : List UInt8 := p.take k ++ x ++ p.drop (k + x.length)
theorem plug_len {p : List UInt8} {k : Nat} {x : List UInt8} (h : k + x.length ≤ p.length) : (plug p k x).length = p.length := by
  simp [plug]; omega
theorem plug_take {p : List UInt8} {k : Nat} {x : List UInt8} (h : k + x.length ≤ p.length) : (plug p k x).take (k + x.length) = p.take k ++ x := by
  unfold plug
  rw [List.take_append_of_le_length (by simp; omega), List.take_of_length_le (by simp; omega)]
theorem hinv_step {all p x : List UInt8} {s : V8} (h : HInv all s p) (hx : all.length % 64 + x.length ≤ 64) :
    HInv (all ++ x) (if (all.length + x.length) % 64 = 0 then (if x = [] then s else blk s (plug p (all.length % 64) x)) else s) (plug p (all.length % 64) x) := by
  obtain ⟨h1, h2, h3⟩ := h
  have hpl : (plug p (all.length % 64) x).length = 64 := by rw [plug_len (by omega), h3]
  have ht := plug_take (p := p) (k := all.length % 64) (x := x) (by omega)
  by_cases hx0 : x = []
  · subst hx0
    refine ⟨?_, ?_, hpl⟩
    · simp only [List.append_nil, List.length_nil, Nat.add_zero, if_true]
      split <;> exact h1
    · simp only [List.append_nil, List.length_nil, Nat.add_zero] at ht ⊢
      rw [ht]; exact h2
  · have hxp : 0 < x.length := List.length_pos_iff.2 hx0
    rw [if_neg hx0]
    by_cases hm : (all.length + x.length) % 64 = 0
    · rw [if_pos hm]
      have e1 : all.length % 64 + x.length = 64 := by omega
      have e2 : (all ++ x).length / 64 = all.length / 64 + 1 := by rw [List.length_append]; omega
      have e3 : (all ++ x).length % 64 = 0 := by rw [List.length_append]; exact hm
      have e4 : plug p (all.length % 64) x = all.drop (64 * (all.length / 64)) ++ x := by
        rw [e1, List.take_of_length_le (by omega)] at ht
        rw [ht, h2]
      refine ⟨?_, ?_, hpl⟩
      · rw [e2, foldB, foldB_append _ _ _ _ (by omega), ← h1, List.drop_append_of_le_length (by omega), ← e4, List.take_of_length_le (by omega)]
      · rw [e3, e2, List.take_zero, List.drop_of_length_le (by rw [List.length_append]; omega)]
    · rw [if_neg hm]
      have e2 : (all ++ x).length / 64 = all.length / 64 := by rw [List.length_append]; omega
      have e3 : (all ++ x).length % 64 = all.length % 64 + x.length := by rw [List.length_append]; omega
      refine ⟨?_, ?_, hpl⟩
      · rw [e2, foldB_append _ _ _ _ (by omega)]; exact h1
      · rw [e3, ht, e2, List.drop_append_of_le_length (by omega), h2]
/-- The cells of a hash. -/
def hcells (s : V8) (p : List UInt8) (n : Int) : List SV := s.l ++ (p.map byteSV ++ [I n, B true])
theorem hcells_len {s : V8} {p : List UInt8} {n : Int} (h : p.length = 64) : (hcells s p n).length = 74 := by
  simp only [hcells, List.length_append, List.length_map, h, List.length_cons, List.length_nil]; rfl
theorem hcells_n {s : V8} {p : List UInt8} {n : Int} (h : p.length = 64) : (hcells s p n)[72]? = some (I n) := by
  rw [hcells, List.getElem?_append_right (by show 8 ≤ 72; decide), show s.l.length = 8 from rfl, List.getElem?_append_right (by rw [List.length_map, h]; decide), List.length_map, h]; rfl
theorem hcells_m {s : V8} {p : List UInt8} {n : Int} (h : p.length = 64) : (hcells s p n)[73]? = some (B true) := by
  rw [hcells, List.getElem?_append_right (by show 8 ≤ 73; decide), show s.l.length = 8 from rfl, List.getElem?_append_right (by rw [List.length_map, h]; decide), List.length_map, h]; rfl
theorem hcells_h {s : V8} {p : List UInt8} {n : Int} : ((hcells s p n).drop 0).take 8 = s.l := rfl
theorem hcells_p {s : V8} {p : List UInt8} {n : Int} (h : p.length = 64) : ((hcells s p n).drop 8).take 64 = p.map byteSV := by
  rw [hcells, show 8 = s.l.length from rfl, List.drop_left, List.take_append_of_le_length (by rw [List.length_map, h]; decide), List.take_of_length_le (by rw [List.length_map, h]; decide)]
theorem hcells_putn {s : V8} {p : List UInt8} {n m : Int} (h : p.length = 64) : lput (hcells s p n) 72 [I m] = hcells s p m := by
  rw [lput_one (by rw [hcells_len h]; decide), hcells, hcells, List.set_append, if_neg (by show ¬ 72 < 8; decide), show s.l.length = 8 from rfl, List.set_append, if_neg (by rw [List.length_map, h]; decide), List.length_map, h]; rfl
theorem hcells_puth {s s' : V8} {p : List UInt8} {n : Int} : lput (hcells s p n) 0 s'.l = hcells s' p n := rfl
theorem hcells_putp {s : V8} {p x : List UInt8} {n : Int} {k : Nat} (h : p.length = 64) (hk : k + x.length ≤ 64) : lput (hcells s p n) (8 + k) (x.map byteSV) = hcells s (plug p k x) n := by
  unfold lput hcells plug
  have e1 : (s.l ++ (p.map byteSV ++ [I n, B true])).take (8 + k) = s.l ++ (p.take k).map byteSV := by
    rw [show 8 + k = s.l.length + k from rfl, List.take_append, List.take_of_length_le (by omega), Nat.add_sub_cancel_left, List.take_append_of_le_length (by rw [List.length_map]; omega), List.map_take]
  have e2 : (s.l ++ (p.map byteSV ++ [I n, B true])).drop (8 + k + (x.map byteSV).length) = (p.drop (k + x.length)).map byteSV ++ [I n, B true] := by
    rw [List.length_map, show 8 + k + x.length = s.l.length + (k + x.length) by show _ = 8 + _; omega, ← List.drop_drop, List.drop_left, List.drop_append_of_le_length (by rw [List.length_map]; omega), List.map_drop]
  rw [e1, e2]
  simp only [List.map_append, List.append_assoc]
end Go.Vm
