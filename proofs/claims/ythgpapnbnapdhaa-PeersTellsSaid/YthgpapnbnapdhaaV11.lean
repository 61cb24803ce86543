/- The virtual machine, part 11: slices that grow, slices that are made, copies. Generic: no program in sight. -/
import Derived.Test.YthgpapnbnapdhaaV10
set_option linter.unusedVariables false
set_option linter.unusedSimpArgs false
namespace Go.Vm
open Go.RowKit
def VSnd (P : Program) (R : Env) (s : Sem Value) (K : SV → List VB → Prop) : Prop := ∃ v r R', s.run P R.w = .ok v R'.w ∧ Ext R R' ∧ HRep R' ∧ Rep R' r v ∧ K r R'.H

/-! ### What is appended, what is copied -/
def vsrc (H : List VB) (n : Nat) (x : SV) : Option (List SV) :=
  match x with
  | .v (.slice none 0 0) => some []
  | .v (.string s) => if n = 1 then some (s.data.toList.map byteSV) else none
  | x => match vread H x with
    | some (n', xs) => if n' = n then some xs else none
    | none => none
theorem take_flat {n : Nat} {xs : List SV} (hn : ∀ x, x ∈ xs → x.cells.length = n) (k : Nat) (hk : k ≤ xs.length) : ((xs.take k).flatMap SV.cells).length = k * n := by
  rw [flat_length _ (fun x hx => hn x (List.mem_of_mem_take hx))]
  simp [hk]
theorem vsrc_sound {P : Program} {R : Env} (hR : HRep R) {n : Nat} {x : SV} {ys : List SV} {a : Value} (h : vsrc R.H n x = some ys) (ha : Rep R x a) :
    (Builtin.lenOf a).run P R.w = .ok ys.length R.w ∧ (∀ y, y ∈ ys → y.cells.length = n) ∧ ∀ k, k ≤ ys.length → ∃ arr, (Builtin.firstCells n k a).run P R.w = .ok arr R.w ∧ CellsR R ((ys.take k).flatMap SV.cells) arr := by
  unfold vsrc at h
  split at h
  · cases h
    obtain rfl := rep_v.1 ha
    refine ⟨rfl, fun y hy => (by cases hy), fun k hk => ⟨#[], rfl, by simp, fun i hi => ?_⟩⟩
    simp at hi
  · rename_i s
    split at h
    · rename_i hn
      subst hn
      cases h
      obtain rfl := rep_v.1 ha
      have hsz : s.data.size = s.size := rfl
      refine ⟨by simp [Builtin.lenOf, hsz], fun y hy => ?_, fun k hk => ?_⟩
      · obtain ⟨b, _, rfl⟩ := List.mem_map.1 hy; rfl
      · refine ⟨_, rfl, ?_⟩
        simp only [List.length_map, Array.length_toList] at hk
        have e1 : ((s.data.toList.map byteSV).take k).flatMap SV.cells = (s.data.toList.take k).map byteSV := by
          rw [← List.map_take]
          generalize s.data.toList.take k = l
          induction l with
          | nil => rfl
          | cons b l ih => simp only [List.map_cons, List.flatMap_cons, ih]; rfl
        rw [e1]
        have e2 : ((s.extract 0 k).data.map fun b => Value.int .u8 b.toNat).toList = (s.data.toList.take k).map fun b => Value.int .u8 b.toNat := by
          rw [Array.toList_map, Lib.extract_data]
          simp
        refine ⟨by rw [← Array.length_toList, e2]; simp, fun i hi hj => ?_⟩
        have e3 : ((s.extract 0 k).data.map fun b => Value.int .u8 b.toNat)[i] = (((s.extract 0 k).data.map fun b => Value.int .u8 b.toNat).toList)[i]'(by simpa using hj) := by simp
        rw [e3]
        simp only [e2, List.getElem_map]
        exact .v _
    · cases h
  · split at h
    · rename_i n' xs hx
      split at h
      · rename_i hn
        subst hn
        cases h
        obtain ⟨ad, c, rfl, hc, hn, hcells⟩ := vread_sound hR hx ha
        refine ⟨rfl, hn, fun k hk => ?_⟩
        rcases hcells with h0 | ⟨b, o, rfl, hcells⟩
        · subst h0
          have hk0 : k = 0 := by simpa using hk
          subst hk0
          refine ⟨#[], ?_, by simp, fun i hi => by simp at hi⟩
          cases ad with
          | none => rfl
          | some ad => simp only [Builtin.firstCells, Nat.zero_mul, loadCells, loadCellsFrom]; rfl
        · have hlen := take_flat hn k hk
          have hf : ∀ j, ∃ y, j < k * n' → cellAt R.w b (o + j) = some y ∧ ∀ (hj : j < ((ys.take k).flatMap SV.cells).length), Rep R ((ys.take k).flatMap SV.cells)[j] y := fun j => by
            by_cases hj : j < k * n'
            · have hnp : 0 < n' := by
                rcases Nat.eq_zero_or_pos n' with h0 | h0
                · subst h0; simp at hj
                · exact h0
              have hi : j / n' < k := by rw [Nat.div_lt_iff_lt_mul hnp]; exact hj
              have hi' : j / n' < ys.length := by omega
              have hm : j % n' < n' := Nat.mod_lt _ hnp
              have hdm : j / n' * n' + j % n' = j := by rw [Nat.mul_comm]; exact Nat.div_add_mod j n'
              have hcl : j % n' < ys[j / n'].cells.length := by rw [hn _ (List.getElem_mem hi')]; exact hm
              obtain ⟨y, h1, h2⟩ := hcells (j / n') hi' (j % n') hcl
              rw [hdm] at h1
              refine ⟨y, fun _ => ⟨h1, fun hj' => ?_⟩⟩
              have et : (ys.take k)[j / n']'(by simp; omega) = ys[j / n'] := by simp
              have := flat_get (ys.take k) (fun z hz => hn z (List.mem_of_mem_take hz)) (j / n') (by simp; omega) (j % n') (by rw [et]; exact hcl)
              rw [hdm, List.getElem?_eq_getElem hj'] at this
              injection this with this
              rw [this]
              simpa only [et] using h2
            · exact ⟨undef, fun h => absurd h hj⟩
          obtain ⟨f, hf⟩ := Classical.axiomOfChoice hf
          have hrun := run_loadCells (P := P) R.w ⟨b, o, none⟩ (k * n') f (fun j hj => by rw [add_plain]; exact (hf j hj).1)
          refine ⟨_, hrun, by simp [hlen], fun i hi hj => ?_⟩
          simp only [List.getElem_toArray, List.getElem_map, List.getElem_range]
          exact (hf i (by rw [hlen] at hi; exact hi)).2 hi
      · cases h
    · cases h

/-! ### How far a slice may grow -/
theorem growBy_le (m : Nat) : ∀ (r c : Nat), c ≤ m + (m + 768) / 4 → Builtin.growBy m r c ≤ m + (m + 768) / 4
  | 0, c, h => h
  | r + 1, c, h => by
    unfold Builtin.growBy
    split
    · exact h
    · exact growBy_le m r _ (by omega)
theorem nextslicecap_le {need cap : Nat} (h : cap < need) : Builtin.nextslicecap need cap ≤ 2 * need + 192 := by
  unfold Builtin.nextslicecap
  split
  · omega
  · split
    · omega
    · have := growBy_le need 4 cap (by omega)
      omega
theorem cap_ok {P : Program} {need cap : Nat} {e : TypeId} (h : cap < need) (hn : need ≤ 68719476736) (hb : P.bytesOf e ≤ 1024) : ¬ (Builtin.nextslicecap need cap * P.bytesOf e > 2 ^ 48) := by
  have h1 := nextslicecap_le h
  have h2 : Builtin.nextslicecap need cap * P.bytesOf e ≤ (2 * 68719476736 + 192) * 1024 := Nat.mul_le_mul (by omega) hb
  have h3 : (2 * 68719476736 + 192) * 1024 ≤ 2 ^ 48 := by decide
  omega
theorem zeroCells_size (z : Array Value) (k : Nat) : (Builtin.zeroCells z k).size = k * z.size := by simp [Builtin.zeroCells]
theorem CellsR.append {R : Env} {xs ys : List SV} {a b : Array Value} (h : CellsR R xs a) (k : CellsR R ys b) : CellsR R (xs ++ ys) (a ++ b) := by
  refine ⟨by simp [h.1, k.1], fun i hi hj => ?_⟩
  by_cases hlt : i < xs.length
  · rw [List.getElem_append_left hlt, Array.getElem_append_left (by rw [h.1]; exact hlt)]
    exact h.2 i hlt _
  · simp only [List.length_append] at hi
    rw [List.getElem_append_right (by omega), Array.getElem_append_right (by rw [h.1]; omega)]
    have := k.2 (i - xs.length) (by omega) (by rw [k.1]; omega)
    simpa only [h.1] using this
/-- A row of cells in a new block. -/
theorem row_ok {R : Env} {k g n : Nat} {xs : List SV} {arr : Array Value} {e : TypeId} {blk : Nat} {fz : Nat × Nat} (hH : R.H[k]? = some (.row g n xs)) (hρ : R.ρ k = some ⟨blk, 0, none⟩) (hw : R.w.heap[blk]? = some (.cells arr e fz)) (hf : unfrozen fz arr.size)
    (hn : ∀ x, x ∈ xs → x.cells.length = n) (hsz : xs.length * n ≤ arr.size) (hc : ∀ (j : Nat) (hj : j < (xs.flatMap SV.cells).length) (hk : j < arr.size), Rep R (xs.flatMap SV.cells)[j] arr[j]) : IdOk R k := by
  refine ⟨fun cs h1 => (by rw [hH] at h1; cases h1), fun g2 n2 xs2 h1 => ?_, fun es h1 => (by rw [hH] at h1; cases h1)⟩
  rw [hH] at h1
  cases h1
  refine ⟨hn, .inr ⟨⟨blk, 0, none⟩, arr, e, fz, hρ, hw, hf, by simpa using hsz, fun i hi j hj hk => ?_⟩⟩
  have h2 := flat_get xs hn i hi j hj
  have h3 := lt_of_some h2
  rw [List.getElem?_eq_getElem h3] at h2
  injection h2 with h2
  simp only [Nat.zero_add] at hk ⊢
  rw [← h2]
  exact hc _ h3 hk
theorem row_ok' {R : Env} {k g n : Nat} {xs : List SV} {arr : Array Value} {e : TypeId} {ad : Addr} {fz : Nat × Nat} (hH : R.H[k]? = some (.row g n xs)) (hρ : R.ρ k = some ad) (hw : R.w.heap[ad.block]? = some (.cells arr e fz)) (hf : unfrozen fz arr.size)
    (hn : ∀ x, x ∈ xs → x.cells.length = n) (hsz : ad.off + xs.length * n ≤ arr.size) (hc : ∀ (j : Nat) (hj : j < (xs.flatMap SV.cells).length) (hk : ad.off + j < arr.size), Rep R (xs.flatMap SV.cells)[j] arr[ad.off + j]) : IdOk R k := by
  refine ⟨fun cs h1 => (by rw [hH] at h1; cases h1), fun g2 n2 xs2 h1 => ?_, fun es h1 => (by rw [hH] at h1; cases h1)⟩
  rw [hH] at h1
  cases h1
  refine ⟨hn, .inr ⟨ad, arr, e, fz, hρ, hw, hf, hsz, fun i hi j hj hk => ?_⟩⟩
  have h2 := flat_get xs hn i hi j hj
  have h3 := lt_of_some h2
  rw [List.getElem?_eq_getElem h3] at h2
  injection h2 with h2
  rw [← h2]
  have := hc _ h3 (by omega)
  simpa only [Nat.add_assoc] using this
theorem cut_ge (need old : Nat) (e : TypeId) (t : Nat) : need ≤ (Question.appendCap need old e).cut t := by simp [Question.cut]
/-- A new row behind all that is there. -/
theorem row_new {R : Env} (h : HRep R) {n : Nat} {xs : List SV} {arr : Array Value} (e : TypeId) {w : World} (g : Grows R.w w) (hw : w.heap.size = R.w.heap.size) (hn : ∀ x, x ∈ xs → x.cells.length = n) (c : Nat) (hxc : xs.length ≤ c) (hsz : c * n ≤ arr.size)
    (hc : ∀ (j : Nat) (hj : j < (xs.flatMap SV.cells).length) (hk : j < arr.size), Rep R (xs.flatMap SV.cells)[j] arr[j]) (fz : Nat × Nat) (hf : unfrozen fz arr.size) {w' : World} (g' : Grows w w') (hb : w'.heap[R.w.heap.size]? = some (.cells arr e fz)) :
    Ext R ⟨R.H ++ [.row 0 n xs], upd R.ρ R.H.length (some ⟨R.w.heap.size, 0, none⟩), w'⟩ ∧
    HRep ⟨R.H ++ [.row 0 n xs], upd R.ρ R.H.length (some ⟨R.w.heap.size, 0, none⟩), w'⟩ ∧
    Rep ⟨R.H ++ [.row 0 n xs], upd R.ρ R.H.length (some ⟨R.w.heap.size, 0, none⟩), w'⟩ (.slc R.H.length 0 0 xs.length) (.slice (some ⟨R.w.heap.size, 0, none⟩) xs.length c) := by
  have gg := g.trans g'
  have hs := new_same R.H (.row 0 n xs)
  have hlt : R.w.heap.size < w'.heap.size := by
    rcases Nat.lt_or_ge R.w.heap.size w'.heap.size with h1 | h1
    · exact h1
    · rw [Array.getElem?_eq_none h1] at hb; cases hb
  have hnc : xs.length * n ≤ c * n := Nat.mul_le_mul_right n hxc
  refine ⟨Ext.new h _ _ gg.like gg.size gg.keep (fun a ha => by cases ha; exact Nat.le_refl _), HRep.new h _ _ gg.like gg.size gg.keep (fun a ha => by cases ha; exact ⟨Nat.le_refl _, rfl, hlt⟩) fun ex => ?_, ?_⟩
  · exact row_ok hs (upd_same ..) hb hf hn (by omega) fun j hj hk => (hc j hj hk).mono ex
  · refine .slc _ 0 0 xs.length n xs _ c hs (by omega) hxc fun hp => ⟨⟨R.w.heap.size, 0, none⟩, upd_same .., by simp, ?_⟩
    simp only [blkSize, hb, Nat.zero_add]
    exact hsz
end Go.Vm
