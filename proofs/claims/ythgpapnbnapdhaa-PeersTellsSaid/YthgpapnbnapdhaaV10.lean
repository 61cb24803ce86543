/- The virtual machine, part 10: new variables, stores. Generic: no program in sight. -/
import Derived.Test.YthgpapnbnapdhaaV9
set_option linter.unusedVariables false
set_option linter.unusedSimpArgs false
namespace Go.Vm
open Go.RowKit

/-! ### New boxes -/
theorem box_new {R : Env} (h : HRep R) {cs : List SV} {arr : Array Value} (hc : CellsR R cs arr) (e : TypeId) :
    Ext R ⟨R.H ++ [.box cs], upd R.ρ R.H.length (some ⟨R.w.heap.size, 0, none⟩), R.w.alloc (.cells arr e)⟩ ∧
    HRep ⟨R.H ++ [.box cs], upd R.ρ R.H.length (some ⟨R.w.heap.size, 0, none⟩), R.w.alloc (.cells arr e)⟩ ∧
    Rep ⟨R.H ++ [.box cs], upd R.ρ R.H.length (some ⟨R.w.heap.size, 0, none⟩), R.w.alloc (.cells arr e)⟩ (.ptr R.H.length 0) (.pointer (some ⟨R.w.heap.size, 0, none⟩)) := by
  have g := Grows.alloc R.w (.cells arr e)
  have hs := new_same R.H (.box cs)
  have ex := Ext.new h (.box cs) (some ⟨R.w.heap.size, 0, none⟩) g.like g.size g.keep (fun a ha => by cases ha; exact Nat.le_refl _)
  refine ⟨ex, HRep.new h (.box cs) (some ⟨R.w.heap.size, 0, none⟩) g.like g.size g.keep (fun a ha => by cases ha; exact ⟨Nat.le_refl _, rfl, by simp⟩) fun e' => ⟨fun cs' h1 => ?_, fun g n xs h1 => ?_, fun es h1 => ?_⟩, ?_⟩
  · cases hs.symm.trans h1
    refine ⟨⟨R.w.heap.size, 0, none⟩, arr, e, (0, 0), upd_same .., heap_alloc_new .., fun j hj hf => by simp at hf, by simp [hc.1], fun j hj hk => ?_⟩
    simp only [Nat.zero_add] at hk ⊢
    exact (hc.2 j hj hk).mono e'
  · cases hs.symm.trans h1
  · cases hs.symm.trans h1
  · exact .ptr R.H.length 0 ⟨R.w.heap.size, 0, none⟩ (by simp) (fun g n xs h1 => by cases hs.symm.trans h1) (upd_same ..) rfl

/-! ### Stores -/
theorem unfrozen_false {w : World} {b : Nat} {c : Array Value} {e : TypeId} {fz : Nat × Nat} (h : w.heap[b]? = some (.cells c e fz)) (hf : unfrozen fz c.size) {o : Nat} (ho : o < c.size) : w.frozen? ⟨b, o, none⟩ = false := by
  have := hf o ho
  simp only [World.frozen?, h]
  simpa using this
theorem run_storeCells {P : Program} {b o : Nat} : ∀ (vs : List Value) (i : Nat) (w : World) (c : Array Value) (e : TypeId) (fz : Nat × Nat), w.heap[b]? = some (.cells c e fz) → unfrozen fz c.size → o + i + vs.length ≤ c.size → (∀ v, v ∈ vs → v.oneCell' = true) →
    ∃ w' c', (storeCells ⟨b, o, none⟩ vs i).run P w = .ok () w' ∧ Like w w' ∧ w'.heap.size = w.heap.size ∧ w'.heap[b]? = some (.cells c' e fz) ∧ (∀ k, k ≠ b → w'.heap[k]? = w.heap[k]?) ∧ c'.size = c.size ∧
      ∀ k, c'[k]? = if o + i ≤ k ∧ k < o + i + vs.length then vs[k - (o + i)]? else c[k]?
  | [], i, w, c, e, fz, h, hf, hl, hv => ⟨w, c, rfl, Like.refl w, rfl, h, fun _ _ => rfl, rfl, fun k => by rw [if_neg (by simp)]⟩
  | v :: vs, i, w, c, e, fz, h, hf, hl, hv => by
    simp only [List.length_cons] at hl
    have hlt : o + i < c.size := by omega
    have hcell : w.cell? ⟨b, o + i, none⟩ = some c[o + i] := by simp [World.cell?, h, hlt]
    have hfr := unfrozen_false h hf hlt
    have hone := hv v (by simp)
    have hset : (w.setCell ⟨b, o + i, none⟩ v).heap[b]? = some (.cells (c.setIfInBounds (o + i) v) e fz) := by
      simp [World.setCell, Array.getElem?_modify, h]
    obtain ⟨w', c', q1, q2, q3, q4, q5, q6, q7⟩ := run_storeCells (P := P) (b := b) (o := o) vs (i + 1) (w.setCell ⟨b, o + i, none⟩ v) (c.setIfInBounds (o + i) v) e fz hset (by simpa using hf) (by simp; omega) (fun u hu => hv u (by simp [hu]))
    refine ⟨w', c', ?_, Like.trans (show Like w (w.setCell ⟨b, o + i, none⟩ v) from ⟨rfl, rfl, rfl⟩) q2, by rw [q3]; simp, q4, fun k hk => ?_, by rw [q6]; simp, fun k => ?_⟩
    · simp only [storeCells, add_plain, Sem.run_bind, run_store _ _ _ _ _ hone, hcell, hfr, Bool.false_eq_true, if_false, Result.andThen_ok]
      exact q1
    · rw [q5 k hk]
      exact Below.heap_setCell _ _ _ _ hk
    · rw [q7 k]
      by_cases h1 : k = o + i
      · subst h1
        rw [if_neg (by omega), if_pos (by simp)]
        simp [hlt]
      · by_cases h2 : o + (i + 1) ≤ k ∧ k < o + (i + 1) + vs.length
        · rw [if_pos h2, if_pos (by simp; omega), show k - (o + i) = (k - (o + (i + 1))) + 1 by omega, List.getElem?_cons_succ]
        · rw [if_neg h2, if_neg (by simp; omega), Array.getElem?_setIfInBounds_ne (Ne.symm h1)]
def svCell (H : List VB) : SV → Bool
  | .agg _ => false
  | x => svValid H x
theorem svCell_one {R : Env} {x : SV} {y : Value} (h : svCell R.H x = true) (hr : Rep R x y) : y.oneCell' = true ∧ x.cells = [x] := by
  cases hr with
  | agg cs a hl hh => cases h
  | junk => cases h
  | tup cs a hl hh => cases h
  | v => exact ⟨h, rfl⟩
  | slcOld id g off len y hid hr' =>
    simp only [svCell, svValid] at h
    split at h
    · rename_i g' n xs hc
      have h1 := hr' g' n xs hc
      have h2 : g' = g := by simpa using h
      omega
    · cases h
  | rptrOld id g i o y hid hr' =>
    simp only [svCell, svValid] at h
    split at h
    · rename_i g' n xs hc
      have h1 := hr' g' n xs hc
      have h2 : g' = g := by simpa using h
      omega
    · cases h
  | _ => exact ⟨rfl, rfl⟩
def elemPut (old : SV) (o : Nat) (vs : List SV) : SV :=
  match old with
  | .agg cs => .agg (lput cs o vs)
  | old => (lput [old] o vs).headD .junk
theorem elemPut_cells {H : List VB} {old : SV} {o : Nat} {vs : List SV} (h : o + vs.length ≤ old.cells.length) (hv : ∀ c, c ∈ vs → svCell H c = true) : (elemPut old o vs).cells = lput old.cells o vs := by
  have leaf : old.cells = [old] → (∀ cs, old ≠ .agg cs) → ((lput [old] o vs).headD .junk).cells = lput old.cells o vs := by
    intro h1 h2
    rw [h1] at h ⊢
    simp only [List.length_cons, List.length_nil] at h
    match vs, hv with
    | [], _ =>
      have : lput [old] o [] = [old] := by
        unfold lput
        simp only [List.append_nil, List.length_nil, Nat.add_zero, List.take_append_drop]
      rw [this]
      exact h1
    | [c], hv =>
      have : o = 0 := by simp at h; omega
      subst this
      have hc := hv c (by simp)
      have : lput [old] 0 [c] = [c] := rfl
      rw [this]
      cases c <;> first | rfl | (simp [svCell] at hc; done)
    | _ :: _ :: _, _ => simp at h; omega
  cases old <;> first | rfl | exact leaf rfl (fun cs h => by cases h)
def putCells (H : List VB) (a : SV) (vs : List SV) : Option (List VB) :=
  match a with
  | .ptr id off => match H[id]? with
    | some (.box cs) => if off + vs.length ≤ cs.length then some (H.set id (.box (lput cs off vs))) else none
    | _ => none
  | .rptr id g i o => match H[id]? with
    | some (.row g' n xs) => if g = g' then (match xs[i]? with
      | some old => if o + vs.length ≤ old.cells.length then some (H.set id (.row g n (xs.set i (elemPut old o vs)))) else none
      | none => none) else none
    | _ => none
  | _ => none
/-- A run of cells in a known block is written. -/
theorem put_block {P : Program} {R : Env} (h : HRep R) {k : Nat} {b b' : VB} (hb : R.H[k]? = some b) (ht : Turns b b') {a : Addr} {c : Array Value} {e : TypeId} {fz : Nat × Nat} (hρ : R.ρ k = some a)
    (hw : R.w.heap[a.block]? = some (.cells c e fz)) (hf : unfrozen fz c.size) {o : Nat} {vs : List Value} (hle : o + vs.length ≤ c.size) (hv : ∀ v, v ∈ vs → v.oneCell' = true)
    (hok : ∀ (w' : World) (c' : Array Value), w'.heap[a.block]? = some (.cells c' e fz) → c'.size = c.size → (∀ k, c'[k]? = if o ≤ k ∧ k < o + vs.length then vs[k - o]? else c[k]?) →
      Ext R ⟨R.H.set k b', R.ρ, w'⟩ → IdOk ⟨R.H.set k b', R.ρ, w'⟩ k) :
    ∃ w', (storeCells ⟨a.block, o, none⟩ vs).run P R.w = .ok () w' ∧ Ext R ⟨R.H.set k b', R.ρ, w'⟩ ∧ HRep ⟨R.H.set k b', R.ρ, w'⟩ := by
  obtain ⟨w', c', q1, q2, q3, q4, q5, q6, q7⟩ := run_storeCells (P := P) (b := a.block) (o := o) vs 0 R.w c e fz hw hf (by omega) hv
  simp only [Nat.add_zero] at q7
  have hk : ∀ j, (∀ a', R.ρ k = some a' → a'.block ≠ j) → w'.heap[j]? = R.w.heap[j]? := fun j hj => q5 j (Ne.symm (hj a hρ))
  have hz : ∀ j, blkSize w' j = blkSize R.w j := fun j => by
    by_cases hj : j = a.block
    · subst hj; simp [blkSize, q4, hw, q6]
    · simp [blkSize, q5 j hj]
  exact ⟨w', q1, Ext.set h hb ht q2 q3 hk hz, HRep.set h hb ht q2 q3 hk hz (hok w' c' q4 q6 q7)⟩
theorem putCells_sound {P : Program} {R : Env} (h : HRep R) {x : SV} {vs : List SV} {H' : List VB} {y : Value} {ws : Array Value} (hp : putCells R.H x vs = some H') (hr : Rep R x y) (hc : CellsR R vs ws) (hv : ∀ c, c ∈ vs → svCell R.H c = true) :
    ∃ b o w', y = .pointer (some ⟨b, o, none⟩) ∧ (storeCells ⟨b, o, none⟩ ws.toList).run P R.w = .ok () w' ∧ Ext R ⟨H', R.ρ, w'⟩ ∧ HRep ⟨H', R.ρ, w'⟩ := by
  have hone : ∀ v, v ∈ ws.toList → v.oneCell' = true := by
    intro v hv'
    obtain ⟨i, hi, rfl⟩ := List.getElem_of_mem hv'
    simp only [Array.length_toList] at hi
    exact (svCell_one (hv _ (List.getElem_mem (by rw [← hc.1]; exact hi))) (hc.2 i (by rw [← hc.1]; exact hi) hi)).1
  have hws : ws.toList.length = vs.length := by simp [hc.1]
  have hwg : ∀ (i : Nat) (hi : i < vs.length), ∃ u, ws.toList[i]? = some u ∧ Rep R vs[i] u := fun i hi => ⟨ws[i]'(by rw [hc.1]; exact hi), by simp [hc.1, hi], hc.2 i hi _⟩
  unfold putCells at hp
  split at hp
  · rename_i id off
    split at hp
    · rename_i cs hbox
      split at hp
      · rename_i hle
        cases hp
        cases hr with
        | ptr id' off' a hid hb hρ hs =>
          obtain ⟨a', c, e, fz, q1, q2, q3, q4, q5⟩ := h.box id cs hbox
          rw [hρ] at q1
          cases q1
          obtain ⟨w', p1, p2, p3⟩ := put_block (P := P) (b' := .box (lput cs off vs)) h hbox trivial hρ q2 q3 (o := a.off + off) (vs := ws.toList) (by rw [hws]; omega) hone (by
            intro w' c' r1 r2 r3 ex
            have hs' := set_same R.H id (.box (lput cs off vs)) hid
            refine ⟨fun cs' h1 => ?_, fun g n xs h1 => (by cases hs'.symm.trans h1), fun es h1 => (by cases hs'.symm.trans h1)⟩
            cases hs'.symm.trans h1
            refine ⟨a, c', e, fz, hρ, r1, by rw [r2]; exact q3, by rw [lput_length hle, r2]; exact q4, fun j hj hk => ?_⟩
            have g1 := lput_get hle j
            rw [List.getElem?_eq_getElem hj] at g1
            have g2 := r3 (a.off + j)
            rw [Array.getElem?_eq_getElem hk, hws] at g2
            by_cases hin : off ≤ j ∧ j < off + vs.length
            · rw [if_pos hin] at g1
              rw [if_pos (by omega), show a.off + j - (a.off + off) = j - off by omega] at g2
              obtain ⟨u, u1, u2⟩ := hwg (j - off) (by omega)
              rw [u1] at g2
              rw [List.getElem?_eq_getElem (show j - off < vs.length by omega)] at g1
              injection g1 with g1
              injection g2 with g2
              rw [g1, g2]
              exact u2.mono ex
            · rw [if_neg hin] at g1
              rw [if_neg (by omega)] at g2
              rw [lput_length hle] at hj
              rw [List.getElem?_eq_getElem hj] at g1
              rw [Array.getElem?_eq_getElem (by omega)] at g2
              injection g1 with g1
              injection g2 with g2
              rw [g1, g2]
              exact (q5 j hj (by omega)).mono ex)
          exact ⟨_, _, w', rfl, p1, p2, p3⟩
      · cases hp
    · cases hp
  · rename_i id g i o
    split at hp
    · rename_i g' n xs hrow
      split at hp
      · rename_i hg
        subst hg
        split at hp
        · rename_i old hold
          split at hp
          · rename_i hle
            cases hp
            have hi := lt_of_some hold
            rw [List.getElem?_eq_getElem hi] at hold
            cases hold
            cases hr with
            | rptr id' g' i' o' n' xs' a hr hi' hρ hs =>
              rw [hrow] at hr
              cases hr
              obtain ⟨hn, h1 | ⟨a', c, e, fz, q1, q2, q3, q4, q5⟩⟩ := h.row id g n xs hrow
              · rw [h1.1] at hρ; cases hρ
              · rw [hρ] at q1
                cases q1
                have ec := elemPut_cells hle hv
                have e1 := hn _ (List.getElem_mem hi)
                have h2 : (i + 1) * n ≤ xs.length * n := Nat.mul_le_mul_right n hi
                have h3 : (i + 1) * n = i * n + n := Nat.succ_mul i n
                obtain ⟨w', p1, p2, p3⟩ := put_block (P := P) (b' := .row g n (xs.set i (elemPut xs[i] o vs))) h hrow (.inl ⟨rfl, rfl, by simp⟩) hρ q2 q3 (o := a.off + i * n + o) (vs := ws.toList) (by rw [hws]; omega) hone (by
                  intro w' c' r1 r2 r3 ex
                  have hs' := set_same R.H id (.row g n (xs.set i (elemPut xs[i] o vs))) (lt_of_some hrow)
                  refine ⟨fun cs' h1 => (by cases hs'.symm.trans h1), fun g2 n2 xs2 h1 => ?_, fun es h1 => (by cases hs'.symm.trans h1)⟩
                  cases hs'.symm.trans h1
                  refine ⟨fun x hx => ?_, .inr ⟨a, c', e, fz, hρ, r1, by rw [r2]; exact q3, by simp only [List.length_set]; rw [r2]; exact q4, fun k hk j hj hkk => ?_⟩⟩
                  · rcases List.mem_or_eq_of_mem_set hx with hx | rfl
                    · exact hn x hx
                    · rw [ec, lput_length hle]; exact e1
                  · have g2 := r3 (a.off + k * n + j)
                    rw [Array.getElem?_eq_getElem hkk, hws] at g2
                    simp only [List.length_set] at hk
                    by_cases hki : k = i
                    · subst hki
                      have eg : (xs.set k (elemPut xs[k] o vs))[k]'(by simpa using hk) = elemPut xs[k] o vs := by simp
                      have hj2 : j < (lput xs[k].cells o vs).length := by rw [← ec]; simpa only [eg] using hj
                      have g1 := lput_get hle j
                      rw [List.getElem?_eq_getElem hj2] at g1
                      have goal : Rep ⟨R.H.set id (.row g n (xs.set k (elemPut xs[k] o vs))), R.ρ, w'⟩ ((lput xs[k].cells o vs)[j]) (c'[a.off + k * n + j]) := by
                        by_cases hin : o ≤ j ∧ j < o + vs.length
                        · rw [if_pos hin] at g1
                          rw [if_pos (by omega), show a.off + k * n + j - (a.off + k * n + o) = j - o by omega] at g2
                          obtain ⟨u, u1, u2⟩ := hwg (j - o) (by omega)
                          rw [u1] at g2
                          rw [List.getElem?_eq_getElem (show j - o < vs.length by omega)] at g1
                          injection g1 with g1
                          injection g2 with g2
                          rw [g1, g2]
                          exact u2.mono ex
                        · rw [if_neg hin] at g1
                          rw [if_neg (by omega)] at g2
                          rw [lput_length hle] at hj2
                          rw [List.getElem?_eq_getElem hj2] at g1
                          rw [Array.getElem?_eq_getElem (by omega)] at g2
                          injection g1 with g1
                          injection g2 with g2
                          rw [g1, g2]
                          exact (q5 k hi j hj2 (by omega)).mono ex
                      simpa only [eg, ec] using goal
                    · have eg : (xs.set i (elemPut xs[i] o vs))[k]'(by simpa using hk) = xs[k] := by rw [List.getElem_set_ne (Ne.symm hki)]
                      have hj2 : j < xs[k].cells.length := by simpa only [eg] using hj
                      have e2 := hn _ (List.getElem_mem hk)
                      have hout : ¬ (a.off + i * n + o ≤ a.off + k * n + j ∧ a.off + k * n + j < a.off + i * n + o + vs.length) := by
                        rcases Nat.lt_or_ge k i with hlt | hge
                        · have m1 : (k + 1) * n ≤ i * n := Nat.mul_le_mul_right n hlt
                          have m2 : (k + 1) * n = k * n + n := Nat.succ_mul k n
                          omega
                        · have m1 : (i + 1) * n ≤ k * n := Nat.mul_le_mul_right n (by omega)
                          omega
                      rw [if_neg hout] at g2
                      have m3 : (k + 1) * n ≤ xs.length * n := Nat.mul_le_mul_right n hk
                      have m4 : (k + 1) * n = k * n + n := Nat.succ_mul k n
                      rw [Array.getElem?_eq_getElem (by omega)] at g2
                      injection g2 with g2
                      have := (q5 k hk j hj2 (by omega)).mono ex
                      rw [← g2] at this
                      simpa only [eg] using this)
                exact ⟨_, _, w', rfl, p1, p2, p3⟩
            | rptrOld id' g' i' o' y hid hr =>
              have := hr _ _ _ hrow
              omega
          · cases hp
        · cases hp
      · cases hp
    · cases hp
  · cases hp
def pStore (P : Program) (H : List VB) (t : TypeId) (a x : SV) : Option (List VB) :=
  if (P.underlying t).isSome = true ∧ svValid H x = true ∧ x.cells.length = P.cellsOf t ∧ (∀ c, c ∈ x.cells → svCell H c = true) then putCells H a x.cells else none
theorem pStore_sound {P : Program} {R : Env} (h : HRep R) {t : TypeId} {a x : SV} {H' : List VB} {y z : Value} (hp : pStore P R.H t a x = some H') (ha : Rep R a y) (hx : Rep R x z) :
    ∃ w', (Instr.storeAt t y z).run P R.w = .ok () w' ∧ Ext R ⟨H', R.ρ, w'⟩ ∧ HRep ⟨H', R.ρ, w'⟩ := by
  unfold pStore at hp
  split at hp
  · rename_i hc
    obtain ⟨c1, c2, c3, c4⟩ := hc
    obtain ⟨d, hd⟩ := Option.isSome_iff_exists.1 c1
    have hcells := valid_cells c2 hx
    obtain ⟨b, o, w', rfl, p1, p2, p3⟩ := putCells_sound (P := P) h hp ha hcells c4
    refine ⟨w', ?_, p2, p3⟩
    have : ¬ (z.cells.size ≠ P.cellsOf t) := by rw [hcells.1, c3]; simp
    simp only [Instr.storeAt, Instr.sureAddr, Sem.run_bind, Sem.run_pure, Result.andThen_ok, storeVar, run_sizeOf hd, this, if_false, pure_bind, p1]
  · cases hp
end Go.Vm
