/- The virtual machine, part 2b: a row that nobody will turn is a list. Generic: no program in sight. -/
import Derived.Test.YthgpapnbnapdhaaV2
set_option linter.unusedVariables false
set_option linter.unusedSimpArgs false
namespace Go.Vm
open Go.RowKit

/-- What a value is called once the rows beyond n0 are frozen. -/
inductive Frz (H : List VB) (n0 : Nat) : SV → SV → Prop
  | keep (x : SV) (h : x.Bel n0) : Frz H n0 x x
  | agg (cs ds : List SV) (hl : ds.length = cs.length) (h : ∀ (i : Nat) (hi : i < cs.length) (hj : i < ds.length), Frz H n0 cs[i] ds[i]) : Frz H n0 (.agg cs) (.agg ds)
  | tup (cs ds : List SV) (hl : ds.length = cs.length) (h : ∀ (i : Nat) (hi : i < cs.length) (hj : i < ds.length), Frz H n0 cs[i] ds[i]) : Frz H n0 (.tup cs) (.tup ds)
  | row (id g off len n : Nat) (xs ys : List SV) (hid : n0 ≤ id) (hr : H[id]? = some (.row g n xs)) (hle : off + len ≤ xs.length) (hl : ys.length = len)
      (hc : ∀ (i : Nat) (hi : off + i < xs.length) (hj : i < ys.length), ys[i].cells.length = xs[off + i].cells.length)
      (h : ∀ (i : Nat) (hi : off + i < xs.length) (hj : i < ys.length) (j : Nat) (h1 : j < xs[off + i].cells.length) (h2 : j < ys[i].cells.length), Frz H n0 xs[off + i].cells[j] ys[i].cells[j]) :
      Frz H n0 (.slc id g off len) (.list n false ys)
theorem frz_sound {R : Env} (hR : HRep R) {Hf : List VB} (s : R.sub Hf) {x y : SV} (hf : Frz R.H Hf.length x y) : ∀ {v : Value}, Rep R x v → Rep { R with H := Hf } y v := by
  induction hf with
  | keep x h => exact fun hr => hr.forget s h
  | agg cs ds hl h ih =>
    intro v hr
    cases hr with
    | agg _ a ha hh => exact .agg ds a (by rw [ha, hl]) fun i hi hj => ih i (by omega) hi (hh i (by omega) hj)
  | tup cs ds hl h ih =>
    intro v hr
    cases hr with
    | tup _ a ha hh => exact .tup ds a (by rw [ha, hl]) fun i hi hj => ih i (by omega) hi (hh i (by omega) hj)
  | row id g off len n xs ys hid hrow hle hl hcl h ih =>
    intro v hr
    cases hr with
    | slcOld _ _ _ _ _ hid' ho => exact absurd (ho _ _ _ hrow) (by omega)
    | slc _ _ _ _ n' xs' ad c hr' hle' hc' ha =>
      rw [hrow] at hr'
      cases hr'
      obtain ⟨hn, hx⟩ := hR.row id g n xs hrow
      have hny : ∀ z, z ∈ ys → z.cells.length = n := fun z hz => by
        obtain ⟨i, hi, rfl⟩ := List.getElem_of_mem hz
        rw [hcl i (by omega) hi]
        exact hn _ (List.getElem_mem _)
      subst hl
      by_cases h0 : ys = []
      · subst h0
        exact .list n false [] ad c (fun _ => undef) (Nat.zero_le _) (fun h => by cases h) (fun z hz => by cases hz) (.inl rfl) (fun i hi => by cases hi)
      · have hpos : 0 < ys.length := List.length_pos_iff.2 h0
        obtain ⟨a, q1, rfl, q3⟩ := ha (by omega)
        rcases hx with ⟨e1, _⟩ | ⟨a', cs, e, fz, r1, r2, r3, r4, r5⟩
        · rw [e1] at q1; cases q1
        · rw [q1] at r1
          cases r1
          have hcell : ∀ o, cellAt R.w a.block o = cs[o]? := fun o => by simp [cellAt, World.cell?, r2]
          have hle2 : (off + ys.length) * n ≤ xs.length * n := Nat.mul_le_mul_right n hle
          have hmul : (off + ys.length) * n = off * n + ys.length * n := Nat.add_mul _ _ _
          refine .list n false ys _ c (fun j => (cs[a.off + off * n + j]?).getD undef) hc' (fun h => by cases h) hny (.inr ⟨a.block, a.off + off * n, rfl, ?_, fun j hj => ?_⟩) fun i hi j hj => ?_
          · refine ⟨(hR.addr id a (Env.row_live hrow) q1).2, fun id' a' hl' hr' hb => ?_⟩
            have hid2 : id' < Hf.length := by
              obtain ⟨b, hb1, _⟩ := hl'
              rcases Nat.lt_or_ge id' Hf.length with h | h
              · exact h
              · rw [show Hf[id']? = none from List.getElem?_eq_none h] at hb1; cases hb1
            have := hR.inj id' id a' a (s.live hl') (Env.row_live hrow) hr' q1 hb
            omega
          · show cellAt R.w a.block _ = _
            rw [hcell, Array.getElem?_eq_getElem (by omega)]
            rfl
          · have hxi : off + i < xs.length := by omega
            have hj' : j < xs[off + i].cells.length := by rw [← hcl i hxi hi]; exact hj
            have hjn : j < n := by rw [← hn _ (List.getElem_mem hxi)]; exact hj'
            have h1 : (off + i + 1) * n ≤ xs.length * n := Nat.mul_le_mul_right n (by omega)
            rw [Nat.succ_mul] at h1
            have hk : a.off + (off + i) * n + j < cs.size := by omega
            have h2 := r5 (off + i) hxi j hj' hk
            have h3 : (cs[a.off + off * n + (i * n + j)]?).getD undef = cs[a.off + (off + i) * n + j] := by
              rw [show a.off + off * n + (i * n + j) = a.off + (off + i) * n + j by rw [Nat.add_mul]; omega, Array.getElem?_eq_getElem hk]
              rfl
            show Rep _ _ ((cs[a.off + off * n + (i * n + j)]?).getD undef)
            rw [h3]
            exact ih i hxi hi j hj' hj h2
end Go.Vm
