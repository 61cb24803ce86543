/- The virtual machine, part 25: what a callee only reads is lent to it as memory that nobody turns; copies. Generic: no program in sight. -/
import Derived.Test.YthgpapnbnapdhaaVC
set_option linter.unusedVariables false
set_option linter.unusedSimpArgs false
namespace Go.Vm
open Go.RowKit

/-! ### Lending -/
inductive Lend (H : List VB) : SV → SV → Prop
  | junk : Lend H .junk .junk
  | v (x : Value) : Lend H (.v x) (.v x)
  | agg (cs ds : List SV) (hl : ds.length = cs.length) (h : ∀ (i : Nat) (hi : i < cs.length) (hj : i < ds.length), Lend H cs[i] ds[i]) : Lend H (.agg cs) (.agg ds)
  | tup (cs ds : List SV) (hl : ds.length = cs.length) (h : ∀ (i : Nat) (hi : i < cs.length) (hj : i < ds.length), Lend H cs[i] ds[i]) : Lend H (.tup cs) (.tup ds)
  | ro (cs ds : List SV) (hl : ds.length = cs.length) (h : ∀ (i : Nat) (hi : i < cs.length) (hj : i < ds.length), Lend H cs[i] ds[i]) : Lend H (.ro cs) (.ro ds)
  | fn (f : FuncId) (cs ds : List SV) (hl : ds.length = cs.length) (h : ∀ (i : Nat) (hi : i < cs.length) (hj : i < ds.length), Lend H cs[i] ds[i]) : Lend H (.fn f cs) (.fn f ds)
  | list (n : Nat) (full : Bool) (xs ys : List SV) (hl : ys.length = xs.length) (hc : ∀ (i : Nat) (hi : i < xs.length) (hj : i < ys.length), ys[i].cells.length = xs[i].cells.length)
      (h : ∀ (i : Nat) (hi : i < xs.length) (hj : i < ys.length) (j : Nat) (h1 : j < xs[i].cells.length) (h2 : j < ys[i].cells.length), Lend H xs[i].cells[j] ys[i].cells[j]) : Lend H (.list n full xs) (.list n full ys)
  | ptr (id off : Nat) (cs ds : List SV) (hb : H[id]? = some (.box cs)) (hle : off + ds.length ≤ cs.length) (h : ∀ (j : Nat) (hj : j < ds.length) (hi : off + j < cs.length), Lend H cs[off + j] ds[j]) : Lend H (.ptr id off) (.ro ds)
  | row (id g off len n : Nat) (xs ys : List SV) (hr : H[id]? = some (.row g n xs)) (hle : off + len ≤ xs.length) (hl : ys.length = len)
      (hc : ∀ (i : Nat) (hi : off + i < xs.length) (hj : i < ys.length), ys[i].cells.length = xs[off + i].cells.length)
      (h : ∀ (i : Nat) (hi : off + i < xs.length) (hj : i < ys.length) (j : Nat) (h1 : j < xs[off + i].cells.length) (h2 : j < ys[i].cells.length), Lend H xs[off + i].cells[j] ys[i].cells[j]) :
      Lend H (.slc id g off len) (.list n false ys)
  | rptr (id g i o n : Nat) (xs ds : List SV) (hr : H[id]? = some (.row g n xs)) (hi : i < xs.length) (hle : o + ds.length ≤ xs[i].cells.length)
      (h : ∀ (j : Nat) (hj : j < ds.length) (hk : o + j < xs[i].cells.length), Lend H xs[i].cells[o + j] ds[j]) : Lend H (.rptr id g i o) (.ro ds)
  | bsl (id off len cap : Nat) (cs ys : List SV) (hb : H[id]? = some (.box cs)) (hle : off + len ≤ cs.length) (hl : ys.length = len) (hc : ∀ y, y ∈ ys → y.cells = [y])
      (h : ∀ (j : Nat) (hj : j < ys.length) (hi : off + j < cs.length), Lend H cs[off + j] ys[j]) : Lend H (.bsl id off 1 len cap) (.list 1 false ys)
/-- The heap of which nothing is held. -/
def deadH (H : List VB) : List VB := H.map fun _ => .dead
theorem deadH_len (H : List VB) : (deadH H).length = H.length := by simp [deadH]
theorem deadH_get {H : List VB} {id : Nat} {b : VB} (h : (deadH H)[id]? = some b) : b = .dead := by
  simp only [deadH, List.getElem?_map, Option.map_eq_some_iff] at h
  obtain ⟨_, _, rfl⟩ := h
  rfl
def Env.lent (R : Env) : Env := { R with H := deadH R.H }
theorem lent_live (R : Env) (id : Nat) : ¬ R.lent.live id := fun ⟨b, h1, h2⟩ => h2 (deadH_get h1)
theorem lent_imm (R : Env) {b : Nat} (h : b < R.w.heap.size) : R.lent.imm b := ⟨h, fun id a hl _ => absurd hl (lent_live R id)⟩
theorem lent_hrep (R : Env) : HRep R.lent where
  addr := fun id a hl _ => absurd hl (lent_live R id)
  inj := fun id id' a a' hl => absurd hl (lent_live R id)
  box := fun id cs h => by cases deadH_get h
  row := fun id g n xs h => by cases deadH_get h
  map := fun id es h => by cases deadH_get h
theorem lend_sound {R : Env} (hR : HRep R) {x y : SV} (hl : Lend R.H x y) : ∀ {v : Value}, Rep R x v → Rep R.lent y v := by
  induction hl with
  | junk => exact fun h => .junk _
  | v x => exact fun h => by obtain rfl := rep_v.1 h; exact .v _
  | agg cs ds hl h ih =>
    intro v hr
    cases hr with
    | agg _ a ha hh => exact .agg ds a (by rw [ha, hl]) fun i hi hj => ih i (by omega) hi (hh i (by omega) hj)
  | tup cs ds hl h ih =>
    intro v hr
    cases hr with
    | tup _ a ha hh => exact .tup ds a (by rw [ha, hl]) fun i hi hj => ih i (by omega) hi (hh i (by omega) hj)
  | ro cs ds hl h ih =>
    intro v hr
    cases hr with
    | ro _ b o f hi hc hz hh => exact .ro ds b o f (lent_imm R hz) (fun j hj => hc j (by omega)) hz fun j hj => ih j (by omega) hj (hh j (by omega))
  | fn f cs ds hl h ih =>
    intro v hr
    cases hr with
    | fn _ _ a ha hh => exact .fn _ ds a (by rw [ha, hl]) fun i hi hj => ih i (by omega) hi (hh i (by omega) hj)
  | list n full xs ys hl hc h ih =>
    intro v hr
    cases hr with
    | list _ _ _ a c f hcc hfull hn ha hh =>
      rw [← hl]
      refine .list n full ys a c f (by omega) (fun e => by rw [hfull e, hl]) (fun y hy => ?_) ?_ fun i hi j hj => ih i (by omega) hi j (by rw [← hc i (by omega) hi]; exact hj) hj (hh i (by omega) j (by rw [← hc i (by omega) hi]; exact hj))
      · obtain ⟨i, hi, rfl⟩ := List.getElem_of_mem hy
        rw [hc i (by omega) hi]
        exact hn _ (List.getElem_mem _)
      · rcases ha with ha | ⟨b, o, h1, h2, h3⟩
        · exact .inl (List.eq_nil_of_length_eq_zero (by rw [hl, ha]; rfl))
        · exact .inr ⟨b, o, h1, lent_imm R h2.1, by rw [hl]; exact h3⟩
  | ptr id off cs ds hb hle h ih =>
    intro v hr
    cases hr with
    | ptr _ _ a hid hbb hρ hs =>
      obtain ⟨a', c, e, fz, q1, q2, q3, q4, q5⟩ := hR.box id cs hb
      rw [hρ] at q1
      cases q1
      have hbl := (hR.addr id a ⟨_, hb, by simp⟩ hρ).2
      refine .ro ds a.block (a.off + off) (fun j => c.getD (a.off + (off + j)) undef) (lent_imm R hbl) (fun j hj => ?_) hbl fun j hj => ?_
      · show cellAt R.w a.block (a.off + off + j) = _
        rw [cellAt_of_block q2, Nat.add_assoc, Array.getElem?_eq_getElem (by omega), Array.getD_eq_getD_getElem?, Array.getElem?_eq_getElem (by omega)]
        rfl
      · have := ih j hj (by omega) (q5 (off + j) (by omega) (by omega))
        rw [Array.getD_eq_getD_getElem?, Array.getElem?_eq_getElem (by omega)]
        exact this
  | row id g off len n xs ys hr hle hl hc h ih =>
    intro v hrep
    obtain ⟨hn, hrow⟩ := hR.row id g n xs hr
    cases hrep with
    | slc _ _ _ _ n' xs' x c hr' hle' hcc ha =>
      rw [hr] at hr'
      cases hr'
      have hy : ∀ (i : Nat) (hi : i < ys.length), ys[i].cells.length = n := fun i hi => by
        rw [hc i (by omega) hi]; exact hn _ (List.getElem_mem _)
      by_cases h0 : len = 0
      · have hy0 : ys = [] := List.eq_nil_of_length_eq_zero (by omega)
        subst hy0
        have : len = ([] : List SV).length := by simpa using h0
        rw [this]
        exact .list n false [] x c (fun _ => undef) (Nat.zero_le _) (fun e => by cases e) (fun y hy => by cases hy) (.inl rfl) fun i hi => absurd hi (Nat.not_lt_zero _)
      · obtain ⟨a, q1, q2, q3⟩ := ha (by omega)
        rcases hrow with hrow | ⟨a', c', e, fz, p1, p2, p3, p4, p5⟩
        · rw [hrow.1] at q1; cases q1
        · rw [q1] at p1
          cases p1
          have hbl := (hR.addr id a ⟨_, hr, by simp⟩ q1).2
          have key : ∀ (i : Nat), i < len → ∀ j, j < n → a.off + (off + i) * n + j < c'.size := fun i hi j hj => by
            have h4 : (off + i + 1) * n ≤ xs.length * n := Nat.mul_le_mul_right n (by omega)
            have h5 : (off + i + 1) * n = (off + i) * n + n := Nat.succ_mul _ n
            omega
          have hadd : ∀ i, a.off + off * n + i * n = a.off + (off + i) * n := fun i => by rw [Nat.add_mul]; omega
          rw [← hl]
          refine .list n false ys x c (fun k => c'.getD (a.off + off * n + k) undef) (by omega) (fun e => by cases e) (fun y hy' => ?_) (.inr ⟨a.block, a.off + off * n, q2, lent_imm R hbl, fun k hk => ?_⟩) fun i hi j hj => ?_
          · obtain ⟨i, hi, rfl⟩ := List.getElem_of_mem hy'; exact hy i hi
          · show cellAt R.w a.block (a.off + off * n + k) = _
            have hk' : a.off + off * n + k < c'.size := by
              have h4 : (off + len) * n ≤ xs.length * n := Nat.mul_le_mul_right n hle
              have h5 : (off + len) * n = off * n + len * n := Nat.add_mul ..
              rw [hl] at hk
              omega
            rw [cellAt_of_block p2, Array.getElem?_eq_getElem hk', Array.getD_eq_getD_getElem?, Array.getElem?_eq_getElem hk']
            rfl
          · have e1 := hy i hi
            have hlt := key i (by omega) j (by omega)
            have := ih i (by omega) hi j (by rw [← hc i (by omega) hi]; exact hj) hj (p5 (off + i) (by omega) j (by rw [← hc i (by omega) hi]; exact hj) hlt)
            have e2 : a.off + off * n + (i * n + j) = a.off + (off + i) * n + j := by rw [← hadd]; omega
            show Rep R.lent ys[i].cells[j] (c'.getD (a.off + off * n + (i * n + j)) undef)
            rw [e2, Array.getD_eq_getD_getElem?, Array.getElem?_eq_getElem hlt]
            exact this
    | slcOld _ _ _ _ _ hid hold => exact absurd (hold _ _ _ hr) (Nat.lt_irrefl _)
  | rptr id g i o n xs ds hr hi hle h ih =>
    intro v hrep
    obtain ⟨hn, hrow⟩ := hR.row id g n xs hr
    cases hrep with
    | rptr _ _ _ _ n' xs' a hr' hi' hρ hs =>
      rw [hr] at hr'
      cases hr'
      rcases hrow with hrow | ⟨a', c', e, fz, p1, p2, p3, p4, p5⟩
      · rw [hrow.1] at hρ; cases hρ
      · rw [hρ] at p1
        cases p1
        have hbl := (hR.addr id a ⟨_, hr, by simp⟩ hρ).2
        have e1 := hn _ (List.getElem_mem hi)
        have h4 : (i + 1) * n ≤ xs.length * n := Nat.mul_le_mul_right n (by omega)
        have h5 : (i + 1) * n = i * n + n := Nat.succ_mul _ n
        refine .ro ds a.block (a.off + i * n + o) (fun j => c'.getD (a.off + i * n + o + j) undef) (lent_imm R hbl) (fun j hj => ?_) hbl fun j hj => ?_
        · show cellAt R.w a.block (a.off + i * n + o + j) = _
          rw [cellAt_of_block p2, Array.getElem?_eq_getElem (by omega), Array.getD_eq_getD_getElem?, Array.getElem?_eq_getElem (by omega)]
          rfl
        · have hlt : a.off + i * n + (o + j) < c'.size := by omega
          have := ih j hj (by omega) (p5 i hi (o + j) (by omega) hlt)
          show Rep R.lent ds[j] (c'.getD (a.off + i * n + o + j) undef)
          rw [show a.off + i * n + o + j = a.off + i * n + (o + j) by omega, Array.getD_eq_getD_getElem?, Array.getElem?_eq_getElem hlt]
          exact this
    | rptrOld _ _ _ _ _ hid hold => exact absurd (hold _ _ _ hr) (Nat.lt_irrefl _)
  | bsl id off len cap cs ys hb hle hl hc h ih =>
    intro v hrep
    cases hrep with
    | bsl _ _ _ _ _ x hid hbb hlc ha =>
      have hy1 : ∀ y, y ∈ ys → y.cells.length = 1 := fun y hy => by rw [hc y hy]; rfl
      by_cases h0 : len = 0
      · have hy0 : ys = [] := List.eq_nil_of_length_eq_zero (by omega)
        subst hy0
        have : len = ([] : List SV).length := by simpa using h0
        rw [this]
        exact .list 1 false [] x cap (fun _ => undef) (Nat.zero_le _) (fun e => by cases e) (fun y hy => by cases hy) (.inl rfl) fun i hi => absurd hi (Nat.not_lt_zero _)
      · obtain ⟨a, q1, q2, q3⟩ := ha (by omega)
        obtain ⟨a', c, e, fz, p1, p2, p3, p4, p5⟩ := hR.box id cs hb
        rw [q1] at p1
        cases p1
        have hbl := (hR.addr id a ⟨_, hb, by simp⟩ q1).2
        rw [← hl]
        refine .list 1 false ys x cap (fun k => c.getD (a.off + off + k) undef) (by omega) (fun e => by cases e) hy1 (.inr ⟨a.block, a.off + off, q3, lent_imm R hbl, fun k hk => ?_⟩) fun i hi j hj => ?_
        · show cellAt R.w a.block (a.off + off + k) = _
          rw [cellAt_of_block p2, Array.getElem?_eq_getElem (by omega), Array.getD_eq_getD_getElem?, Array.getElem?_eq_getElem (by omega)]
          rfl
        · have ec := hc _ (List.getElem_mem hi)
          have hj0 : j = 0 := by rw [ec] at hj; simpa using hj
          subst hj0
          have hlt : a.off + (off + i) < c.size := by omega
          have := ih i hi (by omega) (p5 (off + i) (by omega) hlt)
          have e2 : ys[i].cells[0] = ys[i] := List.getElem_of_eq ec _
          rw [e2]
          show Rep R.lent ys[i] (c.getD (a.off + off + (i * 1 + 0)) undef)
          rw [show a.off + off + (i * 1 + 0) = a.off + (off + i) by omega, Array.getD_eq_getD_getElem?, Array.getElem?_eq_getElem hlt]
          exact this
/-- Values that name no memory. -/
inductive SV.Plain : SV → Prop
  | v (x : Value) : SV.Plain (.v x)
  | agg (cs : List SV) (h : ∀ c, c ∈ cs → SV.Plain c) : SV.Plain (.agg cs)
  | tup (cs : List SV) (h : ∀ c, c ∈ cs → SV.Plain c) : SV.Plain (.tup cs)
theorem plain_rep {R R' : Env} {x : SV} {y : Value} (h : Rep R x y) (hp : x.Plain) : Rep R' x y := by
  induction h with
  | v x => exact .v _
  | agg cs a hl h ih => cases hp with | agg _ hc => exact .agg cs a hl fun i hi hj => ih i hi hj (hc _ (List.getElem_mem hi))
  | tup cs a hl h ih => cases hp with | tup _ hc => exact .tup cs a hl fun i hi hj => ih i hi hj (hc _ (List.getElem_mem hi))
  | _ => cases hp
def LendL (H : List VB) (xs ys : List SV) : Prop := ys.length = xs.length ∧ ∀ (i : Nat) (hi : i < xs.length) (hj : i < ys.length), Lend H xs[i] ys[i]
/-- A callee that only reads. -/
theorem VCalls.lend {P : Program} {f : FuncId} {args args' : List SV} {H : List VB} {p : SV → Prop} (hl : LendL H args args') (hc : VCalls P f args' (deadH H) fun r _ => p r) (hp : ∀ r, p r → r.Plain) :
    VCalls P f args H fun r H' => p r ∧ H' = H := by
  refine ⟨hc.1, fun R vs hR hH hvs => ?_⟩
  subst hH
  have h1 := hc.2 R.lent vs (lent_hrep R) rfl ⟨by rw [hvs.1, hl.1], fun i hi hj => lend_sound hR (hl.2 i (by have := hl.1; omega) hi) (hvs.2 i (by have := hl.1; omega) hj)⟩
  refine h1.mono ?_
  rintro e w' ⟨v, r, R', q1, q2, q3, q4, q5, q6⟩
  have g : Grows R.w R'.w := ⟨⟨q3.os, q3.tape, q3.output⟩, q3.size, fun b hb => q3.keep b hb fun id a hl _ => absurd hl (lent_live R id)⟩
  exact ⟨v, r, { R with w := R'.w }, q1, q2, g.ext hR, g.rep hR, plain_rep q5 (hp r q6), q6, rfl⟩
theorem kcall_lend {P : Program} {f : FuncId} {args args' : List SV} {h : KH} {K : SV → KH → Prop} {r0 : SV} (hl : LendL h.flat args args') (hc : VCalls P f args' (deadH h.flat) fun r H' => r = r0 ∧ H' = deadH h.flat) (hp : r0.Plain) (ho : h.ok) (hk : K r0 h) : KCall P f args h K :=
  kcall_pure (((hc.mono fun r H' h => h.1).lend (p := fun r => r = r0) hl fun r e => e ▸ hp)) ho hk
theorem lendL_nil {H : List VB} : LendL H [] [] := ⟨rfl, fun i hi => absurd hi (Nat.not_lt_zero _)⟩
theorem lendL_cons {H : List VB} {x y : SV} {xs ys : List SV} (h : Lend H x y) (hr : LendL H xs ys) : LendL H (x :: xs) (y :: ys) :=
  ⟨by simp [hr.1], fun i hi hj => by
    cases i with
    | zero => exact h
    | succ i => exact hr.2 i (by simpa using hi) (by simpa using hj)⟩
/-- A value that names no memory is lent as it is. -/
theorem lend_plain {H : List VB} {x : SV} (h : x.Plain) : Lend H x x := by
  induction h with
  | v x => exact .v x
  | agg cs h ih => exact .agg cs cs rfl fun i hi hj => ih _ (List.getElem_mem hi)
  | tup cs h ih => exact .tup cs cs rfl fun i hi hj => ih _ (List.getElem_mem hi)
/-- A row of values that name no memory, whole. -/
theorem lend_row {H : List VB} {id g n : Nat} {xs : List SV} (hr : H[id]? = some (.row g n xs)) (hp : ∀ x, x ∈ xs → ∀ c, c ∈ x.cells → c.Plain) : Lend H (.slc id g 0 xs.length) (.list n false xs) :=
  .row id g 0 xs.length n xs xs hr (by omega) rfl (fun i hi hj => by simp only [Nat.zero_add]) fun i hi hj j h1 h2 => by
    simp only [Nat.zero_add] at h1 ⊢
    exact lend_plain (hp _ (List.getElem_mem hj) _ (List.getElem_mem h2))
theorem lend_list {H : List VB} {n : Nat} {f : Bool} {xs : List SV} (hp : ∀ x, x ∈ xs → ∀ c, c ∈ x.cells → c.Plain) : Lend H (.list n f xs) (.list n f xs) :=
  .list n f xs xs rfl (fun i hi hj => rfl) fun i hi hj j h1 h2 => lend_plain (hp _ (List.getElem_mem hj) _ (List.getElem_mem h2))

/-! ### Copies -/
theorem kb_copy_box {P : Program} {ats : Array TypeId} {n0 : Nat} {base top : List VB} {j off len cap : Nat} {t e : TypeId} {cs ys : List SV} {x : SV} {K : SV → KH → Prop} (ho : base.length = n0) (ht : ats[0]? = some t) (hu : P.underlying t = some (.slice e)) (hs : (P.underlying e).isSome = true)
    (hce : P.cellsOf e = 1) (h : top[j]? = some (.box cs)) (hx : vsrc (KH.flat ⟨n0, base, top⟩) 1 x = some ys) (hcl : ∀ y, y ∈ ys → ∀ c, c ∈ y.cells → svCell (KH.flat ⟨n0, base, top⟩) c = true) (hle : off + len ≤ cs.length)
    (hk : K (.v (.int .i64 (min ys.length len : Nat))) ⟨n0, base, top.set j (.box (lput cs off ((ys.take (min ys.length len)).flatMap SV.cells)))⟩) : KB P ⟨n0, base, top⟩ .copy ats [.bsl (n0 + j) off 1 len cap, x] K :=
  ⟨t, e, ys, ht, hu, hs, by rw [hce]; exact hx, hcl, cs, (flat_get_top ho j).trans h, hce.symm, by omega, ⟨_, (flat_set_top ho j _).symm, ho, rfl, hk⟩⟩
theorem kb_copy_base {P : Program} {ats : Array TypeId} {n0 : Nat} {base top : List VB} {id off len cap : Nat} {t e : TypeId} {cs ys : List SV} {x : SV} {K : SV → KH → Prop} (ho : base.length = n0) (ht : ats[0]? = some t) (hu : P.underlying t = some (.slice e)) (hs : (P.underlying e).isSome = true)
    (hce : P.cellsOf e = 1) (h : base[id]? = some (.box cs)) (hx : vsrc (KH.flat ⟨n0, base, top⟩) 1 x = some ys) (hcl : ∀ y, y ∈ ys → ∀ c, c ∈ y.cells → svCell (KH.flat ⟨n0, base, top⟩) c = true) (hle : off + len ≤ cs.length)
    (hk : K (.v (.int .i64 (min ys.length len : Nat))) ⟨n0, base.set id (.box (lput cs off ((ys.take (min ys.length len)).flatMap SV.cells))), top⟩) : KB P ⟨n0, base, top⟩ .copy ats [.bsl id off 1 len cap, x] K :=
  ⟨t, e, ys, ht, hu, hs, by rw [hce]; exact hx, hcl, cs, flat_get_base h, hce.symm, by omega, ⟨_, (flat_set_base (lt_of_some h) _).symm, by simpa [KH.ok] using ho, rfl, hk⟩⟩
/-- A part of a row becomes zero. -/
theorem kb_clear_base {P : Program} {ats : Array TypeId} {n0 : Nat} {base top : List VB} {id g off len : Nat} {t e : TypeId} {z : Value} {xs : List SV} {K : SV → KH → Prop} (ho : base.length = n0) (ht : ats[0]? = some t) (hu : P.underlying t = some (.slice e)) (hz : zcells P e = some [.v z]) (h1 : z.oneCell' = true)
    (h : base[id]? = some (.row g 1 xs)) (hle : off + len ≤ xs.length) (hk : K (.tup []) ⟨n0, base.set id (.row g 1 (xs.take off ++ List.replicate len (.v z) ++ xs.drop (off + len))), top⟩) : KB P ⟨n0, base, top⟩ .clear ats [.slc id g off len] K :=
  ⟨t, e, z, ht, hu, hz, h1, xs, flat_get_base h, hle, ⟨_, (flat_set_base (lt_of_some h) _).symm, by simpa [KH.ok] using ho, rfl, hk⟩⟩
/-- A text's bytes, that nobody will turn. -/
theorem kconvb_list {P : Program} {h : KH} {s d e : TypeId} {b : ByteArray} {K : SV → KH → Prop} (ho : h.ok) (hs : (P.underlying s).isSome = true) (hd : P.underlying d = some (.slice e)) (he : P.underlying e = some (.int .u8)) (hb : b.size ≤ 1099511627776)
    (hk : K (.list 1 false (b.data.toList.map byteSV)) h) : KConvB P h s d (.v (.string b)) K :=
  ⟨b, e, rfl, hs, hd, he, hb, .inr ⟨h, rfl, ho, rfl, hk⟩⟩
end Go.Vm
