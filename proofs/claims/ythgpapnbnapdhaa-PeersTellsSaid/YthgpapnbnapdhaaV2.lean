/- The virtual machine, part 2: how the virtual heap and the world turn together: new blocks, stores, rows that grow. Generic: no program in sight. -/
import Derived.Test.YthgpapnbnapdhaaV1
set_option linter.unusedVariables false
set_option linter.unusedSimpArgs false
namespace Go.Vm
open Go.RowKit

def upd (ρ : Nat → Option Addr) (k : Nat) (x : Option Addr) : Nat → Option Addr := fun i => if i = k then x else ρ i
theorem upd_same (ρ : Nat → Option Addr) (k : Nat) (x : Option Addr) : upd ρ k x k = x := by simp [upd]
theorem upd_other (ρ : Nat → Option Addr) (k : Nat) (x : Option Addr) {i : Nat} (h : i ≠ k) : upd ρ k x i = ρ i := by simp [upd, h]

/-- The world but for its heap. -/
structure Like (w w' : World) : Prop where
  os : w'.os = w.os
  tape : w'.tape = w.tape
  output : w'.output = w.output
theorem Like.refl (w : World) : Like w w := ⟨rfl, rfl, rfl⟩
theorem Like.trans {a b c : World} (h : Like a b) (k : Like b c) : Like a c := ⟨k.os.trans h.os, k.tape.trans h.tape, k.output.trans h.output⟩

/-- The obligations of one id. -/
def IdOk (R : Env) (k : Nat) : Prop :=
  (∀ cs, R.H[k]? = some (.box cs) → ∃ a c e fz, R.ρ k = some a ∧ R.w.heap[a.block]? = some (.cells c e fz) ∧ unfrozen fz c.size ∧ a.off + cs.length ≤ c.size ∧
    ∀ (j : Nat) (hj : j < cs.length) (hk : a.off + j < c.size), Rep R cs[j] c[a.off + j]) ∧
  (∀ g n xs, R.H[k]? = some (.row g n xs) → (∀ x, x ∈ xs → x.cells.length = n) ∧ ((R.ρ k = none ∧ xs = []) ∨
    ∃ a c e fz, R.ρ k = some a ∧ R.w.heap[a.block]? = some (.cells c e fz) ∧ unfrozen fz c.size ∧ a.off + xs.length * n ≤ c.size ∧
      ∀ (i : Nat) (hi : i < xs.length) (j : Nat) (hj : j < xs[i].cells.length) (hk : a.off + i * n + j < c.size), Rep R xs[i].cells[j] c[a.off + i * n + j])) ∧
  (∀ es, R.H[k]? = some (.map es) → ∃ b rs clock, R.ρ k = some ⟨b, 0, none⟩ ∧ R.w.heap[b]? = some (.map rs clock) ∧ rs.size = es.length ∧
    (∀ (i : Nat) (hi : i < es.length) (hk : i < rs.size), rs[i].key = (es[i]).1 ∧ Rep R (es[i]).2 rs[i].val ∧ rs[i].born < clock) ∧
    (∀ (i j : Nat) (hi : i < rs.size) (hj : j < rs.size), i < j → rs[i].born < rs[j].born))
theorem HRep.idOk {R : Env} (h : HRep R) (k : Nat) : IdOk R k := ⟨h.box k, h.row k, h.map k⟩
theorem IdOk.mono {R R' : Env} (e : Ext R R') {k : Nat} (h : IdOk R k) (hH : R'.H[k]? = R.H[k]?) (hρ : R'.ρ k = R.ρ k)
    (hw : ∀ a, R.ρ k = some a → R'.w.heap[a.block]? = R.w.heap[a.block]?) : IdOk R' k := by
  refine ⟨fun cs h1 => ?_, fun g n xs h1 => ?_, fun es h1 => ?_⟩
  · obtain ⟨a, c, e', fz, q1, q2, q3, q4, q5⟩ := h.1 cs (hH ▸ h1)
    exact ⟨a, c, e', fz, hρ.trans q1, (hw a q1).trans q2, q3, q4, fun j hj hk => (q5 j hj hk).mono e⟩
  · obtain ⟨hn, h2 | ⟨a, c, e', fz, q1, q2, q3, q4, q5⟩⟩ := h.2.1 g n xs (hH ▸ h1)
    · exact ⟨hn, .inl ⟨hρ.trans h2.1, h2.2⟩⟩
    · exact ⟨hn, .inr ⟨a, c, e', fz, hρ.trans q1, (hw a q1).trans q2, q3, q4, fun i hi j hj hk => (q5 i hi j hj hk).mono e⟩⟩
  · obtain ⟨b, rs, clock, q1, q2, q3, q4, q5⟩ := h.2.2 es (hH ▸ h1)
    exact ⟨b, rs, clock, hρ.trans q1, (hw _ q1).trans q2, q3, fun i hi hk => ⟨(q4 i hi hk).1, (q4 i hi hk).2.1.mono e, (q4 i hi hk).2.2⟩, q5⟩

/-- One id has turned, all else is as it was. -/
theorem HRep.step {R R' : Env} (h : HRep R) (e : Ext R R') (k : Nat)
    (ho : ∀ id, id ≠ k → R'.H[id]? = R.H[id]? ∧ R'.ρ id = R.ρ id ∧ (R.live id → ∀ a, R.ρ id = some a → R'.w.heap[a.block]? = R.w.heap[a.block]?))
    (hk : ∀ a, R'.live k → R'.ρ k = some a → a.spot = none ∧ a.block < R'.w.heap.size ∧ ∀ id a', id ≠ k → R.live id → R.ρ id = some a' → a'.block ≠ a.block)
    (hok : IdOk R' k) : HRep R' := by
  have hl : ∀ id, id ≠ k → (R'.live id ↔ R.live id) := fun id hne => by simp only [Env.live, (ho id hne).1]
  have hid : ∀ id, id ≠ k → R.live id → IdOk R' id := fun id hne hli => (h.idOk id).mono e (ho id hne).1 (ho id hne).2.1 ((ho id hne).2.2 hli)
  refine ⟨fun id a h1 h2 => ?_, fun id id' a a' h1 h2 h3 h4 h5 => ?_, fun id cs h1 => ?_, fun id g n xs h1 => ?_, fun id es h1 => ?_⟩
  · by_cases hne : id = k
    · subst hne; exact ⟨(hk a h1 h2).1, (hk a h1 h2).2.1⟩
    · have := h.addr id a ((hl id hne).1 h1) ((ho id hne).2.1 ▸ h2)
      exact ⟨this.1, Nat.lt_of_lt_of_le this.2 e.size⟩
  · by_cases hne : id = k
    · by_cases hne' : id' = k
      · rw [hne, hne']
      · subst hne
        exact absurd h5.symm ((hk a h1 h3).2.2 id' a' hne' ((hl id' hne').1 h2) ((ho id' hne').2.1 ▸ h4))
    · by_cases hne' : id' = k
      · subst hne'
        exact absurd h5 ((hk a' h2 h4).2.2 id a hne ((hl id hne).1 h1) ((ho id hne).2.1 ▸ h3))
      · exact h.inj id id' a a' ((hl id hne).1 h1) ((hl id' hne').1 h2) ((ho id hne).2.1 ▸ h3) ((ho id' hne').2.1 ▸ h4) h5
  · by_cases hne : id = k
    · subst hne; exact hok.1 cs h1
    · exact (hid id hne ⟨_, (ho id hne).1 ▸ h1, by simp⟩).1 cs h1
  · by_cases hne : id = k
    · subst hne; exact hok.2.1 g n xs h1
    · exact (hid id hne ⟨_, (ho id hne).1 ▸ h1, by simp⟩).2.1 g n xs h1
  · by_cases hne : id = k
    · subst hne; exact hok.2.2 es h1
    · exact (hid id hne ⟨_, (ho id hne).1 ▸ h1, by simp⟩).2.2 es h1

/-! ### The world alone turns: blocks are laid that no id has -/
theorem Ext.world {R : Env} (h : HRep R) {w' : World} (hl : Like R.w w') (hs : R.w.heap.size ≤ w'.heap.size) (hk : ∀ b, b < R.w.heap.size → w'.heap[b]? = R.w.heap[b]?) :
    Ext R { R with w := w' } where
  os := hl.os
  tape := hl.tape
  output := hl.output
  size := hs
  len := Nat.le_refl _
  keep := fun b hb _ => hk b hb
  bsz := fun b hb => by simp [blkSize, hk b hb]
  live := fun id a h1 h2 => .inl ⟨a, h1, h2, rfl⟩
  rho := fun id _ hb => ⟨rfl, hb⟩
  row := fun id g n xs h1 g' n' xs' h2 => by rw [show R.H[id]? = _ from h2] at h1; cases h1; exact .inl ⟨rfl, rfl, rfl, Nat.le_refl _⟩
  rowB := h.rowB
theorem HRep.world {R : Env} (h : HRep R) {w' : World} (hl : Like R.w w') (hs : R.w.heap.size ≤ w'.heap.size) (hk : ∀ b, b < R.w.heap.size → w'.heap[b]? = R.w.heap[b]?) :
    HRep { R with w := w' } := by
  have e := Ext.world h hl hs hk
  have hb : ∀ id a, R.live id → R.ρ id = some a → w'.heap[a.block]? = R.w.heap[a.block]? := fun id a h1 h2 => hk _ (h.addr id a h1 h2).2
  refine ⟨fun id a h1 h2 => ⟨(h.addr id a h1 h2).1, Nat.lt_of_lt_of_le (h.addr id a h1 h2).2 hs⟩, h.inj, fun id cs h1 => ?_, fun id g n xs h1 => ?_, fun id es h1 => ?_⟩
  · exact ((h.idOk id).mono e rfl rfl (fun a => hb id a ⟨_, h1, by simp⟩)).1 cs h1
  · exact ((h.idOk id).mono e rfl rfl (fun a => hb id a ⟨_, h1, by simp⟩)).2.1 g n xs h1
  · exact ((h.idOk id).mono e rfl rfl (fun a => hb id a ⟨_, h1, by simp⟩)).2.2 es h1

/-! ### A new id -/
theorem new_other (H : List VB) (b : VB) {id : Nat} (h : id ≠ H.length) : (H ++ [b])[id]? = H[id]? := by
  rcases Nat.lt_or_ge id H.length with h' | h'
  · exact List.getElem?_append_left h'
  · rw [List.getElem?_eq_none (by simp; omega), List.getElem?_eq_none h']
theorem new_same (H : List VB) (b : VB) : (H ++ [b])[H.length]? = some b := by simp
theorem Ext.new {R : Env} (h : HRep R) (b : VB) (x : Option Addr) {w' : World} (hl : Like R.w w') (hs : R.w.heap.size ≤ w'.heap.size)
    (hk : ∀ b, b < R.w.heap.size → w'.heap[b]? = R.w.heap[b]?) (hx : ∀ a, x = some a → R.w.heap.size ≤ a.block) : Ext R ⟨R.H ++ [b], upd R.ρ R.H.length x, w'⟩ where
  os := hl.os
  tape := hl.tape
  output := hl.output
  size := hs
  len := by simp
  keep := fun b hb _ => hk b hb
  bsz := fun b hb => by simp [blkSize, hk b hb]
  live := fun id a h1 h2 => by
    by_cases hne : id = R.H.length
    · subst hne; replace h2 : upd R.ρ R.H.length x R.H.length = _ := h2; rw [upd_same] at h2; exact .inr (hx a h2)
    · simp only [Env.live, new_other _ _ hne] at h1
      replace h2 : upd R.ρ R.H.length x id = _ := h2; rw [upd_other _ _ _ hne] at h2
      exact .inl ⟨a, h1, h2, rfl⟩
  rho := fun id hid hb => by
    have hne : id ≠ R.H.length := by omega
    exact ⟨upd_other _ _ _ hne, fun g n xs => by rw [new_other _ _ hne]; exact hb g n xs⟩
  row := fun id g n xs h1 g' n' xs' h2 => by
    have hne : id ≠ R.H.length := by have := lt_of_some h1; omega
    rw [new_other _ _ hne, h1] at h2
    cases h2
    exact .inl ⟨rfl, upd_other _ _ _ hne, rfl, Nat.le_refl _⟩
  rowB := h.rowB
theorem HRep.new {R : Env} (h : HRep R) (b : VB) (x : Option Addr) {w' : World} (hl : Like R.w w') (hs : R.w.heap.size ≤ w'.heap.size)
    (hk : ∀ b, b < R.w.heap.size → w'.heap[b]? = R.w.heap[b]?) (hx : ∀ a, x = some a → R.w.heap.size ≤ a.block ∧ a.spot = none ∧ a.block < w'.heap.size)
    (hok : Ext R ⟨R.H ++ [b], upd R.ρ R.H.length x, w'⟩ → IdOk ⟨R.H ++ [b], upd R.ρ R.H.length x, w'⟩ R.H.length) : HRep ⟨R.H ++ [b], upd R.ρ R.H.length x, w'⟩ := by
  have e := Ext.new h b x hl hs hk (fun a ha => (hx a ha).1)
  refine h.step e R.H.length (fun id hne => ⟨new_other _ _ hne, upd_other _ _ _ hne, fun hli a ha => hk _ (h.addr id a hli ha).2⟩) (fun a _ h2 => ?_) (hok e)
  replace h2 : upd R.ρ R.H.length x R.H.length = _ := h2; rw [upd_same] at h2
  refine ⟨(hx a h2).2.1, (hx a h2).2.2, fun id a' hne hli hr => ?_⟩
  have := (h.addr id a' hli hr).2
  have := (hx a h2).1
  omega

/-! ### A known id's block is written -/
theorem set_other (H : List VB) (k : Nat) (b : VB) {id : Nat} (h : id ≠ k) : (H.set k b)[id]? = H[id]? := by
  rw [List.getElem?_set_ne (Ne.symm h)]
theorem set_same (H : List VB) (k : Nat) (b : VB) (h : k < H.length) : (H.set k b)[k]? = some b := by simp [h]
/-- What a known id may become, its block written in place. -/
def Turns : VB → VB → Prop
  | .row g n xs, .row g' n' xs' => (g' = g ∧ n' = n ∧ xs.length ≤ xs'.length) ∨ g < g'
  | .row _ _ _, _ => False
  | .dead, _ => False
  | _, .row _ _ _ => False
  | _, _ => True
theorem Ext.set {R : Env} (h : HRep R) {k : Nat} {b b' : VB} (hb : R.H[k]? = some b) (ht : Turns b b') {w' : World} (hl : Like R.w w') (hs : w'.heap.size = R.w.heap.size)
    (hk : ∀ j, (∀ a, R.ρ k = some a → a.block ≠ j) → w'.heap[j]? = R.w.heap[j]?) (hz : ∀ j, blkSize w' j = blkSize R.w j) : Ext R ⟨R.H.set k b', R.ρ, w'⟩ where
  os := hl.os
  tape := hl.tape
  output := hl.output
  size := by rw [hs]; exact Nat.le_refl _
  len := by simp
  keep := fun j hj hn => hk j (fun a ha => hn k a ⟨b, hb, by rintro rfl; exact ht⟩ ha)
  bsz := fun j _ => hz j
  live := fun id a h1 h2 => by
    by_cases hne : id = k
    · subst hne; exact .inl ⟨a, ⟨b, hb, by rintro rfl; exact ht⟩, h2, rfl⟩
    · simp only [Env.live, set_other _ _ _ hne] at h1
      exact .inl ⟨a, h1, h2, rfl⟩
  rho := fun id hid hnr => by
    refine ⟨rfl, fun g n xs => ?_⟩
    by_cases hne : id = k
    · subst hne
      rw [set_same _ _ _ hid]
      rintro ⟨rfl⟩
      cases b <;> first | exact ht | exact hnr _ _ _ hb
    · rw [set_other _ _ _ hne]; exact hnr g n xs
  row := fun id g n xs h1 g' n' xs' h2 => by
    by_cases hne : id = k
    · subst hne
      rw [set_same _ _ _ (lt_of_some hb)] at h2
      cases h2
      rw [hb] at h1
      cases h1
      rcases ht with ⟨q1, q2, q3⟩ | q
      · exact .inl ⟨q1, rfl, q2, q3⟩
      · exact .inr q
    · rw [set_other _ _ _ hne, h1] at h2
      cases h2
      exact .inl ⟨rfl, rfl, rfl, Nat.le_refl _⟩
  rowB := h.rowB
theorem HRep.set {R : Env} (h : HRep R) {k : Nat} {b b' : VB} (hb : R.H[k]? = some b) (ht : Turns b b') {w' : World} (hl : Like R.w w') (hs : w'.heap.size = R.w.heap.size)
    (hk : ∀ j, (∀ a, R.ρ k = some a → a.block ≠ j) → w'.heap[j]? = R.w.heap[j]?) (hz : ∀ j, blkSize w' j = blkSize R.w j)
    (hok : Ext R ⟨R.H.set k b', R.ρ, w'⟩ → IdOk ⟨R.H.set k b', R.ρ, w'⟩ k) : HRep ⟨R.H.set k b', R.ρ, w'⟩ := by
  have e := Ext.set h hb ht hl hs hk hz
  have hlive : R.live k := ⟨b, hb, by rintro rfl; exact ht⟩
  refine h.step e k (fun id hne => ⟨set_other _ _ _ hne, rfl, fun hli a ha => hk _ (fun a' ha' hb' => hne (h.inj id k a a' hli hlive ha ha' hb'.symm))⟩) (fun a _ h2 => ?_) (hok e)
  have := h.addr k a hlive h2
  refine ⟨this.1, by rw [show (⟨R.H.set k b', R.ρ, w'⟩ : Env).w.heap.size = _ from hs]; exact this.2, fun id a' hne hli hr hb' => hne (h.inj id k a' a hli hlive hr h2 hb')⟩

/-! ### A row moves to a new block -/
theorem Ext.move {R : Env} (h : HRep R) {k g n g' n' : Nat} {xs xs' : List SV} (hb : R.H[k]? = some (.row g n xs)) (hg : g < g') {w' : World} (hl : Like R.w w')
    (hs : R.w.heap.size ≤ w'.heap.size) (hk : ∀ j, j < R.w.heap.size → w'.heap[j]? = R.w.heap[j]?) {a : Addr} (ha : R.w.heap.size ≤ a.block) :
    Ext R ⟨R.H.set k (.row g' n' xs'), upd R.ρ k (some a), w'⟩ where
  os := hl.os
  tape := hl.tape
  output := hl.output
  size := hs
  len := by simp
  keep := fun j hj _ => hk j hj
  bsz := fun j hj => by simp [blkSize, hk j hj]
  live := fun id x h1 h2 => by
    by_cases hne : id = k
    · subst hne
      replace h2 : upd R.ρ id (some a) id = _ := h2; rw [upd_same] at h2
      cases h2
      exact .inr ha
    · simp only [Env.live, set_other _ _ _ hne] at h1
      replace h2 : upd R.ρ k (some a) id = _ := h2; rw [upd_other _ _ _ hne] at h2
      exact .inl ⟨x, h1, h2, rfl⟩
  rho := fun id hid hnr => by
    have hne : id ≠ k := by rintro rfl; exact hnr _ _ _ hb
    exact ⟨upd_other _ _ _ hne, fun g n xs => by rw [set_other _ _ _ hne]; exact hnr g n xs⟩
  row := fun id g1 n1 xs1 h1 g2 n2 xs2 h2 => by
    by_cases hne : id = k
    · subst hne
      rw [set_same _ _ _ (lt_of_some hb)] at h2
      cases h2
      rw [hb] at h1
      cases h1
      exact .inr hg
    · rw [set_other _ _ _ hne, h1] at h2
      cases h2
      exact .inl ⟨rfl, upd_other _ _ _ hne, rfl, Nat.le_refl _⟩
  rowB := h.rowB
theorem HRep.move {R : Env} (h : HRep R) {k g n g' n' : Nat} {xs xs' : List SV} (hb : R.H[k]? = some (.row g n xs)) (hg : g < g') {w' : World} (hl : Like R.w w')
    (hs : R.w.heap.size ≤ w'.heap.size) (hk : ∀ j, j < R.w.heap.size → w'.heap[j]? = R.w.heap[j]?) {a : Addr} (ha : R.w.heap.size ≤ a.block) (hsp : a.spot = none) (hlt : a.block < w'.heap.size)
    (hok : Ext R ⟨R.H.set k (.row g' n' xs'), upd R.ρ k (some a), w'⟩ → IdOk ⟨R.H.set k (.row g' n' xs'), upd R.ρ k (some a), w'⟩ k) :
    HRep ⟨R.H.set k (.row g' n' xs'), upd R.ρ k (some a), w'⟩ := by
  have e := Ext.move (n' := n') (xs' := xs') h hb hg hl hs hk ha
  refine h.step e k (fun id hne => ⟨set_other _ _ _ hne, upd_other _ _ _ hne, fun hli x hx => hk _ (h.addr id x hli hx).2⟩) (fun x _ h2 => ?_) (hok e)
  replace h2 : upd R.ρ k (some a) k = _ := h2; rw [upd_same] at h2
  cases h2
  refine ⟨hsp, hlt, fun id a' hne hli hr => ?_⟩
  have := (h.addr id a' hli hr).2
  omega
end Go.Vm
