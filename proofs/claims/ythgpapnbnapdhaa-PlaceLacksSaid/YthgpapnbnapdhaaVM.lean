/- The virtual machine: maps whose keys are texts: one is made, an entry is looked up, one is written. Generic: no program in sight. -/
import Derived.Test.YthgpapnbnapdhaaVA
import Derived.ChangeMaps5
set_option linter.unusedVariables false
set_option linter.unusedSimpArgs false
namespace Go.Vm
open Go.RowKit Go.MapKept Go.ChangeMaps
/-- Which entry a text has. -/
def findS (s : ByteArray) : List (Value × SV) → Nat → Option (Option (Nat × SV))
  | [], _ => some none
  | (.string u, x) :: r, i => if s = u then some (some (i, x)) else findS s r (i + 1)
  | _ :: _, _ => none
theorem ba_beq (s u : ByteArray) : (s == u) = decide (s = u) := by
  obtain ⟨a⟩ := s
  obtain ⟨b⟩ := u
  have : ((⟨a⟩ : ByteArray) == ⟨b⟩) = (a == b) := rfl
  rw [this, Bool.eq_iff_iff]
  simp
theorem findS_sound {R : Env} (s : ByteArray) : ∀ (es : List (Value × SV)) (ls : List MapEntry) (i : Nat) (o : Option (Nat × SV)), es.length = ls.length →
    (∀ (j : Nat) (hj : j < es.length) (hk : j < ls.length), ls[j].key = (es[j]).1 ∧ Rep R (es[j]).2 ls[j].val) → findS s es i = some o →
    (o = none ∧ Instr.findNow .string (.string s) ls i = some none) ∨ ∃ k x e, o = some (k, x) ∧ Instr.findNow .string (.string s) ls i = some (some (k, e.val)) ∧ Rep R x e.val ∧ i ≤ k ∧ ls[k - i]? = some e ∧ e.key = .string s
  | [], [], i, o, _, _, h => by cases h; exact .inl ⟨rfl, rfl⟩
  | [], _ :: _, _, _, hl, _, _ => by simp at hl
  | _ :: _, [], _, _, hl, _, _ => by simp at hl
  | (kv, x) :: r, e :: ls, i, o, hl, hr, h => by
    have h0 := hr 0 (by simp) (by simp)
    simp only [List.getElem_cons_zero] at h0
    cases kv with
    | string u =>
      simp only [findS] at h
      simp only [Instr.findNow, h0.1, Instr.sameNow, ba_beq]
      by_cases e1 : s = u
      · subst e1
        rw [if_pos rfl] at h
        cases h
        refine .inr ⟨i, x, e, rfl, ?_, h0.2, Nat.le_refl _, ?_, h0.1⟩
        · rw [decide_eq_true rfl]
        · rw [Nat.sub_self]; rfl
      · rw [if_neg e1] at h
        rw [decide_eq_false e1]
        rcases findS_sound s r ls (i + 1) o (by simpa using hl) (fun j hj hk => by have := hr (j + 1) (by simpa using hj) (by simpa using hk); simpa using this) h with h1 | ⟨k, x', e', q1, q2, q3, q4, q5, q6⟩
        · exact .inl h1
        · refine .inr ⟨k, x', e', q1, q2, q3, by omega, ?_, q6⟩
          rw [show k - i = (k - (i + 1)) + 1 by omega, List.getElem?_cons_succ]
          exact q5
    | _ => simp [findS] at h
def pZero1 (P : Program) (e : TypeId) : Option SV := ((P.info? e).bind (·.zero)).map .v
theorem pZero1_sound {P : Program} {R : Env} {e : TypeId} {z : SV} (h : pZero1 P e = some z) : ∃ v, (∀ w, (zeroValue e).run P w = .ok v w) ∧ Rep R z v := by
  unfold pZero1 at h
  obtain ⟨v, hv, rfl⟩ := Option.map_eq_some_iff.1 h
  obtain ⟨i, hi, hz⟩ := Option.bind_eq_some_iff.1 hv
  exact ⟨v, fun w => by simp [zeroValue, typeInfo, hi, hz], .v _⟩
def pLookup (P : Program) (H : List VB) (t : TypeId) (x k : SV) (c : Bool) : Option SV :=
  match P.underlying t with
  | some (.map kt et) => match P.underlying kt with
    | some .string => match k with
      | .v (.string s) => match x with
        | .mapv id => match H[id]? with
          | some (.map es) => match findS s es 0 with
            | some (some p) => some (if c = true then .tup [p.2, .v (.bool true)] else p.2)
            | some none => (pZero1 P et).map fun z => if c = true then .tup [z, .v (.bool false)] else z
            | none => none
          | _ => none
        | _ => none
      | _ => none
    | _ => none
  | _ => none
theorem rep_pair {R : Env} {x : SV} {v : Value} (h : Rep R x v) (b : Bool) : Rep R (.tup [x, .v (.bool b)]) (.tuple #[v, .bool b]) := by
  refine .tup _ _ rfl fun i hi hj => ?_
  rcases i with _ | _ | i
  · exact h
  · exact .v _
  · simp at hi; omega
theorem pLookup_sound {P : Program} {R : Env} (hR : HRep R) {t : TypeId} {x k r : SV} {c : Bool} {a b : Value} (h : pLookup P R.H t x k c = some r) (ha : Rep R x a) (hb : Rep R k b) : Snd P R (Instr.lookup t a b c) r := by
  unfold pLookup at h
  split at h
  · rename_i kt et hu
    split at h
    · rename_i hk
      split at h
      · rename_i s
        obtain rfl := rep_v.1 hb
        split at h
        · rename_i id
          split at h
          · rename_i es hes
            cases ha with
            | mapv id' bl hid hbb hρ =>
            obtain ⟨bl', rs, clock, q1, q2, q3, q4, q5⟩ := hR.map id es hes
            rw [hρ] at q1
            cases q1
            have hkey : IsKey .string (.string s) := trivial
            split at h
            · rename_i p hf
              rcases findS_sound (R := R) s es rs.toList 0 _ (by simpa using q3.symm) (fun j hj hk' => by have := q4 j hj (by simpa using hk'); exact ⟨by simpa using this.1, by simpa using this.2.1⟩) hf with ⟨h1, _⟩ | ⟨k', x', e, h1, h2, h3, _, _, _⟩
              · cases h1
              · cases h1
                cases h
                refine ⟨if c = true then .tuple #[e.val, .bool true] else e.val, ?_, ?_⟩
                · simp [Instr.lookup, run_underlying hu, MapKept.run_getObj_map q2, run_checkKey hk hkey, Instr.findKey, run_underlying hk, h2, Result.andThen]
                · cases c
                  · exact h3
                  · exact rep_pair h3 true
            · rename_i hf
              rcases findS_sound (R := R) s es rs.toList 0 _ (by simpa using q3.symm) (fun j hj hk' => by have := q4 j hj (by simpa using hk'); exact ⟨by simpa using this.1, by simpa using this.2.1⟩) hf with ⟨_, h2⟩ | ⟨k', x', e, h1, _⟩
              · obtain ⟨z, hz, rfl⟩ := Option.map_eq_some_iff.1 h
                obtain ⟨v, hv, hrep⟩ := pZero1_sound (R := R) hz
                refine ⟨if c = true then .tuple #[v, .bool false] else v, ?_, ?_⟩
                · simp [Instr.lookup, run_underlying hu, MapKept.run_getObj_map q2, run_checkKey hk hkey, Instr.findKey, run_underlying hk, h2, hv, Result.andThen]
                · cases c
                  · exact hrep
                  · exact rep_pair hrep false
              · cases h1
            · cases h
          · cases h
        · cases h
      · cases h
    · cases h
  · cases h
def vMapUpd (P : Program) (H : List VB) (t : TypeId) (m k v : SV) (K : SV → List VB → Prop) : Prop :=
  match P.underlying t with
  | some (.map kt et) => match P.underlying kt with
    | some .string => match k with
      | .v (.string s) => match m with
        | .mapv id => match H[id]? with
          | some (.map es) => match findS s es 0 with
            | some (some p) => K .junk (H.set id (.map (es.set p.1 (.string s, v))))
            | some none => K .junk (H.set id (.map (es ++ [(.string s, v)])))
            | none => False
          | _ => False
        | _ => False
      | _ => False
    | _ => False
  | _ => False
theorem vMapUpd_mono {P : Program} {H : List VB} {t : TypeId} {m k v : SV} {K K' : SV → List VB → Prop} (h : vMapUpd P H t m k v K) (hk : ∀ r H', K r H' → K' r H') : vMapUpd P H t m k v K' := by
  unfold vMapUpd at h ⊢
  split at h <;> (try exact h.elim)
  split at h <;> (try exact h.elim)
  split at h <;> (try exact h.elim)
  split at h <;> (try exact h.elim)
  split at h <;> (try exact h.elim)
  split at h <;> (try exact h.elim)
  · exact hk _ _ h
  · exact hk _ _ h
theorem map_turn {R : Env} (hR : HRep R) {id bl : Nat} {es es' : List (Value × SV)} {rs rs' : Array MapEntry} {clock clock' : Nat} (hes : R.H[id]? = some (.map es)) (hρ : R.ρ id = some ⟨bl, 0, none⟩) (q2 : R.w.heap[bl]? = some (.map rs clock))
    (q3 : rs'.size = es'.length) (q4 : ∀ (i : Nat) (hi : i < es'.length) (hk : i < rs'.size), rs'[i].key = (es'[i]).1 ∧ Rep R (es'[i]).2 rs'[i].val ∧ rs'[i].born < clock')
    (q5 : ∀ (i j : Nat) (hi : i < rs'.size) (hj : j < rs'.size), i < j → rs'[i].born < rs'[j].born) :
    Ext R ⟨R.H.set id (.map es'), R.ρ, { R.w with heap := R.w.heap.setIfInBounds bl (.map rs' clock') }⟩ ∧ HRep ⟨R.H.set id (.map es'), R.ρ, { R.w with heap := R.w.heap.setIfInBounds bl (.map rs' clock') }⟩ := by
  have hbl : bl < R.w.heap.size := (hR.addr id ⟨bl, 0, none⟩ ⟨_, hes, by simp⟩ hρ).2
  have hs : (R.w.heap.setIfInBounds bl (.map rs' clock')).size = R.w.heap.size := by simp
  have hk : ∀ j, (∀ a, R.ρ id = some a → a.block ≠ j) → (R.w.heap.setIfInBounds bl (.map rs' clock'))[j]? = R.w.heap[j]? := fun j hj => by
    have := hj _ hρ
    rw [Array.getElem?_setIfInBounds_ne this]
  have hz : ∀ j, blkSize { R.w with heap := R.w.heap.setIfInBounds bl (.map rs' clock') } j = blkSize R.w j := fun j => by
    by_cases e : j = bl
    · subst e
      simp only [blkSize, q2]
      rw [Array.getElem?_setIfInBounds_self_of_lt hbl]
    · simp only [blkSize]
      rw [Array.getElem?_setIfInBounds_ne (Ne.symm e)]
  have hid : id < R.H.length := lt_of_some hes
  have hsm := set_same R.H id (.map es') hid
  have ht : Turns (.map es) (.map es') := trivial
  refine ⟨Ext.set hR hes ht ⟨rfl, rfl, rfl⟩ hs hk hz, HRep.set hR hes ht ⟨rfl, rfl, rfl⟩ hs hk hz fun e => ⟨fun cs h1 => ?_, fun g n xs h1 => ?_, fun es1 h1 => ?_⟩⟩
  · cases hsm.symm.trans h1
  · cases hsm.symm.trans h1
  · cases hsm.symm.trans h1
    exact ⟨bl, rs', clock', hρ, Array.getElem?_setIfInBounds_self_of_lt hbl, q3, fun i hi hk => ⟨(q4 i hi hk).1, (q4 i hi hk).2.1.mono e, (q4 i hi hk).2.2⟩, q5⟩
theorem vMapUpd_sound {P : Program} {R : Env} (hR : HRep R) {t : TypeId} {m k v : SV} {K : SV → List VB → Prop} {a b c : Value} (h : vMapUpd P R.H t m k v K) (ha : Rep R m a) (hb : Rep R k b) (hc : Rep R v c) :
    ∃ R' : Env, (Instr.mapUpdate t a b c).run P R.w = .ok () R'.w ∧ Ext R R' ∧ HRep R' ∧ K .junk R'.H := by
  unfold vMapUpd at h
  split at h <;> (try exact h.elim)
  rename_i kt et hu
  split at h <;> (try exact h.elim)
  rename_i hk
  split at h <;> (try exact h.elim)
  rename_i s
  obtain rfl := rep_v.1 hb
  split at h <;> (try exact h.elim)
  rename_i id
  split at h <;> (try exact h.elim)
  rename_i es hes
  cases ha with
  | mapv id' bl hid hbb hρ =>
  obtain ⟨bl', rs, clock, q1, q2, q3, q4, q5⟩ := hR.map id es hes
  rw [hρ] at q1
  cases q1
  have hkey : IsKey .string (.string s) := trivial
  have hall : ∀ (j : Nat) (hj : j < es.length) (hk : j < rs.toList.length), rs.toList[j].key = (es[j]).1 ∧ Rep R (es[j]).2 rs.toList[j].val := fun j hj hk' => by have := q4 j hj (by simpa using hk'); exact ⟨by simpa using this.1, by simpa using this.2.1⟩
  split at h
  · rename_i p hf
    rcases findS_sound (R := R) s es rs.toList 0 _ (by simpa using q3.symm) hall hf with ⟨h1, _⟩ | ⟨k', x', e, h1, h2, h3, _, h5, h6⟩
    · cases h1
    · cases h1
      rw [Nat.sub_zero, Array.getElem?_toList] at h5
      obtain ⟨hkl, h5'⟩ := Array.getElem?_eq_some_iff.1 h5
      obtain ⟨e1, e2⟩ := map_turn hR (es' := es.set k' (.string s, v)) (rs' := rs.modify k' fun e => { e with key := .string s, val := c }) (clock' := clock) hes hρ q2 (by simp [q3])
        (fun i hi hk' => by
          have hi' : i < es.length := by simpa using hi
          have hq := q4 i hi' (by simpa using hk')
          rw [Array.getElem_modify]
          by_cases hik : k' = i
          · subst hik
            simp only [if_true, List.getElem_set_self]
            exact ⟨trivial, hc, hq.2.2⟩
          · rw [if_neg hik, List.getElem_set_ne hik]
            exact hq)
        (fun i j hi hj hij => by
          have hq := q5 i j (by simpa using hi) (by simpa using hj) hij
          rw [Array.getElem_modify, Array.getElem_modify]
          split <;> split <;> exact hq)
      refine ⟨_, ?_, e1, e2, h⟩
      simp [Instr.mapUpdate, run_underlying hu, MapKept.run_getObj_map q2, run_checkKey hk hkey, Instr.findKey, run_underlying hk, h2, Result.andThen, h5, h6, Instr.keyThatStays, Instr.sameBits, ba_beq, MapKept.run_setObj_map _ q2]
  · rename_i hf
    rcases findS_sound (R := R) s es rs.toList 0 _ (by simpa using q3.symm) hall hf with ⟨_, h2⟩ | ⟨k', x', e, h1, _⟩
    · obtain ⟨e1, e2⟩ := map_turn hR (es' := es ++ [(.string s, v)]) (rs' := rs.push { key := .string s, val := c, born := clock }) (clock' := clock + 1) hes hρ q2 (by simp [q3])
        (fun i hi hk' => by
          rcases Nat.lt_or_ge i es.length with hi' | hi'
          · have hq := q4 i hi' (by omega)
            rw [Array.getElem_push_lt (by omega), List.getElem_append_left hi']
            exact ⟨hq.1, hq.2.1, by have := hq.2.2; omega⟩
          · obtain rfl : i = es.length := by simp at hi; omega
            have e3 : (rs.push { key := .string s, val := c, born := clock })[es.length]'hk' = { key := .string s, val := c, born := clock } := by simp only [← q3, Array.getElem_push_eq]
            rw [e3, List.getElem_append_right (Nat.le_refl _)]
            simp only [Nat.sub_self, List.getElem_cons_zero]
            exact ⟨trivial, hc, Nat.lt_succ_self _⟩)
        (fun i j hi hj hij => by
          rcases Nat.lt_or_ge j rs.size with hj' | hj'
          · rw [Array.getElem_push_lt (by omega), Array.getElem_push_lt hj']
            exact q5 i j (by omega) hj' hij
          · obtain rfl : j = rs.size := by simp at hj; omega
            rw [Array.getElem_push_lt hij, Array.getElem_push_eq]
            exact (q4 i (by omega) hij).2.2)
      refine ⟨_, ?_, e1, e2, h⟩
      simp [Instr.mapUpdate, run_underlying hu, MapKept.run_getObj_map q2, run_checkKey hk hkey, Instr.findKey, run_underlying hk, h2, Result.andThen, MapKept.run_setObj_map _ q2]
    · cases h1
  · exact h.elim
theorem map_new {R : Env} (h : HRep R) :
    Ext R ⟨R.H ++ [.map []], upd R.ρ R.H.length (some ⟨R.w.heap.size, 0, none⟩), R.w.alloc (.map #[] 0)⟩ ∧
    HRep ⟨R.H ++ [.map []], upd R.ρ R.H.length (some ⟨R.w.heap.size, 0, none⟩), R.w.alloc (.map #[] 0)⟩ ∧
    Rep ⟨R.H ++ [.map []], upd R.ρ R.H.length (some ⟨R.w.heap.size, 0, none⟩), R.w.alloc (.map #[] 0)⟩ (.mapv R.H.length) (.map (some R.w.heap.size)) := by
  have hs := new_same R.H (.map [])
  have gk : ∀ b, b < R.w.heap.size → (R.w.alloc (.map #[] 0)).heap[b]? = R.w.heap[b]? := fun b hb => Below.heap_alloc R.w _ b hb
  have gs : R.w.heap.size ≤ (R.w.alloc (.map #[] 0)).heap.size := by simp
  have ex := Ext.new h (.map []) (some ⟨R.w.heap.size, 0, none⟩) (w' := R.w.alloc (.map #[] 0)) ⟨rfl, rfl, rfl⟩ gs gk (fun a ha => by cases ha; exact Nat.le_refl _)
  refine ⟨ex, HRep.new h (.map []) (some ⟨R.w.heap.size, 0, none⟩) ⟨rfl, rfl, rfl⟩ gs gk (fun a ha => by cases ha; exact ⟨Nat.le_refl _, rfl, by simp⟩) fun e' => ⟨fun cs' h1 => ?_, fun g n xs h1 => ?_, fun es h1 => ?_⟩, ?_⟩
  · cases hs.symm.trans h1
  · cases hs.symm.trans h1
  · cases hs.symm.trans h1
    exact ⟨R.w.heap.size, #[], 0, upd_same .., heap_alloc_new .., rfl, fun i hi => absurd hi (by simp), fun i j hi => absurd hi (by simp)⟩
  · exact .mapv R.H.length R.w.heap.size (by simp) (fun g n xs h1 => by cases hs.symm.trans h1) (upd_same ..)
end Go.Vm
