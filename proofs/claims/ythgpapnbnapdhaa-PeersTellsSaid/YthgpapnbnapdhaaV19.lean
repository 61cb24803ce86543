/- The virtual machine, part 19: regions that draw their order: whatever is drawn. Generic: no program in sight. -/
import Derived.Test.YthgpapnbnapdhaaV18
set_option linter.unusedVariables false
set_option linter.unusedSimpArgs false
namespace Go.Vm
open Go.RowKit

/-- What must be listed first: by name. -/
def dirOf (o : Oper) : List Nat := (o.after.toList.filter (Region.binds .any)).map (·.on)
def ancOf (tab : List Nat) : List Nat → Nat
  | [] => 0
  | d :: ds => (1 <<< d) ||| tab.getD d 0 ||| ancOf tab ds
def ancTab : List Oper → List Nat → List Nat
  | [], tab => tab
  | o :: os, tab => ancTab os (tab ++ [ancOf tab (dirOf o)])
def pairOk (P : Program) (ops : Array Oper) (tab : List Nat) (fl : Nat → Bool) (ds : List Nat) (i j : Nat) : Bool :=
  !ds.contains j && (Nat.testBit (tab.getD j 0) i || swapOk P ops fl i j) && !Nat.beq i j
def orderGo (P : Program) (ops : Array Oper) (tab : List Nat) (fl : Nat → Bool) : List Nat → Bool
  | [] => true
  | i :: rest => match ops[i]? with
    | some o => (dirOf o).all (fun d => Nat.blt d ops.size && !Nat.beq d i) && rest.all (pairOk P ops tab fl (dirOf o) i) && orderGo P ops tab fl rest
    | none => false
def orderOk (P : Program) (ops : Array Oper) (fl : Nat → Bool) (L : List Nat) : Bool :=
  orderGo P ops (ancTab ops.toList []) fl L && (List.range ops.size).all (L.contains ·) && Nat.ble L.length ops.size && ops.toList.all noDefer
section
variable {P : Program} {ops : Array Oper} {N : Nat}
theorem ancOf_spec {tab : List Nat} {x : Nat} : ∀ ds : List Nat, (ancOf tab ds).testBit x = true → ∃ d, d ∈ ds ∧ (d = x ∨ (tab.getD d 0).testBit x = true)
  | [], h => by simp [ancOf] at h
  | d :: ds, h => by
    simp only [ancOf, Nat.testBit_or, Bool.or_eq_true] at h
    rcases h with (h | h) | h
    · rw [Nat.one_shiftLeft, Nat.testBit_two_pow] at h
      exact ⟨d, by simp, .inl (by simpa using h)⟩
    · exact ⟨d, by simp, .inr h⟩
    · obtain ⟨d', h1, h2⟩ := ancOf_spec ds h
      exact ⟨d', by simp [h1], h2⟩
theorem getD_some {tab : List Nat} {i x : Nat} (h : (tab.getD i 0).testBit x = true) : i < tab.length := by
  rcases Nat.lt_or_ge i tab.length with h1 | h1
  · exact h1
  · rw [List.getD_eq_getElem?_getD, List.getElem?_eq_none h1] at h; simp at h
theorem ancTab_spec : ∀ (os pre : List Oper) (tab : List Nat), tab.length = pre.length →
    (∀ i x, (tab.getD i 0).testBit x = true → ∃ o, (pre ++ os)[i]? = some o ∧ ∃ d, d ∈ dirOf o ∧ (d = x ∨ (d < i ∧ (tab.getD d 0).testBit x = true))) →
    ∀ i x, ((ancTab os tab).getD i 0).testBit x = true → ∃ o, (pre ++ os)[i]? = some o ∧ ∃ d, d ∈ dirOf o ∧ (d = x ∨ (d < i ∧ ((ancTab os tab).getD d 0).testBit x = true))
  | [], pre, tab, hl, h, i, x, hx => h i x hx
  | o :: os, pre, tab, hl, h, i, x, hx => by
    have key := ancTab_spec os (pre ++ [o]) (tab ++ [ancOf tab (dirOf o)]) (by simp [hl]) (fun i x hx => by
      have hi := getD_some hx
      simp only [List.length_append, List.length_cons, List.length_nil] at hi
      by_cases hlt : i < tab.length
      · rw [List.getD_eq_getElem?_getD, List.getElem?_append_left hlt, ← List.getD_eq_getElem?_getD] at hx
        obtain ⟨o', h1, d, h2, h3⟩ := h i x hx
        refine ⟨o', by simpa using h1, d, h2, h3.imp id fun ⟨h4, h5⟩ => ⟨h4, ?_⟩⟩
        rw [List.getD_eq_getElem?_getD, List.getElem?_append_left (by omega), ← List.getD_eq_getElem?_getD]
        exact h5
      · have : i = tab.length := by omega
        subst this
        rw [List.getD_eq_getElem?_getD, List.getElem?_append_right (Nat.le_refl _)] at hx
        simp only [Nat.sub_self, List.getElem?_cons_zero, Option.getD_some] at hx
        obtain ⟨d, h1, h2⟩ := ancOf_spec _ hx
        refine ⟨o, by rw [hl]; simp, d, h1, h2.imp id fun h3 => ?_⟩
        have h4 := getD_some h3
        refine ⟨h4, ?_⟩
        rw [List.getD_eq_getElem?_getD, List.getElem?_append_left h4, ← List.getD_eq_getElem?_getD]
        exact h3)
    have := key i x hx
    simpa [ancTab] using this
theorem tab_spec {i x : Nat} (h : ((ancTab ops.toList []).getD i 0).testBit x = true) : ∃ o, ops[i]? = some o ∧ ∃ d, d ∈ dirOf o ∧ (d = x ∨ (d < i ∧ ((ancTab ops.toList []).getD d 0).testBit x = true)) := by
  have := ancTab_spec ops.toList [] [] rfl (fun i x hx => by simp at hx) i x h
  simpa using this
def Cl (ops : Array Oper) (listed : Array Bool) : Prop := ∀ j, listed.getD j false = true → ∀ o, ops[j]? = some o → ∀ d, d ∈ dirOf o → listed.getD d false = true
theorem anc_listed {listed : Array Bool} (hc : Cl ops listed) : ∀ (i : Nat), (∀ o, ops[i]? = some o → ∀ d, d ∈ dirOf o → listed.getD d false = true) → ∀ x, ((ancTab ops.toList []).getD i 0).testBit x = true → listed.getD x false = true := by
  intro i
  induction i using Nat.strongRecOn with
  | ind i ih =>
    intro hi x hx
    obtain ⟨o, h1, d, h2, h3⟩ := tab_spec hx
    have hd := hi o h1 d h2
    rcases h3 with rfl | ⟨h3, h4⟩
    · exact hd
    · exact ih d h3 (hc d hd) x h4
def PairR (P : Program) (ops : Array Oper) (fl : Nat → Bool) (i j : Nat) : Prop :=
  (∀ o, ops[i]? = some o → j ∉ dirOf o) ∧ (((ancTab ops.toList []).getD j 0).testBit i = true ∨ swapOk P ops fl i j = true) ∧ i ≠ j
theorem orderGo_spec {fl : Nat → Bool} : ∀ L : List Nat, orderGo P ops (ancTab ops.toList []) fl L = true → L.Pairwise (PairR P ops fl) ∧ ∀ i, i ∈ L → ∃ o, ops[i]? = some o ∧ ∀ d, d ∈ dirOf o → d < ops.size ∧ d ≠ i
  | [], _ => ⟨.nil, by simp⟩
  | i :: rest, h => by
    unfold orderGo at h
    split at h
    · rename_i o ho
      simp only [Bool.and_eq_true, List.all_eq_true] at h
      obtain ⟨⟨h1, h2⟩, h3⟩ := h
      obtain ⟨q1, q2⟩ := orderGo_spec rest h3
      refine ⟨.cons (fun j hj => ?_) q1, fun k hk => ?_⟩
      · have := h2 j hj
        simp only [pairOk, Bool.and_eq_true, Bool.not_eq_true', Bool.or_eq_true] at this
        obtain ⟨⟨p1, p2⟩, p3⟩ := this
        refine ⟨fun o' ho' => ?_, p2, fun e => ?_⟩
        · rw [ho] at ho'; cases ho'
          simpa using p1
        · subst e; simp at p3
      · rcases List.mem_cons.1 hk with rfl | hk
        · refine ⟨o, ho, fun d hd => ?_⟩
          have := h1 d hd
          simp only [Bool.and_eq_true, Bool.not_eq_true'] at this
          refine ⟨by simpa using this.1, fun e => ?_⟩
          subst e; simp at this
        · exact q2 k hk
    · cases h
theorem dir_ready {listed : Array Bool} {o : Oper} : (∀ e ∈ o.after, Region.binds .any e = true → listed.getD e.on false = true) ↔ ∀ d, d ∈ dirOf o → listed.getD d false = true := by
  unfold dirOf
  constructor
  · intro h d hd
    obtain ⟨e, he, rfl⟩ := List.mem_map.1 hd
    obtain ⟨h1, h2⟩ := List.mem_filter.1 he
    exact h e (by simpa using h1) h2
  · intro h e he hb
    exact h e.on (List.mem_map.2 ⟨e, List.mem_filter.2 ⟨by simpa using he, hb⟩, rfl⟩)
theorem TRep.teq {R : Env} {tm tm' : TM} {a : Act} (h : TRep R N tm a) (e : TEq tm tm') : TRep R N tm' a := ⟨h.size, fun t => by rw [← e t]; exact h.get t⟩
theorem draw_sound {R0 : Env} {r0 : Nat} {ro : Option Nat} {ds : List Deferred} {k : TM → List VB → Prop} {Q : Exit → Act → World → Prop} {fl : Nat → Bool} (hk : RNext R0 N ds k (Q .normal)) (hresp : RespT k)
    (hnd : ops.toList.all noDefer = true) : ∀ (fuel : Nat) (listed : Array Bool) (L : List Nat), L.length ≤ fuel → listed.size = ops.size → Cl ops listed → (∀ i, i ∈ L ↔ i < ops.size ∧ listed.getD i true = false) →
      L.Pairwise (PairR P ops fl) → (∀ i, i < ops.size → ∃ o, ops[i]? = some o ∧ ∀ d, d ∈ dirOf o → d < ops.size ∧ d ≠ i) →
      RNext R0 N ds (fun tm H => runL P N ops fl L tm H k) (wpAnyIn (WF ro) r0 P .any ops Q fuel listed) := by
  have lf : ∀ {listed : Array Bool} {i : Nat}, listed.size = ops.size → i < ops.size → (listed.getD i true = false ↔ ¬ listed.getD i false = true) := fun {listed i} hs hi => by
    rw [Array.getD_eq_getD_getElem?, Array.getD_eq_getD_getElem?, Array.getElem?_eq_getElem (by omega)]
    simp
  have stuck : ∀ (listed : Array Bool) (L : List Nat), listed.size = ops.size → (∀ i, i ∈ L ↔ i < ops.size ∧ listed.getD i true = false) → L.Pairwise (PairR P ops fl) →
      (∀ i, i < ops.size → ∃ o, ops[i]? = some o ∧ ∀ d, d ∈ dirOf o → d < ops.size ∧ d ≠ i) → Region.ready .any ops listed = [] → L = [] := by
    intro listed L hs hm hp hself hr
    cases L with
    | nil => rfl
    | cons i rest =>
      exfalso
      obtain ⟨hi, hli⟩ := (hm i).1 (by simp)
      obtain ⟨o, ho, hd⟩ := hself i hi
      have : i ∈ Region.ready .any ops listed := by
        rw [mem_ready]
        refine ⟨hli, o, ho, dir_ready.2 fun d hdd => ?_⟩
        obtain ⟨d1, d2⟩ := hd d hdd
        rcases Bool.eq_false_or_eq_true (listed.getD d false) with h | h
        · exact h
        · exfalso
          have hmem : d ∈ i :: rest := (hm d).2 ⟨d1, (lf hs d1).2 (by simp [h])⟩
          rcases List.mem_cons.1 hmem with e | hmem
          · exact d2 e
          · exact (List.rel_of_pairwise_cons hp hmem).1 o ho hdd
      rw [hr] at this
      cases this
  intro fuel
  induction fuel with
  | zero =>
    intro listed L hlen hs hcl hm hp hself R tm a e hR ht hd hv
    have hL : L = [] := List.length_eq_zero_iff.1 (by omega)
    subst hL
    refine ⟨?_, hk R tm a e hR ht hd hv⟩
    rcases hr : Region.ready .any ops listed with _ | ⟨i, rest⟩
    · rfl
    · have hi : i ∈ Region.ready .any ops listed := by rw [hr]; simp
      rw [mem_ready] at hi
      obtain ⟨h1, o, h2, _⟩ := hi
      have := (hm i).2 ⟨(Array.getElem?_eq_some_iff.1 h2).1, h1⟩
      cases this
  | succ fuel ih =>
    intro listed L hlen hs hcl hm hp hself R tm a e hR ht hd hv
    refine ⟨fun hr => ?_, fun i hi => ?_⟩
    · have hL := stuck listed L hs hm hp hself hr
      subst hL
      exact hk R tm a e hR ht hd hv
    · rw [mem_ready] at hi
      obtain ⟨h1, o, h2, h3⟩ := hi
      have hlt := (Array.getElem?_eq_some_iff.1 h2).1
      rw [dir_ready] at h3
      obtain ⟨A, B, rfl⟩ := List.append_of_mem ((hm i).2 ⟨hlt, h1⟩)
      have hpp := List.pairwise_append.1 hp
      have hA : ∀ x, x ∈ A → swapOk P ops fl x i = true := fun x hx => by
        have hxi := hpp.2.2 x hx i (by simp)
        rcases hxi.2.1 with h | h
        · exfalso
          have hl := anc_listed hcl i (fun o' ho' => by rw [h2] at ho'; cases ho'; exact h3) x h
          have hx' := (hm x).1 (by simp [hx])
          exact (lf hs hx'.1).1 hx'.2 hl
        · exact h
      have hf := runL_front hresp A B hA tm R.H hv
      simp only [step, h2] at hf
      have hlen' : (A ++ B).length ≤ fuel := by simp at hlen ⊢; omega
      have hset : (listed.setIfInBounds i true).size = ops.size := by simpa using hs
      have hcl' : Cl ops (listed.setIfInBounds i true) := fun j hj o' ho' d hdd => by
        by_cases hji : j = i
        · subst hji
          rw [h2] at ho'; cases ho'
          exact getD_set_true (h3 d hdd)
        · rw [getD_set_ne false (Ne.symm hji)] at hj
          exact getD_set_true (hcl j hj o' ho' d hdd)
      have hnot : i ∉ A ++ B := fun hmem => by
        rcases List.mem_append.1 hmem with h | h
        · exact (hpp.2.2 i h i (by simp)).2.2 rfl
        · exact (List.rel_of_pairwise_cons hpp.2.1 h).2.2 rfl
      have hm' : ∀ j, j ∈ A ++ B ↔ j < ops.size ∧ (listed.setIfInBounds i true).getD j true = false := fun j => by
        by_cases hji : j = i
        · subst hji
          refine ⟨fun h => absurd h hnot, fun ⟨_, h⟩ => ?_⟩
          rw [Array.getD_eq_getD_getElem?, Array.getElem?_setIfInBounds_self_of_lt (by omega)] at h
          cases h
        · rw [getD_set_ne true (Ne.symm hji), ← hm j]
          simp only [List.mem_append, List.mem_cons]
          constructor
          · rintro (h | h)
            · exact .inl h
            · exact .inr (.inr h)
          · rintro (h | h | h)
            · exact .inl h
            · exact absurd h hji
            · exact .inr h
      have hp' : (A ++ B).Pairwise (PairR P ops fl) := hp.sublist (List.Sublist.append (List.Sublist.refl A) (List.sublist_cons_self i B))
      have hnext := ih (listed.setIfInBounds i true) (A ++ B) hlen' hset hcl' hm' hp' hself
      have hndo : noDefer o = true := by
        rw [List.all_eq_true] at hnd
        exact hnd o (by simpa using Array.mem_of_getElem? h2)
      have := vop_sound (Q := Q) (r0 := r0) (ro := ro) (ops := ops) hnext e hR ht hd (vop_of_yval hf) (noDefer_spec hndo)
      unfold wpOpIn
      simp only [h2]
      split
      · rename_i hw; simpa only [hw, if_true] using this
      · rename_i hw
        simp only [hw, if_false] at this
        exact ⟨fun _ _ => trivial, this⟩
/-- A region that draws its order. -/
theorem vwp_draw {R0 : Env} {id : Nat} {tm : TM} {H : List VB} {Q : VQ} {fl : Nat → Bool} (L : List Nat) (hm : P.follows .mixedOrders = true) (hc : orderOk P ops fl L = true) (h : runL P N ops fl L tm H (Q .normal)) : VWp R0 P N (.region id ops true) tm H Q := by
  intro r m R a h1 h2 h3 h4
  subst h3
  simp only [orderOk, Bool.and_eq_true] at hc
  obtain ⟨⟨⟨c1, c2⟩, c3⟩, c4⟩ := hc
  obtain ⟨q1, q2⟩ := orderGo_spec L c1
  have hmem : ∀ i, i < ops.size → i ∈ L := fun i hi => by
    rw [List.all_eq_true] at c2
    simpa using c2 i (by simpa using hi)
  have hg : Grows R.w R.w.drew := Grows.drew R.w
  refine wpIn_region_any hm ?_
  let k : TM → List VB → Prop := fun tm H => ∃ tm', TEq tm' tm ∧ Q .normal tm' H
  have hresp : RespT k := fun tm tm' H e ⟨tm1, e1, hq⟩ => ⟨tm1, fun t => (e1 t).trans (e t), hq⟩
  have hk : RNext R0 N a.defers k (VPost R0 N a.defers Q .normal) := fun R tm a' e hR ht hd ⟨tm1, e1, hq⟩ => ⟨R, tm1, rfl, e, hR, ht.teq (fun t => (e1 t).symm), hd, hq⟩
  have hrun : ∀ (is : List Nat) (tm : TM) (H : List VB), runL P N ops fl is tm H (Q .normal) → runL P N ops fl is tm H k := by
    intro is
    induction is with
    | nil => exact fun tm H h => ⟨tm, fun _ => rfl, h⟩
    | cons i is ih => exact fun tm H h => step_mono h fun tm1 H1 h1 => ih tm1 H1 h1
  have := draw_sound (Q := VPost R0 N a.defers Q) (r0 := m) (ro := r) (P := P) (ops := ops) (fl := fl) hk hresp c4 ops.size (Array.replicate ops.size false) L (by simpa using c3) (by simp) (fun j hj => by
      rw [Array.getD_eq_getD_getElem?, Array.getElem?_replicate] at hj; split at hj <;> simp at hj) (fun i => ⟨fun hi => ?_, fun hi => hmem i hi.1⟩) q1 (fun i hi => q2 i (hmem i hi))
      { R with w := R.w.drew } tm a (h1.trans (hg.ext h2)) (hg.rep h2) (h4.mono (hg.ext h2)) rfl (hrun L tm _ h)
  · exact this
  · obtain ⟨o, ho, _⟩ := q2 i hi
    have hlt := (Array.getElem?_eq_some_iff.1 ho).1
    exact ⟨hlt, by rw [Array.getD_eq_getD_getElem?, Array.getElem?_replicate, if_pos hlt]; rfl⟩
end
end Go.Vm
