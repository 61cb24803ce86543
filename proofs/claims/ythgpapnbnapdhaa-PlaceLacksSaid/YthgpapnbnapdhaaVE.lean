/- The virtual machine, part 26: regions that draw their order, by an invariant over what is done. Generic: no program in sight. -/
import Derived.Test.YthgpapnbnapdhaaVD
set_option linter.unusedVariables false
set_option linter.unusedSimpArgs false
namespace Go.Vm
open Go.RowKit

section
variable {P : Program} {ops : Array Oper} {N : Nat}
theorem vop_resp {o : Oper} {tm tm' : TM} {H : List VB} {next : TM → List VB → Prop} (hn : RespT next) (e : TEq tm tm') (h : vop P N ops o tm H next) : vop P N ops o tm' H next := by
  have ev : vev tm = vev tm' := funext fun x => by cases x <;> simp only [vev] <;> first | rfl | exact e _
  have yes : (if isC P o.op = true then vC P o (vev tm) H (fun r H' => vput N o.dst r H' tm next) else match stepF P o (vev tm) H with
        | some r => vput N o.dst r H tm next
        | none => False) → (if isC P o.op = true then vC P o (vev tm') H (fun r H' => vput N o.dst r H' tm' next) else match stepF P o (vev tm') H with
        | some r => vput N o.dst r H tm' next
        | none => False) := by
    rw [← ev]
    intro h
    split at h
    · rename_i hc; rw [if_pos hc]; exact vC_mono h fun r H' hh => vput_resp hn e hh
    · rename_i hc
      rw [if_neg hc]
      split at h
      · exact vput_resp hn e h
      · exact h.elim
  unfold vop vguard at *
  split at h
  · exact yes h
  · split at h
    · rename_i d hd
      rw [e d] at h
      split at h
      · split at h
        · rename_i hcb; rw [if_pos hcb]; exact yes h
        · rename_i hcb; rw [if_neg hcb]; exact vput_resp hn e h
      · exact vput_resp hn e h
      · exact h.elim
    · exact h.elim
def topoGo : Nat → List Oper → Bool
  | _, [] => true
  | i, o :: os => (dirOf o).all (Nat.blt · i) && noDefer o && topoGo (i + 1) os
theorem topoGo_spec : ∀ (os : List Oper) (i : Nat), topoGo i os = true → ∀ (j : Nat) (o : Oper), os[j]? = some o → (∀ d, d ∈ dirOf o → d < i + j) ∧ noDefer o = true
  | [], i, h, j, o, ho => by simp at ho
  | o' :: os, i, h, j, o, ho => by
    simp only [topoGo, Bool.and_eq_true, List.all_eq_true] at h
    cases j with
    | zero =>
      simp only [List.getElem?_cons_zero, Option.some.injEq] at ho
      subst ho
      exact ⟨fun d hd => Nat.le_of_ble_eq_true (h.1.1 d hd), h.1.2⟩
    | succ j =>
      simp only [List.getElem?_cons_succ] at ho
      obtain ⟨h1, h2⟩ := topoGo_spec os (i + 1) h.2 j o ho
      exact ⟨fun d hd => by have := h1 d hd; omega, h2⟩
theorem drawInv_sound {R0 : Env} {r0 : Nat} {ro : Option Nat} {ds : List Deferred} {k : TM → List VB → Prop} {Q : Exit → Act → World → Prop} (hk : RNext R0 N ds k (Q .normal)) (ht : topoGo 0 ops.toList = true)
    (I : (Nat → Bool) → TM → List VB → Prop)
    (hstep : ∀ (S : Nat → Bool) (i : Nat) (o : Oper) (tm : TM) (H : List VB), I S tm H → (∀ j o', ops[j]? = some o' → S j = true → ∀ d, d ∈ dirOf o' → S d = true) → ops[i]? = some o → S i = false → (∀ d, d ∈ dirOf o → S d = true) → vop P N ops o tm H fun tm' H' => I (fun j => Nat.beq j i || S j) tm' H')
    (hdone : ∀ (S : Nat → Bool) (tm : TM) (H : List VB), (∀ i, i < ops.size → S i = true) → I S tm H → k tm H) :
    ∀ (fuel : Nat) (listed : Array Bool), listed.toList.countP (fun b => !b) ≤ fuel → listed.size = ops.size → Cl ops listed → RNext R0 N ds (I fun j => listed.getD j false) (wpAnyIn (WF ro) r0 P .any ops Q fuel listed) := by
  have hdeps : ∀ (i : Nat) (o : Oper), ops[i]? = some o → (∀ d, d ∈ dirOf o → d < i) ∧ noDefer o = true := fun i o ho => by
    have := topoGo_spec ops.toList 0 ht i o (by simpa using ho)
    simpa using this
  have all : ∀ listed : Array Bool, listed.size = ops.size → Region.ready .any ops listed = [] → ∀ i, i < ops.size → listed.getD i false = true := fun listed hs hr i => by
    induction i using Nat.strongRecOn with
    | _ i ih =>
      intro hi
      rcases Bool.eq_false_or_eq_true (listed.getD i false) with h | h
      · exact h
      · exfalso
        have : i ∈ Region.ready .any ops listed := by
          rw [mem_ready]
          refine ⟨?_, ops[i], Array.getElem?_eq_getElem hi, dir_ready.2 fun d hd => ?_⟩
          · rw [Array.getD_eq_getD_getElem?, Array.getElem?_eq_getElem (by omega)] at h ⊢
            exact h
          · have := (hdeps i _ (Array.getElem?_eq_getElem hi)).1 d hd
            exact ih d this (by omega)
        rw [hr] at this
        cases this
  intro fuel
  induction fuel with
  | zero =>
    intro listed hc hs hcl R tm a e hR htm hd hI
    have hl : ∀ i, i < ops.size → listed.getD i true = true ∧ listed.getD i false = true := fun i hi => by
      have h0 := (List.countP_eq_zero (p := fun b => !b) (l := listed.toList)).1 (by omega)
      have := h0 (listed[i]'(by omega)) (by simp)
      rw [Array.getD_eq_getD_getElem?, Array.getD_eq_getD_getElem?, Array.getElem?_eq_getElem (by omega)]
      simpa using this
    refine ⟨?_, hk R tm a e hR htm hd (hdone _ tm R.H (fun i hi => (hl i hi).2) hI)⟩
    rcases hr : Region.ready .any ops listed with _ | ⟨i, rest⟩
    · rfl
    · have hi : i ∈ Region.ready .any ops listed := by rw [hr]; simp
      rw [mem_ready] at hi
      obtain ⟨h1, o, h2, _⟩ := hi
      rw [(hl i (Array.getElem?_eq_some_iff.1 h2).1).1] at h1
      cases h1
  | succ fuel ih =>
    intro listed hc hs hcl R tm a e hR htm hd hI
    refine ⟨fun hr => hk R tm a e hR htm hd (hdone _ tm R.H (all listed hs hr) hI), fun i hi => ?_⟩
    rw [mem_ready] at hi
    obtain ⟨h1, o, h2, h3⟩ := hi
    have hlt := (Array.getElem?_eq_some_iff.1 h2).1
    rw [dir_ready] at h3
    have hli : listed[i]'(by omega) = false := by
      rw [Array.getD_eq_getD_getElem?, Array.getElem?_eq_getElem (by omega)] at h1
      exact h1
    have hst := hstep (fun j => listed.getD j false) i o tm R.H hI (fun j o' ho' hj d hdd => hcl j hj o' ho' d hdd) h2 (by
      show listed.getD i false = false
      rw [Array.getD_eq_getD_getElem?, Array.getElem?_eq_getElem (by omega)]; exact hli) h3
    have hset : (listed.setIfInBounds i true).size = ops.size := by simpa using hs
    have hcl' : Cl ops (listed.setIfInBounds i true) := fun j hj o' ho' d hdd => by
      by_cases hji : j = i
      · subst hji
        rw [h2] at ho'; cases ho'
        exact getD_set_true (h3 d hdd)
      · rw [getD_set_ne false (Ne.symm hji)] at hj
        exact getD_set_true (hcl j hj o' ho' d hdd)
    have hcnt : (listed.setIfInBounds i true).toList.countP (fun b => !b) ≤ fuel := by
      have e1 : (listed.setIfInBounds i true).toList = listed.toList.set i true := by simp
      rw [e1, List.countP_set (by simpa using (by omega : i < listed.size))]
      have : listed.toList[i]'(by simpa using (by omega : i < listed.size)) = false := by simpa using hli
      simp only [this, Bool.not_false, if_true, Bool.not_true, Bool.false_eq_true, if_false]
      omega
    have efun : (fun j => Nat.beq j i || listed.getD j false) = fun j => (listed.setIfInBounds i true).getD j false := by
      funext j
      by_cases hji : j = i
      · subst hji
        have e2 : (listed.setIfInBounds j true).getD j false = true := by
          rw [Array.getD_eq_getD_getElem?, Array.getElem?_setIfInBounds_self_of_lt (by omega)]; rfl
        rw [e2]
        simp
      · have hb : Nat.beq j i = false := by
          cases h : Nat.beq j i
          · rfl
          · exact absurd (Nat.eq_of_beq_eq_true h) hji
        rw [hb, getD_set_ne false (Ne.symm hji)]
        rfl
    rw [efun] at hst
    have := vop_sound (Q := Q) (r0 := r0) (ro := ro) (ops := ops) (ih (listed.setIfInBounds i true) hcnt hset hcl') e hR htm hd hst (noDefer_spec (hdeps i o h2).2)
    unfold wpOpIn
    simp only [h2]
    split
    · rename_i hw; simpa only [hw, if_true] using this
    · rename_i hw
      simp only [hw, if_false] at this
      exact ⟨fun _ _ => trivial, this⟩
/-- A region that draws its order: whatever is done, the slots and the heap are a function of what is done. -/
theorem vwp_drawInv {R0 : Env} {id : Nat} {tm : TM} {H : List VB} {Q : VQ} (hm : P.follows .mixedOrders = true) (ht : topoGo 0 ops.toList = true)
    (tmS : (Nat → Bool) → TM) (hS : (Nat → Bool) → List VB) (h0 : TEq tm (tmS fun _ => false)) (e0 : H = hS fun _ => false)
    (hstep : ∀ (S : Nat → Bool) (i : Nat) (o : Oper), (∀ j o', ops[j]? = some o' → S j = true → ∀ d, d ∈ dirOf o' → S d = true) → ops[i]? = some o → S i = false → (∀ d, d ∈ dirOf o → S d = true) → vop P N ops o (tmS S) (hS S) fun tm' H' => TEq tm' (tmS fun j => Nat.beq j i || S j) ∧ H' = hS fun j => Nat.beq j i || S j)
    (hdone : ∀ S : Nat → Bool, (∀ i, i < ops.size → S i = true) → Q .normal (tmS S) (hS S)) : VWp R0 P N (.region id ops true) tm H Q := by
  intro r m R a h1 h2 h3 h4
  subst h3
  have hg : Grows R.w R.w.drew := Grows.drew R.w
  refine wpIn_region_any hm ?_
  let k : TM → List VB → Prop := fun tm H => ∃ tm', TEq tm' tm ∧ Q .normal tm' H
  have hk : RNext R0 N a.defers k (VPost R0 N a.defers Q .normal) := fun R tm a' e hR ht hd ⟨tm1, e1, hq⟩ => ⟨R, tm1, rfl, e, hR, ht.teq (fun t => (e1 t).symm), hd, hq⟩
  have := drawInv_sound (Q := VPost R0 N a.defers Q) (r0 := m) (ro := r) (P := P) (ops := ops) hk ht (fun S tm H => TEq tm (tmS S) ∧ H = hS S) (fun S i o tm H ⟨q1, q2⟩ hcl ho hi hd => by
      subst q2
      have h5 := hstep S i o hcl ho hi hd
      exact vop_resp (fun tm tm' H e ⟨p1, p2⟩ => ⟨fun t => (e t).symm.trans (p1 t), p2⟩) (fun t => (q1 t).symm) h5) (fun S tm H hall ⟨q1, q2⟩ => ⟨tmS S, fun t => (q1 t).symm, q2 ▸ hdone S hall⟩)
      ops.size (Array.replicate ops.size false) (Nat.le_trans List.countP_le_length (by simp)) (by simp) (fun j hj => by
        rw [Array.getD_eq_getD_getElem?, Array.getElem?_replicate] at hj; split at hj <;> simp at hj) { R with w := R.w.drew } tm a (h1.trans (hg.ext h2)) (hg.rep h2) (h4.mono (hg.ext h2)) rfl ?_
  · exact this
  · have e1 : (fun j => (Array.replicate ops.size false).getD j false) = fun _ => false := by
      funext j
      rw [Array.getD_eq_getD_getElem?, Array.getElem?_replicate]
      split <;> rfl
    rw [e1]
    exact ⟨h0, e0⟩
/-- A name that is kept for what will be laid. -/
theorem vwp_reserve {R0 : Env} {c : Code} {tm : TM} {H : List VB} {Q : VQ} (h : VWp R0 P N c tm (H ++ [.row 0 0 []]) Q) : VWp R0 P N c tm H Q := by
  intro r m R a h1 h2 h3 h4
  subst h3
  have hl := Like.refl R.w
  have hok : Ext R ⟨R.H ++ [.row 0 0 []], upd R.ρ R.H.length none, R.w⟩ → IdOk ⟨R.H ++ [.row 0 0 []], upd R.ρ R.H.length none, R.w⟩ R.H.length := by
    intro e
    have hs := new_same R.H (.row 0 0 [])
    refine ⟨fun cs h => ?_, fun g n' xs h => ?_, fun es h => ?_⟩
    · cases hs.symm.trans h
    · cases hs.symm.trans h
      exact ⟨fun x hx => (by cases hx), Or.inl ⟨upd_same .., rfl⟩⟩
    · cases hs.symm.trans h
  have e := Ext.new h2 (.row 0 0 []) none hl (Nat.le_refl _) (fun _ _ => rfl) (fun a ha => by cases ha)
  have hr := HRep.new h2 (.row 0 0 []) none hl (Nat.le_refl _) (fun _ _ => rfl) (fun a ha => by cases ha) hok
  exact h r m ⟨R.H ++ [.row 0 0 []], upd R.ρ R.H.length none, R.w⟩ a (h1.trans e) hr rfl ⟨h4.size, fun k => (h4.get k).mono e⟩
theorem kwp_reserve {R0 : Env} {c : Code} {tm : TM} {n0 : Nat} {base top : List VB} {Q : KQ} (ho : base.length = n0) (h : KWp R0 P N c tm ⟨n0, base, top ++ [.row 0 0 []]⟩ Q) : KWp R0 P N c tm ⟨n0, base, top⟩ Q :=
  ⟨vwp_reserve (by have := h.h; rw [(flat_snoc ho _).1] at this; exact this)⟩
/-- A variable is laid under the name that was kept for it. -/
theorem vop_alloc {o : Oper} {e : TypeId} {cs : List SV} {tm : TM} {H : List VB} {id g n : Nat} {next : TM → List VB → Prop} (hop : o.op = .alloc e) (hg : o.guard = none) (hz : zcells P e = some cs) (hid : H[id]? = some (.row g n []))
    (hn : vput N o.dst (.ptr id 0) (H.set id (.box cs)) tm next) : vop P N ops o tm H next := by
  have hC : isC P o.op = true := by rw [hop]; rfl
  unfold vop vguard
  rw [hg]
  simp only [hC, if_true, vC, hop, hz]
  exact .inr ⟨id, g, n, hid, hn⟩
/-- What one operation of a drawn region must show. -/
inductive DStep (P : Program) (N : Nat) (ops : Array Oper) (o : Oper) (tm : TM) (h : KH) (next : TM → KH → Prop) : Prop
  | k (hk : kop P N ops o tm h fun tm' h' => KEnd (next tm' h')) : DStep P N ops o tm h next
  | alloc (d : Tmp) (e : TypeId) (cs : List SV) (j g n : Nat) (hop : o.op = .alloc e) (hg : o.guard = none) (hd : o.dst = some d) (hdN : Nat.blt d N = true) (hz : zcells P e = some cs) (hj : h.top[j]? = some (.row g n [])) (hn : next ((d, .ptr (h.n0 + j) 0) :: tm) { h with top := h.top.set j (.box cs) }) : DStep P N ops o tm h next
theorem kwp_drawInv {R0 : Env} {id : Nat} {tm : TM} {h : KH} {Q : KQ} (hm : P.follows .mixedOrders = true) (ht : topoGo 0 ops.toList = true)
    (tmS : (Nat → Bool) → TM) (hS : (Nat → Bool) → KH) (ho : ∀ S, (hS S).ok ∧ (hS S).n0 = h.n0) (h0 : TSub tm (tmS fun _ => false)) (e0 : h = hS fun _ => false)
    (hstep : ∀ (S : Nat → Bool) (i : Nat) (o : Oper), (∀ j o', ops[j]? = some o' → S j = true → ∀ d, d ∈ dirOf o' → S d = true) → ops[i]? = some o → S i = false → (∀ d, d ∈ dirOf o → S d = true) → DStep P N ops o (tmS S) (hS S) fun tm' h' => TEq tm' (tmS fun j => Nat.beq j i || S j) ∧ h' = hS fun j => Nat.beq j i || S j)
    (hsame : ∀ S : Nat → Bool, (∀ i, i < ops.size → S i = true) → tmS S = tmS (fun _ => true) ∧ hS S = hS fun _ => true)
    (hdone : Q .normal (tmS fun _ => true) (hS fun _ => true)) : KWp R0 P N (.region id ops true) tm h Q := by
  refine ⟨vwp_weak h0 (vwp_drawInv hm ht tmS (fun S => (hS S).flat) (fun t => rfl) (by rw [e0]) (fun S i o hcl ho' hi hd => ?_) fun S hall => ?_)⟩
  · have hok := ho S
    cases hstep S i o hcl ho' hi hd with
    | k hk =>
      refine vop_mono (kop_sound hok.1 hk) ?_
      rintro tm' H' ⟨h', e1, e2, e3, e4⟩
      obtain ⟨q1, q2⟩ := e4.h
      exact ⟨q1, by rw [← e1, q2]⟩
    | alloc d e cs j g n hop hg hdd hdN hz hj hn =>
      have hb : (hS S).base.length = (hS S).n0 := hok.1
      refine vop_alloc hop hg hz (id := (hS S).n0 + j) (flat_get_top hb j ▸ hj) ?_
      rw [hdd]
      refine ⟨hdN, hn.1, ?_⟩
      rw [flat_set_top hb]
      exact congrArg KH.flat hn.2
  · obtain ⟨q1, q2⟩ := hsame S hall
    exact ⟨hS fun _ => true, by rw [q2], (ho _).1, (ho _).2, by rw [q1]; exact hdone⟩
end
/-- A loop whose rounds lay what nobody wants behind them. -/
theorem kwp_loop_drop {R0 : Env} {P : Program} {N : Nat} {c : Code} {tm : TM} {h : KH} {Q : KQ} {S : Type} (hB : HBel R0.H) (tmf : S → TM) (hf : S → KH) (inv : S → Prop) (μ : S → Nat) (s0 : S) (h0 : inv s0) (e0 : TSub tm (tmf s0)) (eh : h = hf s0)
    (ok : ∀ s, inv s → (hf s).ok ∧ (hf s).n0 = h.n0)
    (bel : ∀ s, inv s → (∀ p, p ∈ tmf s → p.2.Bel (hf s).flat.length) ∧ (∀ (id : Nat) (b : VB), (hf s).flat[id]? = some b → R0.H[id]? = some b ∨ b.Bel (hf s).flat.length) ∧ R0.H.length ≤ (hf s).flat.length)
    (round : ∀ s, inv s → kexec R0 P N c (tmf s) (hf s) (kthen (fun tm' h' => KEnd (∃ s', inv s' ∧ μ s' < μ s ∧ TSub tm' (tmf s') ∧ h'.base = (hf s').base ∧ ∃ ex, h'.top = (hf s').top ++ ex)) Q)) : KWp R0 P N (.loop c) tm h Q := by
  subst eh
  refine ⟨vwp_loop (fun n tm' H' => ∃ s, inv s ∧ μ s = n ∧ TSub tm' (tmf s) ∧ ∃ ex, H' = (hf s).flat ++ ex) (μ s0) ⟨s0, h0, rfl, e0, [], by simp⟩ ?_⟩
  rintro n tm' H' ⟨s, hi, rfl, hsub, ex, rfl⟩
  have := kexec_sound c (tmf s) (hf s) _ (ok s hi).1 (round s hi)
  obtain ⟨b1, b2, b3⟩ := bel s hi
  refine vwp_forget hB (H' := (hf s).flat) ⟨b3, by simp, fun id hid => .inl (List.getElem?_append_left hid).symm, b2⟩ (fun p hp => ⟨hsub p hp, b1 p hp⟩) (this.mono ?_)
  rintro e tm3 H3 ⟨h', e1, e2, e3, e4⟩
  cases e with
  | normal =>
    obtain ⟨s', i1, i2, i3, i4, ex', i5⟩ := e4.h
    exact ⟨μ s', i2, s', i1, rfl, i3, ex', by rw [← e1, KH.flat, i4, i5, KH.flat, List.append_assoc]⟩
  | _ => exact ⟨h', e1, e2, by rw [e3]; exact (ok s hi).2, e4⟩
/-- Slots, some of which are frozen. -/
def TFrz (H : List VB) (n : Nat) (tm tm' : TM) : Prop := ∀ p, p ∈ tm' → Frz H n (tget tm p.1) p.2
theorem tfrz_nil {H : List VB} {n : Nat} {tm : TM} : TFrz H n tm [] := fun p hp => by cases hp
theorem tfrz_cons {H : List VB} {n : Nat} {tm r : TM} {k : Nat} {x : SV} (h : Frz H n (tget tm k) x) (hr : TFrz H n tm r) : TFrz H n tm ((k, x) :: r) := fun p hp => by
  rcases List.mem_cons.1 hp with rfl | hp
  · exact h
  · exact hr p hp
theorem tfrz_keep {H : List VB} {n : Nat} {tm r : TM} {k : Nat} {x : SV} (h : tget tm k = x) (hb : x.Bel n) (hr : TFrz H n tm r) : TFrz H n tm ((k, x) :: r) := tfrz_cons (h ▸ .keep _ (h ▸ hb)) hr
/-- A whole row of values that name nothing beyond, frozen. -/
theorem frz_row {H : List VB} {n0 id g n len : Nat} {xs : List SV} (hid : n0 ≤ id) (hr : H[id]? = some (.row g n xs)) (hlen : len = xs.length) (hp : ∀ x, x ∈ xs → x.Bel n0) : Frz H n0 (.slc id g 0 len) (.list n false xs) := by
  subst hlen
  refine .row id g 0 xs.length n xs xs hid hr (by omega) rfl (fun i hi hj => by simp only [Nat.zero_add]) fun i hi hj j h1 h2 => ?_
  simp only [Nat.zero_add] at h1 ⊢
  exact .keep _ (bel_cells (hp _ (List.getElem_mem hj)) _ (List.getElem_mem h2))
theorem vwp_freeze {R0 : Env} {P : Program} {N : Nat} {c : Code} {tm tm' : TM} {H H' : List VB} {Q : VQ} (h0 : HBel R0.H) (s : HSub R0.H H H') (ht : TFrz H H'.length tm tm') (h : VWp R0 P N c tm' H' Q) : VWp R0 P N c tm H Q := by
  intro r m R a h1 h2 h3 h4
  subst h3
  have s' : R.sub H' := ⟨s.high, s.sub⟩
  refine h r m { R with H := H' } a (h1.forget s' s.low) (h2.forget s' (s.all h0)) rfl ⟨h4.size, fun t => ?_⟩
  rcases tget_mem (tm' := tm') t with h5 | ⟨p, h5, h6, h7⟩
  · rw [h5]; exact .junk _
  · rw [← h7]
    have := ht p h5
    rw [h6] at this
    exact frz_sound h2 s' this (h4.get t)
/-- A loop whose rounds lay what nobody wants behind them, or wants as a list that nobody turns. -/
theorem kwp_loop_frz {R0 : Env} {P : Program} {N : Nat} {c : Code} {tm : TM} {h : KH} {Q : KQ} {S : Type} (hB : HBel R0.H) (tmf : S → TM) (hf : S → KH) (inv : S → Prop) (μ : S → Nat) (s0 : S) (h0 : inv s0) (e0 : TFrz h.flat (hf s0).flat.length tm (tmf s0)) (eh : h.base = (hf s0).base ∧ ∃ ex, h.top = (hf s0).top ++ ex)
    (ok : ∀ s, inv s → (hf s).ok ∧ (hf s).n0 = h.n0)
    (bel : ∀ s, inv s → (∀ (id : Nat) (b : VB), (hf s).flat[id]? = some b → R0.H[id]? = some b ∨ b.Bel (hf s).flat.length) ∧ R0.H.length ≤ (hf s).flat.length)
    (round : ∀ s, inv s → kexec R0 P N c (tmf s) (hf s) (kthen (fun tm' h' => KEnd (∃ s', inv s' ∧ μ s' < μ s ∧ TFrz h'.flat (hf s').flat.length tm' (tmf s') ∧ h'.base = (hf s').base ∧ ∃ ex, h'.top = (hf s').top ++ ex)) Q)) : KWp R0 P N (.loop c) tm h Q := by
  refine ⟨vwp_loop (fun n tm' H' => ∃ s, inv s ∧ μ s = n ∧ TFrz H' (hf s).flat.length tm' (tmf s) ∧ ∃ ex, H' = (hf s).flat ++ ex) (μ s0) ⟨s0, h0, rfl, e0, eh.2.imp fun ex he => by rw [KH.flat, KH.flat, eh.1, he, List.append_assoc]⟩ ?_⟩
  rintro n tm' H' ⟨s, hi, rfl, hsub, ex, rfl⟩
  have := kexec_sound c (tmf s) (hf s) _ (ok s hi).1 (round s hi)
  obtain ⟨b2, b3⟩ := bel s hi
  refine vwp_freeze hB (H' := (hf s).flat) ⟨b3, by simp, fun id hid => .inl (List.getElem?_append_left hid).symm, b2⟩ hsub (this.mono ?_)
  rintro e tm3 H3 ⟨h', e1, e2, e3, e4⟩
  cases e with
  | normal =>
    obtain ⟨s', i1, i2, i3, i4, ex', i5⟩ := e4.h
    exact ⟨μ s', i2, s', i1, rfl, e1 ▸ i3, ex', by rw [← e1, KH.flat, i4, i5, KH.flat, List.append_assoc]⟩
  | _ => exact ⟨h', e1, e2, by rw [e3]; exact (ok s hi).2, e4⟩
end Go.Vm
