/- The virtual machine, part 20: the rules at the stops. Generic: no program in sight. -/
import Derived.Test.YthgpapnbnapdhaaV19
set_option linter.unusedVariables false
set_option linter.unusedSimpArgs false
namespace Go.Vm
open Go.RowKit

theorem flat_get_top {n0 : Nat} {base top : List VB} (ho : base.length = n0) (j : Nat) : (KH.flat ⟨n0, base, top⟩)[n0 + j]? = top[j]? := by
  subst ho
  simp [KH.flat, List.getElem?_append_right]
theorem flat_get_base {n0 : Nat} {base top : List VB} {id : Nat} {b : VB} (h : base[id]? = some b) : (KH.flat ⟨n0, base, top⟩)[id]? = some b := by
  simp [KH.flat, List.getElem?_append_left (lt_of_some h), h]
theorem flat_set_top {n0 : Nat} {base top : List VB} (ho : base.length = n0) (j : Nat) (b : VB) : (KH.flat ⟨n0, base, top⟩).set (n0 + j) b = KH.flat ⟨n0, base, top.set j b⟩ := by
  subst ho
  simp [KH.flat, List.set_append_right]
theorem flat_set_base {n0 : Nat} {base top : List VB} {id : Nat} (hid : id < base.length) (b : VB) : (KH.flat ⟨n0, base, top⟩).set id b = KH.flat ⟨n0, base.set id b, top⟩ := by
  simp [KH.flat, List.set_append_left _ _ hid]
theorem kbox_top {n0 : Nat} {base top : List VB} {j : Nat} {cs : List SV} {K : List SV → Prop} (ho : base.length = n0) (h : top[j]? = some (.box cs)) (hk : K cs) : KBox ⟨n0, base, top⟩ (n0 + j) K :=
  ⟨cs, (flat_get_top ho j).trans h, hk⟩
theorem kbox_base {n0 : Nat} {base top : List VB} {id : Nat} {cs : List SV} {K : List SV → Prop} (h : base[id]? = some (.box cs)) (hk : K cs) : KBox ⟨n0, base, top⟩ id K :=
  ⟨cs, flat_get_base h, hk⟩
theorem krow_top {n0 : Nat} {base top : List VB} {j g n : Nat} {xs : List SV} {K : Nat → Nat → List SV → Prop} (ho : base.length = n0) (h : top[j]? = some (.row g n xs)) (hk : K g n xs) : KRow ⟨n0, base, top⟩ (n0 + j) K :=
  ⟨g, n, xs, (flat_get_top ho j).trans h, hk⟩
theorem krow_base {n0 : Nat} {base top : List VB} {id g n : Nat} {xs : List SV} {K : Nat → Nat → List SV → Prop} (h : base[id]? = some (.row g n xs)) (hk : K g n xs) : KRow ⟨n0, base, top⟩ id K :=
  ⟨g, n, xs, flat_get_base h, hk⟩
theorem kset_top {n0 : Nat} {base top : List VB} {j : Nat} {b : VB} {K : KH → Prop} (ho : base.length = n0) (hk : K ⟨n0, base, top.set j b⟩) : KSet ⟨n0, base, top⟩ (n0 + j) b K :=
  ⟨_, (flat_set_top ho j b).symm, ho, rfl, hk⟩
theorem kset_base {n0 : Nat} {base top : List VB} {id : Nat} {b : VB} {K : KH → Prop} (ho : base.length = n0) (hid : id < base.length) (hk : K ⟨n0, base.set id b, top⟩) : KSet ⟨n0, base, top⟩ id b K :=
  ⟨_, (flat_set_base hid b).symm, by simpa [KH.ok] using ho, rfl, hk⟩
theorem kget_some {xs : List SV} {i : Nat} {z : SV} {K : SV → Prop} (h : xs[i]? = some z) (hk : K z) : KGet xs i K := ⟨z, h, hk⟩
section
variable {P : Program} {ats : Array TypeId}
theorem kb_append_top {n0 : Nat} {base top : List VB} {j g n : Nat} {xs ys : List SV} {x : SV} {len : Nat} {K : SV → KH → Prop} (ho : base.length = n0) (ht : appTypes P ats = some n) (h : top[j]? = some (.row g n xs)) (hlen : len = xs.length)
    (hx : vsrc (KH.flat ⟨n0, base, top⟩) n x = some ys) (hb : xs.length + ys.length ≤ 68719476736) (hcl : ∀ y, y ∈ ys → ∀ c, c ∈ y.cells → svCell (KH.flat ⟨n0, base, top⟩) c = true)
    (hk : K (.slc (n0 + j) (g + 1) 0 (xs ++ ys).length) ⟨n0, base, top.set j (.row (g + 1) n (xs ++ ys))⟩) : KB P ⟨n0, base, top⟩ .append ats [.slc (n0 + j) g 0 len, x] K := by
  subst hlen
  rw [List.length_append] at hk
  exact ⟨n, ys, ht, hx, xs, (flat_get_top ho j).trans h, rfl, rfl, hb, hcl, ⟨_, (flat_set_top ho j _).symm, ho, rfl, hk⟩⟩
theorem flat_snoc {n0 : Nat} {base top : List VB} (ho : base.length = n0) (b : VB) : KH.flat ⟨n0, base, top ++ [b]⟩ = KH.flat ⟨n0, base, top⟩ ++ [b] ∧ (KH.flat ⟨n0, base, top⟩).length = n0 + top.length := by
  subst ho; simp [KH.flat]
theorem kb_append_nil {n0 : Nat} {base top : List VB} {n : Nat} {ys : List SV} {x : SV} {K : SV → KH → Prop} (ho : base.length = n0) (ht : appTypes P ats = some n)
    (hx : vsrc (KH.flat ⟨n0, base, top⟩) n x = some ys) (hb : ys.length ≤ 68719476736)
    (hk : K (.slc (n0 + top.length) 0 0 ys.length) ⟨n0, base, top ++ [.row 0 n ys]⟩) : KB P ⟨n0, base, top⟩ .append ats [.v (.slice none 0 0), x] K := by
  refine ⟨n, ys, ht, hx, hb, ⟨_, (flat_snoc ho _).1, ho, rfl, ?_⟩⟩
  rw [(flat_snoc (top := top) ho .dead).2]
  exact hk
theorem kb_append_list {n0 : Nat} {base top : List VB} {n : Nat} {xs ys : List SV} {x : SV} {K : SV → KH → Prop} (ho : base.length = n0) (ht : appTypes P ats = some n)
    (hx : vsrc (KH.flat ⟨n0, base, top⟩) n x = some ys) (hb : xs.length + ys.length ≤ 68719476736) (hne : xs = [] ∨ ys ≠ [])
    (hk : K (.slc (n0 + top.length) 0 0 (xs ++ ys).length) ⟨n0, base, top ++ [.row 0 n (xs ++ ys)]⟩) : KB P ⟨n0, base, top⟩ .append ats [.list n true xs, x] K := by
  rw [List.length_append] at hk
  refine ⟨n, ys, ht, hx, rfl, rfl, hb, fun _ => ⟨_, (flat_snoc ho _).1, ho, rfl, ?_⟩, fun h1 h2 => ?_⟩
  · rw [(flat_snoc (top := top) ho .dead).2]
    exact hk
  · rcases hne with h | h
    · exact absurd h h1
    · exact absurd h2 h
theorem kmake {n0 : Nat} {base top : List VB} {t : TypeId} {k k' : IntKind} {len cap : Nat} {e : TypeId} {z : List SV} {x : SV} {K : SV → KH → Prop} (ho : base.length = n0) (hu : P.underlying t = some (.slice e)) (hs : (P.underlying e).isSome = true) (hz : zcells P e = some z)
    (hzl : z.length = P.cellsOf e) (hpos : 1 ≤ P.cellsOf e) (hx : x.cells = z) (hby : P.bytesOf e ≤ 1024) (hle : len ≤ cap) (hcap : cap ≤ 68719476736)
    (hk : K (.slc (n0 + top.length) 0 0 len) ⟨n0, base, top ++ [.row 0 (P.cellsOf e) (List.replicate len x)]⟩) : KMake P ⟨n0, base, top⟩ t (.v (.int k len)) (.v (.int k' cap)) K := by
  refine ⟨k, k', len, cap, e, z, x, rfl, rfl, hu, hs, hz, hzl, hpos, hx, hle, hcap, hby, ⟨_, (flat_snoc ho _).1, ho, rfl, ?_⟩⟩
  rw [(flat_snoc (top := top) ho .dead).2]
  exact hk
theorem kconvb {n0 : Nat} {base top : List VB} {s d e : TypeId} {b : ByteArray} {K : SV → KH → Prop} (ho : base.length = n0) (hs : (P.underlying s).isSome = true) (hd : P.underlying d = some (.slice e)) (he : P.underlying e = some (.int .u8)) (hb : b.size ≤ 1099511627776)
    (hk : K (.slc (n0 + top.length) 0 0 b.size) ⟨n0, base, top ++ [.row 0 1 (b.data.toList.map byteSV)]⟩) : KConvB P ⟨n0, base, top⟩ s d (.v (.string b)) K := by
  refine ⟨b, e, rfl, hs, hd, he, hb, ⟨_, (flat_snoc ho _).1, ho, rfl, ?_⟩⟩
  rw [(flat_snoc (top := top) ho .dead).2]
  exact hk
end
theorem runL_of_vopsL {P : Program} {N : Nat} {ops : Array Oper} {k : TM → List VB → Prop} : ∀ (is : List Nat) (os : List Oper), is.map (ops[·]?) = os.map some → ∀ (tm : TM) (H : List VB), vopsL P N ops os tm H k → runL P N ops (fun _ => false) is tm H k
  | [], [], _, _, _, h => h
  | [], _ :: _, h, _, _, _ => by simp at h
  | _ :: _, [], h, _, _, _ => by simp at h
  | i :: is, o :: os, h, tm, H, hv => by
    simp only [List.map_cons, List.cons.injEq] at h
    have ih := runL_of_vopsL (P := P) (N := N) (k := k) is os h.2
    simp only [runL, step, h.1]
    have hv' : vop P N ops o tm H fun tm H => runL P N ops (fun _ => false) is tm H k := vop_mono hv fun tm H hh => ih tm H hh
    refine vguard_mono hv' (fun h' => ?_) id
    split at h'
    · rename_i hc; rw [if_pos hc]; exact vC_mono h' fun r H' hh => ⟨fun hf => (by cases hf), hh⟩
    · rename_i hc; rw [if_neg hc]; exact h'
/-- A region that draws its order: the order of the text stands for all. -/
theorem kwp_draw {R0 : Env} {P : Program} {N id : Nat} {ops : Array Oper} {tm : TM} {h : KH} {Q : KQ} (hm : P.follows .mixedOrders = true) (hc : orderOk P ops (fun _ => false) (List.range ops.size) = true) (ho : h.ok)
    (hk : kopsL P N ops ops.toList tm h (Q .normal)) : KWp R0 P N (.region id ops true) tm h Q :=
  ⟨vwp_draw (List.range ops.size) hm hc (runL_of_vopsL _ ops.toList (by obtain ⟨l⟩ := ops; exact range_get) tm _ (kopsL_sound _ ho hk))⟩
/-- The same, in an order that is named; at some operations memory may only have grown. -/
def kopsD (P : Program) (N : Nat) (ops : Array Oper) (es : List Nat) : List Nat → List Oper → TM → KH → (TM → KH → Prop) → Prop
  | i :: is, o :: os, tm, h, k => match es.contains i with
    | true => kop P N ops o tm h fun tm' h' => VReq (HExt h.flat h'.flat) (kopsD P N ops es is os tm' h' k)
    | false => kop P N ops o tm h fun tm' h' => kopsD P N ops es is os tm' h' k
  | [], [], tm, h, k => k tm h
  | _, _, _, _, _ => False
theorem vput_hLift {N n0 : Nat} {dst : Option Tmp} {r : SV} {H' : List VB} {tm : TM} {p : KH → Prop} {k : TM → KH → Prop} (h : vput N dst r H' tm (hLift n0 fun tm' h' => VReq (p h') (k tm' h'))) :
    (∃ h' : KH, h'.flat = H' ∧ p h') ∧ vput N dst r H' tm (hLift n0 k) := by
  cases dst with
  | none =>
    obtain ⟨h', e1, e2, e3, e4⟩ := h
    exact ⟨⟨h', e1, e4.p⟩, ⟨h', e1, e2, e3, e4.h⟩⟩
  | some d =>
    obtain ⟨hd, h', e1, e2, e3, e4⟩ := h
    exact ⟨⟨h', e1, e4.p⟩, hd, ⟨h', e1, e2, e3, e4.h⟩⟩
theorem kopsD_sound {P : Program} {N : Nat} {ops : Array Oper} {es : List Nat} : ∀ (is : List Nat) (os : List Oper), is.map (ops[·]?) = os.map some → ∀ {tm : TM} {h : KH} {k : TM → KH → Prop}, h.ok → kopsD P N ops es is os tm h k →
    runL P N ops (es.contains ·) is tm h.flat (hLift h.n0 k)
  | [], [], _, tm, h, k, ho, hk => ⟨h, rfl, ho, rfl, hk⟩
  | [], _ :: _, h, _, _, _, _, _ => by simp at h
  | _ :: _, [], h, _, _, _, _, _ => by simp at h
  | i :: is, o :: os, he, tm, h, k, ho, hk => by
    simp only [List.map_cons, List.cons.injEq] at he
    have ih := fun {tm : TM} {h : KH} {k : TM → KH → Prop} => kopsD_sound (P := P) (N := N) (es := es) is os he.2 (tm := tm) (h := h) (k := k)
    have lift : ∀ tm' H', hLift h.n0 (fun tm' h' => kopsD P N ops es is os tm' h' k) tm' H' → runL P N ops (es.contains ·) is tm' H' (hLift h.n0 k) := fun tm' H' ⟨h', e1, e2, e3, e4⟩ => by
      have := ih e2 e4
      rw [e1, e3] at this
      exact this
    simp only [runL, step, he.1]
    simp only [kopsD] at hk
    split at hk
    · rename_i hc
      refine vguard_mono (kop_sound ho hk) (fun h' => ?_) fun h' => vput_mono (vput_hLift h').2 lift
      split at h'
      · rename_i hC
        rw [if_pos hC]
        refine vC_mono h' fun r H' hh => ?_
        obtain ⟨⟨h1, q1, q2⟩, q3⟩ := vput_hLift hh
        exact ⟨fun _ => q1 ▸ q2, vput_mono q3 lift⟩
      · rename_i hC
        rw [if_neg hC]
        split at h'
        · rename_i hs; rw [hs]; exact vput_mono (vput_hLift h').2 lift
        · exact h'.elim
    · rename_i hc
      have hc' : es.contains i = false := by simpa using hc
      refine vguard_mono (kop_sound ho hk) (fun h' => ?_) fun h' => vput_mono h' lift
      split at h'
      · rename_i hC
        rw [if_pos hC]
        exact vC_mono h' fun r H' hh => ⟨fun hf => (by rw [hc'] at hf; cases hf), vput_mono hh lift⟩
      · rename_i hC
        rw [if_neg hC]
        split at h'
        · rename_i hs; rw [hs]; exact vput_mono h' lift
        · exact h'.elim
def pickL (ops : Array Oper) (L : List Nat) : List Oper := L.filterMap (ops[·]?)
theorem pickL_spec {ops : Array Oper} : ∀ L : List Nat, (∀ i, i ∈ L → i < ops.size) → L.map (ops[·]?) = (pickL ops L).map some
  | [], _ => rfl
  | i :: L, h => by
    have hi := h i (by simp)
    have ih := pickL_spec L fun j hj => h j (by simp [hj])
    simp only [pickL, List.filterMap_cons, List.map_cons, Array.getElem?_eq_getElem hi] at ih ⊢
    rw [ih]
theorem kwp_draw_in {R0 : Env} {P : Program} {N id : Nat} {ops : Array Oper} {tm : TM} {h : KH} {Q : KQ} (L es : List Nat) (hm : P.follows .mixedOrders = true) (hc : orderOk P ops (es.contains ·) L = true) (hL : L.all (Nat.blt · ops.size) = true) (ho : h.ok)
    (hk : kopsD P N ops es L (pickL ops L) tm h (Q .normal)) : KWp R0 P N (.region id ops true) tm h Q :=
  ⟨vwp_draw L hm hc (kopsD_sound L _ (pickL_spec L fun i hi => by rw [List.all_eq_true] at hL; simpa using hL i hi) ho hk)⟩
/-- A loop over a nil slice that grows: from the start on it is a row of nothing. -/
theorem kwp_nilrow {R0 : Env} {P : Program} {N : Nat} {c : Code} {tm : TM} {h : KH} {Q : KQ} (t n : Nat) (ho : h.ok) (ht : tget tm t = .v (.slice none 0 0))
    (hk : KWp R0 P N c ((t, .slc (h.n0 + h.top.length) 0 0 0) :: tm) { h with top := h.top ++ [.row 0 n []] } Q) : KWp R0 P N c tm h Q := by
  refine ⟨vwp_nilrow t n ht ?_⟩
  have := hk.h
  obtain ⟨e1, e2⟩ := flat_top ho (.row 0 n [])
  rw [e1] at this
  rw [e2]
  exact this
theorem kwp_of_exec {R0 : Env} {P : Program} {N : Nat} {c : Code} {tm : TM} {h : KH} {Q : KQ} (ho : h.ok) (hk : kexec R0 P N c tm h Q) : KWp R0 P N c tm h Q := ⟨kexec_sound c tm h Q ho hk⟩
theorem kcall_bool {P : Program} {f : FuncId} {args : List SV} {h : KH} {K : SV → KH → Prop} {b : Bool} (hc : VCalls P f args h.flat fun r H' => r = .v (.bool b) ∧ H' = h.flat) (ho : h.ok) (ht : b = true → K (.v (.bool true)) h) (hf : b = false → K (.v (.bool false)) h) : KCall P f args h K :=
  kcall_pure hc ho (by cases b; exact hf rfl; exact ht rfl)
theorem tsub_nil {tm : TM} : TSub tm [] := fun p hp => by cases hp
theorem tsub_cons {tm r : TM} {k : Nat} {x : SV} (h : tget tm k = x) (hr : TSub tm r) : TSub tm ((k, x) :: r) := fun p hp => by
  rcases List.mem_cons.1 hp with rfl | hp
  · exact h
  · exact hr p hp
theorem kdone_row {R0 : Env} {K : SV → List VB → Prop} {H top : List VB} {n0 j g n len : Nat} {xs : List SV} (hH : R0.H = H) (h : top[j]? = some (.row g n xs)) (hlen : len = xs.length) (hp : ∀ x, x ∈ xs → x.Bel H.length) (hk : K (.list n false xs) H) :
    KDone R0 K (.slc (H.length + j) g 0 len) ⟨n0, H, top⟩ := by
  subst hlen
  refine kdone_frz hH ?_ hk
  refine .row _ _ _ _ n xs xs (Nat.le_add_right _ _) ((flat_get_top (base := H) rfl j).trans h) (by simp) rfl (fun i hi hj => by simp) fun i hi hj k h1 h2 => ?_
  have e : xs[0 + i] = xs[i] := by simp
  simp only [e]
  exact .keep _ (bel_cells (hp _ (List.getElem_mem _)) _ (List.getElem_mem _))
end Go.Vm
