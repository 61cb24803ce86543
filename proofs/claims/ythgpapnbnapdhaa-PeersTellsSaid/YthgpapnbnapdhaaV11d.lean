/- The virtual machine, part 11d: the builtins that turn memory, together; make; bytes of a string. Generic: no program in sight. -/
import Derived.Test.YthgpapnbnapdhaaV11c
import Derived.Lib.ConvBytes
set_option linter.unusedVariables false
set_option linter.unusedSimpArgs false
namespace Go.Vm
open Go.RowKit

theorem put_rel {R R' : Env} (ex : Ext R R') {cs vs : List SV} {c c' : Array Value} {ws : List Value} {o0 off : Nat} (hle : off + vs.length ≤ cs.length) (hws : ws.length = vs.length) (hw : ∀ (i : Nat) (hi : i < vs.length) (hj : i < ws.length), Rep R vs[i] ws[i])
    (hold : ∀ (j : Nat) (hj : j < cs.length) (hk : o0 + j < c.size), Rep R cs[j] c[o0 + j]) (hsz : c'.size = c.size) (hc' : ∀ k, c'[k]? = if o0 + off ≤ k ∧ k < o0 + off + ws.length then ws[k - (o0 + off)]? else c[k]?) :
    ∀ (j : Nat) (hj : j < (lput cs off vs).length) (hk : o0 + j < c'.size), Rep R' (lput cs off vs)[j] c'[o0 + j] := by
  intro j hj hk
  have g1 := lput_get hle j
  rw [List.getElem?_eq_getElem hj] at g1
  have g2 := hc' (o0 + j)
  rw [Array.getElem?_eq_getElem hk, hws] at g2
  by_cases hin : off ≤ j ∧ j < off + vs.length
  · rw [if_pos hin] at g1
    rw [if_pos (by omega), show o0 + j - (o0 + off) = j - off by omega] at g2
    have h1 : j - off < vs.length := by omega
    have h2 : j - off < ws.length := by omega
    rw [List.getElem?_eq_getElem h1] at g1
    rw [List.getElem?_eq_getElem h2] at g2
    injection g1 with g1
    injection g2 with g2
    rw [g1, g2]
    exact (hw _ h1 h2).mono ex
  · rw [if_neg hin] at g1
    rw [if_neg (by omega)] at g2
    rw [lput_length hle] at hj
    rw [List.getElem?_eq_getElem hj] at g1
    rw [Array.getElem?_eq_getElem (by omega)] at g2
    injection g1 with g1
    injection g2 with g2
    rw [g1, g2]
    exact (hold j hj (by omega)).mono ex
theorem flat_put {n : Nat} {xs zs : List SV} (hx : ∀ x, x ∈ xs → x.cells.length = n) (hz : ∀ x, x ∈ zs → x.cells.length = n) {off : Nat} (h : off + zs.length ≤ xs.length) :
    (xs.take off ++ zs ++ xs.drop (off + zs.length)).flatMap SV.cells = lput (xs.flatMap SV.cells) (off * n) (zs.flatMap SV.cells) := by
  have e1 : (xs.take off).flatMap SV.cells = (xs.flatMap SV.cells).take (off * n) := by
    have : xs.flatMap SV.cells = (xs.take off).flatMap SV.cells ++ (xs.drop off).flatMap SV.cells := by rw [← List.flatMap_append, List.take_append_drop]
    rw [this, List.take_left' (take_flat hx off (by omega))]
  have e2 : (xs.drop (off + zs.length)).flatMap SV.cells = (xs.flatMap SV.cells).drop (off * n + (zs.flatMap SV.cells).length) := by
    have : xs.flatMap SV.cells = (xs.take (off + zs.length)).flatMap SV.cells ++ (xs.drop (off + zs.length)).flatMap SV.cells := by rw [← List.flatMap_append, List.take_append_drop]
    rw [this, flat_length zs hz, ← Nat.add_mul, List.drop_left' (take_flat hx (off + zs.length) h)]
  rw [List.flatMap_append, List.flatMap_append, e1, e2]
  rfl
def vAppend (P : Program) (H : List VB) (ats : Array TypeId) (s x : SV) (K : SV → List VB → Prop) : Prop :=
  ∃ n ys, appTypes P ats = some n ∧ vsrc H n x = some ys ∧ match s with
  | .v (.slice none 0 0) => ys.length ≤ 68719476736 ∧ K (.slc H.length 0 0 ys.length) (H ++ [.row 0 n ys])
  | .list n' f xs => n' = n ∧ f = true ∧ xs.length + ys.length ≤ 68719476736 ∧ (xs = [] ∨ ys ≠ [] → K (.slc H.length 0 0 (xs.length + ys.length)) (H ++ [.row 0 n (xs ++ ys)])) ∧ (xs ≠ [] → ys = [] → K (.list n' f xs) H)
  | .slc id g off len => ∃ xs, H[id]? = some (.row g n xs) ∧ off = 0 ∧ len = xs.length ∧ xs.length + ys.length ≤ 68719476736 ∧ (∀ y, y ∈ ys → ∀ c, c ∈ y.cells → svCell H c = true) ∧
      K (.slc id (g + 1) 0 (xs.length + ys.length)) (H.set id (.row (g + 1) n (xs ++ ys)))
  | _ => False
theorem vAppend_sound {P : Program} {R : Env} (hR : HRep R) {ats : Array TypeId} {s x : SV} {K : SV → List VB → Prop} {a b : Value} (h : vAppend P R.H ats s x K) (hs : Rep R s b) (hx : Rep R x a) (ty : TypeId) : VSnd P R (Builtin.append_ ats ty #[b, a]) K := by
  obtain ⟨n, ys, ht, hys, h⟩ := h
  split at h
  · obtain ⟨h1, h2⟩ := h
    obtain rfl := rep_v.1 hs
    obtain ⟨v, R', q1, q2, q3, q4, q5⟩ := appendNew_sound (P := P) hR ht hys hx (s := .v (.slice none 0 0)) (xs := []) (base := none) rfl (.v _) (by simpa using h1) (.inl rfl) ty
    simp only [List.length_nil, Nat.zero_add, List.nil_append] at q4 q5
    exact ⟨v, _, R', q1, q2, q3, q4, by rw [q5]; exact h2⟩
  · rename_i n' f xs
    obtain ⟨rfl, rfl, h1, h2, h3⟩ := h
    have hs' := hs
    cases hs with
    | list _ _ _ ad c g hc hfull hn ha h' =>
      have hcx := hfull rfl
      subst hcx
      by_cases hc : xs = [] ∨ ys ≠ []
      · obtain ⟨v, R', q1, q2, q3, q4, q5⟩ := appendNew_sound (P := P) hR ht hys hx (s := .list n' true xs) (xs := xs) (base := ad) (by simp [vsrc, vread]) hs' h1 hc ty
        exact ⟨v, _, R', q1, q2, q3, q4, by rw [q5]; exact h2 hc⟩
      · have hxn : xs ≠ [] := fun h => hc (.inl h)
        have hyn : ys = [] := by
          rcases Classical.em (ys = []) with h | h
          · exact h
          · exact absurd (.inr h) hc
        subst hyn
        obtain ⟨hlen, hny, hfc⟩ := vsrc_sound (P := P) hR hys hx
        obtain ⟨arr, q1, q2⟩ := hfc 0 (by simp)
        have : arr = #[] := Array.eq_empty_of_size_eq_zero (by rw [q2.1]; simp)
        subst this
        have hrun := append_room (R := R) (base := ad) (len := xs.length) (cap := xs.length) (arr := #[]) (w' := R.w) ht hlen (by simp) q1 (by cases ad <;> rfl) ty
        exact ⟨_, _, R, hrun, Ext.refl hR, hR, hs', h3 hxn rfl⟩
  · rename_i id g off len
    obtain ⟨xs, h1, rfl, rfl, h2, h3, h4⟩ := h
    obtain ⟨v, R', q1, q2, q3, q4, q5⟩ := appendRow_sound (P := P) hR ht hys hx h1 hs h2 h3 ty
    exact ⟨v, _, R', q1, q2, q3, q4, by rw [q5]; exact h4⟩
  · exact h.elim
def vCopy (P : Program) (H : List VB) (ats : Array TypeId) (d x : SV) (K : SV → List VB → Prop) : Prop :=
  ∃ t e ys, ats[0]? = some t ∧ P.underlying t = some (.slice e) ∧ (P.underlying e).isSome = true ∧ vsrc H (P.cellsOf e) x = some ys ∧ (∀ y, y ∈ ys → ∀ c, c ∈ y.cells → svCell H c = true) ∧ match d with
  | .bsl id off n len cap => ∃ cs, H[id]? = some (.box cs) ∧ n = P.cellsOf e ∧ off + len * n ≤ cs.length ∧
      K (.v (.int .i64 (min ys.length len : Nat))) (H.set id (.box (lput cs off ((ys.take (min ys.length len)).flatMap SV.cells))))
  | .slc id g off len => ∃ xs, H[id]? = some (.row g (P.cellsOf e) xs) ∧ off + len ≤ xs.length ∧
      K (.v (.int .i64 (min ys.length len : Nat))) (H.set id (.row g (P.cellsOf e) (xs.take off ++ ys.take (min ys.length len) ++ xs.drop (off + min ys.length len))))
  | _ => False
theorem run_copy {P : Program} {R : Env} {ats : Array TypeId} {t e : TypeId} (h0 : ats[0]? = some t) (hu : P.underlying t = some (.slice e)) {de : TypeDesc} (hde : P.underlying e = some de) {base : Option Addr} {len cap m : Nat} {x : Value}
    (hm : (Builtin.lenOf x).run P R.w = .ok m R.w) {arr : Array Value} (hf : (Builtin.firstCells (P.cellsOf e) (min m len) x).run P R.w = .ok arr R.w) {w' : World}
    (hs : (match base with | some a => storeCells a arr.toList | none => pure () : Sem Unit).run P R.w = .ok () w') (ty : TypeId) :
    (Builtin.copy_ ats ty #[.slice base len cap, x]).run P R.w = .ok (.int .i64 (min m len : Nat)) w' := by
  have hx0 : (#[Value.slice base len cap, x] : Array Value)[0]? = some (.slice base len cap) := rfl
  have hx1 : (#[Value.slice base len cap, x] : Array Value)[1]? = some x := rfl
  have hmin : Nat.min m len = min m len := rfl
  simp only [Builtin.copy_, h0, hx0, hx1, Sem.run_bind, run_underlying hu, Result.andThen_ok, hm, run_sizeOf hde, hmin, hf]
  cases base with
  | none => simp only [Sem.run_pure] at hs; cases hs; rfl
  | some a => simp only [Sem.run_bind] at hs ⊢; rw [hs]; rfl
theorem set_same_id {H : List VB} {id : Nat} {b : VB} (h : H[id]? = some b) : H.set id b = H := by
  refine List.ext_getElem? fun i => ?_
  by_cases hi : i = id
  · subst hi; rw [List.getElem?_set_self (lt_of_some h), h]
  · rw [List.getElem?_set_ne (Ne.symm hi)]
theorem lput_nil (l : List SV) (off : Nat) : lput l off [] = l := by simp [lput]
theorem vCopy_sound {P : Program} {R : Env} (hR : HRep R) {ats : Array TypeId} {d x : SV} {K : SV → List VB → Prop} {a b : Value} (h : vCopy P R.H ats d x K) (hd : Rep R d b) (hx : Rep R x a) (ty : TypeId) : VSnd P R (Builtin.copy_ ats ty #[b, a]) K := by
  obtain ⟨t, e, ys, h0, hu, hs, hys, hcl, h⟩ := h
  obtain ⟨de, hde⟩ := Option.isSome_iff_exists.1 hs
  obtain ⟨hlen, hny, hfc⟩ := vsrc_sound (P := P) hR hys hx
  have hone : ∀ (k : Nat) (arr : Array Value), CellsR R ((ys.take k).flatMap SV.cells) arr → ∀ v, v ∈ arr.toList → v.oneCell' = true := by
    intro k arr hc v hv
    obtain ⟨i, hi, rfl⟩ := List.getElem_of_mem hv
    simp only [Array.length_toList] at hi
    have hi2 : i < ((ys.take k).flatMap SV.cells).length := by rw [← hc.1]; exact hi
    obtain ⟨y, hy1, hy2⟩ := List.mem_flatMap.1 (List.getElem_mem hi2)
    exact (svCell_one (hcl y (List.mem_of_mem_take hy1) _ hy2) (hc.2 i hi2 hi)).1
  split at h
  · rename_i id off n len cap
    obtain ⟨cs, hbox, rfl, hle, h⟩ := h
    cases hd with
    | bsl _ _ _ _ _ base hid hb hlc ha =>
      obtain ⟨arr, q1, q2⟩ := hfc (min ys.length len) (Nat.min_le_left ..)
      have hfl : ((ys.take (min ys.length len)).flatMap SV.cells).length = min ys.length len * P.cellsOf e := take_flat hny _ (Nat.min_le_left ..)
      by_cases hk : min ys.length len = 0
      · have hz : arr = #[] := Array.eq_empty_of_size_eq_zero (by rw [q2.1, hfl, hk, Nat.zero_mul])
        subst hz
        refine ⟨_, _, R, run_copy (R := R) (w' := R.w) h0 hu hde hlen q1 (by cases base <;> rfl) ty, Ext.refl hR, hR, .v _, ?_⟩
        rw [hk] at h ⊢
        simp only [List.take_zero, List.flatMap_nil, lput_nil] at h
        rwa [set_same_id hbox] at h
      · obtain ⟨ad, e1, e2, rfl⟩ := ha (by omega)
        obtain ⟨ad', c', e', fz, r1, r2, r3, r4, r5⟩ := hR.box id cs hbox
        rw [e1] at r1
        cases r1
        have hkn : min ys.length len * P.cellsOf e ≤ len * P.cellsOf e := Nat.mul_le_mul_right _ (Nat.min_le_right ..)
        have hoff : off + ((ys.take (min ys.length len)).flatMap SV.cells).length ≤ cs.length := by rw [hfl]; omega
        have harr : arr.toList.length = ((ys.take (min ys.length len)).flatMap SV.cells).length := by rw [Array.length_toList, q2.1]
        obtain ⟨w', p1, p2, p3⟩ := put_block (P := P) (b' := .box (lput cs off ((ys.take (min ys.length len)).flatMap SV.cells))) hR hbox trivial e1 r2 r3 (o := ad.off + off) (vs := arr.toList) (by rw [harr]; omega) (hone _ arr q2) (by
          intro w' d' s1 s2 s3 ex
          have hs' := set_same R.H id (.box (lput cs off ((ys.take (min ys.length len)).flatMap SV.cells))) hid
          refine ⟨fun cs' h1 => ?_, fun g n xs h1 => (by cases hs'.symm.trans h1), fun es h1 => (by cases hs'.symm.trans h1)⟩
          cases hs'.symm.trans h1
          exact ⟨ad, d', e', fz, e1, s1, by rw [s2]; exact r3, by rw [lput_length hoff, s2]; exact r4, put_rel ex hoff harr (fun i hi hj => by have := q2.2 i hi (by simpa using hj); simpa using this) r5 s2 s3⟩)
        exact ⟨_, _, ⟨_, R.ρ, w'⟩, run_copy (R := R) (base := some ⟨ad.block, ad.off + off, none⟩) (w' := w') h0 hu hde hlen q1 p1 ty, p2, p3, .v _, h⟩
  · rename_i id g off len
    obtain ⟨xs, hrow, hle, h⟩ := h
    cases hd with
    | slcOld _ _ _ _ y hid hr => have := hr _ _ _ hrow; omega
    | slc _ _ _ _ n' xs' base cap hr hle' hc hadr =>
      rw [hrow] at hr
      cases hr
      obtain ⟨arr, q1, q2⟩ := hfc (min ys.length len) (Nat.min_le_left ..)
      have hfl : ((ys.take (min ys.length len)).flatMap SV.cells).length = min ys.length len * P.cellsOf e := take_flat hny _ (Nat.min_le_left ..)
      by_cases hk : min ys.length len = 0
      · have hz : arr = #[] := Array.eq_empty_of_size_eq_zero (by rw [q2.1, hfl, hk, Nat.zero_mul])
        subst hz
        refine ⟨_, _, R, run_copy (R := R) (w' := R.w) h0 hu hde hlen q1 (by cases base <;> rfl) ty, Ext.refl hR, hR, .v _, ?_⟩
        rw [hk] at h ⊢
        simp only [List.take_zero, List.append_nil, Nat.add_zero, List.take_append_drop] at h
        rwa [set_same_id hrow] at h
      · obtain ⟨ad, e1, rfl, e3⟩ := hadr (by omega)
        obtain ⟨m1, m2 | ⟨a', c', e', fz, r1, r2, r3, r4, r5⟩⟩ := hR.row id g (P.cellsOf e) xs hrow
        · rw [m2.1] at e1; cases e1
        · rw [e1] at r1
          cases r1
          have hkt : (ys.take (min ys.length len)).length = min ys.length len := by simp
          have hny' : ∀ y, y ∈ ys.take (min ys.length len) → y.cells.length = P.cellsOf e := fun y hy => hny y (List.mem_of_mem_take hy)
          have hfp := flat_put m1 hny' (off := off) (by rw [hkt]; omega)
          rw [hkt] at hfp
          have hxl : (xs.flatMap SV.cells).length = xs.length * P.cellsOf e := flat_length _ m1
          have hkn : off * P.cellsOf e + min ys.length len * P.cellsOf e ≤ xs.length * P.cellsOf e := by rw [← Nat.add_mul]; exact Nat.mul_le_mul_right _ (by omega)
          have hoff : off * P.cellsOf e + ((ys.take (min ys.length len)).flatMap SV.cells).length ≤ (xs.flatMap SV.cells).length := by rw [hfl, hxl]; omega
          have harr : arr.toList.length = ((ys.take (min ys.length len)).flatMap SV.cells).length := by rw [Array.length_toList, q2.1]
          have hlnew : (xs.take off ++ ys.take (min ys.length len) ++ xs.drop (off + min ys.length len)).length = xs.length := by simp; omega
          have hold : ∀ (j : Nat) (hj : j < (xs.flatMap SV.cells).length) (hk : ad.off + j < c'.size), Rep R (xs.flatMap SV.cells)[j] c'[ad.off + j] := by
            intro j hj hk
            rw [hxl] at hj
            have hnp : 0 < P.cellsOf e := by
              rcases Nat.eq_zero_or_pos (P.cellsOf e) with h0 | h0
              · rw [h0] at hj; simp at hj
              · exact h0
            have hi : j / P.cellsOf e < xs.length := by rw [Nat.div_lt_iff_lt_mul hnp]; exact hj
            have hdm : j / P.cellsOf e * P.cellsOf e + j % P.cellsOf e = j := by rw [Nat.mul_comm]; exact Nat.div_add_mod j _
            have hcl' : j % P.cellsOf e < xs[j / P.cellsOf e].cells.length := by rw [m1 _ (List.getElem_mem hi)]; exact Nat.mod_lt _ hnp
            have hfg := flat_get xs m1 (j / P.cellsOf e) hi (j % P.cellsOf e) hcl'
            rw [hdm, List.getElem?_eq_getElem (by rw [hxl]; exact hj)] at hfg
            injection hfg with hfg
            rw [hfg]
            have := r5 (j / P.cellsOf e) hi (j % P.cellsOf e) hcl' (by omega)
            simpa only [Nat.add_assoc, hdm] using this
          obtain ⟨w', p1, p2, p3⟩ := put_block (P := P) (b' := .row g (P.cellsOf e) (xs.take off ++ ys.take (min ys.length len) ++ xs.drop (off + min ys.length len))) hR hrow
            (show Turns (.row g (P.cellsOf e) xs) (.row g (P.cellsOf e) _) from .inl ⟨rfl, rfl, by rw [hlnew]; exact Nat.le_refl _⟩) e1 r2 r3 (o := ad.off + off * P.cellsOf e) (vs := arr.toList) (by rw [harr, hfl]; omega) (hone _ arr q2) (by
            intro w' d' s1 s2 s3 ex
            refine row_ok' (set_same R.H id _ (lt_of_some hrow)) e1 s1 (by rw [s2]; exact r3) (fun z hz => ?_) (by rw [s2, hlnew]; exact r4) fun j hj hk => ?_
            · rcases List.mem_append.1 hz with hz | hz
              · rcases List.mem_append.1 hz with hz | hz
                · exact m1 z (List.mem_of_mem_take hz)
                · exact hny' z hz
              · exact m1 z (List.mem_of_mem_drop hz)
            · have := put_rel ex hoff harr (fun i hi hj => by have := q2.2 i hi (by simpa using hj); simpa using this) hold s2 s3 j (by rw [← hfp]; exact hj) hk
              simpa only [hfp] using this)
          refine ⟨_, _, ⟨_, R.ρ, w'⟩, run_copy (R := R) (base := some ⟨ad.block, ad.off + off * P.cellsOf e, none⟩) (w' := w') h0 hu hde hlen q1 p1 ty, p2, p3, .v _, h⟩
  · exact h.elim
def vBuiltin (P : Program) (H : List VB) (b : Builtin) (ats : Array TypeId) (args : List SV) (K : SV → List VB → Prop) : Prop :=
  match b, args with
  | .append, [s, x] => vAppend P H ats s x K
  | .copy, [d, x] => vCopy P H ats d x K
  | _, _ => False
theorem vBuiltin_sound {P : Program} {R : Env} (hR : HRep R) {b : Builtin} {ats : Array TypeId} {args : List SV} {K : SV → List VB → Prop} (h : vBuiltin P R.H b ats args K) {vs : Array Value} (hv : vs.size = args.length ∧ ∀ (i : Nat) (hi : i < args.length) (hj : i < vs.size), Rep R args[i] vs[i]) (ty : TypeId) (consts : Array Bool) :
    ∃ v r R', (builtin b ats ty consts vs).run P R.w = .ok (.value v) R'.w ∧ Ext R R' ∧ HRep R' ∧ Rep R' r v ∧ K r R'.H := by
  have two : ∀ s x, args = [s, x] → ∃ u v, vs = #[u, v] ∧ Rep R s u ∧ Rep R x v := by
    rintro s x rfl
    obtain ⟨l⟩ := vs
    obtain ⟨h1, h2⟩ := hv
    match l, h1 with
    | [u, v], _ => exact ⟨u, v, rfl, h2 0 (by simp) (by simp), h2 1 (by simp) (by simp)⟩
  unfold vBuiltin at h
  split at h
  · rename_i s x
    obtain ⟨u, v, rfl, h1, h2⟩ := two s x rfl
    obtain ⟨v, r, R', q1, q2⟩ := vAppend_sound hR h h1 h2 ty
    exact ⟨v, r, R', by simp only [builtin, Sem.run_bind, q1, Result.andThen_ok, Sem.run_pure], q2⟩
  · rename_i s x
    obtain ⟨u, v, rfl, h1, h2⟩ := two s x rfl
    obtain ⟨v, r, R', q1, q2⟩ := vCopy_sound hR h h1 h2 ty
    exact ⟨v, r, R', by simp only [builtin, Sem.run_bind, q1, Result.andThen_ok, Sem.run_pure], q2⟩
  · exact h.elim
theorem vBuiltin_mono {P : Program} {H : List VB} {b : Builtin} {ats : Array TypeId} {args : List SV} {K K' : SV → List VB → Prop} (h : vBuiltin P H b ats args K) (hk : ∀ r H', K r H' → K' r H') : vBuiltin P H b ats args K' := by
  unfold vBuiltin at h ⊢
  split at h
  · obtain ⟨n, ys, h1, h2, h3⟩ := h
    refine ⟨n, ys, h1, h2, ?_⟩
    split at h3
    · exact ⟨h3.1, hk _ _ h3.2⟩
    · exact ⟨h3.1, h3.2.1, h3.2.2.1, fun h => hk _ _ (h3.2.2.2.1 h), fun h h' => hk _ _ (h3.2.2.2.2 h h')⟩
    · obtain ⟨xs, q1, q2, q3, q4, q5, q6⟩ := h3
      exact ⟨xs, q1, q2, q3, q4, q5, hk _ _ q6⟩
    · exact h3.elim
  · obtain ⟨t, e, ys, h1, h2, h3, h4, h5, h6⟩ := h
    refine ⟨t, e, ys, h1, h2, h3, h4, h5, ?_⟩
    split at h6
    · obtain ⟨cs, q1, q2, q3, q4⟩ := h6
      exact ⟨cs, q1, q2, q3, hk _ _ q4⟩
    · obtain ⟨xs, q1, q2, q3⟩ := h6
      exact ⟨xs, q1, q2, hk _ _ q3⟩
    · exact h6.elim
  · exact h.elim

/-! ### make, []byte(s) -/
def vMakeSlice (P : Program) (H : List VB) (t : TypeId) (l c : SV) (K : SV → List VB → Prop) : Prop :=
  ∃ (k k' : IntKind) (len cap : Nat) (e : TypeId) (z : List SV) (x : SV), l = .v (.int k len) ∧ c = .v (.int k' cap) ∧ P.underlying t = some (.slice e) ∧ (P.underlying e).isSome = true ∧ zcells P e = some z ∧ z.length = P.cellsOf e ∧ 1 ≤ P.cellsOf e ∧
    x.cells = z ∧ len ≤ cap ∧ cap ≤ 68719476736 ∧ P.bytesOf e ≤ 1024 ∧ K (.slc H.length 0 0 len) (H ++ [.row 0 (P.cellsOf e) (List.replicate len x)])
theorem vMakeSlice_sound {P : Program} {R : Env} (hR : HRep R) {t : TypeId} {l c : SV} {K : SV → List VB → Prop} {a b : Value} (h : vMakeSlice P R.H t l c K) (ha : Rep R l a) (hb : Rep R c b) : VSnd P R (Instr.makeSlice t a b) K := by
  obtain ⟨k, k', len, cap, e, z, x, rfl, rfl, hu, hs, hz, hzl, hpos, hxc, hle, hcap, hby, h⟩ := h
  obtain rfl := rep_v.1 ha
  obtain rfl := rep_v.1 hb
  obtain ⟨de, hde⟩ := Option.isSome_iff_exists.1 hs
  obtain ⟨zv, hzv, hzc⟩ := zcells_sound (R := R) hz
  obtain ⟨ie, hie⟩ := info_of_underlying hde
  have hbytes : P.bytesOf e = ie.bytes := by simp [Program.bytesOf, hie]
  rw [hbytes] at hby
  have hti : ∀ w, (typeInfo e).run P w = .ok ie w := fun w => by simp [typeInfo, hie]
  have hwl : IntKind.i64.wrap (len : Int) = len := by unfold IntKind.wrap; simp [IntKind.bits, IntKind.signed]; omega
  have hwc : IntKind.i64.wrap (cap : Int) = cap := by unfold IntKind.wrap; simp [IntKind.bits, IntKind.signed]; omega
  have hlarge : ¬ ((ie.bytes : Int) * (cap : Int) > 2 ^ 48) := by
    have h1 : ie.bytes * cap ≤ 1024 * 68719476736 := Nat.mul_le_mul hby hcap
    have h2 : 1024 * 68719476736 ≤ 2 ^ 48 := by decide
    have h3 : ((ie.bytes * cap : Nat) : Int) ≤ ((2 ^ 48 : Nat) : Int) := by omega
    rw [Int.natCast_mul] at h3
    have h4 : ((2 ^ 48 : Nat) : Int) = 2 ^ 48 := by decide
    omega
  have hsz : zv.cells.size = P.cellsOf e := by rw [hzc.1, hzl]
  have hn : ∀ y, y ∈ List.replicate len x → y.cells.length = P.cellsOf e := fun y hy => by rw [List.eq_of_mem_replicate hy, hxc, hzl]
  have hrun : ∃ arr : Array Value, arr.size = cap * P.cellsOf e ∧ (∀ i, i < cap * P.cellsOf e → arr[i]? = zv.cells[i % zv.cells.size]?) ∧ (Instr.makeSlice t (.int k len) (.int k' cap)).run P R.w = .ok (.slice (some ⟨R.w.heap.size, 0, none⟩) len cap) (R.w.alloc (.cells arr e)) := by
    have e1 : ¬ ((cap : Int) < 0) := by omega
    have e2 : ¬ ((len : Int) < 0) := by omega
    have e3 : ¬ ((len : Int) > (cap : Int)) := by omega
    have hmod : ∀ i, i % zv.cells.size < zv.cells.size := fun i => Nat.mod_lt _ (by omega)
    have hbad : ¬ (((cap : Int) < 0 ∨ 281474976710656 < (ie.bytes : Int) * (cap : Int)) ∨ (len : Int) < 0) := by
      rintro ((h | h) | h)
      · omega
      · exact hlarge (by simpa using h)
      · omega
    by_cases hc0 : cap * P.cellsOf e = 0
    · refine ⟨#[], by simp [hc0], fun i hi => by omega, ?_⟩
      simp [Instr.makeSlice, run_underlying hu, asInt, asIntOf, hti, hwl, hwc, e3, run_sizeOf hde, hc0, newRow]
      rw [if_neg hbad]
      have hr0 : (Array.range 0) = #[] := rfl
      rw [hr0, Array.map_empty]
    · refine ⟨(Array.range (cap * P.cellsOf e)).map (zv.cells[· % zv.cells.size]!), by simp, fun i hi => ?_, ?_⟩
      · simp [hi, hmod]
      · simp [Instr.makeSlice, run_underlying hu, asInt, asIntOf, hti, hwl, hwc, e3, run_sizeOf hde, hc0, hzv, newRow]
        intro hx
        exact absurd hx hbad
  obtain ⟨arr, h1, h2, h3⟩ := hrun
  have hfl := flat_length _ hn
  rw [List.length_replicate] at hfl
  have hge : len * P.cellsOf e ≤ cap * P.cellsOf e := Nat.mul_le_mul_right _ hle
  obtain ⟨p1, p2, p3⟩ := row_new (xs := List.replicate len x) (arr := arr) hR e (.refl R.w) rfl hn cap (by rw [List.length_replicate]; exact hle) (by omega) (by
    intro j hj hk
    rw [hfl] at hj
    have hi : j / P.cellsOf e < len := by rw [Nat.div_lt_iff_lt_mul (by omega)]; exact hj
    have hdm : j / P.cellsOf e * P.cellsOf e + j % P.cellsOf e = j := by rw [Nat.mul_comm]; exact Nat.div_add_mod j _
    have hml : j % P.cellsOf e < z.length := by rw [hzl]; exact Nat.mod_lt _ (by omega)
    have hfg := flat_get _ hn (j / P.cellsOf e) (by rw [List.length_replicate]; exact hi) (j % P.cellsOf e) (by rw [List.getElem_replicate, hxc]; exact hml)
    rw [hdm, List.getElem?_eq_getElem (by rw [hfl]; exact hj)] at hfg
    injection hfg with hfg
    rw [hfg]
    have h2 := h2 j (by omega)
    rw [hsz, Array.getElem?_eq_getElem hk, Array.getElem?_eq_getElem (show j % P.cellsOf e < zv.cells.size by omega)] at h2
    injection h2 with h2
    rw [h2]
    simp only [List.getElem_replicate, hxc]
    exact hzc.2 _ hml _) (0, 0) (by simp [unfrozen]) (.alloc R.w _) (by rw [World.alloc]; exact Array.getElem?_push_size)
  rw [List.length_replicate] at p3
  exact ⟨_, _, ⟨_, _, _⟩, h3, p1, p2, p3, h⟩
theorem vMakeSlice_mono {P : Program} {H : List VB} {t : TypeId} {l c : SV} {K K' : SV → List VB → Prop} (h : vMakeSlice P H t l c K) (hk : ∀ r H', K r H' → K' r H') : vMakeSlice P H t l c K' := by
  obtain ⟨k, k', len, cap, e, z, x, h1, h2, h3, h4, h5, h6, h7, h8, h9, h10, h11, h12⟩ := h
  exact ⟨k, k', len, cap, e, z, x, h1, h2, h3, h4, h5, h6, h7, h8, h9, h10, h11, hk _ _ h12⟩
def vConvBytes (P : Program) (H : List VB) (s d : TypeId) (x : SV) (K : SV → List VB → Prop) : Prop :=
  ∃ (b : ByteArray) (e : TypeId), x = .v (.string b) ∧ (P.underlying s).isSome = true ∧ P.underlying d = some (.slice e) ∧ P.underlying e = some (.int .u8) ∧ b.size ≤ 1099511627776 ∧
    K (.slc H.length 0 0 b.size) (H ++ [.row 0 1 (b.data.toList.map byteSV)])
theorem vConvBytes_sound {P : Program} {R : Env} (hR : HRep R) {s d : TypeId} {x : SV} {K : SV → List VB → Prop} {a : Value} (h : vConvBytes P R.H s d x K) (ha : Rep R x a) : VSnd P R (convert s d a) K := by
  obtain ⟨b, e, rfl, hs, hd, he, hb, h⟩ := h
  obtain rfl := rep_v.1 ha
  obtain ⟨u, hu⟩ := Option.isSome_iff_exists.1 hs
  have hrun := Go.Lib.run_convert_string_bytes R.w s d e b hu hd he
  have hn : ∀ y, y ∈ b.data.toList.map byteSV → y.cells.length = 1 := fun y hy => by
    obtain ⟨c, _, rfl⟩ := List.mem_map.1 hy
    rfl
  have hfm : (b.data.toList.map byteSV).flatMap SV.cells = b.data.toList.map byteSV := by
    have : ∀ l : List UInt8, (l.map byteSV).flatMap SV.cells = l.map byteSV := fun l => by
      induction l with
      | nil => rfl
      | cons a l ih => simp only [List.map_cons, List.flatMap_cons, ih]; rfl
    exact this _
  have hbl : (b.data.toList.map byteSV).length = b.size := by rw [List.length_map, Array.length_toList]; rfl
  have hge : b.size ≤ grownCap R.w b.size 0 e := cut_ge _ _ _ _
  have hsz : (Go.Lib.bytesCells R.w e b).size = grownCap R.w b.size 0 e := by
    have h1 : b.data.size = b.size := rfl
    simp only [Go.Lib.bytesCells, Array.size_append, Array.size_map, Array.size_replicate]
    omega
  obtain ⟨p1, p2, p3⟩ := row_new (xs := b.data.toList.map byteSV) (arr := Go.Lib.bytesCells R.w e b) hR e (.drew R.w) rfl hn (grownCap R.w b.size 0 e) (by rw [hbl]; exact hge) (by omega) (by
    intro j hj hk
    simp only [hfm]
    have hjb : j < b.data.size := by rw [hfm] at hj; simpa using hj
    have : (Go.Lib.bytesCells R.w e b)[j] = Value.int .u8 (b.data[j].toNat : Int) := by
      simp only [Go.Lib.bytesCells]
      rw [Array.getElem_append_left (by simpa using hjb)]
      simp
    rw [this]
    simp only [List.getElem_map, Array.getElem_toList]
    exact .v _) ((Go.Lib.bytesCells R.w e b).size, (Go.Lib.bytesCells R.w e b).size + 1) (fun i hi h => absurd h.1 (Nat.not_le.2 hi)) (w' := Go.Lib.bytesWorld R.w e b)
    ⟨⟨rfl, rfl, rfl⟩, by rw [Go.Lib.bytesWorld_size]; exact Nat.le_succ _, fun j hj => Go.Lib.bytesWorld_at_old R.w e b j hj⟩ (Go.Lib.bytesWorld_at_new R.w e b)
  rw [hbl] at p3
  exact ⟨_, _, ⟨_, _, _⟩, hrun, p1, p2, p3, h⟩
theorem vConvBytes_mono {P : Program} {H : List VB} {s d : TypeId} {x : SV} {K K' : SV → List VB → Prop} (h : vConvBytes P H s d x K) (hk : ∀ r H', K r H' → K' r H') : vConvBytes P H s d x K' := by
  obtain ⟨b, e, h1, h2, h3, h4, h5, h6⟩ := h
  exact ⟨b, e, h1, h2, h3, h4, h5, hk _ _ h6⟩
end Go.Vm
