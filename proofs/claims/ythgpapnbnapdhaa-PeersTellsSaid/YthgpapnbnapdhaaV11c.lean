/- The virtual machine, part 11c: append, make, copy, bytes of a string, on virtual values. Generic: no program in sight. -/
import Derived.Test.YthgpapnbnapdhaaV11b
set_option linter.unusedVariables false
set_option linter.unusedSimpArgs false
namespace Go.Vm
open Go.RowKit

theorem firstCells_drew {P : Program} {R : Env} (hR : HRep R) {n : Nat} {x : SV} {ys : List SV} {a : Value} (h : vsrc R.H n x = some ys) (ha : Rep R x a) (k : Nat) (hk : k ≤ ys.length) :
    ∃ arr, (∀ w, w = R.w.drew → (Builtin.firstCells n k a).run P w = .ok arr w) ∧ CellsR R ((ys.take k).flatMap SV.cells) arr := by
  have g := Grows.drew R.w
  obtain ⟨_, _, h3⟩ := vsrc_sound (P := P) (R := { R with w := R.w.drew }) (g.rep hR) h (ha.mono (g.ext hR))
  obtain ⟨arr, q1, q2⟩ := h3 k hk
  obtain ⟨_, _, h4⟩ := vsrc_sound (P := P) hR h ha
  obtain ⟨arr2, p1, p2⟩ := h4 k hk
  have e : arr2 = arr := by
    have key : ∀ (w w' : World), w'.heap = w.heap → ∀ arr, (Builtin.firstCells n k a).run P w = .ok arr w → (Builtin.firstCells n k a).run P w' = .ok arr w' := by
      intro w w' hw arr hrun
      have lc : ∀ (m i : Nat) (ad : Addr) (acc out : Array Value), (loadCellsFrom ad i m acc).run P w = .ok out w → (∀ j, j < m → ∃ v, w.cell? (ad.add (i + j)) = some v) → (loadCellsFrom ad i m acc).run P w' = .ok out w' := by
        intro m
        induction m with
        | zero => intro i ad acc out h1 _; simp only [loadCellsFrom, Sem.run_pure] at h1 ⊢; cases h1; rfl
        | succ m ih =>
          intro i ad acc out h1 h2
          obtain ⟨v, hv⟩ := h2 0 (by omega)
          rw [Nat.add_zero] at hv
          have hv' : w'.cell? (ad.add i) = some v := by rw [← hv]; simp [World.cell?, hw]
          simp only [loadCellsFrom, Sem.run_bind, run_load, hv, Result.andThen_ok] at h1
          simp only [loadCellsFrom, Sem.run_bind, run_load, hv', Result.andThen_ok]
          exact ih (i + 1) ad _ out h1 (fun j hj => by have := h2 (j + 1) (by omega); rwa [show i + (j + 1) = i + 1 + j by omega] at this)
      exact (by
        cases a with
        | slice ad len cap =>
          cases ad with
          | none => simp only [Builtin.firstCells, Sem.run_pure] at hrun ⊢; cases hrun; rfl
          | some ad =>
            simp only [Builtin.firstCells, loadCells] at hrun ⊢
            have hcell : ∀ (m i : Nat) (acc out : Array Value), (loadCellsFrom ad i m acc).run P w = .ok out w → (loadCellsFrom ad i m acc).run P w' = .ok out w' := by
              intro m
              induction m with
              | zero => intro i acc out h1; simp only [loadCellsFrom, Sem.run_pure] at h1 ⊢; cases h1; rfl
              | succ m ih =>
                intro i acc out h1
                simp only [loadCellsFrom, Sem.run_bind, run_load] at h1 ⊢
                have e1 : w'.cell? (ad.add i) = w.cell? (ad.add i) := by simp [World.cell?, hw]
                have e2 : ∀ b, w'.farLoad P (ad.add i) b = w.farLoad P (ad.add i) b := by intro b; simp [World.farLoad, World.viewLoad, World.seen, World.noCell, hw]
                rw [e1, e2]
                split at h1
                · exact ih _ _ _ h1
                · split at h1
                  · exact ih _ _ _ h1
                  · simp only [Result.andThen_halt] at h1; cases h1
            exact hcell _ _ _ _ hrun
        | string s => simp only [Builtin.firstCells, Sem.run_pure] at hrun ⊢; cases hrun; rfl
        | _ => simp only [Builtin.firstCells, run_stuck] at hrun; cases hrun)
    have := key R.w.drew R.w rfl arr q1
    rw [p1] at this
    injection this with this
  subst e
  refine ⟨arr2, fun w hw => by subst hw; exact q1, p2⟩
theorem Nat.le_refl' (n : Nat) : n ≤ n := Nat.le_refl n
/-- An append onto nothing, or onto a full list. -/
theorem appendNew_sound {P : Program} {R : Env} (hR : HRep R) {ats : Array TypeId} {n : Nat} (ht : appTypes P ats = some n) {x : SV} {xs ys : List SV} {base : Option Addr} {a : Value} (hs : vsrc R.H n x = some ys) (ha : Rep R x a)
    {s : SV} (hxs : vsrc R.H n s = some xs) (hsr : Rep R s (.slice base xs.length xs.length)) (hb : xs.length + ys.length ≤ 68719476736) (hne : xs = [] ∨ ys ≠ []) (ty : TypeId) :
    ∃ v R', (Builtin.append_ ats ty #[.slice base xs.length xs.length, a]).run P R.w = .ok v R'.w ∧ Ext R R' ∧ HRep R' ∧ Rep R' (.slc R.H.length 0 0 (xs.length + ys.length)) v ∧ R'.H = R.H ++ [.row 0 n (xs ++ ys)] := by
  obtain ⟨hlen, hny, hfc⟩ := vsrc_sound (P := P) hR hs ha
  obtain ⟨_, hnx, hfx⟩ := vsrc_sound (P := P) hR hxs hsr
  have hn : ∀ z, z ∈ xs ++ ys → z.cells.length = n := fun z hz => by
    rcases List.mem_append.1 hz with h | h
    · exact hnx z h
    · exact hny z h
  by_cases hy : ys = []
  · subst hy
    have hx : xs = [] := by rcases hne with h | h; exact h; exact absurd rfl h
    subst hx
    refine ⟨.slice base 0 0, ⟨R.H ++ [.row 0 n []], upd R.ρ R.H.length none, R.w⟩, ?_, ?_⟩
    · have := append_room (R := R) (base := base) (len := 0) (cap := 0) (arr := #[]) (w' := R.w) ht hlen (by simp) (by
        obtain ⟨arr, q1, q2⟩ := hfc 0 (by simp)
        have : arr = #[] := Array.eq_empty_of_size_eq_zero (by rw [q2.1]; simp)
        subst this; exact q1) (by cases base <;> rfl) ty
      exact this
    · have hl := Like.refl R.w
      have hs' := new_same R.H (.row 0 n [])
      have hok : Ext R ⟨R.H ++ [.row 0 n []], upd R.ρ R.H.length none, R.w⟩ → IdOk ⟨R.H ++ [.row 0 n []], upd R.ρ R.H.length none, R.w⟩ R.H.length := by
        intro e
        refine ⟨fun cs h => (by cases hs'.symm.trans h), fun g n' xs h => ?_, fun es h => (by cases hs'.symm.trans h)⟩
        cases hs'.symm.trans h
        exact ⟨fun x hx => (by cases hx), Or.inl ⟨upd_same .., rfl⟩⟩
      exact ⟨Ext.new hR _ none hl (Nat.le_refl _) (fun _ _ => rfl) (fun a ha => by cases ha), HRep.new hR _ none hl (Nat.le_refl _) (fun _ _ => rfl) (fun a ha => by cases ha) hok,
        .slc _ 0 0 0 n [] base 0 hs' (Nat.le_refl _) (Nat.le_refl _) (fun h => absurd h (by omega)), rfl⟩
  · have hpos : 0 < ys.length := List.length_pos_iff.2 hy
    obtain ⟨arr, q1, q2⟩ := firstCells_drew (P := P) hR hs ha ys.length (Nat.le_refl _)
    obtain ⟨old, p1, p2⟩ := firstCells_drew (P := P) hR hxs hsr xs.length (Nat.le_refl _)
    rw [List.take_length] at q2 p2
    obtain ⟨c, rest, e, c1, c2, c3⟩ := append_grow (R := R) ht (base := base) (len := xs.length) (cap := xs.length) hlen (by omega) hb q1 p1 ty
    have hcr : CellsR R ((xs ++ ys).flatMap SV.cells) (old ++ arr) := by rw [List.flatMap_append]; exact p2.append q2
    have hsz : (old ++ arr).size = (xs.length + ys.length) * n := by rw [hcr.1, flat_length _ hn, List.length_append]
    have hcn : (c - (xs.length + ys.length)) * n + (xs.length + ys.length) * n = c * n := by rw [← Nat.add_mul]; congr 1; omega
    have := row_new hR (n := n) (xs := xs ++ ys) (arr := old ++ arr ++ rest) e (Grows.drew R.w) rfl hn c (by simpa using c1) (by rw [Array.size_append, hsz, c2]; omega) (fun j hj hk => by
        have hj' : j < (old ++ arr).size := by rw [hcr.1]; exact hj
        rw [Array.getElem_append_left hj']
        exact hcr.2 j hj hj') (0, 0) (fun j hj h => by simp at h) (Grows.alloc R.w.drew _) (heap_alloc_new R.w.drew _)
    obtain ⟨r1, r2, r3⟩ := this
    rw [List.length_append] at r3
    exact ⟨_, _, c3, r1, r2, r3, rfl⟩
/-- An append onto a row that is all known. -/
theorem appendRow_sound {P : Program} {R : Env} (hR : HRep R) {ats : Array TypeId} {n : Nat} (ht : appTypes P ats = some n) {x : SV} {xs ys : List SV} {a b : Value} (hs : vsrc R.H n x = some ys) (ha : Rep R x a)
    {id g : Nat} (hrow : R.H[id]? = some (.row g n xs)) (hsr : Rep R (.slc id g 0 xs.length) b) (hb : xs.length + ys.length ≤ 68719476736) (hcl : ∀ y, y ∈ ys → ∀ c, c ∈ y.cells → svCell R.H c = true) (ty : TypeId) :
    ∃ v R', (Builtin.append_ ats ty #[b, a]).run P R.w = .ok v R'.w ∧ Ext R R' ∧ HRep R' ∧ Rep R' (.slc id (g + 1) 0 (xs.length + ys.length)) v ∧ R'.H = R.H.set id (.row (g + 1) n (xs ++ ys)) := by
  obtain ⟨hlen, hny, hfc⟩ := vsrc_sound (P := P) hR hs ha
  have hxs : vsrc R.H n (.slc id g 0 xs.length) = some xs := by simp [vsrc, vread, hrow]
  cases hsr with
  | slcOld _ _ _ _ y hid hr => have := hr _ _ _ hrow; omega
  | slc _ _ _ _ n' xs' base cap hr hle hc hadr =>
    rw [hrow] at hr
    cases hr
    have hsr : Rep R (.slc id g 0 xs.length) (.slice base xs.length cap) := .slc id g 0 xs.length n xs base cap hrow hle hc hadr
    obtain ⟨_, hnx, hfx⟩ := vsrc_sound (P := P) hR hxs hsr
    have hn : ∀ z, z ∈ xs ++ ys → z.cells.length = n := fun z hz => by
      rcases List.mem_append.1 hz with h | h
      · exact hnx z h
      · exact hny z h
    have hset := set_same R.H id (.row (g + 1) n (xs ++ ys)) (lt_of_some hrow)
    by_cases hy : ys = []
    · subst hy
      obtain ⟨arr, q1, q2⟩ := hfc 0 (by simp)
      have : arr = #[] := Array.eq_empty_of_size_eq_zero (by rw [q2.1]; simp)
      subst this
      have hrun := append_room (R := R) (base := base) (len := xs.length) (cap := cap) (arr := #[]) (w' := R.w) ht hlen (by simpa using hc) q1 (by cases base <;> rfl) ty
      simp only [List.length_nil, Nat.add_zero, List.append_nil] at hset hrun ⊢
      have hk : ∀ j, (∀ a, R.ρ id = some a → a.block ≠ j) → R.w.heap[j]? = R.w.heap[j]? := fun _ _ => rfl
      have ex := Ext.set hR hrow (show Turns (.row g n xs) (.row (g + 1) n xs) from .inr (Nat.lt_succ_self g)) (Like.refl R.w) rfl hk (fun _ => rfl)
      refine ⟨_, ⟨R.H.set id (.row (g + 1) n xs), R.ρ, R.w⟩, hrun, ex, HRep.set hR hrow (show Turns (.row g n xs) (.row (g + 1) n xs) from .inr (Nat.lt_succ_self g)) (Like.refl R.w) rfl hk (fun _ => rfl) (fun ex => ?_), ?_, rfl⟩
      · refine ⟨fun cs h => (by cases hset.symm.trans h), fun g2 n2 xs2 h => ?_, fun es h => (by cases hset.symm.trans h)⟩
        cases hset.symm.trans h
        obtain ⟨m1, m2 | ⟨a', c', e', fz, r1, r2, r3, r4, r5⟩⟩ := hR.row id g n xs hrow
        · exact ⟨m1, .inl m2⟩
        · exact ⟨m1, .inr ⟨a', c', e', fz, r1, r2, r3, r4, fun i hi j hj hk => (r5 i hi j hj hk).mono ex⟩⟩
      · exact .slc id (g + 1) 0 xs.length n xs base cap hset (by omega) hc hadr
    · have hpos : 0 < ys.length := List.length_pos_iff.2 hy
      by_cases hroom : xs.length + ys.length ≤ cap
      · obtain ⟨ad, e1, rfl, e3⟩ := hadr (by omega)
        obtain ⟨m1, m2 | ⟨a', c', e', fz, r1, r2, r3, r4, r5⟩⟩ := hR.row id g n xs hrow
        · rw [m2.1] at e1; cases e1
        · rw [e1] at r1
          cases r1
          obtain ⟨arr, q1, q2⟩ := hfc ys.length (Nat.le_refl _)
          rw [List.take_length] at q2
          have hfl : (ys.flatMap SV.cells).length = ys.length * n := flat_length _ hny
          have hblk : blkSize R.w ad.block = c'.size := by simp [blkSize, r2]
          rw [hblk] at e3
          have hcn : xs.length * n + ys.length * n ≤ cap * n := by rw [← Nat.add_mul]; exact Nat.mul_le_mul_right n hroom
          have hone : ∀ v, v ∈ arr.toList → v.oneCell' = true := by
            intro v hv
            obtain ⟨i, hi, rfl⟩ := List.getElem_of_mem hv
            simp only [Array.length_toList] at hi
            have hi2 : i < (ys.flatMap SV.cells).length := by rw [← q2.1]; exact hi
            have hm := List.getElem_mem hi2
            obtain ⟨y, hy1, hy2⟩ := List.mem_flatMap.1 hm
            exact (svCell_one (hcl y hy1 _ hy2) (q2.2 i hi2 hi)).1
          obtain ⟨w', p1, p2, p3⟩ := put_block (P := P) (b' := .row (g + 1) n (xs ++ ys)) hR hrow (show Turns (.row g n xs) (.row (g + 1) n (xs ++ ys)) from .inr (Nat.lt_succ_self g)) e1 r2 r3 (o := ad.off + xs.length * n) (vs := arr.toList) (by simp [q2.1, hfl]; rw [Nat.zero_add] at e3; omega) hone (by
            intro w' d' s1 s2 s3 ex
            refine row_ok' hset e1 s1 (by rw [s2]; exact r3) hn (by rw [s2, List.length_append, Nat.add_mul]; rw [Nat.zero_add] at e3; omega) fun j hj hk => ?_
            have g2 := s3 (ad.off + j)
            rw [Array.getElem?_eq_getElem hk] at g2
            rw [List.flatMap_append] at hj
            have hxl : (xs.flatMap SV.cells).length = xs.length * n := flat_length _ m1
            by_cases hlt : j < xs.length * n
            · rw [if_neg (by omega)] at g2
              rw [Array.getElem?_eq_getElem (by omega)] at g2
              injection g2 with g2
              have hnp : 0 < n := by
                rcases Nat.eq_zero_or_pos n with h0 | h0
                · subst h0; simp at hlt
                · exact h0
              have hi : j / n < xs.length := by rw [Nat.div_lt_iff_lt_mul hnp]; exact hlt
              have hdm : j / n * n + j % n = j := by rw [Nat.mul_comm]; exact Nat.div_add_mod j n
              have hcl' : j % n < xs[j / n].cells.length := by rw [m1 _ (List.getElem_mem hi)]; exact Nat.mod_lt _ hnp
              have hfg := flat_get xs m1 (j / n) hi (j % n) hcl'
              rw [hdm] at hfg
              have hj2 : j < (xs.flatMap SV.cells).length := by rw [hxl]; exact hlt
              rw [List.getElem?_eq_getElem hj2] at hfg
              injection hfg with hfg
              have eg : ((xs ++ ys).flatMap SV.cells)[j]'(by rw [List.flatMap_append]; exact hj) = (xs.flatMap SV.cells)[j] := by
                simp only [List.flatMap_append]; exact List.getElem_append_left hj2
              rw [eg, hfg, g2]
              have := (r5 (j / n) hi (j % n) hcl' (by omega)).mono ex
              simpa only [Nat.add_assoc, hdm] using this
            · have hjy : j - xs.length * n < (ys.flatMap SV.cells).length := by rw [List.length_append] at hj; omega
              have harr : arr.toList.length = ys.length * n := by rw [Array.length_toList, q2.1, hfl]
              have hj3 : j < xs.length * n + ys.length * n := by rw [← hxl, ← hfl, ← List.length_append]; exact hj
              rw [if_pos ⟨by omega, by rw [harr]; omega⟩, show ad.off + j - (ad.off + xs.length * n) = j - xs.length * n by omega] at g2
              rw [Array.getElem?_toList, Array.getElem?_eq_getElem (by rw [q2.1]; exact hjy)] at g2
              injection g2 with g2
              have eg : ((xs ++ ys).flatMap SV.cells)[j]'(by rw [List.flatMap_append]; exact hj) = (ys.flatMap SV.cells)[j - xs.length * n] := by
                simp only [List.flatMap_append]
                rw [List.getElem_append_right (by omega)]
                simp only [hxl]
              rw [eg, g2]
              exact (q2.2 _ hjy _).mono ex)
          have hrun := append_room (R := R) (base := some ⟨ad.block, ad.off + 0 * n, none⟩) (len := xs.length) (cap := cap) (arr := arr) (w' := w') ht hlen hroom q1 (by
            simp only [Nat.zero_mul, Nat.add_zero, add_plain]; exact p1) ty
          refine ⟨_, _, hrun, p2, p3, ?_, rfl⟩
          refine .slc id (g + 1) 0 (xs.length + ys.length) n (xs ++ ys) _ cap hset (by simp) hroom fun _ => ⟨ad, e1, rfl, ?_⟩
          have hz : blkSize w' ad.block = blkSize R.w ad.block := p2.bsz _ (hR.addr id ad (Env.row_live hrow) e1).2
          show ad.off + (0 + cap) * n ≤ blkSize w' ad.block
          rw [hz, hblk]
          exact e3
      · obtain ⟨arr, q1, q2⟩ := firstCells_drew (P := P) hR hs ha ys.length (Nat.le_refl _)
        obtain ⟨old, p1, p2⟩ := firstCells_drew (P := P) hR hxs hsr xs.length (Nat.le_refl _)
        rw [List.take_length] at q2 p2
        obtain ⟨c, rest, e, c1, c2, c3⟩ := append_grow (R := R) ht (base := base) (len := xs.length) (cap := cap) hlen (by omega) hb q1 p1 ty
        have hcr : CellsR R ((xs ++ ys).flatMap SV.cells) (old ++ arr) := by rw [List.flatMap_append]; exact p2.append q2
        have hsz : (old ++ arr).size = (xs.length + ys.length) * n := by rw [hcr.1, flat_length _ hn, List.length_append]
        have hcn : (c - (xs.length + ys.length)) * n + (xs.length + ys.length) * n = c * n := by rw [← Nat.add_mul]; congr 1; omega
        have gg := (Grows.drew R.w).trans (Grows.alloc R.w.drew (.cells (old ++ arr ++ rest) e))
        have hblk : (R.w.drew.alloc (.cells (old ++ arr ++ rest) e)).heap[R.w.heap.size]? = some (.cells (old ++ arr ++ rest) e) := heap_alloc_new R.w.drew _
        have ex := Ext.move (n' := n) (xs' := xs ++ ys) hR hrow (Nat.lt_succ_self g) gg.like gg.size gg.keep (a := ⟨R.w.heap.size, 0, none⟩) (Nat.le_refl _)
        refine ⟨_, ⟨R.H.set id (.row (g + 1) n (xs ++ ys)), upd R.ρ id (some ⟨R.w.heap.size, 0, none⟩), _⟩, c3, ex, HRep.move hR hrow (Nat.lt_succ_self g) gg.like gg.size gg.keep (Nat.le_refl _) rfl (by simp) (fun ex => ?_), ?_, rfl⟩
        · refine row_ok hset (upd_same ..) hblk (fun j hj h => by simp at h) hn (by rw [Array.size_append, hsz, List.length_append]; omega) fun j hj hk => ?_
          have hj' : j < (old ++ arr).size := by rw [hcr.1]; exact hj
          rw [Array.getElem_append_left hj']
          exact (hcr.2 j hj hj').mono ex
        · refine .slc id (g + 1) 0 (xs.length + ys.length) n (xs ++ ys) _ c hset (by simp) c1 fun _ => ⟨⟨R.w.heap.size, 0, none⟩, upd_same .., by simp, ?_⟩
          have hz : blkSize (R.w.drew.alloc (.cells (old ++ arr ++ rest) e)) R.w.heap.size = (old ++ arr ++ rest).size := by unfold blkSize; rw [hblk]
          show 0 + (0 + c) * n ≤ blkSize (R.w.drew.alloc (.cells (old ++ arr ++ rest) e)) R.w.heap.size
          rw [hz, Array.size_append, hsz, c2]
          simp only [Nat.zero_add]
          omega
end Go.Vm
