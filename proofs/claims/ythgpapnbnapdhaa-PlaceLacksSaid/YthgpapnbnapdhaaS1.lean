/- Layer 3 (sha): the words of a block. -/
import Derived.Test.YthgpapnbnapdhaaS0
set_option linter.unusedVariables false
set_option linter.unusedSimpArgs false
namespace Go.Vm
open Go.Proofs
set_option maxRecDepth 100000
theorem vsrc_bsl_top {n0 : Nat} {base top : List VB} {j off len cap : Nat} {cs : List SV} (ho : base.length = n0) (h : top[j]? = some (.box cs)) (hle : off + len ≤ cs.length) (hc : ∀ z, z ∈ (cs.drop off).take len → z.isCell = true) :
    vsrc (KH.flat ⟨n0, base, top⟩) 1 (.bsl (n0 + j) off 1 len cap) = some ((cs.drop off).take len) := by
  have e : vread (KH.flat ⟨n0, base, top⟩) (.bsl (n0 + j) off 1 len cap) = some (1, (cs.drop off).take len) := by
    unfold vread
    split
    · rename_i h1; cases h1
    · rename_i h1; cases h1
    · rename_i h1
      cases h1
      rw [flat_get_top ho j, h]
      exact if_pos ⟨rfl, hle, hc⟩
    · rename_i h1; exact (h1 _ _ _ _ _ rfl).elim
  simp only [vsrc, e, if_true]
theorem kb_copy_to {P : Program} {ats : Array TypeId} {n0 : Nat} {base top : List VB} {j off n len cap : Nat} {t e : TypeId} {cs ys cs' : List SV} {x : SV} {K : SV → KH → Prop} (ho : base.length = n0) (ht : ats[0]? = some t) (hu : P.underlying t = some (.slice e)) (hs : (P.underlying e).isSome = true)
    (hce : P.cellsOf e = 1) (hn : n = 1) (h : top[j]? = some (.box cs)) (hx : vsrc (KH.flat ⟨n0, base, top⟩) 1 x = some ys) (hcl : ∀ y, y ∈ ys → ∀ c, c ∈ y.cells → svCell (KH.flat ⟨n0, base, top⟩) c = true) (hle : off + len ≤ cs.length)
    (he : lput cs off ((ys.take (min ys.length len)).flatMap SV.cells) = cs') (hk : K (.v (.int .i64 (min ys.length len : Nat))) ⟨n0, base, top.set j (.box cs')⟩) : KB P ⟨n0, base, top⟩ .copy ats [.bsl (n0 + j) off n len cap, x] K := by
  subst hn he
  exact kb_copy_box ho ht hu hs hce h hx hcl hle hk
theorem kb_copy_bto {P : Program} {ats : Array TypeId} {n0 : Nat} {base top : List VB} {id off n len cap : Nat} {t e : TypeId} {cs ys cs' : List SV} {x : SV} {K : SV → KH → Prop} (ho : base.length = n0) (ht : ats[0]? = some t) (hu : P.underlying t = some (.slice e)) (hs : (P.underlying e).isSome = true)
    (hce : P.cellsOf e = 1) (hn : n = 1) (h : base[id]? = some (.box cs)) (hx : vsrc (KH.flat ⟨n0, base, top⟩) 1 x = some ys) (hcl : ∀ y, y ∈ ys → ∀ c, c ∈ y.cells → svCell (KH.flat ⟨n0, base, top⟩) c = true) (hle : off + len ≤ cs.length)
    (he : lput cs off ((ys.take (min ys.length len)).flatMap SV.cells) = cs') (hk : K (.v (.int .i64 (min ys.length len : Nat))) ⟨n0, base.set id (.box cs'), top⟩) : KB P ⟨n0, base, top⟩ .copy ats [.bsl id off n len cap, x] K := by
  subst hn he
  exact kb_copy_base ho ht hu hs hce h hx hcl hle hk
theorem vsrc_bsl {n0 : Nat} {base top : List VB} {j off n len cap : Nat} {cs ys : List SV} (ho : base.length = n0) (hn : n = 1) (h : top[j]? = some (.box cs)) (hle : off + len ≤ cs.length) (hy : (cs.drop off).take len = ys) (hc : ∀ z, z ∈ ys → z.isCell = true) :
    vsrc (KH.flat ⟨n0, base, top⟩) 1 (.bsl (n0 + j) off n len cap) = some ys := by
  subst hn hy
  exact vsrc_bsl_top ho h hle hc
theorem lput_one {l : List SV} {k : Nat} {v : SV} (h : k < l.length) : lput l k [v] = l.set k v := by
  unfold lput
  rw [List.set_eq_take_append_cons_drop, if_pos h]
  simp
theorem put_U {P : Program} {t : TypeId} (hc : P.cellsOf t = 1) {l : List (BitVec 32)} {k : Int} {j : Nat} (hk : k = j) (hj : j < l.length) {n : Int} {x : BitVec 32} (hn : n = x.toNat) :
    lput (l.map U) (0 + k.toNat * P.cellsOf t) [.v (.int .u32 n)] = (l.set j x).map U := by
  subst hk hn
  rw [hc, Nat.zero_add, Nat.mul_one, Int.toNat_natCast, lput_one (by simpa using hj), List.map_set]
theorem get_U {P : Program} {t : TypeId} (hc : P.cellsOf t = 1) {l : List (BitVec 32)} {k : Int} {j : Nat} (hk : k = j) (hj : j < l.length) : ((l.map U).drop (0 + k.toNat * P.cellsOf t))[0]? = some (U (l.getD j 0)) := by
  subst hk
  rw [hc, Nat.zero_add, Nat.mul_one, Int.toNat_natCast, List.getElem?_drop, Nat.add_zero, List.getElem?_map, List.getElem?_eq_getElem hj, List.getD_eq_getElem?_getD, List.getElem?_eq_getElem hj]
  rfl
theorem get_b {l : List UInt8} {k j : Nat} (hk : k = j) (hj : j < l.length) : ((l.map byteSV).drop k)[0]? = some (byteSV (l.getD j 0)) := by
  subst hk
  rw [List.getElem?_drop, Nat.add_zero, List.getElem?_map, List.getElem?_eq_getElem hj, List.getD_eq_getElem?_getD, List.getElem?_eq_getElem hj]
  rfl
theorem cellsU {H : List VB} (l : List (BitVec 32)) : ∀ c, c ∈ l.map U → svCell H c = true := fun c hc => by
  obtain ⟨x, _, rfl⟩ := List.mem_map.1 hc; rfl
theorem cellsB {H : List VB} (l : List UInt8) : ∀ c, c ∈ l.map byteSV → svCell H c = true := fun c hc => by
  obtain ⟨x, _, rfl⟩ := List.mem_map.1 hc; rfl
theorem isCellU (l : List (BitVec 32)) : ∀ c, c ∈ l.map U → c.isCell = true := fun c hc => by
  obtain ⟨x, _, rfl⟩ := List.mem_map.1 hc; rfl
theorem isCellB (l : List UInt8) : ∀ c, c ∈ l.map byteSV → c.isCell = true := fun c hc => by
  obtain ⟨x, _, rfl⟩ := List.mem_map.1 hc; rfl
theorem belU {n : Nat} (l : List (BitVec 32)) : SV.Bel n (.agg (l.map U)) := .agg _ fun c hc => by
  obtain ⟨x, _, rfl⟩ := List.mem_map.1 hc; exact .v _
theorem lput_whole {xs ys : List SV} (h : ys.length = xs.length) : lput xs 0 ys = ys := by
  unfold lput; simp [h]
theorem take_drop0 {xs : List SV} {n : Nat} (h : xs.length = n) : (xs.drop 0).take n = xs := by
  rw [List.drop_zero, List.take_of_length_le (by omega)]
theorem kcl {H : List VB} {xs ys : List SV} (e : xs = ys) (h : ∀ c, c ∈ ys → svCell H c = true) : ∀ c, c ∈ xs → svCell H c = true := e ▸ h
theorem kdone_eq {R0 : Env} {K : SV → List VB → Prop} {H top : List VB} {n0 : Nat} {r r' : SV} (hH : R0.H = H) (e : r = r') (hb : r'.Bel H.length) (hk : K r' H) : KDone R0 K r ⟨n0, H, top⟩ := e ▸ kdone_pure hH hb hk
theorem vreq_sub {H : List VB} {F : List SV → Prop} {xs : List SV} (ys : List SV) (e : xs = ys) (hc : ∀ c, c ∈ ys → svCell H c = true) (hk : F ys) : VReq (∀ c, c ∈ xs → svCell H c = true) (F xs) := by
  subst e; exact ⟨hc, hk⟩
def acc (b : List UInt8) (t : Nat) : Nat → BitVec 32
  | 0 => 0
  | j + 1 => (acc b t j <<< 8) ||| BitVec.ofNat 32 (b.getD (4 * t + j) 0).toNat
def wd (b : List UInt8) (t : Nat) : BitVec 32 := acc b t 4
def nxt (b : List UInt8) (l : List (BitVec 32)) (t : Nat) : BitVec 32 :=
  if t < 16 then wd b t else sgB (l.getD (t - 2) 0) + l.getD (t - 7) 0 + sgA (l.getD (t - 15) 0) + l.getD (t - 16) 0
def sch (b : List UInt8) : Nat → List (BitVec 32)
  | 0 => List.replicate 64 0
  | t + 1 => (sch b t).set t (nxt b (sch b t) t)
theorem sch_len (b : List UInt8) : ∀ t, (sch b t).length = 64
  | 0 => by simp [sch]
  | t + 1 => by simp [sch, sch_len b t]
theorem sch_zero (b : List UInt8) : ∀ (t k : Nat), t ≤ k → (sch b t).getD k 0 = 0
  | 0, k, _ => by
    rw [sch, List.getD_eq_getElem?_getD, List.getElem?_replicate]; split <;> rfl
  | t + 1, k, h => by
    rw [sch, List.getD_eq_getElem?_getD, List.getElem?_set_ne (by omega), ← List.getD_eq_getElem?_getD]
    exact sch_zero b t k (by omega)
theorem set_same_getD {l : List (BitVec 32)} {k : Nat} {x : BitVec 32} (h : l.getD k 0 = x) (hk : k < l.length) : l.set k x = l := by
  refine List.ext_getElem? fun i => ?_
  by_cases hi : i = k
  · subst hi
    rw [List.getElem?_set_self hk, List.getElem?_eq_getElem hk]
    rw [List.getD_eq_getElem?_getD, List.getElem?_eq_getElem hk] at h
    simpa using h.symm
  · rw [List.getElem?_set_ne (Ne.symm hi)]
theorem sch_acc0 (b : List UInt8) {t : Nat} (h : t < 64) : (sch b t).set t (acc b t 0) = sch b t :=
  set_same_getD (by rw [sch_zero b t t (Nat.le_refl _)]; rfl) (by rw [sch_len]; exact h)
theorem sch_acc4 (b : List UInt8) {t : Nat} (h : t < 16) : (sch b t).set t (acc b t 4) = sch b (t + 1) := by
  rw [sch, nxt, if_pos h]; rfl
theorem u8_u32 (x : UInt8) : IntKind.u32.wrap (x.toNat : Int) = ((BitVec.ofNat 32 x.toNat).toNat : Int) := by
  have := x.toNat_lt
  rw [u32_wrap, BitVec.toNat_ofNat]; omega
theorem acc_lt (b : List UInt8) (t : Nat) : ∀ j, j ≤ 4 → (acc b t j).toNat < 256 ^ j
  | 0, _ => by simp [acc]
  | j + 1, h => by
    have ih := acc_lt b t j (by omega)
    have hb := (b.getD (4 * t + j) 0).toNat_lt
    have hp : 256 ^ j ≤ 256 ^ 3 := Nat.pow_le_pow_right (by omega) (by omega)
    rw [acc, BitVec.toNat_or, BitVec.toNat_shiftLeft, BitVec.toNat_ofNat, Nat.pow_succ]
    have e1 : (acc b t j).toNat <<< 8 % 2 ^ 32 = (acc b t j).toNat <<< 8 := by
      rw [Nat.shiftLeft_eq]; exact Nat.mod_eq_of_lt (by omega)
    have e2 : (b.getD (4 * t + j) 0).toNat % 2 ^ 32 = (b.getD (4 * t + j) 0).toNat := Nat.mod_eq_of_lt (by omega)
    rw [e1, e2, ← Nat.shiftLeft_add_eq_or_of_lt (by omega), Nat.shiftLeft_eq]
    omega
theorem acc_succ (b : List UInt8) (t j : Nat) (h : j < 4) : (acc b t (j + 1)).toNat = (acc b t j).toNat * 256 + (b.getD (4 * t + j) 0).toNat := by
  have ih := acc_lt b t j (by omega)
  have hb := (b.getD (4 * t + j) 0).toNat_lt
  have hp : 256 ^ j ≤ 256 ^ 3 := Nat.pow_le_pow_right (by omega) (by omega)
  rw [acc, BitVec.toNat_or, BitVec.toNat_shiftLeft, BitVec.toNat_ofNat]
  have e1 : (acc b t j).toNat <<< 8 % 2 ^ 32 = (acc b t j).toNat <<< 8 := by
    rw [Nat.shiftLeft_eq]; exact Nat.mod_eq_of_lt (by omega)
  have e2 : (b.getD (4 * t + j) 0).toNat % 2 ^ 32 = (b.getD (4 * t + j) 0).toNat := Nat.mod_eq_of_lt (by omega)
  rw [e1, e2, ← Nat.shiftLeft_add_eq_or_of_lt (by omega), Nat.shiftLeft_eq]
theorem wd_num (b : List UInt8) (t : Nat) : ((wd b t).toNat : Int) = (b.getD (4 * t) 0).toNat * 16777216 + (b.getD (4 * t + 1) 0).toNat * 65536 + (b.getD (4 * t + 2) 0).toNat * 256 + (b.getD (4 * t + 3) 0).toNat := by
  have e0 := acc_succ b t 0 (by omega)
  have e1 := acc_succ b t 1 (by omega)
  have e2 := acc_succ b t 2 (by omega)
  have e3 := acc_succ b t 3 (by omega)
  have ez : (acc b t 0).toNat = 0 := rfl
  simp only [Nat.zero_add, Nat.add_zero, Nat.reduceAdd] at e0 e1 e2 e3
  rw [wd]
  omega
end Go.Vm
