/- The abstract machine, part 7: parts of structs, addresses, slices of slices, append, len. No condition. -/
import Derived.Test.YtaabgjmcikolfaaGreatDoorZa6
set_option linter.unusedVariables false
set_option linter.unusedSimpArgs false
namespace Go.Za
open Go.RowKit

section
variable {P : Program} {fb : Nat → Prop} {φ : Phi} {H : Hp} {wr : Nat → Prop} {w : World}

theorem getN_ok {t : TypeId} {n : Option Nat} (hagg : AggN P t n) {cs : List AV} {vs : List Value} (hl : ARl φ wr w cs vs) {o : Nat} {y : AV} (h : getN cs o n = some y) :
    ∃ cv, (part t vs.toArray o).run P w = .ok cv w ∧ AR φ wr w y cv := by
  cases n with
  | none =>
    obtain ⟨d, h1, h2⟩ := hagg
    obtain ⟨v, h3, h4⟩ := hl.get o y h
    exact ⟨v, run_part1 h1 h3 h2, h4⟩
  | some n =>
    obtain ⟨d, i, h1, h2, h3, rfl⟩ := hagg
    simp only [getN] at h
    split at h
    · rename_i hle
      injection h with h
      subst h
      exact ⟨_, run_part hl h1 h3 hle h2, by simp only [AR]; exact ⟨_, rfl, (hl.drop o).take _⟩⟩
    · cases h

theorem fld_ok {s : TypeId} {fs : Array Field} {k : Nat} {f : Field} {n : Option Nat} (hu : P.underlying s = some (.struct fs)) (hf : fs[k]? = some f) (hagg : AggN P f.type n)
    {cs : List AV} {v : Value} {y : AV} (hx : AR φ wr w (.ag cs) v) (h : getN cs f.offset n = some y) : ∃ cv, (Instr.field s v k).run P w = .ok cv w ∧ AR φ wr w y cv := by
  simp only [AR] at hx
  obtain ⟨vs, rfl, hl⟩ := hx
  obtain ⟨cv, h1, h2⟩ := getN_ok hagg hl h
  exact ⟨cv, by simp [Instr.field, run_underlying hu, hf, asAgg, h1], h2⟩

theorem fa_addr {x y : AV} {v : Value} {o : Nat} (hx : AR φ wr w x v) (h : faA o x = some y) : ∃ a : Addr, v = .pointer (some a) ∧ AR φ wr w y (.pointer (some (a.add o))) := by
  unfold faA at h
  split at h <;> first | (injection h with h; subst h) | cases h
  · simp only [AR] at hx ⊢
    obtain ⟨g, sz, h1, rfl⟩ := hx
    exact ⟨_, rfl, g, sz, h1, by rw [add_spot rfl]⟩
  · simp only [AR] at hx ⊢
    obtain ⟨g, sz, h1, rfl⟩ := hx
    exact ⟨_, rfl, g, sz, h1, by rw [add_spot rfl]; simp [Nat.add_assoc]⟩
  · simp only [AR] at hx ⊢
    obtain ⟨a, rfl, h2, h3, h4, h5⟩ := hx
    exact ⟨_, rfl, a, by rw [add_add h2], h2, h3, h4, h5⟩
theorem fa_ok {s : TypeId} {fs : Array Field} {k : Nat} {f : Field} {i : TypeInfo} (hu : P.underlying s = some (.struct fs)) (hf : fs[k]? = some f) (hi : P.info? f.type = some i) (h0 : i.size ≠ 0)
    {x y : AV} {v : Value} (hx : AR φ wr w x v) (h : faA f.offset x = some y) : ∃ cv, (Instr.fieldAt s v k).run P w = .ok cv w ∧ AR φ wr w y cv := by
  obtain ⟨a, rfl, h1⟩ := fa_addr hx h
  refine ⟨_, ?_, h1⟩
  simp [Instr.fieldAt, run_underlying hu, hf, Instr.sureAddr, fieldPlace, run_sizeOf' hi, h0]
theorem ixa_ok {t e : TypeId} {len : Nat} {i : TypeInfo} (hu : P.underlying t = some (.array len e)) (hi : P.info? e = some i)
    {x j y : AV} {vx vj : Value} (hx : AR φ wr w x vx) (hj : AR φ wr w j vj) (h : ixaA len i.size x j = some y) : ∃ cv, (Instr.indexAt t vx vj).run P w = .ok cv w ∧ AR φ wr w y cv := by
  unfold ixaA at h
  split at h
  · rename_i k n
    split at h
    · rename_i hb
      simp only [AR] at hj
      subst hj
      obtain ⟨a, rfl, h1⟩ := fa_addr hx h
      refine ⟨_, ?_, h1⟩
      simp [Instr.indexAt, asIntOf, run_underlying hu, Instr.sureAddr, hb, run_sizeOf' hi]
    · cases h
  · cases h
/-- The size of the elements of a block of rows. -/
theorem rows_sz (hH : HR fb φ H w) {b : B} {sz g s : Nat} {lv pur : Bool} {xs : List (List AV)} (hb : H.m.get b = some (.rows sz lv pur xs)) (hg : φ b = some (g, s)) : s = sz := by
  obtain ⟨g', ty, c0, h1, _⟩ := hH.blk b _ hb
  rw [hg] at h1
  injection h1 with h1
  injection h1 with _ h1
theorem ixs_ok (hH : HR fb φ H w) {t e : TypeId} {i : TypeInfo} (hu : P.underlying t = some (.slice e)) (hi : P.info? e = some i)
    {x j y : AV} {vx vj : Value} (hx : AR φ (wrs fb φ H) w x vx) (hj : AR φ (wrs fb φ H) w j vj) (h : ixsA H.m i.size x j = some y) : ∃ cv, (Instr.indexAt t vx vj).run P w = .ok cv w ∧ AR φ (wrs fb φ H) w y cv := by
  unfold ixsA at h
  split at h
  · rename_i k n
    simp only [AR] at hj
    subst hj
    split at h
    · rename_i sz xs
      split at h
      · rename_i hb
        obtain ⟨hs, hb⟩ := hb
        subst hs
        split at h
        · rename_i r hr
          injection h with h; subst h
          simp only [AR] at hx
          obtain ⟨A, cap, rfl, h2, h3, h4⟩ := hx
          obtain ⟨a, rfl, h5, h6, h7, h8⟩ := h4 (by intro e; subst e; simp at hr)
          obtain ⟨h9, h10⟩ := h8.get n.toNat r hr
          rw [Nat.zero_add] at h10
          refine ⟨.pointer (some (a.add (n.toNat * i.size))), ?_, ?_⟩
          · simp [Instr.indexAt, asIntOf, run_underlying hu, hb, run_sizeOf' hi]
          · simp only [AR]
            exact ⟨a.add (n.toNat * i.size), by rw [add_zero], add_spot_none h5 _, by rw [add_block]; exact h6, by rw [add_block]; exact h7, h10⟩
        · cases h
      · cases h
    · rename_i b lo m
      split at h
      · rename_i sz lv pur xs hbk
        split at h
        · rename_i hb
          obtain ⟨hs0, hb⟩ := hb
          injection h with h; subst h
          simp only [AR] at hx
          obtain ⟨g, sz', cap, c0, ty, fz, h1, rfl, h3, h4, h5, h6⟩ := hx
          have hs := rows_sz hH hbk h1
          subst hs
          subst hs0
          refine ⟨.pointer (some ⟨g, lo * i.size + n.toNat * i.size, none⟩), ?_, ?_⟩
          · simp [Instr.indexAt, asIntOf, run_underlying hu, hb, run_sizeOf' hi, add_spot]
          · simp only [AR]
            exact ⟨g, i.size, h1, by simp [Nat.add_mul]⟩
        · cases h
      · cases h
    · cases h
  · cases h
theorem ixv_ok {t e : TypeId} {len : Nat} {i : TypeInfo} {n : Option Nat} (hu : P.underlying t = some (.array len e)) (hi : P.info? e = some i) (hagg : AggN P e n)
    {x j y : AV} {vx vj : Value} (hx : AR φ wr w x vx) (hj : AR φ wr w j vj) (h : ixvA len i.size n x j = some y) : ∃ cv, (Instr.index t vx vj).run P w = .ok cv w ∧ AR φ wr w y cv := by
  unfold ixvA at h
  split at h
  · rename_i k m cs
    split at h
    · rename_i hb
      simp only [AR] at hj hx
      subst hj
      obtain ⟨vs, rfl, hl⟩ := hx
      obtain ⟨cv, h1, h2⟩ := getN_ok hagg hl h
      refine ⟨cv, ?_, h2⟩
      simp [Instr.index, asIntOf, run_underlying hu, hb, run_sizeOf' hi, h1]
    · cases h
  · cases h
theorem ixb_ok {t : TypeId} (hu : P.underlying t = some .string) {x j y : AV} {vx vj : Value} (hx : AR φ wr w x vx) (hj : AR φ wr w j vj) (h : ixbA x j = some y) : ∃ cv, (Instr.index t vx vj).run P w = .ok cv w ∧ AR φ wr w y cv := by
  unfold ixbA at h
  split at h
  · rename_i k m l
    split at h
    · rename_i hb
      split at h
      · rename_i c hc
        injection h with h; subst h
        simp only [AR] at hj hx
        subst hj
        subst hx
        refine ⟨.int .u8 c.toNat, ?_, by simp only [AR]⟩
        have hg : (⟨l.toArray⟩ : ByteArray)[m.toNat]? = some c := by
          obtain ⟨hl, he⟩ := List.getElem?_eq_some_iff.1 hc
          rw [getElem?_pos (⟨l.toArray⟩ : ByteArray) m.toNat (by show m.toNat < l.toArray.size; simpa using hl)]
          congr 1
        simp [Instr.index, asIntOf, run_underlying hu, str, hb, hg]
      · cases h
    · cases h
  · cases h
theorem ext_ok {n : Nat} {vs : List AV} {y : AV} {v : Value} (hx : AR φ wr w (.tu vs) v) (h : vs[n]? = some y) : ∃ cv, (Instr.extract v n).run P w = .ok cv w ∧ AR φ wr w y cv := by
  simp only [AR] at hx
  obtain ⟨us, rfl, hl⟩ := hx
  obtain ⟨u, h1, h2⟩ := hl.get n y h
  exact ⟨u, by simp [Instr.extract, h1], h2⟩

/-! ### cuts -/
theorem bnd_ok {x : AV} {v : Value} {y n : Nat} (hx : AR φ wr w x v) (h : bnd x y = some n) (code : BoundsCode) : n ≤ y ∧ (Instr.sliceBound v y code).run P w = .ok n w := by
  unfold bnd at h
  split at h
  · rename_i k m
    split at h
    · rename_i hb
      injection h with h; subst h
      simp only [AR] at hx
      subst hx
      exact ⟨by omega, run_sliceBound w k m y code hb.1 hb.2⟩
    · cases h
  · cases h
/-- An operand that may lack. -/
def ARo (φ : Phi) (wr : Nat → Prop) (w : World) : Option AV → Option Value → Prop
  | none, v => v = none
  | some x, v => ∃ u, v = some u ∧ AR φ wr w x u
theorem bounds_ok {isSlice : Bool} {n cap : Nat} {lo hi : Option AV} {vlo vhi : Option Value} (hlo : ARo φ wr w lo vlo) (hhi : ARo φ wr w hi vhi) (hc : n ≤ cap) {a h : Nat} (hb : boundsA n lo hi = some (a, h)) :
    a ≤ h ∧ h ≤ n ∧ (Instr.sliceBounds isSlice n cap vlo vhi none).run P w = .ok (a, h, cap) w := by
  have up : ∀ {x : AV} {v : Value} {y y' m : Nat}, AR φ wr w x v → bnd x y = some m → y ≤ y' → ∀ code, (Instr.sliceBound v y' code).run P w = .ok m w := by
    intro x v y y' m hx hm hy code
    unfold bnd at hm
    split at hm
    · rename_i k q
      split at hm
      · rename_i hq
        injection hm with hm; subst hm
        simp only [AR] at hx
        subst hx
        exact run_sliceBound w k q y' code hq.1 (by omega)
      · cases hm
    · cases hm
  unfold boundsA at hb
  split at hb
  · rename_i h' hh
    split at hb
    · rename_i a' ha
      injection hb with hb
      injection hb with hb1 hb2
      subst hb1; subst hb2
      cases hi with
      | none =>
        simp only [ARo] at hhi
        subst hhi
        injection hh with hh
        subst hh
        cases lo with
        | none =>
          simp only [ARo] at hlo
          subst hlo
          injection ha with ha
          subst ha
          exact ⟨Nat.zero_le _, Nat.le_refl _, by simp [Instr.sliceBounds]⟩
        | some x =>
          simp only [ARo] at hlo
          obtain ⟨u, rfl, hu⟩ := hlo
          have h1 := bnd_ok (P := P) hu ha .sliceB
          refine ⟨h1.1, Nat.le_refl _, ?_⟩
          simp [Instr.sliceBounds, h1.2]
      | some y =>
        simp only [ARo] at hhi
        obtain ⟨v, rfl, hv⟩ := hhi
        have h2 := up hv hh hc
        have h2' := (bnd_ok (P := P) hv hh .sliceB).1
        cases lo with
        | none =>
          simp only [ARo] at hlo
          subst hlo
          injection ha with ha
          subst ha
          refine ⟨Nat.zero_le _, h2', ?_⟩
          cases isSlice <;> simp [Instr.sliceBounds, h2]
        | some x =>
          simp only [ARo] at hlo
          obtain ⟨u, rfl, hu⟩ := hlo
          have h1 := bnd_ok (P := P) hu ha .sliceB
          refine ⟨h1.1, h2', ?_⟩
          cases isSlice <;> simp [Instr.sliceBounds, h1.2, h2]
    · cases hb
  · cases hb

theorem bnd_zero {x : Option AV} : True := trivial
theorem bounds_le {n : Nat} {lo hi : Option AV} {a h : Nat} (hb : boundsA n lo hi = some (a, h)) : a ≤ h ∧ h ≤ n := by
  have low : ∀ {x : AV} {y m : Nat}, bnd x y = some m → m ≤ y := by
    intro x y m hm
    unfold bnd at hm
    split at hm
    · split at hm
      · rename_i hq; injection hm with hm; omega
      · cases hm
    · cases hm
  unfold boundsA at hb
  split at hb
  · rename_i h' hh
    split at hb
    · rename_i a' ha
      injection hb with hb
      injection hb with hb1 hb2
      subst hb1; subst hb2
      refine ⟨?_, ?_⟩
      · cases lo with
        | none => injection ha with ha; omega
        | some x => exact low ha
      · cases hi with
        | none => injection hh with hh; omega
        | some x => exact low hh
    · cases hb
  · cases hb
theorem cuts_ok {t : TypeId} (hu : P.underlying t = some .string) {x y : AV} {lo hi : Option AV} {v : Value} {vlo vhi : Option Value} (hx : AR φ wr w x v) (hlo : ARo φ wr w lo vlo) (hhi : ARo φ wr w hi vhi) (h : cutsA x lo hi = some y) :
    ∃ cv, (Instr.sliceAt t v vlo vhi none).run P w = .ok cv w ∧ AR φ wr w y cv := by
  unfold cutsA at h
  split at h
  · rename_i l
    split at h
    · rename_i a b hb
      injection h with h; subst h
      simp only [AR] at hx
      subst hx
      have hsz : (⟨l.toArray⟩ : ByteArray).size = l.length := by simp [ByteArray.size]
      obtain ⟨h1, h2, h3⟩ := bounds_ok (P := P) (isSlice := false) (cap := l.length) hlo hhi (Nat.le_refl _) hb
      refine ⟨str ((l.take b).drop a), ?_, by simp only [AR]⟩
      have he : (⟨l.toArray⟩ : ByteArray).extract a b = ⟨((l.take b).drop a).toArray⟩ := by
        apply ByteArray.ext
        simp [ByteArray.data_extract, List.drop_take]
      simp [Instr.sliceAt, Instr.slice, run_underlying hu, str, hsz, h3, he]
    · cases h
  · cases h
theorem sliceAt_slice {t e : TypeId} {i : TypeInfo} (hu : P.underlying t = some (.slice e)) (hi : P.info? e = some i) {A : Option Addr} {n cap : Nat} {vlo vhi : Option Value} {a h : Nat}
    (hb : (Instr.sliceBounds true n cap vlo vhi none).run P w = .ok (a, h, cap) w) :
    (Instr.sliceAt t (.slice A n cap) vlo vhi none).run P w = .ok (.slice (if cap = a then A else A.map (·.add (a * i.size))) (h - a) (cap - a)) w := by
  simp [Instr.sliceAt, Instr.slice, run_underlying hu, hb, run_sizeOf' hi]
theorem cut_ok (hH : HR fb φ H w) {t e : TypeId} {i : TypeInfo} (hu : P.underlying t = some (.slice e)) (hi : P.info? e = some i) {x y : AV} {lo hi' : Option AV} {v : Value} {vlo vhi : Option Value}
    (hx : AR φ (wrs fb φ H) w x v) (hlo : ARo φ (wrs fb φ H) w lo vlo) (hhi : ARo φ (wrs fb φ H) w hi' vhi) (h : cutA H.m i.size x lo hi' = some y) :
    ∃ cv, (Instr.sliceAt t v vlo vhi none).run P w = .ok cv w ∧ AR φ (wrs fb φ H) w y cv := by
  unfold cutA at h
  split at h
  · split at h
    · rename_i p hb
      obtain ⟨a, b⟩ := p
      injection h with h; subst h
      simp only [AR] at hx
      obtain ⟨A, rfl⟩ := hx
      obtain ⟨h1, h2, h3⟩ := bounds_ok (P := P) (isSlice := true) (cap := 0) hlo hhi (Nat.le_refl _) hb
      refine ⟨_, sliceAt_slice hu hi h3, ?_⟩
      have ha : a = 0 := by omega
      have hbz : b = 0 := by omega
      subst ha; subst hbz
      simp only [AR]
      exact ⟨A, by simp⟩
    · cases h
  · rename_i sz xs
    split at h
    · rename_i a b hb
      split at h
      · rename_i hs
        injection h with h; subst h; subst hs
        simp only [AR] at hx
        obtain ⟨A, cap, rfl, h2, h3, h4⟩ := hx
        obtain ⟨h5, h6, h7⟩ := bounds_ok (P := P) (isSlice := true) (cap := cap) hlo hhi h2 hb
        refine ⟨_, sliceAt_slice hu hi h7, ?_⟩
        simp only [AR]
        have hl : ((xs.take b).drop a).length = b - a := by simp; omega
        refine ⟨_, cap - a, by rw [hl], by rw [hl]; omega, h3, fun hne => ?_⟩
        have hpos : 0 < b - a := by rw [← hl]; exact List.length_pos_iff.2 hne
        obtain ⟨ad, rfl, h8, h9, h10, h11⟩ := h4 (by intro e; subst e; simp at hne)
        refine ⟨ad.add (a * i.size), by rw [if_neg (by omega)]; rfl, add_spot_none h8 _, by rw [add_block]; exact h9, by rw [add_block]; exact h10, ARr.mk fun k r hk => ?_⟩
        rw [List.getElem?_drop, List.getElem?_take] at hk
        split at hk
        · obtain ⟨h12, h13⟩ := h11.get (a + k) r hk
          refine ⟨h12, ?_⟩
          rw [add_add h8, ← Nat.add_mul, Nat.zero_add]
          rwa [Nat.zero_add] at h13
        · cases hk
      · cases h
    · cases h
  · rename_i b f n
    split at h
    · rename_i sz lv pur xs hbk
      split at h
      · rename_i a c hb
        split at h
        · rename_i hc
          obtain ⟨hs0, hlt⟩ := hc
          injection h with h; subst h
          simp only [AR] at hx
          obtain ⟨g, sz', cap, c0, ty, fz, h1, rfl, h3, h4, h5, h6⟩ := hx
          have hs := rows_sz hH hbk h1
          subst hs
          subst hs0
          obtain ⟨h7, h8, h9⟩ := bounds_ok (P := P) (isSlice := true) (cap := cap) hlo hhi h5 hb
          refine ⟨_, sliceAt_slice hu hi h9, ?_⟩
          simp only [AR]
          refine ⟨g, i.size, cap - a, c0, ty, fz, h1, ?_, h3, ?_, by omega, h6⟩
          · by_cases ha : a = 0
            · subst ha
              split <;> simp [add_spot]
            · rw [if_neg (by omega)]
              simp [add_spot, Nat.add_mul]
          · rw [show f + a + (cap - a) = f + cap by omega]
            exact h4
        · cases h
      · cases h
    · rename_i ty l hbk
      split at h
      · rename_i a c hb
        split at h
        · rename_i hc
          obtain ⟨hs0, hlt⟩ := hc
          injection h with h; subst h
          simp only [AR] at hx
          obtain ⟨g, sz', cap, c0, ty, fz, h1, rfl, h3, h4, h5, h6⟩ := hx
          have hs : sz' = 1 := by
            obtain ⟨g', c1, k1, _⟩ := hH.blk b _ hbk
            rw [h1] at k1
            injection k1 with k1
            injection k1
          subst hs
          obtain ⟨h7, h8, h9⟩ := bounds_ok (P := P) (isSlice := true) (cap := cap) hlo hhi h5 hb
          refine ⟨_, sliceAt_slice hu hi h9, ?_⟩
          simp only [AR]
          refine ⟨g, 1, cap - a, c0, ty, fz, h1, ?_, h3, ?_, by omega, h6⟩
          · by_cases ha : a = 0
            · subst ha
              split <;> simp [add_spot]
            · rw [if_neg (by omega)]
              simp [add_spot, Nat.add_mul, hs0]
          · rw [show f + a + (cap - a) = f + cap by omega]
            exact h4
        · cases h
      · cases h
    · cases h
  · cases h
end
end Go.Za
