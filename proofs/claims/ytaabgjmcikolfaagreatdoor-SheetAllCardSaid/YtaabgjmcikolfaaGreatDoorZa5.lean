/- The abstract machine, part 5: making variables, structs and slices; numbers; parts of structs; addresses; slices of slices; append; len. No condition. -/
import Derived.Test.YtaabgjmcikolfaaGreatDoorZa4
import Derived.Laws.AppendOwn
import Derived.Laws.Slices
import Derived.Laws.StructEq
set_option linter.unusedVariables false
set_option linter.unusedSimpArgs false
namespace Go.Za
open Go.RowKit

section
variable {P : Program} {fb : Nat → Prop} {φ : Phi} {H : Hp} {wr : Nat → Prop} {w : World}

/-! ### constants -/
def constA : Value → Option AV
  | .bool b => some (.b b)
  | .int k n => some (.i k n)
  | .string s => some (.s s.data.toList)
  | .pointer none => some .np
  | .slice none 0 0 => some .e0
  | .map none => some .nm
  | .nilFunc => some .nf
  | .nilIface => some .ni
  | _ => none
def constL : List Value → Option (List AV)
  | [] => some []
  | v :: vs => match constA v, constL vs with
    | some x, some xs => some (x :: xs)
    | _, _ => none
theorem str_of (s : ByteArray) : str s.data.toList = .string s := by cases s; simp [str]
theorem constA_ok {v : Value} {x : AV} (h : constA v = some x) : AR φ wr w x v := by
  unfold constA at h
  split at h <;> first | (injection h with h; subst h; simp only [AR]) | cases h
  · exact (str_of _).symm
  · exact ⟨none, rfl⟩
theorem constA_one {v : Value} {x : AV} (h : constA v = some x) : x.one = true := by
  unfold constA at h
  split at h <;> first | (injection h with h; subst h; rfl) | cases h
theorem constL_ok : ∀ {vs : List Value} {xs : List AV}, constL vs = some xs → ARl φ wr w xs vs ∧ ∀ c ∈ xs, c.one = true
  | [], xs, h => by injection h with h; subst h; exact ⟨by simp only [ARl], fun c hc => by cases hc⟩
  | v :: vs, xs, h => by
    unfold constL at h
    split at h
    · rename_i x ys h1 h2
      injection h with h
      subst h
      obtain ⟨h3, h4⟩ := constL_ok h2
      refine ⟨by simp only [ARl]; exact ⟨v, vs, rfl, constA_ok h1, h3⟩, fun c hc => ?_⟩
      cases hc with
      | head => exact constA_one h1
      | tail _ hc => exact h4 c hc
    · cases h

/-! ### new blocks -/
theorem newCells_ok (hH : HR fb φ H w) {ty : TypeId} {c0 : List Value} {k : Blk} {sz : Nat} (hk : NB φ (wrs fb φ H) w (.cells c0.toArray ty) sz k)
    {nb nx : B} (hb : φ nb = none) (hd : ∀ k0, H.m.get nb = some k0 → k0.wrt = false) (hlt : nb.toNat < nx.toNat) (hnx : H.nx.toNat ≤ nx.toNat) :
    Ext fb φ H w (φ.set nb (w.heap.size, sz)) ⟨(Eff.new k).on H.m nb, nx⟩ (w.alloc (.cells c0.toArray ty)) ∧ HR fb (φ.set nb (w.heap.size, sz)) ⟨(Eff.new k).on H.m nb, nx⟩ (w.alloc (.cells c0.toArray ty)) ∧ (φ.set nb (w.heap.size, sz)) nb = some (w.heap.size, sz) :=
  ⟨Ext.alloc hH _ nb k nx sz hb hd, HR.alloc hH _ nb k nx sz hb hd hlt hnx hk, by simp [Phi.set]⟩

theorem box_ok (hH : HR fb φ H w) {t : TypeId} {x : AV} {v : Value} {cs : List AV} (hx : AR φ (wrs fb φ H) w x v) (hc : x.cells = some cs) (h1 : cs.all AV.one = true)
    {nb nx : B} (hb : φ nb = none) (hd : ∀ k0, H.m.get nb = some k0 → k0.wrt = false) (hlt : nb.toNat < nx.toNat) (hnx : H.nx.toNat ≤ nx.toNat) :
    ∃ cv w' φ', (Instr.box t v).run P w = .ok cv w' ∧ Ext fb φ H w φ' ⟨(Eff.new (.box t cs)).on H.m nb, nx⟩ w' ∧ HR fb φ' ⟨(Eff.new (.box t cs)).on H.m nb, nx⟩ w' ∧ AR φ' (wrs fb φ' ⟨(Eff.new (.box t cs)).on H.m nb, nx⟩) w' (.ref nb 0) cv ∧ ∀ p, p ≠ nb → φ' p = φ p := by
  obtain ⟨vs, hv, hl⟩ := hx.cells hc
  obtain ⟨h2, h3, h4⟩ := newCells_ok hH (ty := t) (c0 := vs) (k := .box t cs) (sz := cs.length) ⟨vs, rfl, hl, rfl⟩ hb hd hlt hnx
  refine ⟨.pointer (some ⟨w.heap.size, 0, none⟩), _, _, ?_, h2, h3, by simp only [AR]; exact ⟨_, _, h4, rfl⟩, fun p hp => by simp [Phi.set, Ne.symm hp]⟩
  simp [Instr.box, newVar, newRow, hv]

theorem alloc_ok (hH : HR fb φ H w) {t : TypeId} {i : TypeInfo} {z : Value} {cs : List AV} (hi : P.info? t = some i) (hz : i.zero = some z) (hc : constL z.cells.toList = some cs)
    {nb nx : B} (hb : φ nb = none) (hd : ∀ k0, H.m.get nb = some k0 → k0.wrt = false) (hlt : nb.toNat < nx.toNat) (hnx : H.nx.toNat ≤ nx.toNat) :
    ∃ cv w' φ', (Instr.alloc t true (.tuple #[])).run P w = .ok cv w' ∧ Ext fb φ H w φ' ⟨(Eff.new (.box t cs)).on H.m nb, nx⟩ w' ∧ HR fb φ' ⟨(Eff.new (.box t cs)).on H.m nb, nx⟩ w' ∧ AR φ' (wrs fb φ' ⟨(Eff.new (.box t cs)).on H.m nb, nx⟩) w' (.ref nb 0) cv ∧ ∀ p, p ≠ nb → φ' p = φ p := by
  have hl : ARl φ (wrs fb φ H) w cs z.cells.toList := (constL_ok hc).1
  obtain ⟨h2, h3, h4⟩ := newCells_ok hH (ty := t) (c0 := z.cells.toList) (k := .box t cs) (sz := cs.length) ⟨_, rfl, hl, rfl⟩ hb hd hlt hnx
  refine ⟨.pointer (some ⟨w.heap.size, 0, none⟩), _, _, ?_, h2, h3, by simp only [AR]; exact ⟨_, _, h4, rfl⟩, fun p hp => by simp [Phi.set, Ne.symm hp]⟩
  simp [Instr.alloc, run_zeroValue' hi hz, newVar, newRow]

/-! ### filling -/
theorem fold_set (cs : List Value) : ∀ (ds : List Value) (n o : Nat) (a : Array Value), a.toList = cs → o + n + ds.length ≤ cs.length →
    ((ds.toArray.zipIdx n).foldl (fun cs (c, j) => cs.setIfInBounds (o + j) c) a).toList = cs.take (o + n) ++ ds ++ cs.drop (o + n + ds.length)
  | [], n, o, a, ha, hl => by
    have hz : ([] : List Value).toArray.zipIdx n = #[] := by apply Array.ext'; simp [Array.toList_zipIdx]
    rw [hz]
    simp [ha]
  | d :: ds, n, o, a, ha, hl => by
    have ih := fold_set (cs.set (o + n) d) ds (n + 1) o (a.setIfInBounds (o + n) d) (by simp [ha]) (by simp at hl ⊢; omega)
    have hz : (d :: ds).toArray.zipIdx n = #[(d, n)] ++ ds.toArray.zipIdx (n + 1) := by
      apply Array.ext'
      simp [Array.toList_zipIdx, List.zipIdx_cons]
    rw [hz, Array.foldl_append]
    simp only [List.size_toArray, List.length_cons, List.length_nil, Nat.zero_add, List.foldl_toArray', List.foldl_cons, List.foldl_nil]
    rw [ih]
    apply List.ext_getElem?
    intro k
    simp only [List.length_cons] at hl
    have e1 : min (o + (n + 1)) cs.length = o + n + 1 := by omega
    have e2 : min (o + n) cs.length = o + n := by omega
    simp only [List.getElem?_append, List.length_append, List.length_take, List.length_set, List.getElem?_take, List.getElem?_drop, List.getElem?_set, List.length_cons, e1, e2]
    by_cases c1 : k < o + n
    · have : ¬ (o + n = k) := by omega
      simp [c1, this, show k < o + n + 1 + ds.length by omega, show k < o + n + 1 by omega, show k < o + (n + 1) by omega, show k < o + n + (ds.length + 1) by omega]
    · by_cases c2 : k = o + n
      · subst c2
        simp [show o + n < o + n + 1 + ds.length by omega, show o + n < cs.length by omega, show o + n < o + (n + 1) by omega]
      · by_cases c3 : k < o + n + 1 + ds.length
        · simp only [c3, if_true, show ¬ (k < o + n + 1) by omega, if_false, show k < o + n + (ds.length + 1) by omega, c1]
          rw [show k - (o + n) = (k - (o + n + 1)) + 1 by omega, List.getElem?_cons_succ]
        · simp only [c3, if_false, show ¬ (k < o + n + (ds.length + 1)) by omega]
          rw [if_neg (by omega)]
          congr 1
          omega

/-- The parts of a literal, with their places: what compiles to what. -/
def PartsOK (place : Nat → Option (Nat × Nat)) (ev : Opd → AV) (rv : Operand → Value) (R : AV → Value → Prop) : List (Nat × Operand) → List (Nat × Nat × Opd) → Prop
  | [], l => l = []
  | (i, x) :: ps, l => ∃ o n y l', l = (o, n, y) :: l' ∧ place i = some (o, n) ∧ R (ev y) (rv x) ∧ PartsOK place ev rv R ps l'
theorem fill_ok {place : Nat → Option (Nat × Nat)} {fr : Tr AV} {rv : Operand → Value} : ∀ (ps : List (Nat × Operand)) (l : List (Nat × Nat × Opd)) (cs ds : List AV) (vs : List Value),
    PartsOK place (Opd.ev fr) rv (AR φ wr w) ps l → ARl φ wr w cs vs → (∀ c ∈ cs, c.one = true) → fillA cs fr l = some ds →
    ∃ us : List Value, Instr.fill place vs.toArray (ps.map fun (i, x) => (i, rv x)) = some us.toArray ∧ ARl φ wr w ds us ∧ (∀ c ∈ ds, c.one = true) ∧ ds.length = cs.length
  | [], l, cs, ds, vs, hp, hl, h1, h => by
    simp only [PartsOK] at hp
    subst hp
    injection h with h
    subst h
    exact ⟨vs, rfl, hl, h1, rfl⟩
  | (i, x) :: ps, l, cs, ds, vs, hp, hl, h1, h => by
    simp only [PartsOK] at hp
    obtain ⟨o, n, y, l', rfl, h2, h3, h4⟩ := hp
    unfold fillA at h
    split at h
    · cases h
    rename_i es hes
    split at h
    · rename_i hc
      obtain ⟨c1, c2, c3⟩ := hc
      obtain ⟨us, hu, hul⟩ := h3.cells hes
      have hlen := hul.length
      have hvl := hl.length
      have hset := fold_set vs us 0 o vs.toArray rfl (by omega)
      simp only [Nat.add_zero] at hset
      have hones : ∀ c ∈ splice cs o es, c.one = true := by
        intro c hc
        unfold splice at hc
        rcases List.mem_append.1 hc with hc | hc
        · rcases List.mem_append.1 hc with hc | hc
          · exact h1 c (List.mem_of_mem_take hc)
          · exact List.all_eq_true.1 c3 c hc
        · exact h1 c (List.mem_of_mem_drop hc)
      obtain ⟨rs, h5, h6, h7, h8⟩ := fill_ok ps l' (splice cs o es) ds (vs.take o ++ us ++ vs.drop (o + us.length)) h4 (arl_splice hl hul o) hones h
      refine ⟨rs, ?_, h6, h7, by rw [h8, splice_length (by omega)]⟩
      simp only [List.map_cons, Instr.fill, h2]
      rw [hu]
      rw [if_neg (by simp; omega)]
      rw [← h5]
      congr 1
      apply Array.ext'
      rw [hset]
    · cases h

/-- Where a struct's fields lie. -/
def fieldPlaces (P : Program) : List Field → Option (List (Nat × Nat))
  | [] => some []
  | f :: fs => match P.info? f.type, fieldPlaces P fs with
    | some i, some l => some ((f.offset, i.size) :: l)
    | _, _ => none
theorem run_placesL : ∀ {fs : List Field} {l : List (Nat × Nat)}, fieldPlaces P fs = some l → ∀ w : World, (fs.mapM fun f => Prod.mk f.offset <$> sizeOf f.type : Sem (List (Nat × Nat))).run P w = .ok l w
  | [], l, h, w => by injection h with h; subst h; simp
  | f :: fs, l, h, w => by
    unfold fieldPlaces at h
    split at h
    · rename_i i l' h1 h2
      injection h with h
      subst h
      have ih := run_placesL h2 w
      simp [List.mapM_cons, run_sizeOf' h1, ih]
    · cases h
theorem run_places {fs : Array Field} {l : List (Nat × Nat)} (h : fieldPlaces P fs.toList = some l) (w : World) : (fs.mapM fun f => Prod.mk f.offset <$> sizeOf f.type : Sem (Array (Nat × Nat))).run P w = .ok l.toArray w := by
  rw [Array.mapM_eq_mapM_toList]
  simp [run_placesL h w]

theorem build_struct_ok {fr : Tr AV} {rv : Operand → Value} {t : TypeId} {fs : Array Field} {i : TypeInfo} {z : Value} {zs : List AV} {places : List (Nat × Nat)}
    (hu : P.underlying t = some (.struct fs)) (hi : P.info? t = some i) (hz : i.zero = some z) (hc : constL z.cells.toList = some zs)
    {ps : Array (Nat × Operand)} {l : List (Nat × Nat × Opd)} (hpl : fieldPlaces P fs.toList = some places)
    (hp : PartsOK (places[·]?) (Opd.ev fr) rv (AR φ wr w) ps.toList l) {ds : List AV} (h : fillA zs fr l = some ds) :
    ∃ cv, (Instr.build t (ps.map fun (i, x) => (i, rv x))).run P w = .ok cv w ∧ AR φ wr w (.ag ds) cv := by
  obtain ⟨us, h1, h2, _⟩ := fill_ok ps.toList l zs ds z.cells.toList hp (constL_ok hc).1 (constL_ok hc (φ := φ) (wr := wr) (w := w)).2 h
  refine ⟨.agg us.toArray, ?_, by simp only [AR]; exact ⟨us, rfl, h2⟩⟩
  have e : (ps.map fun (i, x) => (i, rv x)).toList = ps.toList.map fun (i, x) => (i, rv x) := by simp
  simp only [Array.toArray_toList] at h1
  simp [Instr.build, run_zeroValue' hi hz, run_underlying hu, run_places hpl, h1]
theorem build_array_ok {fr : Tr AV} {rv : Operand → Value} {t e : TypeId} {n : Nat} {i ie : TypeInfo} {z : Value} {zs : List AV}
    (hu : P.underlying t = some (.array n e)) (hi : P.info? t = some i) (hie : P.info? e = some ie) (hz : i.zero = some z) (hc : constL z.cells.toList = some zs)
    {ps : Array (Nat × Operand)} {l : List (Nat × Nat × Opd)}
    (hp : PartsOK (fun i => some (i * ie.size, ie.size)) (Opd.ev fr) rv (AR φ wr w) ps.toList l) {ds : List AV} (h : fillA zs fr l = some ds) :
    ∃ cv, (Instr.build t (ps.map fun (i, x) => (i, rv x))).run P w = .ok cv w ∧ AR φ wr w (.ag ds) cv := by
  obtain ⟨us, h1, h2, _⟩ := fill_ok ps.toList l zs ds z.cells.toList hp (constL_ok hc).1 (constL_ok hc (φ := φ) (wr := wr) (w := w)).2 h
  refine ⟨.agg us.toArray, ?_, by simp only [AR]; exact ⟨us, rfl, h2⟩⟩
  simp only [Array.toArray_toList] at h1
  simp [Instr.build, run_zeroValue' hi hz, run_underlying hu, run_sizeOf' hie, h1]

/-! ### rows out of cells -/
theorem chunk_length (sz : Nat) : ∀ (n : Nat) (cs : List AV), (chunk sz n cs).length = n
  | 0, _ => rfl
  | n + 1, cs => by simp [chunk, chunk_length sz n]
theorem chunk_get (sz : Nat) : ∀ (n : Nat) (cs : List AV) (j : Nat) (r : List AV), (chunk sz n cs)[j]? = some r → r = (cs.drop (j * sz)).take sz
  | 0, _, j, r, h => by simp [chunk] at h
  | n + 1, cs, 0, r, h => by simp [chunk] at h; subst h; simp
  | n + 1, cs, j + 1, r, h => by
    simp only [chunk, List.getElem?_cons_succ] at h
    have := chunk_get sz n _ j r h
    rw [this, List.drop_drop]
    congr 2
    rw [Nat.add_mul, Nat.one_mul, Nat.add_comm]
theorem rows_facts {cs : List AV} {vs : List Value} {sz n : Nat} (hl : ARl φ wr w cs vs) (h1 : ∀ c ∈ cs, c.one = true) (hn : cs.length = n * sz) :
    ∀ j r, (chunk sz n cs)[j]? = some r → r.length = sz ∧ (∀ c ∈ r, c.one = true) ∧ ∀ m c, r[m]? = some c → ∃ u, vs[j * sz + m]? = some u ∧ AR φ wr w c u := by
  intro j r hj
  have hjn : j < n := by have := (List.getElem?_eq_some_iff.1 hj).1; rwa [chunk_length] at this
  have hr := chunk_get sz n cs j r hj
  have hfit : j * sz + sz ≤ n * sz := by
    have : (j + 1) * sz ≤ n * sz := Nat.mul_le_mul_right _ hjn
    rwa [Nat.add_mul, Nat.one_mul] at this
  subst hr
  refine ⟨by simp; omega, fun c hc => h1 c (List.mem_of_mem_drop (List.mem_of_mem_take hc)), fun m c hm => ?_⟩
  rw [List.getElem?_take, List.getElem?_drop] at hm
  split at hm
  · exact hl.get _ c hm
  · cases hm
theorem range_zero_eq (z : Array Value) (n : Nat) : ((Array.range n).map (z[· % z.size]!)).toList = (List.range n).map fun j => z[j % z.size]! := by
  simp
/-- n zero elements, laid out. -/
def zerosL (z : List Value) (n : Nat) : List Value := (List.range n).map fun j => z.toArray[j % z.toArray.size]!

theorem lit_ok (hH : HR fb φ H w) {fr : Tr AV} {rv : Operand → Value} {t e : TypeId} {ie : TypeInfo} {z : Value} {zs : List AV} {len : Nat}
    (hu : P.underlying t = some (.slice e)) (hie : P.info? e = some ie) (hz : ie.zero = some z) (hbig : len * ie.size ≤ 16777216) (hpos : 0 < len * ie.size) (hc : constL (zerosL z.cells.toList (len * ie.size)) = some zs)
    {ps : Array (Nat × Operand)} {l : List (Nat × Nat × Opd)}
    (hp : PartsOK (fun i => some (i * ie.size, ie.size)) (Opd.ev fr) rv (AR φ (wrs fb φ H) w) ps.toList l) {ds : List AV} (h : fillA zs fr l = some ds) :
    ∃ us : List Value, (Instr.buildSlice t len (ps.map fun (i, x) => (i, rv x))).run P w = .ok (.slice (some ⟨w.heap.size, 0, none⟩) len len) (w.alloc (.cells us.toArray e)) ∧ ARl φ (wrs fb φ H) w ds us ∧ (∀ c ∈ ds, c.one = true) ∧ ds.length = len * ie.size := by
  have hzl : zs.length = len * ie.size := by
    have := (constL_ok hc (φ := φ) (wr := wrs fb φ H) (w := w)).1.length
    rw [← this]; simp [zerosL]
  obtain ⟨us, h1, h2, h3, h4⟩ := fill_ok ps.toList l zs ds _ hp (constL_ok hc).1 (constL_ok hc (φ := φ) (wr := wrs fb φ H) (w := w)).2 h
  refine ⟨us, ?_, h2, h3, by rw [h4, hzl]⟩
  have e0 : ¬ (len * ie.size = 0) := by omega
  have e1 : ¬ (16777216 < len * ie.size) := by omega
  have ez : (Array.range (len * ie.size)).map (fun x => z.cells[x % z.cells.size]!) = (zerosL z.cells.toList (len * ie.size)).toArray := by
    apply Array.ext'
    simp [zerosL]
  simp only [Nat.mul_eq_zero, not_or] at e0
  simp [Instr.buildSlice, run_underlying hu, run_sizeOf' hie, e1, e0, run_zeroValue' hie hz, newRow]
  rw [ez, h1]
  simp
  intro hz0
  omega

end
end Go.Za
