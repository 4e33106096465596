/- The abstract machine, part 9b: more operations: maps, Builders, conversions. No condition. -/
import Derived.Test.YtaabgjmcikolfaaGreatDoorZa9
import Derived.Lib.AppendStr
import Derived.Lib.MakeNoZero
import Derived.Lib.UnsafeStr
import Derived.Lib.Builder
import Derived.Calls
import Derived.Below
set_option linter.unusedVariables false
set_option linter.unusedSimpArgs false
namespace Go.Za
open Go.RowKit

section
variable {P : Program} {fb : Nat → Prop} {φ : Phi} {H : Hp} {wr : Nat → Prop} {w : World}

/-- A world further on, whose old blocks are as they were. -/
theorem Ext.belowN {w' : World} (hb : Below w.heap.size w w') (nx : B) : Ext fb φ H w φ ⟨H.m, nx⟩ w' :=
  ⟨hb.os, hb.tape, hb.output, hb.size, fun g hg _ => hb.block g hg, fun g c ty fz hc => ⟨c, fz, (hb.block g (Array.getElem?_eq_some_iff.1 hc).1).trans hc, rfl⟩, fun _ _ h => h, fun _ _ h => h⟩
/-- A builtin's call. -/
theorem run_bi {a : Act} {o : Oper} {b : Builtin} {args : Array Operand} {tys : Array TypeId} (hop : o.op = .call { callee := .builtin b, args, argTypes := tys }) {vs : List Value} (eargs : (args.map a.eval).toList = vs)
    {s : Sem Value} (hb : ∀ consts, builtin b tys o.type consts vs.toArray = (do let v ← s; pure (.value v))) {cv : Value} {w' : World} (h : s.run P w = .ok cv w') : (execOp a.eval o).run P w = .ok (.value cv) w' := by
  have e : args.map a.eval = vs.toArray := by rw [← eargs]
  simp only [execOp, hop, resolve, e, Sem.run_bind, Sem.run_pure, Result.andThen_ok, invoke, hb, h]
/-- A call of a function without a body. -/
theorem run_ext {a : Act} {o : Oper} {f : FuncId} {fn : Func} {args : Array Operand} {tys : Array TypeId} (hop : o.op = .call { callee := .value (.func f), args, argTypes := tys }) {vs : List Value} (eargs : (args.map a.eval).toList = vs)
    (hf : P.funcs[f]? = some fn) (hn : (fn.name == "runtime.NumGoroutine") = false) (hb : fn.body.isNone = true) (h1 : (Extern.findNext fn).isNone = true) {e : Array Value → Sem Value} (h2 : Extern.find fn = some e)
    {cv : Value} {w' : World} (h : (e vs.toArray).run P w = .ok cv w') : (execOp a.eval o).run P w = .ok (.value cv) w' := by
  have e' : args.map a.eval = vs.toArray := by rw [← eargs]
  have hn' : ¬ fn.name = "runtime.NumGoroutine" := by simpa using hn
  have h1' : Extern.findNext fn = none := by simpa using h1
  have hb' : fn.body = none := by simpa using hb
  simp only [execOp, hop, resolve, e', Act.eval, Deferred.ofValue, Sem.run_bind, Sem.run_pure, Result.andThen_ok, invoke, callFunc]
  simp [hf, hn', hb', h1', h2, h]

theorem Did.val {nb nx : B} {s : Sem Next} {v : AV} {cv : Value} (hH : HR fb φ H w) (hnx : H.nx.toNat ≤ nx.toNat) (h1 : s.run P w = .ok (.value cv) w) (h2 : AR φ (wrs fb φ H) w v cv) : Did P fb φ H w nb nx s v .no :=
  ⟨.value cv, cv, w, φ, h1, .inl rfl, Ext.stay hH nx, HR.stay hH nx hnx, h2, fun _ _ => rfl, fun _ => rfl⟩

/-! ### a map is turned -/
theorem mapR (hH : HR fb φ H w) {b : B} {x : Value} (hx : AR φ (wrs fb φ H) w (.mp b) x) {es : List (AV × AV × Nat)} {c : Nat} (hb : H.m.get b = some (.map es c)) :
    ∃ g sz es', x = .map (some g) ∧ φ b = some (g, sz) ∧ w.heap[g]? = some (.map es' c) ∧ ARe φ (wrs fb φ H) w es es'.toList := by
  simp only [AR] at hx
  obtain ⟨g, sz, h1, rfl⟩ := hx
  obtain ⟨g', sz', es', h2, h3, h4⟩ := hH.blk b _ hb
  rw [h1] at h2
  injection h2 with h2
  injection h2 with h2 _
  subst h2
  exact ⟨g, sz, es', rfl, h1, h3, h4⟩
theorem heap_setObj (w : World) (g : Nat) (o : Obj) (hg : g < w.heap.size) : ({ w with heap := w.heap.setIfInBounds g o } : World).heap[g]? = some o := by simp [hg]
theorem heap_setObj_other (w : World) {g j : Nat} (o : Obj) (hj : j ≠ g) : ({ w with heap := w.heap.setIfInBounds g o } : World).heap[j]? = w.heap[j]? := by
  simp [Array.getElem?_setIfInBounds, Ne.symm hj]
/-- The block of a map, turned. -/
theorem mapPut (hH : HR fb φ H w) {b nb nx : B} {es fs : List (AV × AV × Nat)} {c d : Nat} (hb : H.m.get b = some (.map es c)) {g sz : Nat} (hg : φ b = some (g, sz)) {es' : Array MapEntry} (h1 : w.heap[g]? = some (.map es' c)) {fs' : Array MapEntry}
    (h2 : ARe φ (wrs fb φ H) w fs fs'.toList) (hnx : H.nx.toNat ≤ nx.toNat) :
    Ext fb φ H w φ ⟨(Eff.put b (.map fs d)).on H.m nb, nx⟩ { w with heap := w.heap.setIfInBounds g (.map fs' d) } ∧ HR fb φ ⟨(Eff.put b (.map fs d)).on H.m nb, nx⟩ { w with heap := w.heap.setIfInBounds g (.map fs' d) } := by
  have hlt := (Array.getElem?_eq_some_iff.1 h1).1
  have hE : Ext fb φ H w φ ⟨(Eff.put b (.map fs d)).on H.m nb, nx⟩ { w with heap := w.heap.setIfInBounds g (.map fs' d) } :=
    Ext.put hH (k' := .map fs d) hb rfl hg nx rfl rfl rfl (by simp) (fun j hj => heap_setObj_other w _ hj) (fun c0 ty fz hc => by rw [h1] at hc; cases hc)
  exact ⟨hE, HR.put hH hb rfl hg nx hnx (by simp) (fun j hj => heap_setObj_other w _ hj) hE ⟨g, sz, fs', hg, heap_setObj w g _ hlt, ARe.keep hE.keep h2⟩⟩

/-! ### bytes -/
theorem bytesV_cells (s : List UInt8) : Lib.strCells ⟨s.toArray⟩ = bytesV s := by simp [Lib.strCells, bytesV]

/-! ### compiling -/
def isSliceD : Option TypeDesc → Bool
  | some (.slice _) => true
  | _ => false
/-- The types whose variables begin with one of type u. -/
def liesL (P : Program) (u : TypeId) : List (Nat × Nat) :=
  ((List.range P.types.size).filter fun ty => liesAt P P.depth ty (P.cellsOf ty / P.cellsOf ty) 0 u 1).map fun ty => (ty, P.cellsOf ty)
def cX (P : Program) (op : Op) : Option AOp :=
  match op with
  | .call { callee := .builtin .clear, args, argTypes } => match argTypes.toList, cOpds args.toList with
    | [t], some [x] => match P.underlying t with
      | some (.map _ _) => some (.ex .mc [x])
      | _ => none
    | _, _ => none
  | .makeSlice t l c => match P.underlying t, cOpd l, cOpd c with
    | some (.slice e), some l, some c => match P.info? e with
      | some i => match i.zero with
        | some z => match constL z.cells.toList with
          | some zs => if 0 < i.size ∧ zs.length = i.size ∧ 0 < i.bytes then some (.ex (.mks i.size i.bytes zs) [l, c]) else none
          | none => none
        | none => none
      | none => none
    | _, _, _ => none
  | .convert s d x => match P.underlying s, P.underlying d, cOpd x with
    | some (.pointer t), some .unsafePointer, some x => match P.info? t with
      | some i => if i.size = 0 then none else some (.ex .cvu [x])
      | none => none
    | some .unsafePointer, some (.pointer u), some x => match P.info? u with
      | some _ => some (.ex (.cvp (liesL P u)) [x])
      | none => none
    | _, _, _ => none
  | .binOp bop t x y _ => match P.underlying t, cOpd x, cOpd y with
    | some (.pointer e), some x, some y => match P.info? e with
      | some _ => if isEq bop then some (.ex (.peq (bop == .neq)) [x, y]) else none
      | none => none
    | _, _, _ => none
  | .range t x => match P.underlying t, cOpd x with
    | some (.map _ _), some x => some (.ex .rng [x])
    | _, _ => none
  | .call { callee := .builtin .append, args, argTypes } => match argTypes.toList, cOpds args.toList with
    | [t, u], some [x, y] => match P.underlying t, P.underlying u with
      | some (.slice e), some .string => match P.info? e with
        | some i => if i.size = 1 ∧ i.bytes = 1 then match i.zero with
            | some (.int _ _) => some (.ex (.aps e) [x, y])
            | _ => none
          else none
        | none => none
      | _, _ => none
    | _, _ => none
  | .call { callee := .builtin .cap, args, argTypes } => match argTypes.toList, cOpds args.toList with
    | [t], some [x] => if isSliceD (P.underlying t) then some (.ex .cap [x]) else none
    | _, _ => none
  | .call { callee := .builtin .copy, args, argTypes } => match argTypes.toList, cOpds args.toList with
    | [t, u], some [x, y] => match P.underlying t with
      | some (.slice e) => match P.info? e with
        | some _ => some (.ex .cpy [x, y])
        | none => none
      | _ => none
    | _, _ => none
  | .call { callee := .builtin .unsafeSliceData, args, argTypes } => match cOpds args.toList with
    | some [x] => some (.ex .sld [x])
    | _ => none
  | .call { callee := .builtin .unsafeString, args, argTypes } => match argTypes.toList, cOpds args.toList with
    | [p, _], some [x, y] => match P.underlying p with
      | some (.pointer e) => if P.cellsOf e = 1 then some (.ex (.ust e) [x, y]) else none
      | _ => none
    | _, _ => none
  | .call { callee := .value (.func f), args, argTypes } => match P.funcs[f]? with
    | some fn => if fn.body.isNone && (Extern.findNext fn).isNone then
        if fn.name = "internal/abi.NoEscape" then match cOpds args.toList with
          | some [x] => some (.ex .nes [x])
          | _ => none
        else if fn.name = "internal/bytealg.MakeNoZero" then match fn.resultTypes.toList, cOpds args.toList with
          | [t], some [x] => match P.underlying t with
            | some (.slice e) => some (.ex (.mnz e) [x])
            | _ => none
          | _, _ => none
        else none
      else none
    | none => none
  | _ => none

theorem clear_ok (hH : HR fb φ H w) {t ty k e : TypeId} (ht : P.underlying t = some (.map k e)) {x : AV} {vx : Value} {v : AV} {ef : Eff} {nb nx : B} (hx : AR φ (wrs fb φ H) w x vx) (h : xop H.m nb .mc [x] = some (v, ef)) (hnx : H.nx.toNat ≤ nx.toNat) :
    ∃ cv w', (Builtin.clear_ #[t] ty #[vx]).run P w = .ok cv w' ∧ Ext fb φ H w φ ⟨ef.on H.m nb, nx⟩ w' ∧ HR fb φ ⟨ef.on H.m nb, nx⟩ w' ∧ AR φ (wrs fb φ ⟨ef.on H.m nb, nx⟩) w' v cv ∧ ef.fresh = false := by
  simp only [xop] at h
  split at h
  · injection h with h; injection h with h1 h2; subst h1; subst h2
    simp only [AR] at hx
    subst hx
    exact ⟨.tuple #[], w, by simp [Builtin.clear_, run_underlying ht], Ext.stay hH nx, HR.stay hH nx hnx, by simp only [AR, ARl]; exact ⟨[], rfl, rfl⟩, rfl⟩
  · rename_i b
    split at h
    · rename_i es c hb
      injection h with h; injection h with h1 h2; subst h1; subst h2
      obtain ⟨g, sz, es', rfl, q1, q2, q3⟩ := mapR hH hx hb
      obtain ⟨r1, r2⟩ := mapPut (nb := nb) (fs := []) (d := c) (fs' := #[]) hH hb q1 q2 (by simp only [ARe]) hnx
      refine ⟨.tuple #[], _, ?_, r1, r2, by simp only [AR, ARl]; exact ⟨[], rfl, rfl⟩, rfl⟩
      simp [Builtin.clear_, run_underlying ht, getObj, setObj, Sem.run, q2]
    · cases h
  · cases h

theorem range_mod_toList (z : Array Value) (n : Nat) : ((Array.range n).map (z[· % z.size]!)).toList = (List.range n).map fun j => z[j % z.size]! := by
  simp
theorem makeSlice_ok (hH : HR fb φ H w) {t e : TypeId} {i : TypeInfo} {z : Value} {zs : List AV} (ht : P.underlying t = some (.slice e)) (hi : P.info? e = some i) (hz : i.zero = some z) (hc : constL z.cells.toList = some zs)
    (hs : 0 < i.size) (hl : zs.length = i.size) (hby : 0 < i.bytes) {x y : AV} {vx vy : Value} {v : AV} {ef : Eff} {nb nx : B} (hx : AR φ (wrs fb φ H) w x vx) (hy : AR φ (wrs fb φ H) w y vy)
    (h : xop H.m nb (.mks i.size i.bytes zs) [x, y] = some (v, ef)) (hb : φ nb = none) (hd : ∀ k0, H.m.get nb = some k0 → k0.wrt = false) (hlt : ef.fresh = true → nb.toNat < nx.toNat) (hnx : H.nx.toNat ≤ nx.toNat) :
    ∃ cv w' φ', (Instr.makeSlice t vx vy).run P w = .ok cv w' ∧ Ext fb φ H w φ' ⟨ef.on H.m nb, nx⟩ w' ∧ HR fb φ' ⟨ef.on H.m nb, nx⟩ w' ∧ AR φ' (wrs fb φ' ⟨ef.on H.m nb, nx⟩) w' v cv ∧ (∀ p, p ≠ nb → φ' p = φ p) ∧ (ef.fresh = false → φ' = φ) := by
  simp only [xop] at h
  split at h
  · rename_i l c
    split at h
    · rename_i hcond
      obtain ⟨h0, h1, h2, h3⟩ := hcond
      injection h with h; injection h with e1 e2; subst e1; subst e2
      simp only [AR] at hx hy
      subst hx; subst hy
      obtain ⟨l', rfl⟩ := Int.eq_ofNat_of_zero_le h0
      obtain ⟨c', rfl⟩ := Int.eq_ofNat_of_zero_le (Int.le_trans h0 h1)
      have hwl : IntKind.i64.wrap (l' : Int) = l' := by
        simp [IntKind.wrap, IntKind.signed, IntKind.bits]; omega
      have hwc : IntKind.i64.wrap (c' : Int) = c' := by
        simp [IntKind.wrap, IntKind.signed, IntKind.bits]; omega
      have hzc := (constL_ok (φ := φ) (wr := wrs fb φ H) (w := w) hc).1
      have hzs : z.cells.size = i.size := by rw [← hl, ← hzc.length]; simp
      let cs : Array Value := (Array.range (c' * i.size)).map (z.cells[· % z.cells.size]!)
      have hrun : (Instr.makeSlice t (.int .i64 l') (.int .i64 c')).run P w = .ok (.slice (some ⟨w.heap.size, 0, none⟩) l' c') (w.alloc (.cells cs e)) := by
        have b1 : ¬ ((c' : Int) < 0) := by omega
        have b2 : ¬ ((i.bytes : Int) * (c' : Int) > 281474976710656) := by
          rw [Int.mul_comm]; omega
        have b3 : ¬ ((l' : Int) < 0) := by omega
        have b4 : ¬ ((l' : Int) > (c' : Int)) := by omega
        by_cases hc0 : c' * i.size = 0
        · have hcc : c' = 0 := by
            rcases Nat.mul_eq_zero.1 hc0 with h | h
            · exact h
            · omega
          subst hcc
          have hl0 : l' = 0 := by omega
          subst hl0
          simp [Instr.makeSlice, run_underlying ht, asInt, asIntOf, typeInfo, hi, hwl, sizeOf, newRow, cs, IntKind.wrap, IntKind.signed, IntKind.bits, Array.range_zero']
        · simp only [Instr.makeSlice, Sem.run_bind, run_underlying ht, Result.andThen_ok, asInt, asIntOf, Sem.run_pure, typeInfo]
          simp [hi, hwl, hwc, b1, b2, b3, b4, sizeOf, typeInfo, zeroValue, hz, newRow, cs]
          have hc1 : ¬ (c' = 0 ∨ i.size = 0) := by
            intro h
            rcases h with h | h
            · subst h; simp at hc0
            · omega
          exact fun h => absurd h hc0
      have hk : NB φ (wrs fb φ H) w (.cells cs e) i.size (.rows i.size true (zs.all AV.pure) (List.replicate l' zs)) := by
        refine ⟨e, cs.toList, rfl, hs, rfl, by simp [cs]; exact Nat.mul_le_mul_right _ (by omega), fun j r hj => ?_⟩
        rw [List.getElem?_replicate] at hj
        split at hj
        · rename_i hjl
          injection hj with hj
          subst hj
          refine ⟨hl, (constL_ok (φ := φ) (wr := wrs fb φ H) (w := w) hc).2, fun m cc hm => ?_⟩
          have hml : m < zs.length := (List.getElem?_eq_some_iff.1 hm).1
          obtain ⟨u, u1, u2⟩ := (arl_pof hzc).get m cc hm
          refine ⟨u, ?_, u2⟩
          have hidx : j * i.size + m < c' * i.size := by
            have : (j + 1) * i.size ≤ c' * i.size := Nat.mul_le_mul_right _ (by omega)
            rw [Nat.add_mul, Nat.one_mul] at this
            omega
          have hmod : (j * i.size + m) % i.size = m := by
            rw [Nat.mul_comm, Nat.mul_add_mod]
            exact Nat.mod_eq_of_lt (by omega)
          have this : z.cells.toList[m]? = some u := u1
          simp at this
          have hz2 : z.cells[m]! = u := by
            obtain ⟨hm', e⟩ := Array.getElem?_eq_some_iff.1 this
            rw [getElem!_pos z.cells m hm', e]
          show ((Array.range (c' * i.size)).map (z.cells[· % z.cells.size]!)).toList[j * i.size + m]? = some u
          rw [range_mod_toList, List.getElem?_map, List.getElem?_eq_getElem (by simpa using hidx), List.getElem_range, Option.map_some, hzs, hmod, hz2]
        · cases hj
      obtain ⟨k1, k2, k3⟩ := newCells_ok hH (c0 := cs.toList) hk hb hd (hlt rfl) hnx
      refine ⟨_, _, _, hrun, k1, k2, ?_, fun p hp => by simp [Phi.set, Ne.symm hp], fun hf => by cases hf⟩
      simp only [AR]
      refine ⟨_, _, c', cs, e, _, k3, by simp, heap_alloc_new' w _, by simp [cs], by omega, hs⟩
    · cases h
  · cases h

/-! ### pointers -/
theorem refR (hH : HR fb φ H w) {b : B} {o : Nat} {x : Value} (hx : AR φ (wrs fb φ H) w (.ref b o) x) {ty : Nat} {cs : List AV} (hb : H.m.get b = some (.box ty cs)) :
    ∃ g c0, x = .pointer (some ⟨g, o, none⟩) ∧ w.heap[g]? = some (.cells c0 ty (0, 0)) ∧ c0.size = cs.length := by
  simp only [AR] at hx
  obtain ⟨g, sz, h1, rfl⟩ := hx
  obtain ⟨g', c0, h2, h3, h4⟩ := hH.blk b _ hb
  rw [h1] at h2
  injection h2 with h2
  injection h2 with h2 _
  subst h2
  exact ⟨g, c0.toArray, rfl, h3, by simp [h4.length]⟩
theorem shape_of {g : Nat} {c0 : Array Value} {ty : TypeId} {fz : Nat × Nat} (h : w.heap[g]? = some (.cells c0 ty fz)) : w.shape? g = some (ty, c0.size) := by
  simp [World.shape?, h]
theorem cvu_ok (hH : HR fb φ H w) {s d t : TypeId} {i : TypeInfo} (hs : P.underlying s = some (.pointer t)) (hd : P.underlying d = some .unsafePointer) (hi : P.info? t = some i) (h0 : i.size ≠ 0)
    {x v : AV} {vx : Value} {ef : Eff} {nb : B} (hx : AR φ (wrs fb φ H) w x vx) (h : xop H.m nb .cvu [x] = some (v, ef)) : ef = .no ∧ ∃ cv, (convert s d vx).run P w = .ok cv w ∧ AR φ (wrs fb φ H) w v cv := by
  simp only [xop] at h
  split at h
  · rename_i b o
    split at h
    · rename_i ty cs hb
      split at h
      · rename_i ho
        injection h with h; injection h with h1 h2; subst h1; subst h2
        have hx' := hx
        obtain ⟨g, c0, rfl, q1, q2⟩ := refR hH hx hb
        exact ⟨rfl, _, Lib.run_to_unsafe w _ hs hd hi h0 (shape_of q1) (by show o < c0.size; omega), hx'⟩
      · cases h
    · cases h
  · injection h with h; injection h with h1 h2; subst h1; subst h2
    have hx' := hx
    simp only [AR] at hx
    subst hx
    exact ⟨rfl, .pointer none, by simp [convert, run_underlying hs, run_underlying hd, Conv.unsafePointer], hx'⟩
  · cases h
theorem cvp_ok (hH : HR fb φ H w) {s d u : TypeId} {i : TypeInfo} (hs : P.underlying s = some .unsafePointer) (hd : P.underlying d = some (.pointer u)) (hi : P.info? u = some i)
    {x v : AV} {vx : Value} {ef : Eff} {nb : B} (hx : AR φ (wrs fb φ H) w x vx) (h : xop H.m nb (.cvp (liesL P u)) [x] = some (v, ef)) : ef = .no ∧ ∃ cv, (convert s d vx).run P w = .ok cv w ∧ AR φ (wrs fb φ H) w v cv := by
  simp only [xop] at h
  split at h
  · rename_i b o
    split at h
    · rename_i ty cs hb
      split at h
      · rename_i ho
        injection h with h; injection h with h1 h2; subst h1; subst h2
        have hx' := hx
        obtain ⟨g, c0, rfl, q1, q2⟩ := refR hH hx hb
        obtain ⟨h2, rfl⟩ := ho
        obtain ⟨⟨t, n⟩, h3, h4⟩ := List.any_eq_true.1 h2
        simp only [Bool.and_eq_true] at h4
        have h5 := Nat.eq_of_beq_eq_true h4.1
        have h6 := Nat.eq_of_beq_eq_true h4.2
        subst h5; subst h6
        simp only [liesL, List.mem_map, List.mem_filter, Prod.mk.injEq] at h3
        obtain ⟨t', ⟨_, h7⟩, rfl, h8⟩ := h3
        exact ⟨rfl, _, Lib.run_from_unsafe w _ hs hd hi (shape_of q1) (by rw [q2, ← h8]; exact h7), hx'⟩
      · cases h
    · cases h
  · injection h with h; injection h with h1 h2; subst h1; subst h2
    have hx' := hx
    simp only [AR] at hx
    subst hx
    exact ⟨rfl, .pointer none, by simp [convert, run_underlying hs, run_underlying hd, Conv.unsafePointer], hx'⟩
  · cases h
theorem run_eql_ptr_same {tp te : TypeId} {j : TypeInfo} (a : Addr) (hp : P.underlying tp = some (.pointer te)) (hte : P.info? te = some j) :
    (binOp .eql tp (.pointer (some a)) (.pointer (some a))).run P w = .ok (.bool true) w := by
  have h : ∀ d : Nat, (Op.equalIn (d + 1) tp (.pointer (some a)) (.pointer (some a))).run P w = .ok true w := fun d => by
    simp [Op.equalIn, run_underlying hp, sizeOf, typeInfo, hte, run_sameAddr_same]
  simp only [binOp]
  simp [Op.equal, Op.maxDepth, h 9999]
theorem xpeq_ok {t e : TypeId} {i : TypeInfo} (ht : P.underlying t = some (.pointer e)) (hi : P.info? e = some i) {bop : BinOp} (hq : isEq bop = true) (X Y : Operand)
    {x y v : AV} {vx vy : Value} {ef : Eff} {nb : B} (hx : AR φ wr w x vx) (hy : AR φ wr w y vy) (h : xop H.m nb (.peq (bop == .neq)) [x, y] = some (v, ef)) :
    ef = .no ∧ ∃ cv, (do eqGuard bop t X Y vx vy; binOp bop t vx vy : Sem Value).run P w = .ok cv w ∧ AR φ wr w v cv := by
  simp only [xop] at h
  split at h
  · rename_i a b ha hb
    split at h
    · rename_i hab
      injection h with h; injection h with h1 h2; subst h1; subst h2
      have := peq_ok (P := P) (φ := φ) (wr := wr) (w := w) ht hx hy ha hb hab (bop == .neq) X Y
      cases bop <;> simp [isEq] at hq <;> exact ⟨rfl, _, this, by simp only [AR]⟩
    · split at h
      · rename_i p o q k
        split at h
        · rename_i hpk
          injection h with h; injection h with h1 h2; subst h1; subst h2
          simp only [Bool.and_eq_true, B.eqb_iff] at hpk
          obtain ⟨rfl, hk⟩ := hpk
          have hk := Nat.eq_of_beq_eq_true hk
          subst hk
          simp only [AR] at hx hy
          obtain ⟨g, sz, h1, rfl⟩ := hx
          obtain ⟨g', sz', h2, rfl⟩ := hy
          rw [h1] at h2
          injection h2 with h2
          injection h2 with h2 _
          subst h2
          refine ⟨rfl, ?_⟩
          cases bop <;> simp [isEq] at hq
          · exact ⟨.bool true, by simp [eqGuard, run_eql_ptr_same _ ht hi], by simp only [AR]; rfl⟩
          · exact ⟨.bool false, by simp [eqGuard, Lib.run_neq_ptr_same w _ ht hi], by simp only [AR]; rfl⟩
        · cases h
      · cases h
  · cases h

/-! ### Builders -/
theorem btsR (hH : HR fb φ H w) {b : B} {i n : Nat} {x : Value} (hx : AR φ (wrs fb φ H) w (.sl b i n) x) {ty : Nat} {l : List UInt8} (hb : H.m.get b = some (.bts ty l)) :
    ∃ g cap c0, x = .slice (some ⟨g, i, none⟩) n cap ∧ φ b = some (g, 1) ∧ w.heap[g]? = some (.cells c0 ty (0, 0)) ∧ l.length ≤ c0.size ∧ (∀ (j : Nat) (c : UInt8), l[j]? = some c → c0[j]? = some (.int .u8 c.toNat)) ∧ i + cap ≤ c0.size ∧ n ≤ cap := by
  simp only [AR] at hx
  obtain ⟨g, sz, cap, c0, t, fz, h1, rfl, h3, h4, h5, h6⟩ := hx
  obtain ⟨g', c1, k1, k2, k3, k4⟩ := hH.blk b _ hb
  rw [h1] at k1
  injection k1 with k1
  injection k1 with k1 k1'
  subst k1; subst k1'
  rw [k2] at h3
  injection h3 with h3
  injection h3 with h3 h3' _
  subst h3; subst h3'
  exact ⟨g, cap, c1, by simp, h1, k2, k3, k4, by simpa using h4, h5⟩
theorem bytes_get (l : List UInt8) (j : Nat) : (Lib.strCells ⟨l.toArray⟩)[j]? = (l[j]?).map fun c => .int .u8 c.toNat := by
  simp [Lib.strCells]
/-- A new array of bytes: what it holds. -/
theorem bytes_new {l : List UInt8} {zs : Array Value} {j : Nat} {c : UInt8} (h : l[j]? = some c) : ((Lib.strCells ⟨l.toArray⟩).toArray ++ zs)[j]? = some (.int .u8 c.toNat) := by
  have hj : j < l.length := (List.getElem?_eq_some_iff.1 h).1
  have h1 : j < (Lib.strCells ⟨l.toArray⟩).toArray.size := by simp [Lib.strCells]; exact hj
  rw [Array.getElem?_append_left h1]
  have := bytes_get l j
  rw [h] at this
  simpa using this
theorem aps_ok (hH : HR fb φ H w) {t u ty e : TypeId} {i : TypeInfo} {zk : IntKind} {zn : Int} (ht : P.underlying t = some (.slice e)) (hu : P.underlying u = some .string) (hi : P.info? e = some i) (hs1 : i.size = 1) (hb1 : i.bytes = 1) (hz : i.zero = some (.int zk zn))
    {x y v : AV} {vx vy : Value} {ef : Eff} {nb nx : B} (hx : AR φ (wrs fb φ H) w x vx) (hy : AR φ (wrs fb φ H) w y vy) (h : xop H.m nb (.aps e) [x, y] = some (v, ef))
    (hb : φ nb = none) (hd : ∀ k0, H.m.get nb = some k0 → k0.wrt = false) (hlt : ef.fresh = true → nb.toNat < nx.toNat) (hnx : H.nx.toNat ≤ nx.toNat) :
    ∃ cv w' φ', (Builtin.append_ #[t, u] ty #[vx, vy]).run P w = .ok cv w' ∧ Ext fb φ H w φ' ⟨ef.on H.m nb, nx⟩ w' ∧ HR fb φ' ⟨ef.on H.m nb, nx⟩ w' ∧ AR φ' (wrs fb φ' ⟨ef.on H.m nb, nx⟩) w' v cv ∧ (∀ p, p ≠ nb → φ' p = φ p) ∧ (ef.fresh = false → φ' = φ) := by
  simp only [xop] at h
  split at h
  · rename_i l
    have hvy : vy = .string ⟨l.toArray⟩ := by simpa only [AR, str] using hy
    subst hvy
    have hlen : (⟨l.toArray⟩ : ByteArray).size = l.length := by simp [ByteArray.size]
    have hlc : (Lib.strCells ⟨l.toArray⟩).length = l.length := by simp [Lib.strCells]
    split at h
    · -- an empty one
      have hx' := hx
      simp only [AR] at hx
      obtain ⟨A0, rfl⟩ := hx
      split at h
      · rename_i h0
        injection h with h; injection h with h1 h2; subst h1; subst h2
        have hl0 : l = [] := List.eq_nil_of_length_eq_zero h0
        subst hl0
        refine ⟨.slice A0 0 0, w, φ, ?_, Ext.stay hH nx, HR.stay hH nx hnx, by simp only [AR]; exact ⟨A0, rfl⟩, fun _ _ => rfl, fun _ => rfl⟩
        have hf := Lib.run_firstCells_string (P := P) w 1 ⟨([] : List UInt8).toArray⟩
        rw [hlen] at hf
        cases A0 <;> simp [Builtin.append_, run_underlying ht, run_underlying hu, sizeOf, typeInfo, hi, hs1, Builtin.lenOf, hlen, hf, storeCells, Lib.strCells, Builtin.firstCells]
      · rename_i h0
        split at h
        · rename_i hbd
          injection h with h; injection h with h1 h2; subst h1; subst h2
          have hcap := grownCap_ge w l.length 0 e
          have hl0 : ¬ l = [] := by intro e; subst e; simp at h0
          have hrun : ∃ zs : Array Value, (Builtin.append_ #[t, u] ty #[.slice A0 0 0, .string ⟨l.toArray⟩]).run P w =
              .ok (.slice (some ⟨w.heap.size, 0, none⟩) l.length (grownCap w l.length 0 e)) (w.drew.alloc (.cells ((Lib.strCells ⟨l.toArray⟩).toArray ++ zs) e)) ∧ zs.size = grownCap w l.length 0 e - l.length := by
            refine ⟨Builtin.zeroCells (Value.int zk zn).cells (grownCap w l.length 0 e - l.length), ?_, by rw [size_zeroCells]; simp [Value.cells]⟩
            have h48 : Builtin.nextslicecap (0 + l.length) 0 * i.bytes ≤ 281474976710656 := growslice_fits (by omega) (by rw [hb1]; omega)
            cases A0 with
            | some a0 =>
              have := Lib.run_append_grow_string (P := P) w t u ty e i (.int zk zn) ht hu hi hz a0 0 0 [] (by simp) (fun j v h => by simp at h) ⟨l.toArray⟩ (by rw [hlen]; omega) (by rw [hlen]; omega) (by rw [hlen]; exact h48)
              rw [hlen, Nat.zero_add] at this
              rw [this]
              congr 3
              apply Array.ext'
              simp
            | none =>
              have hn : ¬ (l.length ≤ 0) := by omega
              have h63' : ¬ (9223372036854775807 < (l.length : Int)) := by omega
              have h48' : ¬ (281474976710656 < Builtin.nextslicecap l.length 0 * i.bytes) := by
                rw [Nat.zero_add] at h48
                omega
              have hf := Lib.run_firstCells_string (P := P) w.drew 1 ⟨l.toArray⟩
              rw [hlen] at hf
              simp [Builtin.append_, run_underlying ht, run_underlying hu, sizeOf, typeInfo, zeroValue, hi, hz, hs1, Builtin.lenOf, hlen, hl0, h63', h48', Question.forced, hf, Builtin.firstCells, newRow, grownCap]
              simp [Lib.strCells, List.take_of_length_le]
          obtain ⟨zs, hrun, hzs⟩ := hrun
          have hH' := hH.drew
          have hnb : NB φ (wrs fb φ H) w.drew (.cells ((Lib.strCells ⟨l.toArray⟩).toArray ++ zs) e) 1 (.bts e l) :=
            ⟨rfl, _, rfl, by simp [hlc], fun j c hj => bytes_new hj⟩
          have hlt' := hlt rfl
          have hE := Ext.alloc hH' (.cells ((Lib.strCells ⟨l.toArray⟩).toArray ++ zs) e) nb (.bts e l) nx 1 hb hd
          refine ⟨_, _, _, hrun, (Ext.drew fb φ H w).trans hE, HR.alloc hH' _ nb (.bts e l) nx 1 hb hd hlt' hnx hnb, ?_, fun p hp => by simp [Phi.set, Ne.symm hp], fun hf => by cases hf⟩
          simp only [AR]
          exact ⟨w.heap.size, 1, grownCap w l.length 0 e, _, e, _, by simp [Phi.set], by simp, heap_alloc_new' w.drew _, by simp [hlc, hzs]; omega, hcap, by omega⟩
        · cases h
    · rename_i b n
      split at h
      · rename_i tt l0 hbk
        split at h
        · rename_i hc
          obtain ⟨rfl, hn⟩ := hc
          have hx' := hx
          obtain ⟨g, cap, c0, rfl, k1, k2, k3, k4, k5, k6⟩ := btsR hH hx hbk
          rw [Nat.zero_add] at k5
          split at h
          · rename_i h0
            injection h with h; injection h with h1 h2; subst h1; subst h2
            have hl0 : l = [] := List.eq_nil_of_length_eq_zero h0
            subst hl0
            refine ⟨_, w, φ, ?_, Ext.stay hH nx, HR.stay hH nx hnx, hx', fun _ _ => rfl, fun _ => rfl⟩
            have hf : (Builtin.firstCells 1 0 (.string ⟨#[]⟩)).run P w = .ok #[] w := by simp [Builtin.firstCells]
            simp [Builtin.append_, run_underlying ht, run_underlying hu, sizeOf, typeInfo, hi, hs1, Builtin.lenOf, hlen, hf, storeCells, Lib.strCells, k6]
          · rename_i h0
            split at h
            · rename_i hbd
              injection h with h; injection h with h1 h2; subst h1; subst h2
              have hlt' := hlt rfl
              by_cases hroom : n + l.length ≤ cap
              · have hrun := Lib.run_append_room_string (P := P) w t u ty tt i ht hu hi hs1 g n cap c0 k2 ⟨l.toArray⟩ (by rw [hlen]; exact hroom) (by rw [hlen]; omega)
                rw [hlen] at hrun
                obtain ⟨f1, f2, f3, f4, f5, f6⟩ := setRow_facts k2 (c0.toList.take n ++ Lib.strCells ⟨l.toArray⟩ ++ c0.toList.drop (n + l.length)).toArray
                have hsize : (c0.toList.take n ++ Lib.strCells ⟨l.toArray⟩ ++ c0.toList.drop (n + l.length)).toArray.size = c0.size := by simp [hlc]; omega
                have hE := Ext.mov hH (k' := .bts tt (l0 ++ l)) (g' := g) (s' := 1) hbk rfl k1 hb nx f1 f2 f3 (Nat.le_of_eq f4.symm) (fun j _ hj => f5 j hj) (fun c ty' fz hc => by
                  rw [k2] at hc
                  injection hc with hc
                  injection hc with hc1 hc2 _
                  subst hc1
                  subst hc2
                  exact ⟨_, _, f6, hsize⟩) (.inl rfl) rfl
                refine ⟨_, _, _, hrun, hE, HR.mov hH hbk rfl k1 hb nx hnx hlt' (Nat.le_of_eq f4.symm) (fun j _ hj => f5 j hj) (.inl rfl) (by rw [f4]; exact (hH.phw _ _ _ k1).1) hE ?_, ?_, fun p hp => by simp [Phi.set, Ne.symm hp], fun hf => by cases hf⟩
                · refine ⟨g, _, by simp [Phi.set], f6, by rw [hsize]; simp; omega, fun j c hj => ?_⟩
                  simp only [List.getElem?_toArray]
                  rw [List.getElem?_append] at hj
                  split at hj
                  · rename_i hjl
                    have := k4 j c hj
                    rw [List.append_assoc, List.getElem?_append_left (by simp; omega), List.getElem?_take, if_pos (by omega)]
                    simpa using this
                  · rename_i hjl
                    have hj2 : j - l0.length < l.length := (List.getElem?_eq_some_iff.1 hj).1
                    rw [List.getElem?_append_left (by simp [hlc]; omega), List.getElem?_append_right (by simp; omega)]
                    have e1 : j - (List.take n c0.toList).length = j - l0.length := by simp; omega
                    rw [e1, bytes_get, hj]
                    rfl
                · simp only [AR]
                  exact ⟨g, 1, cap, _, tt, _, by simp [Phi.set], by simp, f6, by rw [hsize]; simpa using k5, hroom, by omega⟩
              · have hcap := grownCap_ge w (n + l.length) cap tt
                have holds : ∀ j v, ((c0.toList.take n))[j]? = some v → w.cell? ((⟨g, 0, none⟩ : Addr).add j) = some v := by
                  intro j v hj
                  rw [List.getElem?_take] at hj
                  split at hj
                  · rw [add_spot rfl]
                    simp [World.cell?, k2]
                    simpa using hj
                  · cases hj
                have hrun := Lib.run_append_grow_string (P := P) w t u ty tt i (.int zk zn) ht hu hi hz ⟨g, 0, none⟩ n cap (c0.toList.take n) (by rw [hs1]; simp; omega) holds ⟨l.toArray⟩ (by rw [hlen]; omega) (by rw [hlen]; omega)
                  (by rw [hlen]; exact growslice_fits (by omega) (by rw [hb1]; omega))
                rw [hlen] at hrun
                generalize hzz : Builtin.zeroCells (Value.int zk zn).cells (grownCap w (n + l.length) cap tt - (n + l.length)) = zs at hrun
                have hzs : zs.size = grownCap w (n + l.length) cap tt - (n + l.length) := by rw [← hzz, size_zeroCells]; simp [Value.cells]
                have hE := Ext.mov hH (w' := w.drew.alloc (.cells ((c0.toList.take n).toArray ++ (Lib.strCells ⟨l.toArray⟩).toArray ++ zs) tt)) (k' := .bts tt (l0 ++ l)) (g' := w.heap.size) (s' := 1) hbk rfl k1 hb nx rfl rfl rfl (by simp) (fun j hj _ => heap_alloc_old w.drew _ hj)
                  (fun c ty' fz hc => ⟨c, fz, (heap_alloc_old w.drew _ (Array.getElem?_eq_some_iff.1 hc).1).trans hc, rfl⟩) (.inr (Nat.le_refl _)) rfl
                have hsz : ((c0.toList.take n).toArray ++ (Lib.strCells ⟨l.toArray⟩).toArray ++ zs).size = grownCap w (n + l.length) cap tt := by simp [hlc, hzs]; omega
                refine ⟨_, _, _, hrun, hE, HR.mov hH hbk rfl k1 hb nx hnx hlt' (by simp) (fun j hj _ => heap_alloc_old w.drew _ hj) (.inr (Nat.le_refl _)) (by simp) hE ?_, ?_, fun p hp => by simp [Phi.set, Ne.symm hp], fun hf => by cases hf⟩
                · refine ⟨w.heap.size, _, by simp [Phi.set], heap_alloc_new' w.drew _, by rw [hsz]; simp; omega, fun j c hj => ?_⟩
                  rw [List.getElem?_append] at hj
                  split at hj
                  · rename_i hjl
                    have := k4 j c hj
                    rw [Array.append_assoc, Array.getElem?_append_left (by simp; omega)]
                    simp only [List.getElem?_toArray, List.getElem?_take]
                    rw [if_pos (by omega)]
                    simpa using this
                  · rename_i hjl
                    have hj2 : j - l0.length < l.length := (List.getElem?_eq_some_iff.1 hj).1
                    rw [Array.getElem?_append_left (by simp [hlc]; omega), Array.getElem?_append_right (by simp; omega)]
                    have e1 : j - (List.take n c0.toList).toArray.size = j - l0.length := by simp; omega
                    rw [e1]
                    simp only [List.getElem?_toArray]
                    rw [bytes_get, hj]
                    rfl
                · simp only [AR]
                  exact ⟨w.heap.size, 1, _, _, tt, _, by simp [Phi.set], by simp, heap_alloc_new' w.drew _, by rw [hsz]; omega, hcap, by omega⟩
            · cases h
        · cases h
      · cases h
    · cases h
  · cases h

theorem cap_ok {t ty : TypeId} (ht : isSliceD (P.underlying t) = true) {x v : AV} {vx : Value} {ef : Eff} {nb : B} (hx : AR φ wr w x vx) (h : xop H.m nb .cap [x] = some (v, ef)) : ef = .no ∧ ∃ cv, (Builtin.cap_ #[t] ty #[vx]).run P w = .ok cv w ∧ AR φ wr w v cv := by
  simp only [xop] at h
  split at h
  · injection h with h; injection h with h1 h2; subst h1; subst h2
    simp only [AR] at hx
    obtain ⟨A0, rfl⟩ := hx
    cases hu : P.underlying t with
    | none => rw [hu] at ht; cases ht
    | some d =>
      rw [hu] at ht
      cases d <;> simp [isSliceD] at ht
      exact ⟨rfl, .int .i64 0, by simp [Builtin.cap_, run_underlying hu, goInt], by simp only [AR]⟩
  · cases h
theorem mnz_ok (hH : HR fb φ H w) {ps : Array TypeId} {t e : TypeId} (ht : P.underlying t = some (.slice e)) {x v : AV} {vx : Value} {ef : Eff} {nb nx : B} (hx : AR φ (wrs fb φ H) w x vx) (h : xop H.m nb (.mnz e) [x] = some (v, ef))
    (hb : φ nb = none) (hd : ∀ k0, H.m.get nb = some k0 → k0.wrt = false) (hlt : ef.fresh = true → nb.toNat < nx.toNat) (hnx : H.nx.toNat ≤ nx.toNat) :
    ∃ cv w' φ', (Extern.BytealgMakeNoZero.makeNoZero ps #[t] #[vx]).run P w = .ok cv w' ∧ Ext fb φ H w φ' ⟨ef.on H.m nb, nx⟩ w' ∧ HR fb φ' ⟨ef.on H.m nb, nx⟩ w' ∧ AR φ' (wrs fb φ' ⟨ef.on H.m nb, nx⟩) w' v cv ∧ (∀ p, p ≠ nb → φ' p = φ p) ∧ (ef.fresh = false → φ' = φ) := by
  simp only [xop] at h
  split at h
  · rename_i n
    split at h
    · rename_i hc
      injection h with h; injection h with h1 h2; subst h1; subst h2
      simp only [AR] at hx
      subst hx
      obtain ⟨n', rfl⟩ := Int.eq_ofNat_of_zero_le hc.1
      obtain ⟨cs, h1, h2, _⟩ := Lib.run_makeNoZero (P := P) w ps t e ht n' (by omega)
      have hH' := hH.drew.drew
      have hnb : NB φ (wrs fb φ H) w.drew.drew (.cells cs e) 1 (.bts e []) := ⟨rfl, cs, rfl, by simp, fun j c hj => by simp at hj⟩
      have hE := Ext.alloc hH' (.cells cs e) nb (.bts e []) nx 1 hb hd
      refine ⟨_, _, _, h1, ((Ext.drew fb φ H w).trans (Ext.drew fb φ H _)).trans hE, HR.alloc hH' _ nb (.bts e []) nx 1 hb hd (hlt rfl) hnx hnb, ?_, fun p hp => by simp [Phi.set, Ne.symm hp], fun hf => by cases hf⟩
      simp only [AR]
      exact ⟨w.heap.size, 1, cs.size, cs, e, _, by simp [Phi.set], by simp, heap_alloc_new' w.drew.drew _, by omega, by simpa using h2, by omega⟩
    · cases h
  · cases h
theorem lenS_ok {x : AV} {v : Value} {n : Nat} (hx : AR φ wr w x v) (h : lenS x = some n) : ∃ A cap, v = .slice A n cap := by
  cases x <;> simp only [lenS, reduceCtorEq] at h <;> simp only [AR] at hx
  · injection h with h; subst h
    obtain ⟨A, rfl⟩ := hx
    exact ⟨A, 0, rfl⟩
  · injection h with h; subst h
    obtain ⟨A, cap, rfl, _⟩ := hx
    exact ⟨A, cap, rfl⟩
  · injection h with h; subst h
    obtain ⟨g, sz, cap, c0, ty, fz, _, rfl, _⟩ := hx
    exact ⟨_, cap, rfl⟩
theorem cpy_ok {t u ty e : TypeId} {i : TypeInfo} (ht : P.underlying t = some (.slice e)) (hi : P.info? e = some i) {x y v : AV} {vx vy : Value} {ef : Eff} {nb : B} (hx : AR φ wr w x vx) (hy : AR φ wr w y vy) (h : xop H.m nb .cpy [x, y] = some (v, ef)) :
    ef = .no ∧ ∃ cv, (Builtin.copy_ #[t, u] ty #[vx, vy]).run P w = .ok cv w ∧ AR φ wr w v cv := by
  simp only [xop] at h
  split at h
  · rename_i a b ha hb
    split at h
    · rename_i h0
      injection h with h; injection h with h1 h2; subst h1; subst h2
      obtain ⟨A, c, rfl⟩ := lenS_ok hx ha
      obtain ⟨A', c', rfl⟩ := lenS_ok hy hb
      have hm : Nat.min b a = 0 := by
        rcases h0 with h0 | h0
        · subst h0; exact Nat.min_zero _
        · subst h0; exact Nat.zero_min _
      refine ⟨rfl, .int .i64 0, ?_, by simp only [AR]⟩
      cases A <;> cases A' <;> simp [Builtin.copy_, run_underlying ht, Builtin.lenOf, hm, sizeOf, typeInfo, hi, Builtin.firstCells, loadCells, loadCellsFrom, storeCells, goInt]
    · cases h
  · cases h
theorem sld_ok (hH : HR fb φ H w) {ts : Array TypeId} {ty : TypeId} {x v : AV} {vx : Value} {ef : Eff} {nb : B} (hx : AR φ (wrs fb φ H) w x vx) (h : xop H.m nb .sld [x] = some (v, ef)) :
    ef = .no ∧ ∃ cv, (Builtin.unsafeSliceData_ ts ty #[vx]).run P w = .ok cv w ∧ AR φ (wrs fb φ H) w v cv := by
  simp only [xop] at h
  split at h
  · rename_i b n
    split at h
    · rename_i h0
      injection h with h; injection h with h1 h2; subst h1; subst h2
      simp only [AR] at hx
      obtain ⟨g, sz, cap, c0, t, fz, h1, rfl, h3, h4, h5, h6⟩ := hx
      refine ⟨rfl, _, Lib.run_unsafeSliceData_row w ts ty _ n cap (by omega), ?_⟩
      simp only [AR]
      exact ⟨g, sz, h1, by simp⟩
    · cases h
  · cases h
theorem freeze_heap (w : World) (g n : Nat) (hn : n ≠ 0) {c0 : Array Value} {ty : TypeId} (h : w.heap[g]? = some (.cells c0 ty (0, 0))) :
    (w.freeze ⟨g, 0, none⟩ n).heap[g]? = some (.cells c0 ty (0, n)) ∧ (∀ j, j ≠ g → (w.freeze ⟨g, 0, none⟩ n).heap[j]? = w.heap[j]?) ∧ (w.freeze ⟨g, 0, none⟩ n).heap.size = w.heap.size := by
  unfold World.freeze
  rw [if_neg hn]
  refine ⟨?_, fun j hj => ?_, by simp⟩
  · simp [Array.getElem?_modify, h]
  · simp [Array.getElem?_modify, Ne.symm hj]
theorem ust_ok (hH : HR fb φ H w) {pt it ty e : TypeId} (hp : P.underlying pt = some (.pointer e)) (hc1 : P.cellsOf e = 1) {x y v : AV} {vx vy : Value} {ef : Eff} {nb nx : B} (hx : AR φ (wrs fb φ H) w x vx) (hy : AR φ (wrs fb φ H) w y vy)
    (h : xop H.m nb (.ust e) [x, y] = some (v, ef)) (hnx : H.nx.toNat ≤ nx.toNat) :
    ∃ cv w', (Builtin.unsafeString_ #[pt, it] ty #[vx, vy]).run P w = .ok cv w' ∧ Ext fb φ H w φ ⟨ef.on H.m nb, nx⟩ w' ∧ HR fb φ ⟨ef.on H.m nb, nx⟩ w' ∧ AR φ (wrs fb φ ⟨ef.on H.m nb, nx⟩) w' v cv ∧ ef.fresh = false := by
  simp only [xop] at h
  split at h
  · rename_i b n
    split at h
    · rename_i tt l hbk
      split at h
      · rename_i hc
        obtain ⟨rfl, h0, hn, hn2⟩ := hc
        injection h with h; injection h with h1 h2; subst h1; subst h2
        simp only [AR] at hx hy
        subst hy
        obtain ⟨g, sz, q1, rfl⟩ := hx
        obtain ⟨g', c0, k1, k2, k3, k4⟩ := hH.blk b _ hbk
        rw [q1] at k1
        injection k1 with k1
        injection k1 with k1 k1'
        subst k1
        obtain ⟨n', rfl⟩ := Int.eq_ofNat_of_zero_le (Int.le_of_lt h0)
        have hl : (l.take n').length = n' := by simp; omega
        have hrun := Lib.run_unsafeString_row (P := P) w pt it ty tt hp hc1 g c0.size (shape_of k2) (l.take n') (by intro e; rw [e] at hl; simp at hl; omega) (by omega) (by omega) (fun j c hj => by
          rw [List.getElem?_take] at hj
          split at hj
          · rw [add_spot rfl]
            have := k4 j c hj
            simp [World.cell?, k2, this]
          · cases hj)
        rw [hl] at hrun
        obtain ⟨f1, f2, f3⟩ := freeze_heap w g n' (by omega) k2
        have hE : Ext fb φ H w φ ⟨(Eff.put b .dead).on H.m nb, nx⟩ (w.freeze ⟨g, 0, none⟩ n') := by
          refine Ext.put hH (k' := .dead) hbk rfl q1 nx ?_ ?_ ?_ f3 f2 (fun c ty' fz hc => by
            rw [k2] at hc
            injection hc with hc
            injection hc with hc1 hc2 _
            subst hc1
            subst hc2
            exact ⟨_, _, f1, rfl⟩)
          all_goals (unfold World.freeze; split <;> rfl)
        refine ⟨.string ⟨(l.take n').toArray⟩, _, ?_, hE, HR.put hH hbk rfl q1 nx hnx f3 f2 hE trivial, by simp only [AR, str]; simp, rfl⟩
        rw [← hrun]
        simp
      · cases h
    · cases h
  · cases h

theorem rng_ok (hH : HR fb φ H w) {t k e : TypeId} (ht : P.underlying t = some (.map k e)) {x v : AV} {vx : Value} {ef : Eff} {nb nx : B} (hx : AR φ (wrs fb φ H) w x vx) (h : xop H.m nb .rng [x] = some (v, ef))
    (hb : φ nb = none) (hd : ∀ k0, H.m.get nb = some k0 → k0.wrt = false) (hlt : ef.fresh = true → nb.toNat < nx.toNat) (hnx : H.nx.toNat ≤ nx.toNat) :
    ∃ cv w' φ', (Instr.range t vx).run P w = .ok cv w' ∧ Ext fb φ H w φ' ⟨ef.on H.m nb, nx⟩ w' ∧ HR fb φ' ⟨ef.on H.m nb, nx⟩ w' ∧ AR φ' (wrs fb φ' ⟨ef.on H.m nb, nx⟩) w' v cv ∧ (∀ p, p ≠ nb → φ' p = φ p) ∧ (ef.fresh = false → φ' = φ) := by
  have fin : ∀ (mo : Option B) (mo' : Option Nat) (c : Nat), (match mo with | none => mo' = none | some m => ∃ gm s, φ m = some (gm, s) ∧ mo' = some gm) → (Instr.range t vx).run P w = .ok (.pointer (some ⟨w.heap.size, 0, none⟩)) (w.alloc (.mapIter mo' c #[] c)) →
      nb.toNat < nx.toNat → ∃ cv w' φ', (Instr.range t vx).run P w = .ok cv w' ∧ Ext fb φ H w φ' ⟨(Eff.new (.iter mo c [] c)).on H.m nb, nx⟩ w' ∧ HR fb φ' ⟨(Eff.new (.iter mo c [] c)).on H.m nb, nx⟩ w' ∧ AR φ' (wrs fb φ' ⟨(Eff.new (.iter mo c [] c)).on H.m nb, nx⟩) w' (.ref nb 0) cv ∧ (∀ p, p ≠ nb → φ' p = φ p) := by
    intro mo mo' c hmo hrun hl
    have hk : NB φ (wrs fb φ H) w (.mapIter mo' c #[] c) 1 (.iter mo c [] c) := ⟨mo', rfl, hmo⟩
    refine ⟨_, _, _, hrun, Ext.alloc hH (.mapIter mo' c #[] c) nb (.iter mo c [] c) nx 1 hb hd, HR.alloc hH (.mapIter mo' c #[] c) nb (.iter mo c [] c) nx 1 hb hd hl hnx hk, ?_, fun p hp => by simp [Phi.set, Ne.symm hp]⟩
    simp only [AR]
    exact ⟨_, 1, by simp only [Phi.set, if_true], rfl⟩
  simp only [xop] at h
  split at h
  · injection h with h; injection h with h1 h2; subst h1; subst h2
    simp only [AR] at hx
    subst hx
    obtain ⟨cv, w', φ', q1, q2, q3, q4, q5⟩ := fin none none 0 rfl (by simp [Instr.range, run_underlying ht]) (hlt rfl)
    exact ⟨cv, w', φ', q1, q2, q3, q4, q5, fun hf => by cases hf⟩
  · rename_i b
    split at h
    · rename_i es c hbk
      injection h with h; injection h with h1 h2; subst h1; subst h2
      obtain ⟨g, sz, es', rfl, q1, q2, q3⟩ := mapR hH hx hbk
      obtain ⟨cv, w', φ', q1, q2, q3, q4, q5⟩ := fin (some b) (some g) c ⟨g, sz, q1, rfl⟩ (by simp [Instr.range, run_underlying ht, getObj, Sem.run, q2]) (hlt rfl)
      exact ⟨cv, w', φ', q1, q2, q3, q4, q5, fun hf => by cases hf⟩
    · cases h
  · cases h

theorem look_name {α : Type} {l : List (String × α)} {n : String} {x : α} (h : l.lookup n = some x) : True := trivial
theorem find_nes {fn : Func} (h : fn.name = "internal/abi.NoEscape") : ∃ e, Extern.find fn = some e ∧ ∀ x, e #[x] = Sem.pure x := by
  refine ⟨Extern.AbiNoEscape.same, ?_, fun x => rfl⟩
  unfold Extern.find
  rw [h]
  rfl
theorem find_mnz {fn : Func} (h : fn.name = "internal/bytealg.MakeNoZero") : Extern.find fn = some (Extern.BytealgMakeNoZero.makeNoZero fn.params fn.resultTypes) := by
  unfold Extern.find
  rw [h]
  rfl

theorem x_ok {a : Act} {o : Oper} {fr : Tr AV} (hF : FR φ (wrs fb φ H) w fr a.tmps) (hH : HR fb φ H w) {x : AOp} (hc : cX P o.op = some x) {v : AV} {e : Eff} {nb nx : B} (h : aop fr H.m nb x = some (v, e)) (hb : φ nb = none) (hd : ∀ k0, H.m.get nb = some k0 → k0.wrt = false)
    (hlt : e.fresh = true → nb.toNat < nx.toNat) (hnx : H.nx.toNat ≤ nx.toNat) : Did P fb φ H w nb nx (execOp a.eval o) v e := by
  have one : ∀ {args : Array Operand} {y : Opd}, cOpds args.toList = some [y] → ∃ cv, (args.map a.eval).toList = [cv] ∧ AR φ (wrs fb φ H) w (y.ev fr) cv := by
    intro args y has
    have hl := opds_ok hF has
    simp only [List.map_cons, List.map_nil, ARl] at hl
    obtain ⟨vx, l1, e1, hx, e3⟩ := hl
    subst e3
    exact ⟨vx, by simpa using e1, hx⟩
  have two : ∀ {args : Array Operand} {y z : Opd}, cOpds args.toList = some [y, z] → ∃ cv cu, (args.map a.eval).toList = [cv, cu] ∧ AR φ (wrs fb φ H) w (y.ev fr) cv ∧ AR φ (wrs fb φ H) w (z.ev fr) cu := by
    intro args y z has
    have hl := opds_ok hF has
    simp only [List.map_cons, List.map_nil, ARl] at hl
    obtain ⟨vx, l1, e1, hx, vy, l2, e2, hy, e3⟩ := hl
    subst e3
    subst e2
    exact ⟨vx, vy, by simpa using e1, hx, hy⟩
  unfold cX at hc
  split at hc
  · -- clear
    rename_i args tys hop
    split at hc
    · rename_i t y hts has
      split at hc
      · rename_i kt et ht
        injection hc with hc; subst hc
        obtain ⟨cv, e1, hx⟩ := one has
        obtain ⟨rv, w', q1, q2, q3, q4, q5⟩ := clear_ok (ty := o.type) hH ht hx h hnx
        have etys : tys = #[t] := Array.ext' (by simpa using hts)
        exact ⟨.value rv, rv, w', φ, run_bi hop e1 (fun _ => by rw [etys]; rfl) q1, .inl rfl, q2, q3, q4, fun _ _ => rfl, fun _ => rfl⟩
      · cases hc
    · cases hc
  · -- makeSlice
    rename_i t l c hop
    split at hc
    · rename_i et l' c' ht hl' hc'
      split at hc
      · rename_i i hi
        split at hc
        · rename_i z hz
          split at hc
          · rename_i zs hzs
            split at hc
            · rename_i hcond
              injection hc with hc; subst hc
              obtain ⟨rv, w', φ', q1, q2, q3, q4, q5, q6⟩ := makeSlice_ok hH ht hi hz hzs hcond.1 hcond.2.1 hcond.2.2 (opd_ok hF hl') (opd_ok hF hc') h hb hd hlt hnx
              exact ⟨.value rv, rv, w', φ', by simp [execOp, hop, q1], .inl rfl, q2, q3, q4, q5, q6⟩
            · cases hc
          · cases hc
        · cases hc
      · cases hc
    · cases hc
  · -- convert
    rename_i s d y hop
    split at hc
    · rename_i t y' hs hdd hy
      split at hc
      · rename_i i hi
        split at hc
        · cases hc
        · rename_i h0
          injection hc with hc; subst hc
          obtain ⟨rfl, rv, q1, q2⟩ := cvu_ok (nb := nb) hH hs hdd hi h0 (opd_ok hF hy) h
          exact Did.val hH hnx (by simp [execOp, hop, q1]) q2
      · cases hc
    · rename_i u y' hs hdd hy
      split at hc
      · rename_i i hi
        injection hc with hc; subst hc
        obtain ⟨rfl, rv, q1, q2⟩ := cvp_ok (nb := nb) hH hs hdd hi (opd_ok hF hy) h
        exact Did.val hH hnx (by simp [execOp, hop, q1]) q2
      · cases hc
    · cases hc
  · -- binOp
    rename_i bop t X Y yt hop
    split at hc
    · rename_i e' x' y' ht hx hy
      split at hc
      · rename_i i hi
        split at hc
        · rename_i hq
          injection hc with hc; subst hc
          obtain ⟨rfl, rv, q1, q2⟩ := xpeq_ok (P := P) (H := H) (nb := nb) ht hi hq X Y (opd_ok hF hx) (opd_ok hF hy) h
          refine Did.val (cv := rv) hH hnx ?_ q2
          simp only [execOp, hop]
          rw [Sem.run_bind, q1]
          simp
        · cases hc
      · cases hc
    · cases hc
  · -- range
    rename_i t y hop
    split at hc
    · rename_i kt et y' ht hy
      injection hc with hc; subst hc
      obtain ⟨rv, w', φ', q1, q2, q3, q4, q5, q6⟩ := rng_ok hH ht (opd_ok hF hy) h hb hd hlt hnx
      exact ⟨.value rv, rv, w', φ', by simp [execOp, hop, q1], .inl rfl, q2, q3, q4, q5, q6⟩
    · cases hc
  · -- append
    rename_i args tys hop
    split at hc
    · rename_i t u y z hts has
      split at hc
      · rename_i et ht hu
        split at hc
        · rename_i i hi
          split at hc
          · rename_i hcond
            split at hc
            · rename_i zk zn hz
              injection hc with hc; subst hc
              obtain ⟨cv, cu, e1, hx, hy⟩ := two has
              obtain ⟨rv, w', φ', q1, q2, q3, q4, q5, q6⟩ := aps_ok (ty := o.type) hH ht hu hi hcond.1 hcond.2 hz hx hy h hb hd hlt hnx
              have etys : tys = #[t, u] := Array.ext' (by simpa using hts)
              exact ⟨.value rv, rv, w', φ', run_bi hop e1 (fun _ => by rw [etys]; rfl) q1, .inl rfl, q2, q3, q4, q5, q6⟩
            · cases hc
          · cases hc
        · cases hc
      · cases hc
    · cases hc
  · -- cap
    rename_i args tys hop
    split at hc
    · rename_i t y hts has
      split at hc
      · rename_i ht
        injection hc with hc; subst hc
        obtain ⟨cv, e1, hx⟩ := one has
        obtain ⟨rfl, rv, q1, q2⟩ := cap_ok (H := H) (nb := nb) (ty := o.type) ht hx h
        have etys : tys = #[t] := Array.ext' (by simpa using hts)
        exact Did.val hH hnx (run_bi hop e1 (fun _ => by rw [etys]; rfl) q1) q2
      · cases hc
    · cases hc
  · -- copy
    rename_i args tys hop
    split at hc
    · rename_i t u y z hts has
      split at hc
      · rename_i et ht
        split at hc
        · rename_i i hi
          injection hc with hc; subst hc
          obtain ⟨cv, cu, e1, hx, hy⟩ := two has
          obtain ⟨rfl, rv, q1, q2⟩ := cpy_ok (P := P) (H := H) (nb := nb) (u := u) (ty := o.type) ht hi hx hy h
          have etys : tys = #[t, u] := Array.ext' (by simpa using hts)
          exact Did.val hH hnx (run_bi hop e1 (fun _ => by rw [etys]; rfl) q1) q2
        · cases hc
      · cases hc
    · cases hc
  · -- SliceData
    rename_i args tys hop
    split at hc
    · rename_i y has
      injection hc with hc; subst hc
      obtain ⟨cv, e1, hx⟩ := one has
      obtain ⟨rfl, rv, q1, q2⟩ := sld_ok (P := P) (nb := nb) (ts := tys) (ty := o.type) hH hx h
      exact Did.val hH hnx (run_bi hop e1 (fun _ => rfl) q1) q2
    · cases hc
  · -- UnsafeString
    rename_i args tys hop
    split at hc
    · rename_i p it y z hts has
      split at hc
      · rename_i et hp
        split at hc
        · rename_i hcell
          injection hc with hc; subst hc
          obtain ⟨cv, cu, e1, hx, hy⟩ := two has
          obtain ⟨rv, w', q1, q2, q3, q4, q5⟩ := ust_ok (P := P) (it := it) (ty := o.type) hH hp hcell hx hy h hnx
          have etys : tys = #[p, it] := Array.ext' (by simpa using hts)
          exact ⟨.value rv, rv, w', φ, run_bi hop e1 (fun _ => by rw [etys]; rfl) q1, .inl rfl, q2, q3, q4, fun _ _ => rfl, fun _ => rfl⟩
        · cases hc
      · cases hc
    · cases hc
  · -- functions without a body
    rename_i f args tys hop
    split at hc
    · rename_i fn hf
      split at hc
      · rename_i hbody
        simp only [Bool.and_eq_true] at hbody
        split at hc
        · rename_i hn
          split at hc
          · rename_i y has
            injection hc with hc; subst hc
            obtain ⟨cv, e1, hx⟩ := one has
            simp only [aop, List.map_cons, List.map_nil, xop] at h
            injection h with h; injection h with h1 h2; subst h1; subst h2
            obtain ⟨ee, he1, he2⟩ := find_nes hn
            exact Did.val hH hnx (run_ext hop e1 hf (by rw [hn]; rfl) hbody.1 hbody.2 he1 (by rw [show ([cv] : List Value).toArray = #[cv] from rfl, he2]; rfl)) hx
          · cases hc
        · split at hc
          · rename_i hn
            split at hc
            · rename_i t y hts has
              split at hc
              · rename_i et ht
                injection hc with hc; subst hc
                obtain ⟨cv, e1, hx⟩ := one has
                obtain ⟨rv, w', φ', q1, q2, q3, q4, q5, q6⟩ := mnz_ok (P := P) (ps := fn.params) hH ht hx h hb hd hlt hnx
                have etys : fn.resultTypes = #[t] := Array.ext' (by simpa using hts)
                refine ⟨.value rv, rv, w', φ', run_ext hop e1 hf (by rw [hn]; rfl) hbody.1 hbody.2 (find_mnz hn) ?_, .inl rfl, q2, q3, q4, q5, q6⟩
                rw [etys]
                exact q1
              · cases hc
            · cases hc
          · cases hc
      · cases hc
    · cases hc
  · cases hc
theorem cX_defer {P : Program} {op : Op} {x : AOp} (h : cX P op = some x) : ∀ c, op ≠ .defer c := by
  intro c e
  subst e
  simp [cX] at h
end
end Go.Za
