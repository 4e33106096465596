/- The abstract machine, part 4: each operation of the model does what the abstract one says: reading, writing, making. No condition. -/
import Derived.Test.YtaabgjmcikolfaaGreatDoorZa3
import Derived.Laws.Cells
import Derived.Laws.CopyRow
import Derived.Laws.Entries
set_option linter.unusedVariables false
set_option linter.unusedSimpArgs false
namespace Go.Za
open Go.RowKit

def isAggD : TypeDesc → Bool
  | .struct _ | .array _ _ => true
  | _ => false
/-- How a variable of type t is loaded: n cells as one value, or its one cell. -/
def AggN (P : Program) (t : TypeId) : Option Nat → Prop
  | none => ∃ d, P.underlying t = some d ∧ isAggD d = false
  | some n => ∃ d i, P.underlying t = some d ∧ isAggD d = true ∧ P.info? t = some i ∧ i.size = n

section
variable {P : Program} {fb : Nat → Prop} {φ : Phi} {H : Hp} {wr : Nat → Prop} {w : World}

theorem run_isAgg' {t : TypeId} {d : TypeDesc} (h : P.underlying t = some d) (w : World) : (isAgg t).run P w = .ok (isAggD d) w := by
  cases d <;> simp [isAgg, run_underlying h, isAggD]
theorem run_sizeOf' {t : TypeId} {i : TypeInfo} (h : P.info? t = some i) (w : World) : (sizeOf t).run P w = .ok i.size w := by
  simp [sizeOf, typeInfo, h]
theorem run_zeroValue' {t : TypeId} {i : TypeInfo} {z : Value} (h : P.info? t = some i) (hz : i.zero = some z) (w : World) : (zeroValue t).run P w = .ok z w := by
  simp [zeroValue, typeInfo, h, hz]

theorem AR.one {x : AV} {v : Value} (h : AR φ wr w x v) (hx : x.one = true) : v.oneCell' = true := by
  cases x <;> simp only [AV.one, Bool.false_eq_true] at hx <;> simp only [AR] at h
  all_goals first
    | (subst h; rfl)
    | (obtain ⟨A, rfl⟩ := h; rfl)
    | (obtain ⟨g, sz, _, rfl⟩ := h; rfl)
    | (obtain ⟨a, rfl, _⟩ := h; rfl)
    | (obtain ⟨A, cap, rfl, _⟩ := h; rfl)
    | (obtain ⟨g, sz, cap, c0, ty, fz, _, rfl, _⟩ := h; rfl)
    | (obtain ⟨vs, rfl, _⟩ := h; rfl)
theorem cells_of_one {v : Value} (h : v.oneCell' = true) : v.cells = #[v] := by
  cases v <;> first | rfl | cases h
theorem AR.cells {x : AV} {v : Value} {cs : List AV} (h : AR φ wr w x v) (hx : x.cells = some cs) : ∃ vs : List Value, v.cells = vs.toArray ∧ ARl φ wr w cs vs := by
  by_cases ho : x.one = true
  · have hv := cells_of_one (h.one ho)
    have : cs = [x] := by cases x <;> simp_all [AV.cells, AV.one]
    subst this
    refine ⟨[v], by rw [hv], ?_⟩
    simp only [ARl]
    exact ⟨v, [], rfl, h, rfl⟩
  · cases x <;> simp [AV.one] at ho <;> simp only [AV.cells, reduceCtorEq] at hx
    injection hx with hx
    subst hx
    simp only [AR] at h
    obtain ⟨vs, rfl, h2⟩ := h
    exact ⟨vs, rfl, h2⟩
theorem ARl.ones {cs : List AV} {vs : List Value} (h : ARl φ wr w cs vs) (hc : cs.all AV.one = true) : ∀ v ∈ vs, v.oneCell' = true := by
  intro v hv
  obtain ⟨k, hk, rfl⟩ := List.mem_iff_getElem.1 hv
  have hk' : k < cs.length := by rw [← h.length]; exact hk
  obtain ⟨v', h1, h2⟩ := h.get k _ (List.getElem?_eq_getElem hk')
  rw [List.getElem?_eq_getElem hk] at h1
  injection h1 with h1
  rw [h1]
  exact h2.one (List.all_eq_true.1 hc _ (List.getElem_mem hk'))

/-! ### a load -/
theorem loadVar_ok {t : TypeId} {n : Option Nat} (hagg : AggN P t n) {a : Addr} (ha : a.spot = none) {cs : List AV}
    (hc : ∀ (k : Nat) (c : AV), cs[k]? = some c → ∃ u, w.cell? (a.add k) = some u ∧ AR φ wr w c u) {o : Nat} {y : AV} (h : getN cs o n = some y) :
    ∃ cv, (loadVar t (a.add o)).run P w = .ok cv w ∧ AR φ wr w y cv := by
  cases n with
  | none =>
    obtain ⟨d, h1, h2⟩ := hagg
    obtain ⟨u, h3, h4⟩ := hc o y h
    refine ⟨u, ?_, h4⟩
    simp [loadVar, run_isAgg' h1, h2, h3]
  | some n =>
    obtain ⟨d, i, h1, h2, h3, rfl⟩ := hagg
    simp only [getN] at h
    split at h
    · rename_i hle
      injection h with h
      subst h
      have hex : ∀ (ds : List AV) (b : Nat), (∀ (k : Nat) (c : AV), ds[k]? = some c → ∃ u, w.cell? (a.add (b + k)) = some u ∧ AR φ wr w c u) → ∃ vs, ARl φ wr w ds vs ∧ ∀ (k : Nat) (v : Value), vs[k]? = some v → w.cell? (a.add (b + k)) = some v := by
        intro ds
        induction ds with
        | nil => exact fun b _ => ⟨[], by simp only [ARl], fun k v h => by simp at h⟩
        | cons d ds ih =>
          intro b hd
          obtain ⟨u, x1, x2⟩ := hd 0 d rfl
          obtain ⟨vs, x3, x4⟩ := ih (b + 1) (fun k c hk => by have := hd (k + 1) c (by simpa using hk); rwa [show b + (k + 1) = b + 1 + k by omega] at this)
          refine ⟨u :: vs, by simp only [ARl]; exact ⟨u, vs, rfl, x2, x3⟩, fun k v hk => ?_⟩
          cases k with
          | zero => simp only [List.getElem?_cons_zero, Option.some.injEq] at hk; subst hk; exact x1
          | succ k => have := x4 k v (by simpa using hk); rwa [show b + 1 + k = b + (k + 1) by omega] at this
      obtain ⟨vs, h5, h6⟩ := hex ((cs.drop o).take i.size) o (fun k c hk => by
        rw [List.getElem?_take, List.getElem?_drop] at hk
        split at hk
        · exact hc _ c hk
        · cases hk)
      have hl : vs.length = i.size := by rw [h5.length]; simp; omega
      refine ⟨.agg vs.toArray, ?_, by simp only [AR]; exact ⟨vs, rfl, h5⟩⟩
      have hld := run_loadCells_list (P := P) w (a.add o) vs (fun j v hv => by
        rw [add_add ha]
        exact h6 j v hv)
      rw [hl] at hld
      simp [loadVar, run_isAgg' h1, h2, run_sizeOf' h3, hld]
    · cases h

theorem cells_box {g : Nat} {ty : TypeId} {c0 : List Value} {cs : List AV} (hg : w.heap[g]? = some (.cells c0.toArray ty (0, 0))) (hl : ARl φ wr w cs c0) :
    ∀ (k : Nat) (c : AV), cs[k]? = some c → ∃ u, w.cell? ((⟨g, 0, none⟩ : Addr).add k) = some u ∧ AR φ wr w c u := by
  intro k c hk
  obtain ⟨v, h1, h2⟩ := hl.get k c hk
  refine ⟨v, ?_, h2⟩
  rw [add_spot rfl]
  simp [World.cell?, hg, h1]
theorem add_comm' (g o : Nat) : (⟨g, o, none⟩ : Addr) = (⟨g, 0, none⟩ : Addr).add o := by rw [add_spot rfl]; simp

theorem load_ok (hH : HR fb φ H w) {t : TypeId} {n : Option Nat} (hagg : AggN P t n) {x y : AV} {v : Value} (hx : AR φ (wrs fb φ H) w x v) (h : loadA H.m n x = some y) :
    ∃ cv, (Instr.loadAt t v).run P w = .ok cv w ∧ AR φ (wrs fb φ H) w y cv := by
  cases x <;> simp only [loadA, reduceCtorEq] at h
  · rename_i b o
    split at h
    · rename_i bty cs hb
      simp only [AR] at hx
      obtain ⟨g, sz, h1, rfl⟩ := hx
      obtain ⟨g', c0, h2, h3, h4⟩ := hH.blk b _ hb
      rw [h1] at h2
      injection h2 with h2
      injection h2 with h2 _
      subst h2
      obtain ⟨cv, h5, h6⟩ := loadVar_ok hagg (a := ⟨g, 0, none⟩) rfl (cells_box h3 h4) h
      refine ⟨cv, ?_, h6⟩
      rw [← add_comm'] at h5
      simpa [Instr.loadAt, Instr.sureAddr] using h5
    · cases h
  · rename_i b i o
    split at h
    · rename_i sz lv pur xs hb
      split at h
      · rename_i r hr
        simp only [AR] at hx
        obtain ⟨g, sz', h1, rfl⟩ := hx
        obtain ⟨g', ty, c0, h2, h0, h3, h4, h5⟩ := hH.blk b _ hb
        rw [h1] at h2
        injection h2 with h2
        injection h2 with h2 hs
        subst h2
        subst hs
        obtain ⟨hl, hrow⟩ := h5.get i r hr
        rw [Nat.zero_add] at hrow
        obtain ⟨cv, h6, h7⟩ := loadVar_ok hagg (a := (⟨g, 0, none⟩ : Addr).add (i * sz')) (add_spot_none rfl _) (fun k c hk => by
          obtain ⟨u, q1, q2⟩ := hrow.get k c hk
          rw [Nat.zero_add] at q1
          exact ⟨u, q1, q2.of_pof⟩) h
        refine ⟨cv, ?_, h7⟩
        rw [add_add rfl, ← add_comm'] at h6
        simpa [Instr.loadAt, Instr.sureAddr] using h6
      · cases h
    · cases h
  · rename_i cs o
    simp only [AR] at hx
    obtain ⟨a, rfl, h2, h3, h4, h5⟩ := hx
    obtain ⟨cv, h6, h7⟩ := loadVar_ok hagg h2 (fun k c hk => by
      obtain ⟨u, q1, q2⟩ := h5.get k c hk
      rw [Nat.zero_add] at q1
      exact ⟨u, q1, q2.up φ⟩) h
    exact ⟨cv, by simpa [Instr.loadAt, Instr.sureAddr] using h6, h7⟩

/-! ### a store -/
theorem setRow_facts {g : Nat} {c : Array Value} {ty : TypeId} (hg : w.heap[g]? = some (.cells c ty (0, 0))) (c' : Array Value) :
    (w.setRow g c').os = w.os ∧ (w.setRow g c').tape = w.tape ∧ (w.setRow g c').output = w.output ∧ (w.setRow g c').heap.size = w.heap.size ∧
    (∀ g', g' ≠ g → (w.setRow g c').heap[g']? = w.heap[g']?) ∧ (w.setRow g c').heap[g]? = some (.cells c' ty (0, 0)) := by
  refine ⟨rfl, rfl, rfl, by simp [World.setRow], fun g' hne => ?_, setRow_heap w g c c' ty (0, 0) hg⟩
  unfold World.setRow
  simp only [Array.getElem?_modify]
  rw [if_neg (fun e => hne e.symm)]

theorem arl_splice {cs ds : List AV} {vs us : List Value} (h : ARl φ wr w cs vs) (k : ARl φ wr w ds us) (o : Nat) : ARl φ wr w (splice cs o ds) (vs.take o ++ us ++ vs.drop (o + us.length)) := by
  unfold splice
  rw [k.length]
  exact ((h.take o).append k).append (h.drop _)
theorem splice_length {cs ds : List AV} {o : Nat} (h : o + ds.length ≤ cs.length) : (splice cs o ds).length = cs.length := by
  simp [splice]; omega

theorem storeVar_run {t : TypeId} {i : TypeInfo} (hi : P.info? t = some i) {g o : Nat} {c : Array Value} {ty : TypeId} (hg : w.heap[g]? = some (.cells c ty (0, 0))) {v : Value} {vs : List Value}
    (hv : v.cells = vs.toArray) (hl : vs.length = i.size) (hfit : o + vs.length ≤ c.size) (h1 : ∀ u ∈ vs, u.oneCell' = true) :
    (Instr.storeAt t (.pointer (some ⟨g, o, none⟩)) v).run P w = .ok () (w.setRow g (c.toList.take o ++ vs ++ c.toList.drop (o + vs.length)).toArray) := by
  have := run_storeCells_at P g o ty vs 0 c w hg (by simpa using hfit) h1
  simp only [Nat.add_zero] at this
  simp [Instr.storeAt, Instr.sureAddr, storeVar, run_sizeOf' hi, hv, hl]
  simpa [hl] using this

theorem store_ok (hH : HR fb φ H w) {t : TypeId} {i : TypeInfo} (hi : P.info? t = some i) {a x : AV} {va vx : Value} {e : Eff} (hx : AR φ (wrs fb φ H) w x vx) (ha : AR φ (wrs fb φ H) w a va)
    (h : storeA H.m i.size a x = some e) (nb nx : B) (hnx : H.nx.toNat ≤ nx.toNat) :
    ∃ w', (Instr.storeAt t va vx).run P w = .ok () w' ∧ Ext fb φ H w φ ⟨e.on H.m nb, nx⟩ w' ∧ HR fb φ ⟨e.on H.m nb, nx⟩ w' ∧ e.fresh = false := by
  have wrm : ∀ {m : Tr Blk} {b : B} {k : Blk} {i o : Nat} {cs : List AV}, m.get b = some k → wrM m b i o cs = m.set b (k.wr i o cs) := by
    intro m b k i o cs hm
    simp only [wrM, hm]
  unfold storeA at h
  split at h
  · cases h
  rename_i cs hcs
  split at h
  · rename_i hcond
    obtain ⟨hlen, hone⟩ := hcond
    obtain ⟨vs, hv, hvl⟩ := hx.cells hcs
    have h1 := hvl.ones hone
    have hvlen : vs.length = i.size := by rw [hvl.length]; exact hlen
    cases a <;> simp only [reduceCtorEq] at h
    · rename_i b o
      split at h
      · rename_i bty c0 hb
        split at h
        · rename_i hfit
          injection h with h
          subst h
          simp only [AR] at ha
          obtain ⟨g, sz, h2, rfl⟩ := ha
          obtain ⟨g', l0, h3, h4, h5⟩ := hH.blk b _ hb
          rw [h2] at h3
          injection h3 with h3
          injection h3 with h3 hs
          subst h3
          subst hs
          have hl0 := h5.length
          have hrun := storeVar_run hi h4 hv hvlen (by simp; omega) h1 (o := o)
          have hon : (Eff.wr b 0 o cs).on H.m nb = H.m.set b (.box bty (splice c0 o cs)) := by
            simp only [Eff.on, wrm hb, Blk.wr, spliceIf, if_true]
            rw [if_pos (by omega)]
          rw [hon]
          obtain ⟨f1, f2, f3, f4, f5, f6⟩ := setRow_facts h4 (l0.toArray.toList.take o ++ vs ++ l0.toArray.toList.drop (o + vs.length)).toArray
          have hsize : (l0.toArray.toList.take o ++ vs ++ l0.toArray.toList.drop (o + vs.length)).toArray.size = l0.toArray.size := by simp; omega
          have hE := Ext.put hH (k' := .box bty (splice c0 o cs)) hb rfl h2 nx f1 f2 f3 f4 f5 (fun c ty' fz hc => by
            rw [h4] at hc
            injection hc with hc
            injection hc with hc1 hc2 _
            subst hc1
            subst hc2
            exact ⟨_, _, f6, hsize⟩)
          refine ⟨_, hrun, hE, HR.put hH hb rfl h2 nx hnx f4 f5 hE ?_, rfl⟩
          refine ⟨g, l0.take o ++ vs ++ l0.drop (o + vs.length), ?_, by simpa using f6, ?_⟩
          · rw [splice_length (by omega)]; exact h2
          · exact hE.arl (arl_splice h5 hvl o)
        · cases h
      · cases h
    · rename_i b j o
      split at h
      · rename_i sz pur xs hb
        split at h
        · rename_i r hr
          split at h
          · rename_i hfit
            injection h with h
            subst h
            have hon : (Eff.wr b j o cs).on H.m nb = H.m.set b (.rows sz true (pur && cs.all AV.pure) (xs.set j (splice r o cs))) := by
              simp only [Eff.on, wrm hb, Blk.wr, hr, spliceIf]
              rw [if_pos (by omega)]
            rw [hon]
            simp only [AR] at ha
            obtain ⟨g, sz', h2, rfl⟩ := ha
            obtain ⟨g', ty, c0, h3, h0, h4, h5, h6⟩ := hH.blk b _ hb
            rw [h2] at h3
            injection h3 with h3
            injection h3 with h3 hs
            subst h3
            subst hs
            obtain ⟨hrl, hrow⟩ := h6.get j r hr
            have hj : j < xs.length := (List.getElem?_eq_some_iff.1 hr).1
            have hjs : j * sz' + sz' ≤ c0.size := by
              have : (j + 1) * sz' ≤ xs.length * sz' := Nat.mul_le_mul_right _ hj
              rw [Nat.add_mul, Nat.one_mul] at this
              omega
            have hrun := storeVar_run hi h4 hv hvlen (o := j * sz' + o) (by omega) h1
            obtain ⟨f1, f2, f3, f4, f5, f6⟩ := setRow_facts h4 (c0.toList.take (j * sz' + o) ++ vs ++ c0.toList.drop (j * sz' + o + vs.length)).toArray
            have hsize : (c0.toList.take (j * sz' + o) ++ vs ++ c0.toList.drop (j * sz' + o + vs.length)).toArray.size = c0.size := by simp; omega
            have hE := Ext.put hH (k' := .rows sz' true (pur && cs.all AV.pure) (xs.set j (splice r o cs))) hb rfl h2 nx f1 f2 f3 f4 f5 (fun c ty' fz hc => by
              rw [h4] at hc
              injection hc with hc
              injection hc with hc1 hc2 _
              subst hc1
              subst hc2
              exact ⟨_, _, f6, hsize⟩)
            refine ⟨_, hrun, hE, HR.put hH hb rfl h2 nx hnx f4 f5 hE ?_, rfl⟩
            refine ⟨g, ty, _, h2, h0, f6, by rw [hsize]; simpa using h5, ARr.mk fun k r' hk => ?_⟩
            rw [List.getElem?_set] at hk
            have hcell : ∀ m, (w.setRow g (c0.toList.take (j * sz' + o) ++ vs ++ c0.toList.drop (j * sz' + o + vs.length)).toArray).cell? ⟨g, m, none⟩ =
                if m < j * sz' + o then c0[m]? else if m < j * sz' + o + vs.length then vs[m - (j * sz' + o)]? else c0[m]? := by
              intro m
              unfold World.cell?
              rw [f6]
              simp only [Option.isSome_none, Bool.false_eq_true, if_false, List.getElem?_toArray]
              rw [List.getElem?_append, List.getElem?_append]
              simp only [List.length_append, List.length_take, Array.length_toList, List.getElem?_take, List.getElem?_drop]
              have e1 : min (j * sz' + o) c0.size = j * sz' + o := by omega
              rw [e1]
              by_cases c1 : m < j * sz' + o
              · simp [c1, Nat.lt_add_right]
              · by_cases c2 : m < j * sz' + o + vs.length
                · simp [c1, c2]
                · simp only [c1, c2, if_false]
                  simp
                  congr 1
                  omega
            by_cases hjk : j = k
            · subst hjk
              rw [if_pos rfl, if_pos hj] at hk
              injection hk with hk
              subst hk
              refine ⟨by rw [splice_length (by omega)]; exact hrl, ARc.mk (fun c hc => by
                unfold splice at hc
                rcases List.mem_append.1 hc with hc | hc
                · rcases List.mem_append.1 hc with hc | hc
                  · exact hrow.ones c (List.mem_of_mem_take hc)
                  · exact List.all_eq_true.1 hone c hc
                · exact hrow.ones c (List.mem_of_mem_drop hc)) fun m c hm => ?_⟩
              rw [Nat.zero_add, Nat.zero_add, add_spot (add_spot_none rfl _), add_spot rfl]
              simp only [Nat.zero_add]
              rw [hcell]
              unfold splice at hm
              rw [List.getElem?_append, List.getElem?_append] at hm
              simp only [List.length_append, List.length_take, List.getElem?_take, List.getElem?_drop] at hm
              have e1 : min o r.length = o := by omega
              rw [e1] at hm
              have old : ∀ (m : Nat) (c : AV), r[m]? = some c → ∃ u, c0[j * sz' + m]? = some u ∧ AR (pof (pur && cs.all AV.pure) φ) (wrs fb φ ⟨H.m.set b (.rows sz' true (pur && cs.all AV.pure) (xs.set j (splice r o cs))), nx⟩) (w.setRow g (c0.toList.take (j * sz' + o) ++ vs ++ c0.toList.drop (j * sz' + o + vs.length)).toArray) c u := by
                intro m c hm
                obtain ⟨u, h7, h8⟩ := hrow.get m c hm
                rw [Nat.zero_add, Nat.zero_add, add_spot (add_spot_none rfl _), add_spot rfl] at h7
                simp only [Nat.zero_add] at h7
                refine ⟨u, ?_, AR.keep (hE.keep.pof _) _ _ h8.pof_and⟩
                simpa [World.cell?, h4] using h7
              by_cases c1 : m < o
              · rw [if_pos (by omega), if_pos c1, if_pos c1] at hm
                rw [if_pos (by omega)]
                exact old m c hm
              · by_cases c2 : m < o + vs.length
                · have hvc := hvl.length
                  rw [if_pos (by omega), if_neg c1] at hm
                  rw [if_neg (by omega), if_pos (by omega)]
                  obtain ⟨u, h7, h8⟩ := hvl.get _ c hm
                  have h8' : AR (pof (cs.all AV.pure) φ) (wrs fb φ H) w c u := by
                    cases hp : cs.all AV.pure with
                    | false => exact h8
                    | true => exact h8.down (List.all_eq_true.1 hp c (List.mem_of_getElem? hm))
                  refine ⟨u, ?_, AR.keep (hE.keep.pof _) _ _ h8'.pof_and'⟩
                  rw [← h7]
                  congr 1
                  omega
                · have hvc := hvl.length
                  rw [if_neg (by omega)] at hm
                  rw [if_neg (by omega), if_neg (by omega)]
                  have := old m c (by rw [← hm]; congr 1; omega)
                  exact this
            · rw [if_neg hjk] at hk
              obtain ⟨hrl', hrow'⟩ := h6.get k r' hk
              refine ⟨hrl', ARc.mk hrow'.ones fun m c hm => ?_⟩
              obtain ⟨u, h7, h8⟩ := hrow'.get m c hm
              rw [Nat.zero_add, Nat.zero_add, add_spot (add_spot_none rfl _), add_spot rfl] at h7 ⊢
              simp only [Nat.zero_add] at h7 ⊢
              refine ⟨u, ?_, AR.keep (hE.keep.pof _) _ _ h8.pof_and⟩
              rw [hcell]
              have hm' : m < sz' := by rw [← hrl']; exact (List.getElem?_eq_some_iff.1 hm).1
              have h9 : c0[k * sz' + m]? = some u := by simpa [World.cell?, h4] using h7
              rcases Nat.lt_or_gt_of_ne hjk with hlt | hgt
              · have : (j + 1) * sz' ≤ k * sz' := Nat.mul_le_mul_right _ hlt
                rw [Nat.add_mul, Nat.one_mul] at this
                rw [if_neg (by omega), if_neg (by omega)]
                exact h9
              · have : (k + 1) * sz' ≤ j * sz' := Nat.mul_le_mul_right _ hgt
                rw [Nat.add_mul, Nat.one_mul] at this
                rw [if_pos (by omega)]
                exact h9
          · cases h
        · cases h
      · cases h
  · cases h
end
end Go.Za
