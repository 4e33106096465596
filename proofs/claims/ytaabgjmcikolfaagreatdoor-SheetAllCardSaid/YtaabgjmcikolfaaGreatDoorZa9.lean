/- The abstract machine, part 9: from the model's operations to the abstract ones, and that each does what it says. No condition. -/
import Derived.Test.YtaabgjmcikolfaaGreatDoorZa8
set_option linter.unusedVariables false
set_option linter.unusedSimpArgs false
namespace Go.Za
open Go.RowKit

def cOpd : Operand → Option Opd
  | .tmp t => some (.t (path t))
  | .const (.agg cs) => (constL cs.toList).map fun l => .c (.ag l)
  | .const v => (constA v).map .c
  | .func f => some (.c (.fn f []))
  | .global _ => none
def cOpds : List Operand → Option (List Opd)
  | [] => some []
  | x :: xs => match cOpd x, cOpds xs with
    | some y, some ys => some (y :: ys)
    | _, _ => none
def cOpdo : Option Operand → Option (Option Opd)
  | none => some none
  | some x => (cOpd x).map some
def cParts (place : Nat → Option (Nat × Nat)) : List (Nat × Operand) → Option (List (Nat × Nat × Opd))
  | [] => some []
  | (i, x) :: ps => match place i, cOpd x, cParts place ps with
    | some (o, n), some y, some l => some ((o, n, y) :: l)
    | _, _, _ => none
def cAgg (P : Program) (t : TypeId) : Option (Option Nat) :=
  match P.underlying t with
  | some d => if isAggD d then (P.info? t).map fun i => some i.size else some none
  | none => none
def cZero (P : Program) (t : TypeId) : Option (List AV) :=
  match P.info? t with
  | some i => match i.zero with
    | some z => constL z.cells.toList
    | none => none
  | none => none
def isEq : BinOp → Bool
  | .eql | .neq => true
  | _ => false

/-- own: literals of slices may be written later. -/
def cOp (P : Program) (own : Bool) (op : Op) : Option AOp :=
  match op with
  | .move x | .assign x => (cOpd x).map .mv
  | .pick c a b => match cOpd c, cOpd a, cOpd b with
    | some c, some a, some b => some (.pick c a b)
    | _, _, _ => none
  | .alloc e => (cZero P e).map (.al e)
  | .box t x => (cOpd x).map (.box t)
  | .build t parts => match P.underlying t, cZero P t with
    | some (.struct fs), some zs => match fieldPlaces P fs.toList with
      | some pl => match cParts (pl[·]?) parts.toList with
        | some ps => some (.bld zs ps)
        | none => none
      | none => none
    | some (.array _ e), some zs => match P.info? e with
      | some ie => match cParts (fun i => some (i * ie.size, ie.size)) parts.toList with
        | some ps => some (.bld zs ps)
        | none => none
      | none => none
    | _, _ => none
  | .buildSlice t len parts => match P.underlying t with
    | some (.slice e) => match P.info? e with
      | some ie => match ie.zero with
        | some z =>
          if len = 0 then (if parts.size = 0 then some .lit0 else none)
          else if len * ie.size ≤ 16777216 ∧ 0 < len * ie.size then
            match constL (zerosL z.cells.toList (len * ie.size)), cParts (fun i => some (i * ie.size, ie.size)) parts.toList with
            | some zs, some ps => some (.lit ie.size len own zs ps)
            | _, _ => none
          else none
        | none => none
      | none => none
    | _ => none
  | .load t a => match cAgg P t, cOpd a with
    | some n, some a => some (.ld n a)
    | _, _ => none
  | .store t a x => match P.info? t, cOpd a, cOpd x with
    | some i, some a, some x => some (.st i.size a x)
    | _, _, _ => none
  | .nilCheck x => (cOpd x).map .chk
  | .binOp op t x y _ => match cOpd x, cOpd y with
    | some x, some y =>
      if isEq op then
        match P.underlying t with
        | some (.int _) | some .string => some (.bin op x y)
        | some .bool => some (.beq (op == .neq) x y)
        | some (.pointer _) => some (.peq (op == .neq) x y)
        | some (.struct _) | some (.array _ _) =>
          if P.eqGuardType P.depth t then none else match eqKinds P 8 t with
            | some ks => some (.eqa (op == .neq) ks x y)
            | none => none
        | _ => none
      else some (.bin op x y)
    | _, _ => none
  | .unOp op _ x => (cOpd x).map (.un op)
  | .convert src dst x => match P.underlying src, P.underlying dst, cOpd x with
    | some (.int _), some (.int k), some x => some (.cvi k x)
    | _, _, _ => none
  | .fieldAddr s x f => match P.underlying s, cOpd x with
    | some (.struct fs), some x => match fs[f]? with
      | some f => match P.info? f.type with
        | some i => if i.size = 0 then none else some (.fa f.offset x)
        | none => none
      | none => none
    | _, _ => none
  | .field s x f => match P.underlying s, cOpd x with
    | some (.struct fs), some x => match fs[f]? with
      | some f => match cAgg P f.type with
        | some n => some (.fld n f.offset x)
        | none => none
      | none => none
    | _, _ => none
  | .indexAddr t x i => match P.underlying t, cOpd x, cOpd i with
    | some (.array len e), some x, some i => match P.info? e with
      | some ie => some (.ixa len ie.size x i)
      | none => none
    | some (.slice e), some x, some i => match P.info? e with
      | some ie => some (.ixs ie.size x i)
      | none => none
    | _, _, _ => none
  | .index t x i => match P.underlying t, cOpd x, cOpd i with
    | some (.array len e), some x, some i => match P.info? e, cAgg P e with
      | some ie, some n => some (.ixv len ie.size n x i)
      | _, _ => none
    | some .string, some x, some i => some (.ixb x i)
    | _, _, _ => none
  | .extract x n => (cOpd x).map (.ext n)
  | .slice t x lo hi none => match P.underlying t, cOpd x, cOpdo lo, cOpdo hi with
    | some .string, some x, some lo, some hi => some (.cuts x lo hi)
    | some (.slice e), some x, some lo, some hi => match P.info? e with
      | some ie => some (.cut ie.size x lo hi)
      | none => none
    | _, _, _, _ => none
  | .makeFunc (.func f) first caps => if first.size = 0 then (cOpds caps.toList).map (.mkf f) else none
  | .makeMap _ none => some .mkm
  | .call { callee := .builtin .append, args, argTypes } => match argTypes.toList, cOpds args.toList with
    | [t, t'], some [x, y] => if t = t' then match P.underlying t with
        | some (.slice e) => match P.info? e with
          | some ie => match ie.zero with
            | some z => if z.cells.size = ie.size ∧ 0 < ie.size ∧ 0 < ie.bytes then some (.app ie.size ie.bytes x y) else none
            | none => none
          | none => none
        | _ => none
      else none
    | _, _ => none
  | .call { callee := .builtin .len, args, argTypes } => match argTypes.toList, cOpds args.toList with
    | [t], some [x] => match P.underlying t with
      | some .string => some (.len 0 x)
      | some (.slice _) => some (.len 1 x)
      | some (.map _ _) => some (.len 2 x)
      | some (.array n _) => some (.alen n)
      | _ => none
    | _, _ => none
  | .call { callee := .builtin .min, args, .. } => match cOpds args.toList with
    | some (x :: ys) => some (.mm false x ys)
    | _ => none
  | .call { callee := .builtin .max, args, .. } => match cOpds args.toList with
    | some (x :: ys) => some (.mm true x ys)
    | _ => none
  | _ => none

section
variable {P : Program} {fb : Nat → Prop} {φ : Phi} {H : Hp} {wr : Nat → Prop} {w : World}

theorem FR.set {fr : Tr AV} {tmps : Array Value} (h : FR φ wr w fr tmps) {d : Nat} (hd : d < tmps.size) {x : AV} {v : Value} (hx : AR φ wr w x v) : FR φ wr w (fr.set (path d) x) (tmps.setIfInBounds d v) := by
  intro t y hy
  rw [Tr.get_set] at hy
  by_cases e : d = t
  · subst e
    rw [if_pos rfl] at hy
    injection hy with hy
    subst hy
    simpa [Array.getD, hd] using hx
  · rw [if_neg (fun h => e (path_inj h))] at hy
    have := h t y hy
    simp only [Array.getD_eq_getD_getElem?, Array.getElem?_setIfInBounds] at this ⊢
    rw [if_neg e]
    exact this

theorem opd_ok {fr : Tr AV} {a : Act} (hF : FR φ wr w fr a.tmps) {x : Operand} {y : Opd} (h : cOpd x = some y) : AR φ wr w (y.ev fr) (a.eval x) := by
  unfold cOpd at h
  split at h
  · rename_i t
    injection h with h; subst h
    simp only [Opd.ev, Act.eval]
    split
    · rename_i v hv
      exact hF t v hv
    · simp only [AR]
  · rename_i cs
    cases hc : constL cs.toList with
    | none => rw [hc] at h; cases h
    | some l =>
      rw [hc] at h
      injection h with h; subst h
      simp only [Opd.ev, Act.eval, AR]
      exact ⟨cs.toList, by simp, (constL_ok hc).1⟩
  · rename_i v _
    cases hc : constA v with
    | none => rw [hc] at h; cases h
    | some l =>
      rw [hc] at h
      injection h with h; subst h
      simp only [Opd.ev, Act.eval]
      exact constA_ok hc
  · injection h with h; subst h
    simp only [Opd.ev, Act.eval, AR]
    exact ⟨[], rfl, by simp only [ARl]⟩
  · cases h
theorem opds_ok {fr : Tr AV} {a : Act} (hF : FR φ wr w fr a.tmps) : ∀ {xs : List Operand} {ys : List Opd}, cOpds xs = some ys → ARl φ wr w (ys.map (Opd.ev fr)) (xs.map a.eval)
  | [], ys, h => by injection h with h; subst h; simp only [List.map_nil, ARl]
  | x :: xs, ys, h => by
    unfold cOpds at h
    split at h
    · rename_i y ys' h1 h2
      injection h with h; subst h
      simp only [List.map_cons, ARl]
      exact ⟨_, _, rfl, opd_ok hF h1, opds_ok hF h2⟩
    · cases h
theorem opdo_ok {fr : Tr AV} {a : Act} (hF : FR φ wr w fr a.tmps) {x : Option Operand} {y : Option Opd} (h : cOpdo x = some y) : ARo φ wr w (y.map (Opd.ev fr)) (x.map a.eval) := by
  cases x with
  | none => injection h with h; subst h; simp only [Option.map_none, ARo]
  | some x =>
    simp only [cOpdo] at h
    cases hc : cOpd x with
    | none => rw [hc] at h; cases h
    | some z =>
      rw [hc] at h
      injection h with h; subst h
      simp only [Option.map_some, ARo]
      exact ⟨_, rfl, opd_ok hF hc⟩
theorem parts_ok {fr : Tr AV} {a : Act} (hF : FR φ wr w fr a.tmps) {place : Nat → Option (Nat × Nat)} : ∀ {ps : List (Nat × Operand)} {l : List (Nat × Nat × Opd)}, cParts place ps = some l → PartsOK place (Opd.ev fr) a.eval (AR φ wr w) ps l
  | [], l, h => by injection h with h; subst h; simp only [PartsOK]
  | (i, x) :: ps, l, h => by
    unfold cParts at h
    split at h
    · rename_i o n y l' h1 h2 h3
      injection h with h; subst h
      simp only [PartsOK]
      exact ⟨o, n, y, l', rfl, h1, opd_ok hF h2, parts_ok hF h3⟩
    · cases h
theorem agg_ok {t : TypeId} {n : Option Nat} (h : cAgg P t = some n) : AggN P t n := by
  unfold cAgg at h
  split at h
  · rename_i d hd
    split at h
    · rename_i ha
      cases hi : P.info? t with
      | none => rw [hi] at h; cases h
      | some i =>
        rw [hi] at h
        injection h with h; subst h
        exact ⟨d, i, hd, ha, hi, rfl⟩
    · rename_i ha
      injection h with h; subst h
      exact ⟨d, hd, by simpa using ha⟩
  · cases h
theorem zero_ok {t : TypeId} {zs : List AV} (h : cZero P t = some zs) : ∃ i z, P.info? t = some i ∧ i.zero = some z ∧ constL z.cells.toList = some zs := by
  unfold cZero at h
  split at h
  · rename_i i hi
    split at h
    · rename_i z hz
      exact ⟨i, z, hi, hz, h⟩
    · cases h
  · cases h

theorem ar_b (x : Bool) : AR φ wr w (.b x) (.bool x) := by simp only [AR]
theorem ar_i (k : IntKind) (n : Int) : AR φ wr w (.i k n) (.int k n) := by simp only [AR]
/-- An operation's outcome. -/
def Did (P : Program) (fb : Nat → Prop) (φ : Phi) (H : Hp) (w : World) (nb nx : B) (s : Sem Next) (v : AV) (e : Eff) : Prop :=
  ∃ nxt cv w' φ', s.run P w = .ok nxt w' ∧ (nxt = .value cv ∨ (nxt = .skip ∧ cv = undef)) ∧ Ext fb φ H w φ' ⟨e.on H.m nb, nx⟩ w' ∧ HR fb φ' ⟨e.on H.m nb, nx⟩ w' ∧ AR φ' (wrs fb φ' ⟨e.on H.m nb, nx⟩) w' v cv ∧
    (∀ p, p ≠ nb → φ' p = φ p) ∧ (e.fresh = false → φ' = φ)

theorem Did.pure (hH : HR fb φ H w) {nb nx : B} (hnx : H.nx.toNat ≤ nx.toNat) {s : Sem Value} {v : AV} (h : ∃ cv, s.run P w = .ok cv w ∧ AR φ (wrs fb φ H) w v cv) : Did P fb φ H w nb nx (do Pure.pure (Next.value (← s))) v .no := by
  obtain ⟨cv, h1, h2⟩ := h
  exact ⟨.value cv, cv, w, φ, by simp [h1], .inl rfl, Ext.stay hH nx, HR.stay hH nx hnx, h2, fun _ _ => rfl, fun _ => rfl⟩
theorem pure1_eq {x : Option AV} {v : AV} {e : Eff} (h : pure1 x = some (v, e)) : x = some v ∧ e = .no := by
  cases x with
  | none => cases h
  | some y => injection h with h; injection h with h1 h2; exact ⟨congrArg some h1, h2.symm⟩

theorem eqa_run {t : TypeId} {ks : List Nat} (hks : eqKinds P 8 t = some ks) (hg : P.eqGuardType P.depth t = false) (hagg : ∃ d, P.underlying t = some d ∧ isAggD d = true) {cs ds : List AV} {vs us : List Value} (hx : ARl φ wr w cs vs) (hy : ARl φ wr w ds us)
    (hl1 : cs.length = ks.length) (hl2 : ds.length = ks.length) {r : Bool} (hr : eqCells ks cs ds = some r) (op : BinOp) (hq : isEq op = true) (X Y : Operand) :
    (do eqGuard op t X Y (.agg vs.toArray) (.agg us.toArray); binOp op t (.agg vs.toArray) (.agg us.toArray) : Sem Value).run P w = .ok (.bool (if (op == .neq) = true then !r else r)) w := by
  have hr' : eqCells ks ((cs.drop 0).take ks.length) ((ds.drop 0).take ks.length) = some r := by
    rw [List.drop_zero, List.drop_zero, List.take_of_length_le (by omega), List.take_of_length_le (by omega)]
    exact hr
  obtain ⟨va, vb, p1, p2, p3⟩ := eqKinds_ok 9992 8 t ks hks vs us cs ds 0 hx hy (by omega) (by omega) r hr'
  have hv := hx.length
  have hu := hy.length
  -- the whole is its own part
  have whole : ∀ (xs : List Value) (va : Value), xs.length = ks.length → (part t xs.toArray 0).run P w = .ok va w → (∃ d, P.underlying t = some d ∧ isAggD d = true) → va = .agg xs.toArray := by
    intro xs va hxl hp hd
    obtain ⟨d, hd1, hd2⟩ := hd
    unfold part at hp
    rw [Sem.run_bind, run_isAgg' hd1, hd2] at hp
    simp only [Result.andThen_ok, if_true, Sem.run_bind] at hp
    cases hi : P.info? t with
    | none => simp [sizeOf, typeInfo, hi] at hp
    | some i =>
      rw [run_sizeOf' hi] at hp
      simp only [Result.andThen_ok, Sem.run_pure, Nat.zero_add] at hp
      injection hp with hp
      rw [← hp]
      have hsz : ks.length ≤ i.size := by
        unfold eqKinds at hks
        rw [hd1] at hks
        cases d <;> simp [isAggD] at hd2
        · simp only at hks
          split at hks
          · rename_i ls _
            split at hks
            · rename_i ie i' _ hi'
              rw [hi] at hi'
              injection hi' with hi'
              subst hi'
              split at hks
              · rename_i hc
                injection hks with hks; subst hks
                simp; omega
              · cases hks
            · cases hks
          · cases hks
        · simp only at hks
          split at hks
          · cases hks
          split at hks
          · split at hks
            · rename_i i' hi'
              rw [hi] at hi'
              injection hi' with hi'
              subst hi'
              split at hks
              · injection hks with hks; subst hks; omega
              · cases hks
            · cases hks
          · cases hks
      congr 1
      apply Array.ext'
      simp [List.take_of_length_le (show xs.length ≤ i.size by omega)]
  have ea := whole vs va (by omega) p1 hagg
  have eb := whole us vb (by omega) p2 hagg
  subst ea
  subst eb
  have hgr : (eqGuard op t X Y (.agg vs.toArray) (.agg us.toArray)).run P w = .ok () w := run_eqGuard_agg w op t X Y _ _ hg
  cases op <;> simp [isEq] at hq
  · rw [Sem.run_bind, hgr]
    simp only [Result.andThen_ok]
    rw [run_eql_struct, p3]
    rfl
  · rw [Sem.run_bind, hgr]
    simp only [Result.andThen_ok]
    rw [run_neq_struct, p3]
    rfl
theorem arl_pof {cs : List AV} {vs : List Value} (h : ARl φ wr w cs vs) : ARl (pof (cs.all AV.pure) φ) wr w cs vs := by
  cases hp : cs.all AV.pure with
  | false => exact h
  | true => exact h.down (List.all_eq_true.1 hp)
theorem aop_ok {own : Bool} {o : Oper} {ao : AOp} (hc : cOp P own o.op = some ao) {a : Act} {fr : Tr AV} (hF : FR φ (wrs fb φ H) w fr a.tmps) (hH : HR fb φ H w) {nb nx : B} {v : AV} {e : Eff}
    (h : aop fr H.m nb ao = some (v, e)) (hb : φ nb = none) (hd : ∀ k0, H.m.get nb = some k0 → k0.wrt = false) (hlt : e.fresh = true → nb.toNat < nx.toNat) (hnx : H.nx.toNat ≤ nx.toNat) :
    Did P fb φ H w nb nx (execOp a.eval o) v e := by
  cases hop : o.op with
  | move x =>
    rw [hop] at hc
    cases hx : cOpd x with
    | none => simp [cOp, hx] at hc
    | some y =>
      simp [cOp, hx] at hc
      subst hc
      injection h with h
      injection h with h1 h2
      subst h1; subst h2
      refine ⟨.value (a.eval x), a.eval x, w, φ, by simp [execOp, hop], .inl rfl, Ext.stay hH nx, HR.stay hH nx hnx, opd_ok hF hx, fun _ _ => rfl, fun _ => rfl⟩
  | assign x =>
    rw [hop] at hc
    cases hx : cOpd x with
    | none => simp [cOp, hx] at hc
    | some y =>
      simp [cOp, hx] at hc
      subst hc
      injection h with h
      injection h with h1 h2
      subst h1; subst h2
      refine ⟨.value (a.eval x), a.eval x, w, φ, by simp [execOp, hop], .inl rfl, Ext.stay hH nx, HR.stay hH nx hnx, opd_ok hF hx, fun _ _ => rfl, fun _ => rfl⟩
  | pick c x y =>
    rw [hop] at hc
    simp only [cOp] at hc
    split at hc
    · rename_i c' x' y' h1 h2 h3
      injection hc with hc; subst hc
      simp only [aop] at h
      split at h
      · rename_i t ht
        injection h with h
        injection h with h4 h5
        subst h4; subst h5
        have hcv := opd_ok hF h1
        rw [ht] at hcv
        simp only [AR] at hcv
        refine ⟨.value (if t then a.eval x else a.eval y), _, w, φ, by simp [execOp, hop, asBool, hcv], .inl rfl, Ext.stay hH nx, HR.stay hH nx hnx, ?_, fun _ _ => rfl, fun _ => rfl⟩
        cases t
        · exact opd_ok hF h3
        · exact opd_ok hF h2
      · cases h
    · cases hc
  | alloc t =>
    rw [hop] at hc
    simp only [cOp] at hc
    cases hz : cZero P t with
    | none => simp [hz] at hc
    | some zs =>
      simp [hz] at hc
      subst hc
      obtain ⟨i, z, h1, h2, h3⟩ := zero_ok hz
      injection h with h
      injection h with h4 h5
      subst h4; subst h5
      obtain ⟨cv, w', φ', q1, q2, q3, q4, q5⟩ := alloc_ok hH h1 h2 h3 hb hd (hlt rfl) hnx
      exact ⟨.value cv, cv, w', φ', by simp [execOp, hop, q1], .inl rfl, q2, q3, q4, q5, fun hf => by cases hf⟩
  | box t x =>
    rw [hop] at hc
    cases hx : cOpd x with
    | none => simp [cOp, hx] at hc
    | some y =>
      simp [cOp, hx] at hc
      subst hc
      simp only [aop] at h
      split at h
      · rename_i cs hcs
        split at h
        · rename_i h1
          injection h with h
          injection h with h4 h5
          subst h4; subst h5
          obtain ⟨cv, w', φ', q1, q2, q3, q4, q5⟩ := box_ok (P := P) (t := t) hH (opd_ok hF hx) hcs h1 hb hd (hlt rfl) hnx
          exact ⟨.value cv, cv, w', φ', by simp [execOp, hop, q1], .inl rfl, q2, q3, q4, q5, fun hf => by cases hf⟩
        · cases h
      · cases h
  | build t parts =>
    rw [hop] at hc
    simp only [cOp] at hc
    split at hc
    · rename_i fs zs hu hz
      split at hc
      · rename_i pl hpl
        split at hc
        · rename_i ps hps
          injection hc with hc; subst hc
          simp only [aop] at h
          split at h
          · rename_i cs hcs
            injection h with h
            injection h with h4 h5
            subst h4; subst h5
            obtain ⟨i, z, h1, h2, h3⟩ := zero_ok hz
            have hr := build_struct_ok (w := w) hu h1 h2 h3 hpl (parts_ok hF hps) hcs
            have := Did.pure hH hnx (nb := nb) hr
            simpa [execOp, hop] using this
          · cases h
        · cases hc
      · cases hc
    · rename_i n e' zs hu hz
      split at hc
      · rename_i ie hie
        split at hc
        · rename_i ps hps
          injection hc with hc; subst hc
          simp only [aop] at h
          split at h
          · rename_i cs hcs
            injection h with h
            injection h with h4 h5
            subst h4; subst h5
            obtain ⟨i, z, h1, h2, h3⟩ := zero_ok hz
            have hr := build_array_ok (w := w) hu h1 hie h2 h3 (parts_ok hF hps) hcs
            have := Did.pure hH hnx (nb := nb) hr
            simpa [execOp, hop] using this
          · cases h
        · cases hc
      · cases hc
    · cases hc
  | buildSlice t len parts =>
    rw [hop] at hc
    simp only [cOp] at hc
    split at hc
    · rename_i e' hu
      split at hc
      · rename_i ie hie
        split at hc
        · rename_i z hz
          split at hc
          · rename_i h0
            split at hc
            · rename_i hp0
              injection hc with hc; subst hc
              injection h with h
              injection h with h4 h5
              subst h4; subst h5
              have hpe : parts = #[] := Array.eq_empty_of_size_eq_zero hp0
              subst h0
              subst hpe
              have hrun : (Instr.buildSlice t 0 ((#[] : Array (Nat × Operand)).map fun (i, x) => (i, a.eval x))).run P w = .ok (.slice (some ⟨w.heap.size, 0, none⟩) 0 0) (w.alloc (.cells #[] e')) := by
                simp [Instr.buildSlice, run_underlying hu, run_sizeOf' hie, Instr.fill, newRow, Array.range_zero']
              refine ⟨.value (.slice (some ⟨w.heap.size, 0, none⟩) 0 0), .slice (some ⟨w.heap.size, 0, none⟩) 0 0, w.alloc (.cells #[] e'), φ, ?_, .inl rfl, Ext.free hH _ nx, HR.free hH _ nx hnx, ?_, fun _ _ => rfl, fun _ => rfl⟩
              · simp only [execOp, hop]
                simp only [Sem.run_bind, hrun, Result.andThen_ok, Sem.run_pure]
              · simp only [AR]
                exact ⟨some ⟨w.heap.size, 0, none⟩, rfl⟩
            · cases hc
          · split at hc
            · rename_i hcond
              split at hc
              · rename_i zs ps hzs hps
                injection hc with hc; subst hc
                simp only [aop] at h
                split at h
                · rename_i cs hcs
                  obtain ⟨us, q1, q2, q3, q4⟩ := lit_ok hH hu hie hz hcond.1 hcond.2 hzs (parts_ok hF hps) hcs
                  have hs : 0 < ie.size := Nat.pos_of_mul_pos_left hcond.2
                  have hrun : (execOp a.eval o).run P w = .ok (.value (.slice (some ⟨w.heap.size, 0, none⟩) len len)) (w.alloc (.cells us.toArray e')) := by
                    simp only [execOp, hop, Sem.run_bind, q1, Result.andThen_ok, Sem.run_pure]
                  split at h
                  · injection h with h
                    injection h with h4 h5
                    subst h4; subst h5
                    have hk : NB φ (wrs fb φ H) w (.cells us.toArray e') ie.size (.rows ie.size true (cs.all AV.pure) (chunk ie.size len cs)) :=
                      ⟨e', us, rfl, hs, rfl, by rw [chunk_length, q2.length, q4]; exact Nat.le_refl _, rows_facts (arl_pof q2) q3 q4⟩
                    obtain ⟨k1, k2, k3⟩ := newCells_ok hH hk hb hd (hlt rfl) hnx
                    refine ⟨_, _, _, _, hrun, .inl rfl, k1, k2, ?_, fun p hp => by simp [Phi.set, Ne.symm hp], fun hf => by cases hf⟩
                    simp only [AR]
                    exact ⟨_, _, len, _, e', _, k3, by simp, heap_alloc_new' w _, by simp [q2.length, q4], Nat.le_refl _, hs⟩
                  · split at h
                    · rename_i hpure
                      injection h with h
                      injection h with h4 h5
                      subst h4; subst h5
                      exact ⟨_, _, _, φ, hrun, .inl rfl, Ext.free hH _ nx, HR.free hH _ nx hnx, ls_ok hH hs q2 q3 hpure q4 nx, fun _ _ => rfl, fun _ => rfl⟩
                    · cases h
                · cases h
              · cases hc
            · cases hc
        · cases hc
      · cases hc
    · cases hc
  | load t x =>
    rw [hop] at hc
    simp only [cOp] at hc
    split at hc
    · rename_i n x' h1 h2
      injection hc with hc; subst hc
      obtain ⟨h3, rfl⟩ := pure1_eq h
      have := Did.pure hH hnx (nb := nb) (load_ok hH (agg_ok h1) (opd_ok hF h2) h3)
      simpa [execOp, hop] using this
    · cases hc
  | store t x y =>
    rw [hop] at hc
    simp only [cOp] at hc
    split at hc
    · rename_i i x' y' h1 h2 h3
      injection hc with hc; subst hc
      simp only [aop] at h
      split at h
      · rename_i ef hef
        injection h with h
        injection h with h4 h5
        subst h4; subst h5
        obtain ⟨w', q1, q2, q3, q4⟩ := store_ok hH h1 (opd_ok hF h3) (opd_ok hF h2) hef nb nx hnx
        exact ⟨.skip, undef, w', φ, by simp [execOp, hop, q1], .inr ⟨rfl, rfl⟩, q2, q3, by simp only [AR], fun _ _ => rfl, fun _ => rfl⟩
      · cases h
    · cases hc
  | nilCheck x =>
    rw [hop] at hc
    cases hx : cOpd x with
    | none => simp [cOp, hx] at hc
    | some y =>
      simp [cOp, hx] at hc
      subst hc
      have hv := opd_ok hF hx
      simp only [aop] at h
      have fin : ∀ uv, AR φ (wrs fb φ H) w uv (a.eval x) → (∃ p : Addr, a.eval x = .pointer (some p)) ∨ (∃ f cs, a.eval x = .func (.func f) #[] cs) → v = uv → e = .no → Did P fb φ H w nb nx (execOp a.eval o) v e := by
        intro uv hu hcase hvu heu
        subst hvu; subst heu
        refine ⟨.value (a.eval x), a.eval x, w, φ, ?_, .inl rfl, Ext.stay hH nx, HR.stay hH nx hnx, hu, fun _ _ => rfl, fun _ => rfl⟩
        rcases hcase with ⟨p, hp⟩ | ⟨f, cs, hp⟩
        · simp [execOp, hop, hp]
        · simp [execOp, hop, hp]
      split at h
      · rename_i b o' hq
        injection h with h
        injection h with h4 h5
        rw [hq] at hv
        refine fin _ hv ?_ h4.symm h5.symm
        simp only [AR] at hv
        obtain ⟨g, sz, _, hp⟩ := hv
        exact .inl ⟨_, hp⟩
      · rename_i b i o' hq
        injection h with h
        injection h with h4 h5
        rw [hq] at hv
        refine fin _ hv ?_ h4.symm h5.symm
        simp only [AR] at hv
        obtain ⟨g, sz, _, hp⟩ := hv
        exact .inl ⟨_, hp⟩
      · rename_i cs o' hq
        injection h with h
        injection h with h4 h5
        rw [hq] at hv
        refine fin _ hv ?_ h4.symm h5.symm
        simp only [AR] at hv
        obtain ⟨g, hp, _⟩ := hv
        exact .inl ⟨_, hp⟩
      · rename_i f cs hq
        injection h with h
        injection h with h4 h5
        rw [hq] at hv
        refine fin _ hv ?_ h4.symm h5.symm
        simp only [AR] at hv
        obtain ⟨vs, hp, _⟩ := hv
        exact .inr ⟨_, _, hp⟩
      · cases h
  | binOp op t x y yt =>
    rw [hop] at hc
    simp only [cOp] at hc
    split at hc
    · rename_i x' y' h1 h2
      have hx := opd_ok hF h1
      have hy := opd_ok hF h2
      have plain : ao = .bin op x' y' → Did P fb φ H w nb nx (execOp a.eval o) v e := by
        intro hao
        subst hao
        obtain ⟨h3, rfl⟩ := pure1_eq h
        have := Did.pure hH hnx (nb := nb) (bin_ok (P := P) hx hy h3 t x y)
        simpa only [execOp, hop] using this
      split at hc
      · rename_i hq
        have hneg : (if (op == .neq) = true then BinOp.neq else BinOp.eql) = op := by cases op <;> simp_all [isEq]
        split at hc
        · injection hc with hc; exact plain hc.symm
        · injection hc with hc; exact plain hc.symm
        · rename_i hu
          injection hc with hc; subst hc
          simp only [aop] at h
          split at h
          · rename_i p q hp hq'
            injection h with h
            injection h with h4 h5
            subst h4; subst h5
            rw [hp] at hx
            rw [hq'] at hy
            have hr := beq_ok hu hx hy (op == .neq) x y
            rw [hneg] at hr
            have := Did.pure hH hnx (nb := nb) ⟨_, hr, ar_b _⟩
            simpa only [execOp, hop] using this
          · cases h
        · rename_i e' hu
          injection hc with hc; subst hc
          simp only [aop] at h
          split at h
          · rename_i p q hp hq'
            split at h
            · rename_i hpq
              injection h with h
              injection h with h4 h5
              subst h4; subst h5
              have hr := peq_ok hu hx hy hp hq' hpq (op == .neq) x y
              rw [hneg] at hr
              have := Did.pure hH hnx (nb := nb) ⟨_, hr, ar_b _⟩
              simpa only [execOp, hop] using this
            · cases h
          · cases h
        all_goals first
          | (rename_i hu
             split at hc
             · cases hc
             rename_i hg
             split at hc
             · rename_i ks hks
               injection hc with hc; subst hc
               simp only [aop] at h
               split at h
               · rename_i cs ds hcs hds
                 split at h
                 case isFalse => cases h
                 rename_i hlen
                 split at h
                 · rename_i r hr
                   injection h with h
                   injection h with h4 h5
                   subst h4; subst h5
                   rw [hcs] at hx
                   rw [hds] at hy
                   have hxx := hx
                   have hyy := hy
                   simp only [AR] at hx hy
                   obtain ⟨vs, hvx, hvl⟩ := hx
                   obtain ⟨us, hvy, hul⟩ := hy
                   have hrun := eqa_run (P := P) hks (by simpa using hg) ⟨_, hu, rfl⟩ hvl hul hlen.1 hlen.2 hr op hq x y
                   have := Did.pure hH hnx (nb := nb) ⟨_, hrun, ar_b _⟩
                   simpa only [execOp, hop, hvx, hvy] using this
                 · cases h
               · cases h
             · cases hc)
          | cases hc
      · injection hc with hc; exact plain hc.symm
    · cases hc
  | unOp op t x =>
    rw [hop] at hc
    cases hx : cOpd x with
    | none => simp [cOp, hx] at hc
    | some y =>
      simp [cOp, hx] at hc
      subst hc
      obtain ⟨h3, rfl⟩ := pure1_eq h
      have := Did.pure hH hnx (nb := nb) (un_ok (P := P) (opd_ok hF hx) h3)
      simpa only [execOp, hop] using this
  | convert src dst x =>
    rw [hop] at hc
    simp only [cOp] at hc
    split at hc
    · rename_i k0 k x' hs hd' hx
      injection hc with hc; subst hc
      simp only [aop] at h
      split at h
      · rename_i k' n hn
        injection h with h
        injection h with h4 h5
        subst h4; subst h5
        have hv := opd_ok hF hx
        rw [hn] at hv
        have := Did.pure hH hnx (nb := nb) ⟨_, cvi_ok hs hd' hv, ar_i _ _⟩
        simpa only [execOp, hop] using this
      · cases h
    · cases hc
  | fieldAddr s x f =>
    rw [hop] at hc
    simp only [cOp] at hc
    split at hc
    · rename_i fs x' hu hx
      split at hc
      · rename_i fd hf
        split at hc
        · rename_i i hi
          split at hc
          · cases hc
          rename_i h0
          injection hc with hc; subst hc
          obtain ⟨h3, rfl⟩ := pure1_eq h
          have := Did.pure hH hnx (nb := nb) (fa_ok hu hf hi h0 (opd_ok hF hx) h3)
          simpa only [execOp, hop] using this
        · cases hc
      · cases hc
    · cases hc
  | field s x f =>
    rw [hop] at hc
    simp only [cOp] at hc
    split at hc
    · rename_i fs x' hu hx
      split at hc
      · rename_i fd hf
        split at hc
        · rename_i n hn
          injection hc with hc; subst hc
          simp only [aop] at h
          split at h
          · rename_i cs hcs
            obtain ⟨h3, rfl⟩ := pure1_eq h
            have hv := opd_ok hF hx
            rw [hcs] at hv
            have := Did.pure hH hnx (nb := nb) (fld_ok hu hf (agg_ok hn) hv h3)
            simpa only [execOp, hop] using this
          · cases h
        · cases hc
      · cases hc
    · cases hc
  | indexAddr t x i =>
    rw [hop] at hc
    simp only [cOp] at hc
    split at hc
    · rename_i len e' x' i' hu hx hi
      split at hc
      · rename_i ie hie
        injection hc with hc; subst hc
        obtain ⟨h3, rfl⟩ := pure1_eq h
        have := Did.pure hH hnx (nb := nb) (ixa_ok hu hie (opd_ok hF hx) (opd_ok hF hi) h3)
        simpa only [execOp, hop] using this
      · cases hc
    · rename_i e' x' i' hu hx hi
      split at hc
      · rename_i ie hie
        injection hc with hc; subst hc
        obtain ⟨h3, rfl⟩ := pure1_eq h
        have := Did.pure hH hnx (nb := nb) (ixs_ok hH hu hie (opd_ok hF hx) (opd_ok hF hi) h3)
        simpa only [execOp, hop] using this
      · cases hc
    · cases hc
  | index t x i =>
    rw [hop] at hc
    simp only [cOp] at hc
    split at hc
    · rename_i len e' x' i' hu hx hi
      split at hc
      · rename_i ie n hie hn
        injection hc with hc; subst hc
        obtain ⟨h3, rfl⟩ := pure1_eq h
        have := Did.pure hH hnx (nb := nb) (ixv_ok hu hie (agg_ok hn) (opd_ok hF hx) (opd_ok hF hi) h3)
        simpa only [execOp, hop] using this
      · cases hc
    · rename_i x' i' hu hx hi
      injection hc with hc; subst hc
      obtain ⟨h3, rfl⟩ := pure1_eq h
      have := Did.pure hH hnx (nb := nb) (ixb_ok hu (opd_ok hF hx) (opd_ok hF hi) h3)
      simpa only [execOp, hop] using this
    · cases hc
  | extract x n =>
    rw [hop] at hc
    cases hx : cOpd x with
    | none => simp [cOp, hx] at hc
    | some y =>
      simp [cOp, hx] at hc
      subst hc
      simp only [aop] at h
      split at h
      · rename_i vs hvs
        obtain ⟨h3, rfl⟩ := pure1_eq h
        have hv := opd_ok hF hx
        rw [hvs] at hv
        have := Did.pure hH hnx (nb := nb) (ext_ok (P := P) hv h3)
        simpa only [execOp, hop] using this
      · cases h
  | slice t x lo hi mx =>
    rw [hop] at hc
    cases mx with
    | some m => simp [cOp] at hc
    | none =>
      simp only [cOp] at hc
      split at hc
      · rename_i x' lo' hi' hu hx hlo hhi
        injection hc with hc; subst hc
        obtain ⟨h3, rfl⟩ := pure1_eq h
        have := Did.pure hH hnx (nb := nb) (cuts_ok hu (opd_ok hF hx) (opdo_ok hF hlo) (opdo_ok hF hhi) h3)
        simpa only [execOp, hop, Option.map_none] using this
      · rename_i e' x' lo' hi' hu hx hlo hhi
        split at hc
        · rename_i ie hie
          injection hc with hc; subst hc
          obtain ⟨h3, rfl⟩ := pure1_eq h
          have := Did.pure hH hnx (nb := nb) (cut_ok hH hu hie (opd_ok hF hx) (opdo_ok hF hlo) (opdo_ok hF hhi) h3)
          simpa only [execOp, hop, Option.map_none] using this
        · cases hc
      · cases hc
  | makeFunc f first caps =>
    rw [hop] at hc
    cases f <;> simp only [cOp, reduceCtorEq] at hc
    rename_i f
    split at hc
    · rename_i h0
      cases hx : cOpds caps.toList with
      | none => simp [hx] at hc
      | some ys =>
        simp [hx] at hc
        subst hc
        injection h with h
        injection h with h4 h5
        subst h4; subst h5
        have hfe : first = #[] := Array.eq_empty_of_size_eq_zero h0
        subst hfe
        have hl := opds_ok hF hx
        refine ⟨.value (.func (.func f) #[] (caps.map a.eval)), _, w, φ, by simp [execOp, hop, Instr.makeFunc], .inl rfl, Ext.stay hH nx, HR.stay hH nx hnx, ?_, fun _ _ => rfl, fun _ => rfl⟩
        simp only [AR]
        refine ⟨caps.toList.map a.eval, ?_, hl⟩
        congr 1
        apply Array.ext'
        simp
    · cases hc
  | makeMap t r =>
    rw [hop] at hc
    cases r with
    | some r => simp [cOp] at hc
    | none =>
      simp only [cOp] at hc
      injection hc with hc; subst hc
      injection h with h
      injection h with h4 h5
      subst h4; subst h5
      have hk : NB φ (wrs fb φ H) w (.map #[] 0) 0 (.map [] 0) := ⟨rfl, rfl, rfl⟩
      refine ⟨.value (.map (some w.heap.size)), _, w.alloc (.map #[] 0), φ.set nb (w.heap.size, 0), ?_, .inl rfl, Ext.alloc hH _ nb _ nx 0 hb hd, HR.alloc hH _ nb _ nx 0 hb hd (hlt rfl) hnx hk, ?_, fun p hp => by simp [Phi.set, Ne.symm hp], fun hf => by cases hf⟩
      · simp [execOp, hop, Instr.makeMap]
      · simp only [AR]
        exact ⟨_, 0, by simp [Phi.set], rfl⟩
  | call c =>
    rw [hop] at hc
    obtain ⟨callee, args, argTypes⟩ := c
    cases callee with
    | value f => simp [cOp] at hc
    | invoke r m => simp [cOp] at hc
    | builtin b =>
      cases b <;> simp only [cOp, reduceCtorEq] at hc
      case append =>
        split at hc
        · rename_i t t' x y hts has
          split at hc
          · rename_i htt
            subst htt
            split at hc
            · rename_i e' hu
              split at hc
              · rename_i ie hie
                split at hc
                · rename_i z hz
                  split at hc
                  · rename_i hcond
                    injection hc with hc; subst hc
                    simp only [aop] at h
                    have hl := opds_ok hF has
                    simp only [List.map_cons, List.map_nil, ARl] at hl
                    obtain ⟨vx, l1, e1, hx, vy, l2, e2, hy, e3⟩ := hl
                    subst e3
                    subst e2
                    obtain ⟨cv, w', φ', q1, q2, q3, q4, q5, q6⟩ := app_ok (P := P) (ty := o.type) hH hu hie hz hcond.1 hcond.2.1 hcond.2.2 hx hy h hb hd hlt hnx
                    have eargs : args.map a.eval = #[vx, vy] := by
                      apply Array.ext'
                      simpa using e1
                    have etys : argTypes = #[t, t] := by
                      apply Array.ext'
                      simpa using hts
                    refine ⟨.value cv, cv, w', φ', ?_, .inl rfl, q2, q3, q4, q5, q6⟩
                    simp only [execOp, hop, resolve, eargs, etys, Sem.run_bind, Sem.run_pure, Result.andThen_ok, invoke, builtin, q1]
                  · cases hc
                · cases hc
              · cases hc
            · cases hc
          · cases hc
        · cases hc
      case len =>
        split at hc
        · rename_i t x hts has
          have hl := opds_ok hF has
          simp only [List.map_cons, List.map_nil, ARl] at hl
          obtain ⟨vx, l1, e1, hx, e3⟩ := hl
          subst e3
          have eargs : args.map a.eval = #[vx] := by
            apply Array.ext'
            simpa using e1
          have etys : argTypes = #[t] := by
            apply Array.ext'
            simpa using hts
          have fin : (∃ cv, (Builtin.len_ #[t] o.type #[vx]).run P w = .ok cv w ∧ AR φ (wrs fb φ H) w v cv) → e = .no → Did P fb φ H w nb nx (execOp a.eval o) v e := by
            intro hr he
            subst he
            obtain ⟨cv, q1, q2⟩ := hr
            refine ⟨.value cv, cv, w, φ, ?_, .inl rfl, Ext.stay hH nx, HR.stay hH nx hnx, q2, fun _ _ => rfl, fun _ => rfl⟩
            simp only [execOp, hop, resolve, eargs, etys, Sem.run_bind, Sem.run_pure, Result.andThen_ok, invoke, builtin, q1]
          split at hc
          · rename_i hu
            injection hc with hc; subst hc
            obtain ⟨h3, he⟩ := pure1_eq h
            exact fin (len_ok hH hu hx h3 rfl) he
          · rename_i hu
            injection hc with hc; subst hc
            obtain ⟨h3, he⟩ := pure1_eq h
            exact fin (len_ok hH hu hx h3 rfl) he
          · rename_i hu
            injection hc with hc; subst hc
            obtain ⟨h3, he⟩ := pure1_eq h
            exact fin (len_ok hH hu hx h3 rfl) he
          · rename_i n e' hu
            injection hc with hc; subst hc
            injection h with h
            injection h with h4 h5
            subst h4
            exact fin ⟨.int .i64 n, by simp [Builtin.len_, run_underlying hu, goInt], ar_i _ _⟩ h5.symm
          · cases hc
        · cases hc
      case min =>
        split at hc
        · rename_i x ys has
          injection hc with hc; subst hc
          obtain ⟨h3, rfl⟩ := pure1_eq h
          have hl := opds_ok hF has
          simp only [List.map_cons, ARl] at hl
          obtain ⟨vx, l1, e1, hx, hys⟩ := hl
          obtain ⟨cv, q1, q2⟩ := mm_ok (P := P) hx hys h3
          have eargs : (args.map a.eval).toList = vx :: l1 := by simpa using e1
          have hr : (Builtin.min_ argTypes o.type (args.map a.eval)).run P w = .ok cv w := by
            simp only [Builtin.min_, eargs]
            simpa using q1
          refine ⟨.value cv, cv, w, φ, ?_, .inl rfl, Ext.stay hH nx, HR.stay hH nx hnx, q2, fun _ _ => rfl, fun _ => rfl⟩
          simp only [execOp, hop, resolve, Sem.run_bind, Sem.run_pure, Result.andThen_ok, invoke, builtin, hr]
        · cases hc
      case max =>
        split at hc
        · rename_i x ys has
          injection hc with hc; subst hc
          obtain ⟨h3, rfl⟩ := pure1_eq h
          have hl := opds_ok hF has
          simp only [List.map_cons, ARl] at hl
          obtain ⟨vx, l1, e1, hx, hys⟩ := hl
          obtain ⟨cv, q1, q2⟩ := mm_ok (P := P) hx hys h3
          have eargs : (args.map a.eval).toList = vx :: l1 := by simpa using e1
          have hr : (Builtin.max_ argTypes o.type (args.map a.eval)).run P w = .ok cv w := by
            simp only [Builtin.max_, eargs]
            simpa using q1
          refine ⟨.value cv, cv, w, φ, ?_, .inl rfl, Ext.stay hH nx, HR.stay hH nx hnx, q2, fun _ _ => rfl, fun _ => rfl⟩
          simp only [execOp, hop, resolve, Sem.run_bind, Sem.run_pure, Result.andThen_ok, invoke, builtin, hr]
        · cases hc
  | _ => rw [hop] at hc; simp [cOp] at hc
end
end Go.Za
