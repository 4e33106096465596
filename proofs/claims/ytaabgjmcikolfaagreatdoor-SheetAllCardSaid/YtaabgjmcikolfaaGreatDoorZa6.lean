/- The abstract machine, part 6: numbers, equality, parts of structs, addresses. No condition. -/
import Derived.Test.YtaabgjmcikolfaaGreatDoorZa5
import Derived.ChangeKeysEq
import Derived.Laws.Slices
set_option linter.unusedVariables false
set_option linter.unusedSimpArgs false
namespace Go.Za
open Go.RowKit

section
variable {P : Program} {fb : Nat → Prop} {φ : Phi} {H : Hp} {wr : Nat → Prop} {w : World}

/-! ### numbers -/
theorem bin_ok {op : BinOp} {x y z : AV} {vx vy : Value} (hx : AR φ wr w x vx) (hy : AR φ wr w y vy) (h : binA op x y = some z) (t : TypeId) (X Y : Operand) :
    ∃ cv, (do eqGuard op t X Y vx vy; binOp op t vx vy : Sem Value).run P w = .ok cv w ∧ AR φ wr w z cv := by
  unfold binA at h
  split at h
  · rename_i k a k' b
    simp only [AR] at hx hy
    subst hx
    subst hy
    have hg : (eqGuard op t X Y (.int k a) (.int k' b)).run P w = .ok () w := by cases op <;> simp [eqGuard]
    split at h
    · unfold shiftI at h
      split at h
      · cases h
      · rename_i hb
        injection h with h
        subst h
        refine ⟨_, ?_, by simp only [AR]; rfl⟩
        simp [hg, binOp, Op.shift, hb]
    · unfold shiftI at h
      split at h
      · cases h
      · rename_i hb
        injection h with h
        subst h
        refine ⟨_, ?_, by simp only [AR]; rfl⟩
        simp [hg, binOp, Op.shift, hb]
    · rename_i hn1 hn2
      split at h
      · rename_i hk
        subst hk
        cases op <;> simp only [binI, reduceCtorEq] at h
        case quo =>
          split at h
          · cases h
          · rename_i hb
            injection h with h; subst h
            exact ⟨_, by simp [hg, binOp, Op.intDiv, hb]; rfl, by simp only [AR]⟩
        case rem =>
          split at h
          · cases h
          · rename_i hb
            injection h with h; subst h
            exact ⟨_, by simp [hg, binOp, Op.intDiv, hb]; rfl, by simp only [AR]⟩
        all_goals
          injection h with h; subst h
          first
            | refine ⟨.int k _, ?_, by simp only [AR]; rfl⟩
            | refine ⟨.bool _, ?_, by simp only [AR]; rfl⟩
          rw [Sem.run_bind, hg]
          simp only [Result.andThen_ok, binOp, ne_eq, not_true_eq_false, if_false, Op.intArith, Op.intBits, Op.intCmp]
          rfl
      · cases h
  · rename_i a b
    simp only [AR] at hx hy
    subst hx
    subst hy
    have hg : (eqGuard op t X Y (str a) (str b)).run P w = .ok () w := by cases op <;> simp [eqGuard, str]
    have ht : ∀ l : List UInt8, (⟨l.toArray⟩ : ByteArray).toList = l := fun l => by simp [ByteArray.toList_eq]
    split at h
    · injection h with h; subst h
      exact ⟨_, by simp [hg, binOp, Op.stringOp, str, ht]; rfl, by simp only [AR]⟩
    · injection h with h; subst h
      exact ⟨_, by simp [hg, binOp, Op.stringOp, str, ht]; rfl, by simp only [AR]⟩
    · split at h
      · rename_i hle
        injection h with h; subst h
        refine ⟨str (a ++ b), ?_, by simp only [AR]⟩
        have hs : ∀ l : List UInt8, (⟨l.toArray⟩ : ByteArray).size = l.length := fun l => by simp [ByteArray.size]
        have he : (⟨a.toArray⟩ : ByteArray) ++ ⟨b.toArray⟩ = ⟨(a ++ b).toArray⟩ := by
          apply ByteArray.ext
          simp
        have hm : ¬ (9223372036854775807 < ((a.length : Int) + (b.length : Int))) := by omega
        rw [Sem.run_bind, hg]
        simp [binOp, Op.stringOp, str, hs, he, hm]
      · cases h
    · cases h
  · cases h

theorem un_ok {op : UnOp} {x z : AV} {vx : Value} (hx : AR φ wr w x vx) (h : unA op x = some z) : ∃ cv, (Op.unary op vx).run P w = .ok cv w ∧ AR φ wr w z cv := by
  unfold unA at h
  split at h <;> first | (injection h with h; subst h) | cases h
  all_goals
    simp only [AR] at hx
    subst hx
    exact ⟨_, rfl, by simp only [AR]⟩

theorem cvi_ok {k k' : IntKind} {n : Int} {vx : Value} {src dst : TypeId} {ds : TypeDesc} (hs : P.underlying src = some ds) (hd : P.underlying dst = some (.int k)) (hx : AR φ wr w (.i k' n) vx) :
    (convert src dst vx).run P w = .ok (.int k (k.wrap n)) w := by
  simp only [AR] at hx
  subst hx
  simp [convert, run_underlying hs, run_underlying hd, Conv.intToInt]

theorem beq_ok {t : TypeId} {a b : Bool} {vx vy : Value} (ht : P.underlying t = some .bool) (hx : AR φ wr w (.b a) vx) (hy : AR φ wr w (.b b) vy) (neg : Bool) (X Y : Operand) :
    (do eqGuard (if neg then .neq else .eql) t X Y vx vy; binOp (if neg then .neq else .eql) t vx vy : Sem Value).run P w = .ok (.bool (if neg then !(a == b) else (a == b))) w := by
  simp only [AR] at hx hy
  subst hx
  subst hy
  have h1 : (Op.equal t (.bool a) (.bool b)).run P w = .ok (a == b) w := run_equalIn_bool' w 9999 t a b ht
  have e1 : binOp .eql t (.bool a) (.bool b) = (do pure (.bool (← Op.equal t (.bool a) (.bool b)))) := rfl
  have e2 : binOp .neq t (.bool a) (.bool b) = (do pure (.bool (!(← Op.equal t (.bool a) (.bool b))))) := rfl
  cases neg
  · simp only [Bool.false_eq_true, if_false, e1]
    simp [eqGuard, h1]
  · simp only [if_true, e2]
    simp [eqGuard, h1]

theorem nil_of {x : AV} {v : Value} {a : Bool} (hx : AR φ wr w x v) (h : isNil x = some a) : ∃ p : Option Addr, v = .pointer p ∧ p.isNone = a := by
  unfold isNil at h
  split at h <;> first | (injection h with h; subst h) | cases h
  · simp only [AR] at hx; exact ⟨none, hx, rfl⟩
  · simp only [AR] at hx; obtain ⟨g, sz, _, rfl⟩ := hx; exact ⟨_, rfl, rfl⟩
  · simp only [AR] at hx; obtain ⟨g, sz, _, rfl⟩ := hx; exact ⟨_, rfl, rfl⟩
  · simp only [AR] at hx; obtain ⟨g, rfl, _⟩ := hx; exact ⟨_, rfl, rfl⟩
theorem peq_ok {t e : TypeId} {a b : Bool} {x y : AV} {vx vy : Value} (ht : P.underlying t = some (.pointer e)) (hx : AR φ wr w x vx) (hy : AR φ wr w y vy) (ha : isNil x = some a) (hb : isNil y = some b) (hab : (a || b) = true) (neg : Bool) (X Y : Operand) :
    (do eqGuard (if neg then .neq else .eql) t X Y vx vy; binOp (if neg then .neq else .eql) t vx vy : Sem Value).run P w = .ok (.bool (if neg then !(a && b) else (a && b))) w := by
  obtain ⟨p, rfl, rfl⟩ := nil_of hx ha
  obtain ⟨q, rfl, rfl⟩ := nil_of hy hb
  have h1 : (Op.equal t (.pointer p) (.pointer q)).run P w = .ok (p.isNone && q.isNone) w := by
    have e : ∀ n : Nat, (Op.equalIn (n + 1) t (.pointer p) (.pointer q)).run P w = .ok (p.isNone && q.isNone) w := by
      intro n
      cases p <;> cases q <;> first | (simp at hab; done) | simp [Op.equalIn, run_underlying ht]
    exact e 9999
  have e1 : binOp .eql t (.pointer p) (.pointer q) = (do pure (.bool (← Op.equal t (.pointer p) (.pointer q)))) := by cases p <;> cases q <;> rfl
  have e2 : binOp .neq t (.pointer p) (.pointer q) = (do pure (.bool (!(← Op.equal t (.pointer p) (.pointer q))))) := by cases p <;> cases q <;> rfl
  cases neg
  · simp only [Bool.false_eq_true, if_false, e1]
    simp [eqGuard, h1]
  · simp only [if_true, e2]
    simp [eqGuard, h1]

/-! ### structs and arrays held against each other -/
/-- Of which kind the cells of a struct's fields are. -/
def eqKindsF (K : TypeId → Option (List Nat)) : List Field → Nat → Option (List Nat)
  | [], _ => some []
  | f :: fs, off => if f.name = "_" ∨ f.offset ≠ off then none else match K f.type with
    | some ks => match eqKindsF K fs (off + ks.length) with
      | some ls => some (ks ++ ls)
      | none => none
    | none => none
/-- Of which kind the cells of a type are, where its values are held against each other cell by cell. -/
def eqKinds (P : Program) : Nat → TypeId → Option (List Nat)
  | 0, _ => none
  | d + 1, t => match P.underlying t with
    | some (.int _) => some [0]
    | some .bool => some [1]
    | some .string => some [2]
    | some (.struct fs) => if P.stoodInHeld t = true then none else match eqKindsF (eqKinds P d) fs.toList 0 with
      | some ks => match P.info? t with | some i => if i.size = ks.length then some ks else none | none => none
      | none => none
    | some (.array n e) => match eqKinds P d e with
      | some ks => match P.info? e, P.info? t with
        | some ie, some i => if ie.size = ks.length ∧ i.size = n * ks.length then some (List.replicate n ks).flatten else none
        | _, _ => none
      | none => none
    | _ => none
theorem eqCell0 {a b : AV} {r : Bool} (h : eqCell 0 a b = some r) : ∃ k x y, a = .i k x ∧ b = .i k y ∧ r = (x == y) := by
  cases a <;> cases b <;> simp [eqCell] at h
  obtain ⟨rfl, rfl⟩ := h
  exact ⟨_, _, _, rfl, rfl, rfl⟩
theorem eqCell1 {a b : AV} {r : Bool} (h : eqCell 1 a b = some r) : ∃ x y, a = .b x ∧ b = .b y ∧ r = (x == y) := by
  cases a <;> cases b <;> simp [eqCell] at h
  exact ⟨_, _, rfl, rfl, h.symm⟩
theorem eqCell2 {a b : AV} {r : Bool} (h : eqCell 2 a b = some r) : ∃ x y, a = .s x ∧ b = .s y ∧ r = (x == y) := by
  cases a <;> cases b <;> simp [eqCell] at h
  exact ⟨_, _, rfl, rfl, h.symm⟩
theorem eqCells_len : ∀ {ks : List Nat} {as bs : List AV} {r : Bool}, eqCells ks as bs = some r → True := fun _ => trivial
theorem eqCells_append : ∀ (ks ls : List Nat) (as cs : List AV), as.length = ks.length → cs.length = ks.length → ∀ (bs ds : List AV), eqCells (ks ++ ls) (as ++ bs) (cs ++ ds) = match eqCells ks as cs with | some true => eqCells ls bs ds | some false => some false | none => none
  | [], ls, as, cs, h1, h2, bs, ds => by
    have e1 : as = [] := List.eq_nil_of_length_eq_zero h1
    have e2 : cs = [] := List.eq_nil_of_length_eq_zero h2
    subst e1; subst e2
    simp [eqCells]
  | k :: ks, ls, [], cs, h1, h2, bs, ds => by simp at h1
  | k :: ks, ls, a :: as, [], h1, h2, bs, ds => by simp at h2
  | k :: ks, ls, a :: as, c :: cs, h1, h2, bs, ds => by
    simp only [List.cons_append, eqCells]
    cases eqCell k a c with
    | none => rfl
    | some r =>
      cases r with
      | false => rfl
      | true => exact eqCells_append ks ls as cs (by simpa using h1) (by simpa using h2) bs ds

theorem run_part {t : TypeId} {xs : List Value} {cs : List AV} (hl : ARl φ wr w cs xs) {off : Nat} {d : TypeDesc} (hu : P.underlying t = some d) {i : TypeInfo} (hi : P.info? t = some i)
    (hfit : off + i.size ≤ cs.length) (h1 : isAggD d = true) : (part t xs.toArray off).run P w = .ok (.agg ((xs.drop off).take i.size).toArray) w := by
  have e : xs.toArray.extract off (off + i.size) = ((xs.drop off).take i.size).toArray := by
    apply Array.ext'
    simp [List.take_drop]
  simp [part, run_isAgg' hu, h1, run_sizeOf' hi, e]
theorem run_part1 {t : TypeId} {xs : List Value} {off : Nat} {d : TypeDesc} (hu : P.underlying t = some d) {v : Value} (hv : xs[off]? = some v) (h1 : isAggD d = false) : (part t xs.toArray off).run P w = .ok v w := by
  simp [part, run_isAgg' hu, h1, hv]

section
variable (D : Nat)
/-- What eqKinds says of a type. -/
def EqAt (P : Program) (D : Nat) (φ : Phi) (wr : Nat → Prop) (w : World) (d : Nat) (t : TypeId) (ks : List Nat) : Prop :=
  ∀ (xs ys : List Value) (cs ds : List AV) (off : Nat), ARl φ wr w cs xs → ARl φ wr w ds ys → off + ks.length ≤ cs.length → off + ks.length ≤ ds.length →
    ∀ r, eqCells ks ((cs.drop off).take ks.length) ((ds.drop off).take ks.length) = some r →
    ∃ a b, (part t xs.toArray off).run P w = .ok a w ∧ (part t ys.toArray off).run P w = .ok b w ∧ (Op.equalIn (d + D) t a b).run P w = .ok r w

theorem take_one {cs : List AV} {off : Nat} (h : off + 1 ≤ cs.length) : (cs.drop off).take 1 = [cs[off]] := by
  rw [List.drop_eq_getElem_cons (by omega)]
  rfl
theorem eqAt_one {d : Nat} {t : TypeId} {k : Nat} {td : TypeDesc} (hu : P.underlying t = some td) (hag : isAggD td = false)
    (hk : ∀ a b r va vb, eqCell k a b = some r → AR φ wr w a va → AR φ wr w b vb → (Op.equalIn (d + 1 + D) t va vb).run P w = .ok r w) : EqAt P D φ wr w (d + 1) t [k] := by
  intro xs ys cs ds off hx hy h1 h2 r hr
  simp only [List.length_cons, List.length_nil, Nat.zero_add] at h1 h2 hr
  rw [take_one h1, take_one h2] at hr
  obtain ⟨va, hva, ha⟩ := hx.get off _ (List.getElem?_eq_getElem (by omega))
  obtain ⟨vb, hvb, hb⟩ := hy.get off _ (List.getElem?_eq_getElem (by omega))
  refine ⟨va, vb, run_part1 hu hva hag, run_part1 hu hvb hag, ?_⟩
  simp only [eqCells] at hr
  split at hr
  · rename_i he
    injection hr with hr
    subst hr
    exact hk _ _ _ _ _ he ha hb
  · rename_i he
    injection hr with hr
    subst hr
    exact hk _ _ _ _ _ he ha hb
  · cases hr

theorem eqKindsF_ok (d : Nat) (hd : ∀ (t : TypeId) (ks : List Nat), eqKinds P d t = some ks → EqAt P D φ wr w d t ks) : ∀ (fs : List Field) (o : Nat) (ks : List Nat), eqKindsF (eqKinds P d) fs o = some ks → ∀ (xs ys : List Value) (cs ds : List AV), ARl φ wr w cs xs → ARl φ wr w ds ys → o + ks.length ≤ cs.length → o + ks.length ≤ ds.length →
    ∀ r, eqCells ks ((cs.drop o).take ks.length) ((ds.drop o).take ks.length) = some r → (Op.eqFields (d + D) xs.toArray ys.toArray fs).run P w = .ok r w
  | [], o, ks, h, xs, ys, cs, ds, hx, hy, h1, h2, r, hr => by
    simp [eqKindsF] at h
    subst h
    simp [eqCells] at hr
    subst hr
    simp [Op.eqFields]
  | f :: fs, o, ks, h, xs, ys, cs, ds, hx, hy, h1, h2, r, hr => by
    unfold eqKindsF at h
    split at h
    · cases h
    rename_i hc
    split at h
    · rename_i ls hk
      split at h
      · rename_i ms hf
        injection h with h; subst h
        have hn : f.name ≠ "_" := fun e => hc (.inl e)
        have ho : f.offset = o := Decidable.byContradiction fun e => hc (.inr e)
        have sp : ∀ l : List AV, (l.drop o).take (ls ++ ms).length = (l.drop o).take ls.length ++ (l.drop (o + ls.length)).take ms.length := by
          intro l
          rw [List.length_append, List.take_add, List.drop_drop]
        simp only [List.length_append] at h1 h2
        rw [sp cs, sp ds, eqCells_append ls ms _ _ (by simp; omega) (by simp; omega)] at hr
        simp only [Op.eqFields, hn, ne_eq, not_false_eq_true, if_true, Sem.run_bind]
        rw [ho]
        have ih := hd f.type ls hk xs ys cs ds o hx hy (by omega) (by omega)
        split at hr
        · rename_i he
          obtain ⟨va, vb, p1, p2, p3⟩ := ih true he
          rw [p1]
          simp only [Result.andThen_ok]
          rw [p2]
          simp only [Result.andThen_ok]
          rw [p3]
          simp only [Result.andThen_ok, Bool.not_true, Bool.false_eq_true, if_false]
          exact eqKindsF_ok d hd fs (o + ls.length) ms hf xs ys cs ds hx hy (by omega) (by omega) r hr
        · rename_i he
          injection hr with hr
          subst hr
          obtain ⟨va, vb, p1, p2, p3⟩ := ih false he
          rw [p1]
          simp only [Result.andThen_ok]
          rw [p2]
          simp only [Result.andThen_ok]
          rw [p3]
          simp
        · cases hr
      · cases h
    · cases h
theorem eqKinds_ok : ∀ (d : Nat) (t : TypeId) (ks : List Nat), eqKinds P d t = some ks → EqAt P D φ wr w d t ks
  | 0, t, ks, h => by simp [eqKinds] at h
  | d + 1, t, ks, h => by
    unfold eqKinds at h
    split at h
    · rename_i k0 hu
      injection h with h; subst h
      refine eqAt_one D hu rfl fun a b r va vb he ha hb => ?_
      obtain ⟨k, a', b', rfl, rfl, rfl⟩ := eqCell0 he
      simp only [AR] at ha hb
      subst ha; subst hb
      rw [show d + 1 + D = (d + D) + 1 by omega]
      exact run_equalIn_int w (d + D) t k k0 a' b' hu
    · rename_i hu
      injection h with h; subst h
      refine eqAt_one D hu rfl fun a b r va vb he ha hb => ?_
      obtain ⟨a', b', rfl, rfl, rfl⟩ := eqCell1 he
      simp only [AR] at ha hb
      subst ha; subst hb
      rw [show d + 1 + D = (d + D) + 1 by omega]
      exact run_equalIn_bool' w (d + D) t _ _ hu
    · rename_i hu
      injection h with h; subst h
      refine eqAt_one D hu rfl fun a b r va vb he ha hb => ?_
      obtain ⟨a', b', rfl, rfl, rfl⟩ := eqCell2 he
      simp only [AR] at ha hb
      subst ha; subst hb
      rw [show d + 1 + D = (d + D) + 1 by omega]
      simp only [str]
      rw [run_equalIn_string w (d + D) t _ _ hu]
      simp [ByteArray.toList_eq]
    · rename_i fs hu
      split at h
      · cases h
      rename_i hst
      split at h
      · rename_i ls hf
        split at h
        · rename_i i hi
          split at h
          · rename_i hsz
            injection h with h; subst h
            intro xs ys cs ds off hx hy h1 h2 r hr
            refine ⟨_, _, run_part hx hu hi (by omega) rfl, run_part hy hu hi (by omega) rfl, ?_⟩
            rw [show d + 1 + D = (d + D) + 1 by omega]
            have hfo : P.fieldsOf t = fs := by simp [Program.fieldsOf, hu]
            rw [run_equalIn_struct w (d + D) t _ _ (by rw [hfo]; exact hu) (by simpa using hst), hfo]
            rw [hsz]
            exact eqKindsF_ok D d (fun t ks => eqKinds_ok d t ks) fs.toList 0 ls hf _ _ _ _ ((hx.drop off).take _) ((hy.drop off).take _) (by simp; omega) (by simp; omega) r (by
              rw [List.drop_zero, List.drop_zero]
              simpa [List.take_take] using hr)
          · cases h
        · cases h
      · cases h
    · rename_i n e hu
      split at h
      · rename_i ls hk
        split at h
        · rename_i ie i hie hi
          split at h
          · rename_i hsz
            obtain ⟨hs1, hs2⟩ := hsz
            injection h with h; subst h
            have hlen : (List.replicate n ls).flatten.length = n * ls.length := by simp
            have ih := eqKinds_ok d e ls hk
            intro xs ys cs ds off hx hy h1 h2 r hr
            rw [hlen] at h1 h2 hr
            refine ⟨_, _, run_part hx hu hi (by omega) rfl, run_part hy hu hi (by omega) rfl, ?_⟩
            rw [show d + 1 + D = (d + D) + 1 by omega]
            rw [run_equalIn_array w (d + D) _ _ hu hie]
            have hce : P.cellsOf e = ls.length := by simp [Program.cellsOf, hie, hs1]
            rw [hce, hs2]
            have key : ∀ (m j : Nat) (r : Bool), j + m = n → eqCells (List.replicate m ls).flatten (((((cs.drop off).take (n * ls.length)).drop (j * ls.length)))) (((((ds.drop off).take (n * ls.length)).drop (j * ls.length)))) = some r →
                (Op.eqItems (d + D) e ls.length ((xs.drop off).take (n * ls.length)).toArray ((ys.drop off).take (n * ls.length)).toArray (List.range' j m)).run P w = .ok r w := by
              intro m
              induction m with
              | zero =>
                intro j r hj he
                have e1 : ((cs.drop off).take (n * ls.length)).drop (j * ls.length) = [] := by
                  apply List.drop_eq_nil_of_le; simp; have : j = n := by omega
                  subst this; exact Nat.min_le_left _ _
                have e2 : ((ds.drop off).take (n * ls.length)).drop (j * ls.length) = [] := by
                  apply List.drop_eq_nil_of_le; simp; have : j = n := by omega
                  subst this; exact Nat.min_le_left _ _
                rw [e1, e2] at he
                simp [eqCells] at he
                subst he
                simp [Op.eqItems, List.range']
              | succ m ihm =>
                intro j r hj he
                have hfit : j * ls.length + ls.length ≤ n * ls.length := by
                  have : (j + 1) * ls.length ≤ n * ls.length := Nat.mul_le_mul_right _ (by omega)
                  rwa [Nat.add_mul, Nat.one_mul] at this
                rw [List.replicate_succ, List.flatten_cons] at he
                have sp : ∀ l : List AV, l.drop (j * ls.length) = (l.drop (j * ls.length)).take ls.length ++ l.drop ((j + 1) * ls.length) := by
                  intro l
                  have := (List.take_append_drop ls.length (l.drop (j * ls.length))).symm
                  rw [List.drop_drop] at this
                  rwa [show j * ls.length + ls.length = (j + 1) * ls.length by rw [Nat.add_mul, Nat.one_mul]] at this
                rw [sp ((cs.drop off).take (n * ls.length)), sp ((ds.drop off).take (n * ls.length)), eqCells_append ls _ _ _ (by simp; omega) (by simp; omega)] at he
                have lc : ((cs.drop off).take (n * ls.length)).length = n * ls.length := by simp; omega
                have ld : ((ds.drop off).take (n * ls.length)).length = n * ls.length := by simp; omega
                have hrg : List.range' j (m + 1) = j :: List.range' (j + 1) m := rfl
                rw [hrg]
                simp only [Op.eqItems, Sem.run_bind]
                split at he
                · rename_i h1'
                  obtain ⟨va, vb, p1, p2, p3⟩ := ih _ _ _ _ (j * ls.length) ((hx.drop off).take (n * ls.length)) ((hy.drop off).take (n * ls.length)) (by omega) (by omega) true h1'
                  rw [p1]
                  simp only [Result.andThen_ok]
                  rw [p2]
                  simp only [Result.andThen_ok]
                  rw [p3]
                  simp only [Result.andThen_ok, Bool.not_true, Bool.false_eq_true, if_false]
                  exact ihm (j + 1) r (by omega) he
                · rename_i h1'
                  injection he with he
                  subst he
                  obtain ⟨va, vb, p1, p2, p3⟩ := ih _ _ _ _ (j * ls.length) ((hx.drop off).take (n * ls.length)) ((hy.drop off).take (n * ls.length)) (by omega) (by omega) false h1'
                  rw [p1]
                  simp only [Result.andThen_ok]
                  rw [p2]
                  simp only [Result.andThen_ok]
                  rw [p3]
                  simp
                · cases he
            have := key n 0 r (by omega) (by simpa using hr)
            rwa [← List.range_eq_range'] at this
          · cases h
        · cases h
      · cases h
    · cases h
end

end
end Go.Za
