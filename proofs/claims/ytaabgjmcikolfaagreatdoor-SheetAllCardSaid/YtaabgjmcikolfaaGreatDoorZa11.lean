/- The abstract machine, part 11: what a statement looks at and what it changes; that two that are apart may change places. No condition. -/
import Derived.Test.YtaabgjmcikolfaaGreatDoorZa10
set_option linter.unusedVariables false
set_option linter.unusedSimpArgs false
namespace Go.Za
open Go.RowKit

/-! ### effects, block by block -/
def Tr.over (m m0 : Tr Blk) : Tr Blk :=
  match m, m0 with
  | m, .e => m
  | .e, m0 => m0
  | .n l v r, .n l0 v0 r0 => .n (l.over l0) (match v0 with | some k => some k | none => v) (r.over r0)
theorem Tr.get_over : ∀ (m m0 : Tr Blk) (p : B), (m.over m0).get p = match m0.get p with | some k => some k | none => m.get p
  | m, .e, p => by cases m <;> simp [Tr.over, Tr.get_e]
  | .e, .n l v r, p => by
    simp only [Tr.over, Tr.get_e]
    cases (Tr.n l v r).get p <;> rfl
  | .n l v r, .n l0 v0 r0, .e => by simp only [Tr.over, Tr.get]
  | .n l v r, .n l0 v0 r0, .l p => by simp only [Tr.over, Tr.get]; exact Tr.get_over l l0 p
  | .n l v r, .n l0 v0 r0, .r p => by simp only [Tr.over, Tr.get]; exact Tr.get_over r r0 p

inductive EffX where
  | eff (nb : B) (e : Eff)
  | sl (bs : List B)
  | over (m0 : Tr Blk)
def EffX.on (m : Tr Blk) : EffX → Tr Blk
  | .eff nb e => e.on m nb
  | .sl bs => sealM m bs
  | .over m0 => m.over m0
/-- What becomes of block p. -/
def EffX.pt (p : B) : EffX → Option Blk → Option Blk
  | .eff nb .no, x => x
  | .eff nb (.new k), x => if nb = p then some k else x
  | .eff nb (.wr b i o cs), x => if b = p then x.map (Blk.wr i o cs) else x
  | .eff nb (.put b k), x => if b = p then some k else x
  | .eff nb (.mov b k), x => if nb = p then some k else if b = p then some .dead else x
  | .sl bs, x => if p ∈ bs then x.map Blk.sealK else x
  | .over m0, x => match m0.get p with | some k => some k | none => x
theorem wrM_get (m : Tr Blk) (b : B) (i o : Nat) (cs : List AV) (p : B) : (wrM m b i o cs).get p = if b = p then (m.get p).map (Blk.wr i o cs) else m.get p := by
  unfold wrM
  split
  · rename_i k hk
    rw [Tr.get_set]
    split
    · rename_i e; subst e; rw [hk]; rfl
    · rfl
  · rename_i hk
    split
    · rename_i e; subst e; rw [hk]; rfl
    · rfl
theorem EffX.on_get (m : Tr Blk) (x : EffX) (p : B) : (x.on m).get p = x.pt p (m.get p) := by
  cases x with
  | eff nb e =>
    cases e <;> simp only [EffX.on, Eff.on, EffX.pt, Tr.get_set, wrM_get]
  | sl bs => simp only [EffX.on, EffX.pt, sealM_get]
  | over m0 => simp only [EffX.on, EffX.pt, Tr.get_over]

/-! ### what is looked at -/
inductive Fp where
  | blk (b : B)
  | at (b : B) (i o n : Nat) (lv : Bool)    -- cells o to o + n of row i; lv: and that it may be written
def fpA (x : AV) (n : Nat) (lv : Bool) : List Fp :=
  match x with
  | .ref b o => [.at b 0 o n lv]
  | .el b i o => [.at b i o n lv]
  | .sl b _ _ => [.at b 0 0 0 lv]
  | _ => []
def fpB (x : AV) : List Fp :=
  match x with
  | .sl b _ _ => [.blk b]
  | .mp b => [.blk b]
  | _ => []
def fpX (x : AV) : List Fp :=
  match x with
  | .ref b _ | .el b _ _ | .sl b _ _ | .mp b => [.blk b]
  | _ => []
def XOp.reads : XOp → Bool
  | .lk .. | .mu .. | .md .. | .mc | .b2s | .cta .. | .cvu | .cvp _ | .aps _ | .ust _ | .rng => true
  | _ => false
def xrds (k : XOp) (xs : List AV) : List Fp := if k.reads then xs.flatMap fpX else []
def AOp.rds (fr : Tr AV) : AOp → List Fp
  | .ld n a => fpA (a.ev fr) (n.getD 1) false
  | .st n a x => fpA (a.ev fr) 0 true
  | .ixs _ x _ => fpA (x.ev fr) 0 false
  | .cut _ x _ _ => fpA (x.ev fr) 0 false
  | .app _ _ x y => fpB (x.ev fr) ++ fpB (y.ev fr)
  | .len k x => if k = 2 then fpB (x.ev fr) else []
  | .ex k xs => xrds k (xs.map (Opd.ev fr))
  | _ => []

/-- Of one shape; the cells o to o + n of row i are the same. -/
def simB (i o n : Nat) (lv : Bool) : Option Blk → Option Blk → Prop
  | some (.box _ cs), some (.box _ ds) => cs.length = ds.length ∧ (i = 0 → ∀ j, o ≤ j → j < o + n → cs[j]? = ds[j]?)
  | some (.rows s l p xs), some (.rows t l' p' ys) => s = t ∧ (lv = true → l = l') ∧ xs.length = ys.length ∧ (∀ j : Nat, (xs[j]?).map List.length = (ys[j]?).map List.length) ∧
      ∀ x y, xs[i]? = some x → ys[i]? = some y → ∀ j, o ≤ j → j < o + n → x[j]? = y[j]?
  | some (.map _ _), some (.map _ _) => True
  | some .dead, some .dead => True
  | some (.iter _ _ _ _), some (.iter _ _ _ _) => True
  | some (.bts _ _), some (.bts _ _) => True
  | some .dfr, some .dfr => True
  | some (.lp _ _ _ _ _ _ _), some (.lp _ _ _ _ _ _ _) => True
  | none, none => True
  | _, _ => False
def AgrF (m m' : Tr Blk) : Fp → Prop
  | .blk b => m.get b = m'.get b
  | .at b i o n lv => simB i o n lv (m.get b) (m'.get b)
def Agr (m m' : Tr Blk) (l : List Fp) : Prop := ∀ f ∈ l, AgrF m m' f

theorem getN_sim {cs ds : List AV} {o : Nat} {n : Option Nat} (hl : cs.length = ds.length) (h : ∀ j, o ≤ j → j < o + n.getD 1 → cs[j]? = ds[j]?) : getN cs o n = getN ds o n := by
  cases n with
  | none => exact h o (Nat.le_refl _) (by simp)
  | some n =>
    simp only [getN, hl]
    split
    · have : (cs.drop o).take n = (ds.drop o).take n := by
        apply List.ext_getElem?
        intro j
        rw [List.getElem?_take, List.getElem?_take]
        split
        · rw [List.getElem?_drop, List.getElem?_drop]
          exact h _ (by omega) (by simp; omega)
        · rfl
      rw [this]
    · rfl
theorem loadA_agr {m m' : Tr Blk} {n : Option Nat} {x : AV} (h : Agr m m' (fpA x (n.getD 1) false)) : loadA m n x = loadA m' n x := by
  cases x with
  | ref b o =>
    have h1 := h (.at b 0 o (n.getD 1) false) (by simp [fpA])
    simp only [AgrF] at h1
    simp only [loadA]
    cases hb : m.get b with
    | none => cases hb' : m'.get b with
      | none => rfl
      | some k => rw [hb, hb'] at h1; cases k <;> simp only [simB] at h1
    | some k => cases hb' : m'.get b with
      | none => rw [hb, hb'] at h1; cases k <;> simp only [simB] at h1
      | some k' =>
        rw [hb, hb'] at h1
        cases k <;> cases k' <;> simp only [simB] at h1 ⊢
        exact getN_sim h1.1 (h1.2 trivial)
  | el b i o =>
    have h1 := h (.at b i o (n.getD 1) false) (by simp [fpA])
    simp only [AgrF] at h1
    simp only [loadA]
    cases hb : m.get b with
    | none => cases hb' : m'.get b with
      | none => rfl
      | some k => rw [hb, hb'] at h1; cases k <;> simp only [simB] at h1
    | some k => cases hb' : m'.get b with
      | none => rw [hb, hb'] at h1; cases k <;> simp only [simB] at h1
      | some k' =>
        rw [hb, hb'] at h1
        cases k <;> cases k' <;> simp only [simB] at h1 ⊢
        rename_i xs _ _ _ ys
        obtain ⟨_, _, h2, h3, h4⟩ := h1
        have h5 := h3 i
        cases hx : xs[i]? with
        | none => cases hy : ys[i]? with
          | none => rfl
          | some y => rw [hx, hy] at h5; cases h5
        | some x => cases hy : ys[i]? with
          | none => rw [hx, hy] at h5; cases h5
          | some y =>
            rw [hx, hy] at h5
            injection h5 with h5
            exact getN_sim h5 (h4 x y hx hy)
  | _ => rfl
theorem storeA_agr {m m' : Tr Blk} {n : Nat} {x y : AV} (h : Agr m m' (fpA x 0 true)) : storeA m n x y = storeA m' n x y := by
  unfold storeA
  split
  · rfl
  · split
    · cases x with
      | ref b o =>
        have h1 := h (.at b 0 o 0 true) (by simp [fpA])
        simp only [AgrF] at h1
        cases hb : m.get b with
        | none => cases hb' : m'.get b with
          | none => simp only [hb, hb']
          | some k => rw [hb, hb'] at h1; cases k <;> simp only [simB] at h1
        | some k => cases hb' : m'.get b with
          | none => rw [hb, hb'] at h1; cases k <;> simp only [simB] at h1
          | some k' =>
            rw [hb, hb'] at h1
            cases k <;> cases k' <;> simp only [simB] at h1 <;> first | simp only [hb, hb', h1.1] | simp only [hb, hb']
      | el b i o =>
        have h1 := h (.at b i o 0 true) (by simp [fpA])
        simp only [AgrF] at h1
        cases hb : m.get b with
        | none => cases hb' : m'.get b with
          | none => simp only [hb, hb']
          | some k => rw [hb, hb'] at h1; cases k <;> simp only [simB] at h1
        | some k => cases hb' : m'.get b with
          | none => rw [hb, hb'] at h1; cases k <;> simp only [simB] at h1
          | some k' =>
            rw [hb, hb'] at h1
            cases k <;> cases k' <;> simp only [simB] at h1 <;> simp only [hb, hb']
            rename_i s1 l1 p1 xs s2 l2 p2 ys
            obtain ⟨_, e2, h2, h3, h4⟩ := h1
            have e3 := e2 trivial
            subst e3
            have h5 := h3 i
            cases hx : xs[i]? with
            | none => cases hy : ys[i]? with
              | none => cases l1 <;> simp only [hx, hy]
              | some y => rw [hx, hy] at h5; cases h5
            | some x => cases hy : ys[i]? with
              | none => rw [hx, hy] at h5; cases h5
              | some y =>
                rw [hx, hy] at h5
                injection h5 with h5
                cases l1 <;> simp only [hx, hy, h5]
      | _ => rfl
    · rfl
theorem rows_agr {m m' : Tr Blk} {b : B} {n : Nat} {lv : Bool} (h : simB 0 0 n lv (m.get b) (m'.get b)) :
    (match m.get b with | some (.rows s _ _ _) => some s | _ => none) = (match m'.get b with | some (.rows s _ _ _) => some s | _ => none) := by
  cases hb : m.get b with
  | none => cases hb' : m'.get b with
    | none => rfl
    | some k => rw [hb, hb'] at h; cases k <;> simp only [simB] at h
  | some k => cases hb' : m'.get b with
    | none => rw [hb, hb'] at h; cases k <;> simp only [simB] at h
    | some k' =>
      rw [hb, hb'] at h
      cases k <;> cases k' <;> simp only [simB] at h <;> first | simp only [h.1] | rfl
theorem ixsA_agr {m m' : Tr Blk} {esz : Nat} {x i : AV} (h : Agr m m' (fpA x 0 false)) : ixsA m esz x i = ixsA m' esz x i := by
  cases i <;> try rfl
  cases x <;> try rfl
  rename_i b lo len
  have h1 := rows_agr (h (.at b 0 0 0 false) (by simp [fpA]))
  simp only [ixsA]
  cases hb : m.get b with
  | none => cases hb' : m'.get b with
    | none => rfl
    | some k => rw [hb, hb'] at h1; cases k <;> simp_all
  | some k => cases hb' : m'.get b with
    | none => rw [hb, hb'] at h1; cases k <;> simp_all
    | some k' => rw [hb, hb'] at h1; cases k <;> cases k' <;> simp_all
theorem cutA_agr {m m' : Tr Blk} {esz : Nat} {x : AV} {lo hi : Option AV} (h : Agr m m' (fpA x 0 false)) : cutA m esz x lo hi = cutA m' esz x lo hi := by
  cases x <;> try rfl
  rename_i b f len
  have h1 := h (.at b 0 0 0 false) (by simp [fpA])
  simp only [AgrF] at h1
  simp only [cutA]
  cases hb : m.get b with
  | none => cases hb' : m'.get b with
    | none => rfl
    | some k => rw [hb, hb'] at h1; cases k <;> simp only [simB] at h1
  | some k => cases hb' : m'.get b with
    | none => rw [hb, hb'] at h1; cases k <;> simp only [simB] at h1
    | some k' =>
      rw [hb, hb'] at h1
      cases k <;> cases k' <;> simp only [simB] at h1 <;> first | rfl | simp only [h1.1]
theorem rowsOf_agr {m m' : Tr Blk} {sz : Nat} {x : AV} (h : Agr m m' (fpB x)) : rowsOf m sz x = rowsOf m' sz x := by
  cases x <;> try rfl
  rename_i b f len
  have h1 := h (.blk b) (by simp [fpB])
  simp only [AgrF] at h1
  simp only [rowsOf, h1]
theorem appR_agr {m m' : Tr Blk} {nb : B} {sz bytes : Nat} {x : AV} {q : Bool} {ys : List (List AV)} (hx : Agr m m' (fpB x)) : appR m nb sz bytes x q ys = appR m' nb sz bytes x q ys := by
  cases x <;> try rfl
  rename_i b f len
  have h1 := hx (.blk b) (by simp [fpB])
  simp only [AgrF] at h1
  cases f with
  | zero => simp only [appR, h1]
  | succ f => rfl
theorem appA_agr {m m' : Tr Blk} {nb : B} {sz bytes : Nat} {x y : AV} (h : Agr m m' (fpB x ++ fpB y)) : appA m nb sz bytes x y = appA m' nb sz bytes x y := by
  have hx : Agr m m' (fpB x) := fun f hf => h f (List.mem_append_left _ hf)
  have hy : Agr m m' (fpB y) := fun f hf => h f (List.mem_append_right _ hf)
  simp only [appA, rowsOf_agr hy]
  split
  · rfl
  · exact appR_agr hx
/-- Wherever the extra operations look, the heaps are one. -/
theorem xop_agr {m m' : Tr Blk} {nb : B} {k : XOp} {xs : List AV} (h : Agr m m' (xrds k xs)) : xop m nb k xs = xop m' nb k xs := by
  have get : k.reads = true → ∀ x ∈ xs, ∀ b, fpX x = [.blk b] → m.get b = m'.get b := by
    intro hk x hx b hb
    have := h (.blk b) (by
      unfold xrds
      rw [if_pos hk]
      exact List.mem_flatMap.2 ⟨x, hx, by rw [hb]; exact List.mem_cons_self ..⟩)
    exact this
  have gm : k.reads = true → ∀ b, AV.mp b ∈ xs → m.get b = m'.get b := fun hk b hb => get hk _ hb b rfl
  have gs : k.reads = true → ∀ b i n, AV.sl b i n ∈ xs → m.get b = m'.get b := fun hk b i n hb => get hk _ hb b rfl
  have gr : k.reads = true → ∀ b o, AV.ref b o ∈ xs → m.get b = m'.get b := fun hk b o hb => get hk _ hb b rfl
  have ge : k.reads = true → ∀ b i o, AV.el b i o ∈ xs → m.get b = m'.get b := fun hk b i o hb => get hk _ hb b rfl
  have rows : k.reads = true → ∀ x ∈ xs, rowsOf m 1 x = rowsOf m' 1 x := by
    intro hk x hx
    refine rowsOf_agr fun f hf => ?_
    cases x <;> simp only [fpB, List.not_mem_nil, List.mem_singleton] at hf
    · subst hf; exact gs hk _ _ _ hx
    · subst hf; exact gm hk _ hx
  cases k
  case lk =>
    rcases xs with _ | ⟨x, _ | ⟨y, _ | ⟨z, xs⟩⟩⟩ <;> try rfl
    cases x <;> try rfl
    simp only [xop, gm rfl _ (List.mem_cons_self ..)]
  case mu =>
    rcases xs with _ | ⟨x, _ | ⟨y, _ | ⟨z, _ | ⟨x4, xs⟩⟩⟩⟩ <;> try rfl
    cases x <;> try rfl
    simp only [xop, gm rfl _ (List.mem_cons_self ..)]
  case md =>
    rcases xs with _ | ⟨x, _ | ⟨y, _ | ⟨z, xs⟩⟩⟩ <;> try rfl
    cases x <;> try rfl
    simp only [xop, gm rfl _ (List.mem_cons_self ..)]
  case mc =>
    rcases xs with _ | ⟨x, _ | ⟨y, xs⟩⟩ <;> try rfl
    cases x <;> try rfl
    simp only [xop, gm rfl _ (List.mem_cons_self ..)]
  case b2s =>
    rcases xs with _ | ⟨x, _ | ⟨y, xs⟩⟩ <;> try rfl
    simp only [xop, rows rfl x (List.mem_cons_self ..)]
  case cta =>
    rcases xs with _ | ⟨x, xs⟩ <;> try rfl
    cases x <;> try rfl
    rename_i b o
    cases o <;> try rfl
    simp only [xop, gr rfl _ _ (List.mem_cons_self ..)]
  case cvu =>
    rcases xs with _ | ⟨x, _ | ⟨y, xs⟩⟩ <;> try rfl
    cases x <;> try rfl
    simp only [xop, gr rfl _ _ (List.mem_cons_self ..)]
  case cvp =>
    rcases xs with _ | ⟨x, _ | ⟨y, xs⟩⟩ <;> try rfl
    cases x <;> try rfl
    simp only [xop, gr rfl _ _ (List.mem_cons_self ..)]
  case aps =>
    rcases xs with _ | ⟨x, _ | ⟨y, _ | ⟨z, xs⟩⟩⟩ <;> try rfl
    cases y <;> try rfl
    cases x <;> try rfl
    rename_i b o n
    cases o <;> try rfl
    simp only [xop, gs rfl _ _ _ (List.mem_cons_self ..)]
  case ust =>
    rcases xs with _ | ⟨x, _ | ⟨y, _ | ⟨z, xs⟩⟩⟩ <;> try rfl
    cases x <;> try rfl
    rename_i b i o
    cases i <;> try rfl
    cases o <;> try rfl
    cases y <;> try rfl
    rename_i k n
    cases k <;> try rfl
    simp only [xop, ge rfl _ _ _ (List.mem_cons_self ..)]
  case rng =>
    rcases xs with _ | ⟨x, _ | ⟨y, xs⟩⟩ <;> try rfl
    cases x <;> try rfl
    simp only [xop, gm rfl _ (List.mem_cons_self ..)]
  all_goals (rcases xs with _ | ⟨x, _ | ⟨y, _ | ⟨z, _ | ⟨x4, xs⟩⟩⟩⟩ <;> rfl)
theorem lenA_agr {m m' : Tr Blk} {k : Nat} {x : AV} (h : Agr m m' (if k = 2 then fpB x else [])) : lenA m k x = lenA m' k x := by
  rcases k with _ | _ | _ | k
  · cases x <;> rfl
  · cases x <;> rfl
  · cases x <;> try rfl
    rename_i b
    have h1 := h (.blk b) (by simp [fpB])
    simp only [AgrF] at h1
    simp only [lenA, h1]
  · cases x <;> rfl
theorem aop_agr {fr : Tr AV} {m m' : Tr Blk} {nb : B} {x : AOp} (h : Agr m m' (x.rds fr)) : aop fr m nb x = aop fr m' nb x := by
  cases x <;> try rfl
  · simp only [aop, loadA_agr h]
  · simp only [aop, storeA_agr h]
  · simp only [aop, ixsA_agr h]
  · simp only [aop, cutA_agr h]
  · simp only [aop, appA_agr h]
  · simp only [aop, lenA_agr h]
  · simp only [aop, xop_agr h]
end Go.Za
