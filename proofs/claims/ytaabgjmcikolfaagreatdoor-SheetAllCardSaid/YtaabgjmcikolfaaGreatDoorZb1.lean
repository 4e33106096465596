/- The abstract machine, part 12b: blocks renamed. No condition. -/
import Derived.Test.YtaabgjmcikolfaaGreatDoorZa12
set_option linter.unusedVariables false
set_option linter.unusedSimpArgs false
namespace Go.Za
open Go.RowKit

mutual
def AV.rnm (ρ : B → Option B) : AV → Option AV
  | .ref b o => (ρ b).map fun c => .ref c o
  | .el b i o => (ρ b).map fun c => .el c i o
  | .sl b lo n => (ρ b).map fun c => .sl c lo n
  | .mp b => (ρ b).map .mp
  | .fn f cs => (rnmL ρ cs).map (.fn f)
  | .ag cs => (rnmL ρ cs).map .ag
  | .tu cs => (rnmL ρ cs).map .tu
  | .ifc t x => (x.rnm ρ).map (.ifc t)
  | .yl b => (ρ b).map .yl
  | x => some x
def rnmL (ρ : B → Option B) : List AV → Option (List AV)
  | [] => some []
  | x :: xs => match x.rnm ρ, rnmL ρ xs with
    | some y, some ys => some (y :: ys)
    | _, _ => none
end
def rnmR (ρ : B → Option B) : List (List AV) → Option (List (List AV))
  | [] => some []
  | x :: xs => match rnmL ρ x, rnmR ρ xs with
    | some y, some ys => some (y :: ys)
    | _, _ => none
def rnmE (ρ : B → Option B) : List (AV × AV × Nat) → Option (List (AV × AV × Nat))
  | [] => some []
  | (k, v, n) :: es => match k.rnm ρ, v.rnm ρ, rnmE ρ es with
    | some k, some v, some es => some ((k, v, n) :: es)
    | _, _, _ => none
/-- The frame of a record. -/
def rnmT (ρ : B → Option B) : Tr AV → Option (Tr AV)
  | .e => some .e
  | .n l v r => match rnmT ρ l, rnmT ρ r with
    | some l', some r' => match v with
      | none => some (.n l' none r')
      | some x => (x.rnm ρ).map fun y => .n l' (some y) r'
    | _, _ => none
theorem rnmT_get {ρ : B → Option B} : ∀ {t t' : Tr AV}, rnmT ρ t = some t' → ∀ p x, t.get p = some x → ∃ y, t'.get p = some y ∧ x.rnm ρ = some y
  | .e, t', h, p, x, hx => by rw [Tr.get_e] at hx; cases hx
  | .n l v r, t', h, p, x, hx => by
    unfold rnmT at h
    split at h
    · rename_i l' r' h1 h2
      cases v with
      | none =>
        injection h with h
        subst h
        cases p with
        | e => cases hx
        | l p => exact rnmT_get h1 p x hx
        | r p => exact rnmT_get h2 p x hx
      | some v =>
        simp only [Option.map_eq_some_iff] at h
        obtain ⟨y, h3, rfl⟩ := h
        cases p with
        | e =>
          simp only [Tr.get, Option.some.injEq] at hx
          subst hx
          exact ⟨y, rfl, h3⟩
        | l p => exact rnmT_get h1 p x hx
        | r p => exact rnmT_get h2 p x hx
    · cases h
def Blk.rnm (ρ : B → Option B) : Blk → Option Blk
  | .box ty cs => (rnmL ρ cs).map (.box ty)
  | .rows sz l p xs => if p then some (.rows sz l p xs) else (rnmR ρ xs).map (.rows sz l p)
  | .map es c => (rnmE ρ es).map fun es => .map es c
  | .dead => some .dead
  | .iter mo since seen stepped => match mo with
    | none => some (.iter none since seen stepped)
    | some m => (ρ m).map fun c => .iter (some c) since seen stepped
  | .bts ty l => some (.bts ty l)
  | .dfr => some .dfr
  | .lp st pj n ps asg body fr => (rnmT ρ fr).map (.lp st pj n ps asg body)
def PhiR (ρ : B → Option B) (φ : Phi) : Phi := fun p => (ρ p).bind φ

section
variable {ρ : B → Option B} {φ : Phi} {wr wr' : Nat → Prop} {w : World}
mutual
theorem AR.rnm (hw : ∀ g, wr' g → wr g) : ∀ (x : AV) {y : AV} {v : Value}, x.rnm ρ = some y → AR φ wr w y v → AR (PhiR ρ φ) wr' w x v
  | .ref b o, y, v, h, hv => by
    simp only [AV.rnm, Option.map_eq_some_iff] at h
    obtain ⟨c, h1, rfl⟩ := h
    simp only [AR] at hv ⊢
    obtain ⟨g, sz, h2, h3⟩ := hv
    exact ⟨g, sz, by simp [PhiR, h1, h2], h3⟩
  | .el b i o, y, v, h, hv => by
    simp only [AV.rnm, Option.map_eq_some_iff] at h
    obtain ⟨c, h1, rfl⟩ := h
    simp only [AR] at hv ⊢
    obtain ⟨g, sz, h2, h3⟩ := hv
    exact ⟨g, sz, by simp [PhiR, h1, h2], h3⟩
  | .sl b lo n, y, v, h, hv => by
    simp only [AV.rnm, Option.map_eq_some_iff] at h
    obtain ⟨c, h1, rfl⟩ := h
    simp only [AR] at hv ⊢
    obtain ⟨g, sz, cap, c0, ty, fz, h2, h3⟩ := hv
    exact ⟨g, sz, cap, c0, ty, fz, by simp [PhiR, h1, h2], h3⟩
  | .mp b, y, v, h, hv => by
    simp only [AV.rnm, Option.map_eq_some_iff] at h
    obtain ⟨c, h1, rfl⟩ := h
    simp only [AR] at hv ⊢
    obtain ⟨g, sz, h2, h3⟩ := hv
    exact ⟨g, sz, by simp [PhiR, h1, h2], h3⟩
  | .fn f cs, y, v, h, hv => by
    simp only [AV.rnm, Option.map_eq_some_iff] at h
    obtain ⟨ds, h1, rfl⟩ := h
    simp only [AR] at hv ⊢
    obtain ⟨vs, h2, h3⟩ := hv
    exact ⟨vs, h2, ARl.rnm hw cs h1 h3⟩
  | .ag cs, y, v, h, hv => by
    simp only [AV.rnm, Option.map_eq_some_iff] at h
    obtain ⟨ds, h1, rfl⟩ := h
    simp only [AR] at hv ⊢
    obtain ⟨vs, h2, h3⟩ := hv
    exact ⟨vs, h2, ARl.rnm hw cs h1 h3⟩
  | .tu cs, y, v, h, hv => by
    simp only [AV.rnm, Option.map_eq_some_iff] at h
    obtain ⟨ds, h1, rfl⟩ := h
    simp only [AR] at hv ⊢
    obtain ⟨vs, h2, h3⟩ := hv
    exact ⟨vs, h2, ARl.rnm hw cs h1 h3⟩
  | .ifc t x, y, v, h, hv => by
    simp only [AV.rnm, Option.map_eq_some_iff] at h
    obtain ⟨z, h1, rfl⟩ := h
    simp only [AR] at hv ⊢
    obtain ⟨u, h2, h3⟩ := hv
    exact ⟨u, h2, AR.rnm hw x h1 h3⟩
  | .yl b, y, v, h, hv => by
    simp only [AV.rnm, Option.map_eq_some_iff] at h
    obtain ⟨c, h1, rfl⟩ := h
    simp only [AR] at hv ⊢
    obtain ⟨g, sz, h2, h3⟩ := hv
    exact ⟨g, sz, by simp [PhiR, h1, h2], h3⟩
  | .ni, y, v, h, hv => by simp only [AV.rnm, Option.some.injEq] at h; subst h; simpa only [AR] using hv
  | .im cs o, y, v, h, hv => by
    simp only [AV.rnm, Option.some.injEq] at h
    subst h
    have hk : Keep φ wr w φ wr' w := wr_less hw φ w
    have := AR.keep hk _ _ hv
    simpa only [AR] using this
  | .ls sz xs, y, v, h, hv => by
    simp only [AV.rnm, Option.some.injEq] at h
    subst h
    have hk : Keep φ wr w φ wr' w := wr_less hw φ w
    have := AR.keep hk _ _ hv
    simpa only [AR] using this
  | .u, y, v, h, hv => by simp only [AR]
  | .b x, y, v, h, hv => by simp only [AV.rnm, Option.some.injEq] at h; subst h; simpa only [AR] using hv
  | .i k n, y, v, h, hv => by simp only [AV.rnm, Option.some.injEq] at h; subst h; simpa only [AR] using hv
  | .s x, y, v, h, hv => by simp only [AV.rnm, Option.some.injEq] at h; subst h; simpa only [AR] using hv
  | .np, y, v, h, hv => by simp only [AV.rnm, Option.some.injEq] at h; subst h; simpa only [AR] using hv
  | .nm, y, v, h, hv => by simp only [AV.rnm, Option.some.injEq] at h; subst h; simpa only [AR] using hv
  | .nf, y, v, h, hv => by simp only [AV.rnm, Option.some.injEq] at h; subst h; simpa only [AR] using hv
  | .e0, y, v, h, hv => by simp only [AV.rnm, Option.some.injEq] at h; subst h; simpa only [AR] using hv
theorem ARl.rnm (hw : ∀ g, wr' g → wr g) : ∀ (xs : List AV) {ys : List AV} {vs : List Value}, rnmL ρ xs = some ys → ARl φ wr w ys vs → ARl (PhiR ρ φ) wr' w xs vs
  | [], ys, vs, h, hv => by injection h with h; subst h; simpa only [ARl] using hv
  | x :: xs, ys, vs, h, hv => by
    unfold rnmL at h
    split at h
    · rename_i y ys' h1 h2
      injection h with h
      subst h
      simp only [ARl] at hv ⊢
      obtain ⟨v, vs', e, q1, q2⟩ := hv
      exact ⟨v, vs', e, AR.rnm hw x h1 q1, ARl.rnm hw xs h2 q2⟩
    · cases h
end
theorem rnm_one {x y : AV} (h : x.rnm ρ = some y) : x.one = y.one := by
  cases x <;> simp only [AV.rnm, Option.map_eq_some_iff, Option.some.injEq] at h <;> first
    | (subst h; rfl)
    | (obtain ⟨_, _, rfl⟩ := h; rfl)
theorem ARc.rnm (hw : ∀ g, wr' g → wr g) : ∀ (xs : List AV) {ys : List AV} {a : Addr} {j : Nat}, rnmL ρ xs = some ys → ARc φ wr w a j ys → ARc (PhiR ρ φ) wr' w a j xs
  | [], ys, a, j, h, hv => by simp only [ARc]
  | x :: xs, ys, a, j, h, hv => by
    unfold rnmL at h
    split at h
    · rename_i y ys' h1 h2
      injection h with h
      subst h
      simp only [ARc] at hv ⊢
      obtain ⟨⟨q0, u, q1, q2⟩, q3⟩ := hv
      exact ⟨⟨by rw [rnm_one h1]; exact q0, u, q1, AR.rnm hw x h1 q2⟩, ARc.rnm hw xs h2 q3⟩
    · cases h
theorem rnmL_length : ∀ {xs ys : List AV}, rnmL ρ xs = some ys → ys.length = xs.length
  | [], ys, h => by injection h with h; subst h; rfl
  | x :: xs, ys, h => by
    unfold rnmL at h
    split at h
    · rename_i y ys' h1 h2
      injection h with h
      subst h
      simp [rnmL_length h2]
    · cases h
theorem ARr.rnm (hw : ∀ g, wr' g → wr g) : ∀ (xs : List (List AV)) {ys : List (List AV)} {a : Addr} {sz i : Nat}, rnmR ρ xs = some ys → ARr φ wr w a sz i ys → ARr (PhiR ρ φ) wr' w a sz i xs ∧ ys.length = xs.length
  | [], ys, a, sz, i, h, hv => by injection h with h; subst h; simp only [ARr]; exact ⟨trivial, trivial⟩
  | x :: xs, ys, a, sz, i, h, hv => by
    unfold rnmR at h
    split at h
    · rename_i y ys' h1 h2
      injection h with h
      subst h
      simp only [ARr] at hv ⊢
      obtain ⟨q0, q1, q2⟩ := hv
      obtain ⟨q3, q4⟩ := ARr.rnm hw xs h2 q2
      exact ⟨⟨by rw [← rnmL_length h1]; exact q0, ARc.rnm hw x h1 q1, q3⟩, by simp [q4]⟩
    · cases h
theorem ARe.rnm (hw : ∀ g, wr' g → wr g) : ∀ (es : List (AV × AV × Nat)) {fs : List (AV × AV × Nat)} {l : List MapEntry}, rnmE ρ es = some fs → ARe φ wr w fs l → ARe (PhiR ρ φ) wr' w es l
  | [], fs, l, h, hv => by injection h with h; subst h; simpa only [ARe] using hv
  | (k, v, n) :: es, fs, l, h, hv => by
    unfold rnmE at h
    split at h
    · rename_i k' v' es' h1 h2 h3
      injection h with h
      subst h
      simp only [ARe] at hv ⊢
      obtain ⟨e, l', q1, q2, q3, q4, q5⟩ := hv
      exact ⟨e, l', q1, AR.rnm hw k h1 q2, AR.rnm hw v h2 q3, q4, ARe.rnm hw es h3 q5⟩
    · cases h

theorem rnm_alive {k j : Blk} (h : k.rnm ρ = some j) : k.alive = j.alive := by
  cases k <;> simp only [Blk.rnm] at h
  · simp only [Option.map_eq_some_iff] at h; obtain ⟨_, _, rfl⟩ := h; rfl
  · split at h
    · injection h with h; subst h; rfl
    · simp only [Option.map_eq_some_iff] at h; obtain ⟨_, _, rfl⟩ := h; rfl
  · simp only [Option.map_eq_some_iff] at h; obtain ⟨_, _, rfl⟩ := h; rfl
  · injection h with h; subst h; rfl
  · split at h
    · injection h with h; subst h; rfl
    · simp only [Option.map_eq_some_iff] at h; obtain ⟨_, _, rfl⟩ := h; rfl
  · injection h with h; subst h; rfl
  · injection h with h; subst h; rfl
  · simp only [Option.map_eq_some_iff] at h; obtain ⟨_, _, rfl⟩ := h; rfl
theorem rnm_wrt {k j : Blk} (h : k.rnm ρ = some j) : k.wrt = j.wrt := by
  cases k <;> simp only [Blk.rnm] at h
  · simp only [Option.map_eq_some_iff] at h; obtain ⟨_, _, rfl⟩ := h; rfl
  · split at h
    · injection h with h; subst h; rfl
    · simp only [Option.map_eq_some_iff] at h; obtain ⟨_, _, rfl⟩ := h; rfl
  · simp only [Option.map_eq_some_iff] at h; obtain ⟨_, _, rfl⟩ := h; rfl
  · injection h with h; subst h; rfl
  · split at h
    · injection h with h; subst h; rfl
    · simp only [Option.map_eq_some_iff] at h; obtain ⟨_, _, rfl⟩ := h; rfl
  · injection h with h; subst h; rfl
  · injection h with h; subst h; rfl
  · simp only [Option.map_eq_some_iff] at h; obtain ⟨_, _, rfl⟩ := h; rfl
theorem BR.rnm (hw : ∀ g, wr' g → wr g) {p q : B} (hp : ρ p = some q) {k j : Blk} (h : k.rnm ρ = some j) (hb : BR φ wr w q j) : BR (PhiR ρ φ) wr' w p k := by
  cases k with
  | box ty cs =>
    simp only [Blk.rnm, Option.map_eq_some_iff] at h
    obtain ⟨ds, h1, rfl⟩ := h
    obtain ⟨g, c0, q1, q2, q3⟩ := hb
    exact ⟨g, c0, by simp [PhiR, hp, q1, rnmL_length h1], q2, ARl.rnm hw cs h1 q3⟩
  | iter mo since seen stepped =>
    simp only [Blk.rnm] at h
    cases mo with
    | none =>
      injection h with h
      subst h
      obtain ⟨g, sz, mo', q1, q2, q3⟩ := hb
      exact ⟨g, sz, mo', by simp [PhiR, hp, q1], q2, q3⟩
    | some m =>
      simp only [Option.map_eq_some_iff] at h
      obtain ⟨c, h1, rfl⟩ := h
      obtain ⟨g, sz, mo', q1, q2, gm, s, q3, q4⟩ := hb
      exact ⟨g, sz, mo', by simp [PhiR, hp, q1], q2, gm, s, by simp [PhiR, h1, q3], q4⟩
  | bts ty l =>
    injection h with h
    subst h
    obtain ⟨g, c0, q1, q2⟩ := hb
    exact ⟨g, c0, by simp [PhiR, hp, q1], q2⟩
  | dfr =>
    injection h with h
    subst h
    obtain ⟨g, sz, q1, q2⟩ := hb
    exact ⟨g, sz, by simp [PhiR, hp, q1], q2⟩
  | lp st pj n ps asg body fr =>
    simp only [Blk.rnm, Option.map_eq_some_iff] at h
    obtain ⟨fr', h1, rfl⟩ := h
    obtain ⟨g, sz, r, q1, q2, q3, q4, q4', q5, q6, q7, q8⟩ := hb
    refine ⟨g, sz, r, by simp [PhiR, hp, q1], q2, q3, q4, q4', q5, q6, q7, fun t x hx => ?_⟩
    obtain ⟨y, h2, h3⟩ := rnmT_get h1 _ _ hx
    exact AR.rnm hw x h3 (q8 t y h2)
  | rows sz l pur xs =>
    simp only [Blk.rnm] at h
    split at h
    · rename_i hpur
      injection h with h
      subst h
      subst hpur
      obtain ⟨g, ty, c0, q1, q2, q3, q4, q5⟩ := hb
      refine ⟨g, ty, c0, by simp [PhiR, hp, q1], q2, q3, q4, ARr.mk fun j r hj => ?_⟩
      obtain ⟨a1, a2⟩ := q5.get j r hj
      refine ⟨a1, ARc.mk a2.ones fun c x hc => ?_⟩
      obtain ⟨u, b1, b2⟩ := a2.get c x hc
      exact ⟨u, b1, AR.keep (wr_less hw pnone w) _ _ b2⟩
    · rename_i hpur
      have hpur' : pur = false := by simpa using hpur
      subst hpur'
      simp only [Option.map_eq_some_iff] at h
      obtain ⟨ys, h1, rfl⟩ := h
      obtain ⟨g, ty, c0, q1, q2, q3, q4, q5⟩ := hb
      obtain ⟨r1, r2⟩ := ARr.rnm hw xs h1 q5
      exact ⟨g, ty, c0, by simp [PhiR, hp, q1], q2, q3, r2 ▸ q4, r1⟩
  | map es c =>
    simp only [Blk.rnm, Option.map_eq_some_iff] at h
    obtain ⟨fs, h1, rfl⟩ := h
    obtain ⟨g, sz, es', q1, q2, q3⟩ := hb
    exact ⟨g, sz, es', by simp [PhiR, hp, q1], q2, ARe.rnm hw es h1 q3⟩
  | dead => trivial
end
end Go.Za
