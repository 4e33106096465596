/- The abstract machine, part 10: calls, and statements one behind the other. No condition. -/
import Derived.Test.YtaabgjmcikolfaaGreatDoorZa9
import Derived.Orders
set_option linter.unusedVariables false
set_option linter.unusedSimpArgs false
namespace Go.Za
open Go.RowKit

/-! ### calls -/
def Enters (P : Program) (f : FuncId) : Prop := ∃ fn c, P.funcs[f]? = some fn ∧ fn.body = some c ∧ (fn.name == "runtime.NumGoroutine") = false
/-- A call of plain values, that leaves all alone. -/
def PCall (P : Program) (f : FuncId) (args : List AV) (v : AV) : Prop :=
  Enters P f ∧ ∀ (fb : Nat → Prop) (w : World) (cargs : List Value), (∀ g, fb g → g < w.heap.size) → ARl pnone fb w args cargs →
    Calls P f cargs.toArray w fun e w' => ∃ cv, e = .returned cv ∧ Below w.heap.size w w' ∧ AR pnone fb w' v cv
/-- A call over an abstract heap. -/
def ICall (P : Program) (f : FuncId) (args : List AV) (H : Hp) (R : AV → Hp → Prop) : Prop :=
  Enters P f ∧ ∀ (fb : Nat → Prop) (φ : Phi) (w : World) (cargs : List Value), HR fb φ H w → ARl φ (wrs fb φ H) w args cargs →
    Calls P f cargs.toArray w fun e w' => ∃ v H' φ' cv, e = .returned cv ∧ R v H' ∧ H.nx.toNat ≤ H'.nx.toNat ∧ (∀ p : B, p.toNat < H.nx.toNat → φ' p = φ p) ∧ Ext fb φ H w φ' H' w' ∧ HR fb φ' H' w' ∧ AR φ' (wrs fb φ' H') w' v cv
theorem ICall.mono {P : Program} {f : FuncId} {args : List AV} {H : Hp} {R R' : AV → Hp → Prop} (h : ICall P f args H R) (hr : ∀ v H', R v H' → R' v H') : ICall P f args H R' :=
  ⟨h.1, fun fb φ w cargs hH ha => (h.2 fb φ w cargs hH ha).mono fun e w' ⟨v, H', φ', cv, h1, h2, h3⟩ => ⟨v, H', φ', cv, h1, hr _ _ h2, h3⟩⟩

/-! ### plain values out of a heap -/
/-- One cell, as a plain one; which blocks it is a view of. -/
def frz1 (m : Tr Blk) (x : AV) : Option (AV × List B) :=
  match x with
  | .sl b lo n => match m.get b with
    | some (.rows sz _ true xs) => if lo + n ≤ xs.length then some (.ls sz ((xs.drop lo).take n), [b]) else none
    | _ => none
  | x => if x.pure then some (x, []) else none
def frzL (m : Tr Blk) : List AV → Option (List AV × List B)
  | [] => some ([], [])
  | x :: xs => match frz1 m x, frzL m xs with
    | some (y, bs), some (ys, cs) => some (y :: ys, bs ++ cs)
    | _, _ => none
def frz (m : Tr Blk) (x : AV) : Option (AV × List B) :=
  match x with
  | .ag cs => match frzL m cs with | some (ds, bs) => some (.ag ds, bs) | none => none
  | x => frz1 m x
def frzs (m : Tr Blk) : List AV → Option (List AV × List B)
  | [] => some ([], [])
  | x :: xs => match frz m x, frzs m xs with
    | some (y, bs), some (ys, cs) => some (y :: ys, bs ++ cs)
    | _, _ => none
def Blk.sealK : Blk → Blk
  | .rows sz _ pur xs => .rows sz false pur xs
  | k => k
def sealB (m : Tr Blk) (b : B) : Tr Blk :=
  match m.get b with
  | some k => m.set b k.sealK
  | none => m
def sealM (m : Tr Blk) : List B → Tr Blk
  | [] => m
  | b :: bs => sealM (sealB m b) bs
/-- A value that leads nowhere at all. -/
def AV.flat1 : AV → Bool
  | .b _ | .i _ _ | .s _ | .np | .nm | .nf | .e0 => true
  | _ => false
def AV.flatAg : AV → Bool
  | .ag cs => cs.all AV.flat1
  | x => x.flat1
def AV.flat : AV → Bool
  | .tu cs => cs.all AV.flatAg
  | x => x.flatAg

section
variable {P : Program} {fb : Nat → Prop} {φ : Phi} {H : Hp} {wr : Nat → Prop} {w : World}

theorem flat1_ok {x : AV} {v : Value} {ψ : Phi} {wr' : Nat → Prop} {w' : World} (h : AR φ wr w x v) (hf : x.flat1 = true) : AR ψ wr' w' x v := by
  cases x <;> simp only [AV.flat1, Bool.false_eq_true] at hf <;> simp only [AR] at h ⊢ <;> exact h
theorem flatl_ok {ψ : Phi} {wr' : Nat → Prop} {w' : World} : ∀ {xs : List AV} {vs : List Value}, ARl φ wr w xs vs → xs.all AV.flat1 = true → ARl ψ wr' w' xs vs
  | [], vs, h, _ => by simp only [ARl] at h ⊢; exact h
  | x :: xs, vs, h, hf => by
    simp only [ARl] at h ⊢
    obtain ⟨v, vs', h1, h2, h3⟩ := h
    simp only [List.all_cons, Bool.and_eq_true] at hf
    exact ⟨v, vs', h1, flat1_ok h2 hf.1, flatl_ok h3 hf.2⟩
theorem flat_ag {x : AV} {v : Value} {ψ : Phi} {wr' : Nat → Prop} {w' : World} (h : AR φ wr w x v) (hf : x.flatAg = true) : AR ψ wr' w' x v := by
  cases x <;> simp only [AV.flatAg] at hf <;> try exact flat1_ok h hf
  simp only [AR] at h ⊢
  obtain ⟨vs, h1, h2⟩ := h
  exact ⟨vs, h1, flatl_ok h2 hf⟩
theorem flat_tu {ψ : Phi} {wr' : Nat → Prop} {w' : World} : ∀ {xs : List AV} {vs : List Value}, ARl φ wr w xs vs → xs.all AV.flatAg = true → ARl ψ wr' w' xs vs
  | [], vs, h, _ => by simp only [ARl] at h ⊢; exact h
  | x :: xs, vs, h, hf => by
    simp only [ARl] at h ⊢
    obtain ⟨v, vs', h1, h2, h3⟩ := h
    simp only [List.all_cons, Bool.and_eq_true] at hf
    exact ⟨v, vs', h1, flat_ag h2 hf.1, flat_tu h3 hf.2⟩
theorem flat_ok {x : AV} {v : Value} {ψ : Phi} {wr' : Nat → Prop} {w' : World} (h : AR φ wr w x v) (hf : x.flat = true) : AR ψ wr' w' x v := by
  cases x <;> simp only [AV.flat] at hf <;> try exact flat_ag h hf
  simp only [AR] at h ⊢
  obtain ⟨vs, h1, h2⟩ := h
  exact ⟨vs, h1, flat_tu h2 hf⟩

/-- A world further on, whose old blocks are as they were. -/
theorem Ext.below {w' : World} (hb : Below w.heap.size w w') : Ext fb φ H w φ H w' :=
  ⟨hb.os, hb.tape, hb.output, hb.size, fun g hg _ => hb.block g hg, fun g c ty fz hc => ⟨c, fz, (hb.block g (Array.getElem?_eq_some_iff.1 hc).1).trans hc, rfl⟩, fun _ _ h => h, fun _ _ h => h⟩
theorem HR.below {w' : World} (h : HR fb φ H w) (hb : Below w.heap.size w w') : HR fb φ H w' :=
  ⟨h.lt, h.phl, fun p g sz hp => ⟨Nat.lt_of_lt_of_le (h.phw p g sz hp).1 hb.size, (h.phw p g sz hp).2⟩, h.inj,
   fun p k hp => BR.keep (Ext.below hb) (fun g s hg => hb.block g (h.phw _ _ _ hg).1) (h.blk p k hp), fun g hg => Nat.lt_of_lt_of_le (h.fbl g hg) hb.size⟩

/-- One block sealed. -/
theorem seal_wrt {k : Blk} (h : k.sealK.wrt = true) : k.wrt = true := by cases k <;> simp_all [Blk.sealK, Blk.wrt]
theorem seal_alive (k : Blk) : k.sealK.alive = k.alive := by cases k <;> rfl
theorem sealB_get (m : Tr Blk) (b p : B) : (sealB m b).get p = if b = p then (m.get p).map Blk.sealK else m.get p := by
  unfold sealB
  split
  · rename_i k hk
    rw [Tr.get_set]
    split
    · rename_i e; subst e; rw [hk]; rfl
    · rfl
  · rename_i hk
    split
    · rename_i e; subst e; rw [hk]; rfl
    · rfl
theorem sealM_get : ∀ (bs : List B) (m : Tr Blk) (p : B), (sealM m bs).get p = if p ∈ bs then (m.get p).map Blk.sealK else m.get p
  | [], m, p => by simp [sealM]
  | b :: bs, m, p => by
    simp only [sealM]
    rw [sealM_get bs, sealB_get]
    have hs : ∀ o : Option Blk, (o.map Blk.sealK).map Blk.sealK = o.map Blk.sealK := by
      intro o; cases o with
      | none => rfl
      | some k => cases k <;> rfl
    by_cases h1 : b = p
    · subst h1
      by_cases h2 : b ∈ bs
      · simp [h2, hs]
      · simp [h2]
    · by_cases h2 : p ∈ bs
      · simp [h1, h2]
      · simp [h1, h2, Ne.symm h1]
theorem seal_img {bs : List B} {nx : B} {g : Nat} (h : img φ ⟨sealM H.m bs, nx⟩ g) : img φ H g := by
  obtain ⟨p, k, sz, h1, h2, h3⟩ := h
  rw [sealM_get] at h1
  split at h1
  · cases hk : H.m.get p with
    | none => rw [hk] at h1; cases h1
    | some k0 =>
      rw [hk] at h1
      injection h1 with h1
      subst h1
      exact ⟨p, k0, sz, hk, seal_wrt h2, h3⟩
  · exact ⟨p, k, sz, h1, h2, h3⟩
theorem Ext.sealK (bs : List B) (nx : B) : Ext fb φ H w φ ⟨sealM H.m bs, nx⟩ w :=
  ⟨rfl, rfl, rfl, Nat.le_refl _, fun _ _ _ => rfl, fun _ c _ fz h => ⟨c, fz, h, rfl⟩, fun _ _ h => h, fun g _ h => seal_img h⟩
theorem HR.sealK (h : HR fb φ H w) (bs : List B) (nx : B) (hnx : H.nx.toNat ≤ nx.toNat) : HR fb φ ⟨sealM H.m bs, nx⟩ w := by
  have old : ∀ {p : B} {k : Blk}, (sealM H.m bs).get p = some k → ∃ k0, H.m.get p = some k0 ∧ (k = k0 ∨ k = k0.sealK) := by
    intro p k hp
    rw [sealM_get] at hp
    split at hp
    · cases hk : H.m.get p with
      | none => rw [hk] at hp; cases hp
      | some k0 => rw [hk] at hp; injection hp with hp; exact ⟨k0, rfl, .inr hp.symm⟩
    · exact ⟨k, hp, .inl rfl⟩
  refine ⟨fun p k hp => ?_, fun p x hp => Nat.lt_of_lt_of_le (h.phl p x hp) hnx, h.phw, fun p q g s t k k' h1 h2 a1 a2 e1 e2 => ?_, fun p k hp => ?_, h.fbl⟩
  · obtain ⟨k0, h1, _⟩ := old hp
    exact Nat.lt_of_lt_of_le (h.lt p k0 h1) hnx
  · obtain ⟨k0, q1, c1⟩ := old h1
    obtain ⟨k1, q2, c2⟩ := old h2
    refine h.inj p q g s t k0 k1 q1 q2 ?_ ?_ e1 e2
    · rcases c1 with rfl | rfl
      · exact a1
      · exact seal_wrt a1
    · rcases c2 with rfl | rfl
      · exact a2
      · rw [← seal_alive]; exact a2
  · obtain ⟨k0, h1, hc⟩ := old hp
    have hb := BR.keep (Ext.sealK (fb := fb) (φ := φ) (H := H) (w := w) bs nx) (fun _ _ _ => rfl) (h.blk p k0 h1)
    rcases hc with rfl | rfl
    · exact hb
    · cases k0 <;> exact hb

theorem wr_less {wr' : Nat → Prop} (h : ∀ g, wr' g → wr g) (φ : Phi) (w : World) : Keep φ wr w φ wr' w :=
  ⟨fun _ _ h => h, fun g _ hg => h g hg, Nat.le_refl _, fun _ _ _ => rfl, fun _ c _ fz h => ⟨c, fz, h, rfl⟩⟩

/-- What is forbidden to a callee that is handed such views: fewer blocks than may be written here, and none of the views'. -/
theorem frz1_ok (hH : HR fb φ H w) {fb' : Nat → Prop} (hle : ∀ g, fb' g → wrs fb φ H g) {x y : AV} {v : Value} {bs : List B} (hx : AR φ (wrs fb φ H) w x v) (h : frz1 H.m x = some (y, bs))
    (hbs : ∀ b ∈ bs, ∀ g s, φ b = some (g, s) → ¬ fb' g) : AR pnone fb' w y v := by
  unfold frz1 at h
  split at h
  · rename_i b lo n
    split at h
    · rename_i sz lv xs hb
      split at h
      · rename_i hfit
        injection h with h
        injection h with h1 h2
        subst h1; subst h2
        simp only [AR] at hx
        obtain ⟨g, s, cap, c0, ty, fz, k1, rfl, k3, k4, k5, k6⟩ := hx
        have hse := rows_sz hH hb k1
        subst hse
        obtain ⟨g', ty', c1, l1, l2, l3, l4, l5⟩ := hH.blk b _ hb
        rw [k1] at l1
        injection l1 with l1
        injection l1 with l1 _
        subst l1
        have hl : ((xs.drop lo).take n).length = n := by simp; omega
        simp only [AR]
        refine ⟨_, cap, by rw [hl], by rw [hl]; exact k5, k6, fun _ => ⟨_, rfl, rfl, hbs b (by simp) g s k1, (hH.phw _ _ _ k1).1, ARr.mk fun j r hj => ?_⟩⟩
        rw [List.getElem?_take, List.getElem?_drop] at hj
        split at hj
        · obtain ⟨q1, q2⟩ := l5.get (lo + j) r hj
          refine ⟨q1, ?_⟩
          rw [add_spot rfl] at q2 ⊢
          simp only [Nat.zero_add] at q2 ⊢
          rw [Nat.add_mul] at q2
          exact ARc.mk q2.ones fun k c hk => by
            obtain ⟨u, r1, r2⟩ := q2.get k c hk
            exact ⟨u, r1, AR.keep (wr_less hle pnone w) _ _ r2⟩
        · cases hj
      · cases h
    · cases h
  · split at h
    · rename_i hp
      injection h with h
      injection h with h1 h2
      subst h1
      exact AR.keep (wr_less hle pnone w) _ _ (hx.down hp)
    · cases h
theorem frzL_ok (hH : HR fb φ H w) {fb' : Nat → Prop} (hle : ∀ g, fb' g → wrs fb φ H g) : ∀ {xs ys : List AV} {vs : List Value} {bs : List B}, ARl φ (wrs fb φ H) w xs vs → frzL H.m xs = some (ys, bs) →
    (∀ b ∈ bs, ∀ g s, φ b = some (g, s) → ¬ fb' g) → ARl pnone fb' w ys vs
  | [], ys, vs, bs, hx, h, _ => by
    injection h with h
    injection h with h1 h2
    subst h1
    simpa only [ARl] using hx
  | x :: xs, ys, vs, bs, hx, h, hbs => by
    unfold frzL at h
    split at h
    · rename_i y b1 ys' b2 h1 h2
      injection h with h
      injection h with e1 e2
      subst e1; subst e2
      simp only [ARl] at hx ⊢
      obtain ⟨v, vs', q1, q2, q3⟩ := hx
      exact ⟨v, vs', q1, frz1_ok hH hle q2 h1 (fun b hb => hbs b (List.mem_append_left _ hb)), frzL_ok hH hle q3 h2 (fun b hb => hbs b (List.mem_append_right _ hb))⟩
    · cases h
theorem frz_ok (hH : HR fb φ H w) {fb' : Nat → Prop} (hle : ∀ g, fb' g → wrs fb φ H g) {x y : AV} {v : Value} {bs : List B} (hx : AR φ (wrs fb φ H) w x v) (h : frz H.m x = some (y, bs))
    (hbs : ∀ b ∈ bs, ∀ g s, φ b = some (g, s) → ¬ fb' g) : AR pnone fb' w y v := by
  unfold frz at h
  split at h
  · split at h
    · rename_i ds cs h1
      injection h with h
      injection h with e1 e2
      subst e1; subst e2
      simp only [AR] at hx ⊢
      obtain ⟨vs, q1, q2⟩ := hx
      exact ⟨vs, q1, frzL_ok hH hle q2 h1 hbs⟩
    · cases h
  · exact frz1_ok hH hle hx h hbs
theorem frzs_ok (hH : HR fb φ H w) {fb' : Nat → Prop} (hle : ∀ g, fb' g → wrs fb φ H g) : ∀ {xs ys : List AV} {vs : List Value} {bs : List B}, ARl φ (wrs fb φ H) w xs vs → frzs H.m xs = some (ys, bs) →
    (∀ b ∈ bs, ∀ g s, φ b = some (g, s) → ¬ fb' g) → ARl pnone fb' w ys vs
  | [], ys, vs, bs, hx, h, _ => by
    injection h with h
    injection h with h1 h2
    subst h1
    simpa only [ARl] using hx
  | x :: xs, ys, vs, bs, hx, h, hbs => by
    unfold frzs at h
    split at h
    · rename_i y b1 ys' b2 h1 h2
      injection h with h
      injection h with e1 e2
      subst e1; subst e2
      simp only [ARl] at hx ⊢
      obtain ⟨v, vs', q1, q2, q3⟩ := hx
      exact ⟨v, vs', q1, frz_ok hH hle q2 h1 (fun b hb => hbs b (List.mem_append_left _ hb)), frzs_ok hH hle q3 h2 (fun b hb => hbs b (List.mem_append_right _ hb))⟩
    · cases h
end
end Go.Za
