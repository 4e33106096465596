/- The abstract machine, part 20: what is known may be forgotten, and blocks renamed. No condition. -/
import Derived.Test.YtaabgjmcikolfaaGreatDoorZb2
set_option linter.unusedVariables false
set_option linter.unusedSimpArgs false
namespace Go.Za
open Go.RowKit
section
variable {ρ : B → Option B} {φ : Phi} {wr wr' : Nat → Prop} {w : World}
structure WkR (ρ : B → Option B) (lim : B) (fr1 : Tr AV) (H1 : Hp) (fr : Tr AV) (H : Hp) : Prop where
  low : ∀ p : B, p.toNat < lim.toNat → ρ p = some p
  up : ∀ p q, ρ p = some q → p.toNat < H1.nx.toNat
  frm : ∀ p v, fr1.get p = some v → ∃ y, fr.get p = some y ∧ v.rnm ρ = some y
  blk : ∀ p k, H1.m.get p = some k → ∃ q j, ρ p = some q ∧ H.m.get q = some j ∧ k.rnm ρ = some j
  inj : ∀ p p' k k', H1.m.get p = some k → H1.m.get p' = some k' → ρ p = ρ p' → p = p'
/-- From (fr, H) one may go on as if it were (fr1, H1). lim: the names below it stay. -/
def Wk (lim : B) (fr1 : Tr AV) (H1 : Hp) (fr : Tr AV) (H : Hp) : Prop :=
  (H1 = H ∧ ∀ p v, fr1.get p = some v → fr.get p = some v) ∨ ∃ ρ, WkR ρ lim fr1 H1 fr H
theorem Wk.refl (lim : B) (fr : Tr AV) (H : Hp) : Wk lim fr H fr H := .inl ⟨rfl, fun _ _ h => h⟩
theorem wk_ok {fb : Nat → Prop} {lim : B} {fr1 fr : Tr AV} {H1 H : Hp} {tmps : Array Value} (hH : HR fb φ H w) (hF : FR φ (wrs fb φ H) w fr tmps) (hk : Wk lim fr1 H1 fr H) :
    ∃ φ1, HR fb φ1 H1 w ∧ FR φ1 (wrs fb φ1 H1) w fr1 tmps ∧ (∀ p : B, p.toNat < lim.toNat → φ1 p = φ p) ∧ ∀ g, img φ1 H1 g → img φ H g := by
  rcases hk with ⟨rfl, h⟩ | ⟨ρ, hr⟩
  · exact ⟨φ, hH, fun t v hv => hF t v (h _ _ hv), fun _ _ => rfl, fun _ h => h⟩
  · have hphi : ∀ p x, PhiR ρ φ p = some x → ∃ q, ρ p = some q ∧ φ q = some x := by
      intro p x hx
      simp only [PhiR, Option.bind_eq_some_iff] at hx
      exact hx
    have himg : ∀ g, img (PhiR ρ φ) H1 g → img φ H g := by
      rintro g ⟨p, k, sz, h1, h2, h3⟩
      obtain ⟨q, j, h4, h5, h6⟩ := hr.blk p k h1
      obtain ⟨q', h7, h8⟩ := hphi _ _ h3
      rw [h4] at h7
      injection h7 with h7
      subst h7
      exact ⟨q, j, sz, h5, (rnm_wrt h6) ▸ h2, h8⟩
    have hw : ∀ g, wrs fb (PhiR ρ φ) H1 g → wrs fb φ H g := fun g hg => hg.elim .inl (fun hi => .inr (himg g hi))
    refine ⟨PhiR ρ φ, ⟨fun p k hp => ?_, fun p x hx => ?_, fun p g sz hx => ?_, fun p p' g s t k k' h1 h2 a1 a2 e1 e2 => ?_, fun p k hp => ?_, hH.fbl⟩, fun t v hv => ?_, fun p hp => by simp [PhiR, hr.low p hp], himg⟩
    · obtain ⟨q, j, h4, _⟩ := hr.blk p k hp
      exact hr.up p q h4
    · obtain ⟨q, h4, _⟩ := hphi _ _ hx
      exact hr.up p q h4
    · obtain ⟨q, _, h4⟩ := hphi _ _ hx
      exact hH.phw q g sz h4
    · obtain ⟨q, j, b1, b2, b3⟩ := hr.blk p k h1
      obtain ⟨q', j', c1, c2, c3⟩ := hr.blk p' k' h2
      obtain ⟨x, d1, d2⟩ := hphi _ _ e1
      obtain ⟨x', d3, d4⟩ := hphi _ _ e2
      rw [b1] at d1; injection d1 with d1; subst d1
      rw [c1] at d3; injection d3 with d3; subst d3
      have := hH.inj q q' g s t j j' b2 c2 ((rnm_wrt b3) ▸ a1) ((rnm_alive c3) ▸ a2) d2 d4
      subst this
      exact hr.inj p p' k k' h1 h2 (b1.trans c1.symm)
    · obtain ⟨q, j, h4, h5, h6⟩ := hr.blk p k hp
      exact BR.rnm hw h4 h6 (hH.blk q j h5)
    · obtain ⟨y, h4, h5⟩ := hr.frm _ _ hv
      exact AR.rnm hw v h5 (hF t y h4)
end
end Go.Za
