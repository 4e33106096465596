/- The abstract machine, part 15: a region, in the order of the text and in any other. No condition. -/
import Derived.Test.YtaabgjmcikolfaaGreatDoorZa14
set_option linter.unusedVariables false
set_option linter.unusedSimpArgs false
namespace Go.Za
open Go.RowKit

section
variable {P : Program} {fb : Nat → Prop} {φ φ' : Phi} {w w' : World}

theorem img_me {m m' : Tr Blk} {nx nx' : B} (h : ME m m') : img φ ⟨m, nx⟩ = img φ ⟨m', nx'⟩ := by
  funext g
  apply propext
  constructor
  · rintro ⟨p, k, sz, h1, h2⟩
    exact ⟨p, k, sz, (h p).symm.trans h1, h2⟩
  · rintro ⟨p, k, sz, h1, h2⟩
    exact ⟨p, k, sz, (h p).trans h1, h2⟩
theorem wrs_me {m m' : Tr Blk} {nx nx' : B} (h : ME m m') : wrs fb φ ⟨m, nx⟩ = wrs fb φ ⟨m', nx'⟩ := by
  funext g
  simp only [wrs, img_me (φ := φ) (nx := nx) (nx' := nx') h]
theorem HR.me {m m' : Tr Blk} {nx : B} (h : ME m m') (hH : HR fb φ ⟨m, nx⟩ w) : HR fb φ ⟨m', nx⟩ w :=
  ⟨fun p k hp => hH.lt p k ((h p).trans hp), hH.phl, hH.phw, fun p q g s t k k' h1 h2 => hH.inj p q g s t k k' ((h p).trans h1) ((h q).trans h2),
   fun p k hp => by rw [← wrs_me (nx := nx) h]; exact hH.blk p k ((h p).trans hp), hH.fbl⟩
theorem Ext.me {m m' : Tr Blk} {nx : B} {H : Hp} (h : ME m m') (hE : Ext fb φ H w φ' ⟨m, nx⟩ w') : Ext fb φ H w φ' ⟨m', nx⟩ w' :=
  ⟨hE.os, hE.tape, hE.output, hE.size, hE.old, hE.shape, hE.phi, fun g hg hi => hE.img g hg (by rw [img_me (nx' := nx) h]; exact hi)⟩
theorem FR.fe {wr : Nat → Prop} {fr fr' : Tr AV} {tmps : Array Value} (h : FE fr fr') (hF : FR φ wr w fr tmps) : FR φ wr w fr' tmps :=
  fun t v hv => hF t v ((h _).trans hv)

def NmO (nx : B) (φ : Phi) : Option Rec → Prop
  | some r => r.lo.toNat ≤ r.hi.toNat ∧ r.hi.toNat ≤ nx.toNat ∧ ∀ p : B, r.lo.toNat ≤ p.toNat → p.toNat < r.hi.toNat → φ p = none
  | none => True
def OutO (p : B) : Option Rec → Prop
  | some r => p.toNat < r.lo.toNat ∨ r.hi.toNat ≤ p.toNat
  | none => True
/-- One statement of a region. -/
theorem stm_ok {rnd : Option Nat} {ops : Array Oper} {i : Nat} {o : Oper} {hint : Bool} {s : Stm} {a : Act} {Q : Exit → Act → World → Prop} (hi : ops[i]? = some o) (hc : cStm P ops hint o = some s) (hd : ∀ d, o.dst = some d → d < a.tmps.size)
    {fr : Tr AV} {m : Tr Blk} {nx0 nx : B} (hH : HR fb φ ⟨m, nx0⟩ w) (hF : FR φ (wrs fb φ ⟨m, nx0⟩) w fr a.tmps) {ro : Option Rec} (h : Did1 P fr m s ro) (hnx : nx0.toNat ≤ nx.toNat) (hn : NmO nx φ ro) {K : Act → World → Prop}
    (k : ∀ φ' a' w', a'.tmps.size = a.tmps.size → a'.defers = a.defers → Ext fb φ ⟨m, nx0⟩ w φ' ⟨onO m ro, nx⟩ w' → HR fb φ' ⟨onO m ro, nx⟩ w' → FR φ' (wrs fb φ' ⟨onO m ro, nx⟩) w' (putA fr s.dst (valO ro)) a'.tmps →
      (∀ p, OutO p ro → φ' p = φ p) → K a' w') : wpOpIn (FW rnd) 0 P ops Q i K a w := by
  unfold cStm at hc
  split at hc
  · rename_i g act hg hact
    injection hc with hc
    subst hc
    have hput : ∀ (cv : Value), (a.put o.dst cv).tmps.size = a.tmps.size ∧ (a.put o.dst cv).defers = a.defers := by
      intro cv
      cases o.dst with
      | none => exact ⟨rfl, rfl⟩
      | some d => simp [Act.put]
    have hset : ∀ {ψ : Phi} {wr : Nat → Prop} {w1 : World} {v : AV} {cv : Value}, FR ψ wr w1 fr a.tmps → AR ψ wr w1 v cv → FR ψ wr w1 (putA fr (o.dst.map path) v) (a.put o.dst cv).tmps := by
      intro ψ wr w1 v cv hf hv
      cases ho : o.dst with
      | none => exact hf
      | some d => exact hf.set (hd d ho) hv
    unfold wpOpIn
    simp only [hi]
    cases ro with
    | none =>
      simp only [Did1] at h
      rw [gd_ok hF hg h]
      simp only [Bool.false_eq_true, if_false]
      refine ⟨fun _ _ => trivial, ?_⟩
      refine k φ _ w (hput _).1 (hput _).2 (Ext.stay hH nx) (HR.stay hH nx hnx) (hset (hF.keep (Ext.stay hH nx).keep) ?_) (fun _ _ => rfl)
      simp only [valO, AR, ARl]
      exact ⟨[], rfl, rfl⟩
    | some r =>
      simp only [Did1] at h
      rw [gd_ok hF hg h.1]
      simp only [if_true]
      refine (does_ok hact hH hF h.2 hnx hn.2.1 hn.2.2 ?_)
      rintro φ' cv w' ⟨h1, h2, h3, h4⟩
      exact k φ' _ w' (hput _).1 (hput _).2 h1 h2 (hset (hF.keep h1.keep) h3) h4
  · cases hc

/-- What is known of the compiled statements. -/
def Cmp (P : Program) (ops : Array Oper) (n : Nat) (i : Nat) (s : Stm) : Prop := ∃ o hint, ops[i]? = some o ∧ cStm P ops hint o = some s ∧ ∀ d, o.dst = some d → d < n
def Seqd : Option Rec → Option Rec → Prop
  | some r, some q => r.hi.toNat ≤ q.lo.toNat
  | _, _ => True
theorem nm_next {nx : B} {ro q : Option Rec} (h : ∀ p, OutO p ro → φ' p = φ p) (hs : Seqd ro q ∨ Seqd q ro) (hr : NmO nx φ ro) (hq : NmO nx φ q) : NmO nx φ' q := by
  cases q with
  | none => trivial
  | some q =>
    refine ⟨hq.1, hq.2.1, fun p h1 h2 => ?_⟩
    rw [h p]
    · exact hq.2.2 p h1 h2
    · cases ro with
      | none => trivial
      | some r =>
        simp only [OutO]
        have := hr.1
        rcases hs with hs | hs <;> simp only [Seqd] at hs <;> omega

/-- In the order of the text. -/
theorem text_ok {rnd : Option Nat} {ops : Array Oper} {Q : Exit → Act → World → Prop} {nx : B} : ∀ (L : List It) {φ : Phi} {w : World} {a : Act} {fr : Tr AV} {m : Tr Blk}, (∀ it ∈ L, Cmp P ops a.tmps.size it.1 it.2.1) →
    HR fb φ ⟨m, nx⟩ w → FR φ (wrs fb φ ⟨m, nx⟩) w fr a.tmps → Run P L fr m → (∀ it ∈ L, NmO nx φ it.2.2) → L.Pairwise (fun x y => Seqd x.2.2 y.2.2) →
    (∀ φ' a' w', a'.tmps.size = a.tmps.size → a'.defers = a.defers → (∀ p, (∀ it ∈ L, OutO p it.2.2) → φ' p = φ p) → Ext fb φ ⟨m, nx⟩ w φ' ⟨finM L m, nx⟩ w' → HR fb φ' ⟨finM L m, nx⟩ w' → FR φ' (wrs fb φ' ⟨finM L m, nx⟩) w' (finF L fr) a'.tmps → Q .normal a' w') →
    wpOpsIn (FW rnd) 0 P ops Q (L.map (·.1)) a w
  | [], φ, w, a, fr, m, _, hH, hF, _, _, _, k => k φ a w rfl rfl (fun _ _ => rfl) (Ext.refl ..) hH hF
  | (i, s, ro) :: L, φ, w, a, fr, m, hc, hH, hF, hr, hn, hs, k => by
    obtain ⟨o, hint, ho, hcs, hd⟩ := hc _ (List.mem_cons_self ..)
    rw [List.map_cons, wpOpsIn_cons]
    refine stm_ok ho hcs hd hH hF hr.1 (Nat.le_refl _) (hn _ (List.mem_cons_self ..)) ?_
    intro φ1 a1 w1 hsz hdf hE hH1 hF1 hout
    refine text_ok L (fun it hit => hsz ▸ hc it (List.mem_cons_of_mem _ hit)) hH1 hF1 hr.2 (fun it hit => nm_next hout (.inl ((List.pairwise_cons.1 hs).1 it hit)) (hn _ (List.mem_cons_self ..)) (hn it (List.mem_cons_of_mem _ hit)))
      (List.pairwise_cons.1 hs).2 ?_
    intro φ2 a2 w2 e1 e2 hp hE2 hH2 hF2
    exact k φ2 a2 w2 (e1.trans hsz) (e2.trans hdf) (fun p hq => (hp p fun it hit => hq it (List.mem_cons_of_mem _ hit)).trans (hout p (hq _ (List.mem_cons_self ..)))) (hE.trans hE2) hH2 hF2
end
end Go.Za
