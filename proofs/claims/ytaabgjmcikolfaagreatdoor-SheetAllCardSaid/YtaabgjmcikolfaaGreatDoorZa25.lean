/- The abstract machine, part 25: rules for a walk with unknowns. No condition. -/
import Derived.Test.YtaabgjmcikolfaaGreatDoorZa24
set_option linter.unusedVariables false
namespace Go.Za
/-- The operations of a region, up to the first call. -/
def evO : List Stm → Tr AV → Hp → Option (List Stm × Tr AV × Hp)
  | [], fr, H => some ([], fr, H)
  | ⟨dst, gd, act⟩ :: ss, fr, H => match gdA fr gd with
    | some true => match act with
      | .op x => match aop fr H.m H.nx x with
        | some (v, e) => evO ss (putA fr dst v) (H.app e)
        | none => none
      | act => some (⟨dst, gd, act⟩ :: ss, fr, H)
    | some false => evO ss (putA fr dst (.tu [])) H
    | none => none
def evOK (o : Option (List Stm × Tr AV × Hp)) (K : List Stm → Tr AV → Hp → Prop) : Prop := match o with
  | some (ss, fr, H) => K ss fr H
  | none => False
section
variable {P : Program} {Y : YT} {out : Bool} {lim : B} {K : Post} {fr : Tr AV} {H : Hp}
theorem awT_ops : ∀ {ss : List Stm} {fr : Tr AV} {H : Hp} {K : Tr AV → Hp → Prop}, evOK (evO ss fr H) (fun ss fr H => awT P Y ss fr H K) → awT P Y ss fr H K
  | [], fr, H, K, h => h
  | ⟨dst, gd, act⟩ :: ss, fr, H, K, h => by
    unfold evO at h
    split at h
    · rename_i hg
      split at h
      · rename_i x
        split at h
        · rename_i v e hx
          unfold awT
          simp only [hg, hx]
          exact awT_ops h
        · exact h.elim
      · exact h
    · rename_i hg
      unfold awT
      simp only [hg]
      exact awT_ops h
    · exact h.elim
theorem awT_call {dst : Option B} {i : Bool} {x : Opd} {args : List Opd} {ss : List Stm} {K : Tr AV → Hp → Prop} {f : Nat} {cs xs : List AV} (hx : x.ev fr = .fn f cs) (ha : args.map (Opd.ev fr) ++ cs = xs) {R : AV → Hp → Prop} (hI : ICall P f xs H R)
    (h : ∀ v H', R v H' → awT P Y ss (putA fr dst v) H' K) : awT P Y (⟨dst, none, .call i x args⟩ :: ss) fr H K := by
  unfold awT
  simp only [gdA]
  subst ha
  exact .inl ⟨f, cs, hx, hI.mono h⟩
theorem awT_callG {dst : Option B} {g : B × Bool} {i : Bool} {x : Opd} {args : List Opd} {ss : List Stm} {K : Tr AV → Hp → Prop} {f : Nat} {cs xs : List AV} (hg : gdA fr (some g) = some true) (hx : x.ev fr = .fn f cs) (ha : args.map (Opd.ev fr) ++ cs = xs) {R : AV → Hp → Prop} (hI : ICall P f xs H R)
    (h : ∀ v H', R v H' → awT P Y ss (putA fr dst v) H' K) : awT P Y (⟨dst, some g, .call i x args⟩ :: ss) fr H K := by
  unfold awT
  simp only [hg]
  subst ha
  exact .inl ⟨f, cs, hx, hI.mono h⟩
theorem awT_nil (K : Tr AV → Hp → Prop) : awT P Y [] fr H K = K fr H := rfl
theorem awT_callP {dst : Option B} {g : Option (B × Bool)} {x : Opd} {args : List Opd} {ss : List Stm} {K : Tr AV → Hp → Prop} {f : Nat} {cs ys : List AV} {v : AV} (hg : gdA fr g = some true) (hx : x.ev fr = .fn f cs) (hf : frzs H.m (args.map (Opd.ev fr) ++ cs) = some (ys, []))
    (hP : PCall P f ys v) (h : awT P Y ss (putA fr dst v) H K) : awT P Y (⟨dst, g, .call false x args⟩ :: ss) fr H K := by
  unfold awT
  simp only [hg]
  refine .inr (.inl ⟨_, .callP (lo := H.nx) hx hf hP, rfl, Nat.le_refl _, ?_⟩)
  have e : (⟨EffX.on H.m (.sl (if v.flat then [] else [])), H.nx⟩ : Hp) = H := by
    have : (if v.flat then ([] : List B) else []) = [] := by split <;> rfl
    rw [this]
    rfl
  simp only [e]
  exact h
theorem awT_yl {dst : Option B} {i : Bool} {x : Opd} {args : List Opd} {ss : List Stm} {K : Tr AV → Hp → Prop} {b : B} (hx : x.ev fr = .yl b) (h : Y b (args.map (Opd.ev fr)) H fun v H' => awT P Y ss (putA fr dst v) H' K) :
    awT P Y (⟨dst, none, .call i x args⟩ :: ss) fr H K := by
  unfold awT
  simp only [gdA]
  exact .inr (.inr ⟨b, hx, h⟩)
theorem aw_rg {ss : List Stm} (h : awT P Y ss fr H fun fr H => K .n fr H) : AW P Y out lim (.rg ss) K fr H := h
theorem aw_seq {a b : AC} (h : AW P Y out lim a (thenA (AW P Y out lim b K) K) fr H) : AW P Y out lim (.seq a b) K fr H := h
theorem aw_skip (h : K .n fr H) : AW P Y out lim .skip K fr H := h
theorem aw_ret (h : K .r fr H) : AW P Y out lim .ret K fr H := h
theorem aw_exit {id : Nat} (h : K (.x id) fr H) : AW P Y out lim (.exit id) K fr H := h
theorem aw_block {id : Nat} {b : AC} (h : AW P Y out lim b (inB id K) fr H) : AW P Y out lim (.block id b) K fr H := h
theorem aw_rngf {fo : Opd} {n : Nat} {ps : List Nat} {cas cbd : Code} {asg body : AC} {f : Nat} {cs : List AV} (hf : fo.ev fr = .fn f cs)
    (h : ICallY P (Yr (fun J fr H => AW P Y0 false H.nx asg J fr H) (fun J fr H => AW P Y0 false H.nx body J fr H) H.nx n ps cas cbd fr) f (.yl H.nx :: cs) (entY H n ps cas cbd fr) fun _ H' => aftY H.nx n ps cas cbd fr K H') :
    AW P Y true lim (.rngf fo n ps cas cbd asg body) K fr H := by
  simp only [AW]
  exact ⟨trivial, f, cs, hf, h⟩
theorem aw_t {c : Opd} {a b : AC} (hc : c.ev fr = .b true) (h : AW P Y out lim a K fr H) : AW P Y out lim (.cond c a b) K fr H := by
  simp only [AW, hc, if_true]; exact h
theorem aw_f {c : Opd} {a b : AC} (hc : c.ev fr = .b false) (h : AW P Y out lim b K fr H) : AW P Y out lim (.cond c a b) K fr H := by
  simp only [AW, hc, Bool.false_eq_true, if_false]; exact h
/-- A loop: what holds of its state, round by round; the last is the one that leaves it. -/
theorem aw_loop {b : AC} (N : Nat) (S : Nat → Tr AV → Hp → Prop)
    (hstep : ∀ i, i < N → ∀ J : Tr AV → Hp → Prop, (∀ fr H, S (i + 1) fr H → J fr H) → ∀ fr H, S i fr H → AW P Y out lim b (thenA (wkI lim J) K) fr H)
    (hend : ∀ J : Tr AV → Hp → Prop, ∀ fr H, S N fr H → AW P Y out lim b (thenA J K) fr H)
    (h0 : wkI lim (S 0) fr H) : AW P Y out lim (.loop b) K fr H := by
  simp only [AW]
  intro I hI
  have key : ∀ j i, i + j = N → ∀ fr H, S i fr H → I fr H := by
    intro j
    induction j with
    | zero => intro i hi fr H h; exact hI _ _ (hend _ _ _ (by rw [← hi]; exact h))
    | succ j ih => intro i hi fr H h; exact hI _ _ (hstep i (by omega) _ (ih (i + 1) (by omega)) _ _ h)
  obtain ⟨fr1, H1, h1, h2, h3⟩ := h0
  exact ⟨fr1, H1, h1, h2, key N 0 (by omega) _ _ h3⟩
/-- What is no more needed may be left out. -/
def subF : Tr AV → Tr AV → Prop
  | .e, _ => True
  | .n l v r, .e => v = none ∧ subF l .e ∧ subF r .e
  | .n l v r, .n l' v' r' => (match v with | none => True | some x => v' = some x) ∧ subF l l' ∧ subF r r'
theorem subF_get : ∀ {t t' : Tr AV}, subF t t' → ∀ p x, t.get p = some x → t'.get p = some x
  | .e, t', _, p, x, h => by rw [Tr.get_e] at h; cases h
  | .n l v r, .e, h, .e, x, hx => by simp only [Tr.get] at hx; rw [h.1] at hx; cases hx
  | .n l v r, .e, h, .l p, x, hx => by
    have := subF_get h.2.1 p x hx
    rw [Tr.get_e] at this
    cases this
  | .n l v r, .e, h, .r p, x, hx => by
    have := subF_get h.2.2 p x hx
    rw [Tr.get_e] at this
    cases this
  | .n l v r, .n l' v' r', h, .e, x, hx => by
    simp only [Tr.get] at hx
    subst hx
    exact h.1
  | .n l v r, .n l' v' r', h, .l p, x, hx => subF_get h.2.1 p x hx
  | .n l v r, .n l' v' r', h, .r p, x, hx => subF_get h.2.2 p x hx
theorem wkI_sub {J : Tr AV → Hp → Prop} {fr1 : Tr AV} (hs : subF fr1 fr) (hl : lim.toNat ≤ H.nx.toNat) (h : J fr1 H) : wkI lim J fr H :=
  ⟨fr1, H, .inl ⟨rfl, subF_get hs⟩, hl, h⟩
theorem Tr.set_same {α : Type} : ∀ {t : Tr α} {p : B} {x : α}, t.get p = some x → t.set p x = t
  | .e, p, x, h => by rw [Tr.get_e] at h; cases h
  | .n l v r, .e, x, h => by simp only [Tr.get] at h; simp only [Tr.set, h]
  | .n l v r, .l p, x, h => by simp only [Tr.get] at h; simp only [Tr.set, Tr.set_same h]
  | .n l v r, .r p, x, h => by simp only [Tr.get] at h; simp only [Tr.set, Tr.set_same h]
end
end Go.Za
