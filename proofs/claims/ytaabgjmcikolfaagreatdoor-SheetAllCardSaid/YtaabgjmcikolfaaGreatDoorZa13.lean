/- The abstract machine, part 13: statements; one statement, whatever it is, does what it says. No condition. -/
import Derived.Test.YtaabgjmcikolfaaGreatDoorZb1
import Derived.Test.YtaabgjmcikolfaaGreatDoorZx1
import Derived.CallsIn
import Derived.OrdersIn
import Derived.RangeFuncCalls
set_option linter.unusedVariables false
set_option linter.unusedSimpArgs false
namespace Go.Za
open Go.RowKit

inductive Act1 where
  | op (x : AOp)
  | call (imp : Bool) (x : Opd) (args : List Opd)
  | nxt (x : Opd)
  | ent (x : Opd)
structure Stm where
  dst : Option B
  gd : Option (B × Bool)
  act : Act1
def gdA (fr : Tr AV) : Option (B × Bool) → Option Bool
  | none => some true
  | some (g, want) => match fr.get g with
    | some (.b x) => some (x == want)
    | some (.tu []) => some false
    | _ => none
def putA (fr : Tr AV) (dst : Option B) (v : AV) : Tr AV :=
  match dst with
  | some d => fr.set d v
  | none => fr
/-- What a statement did. -/
structure Rec where
  v : AV
  rd : List Fp
  ef : EffX
  lo : B
  hi : B

/-! ### a part of a heap -/
def only (m : Tr Blk) : List B → Tr Blk
  | [] => .e
  | b :: bs => match m.get b with
    | some k => (only m bs).set b k
    | none => only m bs
def rD (D : List B) (p : B) : Option B := match bmem p D with
  | true => some p
  | false => none
theorem rD_eq (D : List B) (p : B) : rD D p = if p ∈ D then some p else none := by
  unfold rD
  by_cases h : p ∈ D
  · rw [if_pos h, bmem_iff.2 h]
  · rw [if_neg h]
    cases hb : bmem p D with
    | true => exact absurd (bmem_iff.1 hb) h
    | false => rfl
/-- All that the blocks of D lead to is in D. -/
def closed (m : Tr Blk) (D : List B) : Bool := D.all fun b => match m.get b with
  | some k => k.alive && (k.rnm (rD D)).isSome
  | none => false

inductive Does (P : Program) (fr : Tr AV) (m : Tr Blk) : Act1 → Rec → Prop
  | op {x : AOp} {v : AV} {e : Eff} {nb : B} (h : aop fr m nb x = some (v, e)) : Does P fr m (.op x) ⟨v, x.rds fr, .eff nb e, nb, if e.fresh then nb.succ else nb⟩
  | callP {x : Opd} {args : List Opd} {f : Nat} {cs ys : List AV} {bs : List B} {v : AV} {lo : B} (h1 : x.ev fr = .fn f cs) (h2 : frzs m (args.map (Opd.ev fr) ++ cs) = some (ys, bs)) (h3 : PCall P f ys v) :
      Does P fr m (.call false x args) ⟨v, bs.map .blk, .sl (if v.flat then [] else bs), lo, lo⟩
  | callD {x : Opd} {args : List Opd} {f : Nat} {cs : List AV} {D : List B} {v : AV} {H' : Hp} {m0 : Tr Blk} {lo : B} (h1 : x.ev fr = .fn f cs) (h2 : closed m D = true)
      (h3 : (rnmL (rD D) (args.map (Opd.ev fr) ++ cs)).isSome = true) (h4 : ∀ b ∈ D, b.toNat < lo.toNat)
      (h5 : ICall P f (args.map (Opd.ev fr) ++ cs) ⟨only m D, lo⟩ fun v' H'' => v' = v ∧ H'' = H')
      (h6 : ∀ p, H'.m.get p = ((only m D).over m0).get p) (h7 : ∀ p k, m0.get p = some k → p ∈ D ∨ lo.toNat ≤ p.toNat) :
      Does P fr m (.call true x args) ⟨v, D.map .blk, .over m0, lo, H'.nx⟩
section
variable {P : Program} {fb : Nat → Prop} {φ : Phi} {w : World}

def cOpB (P : Program) (own : Bool) (op : Op) : AOp :=
  match cX P op with
  | some x => x
  | none => match cOp P own op with
    | some x => x
    | none => .ex .bad []
def cAct (P : Program) (hint : Bool) (op : Op) : Option Act1 :=
  match op with
  | .next x false => (cOpd x).map .nxt
  | .entry x => (cOpd x).map .ent
  | .call { callee := .value f, args, argTypes } => match cX P (.call { callee := .value f, args, argTypes }) with
    | some x => some (.op x)
    | none => match cOpd f, cOpds args.toList with
      | some x, some l => some (.call hint x l)
      | _, _ => none
  | op => some (.op (cOpB P hint op))
theorem cOp_defer {own : Bool} {op : Op} {x : AOp} (h : cOp P own op = some x) : ∀ c, op ≠ .defer c := by
  intro c e
  subst e
  simp [cOp] at h
theorem cAct_op {hint : Bool} {op : Op} {x : AOp} (h : cAct P hint op = some (.op x)) : cX P op = some x ∨ cOp P hint op = some x ∨ x = .ex .bad [] := by
  have hB : ∀ {y : AOp}, cOpB P hint op = y → cX P op = some y ∨ cOp P hint op = some y ∨ y = .ex .bad [] := by
    intro y hy
    unfold cOpB at hy
    split at hy
    · rename_i h1; subst hy; exact .inl h1
    · split at hy
      · rename_i h1; subst hy; exact .inr (.inl h1)
      · subst hy; exact .inr (.inr rfl)
  unfold cAct at h
  split at h
  · cases hx : cOpd _ with
    | none => rw [hx] at h; cases h
    | some y => rw [hx] at h; injection h with h; cases h
  · cases hx : cOpd _ with
    | none => rw [hx] at h; cases h
    | some y => rw [hx] at h; injection h with h; cases h
  · split at h
    · rename_i y hy
      injection h with h; injection h with h; subst h
      exact .inl hy
    · split at h
      · injection h with h; cases h
      · cases h
  · injection h with h; injection h with h
    exact hB h
theorem cAct_call {hint i : Bool} {op : Op} {x : Opd} {l : List Opd} (h : cAct P hint op = some (.call i x l)) : ∃ f args tys, op = .call { callee := .value f, args, argTypes := tys } ∧ cOpd f = some x ∧ cOpds args.toList = some l := by
  unfold cAct at h
  split at h
  · cases hx : cOpd _ with
    | none => rw [hx] at h; cases h
    | some y => rw [hx] at h; injection h with h; cases h
  · cases hx : cOpd _ with
    | none => rw [hx] at h; cases h
    | some y => rw [hx] at h; injection h with h; cases h
  · split at h
    · injection h with h; cases h
    · split at h
      · injection h with h
        injection h with h3 h4 h5
        subst h4; subst h5
        exact ⟨_, _, _, rfl, by assumption, by assumption⟩
      · cases h
  · injection h with h; cases h

/-! ### frames in a round, and others -/
/-- The fence that shuts out nothing; ro: in which round a frame is. -/
def FW (ro : Option Nat) : Fence := { Fence.wide with round := ro }
theorem callsIn_fw {ro : Option Nat} {n : Nat} {f : FuncId} {args : Array Value} {w : World} {R : Ending → World → Prop} (h : Calls P f args w R) : CallsIn (FW ro) n P f args w R :=
  (callsIn_wide (n := n)).2 h
theorem wp_val {ro : Option Nat} {o : Oper} {a : Act} {K : Act → World → Prop} {Q : Exit → Act → World → Prop} (hop : ∀ c, o.op ≠ .defer c) {nxt : Next} {cv : Value} {w' : World} (hr : (execOp a.eval o).run P w = .ok nxt w') (hn : nxt = .value cv ∨ (nxt = .skip ∧ cv = undef))
    (k : K (a.put o.dst cv) w') : o.wpIn (FW ro) 0 P a w K Q := by
  refine ⟨fun _ _ => trivial, ?_⟩
  have e : o.semAt (FW ro).round a.eval = execOp a.eval o := Oper.semAt_eq _ _ _ hop
  rw [e, hr]
  rcases hn with rfl | ⟨rfl, rfl⟩
  · exact k
  · exact k
theorem wp_ent {ro : Option Nat} {o : Oper} {a : Act} {K : Act → World → Prop} {Q : Exit → Act → World → Prop} (hop : ∀ c, o.op ≠ .defer c) {f : FuncId} {args : Array Value} {w' : World} (hr : (execOp a.eval o).run P w = .ok (.enter f args) w')
    (k : Calls P f args w' fun e w'' => ∃ cv, e = .returned cv ∧ K (a.put o.dst cv) w'') : o.wpIn (FW ro) 0 P a w K Q := by
  refine ⟨fun _ _ => trivial, ?_⟩
  have e : o.semAt (FW ro).round a.eval = execOp a.eval o := Oper.semAt_eq _ _ _ hop
  rw [e, hr]
  refine ⟨fun h => (by cases h), (callsIn_fw k).mono ?_⟩
  rintro _ w'' ⟨cv, rfl, hk⟩
  exact hk
def cGd (ops : Array Oper) : Option (Nat × Bool) → Option (Option (B × Bool))
  | none => some none
  | some (g, want) => match ops[g]? with
    | some o => match o.dst with
      | some t => some (some (path t, want))
      | none => none
    | none => none
def cStm (P : Program) (ops : Array Oper) (hint : Bool) (o : Oper) : Option Stm :=
  match cGd ops o.guard, cAct P hint o.op with
  | some g, some a => some ⟨o.dst.map path, g, a⟩
  | _, _ => none

theorem gd_ok {ops : Array Oper} {a : Act} {wr : Nat → Prop} {fr : Tr AV} (hF : FR φ wr w fr a.tmps) {o : Oper} {g : Option (B × Bool)} (hg : cGd ops o.guard = some g) {t : Bool} (h : gdA fr g = some t) :
    Region.wanted o (yielded ops a.tmps) = t := by
  unfold Region.wanted
  cases ho : o.guard with
  | none =>
    rw [ho] at hg
    injection hg with hg; subst hg
    injection h
  | some gw =>
    obtain ⟨g0, want⟩ := gw
    rw [ho] at hg
    simp only [cGd] at hg
    split at hg
    · rename_i o1 ho1
      split at hg
      · rename_i d hd
        injection hg with hg; subst hg
        simp only [gdA] at h
        have hy : ∀ u, a.tmps[d]? = u → yielded ops a.tmps g0 = match u with | some (.bool b) => some b | _ => none := by
          intro u hu
          simp only [yielded, ho1, Option.bind_some, hd, hu]
          rcases u with _ | v
          · rfl
          · cases v <;> rfl
        split at h
        · rename_i x hx
          injection h with h; subst h
          have h1 := hF d _ hx
          simp only [AR] at h1
          have h2 : a.tmps[d]? = some (.bool x) := by
            rw [Array.getD_eq_getD_getElem?] at h1
            cases hv : a.tmps[d]? with
            | none => rw [hv] at h1; simp [undef] at h1
            | some v => rw [hv] at h1; simpa using h1
          simp only [hy _ h2]
          cases x <;> cases want <;> rfl
        · rename_i hx
          injection h with h; subst h
          have h1 := hF d _ hx
          simp only [AR, ARl] at h1
          obtain ⟨vs, h1, h2⟩ := h1
          subst h2
          rw [Array.getD_eq_getD_getElem?] at h1
          cases hv : a.tmps[d]? with
          | none => simp only [hy _ hv]; rfl
          | some v =>
            rw [hv] at h1
            simp only [Option.getD_some] at h1
            subst h1
            simp only [hy _ hv]; rfl
        · cases h
      · cases hg
    · cases hg

/-- What is known behind a statement. -/
def After (fb : Nat → Prop) (φ : Phi) (H : Hp) (w : World) (nx : B) (r : Rec) (φ' : Phi) (cv : Value) (w' : World) : Prop :=
  Ext fb φ H w φ' ⟨r.ef.on H.m, nx⟩ w' ∧ HR fb φ' ⟨r.ef.on H.m, nx⟩ w' ∧ AR φ' (wrs fb φ' ⟨r.ef.on H.m, nx⟩) w' r.v cv ∧ ∀ p, p.toNat < r.lo.toNat ∨ r.hi.toNat ≤ p.toNat → φ' p = φ p

theorem callP_ok {H : Hp} (hH : HR fb φ H w) {f : Nat} {xs ys : List AV} {vs : List Value} {bs : List B} {v : AV} {lo nx : B} (hx : ARl φ (wrs fb φ H) w xs vs) (h2 : frzs H.m xs = some (ys, bs)) (h3 : PCall P f ys v)
    (hb : ∀ b ∈ bs, ∃ sz lv p xs, H.m.get b = some (.rows sz lv p xs)) (hnx : H.nx.toNat ≤ nx.toNat) :
    Calls P f vs.toArray w fun e w' => ∃ cv φ', e = .returned cv ∧ After fb φ H w nx ⟨v, bs.map .blk, .sl (if v.flat then [] else bs), lo, lo⟩ φ' cv w' := by
  by_cases hf : v.flat = true
  · have ha : ARl pnone fb w ys vs := frzs_ok hH (fun g hg => .inl hg) hx h2 (fun b _ g s hg => (hH.phw b g s hg).2)
    refine (h3.2 fb w vs hH.fbl ha).mono ?_
    rintro e w' ⟨cv, rfl, hbel, hr⟩
    refine ⟨cv, φ, rfl, ?_, ?_, flat_ok hr hf, fun _ _ => rfl⟩
    · simp only [hf, if_true, EffX.on, sealM]
      exact (Ext.stay hH nx).trans (Ext.below hbel)
    · simp only [hf, if_true, EffX.on, sealM]
      exact (HR.stay hH nx hnx).below hbel
  · have hS := hH.sealK bs nx hnx
    have hno : ∀ b ∈ bs, ∀ g s, φ b = some (g, s) → ¬ wrs fb φ ⟨sealM H.m bs, nx⟩ g := by
      rintro b hb' g s hg (h | ⟨p, k, sz, q1, q2, q3⟩)
      · exact (hH.phw b g s hg).2 h
      · rw [sealM_get] at q1
        obtain ⟨sz1, lv, pr, xs1, hb1⟩ := hb b hb'
        by_cases hp : p ∈ bs
        · rw [if_pos hp] at q1
          obtain ⟨sz2, lv2, pr2, xs2, hb2⟩ := hb p hp
          rw [hb2] at q1
          injection q1 with q1
          subst q1
          simp [Blk.sealK, Blk.wrt] at q2
        · rw [if_neg hp] at q1
          exact hp (hH.inj p b g sz s k _ q1 hb1 q2 rfl q3 hg ▸ hb')
    have ha : ARl pnone (wrs fb φ ⟨sealM H.m bs, nx⟩) w ys vs := frzs_ok hH (fun g hg => hg.elim .inl (fun hi => .inr (seal_img hi))) hx h2 hno
    refine (h3.2 _ w vs (fun g hg => hg.elim (hH.fbl g) (fun hi => hS.old_lt hi)) ha).mono ?_
    rintro e w' ⟨cv, rfl, hbel, hr⟩
    have he : Ext fb φ H w φ ⟨sealM H.m bs, nx⟩ w' := (Ext.sealK bs nx).trans (Ext.below hbel)
    refine ⟨cv, φ, rfl, ?_, ?_, ?_, fun _ _ => rfl⟩
    · simp only [hf, EffX.on]; exact he
    · simp only [hf, EffX.on]; exact hS.below hbel
    · simp only [hf, EffX.on]
      exact AR.keep (Keep.nop (Keep.refl φ _ w') φ) _ _ hr

/-! ### a call over a part of the heap -/
theorem only_get (m : Tr Blk) : ∀ (D : List B) (p : B), (only m D).get p = if p ∈ D then m.get p else none
  | [], p => by simp [only, Tr.get_e]
  | b :: bs, p => by
    simp only [only]
    split
    · rename_i k hk
      rw [Tr.get_set, only_get m bs p]
      by_cases h : b = p
      · subst h; simp [hk]
      · simp [h, Ne.symm h]
    · rename_i hk
      rw [only_get m bs p]
      by_cases h : b = p
      · subst h; simp [hk]
      · simp [Ne.symm h]
theorem only_agr {m m' : Tr Blk} : ∀ {D : List B}, (∀ b ∈ D, m.get b = m'.get b) → only m D = only m' D
  | [], _ => rfl
  | b :: bs, h => by
    simp only [only, h b (List.mem_cons_self ..), only_agr (D := bs) fun c hc => h c (List.mem_cons_of_mem _ hc)]
theorem closed_agr {m m' : Tr Blk} {D : List B} (h : ∀ b ∈ D, m.get b = m'.get b) : closed m D = closed m' D := by
  have go : ∀ l : List B, (∀ b ∈ l, b ∈ D) → (l.all fun b => match m.get b with | some k => k.alive && (k.rnm (rD D)).isSome | none => false) = (l.all fun b => match m'.get b with | some k => k.alive && (k.rnm (rD D)).isSome | none => false) := by
    intro l
    induction l with
    | nil => intro _; rfl
    | cons b l ih =>
      intro hl
      simp only [List.all_cons, h b (hl b (List.mem_cons_self ..)), ih fun c hc => hl c (List.mem_cons_of_mem _ hc)]
  exact go D fun _ h => h
section
variable {ρ : B → Option B}
mutual
theorem rnm_id (hid : ∀ p q, ρ p = some q → q = p) : ∀ {x y : AV}, x.rnm ρ = some y → y = x
  | .ref b o, y, h => by
    simp only [AV.rnm, Option.map_eq_some_iff] at h
    obtain ⟨c, h1, rfl⟩ := h
    rw [hid _ _ h1]
  | .el b i o, y, h => by
    simp only [AV.rnm, Option.map_eq_some_iff] at h
    obtain ⟨c, h1, rfl⟩ := h
    rw [hid _ _ h1]
  | .sl b lo n, y, h => by
    simp only [AV.rnm, Option.map_eq_some_iff] at h
    obtain ⟨c, h1, rfl⟩ := h
    rw [hid _ _ h1]
  | .mp b, y, h => by
    simp only [AV.rnm, Option.map_eq_some_iff] at h
    obtain ⟨c, h1, rfl⟩ := h
    rw [hid _ _ h1]
  | .fn f cs, y, h => by
    simp only [AV.rnm, Option.map_eq_some_iff] at h
    obtain ⟨c, h1, rfl⟩ := h
    rw [rnmL_id hid h1]
  | .ag cs, y, h => by
    simp only [AV.rnm, Option.map_eq_some_iff] at h
    obtain ⟨c, h1, rfl⟩ := h
    rw [rnmL_id hid h1]
  | .tu cs, y, h => by
    simp only [AV.rnm, Option.map_eq_some_iff] at h
    obtain ⟨c, h1, rfl⟩ := h
    rw [rnmL_id hid h1]
  | .u, y, h => by injection h with h; exact h.symm
  | .b _, y, h => by injection h with h; exact h.symm
  | .i _ _, y, h => by injection h with h; exact h.symm
  | .s _, y, h => by injection h with h; exact h.symm
  | .np, y, h => by injection h with h; exact h.symm
  | .nm, y, h => by injection h with h; exact h.symm
  | .nf, y, h => by injection h with h; exact h.symm
  | .e0, y, h => by injection h with h; exact h.symm
  | .im _ _, y, h => by injection h with h; exact h.symm
  | .ls _ _, y, h => by injection h with h; exact h.symm
  | .ni, y, h => by injection h with h; exact h.symm
  | .ifc t x, y, h => by
    simp only [AV.rnm, Option.map_eq_some_iff] at h
    obtain ⟨c, h1, rfl⟩ := h
    rw [rnm_id hid h1]
  | .yl b, y, h => by
    simp only [AV.rnm, Option.map_eq_some_iff] at h
    obtain ⟨c, h1, rfl⟩ := h
    rw [hid _ _ h1]
theorem rnmL_id (hid : ∀ p q, ρ p = some q → q = p) : ∀ {xs ys : List AV}, rnmL ρ xs = some ys → ys = xs
  | [], ys, h => by injection h with h; exact h.symm
  | x :: xs, ys, h => by
    unfold rnmL at h
    split at h
    · rename_i y ys' h1 h2
      injection h with h
      subst h
      rw [rnm_id hid h1, rnmL_id hid h2]
    · cases h
end
theorem rnmR_id (hid : ∀ p q, ρ p = some q → q = p) : ∀ {xs ys : List (List AV)}, rnmR ρ xs = some ys → ys = xs
  | [], ys, h => by injection h with h; exact h.symm
  | x :: xs, ys, h => by
    unfold rnmR at h
    split at h
    · rename_i y ys' h1 h2
      injection h with h
      subst h
      rw [rnmL_id hid h1, rnmR_id hid h2]
    · cases h
theorem rnmE_id (hid : ∀ p q, ρ p = some q → q = p) : ∀ {xs ys : List (AV × AV × Nat)}, rnmE ρ xs = some ys → ys = xs
  | [], ys, h => by injection h with h; exact h.symm
  | (k, v, n) :: xs, ys, h => by
    unfold rnmE at h
    split at h
    · rename_i k' v' ys' h1 h2 h3
      injection h with h
      subst h
      rw [rnm_id hid h1, rnm_id hid h2, rnmE_id hid h3]
    · cases h
theorem rnmT_id (hid : ∀ p q, ρ p = some q → q = p) : ∀ {t u : Tr AV}, rnmT ρ t = some u → u = t
  | .e, u, h => by injection h with h; exact h.symm
  | .n l v r, u, h => by
    unfold rnmT at h
    split at h
    · rename_i l' r' h1 h2
      cases v with
      | none =>
        injection h with h
        subst h
        rw [rnmT_id hid h1, rnmT_id hid h2]
      | some x =>
        simp only [Option.map_eq_some_iff] at h
        obtain ⟨y, h3, rfl⟩ := h
        rw [rnmT_id hid h1, rnmT_id hid h2, rnm_id hid h3]
    · cases h
theorem rnmB_id (hid : ∀ p q, ρ p = some q → q = p) {k j : Blk} (h : k.rnm ρ = some j) : j = k := by
  cases k with
  | box ty cs =>
    simp only [Blk.rnm, Option.map_eq_some_iff] at h
    obtain ⟨c, h1, rfl⟩ := h
    rw [rnmL_id hid h1]
  | rows sz l p xs =>
    simp only [Blk.rnm] at h
    split at h
    · injection h with h; exact h.symm
    · simp only [Option.map_eq_some_iff] at h
      obtain ⟨c, h1, rfl⟩ := h
      rw [rnmR_id hid h1]
  | map es c =>
    simp only [Blk.rnm, Option.map_eq_some_iff] at h
    obtain ⟨c, h1, rfl⟩ := h
    rw [rnmE_id hid h1]
  | dead => injection h with h; exact h.symm
  | iter mo since seen stepped =>
    simp only [Blk.rnm] at h
    cases mo with
    | none => injection h with h; exact h.symm
    | some m =>
      simp only [Option.map_eq_some_iff] at h
      obtain ⟨c, h1, rfl⟩ := h
      rw [hid _ _ h1]
  | bts ty l => injection h with h; exact h.symm
  | dfr => injection h with h; exact h.symm
  | lp st pj n ps asg body fr =>
    simp only [Blk.rnm, Option.map_eq_some_iff] at h
    obtain ⟨c, h1, rfl⟩ := h
    rw [rnmT_id hid h1]
end
theorem rD_id (D : List B) : ∀ p q, rD D p = some q → q = p := by
  intro p q h
  rw [rD_eq] at h
  split at h
  · injection h with h; exact h.symm
  · cases h
theorem closed_get {m : Tr Blk} {D : List B} (h : closed m D = true) {p : B} (hp : p ∈ D) : ∃ k, m.get p = some k ∧ k.alive = true ∧ k.rnm (rD D) = some k := by
  have := List.all_eq_true.1 h p hp
  split at this
  · rename_i k hk
    simp only [Bool.and_eq_true] at this
    refine ⟨k, hk, this.1, ?_⟩
    cases hr : k.rnm (rD D) with
    | none => rw [hr] at this; cases this.2
    | some j => rw [rnmB_id (rD_id D) hr]
  · cases this
theorem dead_of' {H : Hp} (hH : HR fb φ H w) {p : B} {k : Blk} (hk : H.m.get p = some k) (hp : φ p = none) : k = .dead := by
  have := hH.blk p k hk
  cases k with
  | box ty cs => obtain ⟨_, _, h, _⟩ := this; rw [hp] at h; cases h
  | iter mo since seen stepped => obtain ⟨_, _, _, h, _⟩ := this; rw [hp] at h; cases h
  | bts ty l => obtain ⟨_, _, h, _⟩ := this; rw [hp] at h; cases h
  | dfr => obtain ⟨_, _, h, _⟩ := this; rw [hp] at h; cases h
  | lp st pj n ps asg body fr => obtain ⟨_, _, _, h, _⟩ := this; rw [hp] at h; cases h
  | rows s l q xs => obtain ⟨_, _, _, h, _⟩ := this; rw [hp] at h; cases h
  | map es c => obtain ⟨_, _, _, h, _⟩ := this; rw [hp] at h; cases h
  | dead => rfl

theorem callD_ok {H : Hp} (hH : HR fb φ H w) {f : Nat} {xs : List AV} {vs : List Value} {D : List B} {v : AV} {H' : Hp} {m0 : Tr Blk} {lo nx : B} (hx : ARl φ (wrs fb φ H) w xs vs) (h2 : closed H.m D = true)
    (h3 : (rnmL (rD D) xs).isSome = true) (h4 : ∀ b ∈ D, b.toNat < lo.toNat) (h5 : ICall P f xs ⟨only H.m D, lo⟩ fun v' H'' => v' = v ∧ H'' = H')
    (h6 : ∀ p, H'.m.get p = ((only H.m D).over m0).get p) (h7 : ∀ p k, m0.get p = some k → p ∈ D ∨ lo.toNat ≤ p.toNat) (hnx : H.nx.toNat ≤ nx.toNat) (hhi : H'.nx.toNat ≤ nx.toNat)
    (hnew : ∀ p : B, lo.toNat ≤ p.toNat → p.toNat < H'.nx.toNat → φ p = none) :
    Calls P f vs.toArray w fun e w' => ∃ cv φ', e = .returned cv ∧ After fb φ H w nx ⟨v, D.map .blk, .over m0, lo, H'.nx⟩ φ' cv w' := by
  have hD : ∀ p, PhiR (rD D) φ p = if p ∈ D then φ p else none := by
    intro p
    unfold PhiR
    rw [rD_eq]
    split <;> rfl
  have hDs : ∀ p x, PhiR (rD D) φ p = some x → p ∈ D ∧ φ p = some x := by
    intro p x h
    rw [hD] at h
    split at h
    · exact ⟨by assumption, h⟩
    · cases h
  have ho : ∀ p k, (only H.m D).get p = some k → p ∈ D ∧ H.m.get p = some k := by
    intro p k h
    rw [only_get] at h
    split at h
    · exact ⟨by assumption, h⟩
    · cases h
  let fb' : Nat → Prop := fun g => fb g ∨ ∃ p k sz, H.m.get p = some k ∧ k.wrt = true ∧ φ p = some (g, sz) ∧ p ∉ D
  have himg : ∀ g, img (PhiR (rD D) φ) ⟨only H.m D, lo⟩ g → ∃ p k sz, p ∈ D ∧ H.m.get p = some k ∧ k.wrt = true ∧ φ p = some (g, sz) := by
    rintro g ⟨p, k, sz, a, b, c⟩
    obtain ⟨q1, q2⟩ := ho p k a
    obtain ⟨q3, q4⟩ := hDs p _ c
    exact ⟨p, k, sz, q1, q2, b, q4⟩
  have wsub : ∀ g, wrs fb' (PhiR (rD D) φ) ⟨only H.m D, lo⟩ g → wrs fb φ H g := by
    rintro g ((h | ⟨p, k, sz, a, b, c, _⟩) | h)
    · exact .inl h
    · exact .inr ⟨p, k, sz, a, b, c⟩
    · obtain ⟨p, k, sz, _, a, b, c⟩ := himg g h
      exact .inr ⟨p, k, sz, a, b, c⟩
  have hHD : HR fb' (PhiR (rD D) φ) ⟨only H.m D, lo⟩ w := by
    refine ⟨fun p k hp => h4 p (ho p k hp).1, fun p x hp => h4 p (hDs p x hp).1, fun p g sz hp => ?_, fun p q g s t k k' a b c d e1 e2 => ?_, fun p k hp => ?_, fun g hg => ?_⟩
    · obtain ⟨q1, q2⟩ := hDs p _ hp
      refine ⟨(hH.phw p g sz q2).1, ?_⟩
      rintro (h | ⟨q, k, s, a, b, c, d⟩)
      · exact (hH.phw p g sz q2).2 h
      · obtain ⟨k2, e1, e2, _⟩ := closed_get h2 q1
        exact d (hH.inj q p g s sz k k2 a e1 b e2 c q2 ▸ q1)
    · exact hH.inj p q g s t k k' (ho p k a).2 (ho q k' b).2 c d (hDs p _ e1).2 (hDs q _ e2).2
    · obtain ⟨q1, q2⟩ := ho p k hp
      obtain ⟨k2, e1, e2, e3⟩ := closed_get h2 q1
      rw [q2] at e1
      injection e1 with e1
      subst e1
      exact BR.rnm wsub (by simp [rD_eq, q1]) e3 (hH.blk p k q2)
    · rcases hg with h | ⟨p, k, s, a, b, c, d⟩
      · exact hH.fbl g h
      · exact (hH.phw p g s c).1
  have hxs : rnmL (rD D) xs = some xs := by
    cases hr : rnmL (rD D) xs with
    | none => rw [hr] at h3; cases h3
    | some ys => rw [rnmL_id (rD_id D) hr]
  refine (h5.2 fb' (PhiR (rD D) φ) w vs hHD (ARl.rnm wsub xs hxs hx)).mono ?_
  rintro e w' ⟨v1, H1, φ1, cv, rfl, ⟨rfl, rfl⟩, hle, hlow, hE, hHR, hv⟩
  refine ⟨cv, fun p => if lo.toNat ≤ p.toNat ∧ p.toNat < H1.nx.toNat then φ1 p else φ p, rfl, ?_⟩
  generalize hφ' : (fun p : B => if lo.toNat ≤ p.toNat ∧ p.toNat < H1.nx.toNat then φ1 p else φ p) = φ'
  have pin : ∀ p : B, lo.toNat ≤ p.toNat → p.toNat < H1.nx.toNat → φ' p = φ1 p := fun p a b => by rw [← hφ']; simp only [a, b, and_self, if_true]
  have pout : ∀ p : B, (p.toNat < lo.toNat ∨ H1.nx.toNat ≤ p.toNat) → φ' p = φ p := fun p a => by
    rw [← hφ']; simp only; rw [if_neg (by omega)]
  have pD : ∀ p, p ∈ D → φ' p = φ p ∧ φ1 p = φ p := fun p hp => by
    refine ⟨pout p (.inl (h4 p hp)), (hlow p (h4 p hp)).trans ?_⟩
    rw [hD, if_pos hp]
  -- what the heap behind has
  have hget : ∀ p, ((H.m.over m0).get p = if p ∈ D then H1.m.get p else match m0.get p with | some k => some k | none => H.m.get p) := by
    intro p
    by_cases hp : p ∈ D
    · rw [if_pos hp, h6, Tr.get_over, Tr.get_over, only_get, if_pos hp]
    · rw [if_neg hp, Tr.get_over]
      cases m0.get p <;> rfl
  have hm0 : ∀ p k, p ∉ D → m0.get p = some k → H1.m.get p = some k ∧ lo.toNat ≤ p.toNat ∧ p.toNat < H1.nx.toNat := by
    intro p k hp hk
    have h8 : H1.m.get p = some k := by rw [h6, Tr.get_over, hk]
    exact ⟨h8, (h7 p k hk).resolve_left hp, hHR.lt p k h8⟩
  -- each block behind is one of the callee's, or one as it was
  have cases2 : ∀ p k, (H.m.over m0).get p = some k → (H1.m.get p = some k ∧ φ1 p = φ' p ∧ (p ∈ D ∨ (lo.toNat ≤ p.toNat ∧ p.toNat < H1.nx.toNat))) ∨ (H.m.get p = some k ∧ p ∉ D ∧ (φ' p = φ p ∨ k = .dead)) := by
    intro p k h
    rw [hget] at h
    split at h
    · rename_i hp
      exact .inl ⟨h, (pD p hp).2.trans (pD p hp).1.symm, .inl hp⟩
    · rename_i hp
      split at h
      · rename_i k' hk'
        injection h with h
        subst h
        obtain ⟨a, b, c⟩ := hm0 p _ hp hk'
        exact .inl ⟨a, (pin p b c).symm, .inr ⟨b, c⟩⟩
      · refine .inr ⟨h, hp, ?_⟩
        by_cases hr : lo.toNat ≤ p.toNat ∧ p.toNat < H1.nx.toNat
        · exact .inr (dead_of' hH h (hnew p hr.1 hr.2))
        · exact .inl (pout p (by omega))
  have himg2 : ∀ g, img φ' ⟨H.m.over m0, nx⟩ g → img φ1 H1 g ∨ ∃ p k sz, H.m.get p = some k ∧ k.wrt = true ∧ φ p = some (g, sz) ∧ p ∉ D := by
    rintro g ⟨p, k, sz, a, b, c⟩
    rcases cases2 p k a with ⟨q1, q2, _⟩ | ⟨q1, q2, q3 | rfl⟩
    · exact .inl ⟨p, k, sz, q1, b, q2.trans c⟩
    · exact .inr ⟨p, k, sz, q1, b, q3.symm.trans c, q2⟩
    · cases b
  have hext : Ext fb φ H w φ' ⟨H.m.over m0, nx⟩ w' := by
    refine ⟨hE.os, hE.tape, hE.output, hE.size, fun g hg hn => hE.old g hg fun hi => ?_, hE.shape, fun p x hp => ?_, fun g hg hi => ?_⟩
    · obtain ⟨p, k, sz, _, a, b, c⟩ := himg g hi
      exact hn ⟨p, k, sz, a, b, c⟩
    · by_cases hr : lo.toNat ≤ p.toNat ∧ p.toNat < H1.nx.toNat
      · rw [hnew p hr.1 hr.2] at hp; cases hp
      · rw [pout p (by omega)]; exact hp
    · rcases himg2 g hi with h | ⟨p, k, sz, a, b, c, _⟩
      · obtain ⟨p, k, sz, _, a, b, c⟩ := himg g (hE.img g hg h)
        exact ⟨p, k, sz, a, b, c⟩
      · exact ⟨p, k, sz, a, b, c⟩
  have wsub2 : ∀ g, wrs fb φ' ⟨H.m.over m0, nx⟩ g → wrs fb' φ1 H1 g := by
    rintro g (h | h)
    · exact .inl (.inl h)
    · rcases himg2 g h with h | h
      · exact .inr h
      · exact .inl (.inr h)
  have hkeep : Keep φ1 (wrs fb' φ1 H1) w' φ' (wrs fb φ' ⟨H.m.over m0, nx⟩) w' := by
    refine ⟨fun p x hp => ?_, fun g _ hg => wsub2 g hg, Nat.le_refl _, fun _ _ _ => rfl, fun _ c _ fz h => ⟨c, fz, h, rfl⟩⟩
    have h8 := hHR.phl p x hp
    by_cases hr : lo.toNat ≤ p.toNat
    · rw [pin p hr h8]; exact hp
    · have h9 := hlow p (Nat.lt_of_not_le hr)
      rw [hp] at h9
      obtain ⟨q1, q2⟩ := hDs p x h9.symm
      rw [(pD p q1).1]; exact q2
  -- a block that was not the callee's is as it was
  have hold : ∀ p k g sz, H.m.get p = some k → k.alive = true → φ p = some (g, sz) → p ∉ D → w'.heap[g]? = w.heap[g]? := by
    intro p k g sz a b c d
    refine hE.old g (hH.phw p g sz c).1 fun hi => ?_
    obtain ⟨q, k2, s, q1, q2, q3, q4⟩ := himg g hi
    exact d (hH.inj q p g s sz k2 k q2 a q3 b q4 c ▸ q1)
  -- the callee's blocks and the others are not one
  have apart : ∀ p q g s t k k', H1.m.get p = some k → φ1 p = some (g, s) → (p ∈ D ∨ (lo.toNat ≤ p.toNat ∧ p.toNat < H1.nx.toNat)) → H.m.get q = some k' → k'.alive = true → φ q = some (g, t) → q ∉ D → (k.wrt = true ∨ k'.wrt = true) → False := by
    intro p q g s t k k' a b c d e f h i
    have hg := (hH.phw q g t f).1
    rcases i with i | i
    · obtain ⟨q', k2, s', q1, q2, q3, q4⟩ := himg g (hE.img g hg ⟨p, k, s, a, i, b⟩)
      exact h (hH.inj q' q g s' t k2 k' q2 d q3 e q4 f ▸ q1)
    · exact (hHR.phw p g s b).2 (.inr ⟨q, k', t, d, i, f, h⟩)
  refine ⟨hext, ⟨fun p k hp => ?_, fun p x hp => ?_, fun p g sz hp => ?_, fun p q g s t k k' a b c d e1 e2 => ?_, fun p k hp => ?_, fun g hg => ?_⟩, AR.keep hkeep _ _ hv, fun p hp => pout p hp⟩
  · rcases cases2 p k hp with ⟨q1, _, _⟩ | ⟨q1, _, _⟩
    · exact Nat.lt_of_lt_of_le (hHR.lt p k q1) hhi
    · exact Nat.lt_of_lt_of_le (hH.lt p k q1) hnx
  · by_cases hr : lo.toNat ≤ p.toNat ∧ p.toNat < H1.nx.toNat
    · show p.toNat < nx.toNat
      omega
    · rw [pout p (by omega)] at hp
      exact Nat.lt_of_lt_of_le (hH.phl p x hp) hnx
  · by_cases hr : lo.toNat ≤ p.toNat ∧ p.toNat < H1.nx.toNat
    · rw [pin p hr.1 hr.2] at hp
      obtain ⟨a, b⟩ := hHR.phw p g sz hp
      exact ⟨a, fun h => b (.inl h)⟩
    · rw [pout p (by omega)] at hp
      obtain ⟨a, b⟩ := hH.phw p g sz hp
      exact ⟨Nat.lt_of_lt_of_le a hE.size, b⟩
  · rcases cases2 p k a with ⟨q1, q2, q3⟩ | ⟨q1, q2, q3 | rfl⟩
    · rcases cases2 q k' b with ⟨r1, r2, r3⟩ | ⟨r1, r2, r3 | rfl⟩
      · exact hHR.inj p q g s t k k' q1 r1 c d (q2.trans e1) (r2.trans e2)
      · exact (apart p q g s t k k' q1 (q2.trans e1) q3 r1 d (r3.symm.trans e2) r2 (.inl c)).elim
      · cases d
    · rcases cases2 q k' b with ⟨r1, r2, r3⟩ | ⟨r1, r2, r3 | rfl⟩
      · exact (apart q p g t s k' k r1 (r2.trans e2) r3 q1 (Blk.alive_of_wrt c) (q3.symm.trans e1) q2 (.inr c)).elim
      · exact hH.inj p q g s t k k' q1 r1 c d (q3.symm.trans e1) (r3.symm.trans e2)
      · cases d
    · cases c
  · rcases cases2 p k hp with ⟨q1, q2, _⟩ | ⟨q1, q2, q3 | rfl⟩
    · have hb := hHR.blk p k q1
      cases k with
      | box ty cs =>
        obtain ⟨g, c0, a1, a2, a3⟩ := hb
        exact ⟨g, c0, q2.symm.trans a1, a2, ARl.keep hkeep _ _ a3⟩
      | iter mo since seen stepped =>
        obtain ⟨g, sz, mo', a1, a2, a3⟩ := hb
        refine ⟨g, sz, mo', q2.symm.trans a1, a2, ?_⟩
        cases mo with
        | none => exact a3
        | some m =>
          obtain ⟨gm, s, h4, h5⟩ := a3
          exact ⟨gm, s, hkeep.phi _ _ h4, h5⟩
      | bts ty l =>
        obtain ⟨g, c0, a1, a2⟩ := hb
        exact ⟨g, c0, q2.symm.trans a1, a2⟩
      | dfr =>
        obtain ⟨g, sz, a1, a2⟩ := hb
        exact ⟨g, sz, q2.symm.trans a1, a2⟩
      | lp st pj n ps asg body fr =>
        obtain ⟨g, sz, r, a1, a2, a3, a4, a4', a5, a6, a7, a8⟩ := hb
        exact ⟨g, sz, r, q2.symm.trans a1, a2, a3, a4, a4', a5, a6, a7, FR.keep hkeep a8⟩
      | rows sz l pur xs =>
        obtain ⟨g, ty, c0, a1, a2, a3, a4, a5⟩ := hb
        refine ⟨g, ty, c0, q2.symm.trans a1, a2, a3, a4, ARr.mk fun j r hj => ?_⟩
        obtain ⟨h6, h7⟩ := a5.get j r hj
        refine ⟨h6, ARc.mk h7.ones fun m c hm => ?_⟩
        obtain ⟨u, h8, h9⟩ := h7.get m c hm
        exact ⟨u, h8, AR.keep (hkeep.pof pur) _ _ h9⟩
      | map es clock =>
        obtain ⟨g, sz, es', a1, a2, a3⟩ := hb
        exact ⟨g, sz, es', q2.symm.trans a1, a2, ARe.keep hkeep a3⟩
      | dead => trivial
    · cases ha : k.alive with
      | false => cases k <;> first | (cases ha; done) | trivial
      | true => 
        have hb := BR.keep hext (fun g sz hg => hold p k g sz q1 ha hg q2) (hH.blk p k q1)
        exact hb
    · trivial
  · exact Nat.lt_of_lt_of_le (hH.fbl g hg) hE.size

theorem frz1_rows {m : Tr Blk} {x y : AV} {bs : List B} (h : frz1 m x = some (y, bs)) : ∀ b ∈ bs, ∃ sz lv p xs, m.get b = some (.rows sz lv p xs) := by
  unfold frz1 at h
  split at h
  · split at h
    · rename_i hb
      split at h
      · injection h with h
        injection h with _ h
        subst h
        intro b hb'
        simp only [List.mem_singleton] at hb'
        subst hb'
        exact ⟨_, _, _, _, hb⟩
      · cases h
    · cases h
  · split at h
    · injection h with h
      injection h with _ h
      subst h
      intro b hb
      cases hb
    · cases h
theorem frzL_rows {m : Tr Blk} : ∀ {xs ys : List AV} {bs : List B}, frzL m xs = some (ys, bs) → ∀ b ∈ bs, ∃ sz lv p xs, m.get b = some (.rows sz lv p xs)
  | [], ys, bs, h => by injection h with h; injection h with _ h; subst h; intro b hb; cases hb
  | x :: xs, ys, bs, h => by
    unfold frzL at h
    split at h
    · rename_i y b1 ys' b2 h1 h2
      injection h with h
      injection h with _ h
      subst h
      intro b hb
      rcases List.mem_append.1 hb with hb | hb
      · exact frz1_rows h1 b hb
      · exact frzL_rows h2 b hb
    · cases h
theorem frz_rows {m : Tr Blk} {x y : AV} {bs : List B} (h : frz m x = some (y, bs)) : ∀ b ∈ bs, ∃ sz lv p xs, m.get b = some (.rows sz lv p xs) := by
  unfold frz at h
  split at h
  · split at h
    · rename_i h1
      injection h with h
      injection h with _ h
      subst h
      exact frzL_rows h1
    · cases h
  · exact frz1_rows h
theorem frzs_rows {m : Tr Blk} : ∀ {xs ys : List AV} {bs : List B}, frzs m xs = some (ys, bs) → ∀ b ∈ bs, ∃ sz lv p xs, m.get b = some (.rows sz lv p xs)
  | [], ys, bs, h => by injection h with h; injection h with _ h; subst h; intro b hb; cases hb
  | x :: xs, ys, bs, h => by
    unfold frzs at h
    split at h
    · rename_i y b1 ys' b2 h1 h2
      injection h with h
      injection h with _ h
      subst h
      intro b hb
      rcases List.mem_append.1 hb with hb | hb
      · exact frz_rows h1 b hb
      · exact frzs_rows h2 b hb
    · cases h

/-- What makes no block does not look at the new block's number. -/
theorem xop_nb {m : Tr Blk} {nb : B} {k : XOp} {xs : List AV} {v : AV} {e : Eff} (nb' : B) (h : xop m nb k xs = some (v, e)) (he : e.fresh = false) : xop m nb' k xs = some (v, e) := by
  cases k
  case mks =>
    rcases xs with _ | ⟨x, _ | ⟨y, _ | ⟨z, xs⟩⟩⟩ <;> try exact h
    simp only [xop] at h ⊢
    split at h
    · split at h
      · injection h with h; injection h with _ h; subst h; cases he
      · cases h
    · cases h
  case cta =>
    rcases xs with _ | ⟨x, xs⟩ <;> try exact h
    simp only [xop] at h ⊢
    split at h
    · split at h
      · split at h
        · split at h
          · split at h
            · injection h with h; injection h with _ h; subst h; cases he
            · cases h
          · cases h
        · cases h
      · cases h
    · cases h
  case aps =>
    rcases xs with _ | ⟨x, _ | ⟨y, _ | ⟨z, xs⟩⟩⟩ <;> try exact h
    simp only [xop] at h ⊢
    split at h
    · split at h
      · split at h
        · rename_i h0; rw [if_pos h0]; exact h
        · split at h
          · injection h with h; injection h with _ h; subst h; cases he
          · cases h
      · split at h
        · split at h
          · rename_i h1
            split at h
            · rename_i h0; rw [if_pos h1, if_pos h0]; exact h
            · split at h
              · injection h with h; injection h with _ h; subst h; cases he
              · cases h
          · cases h
        · cases h
      · cases h
    · cases h
  case mnz =>
    rcases xs with _ | ⟨x, _ | ⟨y, xs⟩⟩ <;> try exact h
    simp only [xop] at h ⊢
    split at h
    · split at h
      · injection h with h; injection h with _ h; subst h; cases he
      · cases h
    · cases h
  case rng =>
    rcases xs with _ | ⟨x, _ | ⟨y, xs⟩⟩ <;> try exact h
    simp only [xop] at h ⊢
    split at h
    · injection h with h; injection h with _ h; subst h; cases he
    · split at h
      · injection h with h; injection h with _ h; subst h; cases he
      · cases h
    · cases h
  all_goals (rcases xs with _ | ⟨x, _ | ⟨y, _ | ⟨z, _ | ⟨x4, xs⟩⟩⟩⟩ <;> exact h)
theorem aop_nb {fr : Tr AV} {m : Tr Blk} {nb : B} {x : AOp} {v : AV} {e : Eff} (nb' : B) (h : aop fr m nb x = some (v, e)) (he : e.fresh = false) : aop fr m nb' x = some (v, e) := by
  cases x <;> try exact h
  case box x =>
    simp only [aop] at h ⊢
    split at h
    · split at h
      · injection h with h; injection h with _ h; subst h; cases he
      · cases h
    · cases h
  case al z => injection h with h; injection h with _ h; subst h; cases he
  case mkm => injection h with h; injection h with _ h; subst h; cases he
  case lit sz len own z parts =>
    simp only [aop] at h ⊢
    split at h
    · split at h
      · injection h with h; injection h with _ h; subst h; cases he
      · rename_i h1 h2
        rw [if_neg h2]
        exact h
    · cases h
  case app sz bytes x y =>
    simp only [aop, appA] at h ⊢
    split at h
    · cases h
    · rename_i q ys hr
      unfold appR at h ⊢
      split at h
      · split at h
        · rename_i h1
          rw [if_pos h1]
          exact h
        · split at h
          · injection h with h; injection h with _ h; subst h; cases he
          · cases h
      · split at h
        · split at h
          · split at h
            · rename_i h1 h2
              rw [if_pos h1, if_pos h2]
              exact h
            · split at h
              · injection h with h; injection h with _ h; subst h; cases he
              · cases h
          · cases h
        · cases h
      · cases h
  case ex k xs => exact xop_nb nb' h he
theorem dead_of {H : Hp} (hH : HR fb φ H w) {p : B} {k : Blk} (hk : H.m.get p = some k) (hp : φ p = none) : k.wrt = false := by
  have := hH.blk p k hk
  cases k with
  | box ty cs => obtain ⟨_, _, h, _⟩ := this; rw [hp] at h; cases h
  | iter mo since seen stepped => obtain ⟨_, _, _, h, _⟩ := this; rw [hp] at h; cases h
  | bts ty l => obtain ⟨_, _, h, _⟩ := this; rw [hp] at h; cases h
  | dfr => obtain ⟨_, _, h, _⟩ := this; rw [hp] at h; cases h
  | lp st pj n ps asg body fr => obtain ⟨_, _, _, h, _⟩ := this; rw [hp] at h; cases h
  | rows s l q xs => obtain ⟨_, _, _, h, _⟩ := this; rw [hp] at h; cases h
  | map es c => obtain ⟨_, _, _, h, _⟩ := this; rw [hp] at h; cases h
  | dead => rfl
/-- One statement. -/
theorem does_ok {ro : Option Nat} {hint : Bool} {o : Oper} {a : Act} {Q : Exit → Act → World → Prop} {act : Act1} (hc : cAct P hint o.op = some act) {fr : Tr AV} {H : Hp} (hH : HR fb φ H w) (hF : FR φ (wrs fb φ H) w fr a.tmps) {r : Rec} (hd : Does P fr H.m act r)
    {nx : B} (hnx : H.nx.toNat ≤ nx.toNat) (hhi : r.hi.toNat ≤ nx.toNat) (hnew : ∀ p : B, r.lo.toNat ≤ p.toNat → p.toNat < r.hi.toNat → φ p = none) {K : Act → World → Prop}
    (k : ∀ φ' cv w', After fb φ H w nx r φ' cv w' → K (a.put o.dst cv) w') : o.wpIn (FW ro) 0 P a w K Q := by
  cases hd with
  | op h =>
    rename_i x v e nb
    have hc' := cAct_op hc
    have hbad : x ≠ .ex .bad [] := by
      rintro rfl
      simp [aop, xop] at h
    have hdef : ∀ c, o.op ≠ .defer c := by
      rcases hc' with h1 | h1 | h1
      · exact cX_defer h1
      · exact cOp_defer h1
      · exact absurd h1 hbad
    have go : ∀ nb', aop fr H.m nb' x = some (v, e) → φ nb' = none → (∀ k0, H.m.get nb' = some k0 → k0.wrt = false) → (e.fresh = true → nb'.toNat < nx.toNat) → e.on H.m nb' = e.on H.m nb →
        (∀ φ' : Phi, (∀ p, p ≠ nb' → φ' p = φ p) → (e.fresh = false → φ' = φ) → ∀ p : B, p.toNat < nb.toNat ∨ (if e.fresh then nb.succ else nb).toNat ≤ p.toNat → φ' p = φ p) → o.wpIn (FW ro) 0 P a w K Q := by
      intro nb' h' hb hd' hlt hon hp
      have hdid : Did P fb φ H w nb' nx (execOp a.eval o) v e := by
        rcases hc' with h1 | h1 | h1
        · exact x_ok hF hH h1 h' hb hd' hlt hnx
        · exact aop_ok (P := P) h1 hF hH h' hb hd' hlt hnx
        · exact absurd h1 hbad
      obtain ⟨nxt, cv, w', φ', q1, q2, q3, q4, q5, q6, q7⟩ := hdid
      rw [hon] at q3 q4 q5
      have hA : After fb φ H w nx ⟨v, x.rds fr, .eff nb e, nb, if e.fresh then nb.succ else nb⟩ φ' cv w' := ⟨q3, q4, q5, hp φ' q6 q7⟩
      exact wp_val hdef q1 q2 (k _ _ _ hA)
    by_cases hf : e.fresh = true
    · have hs : (if e.fresh then nb.succ else nb) = nb.succ := by rw [if_pos hf]
      simp only [hs, B.toNat_succ] at hhi hnew
      have h1 := hnew nb (Nat.le_refl _) (by omega)
      refine go nb h h1 (fun k0 hk => dead_of hH hk h1) (fun _ => by omega) rfl (fun φ' hp _ p hq => hp p ?_)
      rw [hs, B.toNat_succ] at hq
      intro e; subst e; omega
    · have hf' : e.fresh = false := by simpa using hf
      refine go nx (aop_nb nx h hf') ?_ ?_ (fun hh => absurd hh hf) ?_ (fun φ' _ hp p _ => by rw [hp hf'])
      · cases hh : φ nx with
        | none => rfl
        | some y => have := hH.phl nx y hh; omega
      · intro k0 hk
        have := hH.lt nx k0 hk
        omega
      · cases e <;> first | rfl | (simp [Eff.fresh] at hf')
  | callP h1 h2 h3 =>
    rename_i x args f cs ys bs v lo
    obtain ⟨fo, fargs, tys, hop, hx, hl⟩ := cAct_call hc
    have hfn := opd_ok hF hx
    rw [h1] at hfn
    simp only [AR] at hfn
    obtain ⟨us, hfv, hus⟩ := hfn
    have hargs := opds_ok hF hl
    obtain ⟨fn, c, hfn, hbody, hname⟩ := h3.1
    have hrun : (execOp a.eval o).run P w = .ok (.enter f (fargs.map a.eval ++ us.toArray)) w := by
      have hname' : ¬ fn.name = "runtime.NumGoroutine" := by simpa using hname
      simp [execOp, hop, resolve, hfv, Deferred.ofValue, invoke, callFunc, hfn, hbody, hname']
    have hall : ARl φ (wrs fb φ H) w (args.map (Opd.ev fr) ++ cs) ((fargs.map a.eval).toList ++ us) := by
      have := hargs.append hus
      simpa using this
    have := callP_ok (lo := lo) hH hall h2 h3 (frzs_rows h2) hnx
    have e : ((fargs.map a.eval).toList ++ us).toArray = fargs.map a.eval ++ us.toArray := by simp
    rw [e] at this
    refine wp_ent (by intro c; rw [hop]; simp) hrun (this.mono ?_)
    rintro _ w' ⟨cv, φ', rfl, hA⟩
    exact ⟨cv, rfl, k _ _ _ hA⟩
  | callD h1 h2 h3 h4 h5 h6 h7 =>
    rename_i x args f cs D v H' m0 lo
    obtain ⟨fo, fargs, tys, hop, hx, hl⟩ := cAct_call hc
    have hfn := opd_ok hF hx
    rw [h1] at hfn
    simp only [AR] at hfn
    obtain ⟨us, hfv, hus⟩ := hfn
    have hargs := opds_ok hF hl
    obtain ⟨fn, c, hfn, hbody, hname⟩ := h5.1
    have hrun : (execOp a.eval o).run P w = .ok (.enter f (fargs.map a.eval ++ us.toArray)) w := by
      have hname' : ¬ fn.name = "runtime.NumGoroutine" := by simpa using hname
      simp [execOp, hop, resolve, hfv, Deferred.ofValue, invoke, callFunc, hfn, hbody, hname']
    have hall : ARl φ (wrs fb φ H) w (args.map (Opd.ev fr) ++ cs) ((fargs.map a.eval).toList ++ us) := by
      have := hargs.append hus
      simpa using this
    have := callD_ok hH hall h2 h3 h4 h5 h6 h7 hnx hhi hnew
    have e : ((fargs.map a.eval).toList ++ us).toArray = fargs.map a.eval ++ us.toArray := by simp
    rw [e] at this
    refine wp_ent (by intro c; rw [hop]; simp) hrun (this.mono ?_)
    rintro _ w' ⟨cv, φ', rfl, hA⟩
    exact ⟨cv, rfl, k _ _ _ hA⟩
end
end Go.Za
