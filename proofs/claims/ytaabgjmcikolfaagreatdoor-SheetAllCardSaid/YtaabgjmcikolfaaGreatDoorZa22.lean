/- The abstract machine, part 22: functions. No condition. -/
import Derived.Test.YtaabgjmcikolfaaGreatDoorZa21
set_option linter.unusedVariables false
set_option linter.unusedSimpArgs false
namespace Go.Za
open Go.RowKit

inductive RV where
  | t (p : B)
  | c (n : Option Nat) (p : B)
def cRes (P : Program) : List ResultVar → Option (List RV)
  | [] => some []
  | .tmp t :: rs => (cRes P rs).map fun l => .t (path t) :: l
  | .cell a t :: rs => match cAgg P t, cRes P rs with
    | some n, some l => some (.c n (path a) :: l)
    | _, _ => none
def RV.ev (fr : Tr AV) (m : Tr Blk) : RV → Option AV
  | .t p => some ((Opd.t p).ev fr)
  | .c n p => loadA m n ((Opd.t p).ev fr)
def resA (fr : Tr AV) (m : Tr Blk) : List RV → Option (List AV)
  | [] => some []
  | r :: rs => match r.ev fr m, resA fr m rs with
    | some x, some xs => some (x :: xs)
    | _, _ => none
def resV : List AV → AV
  | [x] => x
  | xs => .tu xs
def finK (rvs : List RV) (R : AV → Hp → Prop) : Post
  | .x _, _, _ => False
  | _, fr, H => match resA fr H.m rvs with
    | some xs => R (resV xs) H
    | none => False
def mkfr : Nat → List AV → Tr AV → Tr AV
  | _, [], fr => fr
  | k, x :: xs, fr => mkfr (k + 1) xs (fr.set (path k) x)

section
variable {P : Program} {fb : Nat → Prop} {φ : Phi} {H : Hp} {w : World} {wr : Nat → Prop}
def rdRes (tmps : Array Value) : ResultVar → Sem Value
  | .tmp t => pure (tmps.getD t undef)
  | .cell a t => do loadVar t (← asAddr (tmps.getD a undef))
theorem load_ptr {x y : AV} {v : Value} {n : Option Nat} (hx : AR φ wr w x v) (h : loadA H.m n x = some y) : ∃ a, v = .pointer (some a) := by
  cases x <;> simp only [loadA, reduceCtorEq] at h <;> simp only [AR] at hx
  · obtain ⟨g, sz, _, h⟩ := hx; exact ⟨_, h⟩
  · obtain ⟨g, sz, _, h⟩ := hx; exact ⟨_, h⟩
  · obtain ⟨a, h, _⟩ := hx; exact ⟨_, h⟩
theorem res_ok (hH : HR fb φ H w) {tmps : Array Value} {fr : Tr AV} (hF : FR φ (wrs fb φ H) w fr tmps) : ∀ {rs : List ResultVar} {rvs : List RV} {xs : List AV}, cRes P rs = some rvs → resA fr H.m rvs = some xs →
    ∃ vs, (rs.mapM (rdRes tmps)).run P w = Result.ok vs w ∧ ARl φ (wrs fb φ H) w xs vs
  | [], rvs, xs, hc, hr => by
    injection hc with hc; subst hc
    injection hr with hr; subst hr
    exact ⟨[], by simp, by simp only [ARl]⟩
  | .tmp t :: rs, rvs, xs, hc, hr => by
    simp only [cRes, Option.map_eq_some_iff] at hc
    obtain ⟨l, h1, rfl⟩ := hc
    unfold resA at hr
    split at hr
    · rename_i x xs' h2 h3
      injection hr with hr; subst hr
      obtain ⟨vs, q1, q2⟩ := res_ok hH hF h1 h3
      simp only [RV.ev] at h2
      injection h2 with h2
      have hx := opd_ok (a := ⟨tmps, []⟩) (x := .tmp t) hF rfl
      rw [h2] at hx
      refine ⟨tmps.getD t undef :: vs, ?_, ?_⟩
      · rw [List.mapM_cons]
        simp [rdRes, q1]
      · simp only [ARl]
        exact ⟨_, _, rfl, hx, q2⟩
    · cases hr
  | .cell a t :: rs, rvs, xs, hc, hr => by
    unfold cRes at hc
    split at hc
    · rename_i n l hn h1
      injection hc with hc; subst hc
      unfold resA at hr
      split at hr
      · rename_i x xs' h2 h3
        injection hr with hr; subst hr
        obtain ⟨vs, q1, q2⟩ := res_ok hH hF h1 h3
        simp only [RV.ev] at h2
        have hx := opd_ok (a := ⟨tmps, []⟩) (x := .tmp a) hF rfl
        obtain ⟨cv, q3, q4⟩ := load_ok hH (agg_ok hn) hx h2
        refine ⟨cv :: vs, ?_, ?_⟩
        · rw [List.mapM_cons]
          obtain ⟨ad, had⟩ := load_ptr hx h2
          simp only [Act.eval] at had q3
          have q5 : (loadVar t ad).run P w = .ok cv w := by
            simpa [Instr.loadAt, had, Instr.sureAddr] using q3
          simp [rdRes, had, asAddr, q5, q1]
        · simp only [ARl]
          exact ⟨_, _, rfl, q4, q2⟩
      · cases hr
    · cases hc
theorem fr_mk : ∀ {xs : List AV} {vs : List Value} {k : Nat} {fr : Tr AV} {tmps : Array Value}, ARl φ wr w xs vs → (∀ j v, vs[j]? = some v → tmps[k + j]? = some v) → FR φ wr w fr tmps → FR φ wr w (mkfr k xs fr) tmps
  | [], vs, k, fr, tmps, _, _, hF => hF
  | x :: xs, vs, k, fr, tmps, h, ht, hF => by
    simp only [ARl] at h
    obtain ⟨v, vs', rfl, h1, h2⟩ := h
    refine fr_mk (xs := xs) (vs := vs') (k := k + 1) (fr := fr.set (path k) x) h2 (fun j u hj => ?_) ?_
    · have := ht (j + 1) u (by simpa using hj)
      rw [show k + (j + 1) = k + 1 + j by omega] at this
      exact this
    · intro t y hy
      rw [Tr.get_set] at hy
      split at hy
      · rename_i e
        injection hy with hy
        subst hy
        rw [← path_inj e]
        have := ht 0 v rfl
        simp only [Nat.add_zero] at this
        simpa [Array.getD_eq_getD_getElem?, this] using h1
      · exact hF t y hy
/-! ### the marks of ranges over functions, on the way out -/
theorem mk_old {H : Hp} (hH : HR fb φ H w) {D : Nat} (hd : w.heap[D]? = some (.deferred (some []))) (hi : ¬ img φ H D) {p : B} {k : Blk} (hp : H.m.get p = some k) (ha : k.alive = true) : ∀ g sz, φ p = some (g, sz) → g ≠ D := by
  rintro g sz hg rfl
  cases hw : k.wrt with
  | true => exact hi ⟨p, k, sz, hp, hw, hg⟩
  | false =>
    have hb := hH.blk p k hp
    cases k with
    | rows z l pur xs =>
      obtain ⟨g', ty, c0, h1, _, h3, _⟩ := hb
      rw [hg] at h1
      injection h1 with h1
      injection h1 with h1 _
      subst h1
      rw [hd] at h3
      cases h3
    | dead => cases ha
    | box ty cs => cases hw
    | map es c => cases hw
    | iter mo s se st => cases hw
    | bts ty l => cases hw
    | dfr => cases hw
    | lp st pj n ps asg body fr => cases hw
theorem mk_keep {H : Hp} {D : Nat} (hd : w.heap[D]? = some (.deferred (some []))) : Keep φ (wrs fb φ H) w φ (wrs fb φ H) (w.putObj D (.deferred none)) := by
  have hlt := (Array.getElem?_eq_some_iff.1 hd).1
  refine ⟨fun _ _ h => h, fun _ _ h => h, by simp, fun a hg hn => ?_, fun g c ty fz hc => ?_⟩
  · by_cases e : a.block = D
    · have h1 : w.heap[a.block]? = some (.deferred (some [])) := e ▸ hd
      have h2 : (w.putObj D (.deferred none)).heap[a.block]? = some (.deferred none) := by rw [e]; exact World.putObj_heap_same hlt
      rcases a with ⟨blk, off, view⟩
      simp only at h1 h2
      cases view <;> simp [World.cell?, h1, h2]
    · exact cell_of_block (World.putObj_heap_other e)
  · have e : g ≠ D := fun e => by rw [e, hd] at hc; cases hc
    exact ⟨c, fz, (World.putObj_heap_other e).trans hc, rfl⟩
theorem mk_hr {H : Hp} (hH : HR fb φ H w) {D : Nat} (hd : w.heap[D]? = some (.deferred (some []))) (hi : ¬ img φ H D) : HR fb φ H (w.putObj D (.deferred none)) := by
  refine ⟨hH.lt, hH.phl, fun p g sz hp => by simpa using hH.phw p g sz hp, hH.inj, fun p k hp => ?_, fun g hg => by simpa using hH.fbl g hg⟩
  cases ha : k.alive with
  | true => exact BR.keepK (mk_keep hd) (fun g sz hg => World.putObj_heap_other (mk_old hH hd hi hp ha g sz hg)) (hH.blk p k hp)
  | false =>
    cases k <;> simp_all [Blk.alive]
    trivial
theorem leaves_marks {fn : Func} {n : Nat} {fr : Tr AV} {R : Ending → World → Prop} {φ0 : Phi} {H0 H : Hp} {w0 : World} : ∀ (Ds : List Nat) {w : World} {tmps : Array Value}, At fb φ0 H0 w0 n fr H φ ⟨tmps, Ds.map mkD⟩ w →
    (∀ w', At fb φ0 H0 w0 n fr H φ ⟨tmps, []⟩ w' → ∃ v, (results fn tmps).run P w' = .ok v w' ∧ R (.returned v) w') → LeavesInM (FW none) 0 P fn tmps R (Ds.map mkD) .returning w
  | [], w, tmps, hA, k => k w hA
  | D :: Ds, w, tmps, hA, k => by
    obtain ⟨Es, h1, h2, h3⟩ := hA.defers
    cases Es with
    | nil => cases h1
    | cons E Es =>
      simp only [List.map_cons, List.cons.injEq] at h1
      obtain ⟨h1, h1'⟩ := h1
      have hDE : D = E := by
        have := congrArg Deferred.target h1
        simpa [mkD] using this
      subst hDE
      obtain ⟨q1, q2, q3⟩ := h3 D (List.mem_cons_self ..)
      have hne := (List.nodup_cons.1 h2)
      refine ⟨by simp, .inl ⟨D, _, rfl, run_takeDeferred q2, leaves_marks Ds ⟨hA.size, ⟨Es, h1', hne.2, fun D' hD' => ?_⟩, ?_, hA.low, hA.nx, mk_hr hA.hr q2 q3, FR.keep (mk_keep q2) hA.fr⟩ k⟩⟩
      · obtain ⟨r1, r2, r3⟩ := h3 D' (List.mem_cons_of_mem _ hD')
        exact ⟨r1, (World.putObj_heap_other (k := D') (r := D) (fun e => hne.1 (by rw [← e]; exact hD'))).trans r2, r3⟩
      · have hE := hA.ext
        refine ⟨hE.os, hE.tape, hE.output, by simpa using hE.size, fun g hg hn => (World.putObj_heap_other (by omega)).trans (hE.old g hg hn), fun g c ty fz hc => ?_, hE.phi, hE.img⟩
        have hlt := (Array.getElem?_eq_some_iff.1 hc).1
        obtain ⟨c', fz', r1, r2⟩ := hE.shape g c ty fz hc
        exact ⟨c', fz', (World.putObj_heap_other (by omega)).trans r1, r2⟩

/-- A function, from its code. -/
theorem fn_gen (hm : P.follows .mixedOrders = true) {Y : YT} (hY : YSem P Y) {f : FuncId} {fn : Func} {c : Code} {ac : AC} {rvs : List RV} {hint : Nat → Nat → Bool} (hf : P.funcs[f]? = some fn) (hb : fn.body = some c)
    {n : Nat} (hn : fn.ntmps = n) (hc : cc P n hint c = some ac) (hr : cRes P fn.results.toList = some rvs) {xs : List AV} (hl : xs.length ≤ n) {H : Hp} {R : AV → Hp → Prop}
    (h : AW P Y true H.nx ac (finK rvs R) (mkfr 0 xs .e) H) {w : World} {cargs : List Value} (hH : HR fb φ H w) (ha : ARl φ (wrs fb φ H) w xs cargs) :
    Calls P f cargs.toArray w fun e w' => ∃ v H' φ' cv, e = .returned cv ∧ R v H' ∧ H.nx.toNat ≤ H'.nx.toNat ∧ (∀ p : B, p.toNat < H.nx.toNat → φ' p = φ p) ∧ Ext fb φ H w φ' H' w' ∧ HR fb φ' H' w' ∧ AR φ' (wrs fb φ' H') w' v cv := by
  subst hn
  have hlen : cargs.length = xs.length := ha.length
  refine (callsIn_wide (n := 0)).1 (callsIn_of_wp_marks (F := FW none) (n := 0) hf hb trivial ?_)
  refine cw_ok hm (n := fn.ntmps) c (out := true) (rnd := none) (fun _ => rfl) hY hc (Nat.le_refl _) hH.phl h (At.start ?_ hH ?_) ?_
  · simp; omega
  · refine fr_mk (vs := cargs) ha (fun j v hj => ?_) (fun t v hv => by rw [Tr.get_e] at hv; cases hv)
    have hj' := (List.getElem?_eq_some_iff.1 hj).1
    simp only [Nat.zero_add]
    rw [Array.getElem?_append_left (by simpa using hj')]
    simpa using hj
  · have fin : ∀ (fr : Tr AV) (H' : Hp) (φ' : Phi) (a : Act) (w' : World) (xs : List AV), resA fr H'.m rvs = some xs → R (resV xs) H' → At fb φ H w fn.ntmps fr H' φ' a w' →
        LeavesInM (FW none) 0 P fn a.tmps (fun e w' => ∃ v H' φ' cv, e = .returned cv ∧ R v H' ∧ H.nx.toNat ≤ H'.nx.toNat ∧ (∀ p : B, p.toNat < H.nx.toNat → φ' p = φ p) ∧ Ext fb φ H w φ' H' w' ∧ HR fb φ' H' w' ∧ AR φ' (wrs fb φ' H') w' v cv) a.defers .returning w' := by
      intro fr H' φ' a w' xs hx hR hA
      obtain ⟨Ds, hD, _⟩ := id hA.defers
      rcases a with ⟨tmps, ds⟩
      simp only at hD
      subst hD
      refine leaves_marks Ds hA fun w' hA => ?_
      obtain ⟨vs, q1, q2⟩ := res_ok hA.hr hA.fr hr hx
      have hv : ∃ v, (results fn tmps).run P w' = .ok v w' ∧ AR φ' (wrs fb φ' H') w' (resV xs) v := by
        have hrun : (results fn tmps).run P w' = .ok (if h : vs.toArray.size = 1 then vs.toArray[0] else .tuple vs.toArray) w' := by
          have e : results fn tmps = (fn.results.mapM (rdRes tmps) >>= fun vs => pure (if h : vs.size = 1 then vs[0] else .tuple vs)) := by
            unfold results
            congr 1
          rw [e, Array.mapM_eq_mapM_toList]
          simp [q1]
        refine ⟨_, hrun, ?_⟩
        rcases xs with _ | ⟨x, _ | ⟨y, xs⟩⟩
        · simp only [ARl] at q2
          subst q2
          simp [resV, AR, ARl]
        · simp only [ARl] at q2
          obtain ⟨v, vs', rfl, h1, rfl⟩ := q2
          simpa [resV] using h1
        · have q2' := q2
          simp only [ARl] at q2
          obtain ⟨v, vs', rfl, h1, u, us, rfl, h2⟩ := q2
          simp only [resV, AR]
          exact ⟨v :: u :: us, by simp, q2'⟩
      obtain ⟨v, q3, q4⟩ := hv
      exact ⟨v, q3, _, H', φ', v, rfl, hR, hA.nx, hA.low, hA.ext, hA.hr, q4⟩
    intro e fr H' φ' a w' hk hA
    cases e with
    | n =>
      simp only [finK] at hk
      split at hk
      · exact fin _ _ _ _ _ _ (by assumption) hk hA
      · exact hk.elim
    | x id => exact hk.elim
    | r =>
      simp only [finK] at hk
      split at hk
      · exact fin _ _ _ _ _ _ (by assumption) hk hA
      · exact hk.elim
theorem fn_I (hm : P.follows .mixedOrders = true) {f : FuncId} {fn : Func} {c : Code} {ac : AC} {rvs : List RV} {hint : Nat → Nat → Bool} (hf : P.funcs[f]? = some fn) (hb : fn.body = some c) (hname : (fn.name == "runtime.NumGoroutine") = false)
    {n : Nat} (hn : fn.ntmps = n) (hc : cc P n hint c = some ac) (hr : cRes P fn.results.toList = some rvs) {xs : List AV} (hl : xs.length ≤ n) {H : Hp} {R : AV → Hp → Prop}
    (h : AW P Y0 true H.nx ac (finK rvs R) (mkfr 0 xs .e) H) : ICall P f xs H R :=
  ⟨⟨fn, c, hf, hb, hname⟩, fun fb φ w cargs hH ha => fn_gen hm ySem0 hf hb hn hc hr hl h hH ha⟩
/-- An iterator. -/
theorem fn_Y (hm : P.follows .mixedOrders = true) {Y : YT} {f : FuncId} {fn : Func} {c : Code} {ac : AC} {rvs : List RV} {hint : Nat → Nat → Bool} (hf : P.funcs[f]? = some fn) (hb : fn.body = some c) (hname : (fn.name == "runtime.NumGoroutine") = false)
    {n : Nat} (hn : fn.ntmps = n) (hc : cc P n hint c = some ac) (hr : cRes P fn.results.toList = some rvs) {xs : List AV} (hl : xs.length ≤ n) {H : Hp} {R : AV → Hp → Prop}
    (h : AW P Y true H.nx ac (finK rvs R) (mkfr 0 xs .e) H) : ICallY P Y f xs H R :=
  ⟨⟨fn, c, hf, hb, hname⟩, fun hY fb φ w cargs hH ha => fn_gen hm hY hf hb hn hc hr hl h hH ha⟩

/-! ### functions that leave nothing behind -/
def frzT (m : Tr Blk) (x : AV) : Option AV :=
  match x with
  | .tu xs => (frzs m xs).map fun y => .tu y.1
  | x => (frz m x).map fun y => y.1
theorem frzT_ok (hH : HR fb φ H w) {x y : AV} {v : Value} (hx : AR φ (wrs fb φ H) w x v) (h : frzT H.m x = some y) : AR pnone fb w y v := by
  have hle : ∀ g, fb g → wrs fb φ H g := fun g hg => .inl hg
  have hbs : ∀ (bs : List B), ∀ b ∈ bs, ∀ g s, φ b = some (g, s) → ¬ fb g := fun _ b _ g s hg => (hH.phw b g s hg).2
  unfold frzT at h
  split at h
  · rename_i xs
    simp only [Option.map_eq_some_iff] at h
    obtain ⟨⟨ys, bs⟩, h1, rfl⟩ := h
    simp only [AR] at hx ⊢
    obtain ⟨vs, h2, h3⟩ := hx
    exact ⟨vs, h2, frzs_ok hH hle h3 h1 (hbs _)⟩
  · simp only [Option.map_eq_some_iff] at h
    obtain ⟨⟨y', bs⟩, h1, rfl⟩ := h
    exact frz_ok hH hle hx h1 (hbs _)
theorem img_empty {g : Nat} : ¬ img pnone Hp.empty g := by
  rintro ⟨p, k, sz, h, _⟩
  simp [Hp.empty, Tr.get_e] at h
theorem hr_empty (h : ∀ g, fb g → g < w.heap.size) : HR fb pnone Hp.empty w :=
  ⟨fun p k hp => (by simp [Hp.empty, Tr.get_e] at hp), fun p x hp => (by cases hp), fun p g sz hp => (by cases hp), fun p q g s t k k' h1 => (by simp [Hp.empty, Tr.get_e] at h1), fun p k hp => (by simp [Hp.empty, Tr.get_e] at hp), h⟩
theorem PCall.of_I {f : FuncId} {xs : List AV} {v : AV} (h : ICall P f xs Hp.empty fun y H => frzT H.m y = some v) : PCall P f xs v := by
  refine ⟨h.1, fun fb w cargs hfb ha => ?_⟩
  have hw : wrs fb pnone Hp.empty = fb := by
    funext g
    apply propext
    exact ⟨fun hg => hg.elim id fun hi => absurd hi img_empty, .inl⟩
  refine (h.2 fb pnone w cargs (hr_empty hfb) (by rw [hw]; exact ha)).mono ?_
  rintro e w' ⟨y, H', φ', cv, rfl, h1, _, _, h2, h3, h4⟩
  exact ⟨cv, rfl, ⟨h2.os, h2.tape, h2.output, h2.size, fun g hg => h2.old g hg img_empty⟩, frzT_ok h3 h4 h1⟩
/-- A function of plain values, from its code. -/
theorem fn_P (hm : P.follows .mixedOrders = true) {f : FuncId} {fn : Func} {c : Code} {ac : AC} {rvs : List RV} {hint : Nat → Nat → Bool} (hf : P.funcs[f]? = some fn) (hb : fn.body = some c) (hname : (fn.name == "runtime.NumGoroutine") = false)
    {n : Nat} (hn : fn.ntmps = n) (hc : cc P n hint c = some ac) (hr : cRes P fn.results.toList = some rvs) {xs : List AV} (hl : xs.length ≤ n) {v : AV}
    (h : AW P Y0 true .e ac (finK rvs fun y H => frzT H.m y = some v) (mkfr 0 xs .e) Hp.empty) : PCall P f xs v :=
  .of_I (fn_I hm hf hb hname hn hc hr hl h)
end
end Go.Za
