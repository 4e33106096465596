/- The abstract machine, part 19b: regions in the order of the text, with calls over the whole heap. No condition. -/
import Derived.Test.YtaabgjmcikolfaaGreatDoorZa19
import Derived.Maps.RangeRun
import Derived.Laws.IdiomRangeMap
set_option linter.unusedVariables false
set_option linter.unusedSimpArgs false
namespace Go.Za
open Go.RowKit Go.ChangeMaps Go.Maps

/-- What the call of a yield comes to. -/
abbrev YT := B → List AV → Hp → (AV → Hp → Prop) → Prop
def Y0 : YT := fun _ _ _ _ => False
/-- Which entries a walk over a map may go to; none: it ends. -/
def leftA (es : List (AV × AV × Nat)) (seen : List Nat) : List (AV × AV × Nat) := es.filter fun e => !seen.contains e.2.2
def candA (es : List (AV × AV × Nat)) (seen : List Nat) : List (Option (AV × AV × Nat)) :=
  match leftA es seen with
  | [] => [none]
  | l => l.map some
/-- No entry has been laid since the walk began. -/
def oldA (es : List (AV × AV × Nat)) (since stepped : Nat) : Bool := (es.all fun e => decide (e.2.2 < since)) && decide (since ≤ stepped)
/-- The run of a region in the order of the text; a call may go over the whole heap. -/
def awT (P : Program) (Y : YT) : List Stm → Tr AV → Hp → (Tr AV → Hp → Prop) → Prop
  | [], fr, H, K => K fr H
  | ⟨dst, gd, act⟩ :: ss, fr, H, K => match gdA fr gd with
    | some true => match act with
      | .op x => match aop fr H.m H.nx x with
        | some (v, e) => awT P Y ss (putA fr dst v) (H.app e) K
        | none => False
      | .call i x args =>
        (∃ f cs, x.ev fr = .fn f cs ∧ ICall P f (args.map (Opd.ev fr) ++ cs) H fun v H' => awT P Y ss (putA fr dst v) H' K) ∨
        (∃ r, Does P fr H.m (.call i x args) r ∧ r.lo = H.nx ∧ r.lo.toNat ≤ r.hi.toNat ∧ awT P Y ss (putA fr dst r.v) ⟨r.ef.on H.m, r.hi⟩ K) ∨
        (∃ b, x.ev fr = .yl b ∧ Y b (args.map (Opd.ev fr)) H fun v H' => awT P Y ss (putA fr dst v) H' K)
      | .nxt x => ∃ b mo since seen stepped, x.ev fr = .ref b 0 ∧ H.m.get b = some (.iter mo since seen stepped) ∧ match mo with
        | none => awT P Y ss (putA fr dst (.tu [.b false])) H K
        | some m => ∃ es c, H.m.get m = some (.map es c) ∧ oldA es since stepped = true ∧ ∀ y ∈ candA es seen, match y with
          | none => awT P Y ss (putA fr dst (.tu [.b false])) H K
          | some (k, v, n) => awT P Y ss (putA fr dst (.tu [.b true, k, v])) (H.app (.put b (.iter (some m) since (seen ++ [n]) c))) K
      | .ent x => ∃ b m since seen stepped es c n k v n', x.ev fr = .ref b 0 ∧ H.m.get b = some (.iter (some m) since seen stepped) ∧ H.m.get m = some (.map es c) ∧ c = stepped ∧ seen.getLast? = some n ∧ es.find? (fun e => e.2.2 == n) = some (k, v, n') ∧
          awT P Y ss (putA fr dst (.tu [k, v])) H K
    | some false => awT P Y ss (putA fr dst (.tu [])) H K
    | none => False

section
variable {P : Program} {fb : Nat → Prop} {φ : Phi} {w : World}
theorem stmA_ok {rnd : Option Nat} {ops : Array Oper} {i : Nat} {o : Oper} {hint : Bool} {s : Stm} {a : Act} {Q : Exit → Act → World → Prop} (hi : ops[i]? = some o) (hc : cStm P ops hint o = some s) (hd : ∀ d, o.dst = some d → d < a.tmps.size)
    {fr : Tr AV} {H : Hp} (hH : HR fb φ H w) (hF : FR φ (wrs fb φ H) w fr a.tmps) (hg : gdA fr s.gd = some true) {imp : Bool} {x : Opd} {args : List Opd} (hact : s.act = .call imp x args) {f : Nat} {cs : List AV} (hx : x.ev fr = .fn f cs)
    {R : AV → Hp → Prop} (h : ICall P f (args.map (Opd.ev fr) ++ cs) H R) {K : Act → World → Prop}
    (k : ∀ v H' φ' a' w', R v H' → a'.tmps.size = a.tmps.size → a'.defers = a.defers → H.nx.toNat ≤ H'.nx.toNat → (∀ p : B, p.toNat < H.nx.toNat → φ' p = φ p) → Ext fb φ H w φ' H' w' → HR fb φ' H' w' →
      FR φ' (wrs fb φ' H') w' (putA fr s.dst v) a'.tmps → K a' w') : wpOpIn (FW rnd) 0 P ops Q i K a w := by
  unfold cStm at hc
  split at hc
  · rename_i g act hgc hac
    injection hc with hc
    subst hc
    simp only at hg hact
    subst hact
    have hput : ∀ (cv : Value), (a.put o.dst cv).tmps.size = a.tmps.size ∧ (a.put o.dst cv).defers = a.defers := by
      intro cv
      cases o.dst with
      | none => exact ⟨rfl, rfl⟩
      | some d => simp [Act.put]
    have hset : ∀ {ψ : Phi} {wr : Nat → Prop} {w1 : World} {v : AV} {cv : Value}, FR ψ wr w1 fr a.tmps → AR ψ wr w1 v cv → FR ψ wr w1 (putA fr (o.dst.map path) v) (a.put o.dst cv).tmps := by
      intro ψ wr w1 v cv hf hv
      cases ho : o.dst with
      | none => exact hf
      | some d => exact hf.set (hd d ho) hv
    unfold wpOpIn
    simp only [hi]
    rw [gd_ok hF hgc hg]
    simp only [if_true]
    obtain ⟨fo, fargs, tys, hop, hx', hl⟩ := cAct_call hac
    have hfn := opd_ok hF hx'
    rw [hx] at hfn
    simp only [AR] at hfn
    obtain ⟨us, hfv, hus⟩ := hfn
    have hargs := opds_ok hF hl
    obtain ⟨fn, c, hfn, hbody, hname⟩ := h.1
    have hrun : (execOp a.eval o).run P w = .ok (.enter f (fargs.map a.eval ++ us.toArray)) w := by
      have hname' : ¬ fn.name = "runtime.NumGoroutine" := by simpa using hname
      simp [execOp, hop, resolve, hfv, Deferred.ofValue, invoke, callFunc, hfn, hbody, hname']
    have hall : ARl φ (wrs fb φ H) w (args.map (Opd.ev fr) ++ cs) ((fargs.map a.eval).toList ++ us) := by
      have := hargs.append hus
      simpa using this
    have := h.2 fb φ w _ hH hall
    have e : ((fargs.map a.eval).toList ++ us).toArray = fargs.map a.eval ++ us.toArray := by simp
    rw [e] at this
    refine wp_ent (by intro c; rw [hop]; simp) hrun (this.mono ?_)
    rintro _ w' ⟨v, H', φ', cv, rfl, hR, h1, h2, h3, h4, h5⟩
    exact ⟨cv, rfl, k v H' φ' _ w' hR (hput _).1 (hput _).2 h1 h2 h3 h4 (hset (hF.keep h3.keep) h5)⟩
  · cases hc

/-- What a round answers, and leaves. -/
def YieldR (P : Program) (g : Nat) (args : List Value) (w : World) (R : Ending → World → Prop) : Prop :=
  ∃ fn tmps asg body, (Instr.yield g args.toArray).run P w = .ok (.round g fn tmps asg body) w ∧ RoundIn (FW none) 0 P g fn tmps asg body w R
def YSem (P : Program) (Y : YT) : Prop := ∀ b xs H R, Y b xs H R → ∀ (fb : Nat → Prop) (φ : Phi) (w : World) (cargs : List Value), HR fb φ H w → ARl φ (wrs fb φ H) w xs cargs → ∃ g sz, φ b = some (g, sz) ∧
  YieldR P g cargs w fun e w' => ∃ v H' φ' cv, e = .returned cv ∧ R v H' ∧ H.nx.toNat ≤ H'.nx.toNat ∧ (∀ p : B, p.toNat < H.nx.toNat → φ' p = φ p) ∧ Ext fb φ H w φ' H' w' ∧ HR fb φ' H' w' ∧ AR φ' (wrs fb φ' H') w' v cv
theorem ySem0 : YSem P Y0 := fun _ _ _ _ h => h.elim

/-- What every kind of statement shares. -/
theorem stm_pre {rnd : Option Nat} {ops : Array Oper} {i : Nat} {o : Oper} {hint : Bool} {s : Stm} {a : Act} {Q : Exit → Act → World → Prop} (hi : ops[i]? = some o) (hc : cStm P ops hint o = some s) (hd : ∀ d, o.dst = some d → d < a.tmps.size)
    {fr : Tr AV} {wr : Nat → Prop} (hF : FR φ wr w fr a.tmps) (hg : gdA fr s.gd = some true) {K : Act → World → Prop}
    (k : cAct P hint o.op = some s.act → (∀ cv : Value, (a.put o.dst cv).tmps.size = a.tmps.size ∧ (a.put o.dst cv).defers = a.defers) →
      (∀ {ψ : Phi} {wr : Nat → Prop} {w1 : World} {v : AV} {cv : Value}, FR ψ wr w1 fr a.tmps → AR ψ wr w1 v cv → FR ψ wr w1 (putA fr s.dst v) (a.put o.dst cv).tmps) → o.wpIn (FW rnd) 0 P a w K Q) : wpOpIn (FW rnd) 0 P ops Q i K a w := by
  unfold cStm at hc
  split at hc
  · rename_i g act hgc hac
    injection hc with hc
    subst hc
    unfold wpOpIn
    simp only [hi]
    rw [gd_ok hF hgc hg]
    simp only [if_true]
    refine k hac (fun cv => ?_) (fun {ψ wr w1 v cv} hf hv => ?_)
    · cases o.dst with
      | none => exact ⟨rfl, rfl⟩
      | some d => simp [Act.put]
    · cases ho : o.dst with
      | none => exact hf
      | some d => exact hf.set (hd d ho) hv
  · cases hc
theorem cAct_nxt {hint : Bool} {op : Op} {x : Opd} (h : cAct P hint op = some (.nxt x)) : ∃ y, op = .next y false ∧ cOpd y = some x := by
  unfold cAct at h
  split at h
  · rename_i y
    cases hx : cOpd y with
    | none => rw [hx] at h; cases h
    | some z => rw [hx] at h; injection h with h; injection h with h; subst h; exact ⟨y, rfl, hx⟩
  · rename_i y
    cases hx : cOpd y with
    | none => rw [hx] at h; cases h
    | some z => rw [hx] at h; injection h with h; cases h
  · split at h
    · injection h with h; cases h
    · split at h
      · injection h with h; cases h
      · cases h
  · injection h with h; cases h
theorem cAct_ent {hint : Bool} {op : Op} {x : Opd} (h : cAct P hint op = some (.ent x)) : ∃ y, op = .entry y ∧ cOpd y = some x := by
  unfold cAct at h
  split at h
  · rename_i y
    cases hx : cOpd y with
    | none => rw [hx] at h; cases h
    | some z => rw [hx] at h; injection h with h; cases h
  · rename_i y
    cases hx : cOpd y with
    | none => rw [hx] at h; cases h
    | some z => rw [hx] at h; injection h with h; injection h with h; subst h; exact ⟨y, rfl, hx⟩
  · split at h
    · injection h with h; cases h
    · split at h
      · injection h with h; cases h
      · cases h
  · injection h with h; cases h

/-! ### the walk over a map -/
theorem iterR {H : Hp} (hH : HR fb φ H w) {b : B} {o : Nat} {x : Value} (hx : AR φ (wrs fb φ H) w (.ref b o) x) {mo : Option B} {since : Nat} {seen : List Nat} {stepped : Nat} (hb : H.m.get b = some (.iter mo since seen stepped)) :
    ∃ g sz mo', x = .pointer (some ⟨g, o, none⟩) ∧ φ b = some (g, sz) ∧ w.heap[g]? = some (.mapIter mo' since seen.toArray stepped) ∧ (match (generalizing := false) mo with | none => mo' = none | some m => ∃ gm s, φ m = some (gm, s) ∧ mo' = some gm) := by
  simp only [AR] at hx
  obtain ⟨g, sz, h1, rfl⟩ := hx
  obtain ⟨g', sz', mo', h2, h3, h4⟩ := hH.blk b _ hb
  rw [h1] at h2
  injection h2 with h2
  injection h2 with h2 _
  subst h2
  exact ⟨g, sz, mo', rfl, h1, h3, h4⟩
theorem mapR' {H : Hp} (hH : HR fb φ H w) {b : B} {es : List (AV × AV × Nat)} {c g sz : Nat} (hg : φ b = some (g, sz)) (hb : H.m.get b = some (.map es c)) : ∃ es', w.heap[g]? = some (.map es' c) ∧ ARe φ (wrs fb φ H) w es es'.toList := by
  obtain ⟨g', sz', es', h2, h3, h4⟩ := hH.blk b _ hb
  rw [hg] at h2
  injection h2 with h2
  injection h2 with h2 _
  subst h2
  exact ⟨es', h3, h4⟩
/-- Entries that stand for one another, filtered by when they were born. -/
theorem ARe.filter {wr : Nat → Prop} (p : Nat → Bool) : ∀ {es : List (AV × AV × Nat)} {l : List MapEntry}, ARe φ wr w es l → ARe φ wr w (es.filter fun e => p e.2.2) (l.filter fun e => p e.born)
  | [], l, h => by simp only [ARe] at h; subst h; simp [ARe]
  | (k, v, n) :: es, l, h => by
    simp only [ARe] at h
    obtain ⟨e, es', rfl, h1, h2, h3, h4⟩ := h
    subst h3
    have ih := ARe.filter p h4
    by_cases hp : p e.born = true
    · rw [List.filter_cons_of_pos (by simpa using hp), List.filter_cons_of_pos (by simpa using hp)]
      simp only [ARe]
      exact ⟨e, _, rfl, h1, h2, rfl, ih⟩
    · rw [List.filter_cons_of_neg (by simpa using hp), List.filter_cons_of_neg (by simpa using hp)]
      exact ih
theorem ARe.length {wr : Nat → Prop} : ∀ {es : List (AV × AV × Nat)} {l : List MapEntry}, ARe φ wr w es l → l.length = es.length
  | [], l, h => by simp only [ARe] at h; subst h; rfl
  | (k, v, n) :: es, l, h => by
    simp only [ARe] at h
    obtain ⟨e, es', rfl, h1, h2, h3, h4⟩ := h
    simp [ARe.length h4]
theorem ARe.all {wr : Nat → Prop} (p : Nat → Bool) : ∀ {es : List (AV × AV × Nat)} {l : List MapEntry}, ARe φ wr w es l → (es.all fun e => p e.2.2) = l.all fun e => p e.born
  | [], l, h => by simp only [ARe] at h; subst h; rfl
  | (k, v, n) :: es, l, h => by
    simp only [ARe] at h
    obtain ⟨e, es', rfl, h1, h2, h3, h4⟩ := h
    simp only [List.all_cons, h3, ARe.all p h4]
theorem ARe.append {wr : Nat → Prop} : ∀ {es fs : List (AV × AV × Nat)} {l k : List MapEntry}, ARe φ wr w es l → ARe φ wr w fs k → ARe φ wr w (es ++ fs) (l ++ k)
  | [], fs, l, k, h, h' => by simp only [ARe] at h; subst h; exact h'
  | (a, v, n) :: es, fs, l, k, h, h' => by
    simp only [ARe] at h
    obtain ⟨e, es', rfl, h1, h2, h3, h4⟩ := h
    simp only [List.cons_append, ARe]
    exact ⟨e, _, rfl, h1, h2, h3, ARe.append h4 h'⟩
theorem ARe.get {wr : Nat → Prop} : ∀ {es : List (AV × AV × Nat)} {l : List MapEntry}, ARe φ wr w es l → ∀ (i : Nat) (e : MapEntry), l[i]? = some e → ∃ k v, es[i]? = some (k, v, e.born) ∧ AR φ wr w k e.key ∧ AR φ wr w v e.val
  | [], l, h, i, e, he => by simp only [ARe] at h; subst h; simp at he
  | (a, v, n) :: es, l, h, i, e, he => by
    simp only [ARe] at h
    obtain ⟨e', es', rfl, h1, h2, h3, h4⟩ := h
    cases i with
    | zero =>
      simp only [List.getElem?_cons_zero, Option.some.injEq] at he
      subst he
      exact ⟨a, v, by simp [h3], h1, h2⟩
    | succ i =>
      simp only [List.getElem?_cons_succ] at he ⊢
      exact ARe.get h4 i e he
theorem ARe.find {wr : Nat → Prop} (n : Nat) : ∀ {es : List (AV × AV × Nat)} {l : List MapEntry}, ARe φ wr w es l → ∀ {k v : AV} {n' : Nat}, es.find? (fun e => e.2.2 == n) = some (k, v, n') → ∃ e, l.find? (·.born == n) = some e ∧ AR φ wr w k e.key ∧ AR φ wr w v e.val
  | [], l, h, k, v, n', hf => by simp at hf
  | (a, a2, m) :: es, l, h, k, v, n', hf => by
    simp only [ARe] at h
    obtain ⟨e, es', rfl, h1, h2, h3, h4⟩ := h
    subst h3
    by_cases hm : (e.born == n) = true
    · rw [List.find?_cons_of_pos (by simpa using hm)] at hf
      injection hf with hf
      injection hf with hf1 hf
      injection hf with hf2 hf3
      subst hf1; subst hf2
      exact ⟨e, by rw [List.find?_cons_of_pos (by simpa using hm)], h1, h2⟩
    · rw [List.find?_cons_of_neg (by simpa using hm)] at hf
      obtain ⟨e', q1, q2⟩ := ARe.find n h4 hf
      exact ⟨e', by rw [List.find?_cons_of_neg (by simpa using hm)]; exact q1, q2⟩

theorem map_some_of {α : Type} : ∀ {l : List α}, l ≠ [] → (match l with | [] => [none] | l => l.map some) = l.map some
  | [], h => absurd rfl h
  | _ :: _, _ => rfl
theorem awT_ok {rnd : Option Nat} (hm : ∀ (ops : Array Oper), True) {Y : YT} (hY : YSem P Y) {n : Nat} {ops : Array Oper} {Q : Exit → Act → World → Prop} : ∀ (ss : List Stm) (k : Nat) {φ : Phi} {w : World} {a : Act} {fr : Tr AV} {H : Hp} {K : Tr AV → Hp → Prop}, (∀ j s, ss[j]? = some s → Cmp P ops n (k + j) s) → a.tmps.size = n →
    HR fb φ H w → FR φ (wrs fb φ H) w fr a.tmps → awT P Y ss fr H K →
    (∀ fr' H' φ' a' w', K fr' H' → a'.tmps.size = n → a'.defers = a.defers → H.nx.toNat ≤ H'.nx.toNat → (∀ p : B, p.toNat < H.nx.toNat → φ' p = φ p) → Ext fb φ H w φ' H' w' → HR fb φ' H' w' → FR φ' (wrs fb φ' H') w' fr' a'.tmps → Q .normal a' w') →
    wpOpsIn (FW rnd) 0 P ops Q (List.range' k ss.length) a w
  | [], k, φ, w, a, fr, H, K, _, hn, hH, hF, h, kk => kk fr H φ a w h hn rfl (Nat.le_refl _) (fun _ _ => rfl) (Ext.refl ..) hH hF
  | ⟨dst, gd, act⟩ :: ss, k, φ, w, a, fr, H, K, hc, hn, hH, hF, h, kk => by
    obtain ⟨o, hint, ho, hcs, hd⟩ := hc 0 _ rfl
    have hcs' : ∀ j s, ss[j]? = some s → Cmp P ops n (k + 1 + j) s := fun j s hj => by
      have := hc (j + 1) s (by simpa using hj)
      rwa [show k + (j + 1) = k + 1 + j by omega] at this
    rw [List.length_cons, List.range'_succ, wpOpsIn_cons]
    -- behind the first
    have rest : ∀ (v : AV) (H1 : Hp) (φ1 : Phi) (a1 : Act) (w1 : World), awT P Y ss (putA fr dst v) H1 K → a1.tmps.size = a.tmps.size → a1.defers = a.defers → H.nx.toNat ≤ H1.nx.toNat → (∀ p : B, p.toNat < H.nx.toNat → φ1 p = φ p) → Ext fb φ H w φ1 H1 w1 → HR fb φ1 H1 w1 →
        FR φ1 (wrs fb φ1 H1) w1 (putA fr dst v) a1.tmps → wpOpsIn (FW rnd) 0 P ops Q (List.range' (k + 1) ss.length) a1 w1 := by
      intro v H1 φ1 a1 w1 h1 e1 e2 hle hlow hE hH1 hF1
      refine awT_ok hm hY ss (k + 1) hcs' (e1.trans hn) hH1 hF1 h1 ?_
      intro fr' H' φ' a' w' q0 q1 q2 q3 q4 q5 q6 q7
      exact kk fr' H' φ' a' w' q0 q1 (q2.trans e2) (Nat.le_trans hle q3) (fun p hp => (q4 p (Nat.lt_of_lt_of_le hp hle)).trans (hlow p hp)) (hE.trans q5) q6 q7
    have one : ∀ (r : Rec), gdA fr gd = some true → Does P fr H.m act r → r.lo = H.nx → r.lo.toNat ≤ r.hi.toNat → awT P Y ss (putA fr dst r.v) ⟨r.ef.on H.m, r.hi⟩ K → wpOpIn (FW rnd) 0 P ops Q (k + 0) (wpOpsIn (FW rnd) 0 P ops Q (List.range' (k + 1) ss.length)) a w := by
      intro r hg hd' hlo hle hK
      refine stm_ok (m := H.m) (nx0 := H.nx) (nx := r.hi) ho hcs (fun d hd'' => hn ▸ hd d hd'') hH hF (ro := some r) ⟨hg, hd'⟩ (hlo ▸ hle) ⟨hle, Nat.le_refl _, fun p h1 _ => hH.phi_none (by rw [hlo] at h1; exact h1)⟩ ?_
      intro φ1 a1 w1 e1 e2 hE hH1 hF1 hout
      exact rest r.v ⟨r.ef.on H.m, r.hi⟩ φ1 a1 w1 hK e1 e2 (hlo ▸ hle) (fun p hp => hout p (.inl (by rw [hlo]; exact hp))) hE hH1 hF1
    unfold awT at h
    split at h
    · rename_i hg
      split at h
      · rename_i x
        split at h
        · rename_i v e hx
          refine one ⟨v, x.rds fr, .eff H.nx e, H.nx, (H.app e).nx⟩ hg ?_ rfl ?_ ?_
          · have := Does.op (P := P) hx
            rw [Hp.app_eq]
            exact this
          · rw [Hp.app_eq]
            simp only
            split
            · rw [B.toNat_succ]; omega
            · exact Nat.le_refl _
          · rw [Hp.app_eq] at h ⊢
            exact h
        · cases h
      · rename_i i x args
        rcases h with ⟨f, cs, hx, hI⟩ | ⟨r, h1, h2, h3, h4⟩ | ⟨b, hx, hYb⟩
        · refine stmA_ok ho hcs (fun d hd'' => hn ▸ hd d hd'') hH hF hg rfl hx hI ?_
          intro v H' φ' a' w' hR e1 e2 hle hlow hE hH' hF'
          exact rest v H' φ' a' w' hR e1 e2 hle hlow hE hH' hF'
        · exact one r hg h1 h2 h3 h4
        · -- a yield
          refine stm_pre ho hcs (fun d hd'' => hn ▸ hd d hd'') hF hg ?_
          intro hac hput hset
          obtain ⟨fo, fargs, tys, hop, hx', hl⟩ := cAct_call hac
          have hfn := opd_ok hF hx'
          rw [hx] at hfn
          simp only [AR] at hfn
          obtain ⟨g, sz, hg1, hfv⟩ := hfn
          have hargs := opds_ok hF hl
          obtain ⟨g', sz', hg2, fn, tmps, asg, body, hy1, hy2⟩ := hY b _ H _ hYb fb φ w _ hH hargs
          rw [hg1] at hg2
          injection hg2 with hg2
          injection hg2 with hg2 _
          subst hg2
          have e : (fargs.toList.map a.eval).toArray = fargs.map a.eval := by apply Array.ext'; simp
          rw [e] at hy1
          have hrun : (execOp a.eval o).run P w = .ok (.round g fn tmps asg body) w := by
            simp [execOp, hop, resolve, hfv, Deferred.ofValue, invoke, hy1]
          refine ⟨fun _ _ => trivial, ?_⟩
          have e' : o.semAt (FW rnd).round a.eval = execOp a.eval o := Oper.semAt_eq _ _ _ (by intro c; rw [hop]; simp)
          rw [e', hrun]
          refine ⟨fun h => (by cases h), RoundIn.mono (show RoundIn (FW rnd) 0 P g fn tmps asg body w _ from hy2) ?_⟩
          rintro _ w' ⟨v, H', φ', cv, rfl, hR, h1, h2, h3, h4, h5⟩
          exact rest v H' φ' _ w' hR (hput _).1 (hput _).2 h1 h2 h3 h4 (hset (hF.keep h3.keep) h5)
      · -- the next step of a walk over a map
        rename_i x
        obtain ⟨b, mo, since, seen, stepped, hx, hb, h⟩ := h
        refine stm_pre ho hcs (fun d hd'' => hn ▸ hd d hd'') hF hg ?_
        intro hac hput hset
        obtain ⟨yo, hop, hyo⟩ := cAct_nxt hac
        have hxv := opd_ok hF hyo
        rw [hx] at hxv
        obtain ⟨g, sz, mo', hv, q1, q2, q3⟩ := iterR hH hxv hb
        have hdef : ∀ c, o.op ≠ .defer c := by intro c; rw [hop]; simp
        -- a draw, and no more
        have fin0 : ∀ w0, (w0 = w ∨ w0 = w.drew) → Ext fb φ H w φ H w0 ∧ HR fb φ H w0 := by
          rintro w0 (rfl | rfl)
          · exact ⟨Ext.refl .., hH⟩
          · exact ⟨Ext.drew .., hH.drew⟩
        have finN : awT P Y ss (putA fr dst (.tu [.b false])) H K → (Instr.next (a.eval yo) false o.type).run P w = .ok (.tuple #[.bool false]) w → o.wpIn (FW rnd) 0 P a w (wpOpsIn (FW rnd) 0 P ops Q (List.range' (k + 1) ss.length)) Q := by
          intro hK hr
          refine wp_val hdef (nxt := .value (.tuple #[.bool false])) (w' := w) (by simp [execOp, hop, hr]) (.inl rfl) ?_
          refine rest _ H φ _ w hK (hput _).1 (hput _).2 (Nat.le_refl _) (fun _ _ => rfl) (Ext.refl ..) hH (hset hF ?_)
          simp only [AR, ARl]
          exact ⟨[.bool false], rfl, _, _, rfl, rfl, rfl⟩
        cases mo with
        | none =>
          simp only at q3
          subst q3
          refine finN h ?_
          rw [hv]
          simp [Instr.next, getObj, Sem.run, q2]
        | some m =>
          obtain ⟨gm, sm, q4, q5⟩ := q3
          subst q5
          obtain ⟨es, c, hbm, hold, hall⟩ := h
          obtain ⟨es', q6, q7⟩ := mapR' hH q4 hbm
          simp only [oldA, Bool.and_eq_true, decide_eq_true_eq] at hold
          have hold1 : ∀ x ∈ es'.toList, x.born < since := by
            intro x hx'
            have := hold.1
            rw [ARe.all (fun n => decide (n < since)) q7] at this
            simpa using List.all_eq_true.1 this x hx'
          have hleft : ARe φ (wrs fb φ H) w (leftA es seen) (leftOf es' seen.toArray).toList := by
            have := ARe.filter (fun n => !seen.contains n) q7
            unfold leftA leftOf
            simpa only [Array.toList_filter, List.contains_toArray] using this
          have hlen := ARe.length hleft
          rcases run_next_at (P := P) w o.type g gm since stepped seen.toArray es' c q2 q6 hold1 hold.2 with ⟨h0, hr⟩ | ⟨e, he, w1, hw1, hr⟩
          · have hnil : leftA es seen = [] := by
              apply List.eq_nil_of_length_eq_zero
              rw [← hlen]
              simpa using h0
            refine finN (hall none (by unfold candA; rw [hnil]; simp)) (by rw [hv]; exact hr)
          · obtain ⟨j, hj⟩ := List.getElem?_of_mem he
            obtain ⟨kk1, vv1, q8, q9, q10⟩ := ARe.get hleft j e hj
            have hmem : (kk1, vv1, e.born) ∈ leftA es seen := List.mem_of_getElem? q8
            have hne : leftA es seen ≠ [] := fun e0 => by rw [e0] at hmem; cases hmem
            have hK := hall (some (kk1, vv1, e.born)) (by
              have e0 : candA es seen = (leftA es seen).map some := by
                unfold candA
                cases hl : leftA es seen with
                | nil => exact absurd hl hne
                | cons y l => rfl
              rw [e0]
              exact List.mem_map.2 ⟨_, hmem, rfl⟩)
            simp only at hK
            obtain ⟨hE0, hH0⟩ := fin0 w1 hw1
            have hw1g : w1.heap[g]? = some (.mapIter (some gm) since seen.toArray stepped) := by rcases hw1 with rfl | rfl <;> exact q2
            have hlt := (Array.getElem?_eq_some_iff.1 hw1g).1
            have hE : Ext fb φ H w1 φ ⟨H.m.set b (.iter (some m) since (seen ++ [e.born]) c), H.nx⟩ (Go.ChangeMaps.setBlock w1 g (.mapIter (some gm) since (seen.toArray.push e.born) c)) :=
              Ext.put hH0 hb rfl q1 H.nx rfl rfl rfl (by simp [Go.ChangeMaps.setBlock]) (fun j hj => heap_setObj_other w1 _ hj) (fun c0 ty fz hc => by rw [hw1g] at hc; cases hc)
            have hH1 : HR fb φ ⟨H.m.set b (.iter (some m) since (seen ++ [e.born]) c), H.nx⟩ (Go.ChangeMaps.setBlock w1 g (.mapIter (some gm) since (seen.toArray.push e.born) c)) :=
              HR.put hH0 hb rfl q1 H.nx (Nat.le_refl _) (by simp [Go.ChangeMaps.setBlock]) (fun j hj => heap_setObj_other w1 _ hj) hE ⟨g, sz, some gm, q1, by rw [show (seen ++ [e.born]).toArray = seen.toArray.push e.born by simp]; exact heap_setObj w1 g _ hlt, gm, sm, q4, rfl⟩
            refine wp_val hdef (nxt := .value (.tuple #[.bool true, e.key, e.val])) (w' := Go.ChangeMaps.setBlock w1 g (.mapIter (some gm) since (seen.toArray.push e.born) c)) (by simp [execOp, hop, hv, hr]) (.inl rfl) ?_
            have hEE := hE0.trans hE
            refine rest _ _ φ _ _ hK (hput _).1 (hput _).2 (Nat.le_refl _) (fun _ _ => rfl) hEE hH1 (hset (hF.keep hEE.keep) ?_)
            simp only [AR, ARl]
            exact ⟨[.bool true, e.key, e.val], rfl, _, _, rfl, rfl, _, _, rfl, AR.keep hEE.keep _ _ q9, _, _, rfl, AR.keep hEE.keep _ _ q10, rfl⟩
      · -- the entry that it has gone to
        rename_i x
        obtain ⟨b, m, since, seen, stepped, es, c, nn, kx, vx, n', hx, hb, hbm, hcs2, hlast, hfind, h⟩ := h
        refine stm_pre ho hcs (fun d hd'' => hn ▸ hd d hd'') hF hg ?_
        intro hac hput hset
        obtain ⟨yo, hop, hyo⟩ := cAct_ent hac
        have hxv := opd_ok hF hyo
        rw [hx] at hxv
        obtain ⟨g, sz, mo', hv, q1, q2, gm, sm, q4, q5⟩ := iterR hH hxv hb
        subst q5
        obtain ⟨es', q6, q7⟩ := mapR' hH q4 hbm
        obtain ⟨e, q8, q9, q10⟩ := ARe.find nn q7 hfind
        have hr : (Instr.entry (a.eval yo)).run P w = .ok (.tuple #[e.key, e.val]) w := by
          rw [hv]
          have hf : es'.find? (·.born == nn) = some e := by rw [← Array.find?_toList]; exact q8
          have hbk : seen.toArray.back? = some nn := by simpa using hlast
          subst hcs2
          simp only [Instr.entry, getObj, Sem.run_bind, Sem.run, q2, q6, Result.andThen, hbk, bne_self_eq_false, Bool.false_eq_true, if_false, hf]
          rfl
        refine wp_val (by intro c; rw [hop]; simp) (nxt := .value (.tuple #[e.key, e.val])) (w' := w) (by simp [execOp, hop, hr]) (.inl rfl) ?_
        refine rest _ H φ _ w h (hput _).1 (hput _).2 (Nat.le_refl _) (fun _ _ => rfl) (Ext.refl ..) hH (hset hF ?_)
        simp only [AR, ARl]
        exact ⟨[e.key, e.val], rfl, _, _, rfl, q9, _, _, rfl, q10, rfl⟩
    · rename_i hg
      refine stm_ok (m := H.m) (nx0 := H.nx) (nx := H.nx) ho hcs (fun d hd'' => hn ▸ hd d hd'') hH hF (ro := none) hg (Nat.le_refl _) trivial ?_
      intro φ1 a1 w1 e1 e2 hE hH1 hF1 hout
      exact rest _ H φ1 a1 w1 h e1 e2 (Nat.le_refl _) (fun p _ => hout p trivial) hE hH1 hF1
    · cases h
/-- A region in the order of the text. -/
theorem rgA_ok {rnd : Option Nat} {Y : YT} (hY : YSem P Y) {n : Nat} {ops : Array Oper} {hint : Nat → Bool} {ss : List Stm} (hc : cStms P n ops hint 0 ops.toList = some ss) {a : Act} {id : Nat} {Q : Exit → Act → World → Prop} (hn : a.tmps.size = n) {fr : Tr AV} {H : Hp} (hH : HR fb φ H w) (hF : FR φ (wrs fb φ H) w fr a.tmps)
    {K : Tr AV → Hp → Prop} (h : awT P Y ss fr H K)
    (k : ∀ fr' H' φ' a' w', K fr' H' → a'.tmps.size = n → a'.defers = a.defers → H.nx.toNat ≤ H'.nx.toNat → (∀ p : B, p.toNat < H.nx.toNat → φ' p = φ p) → Ext fb φ H w φ' H' w' → HR fb φ' H' w' → FR φ' (wrs fb φ' H') w' fr' a'.tmps → Q .normal a' w') : (Code.region id ops false).wpIn (FW rnd) 0 P Q a w := by
  apply wpIn_region
  have e : List.range ops.size = List.range' 0 ss.length := by
    rw [List.range_eq_range', ← (cStms_ok hc).1]; simp
  rw [e]
  refine awT_ok (fun _ => trivial) hY ss 0 (fun j s hj => ?_) hn hH hF h k
  obtain ⟨o, a1, b, c⟩ := (cStms_ok hc).2 _ _ hj
  exact ⟨o, _, by simpa using a1, b, c⟩
end
end Go.Za
