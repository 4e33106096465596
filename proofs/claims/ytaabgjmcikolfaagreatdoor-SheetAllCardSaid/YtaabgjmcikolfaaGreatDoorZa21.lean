/- The abstract machine, part 21: code. No condition. -/
import Derived.Test.YtaabgjmcikolfaaGreatDoorZa20
import Derived.RangeFuncRecord
import Derived.RangeFuncIn
import Derived.RangeFuncLeaves
set_option linter.unusedVariables false
set_option linter.unusedSimpArgs false
namespace Go.Za
open Go.RowKit

inductive Ex where
  | n
  | x (id : Nat)
  | r
inductive AC where
  | skip
  | rg (ss : List Stm)
  | rd (ss : List Stm) (un : List (Nat × Nat))
  | seq (a b : AC)
  | cond (c : Opd) (t f : AC)
  | block (id : Nat) (b : AC)
  | loop (b : AC)
  | exit (id : Nat)
  | ret
  | bad
  | rngf (fo : Opd) (n : Nat) (ps : List Nat) (cas cbd : Code) (asg body : AC)    -- a range over a function
abbrev Post := Ex → Tr AV → Hp → Prop
def thenA (J : Tr AV → Hp → Prop) (K : Post) : Post
  | .n => J
  | y => K y
def inB (id : Nat) (K : Post) : Post
  | .n => K .n
  | .x j => if j = id then K .n else K (.x j)
  | .r => K .r
/-- As if it were another state. -/
def wkI (lim : B) (J : Tr AV → Hp → Prop) (fr : Tr AV) (H : Hp) : Prop := ∃ fr1 H1, Wk lim fr1 H1 fr H ∧ lim.toNat ≤ H1.nx.toNat ∧ J fr1 H1
/-- A call of an iterator: what yield comes to is told. -/
def ICallY (P : Program) (Y : YT) (f : FuncId) (args : List AV) (H : Hp) (R : AV → Hp → Prop) : Prop :=
  Enters P f ∧ (YSem P Y → ∀ (fb : Nat → Prop) (φ : Phi) (w : World) (cargs : List Value), HR fb φ H w → ARl φ (wrs fb φ H) w args cargs →
    Calls P f cargs.toArray w fun e w' => ∃ v H' φ' cv, e = .returned cv ∧ R v H' ∧ H.nx.toNat ≤ H'.nx.toNat ∧ (∀ p : B, p.toNat < H.nx.toNat → φ' p = φ p) ∧ Ext fb φ H w φ' H' w' ∧ HR fb φ' H' w' ∧ AR φ' (wrs fb φ' H') w' v cv)
def jumpC : Ex → Option Code
  | .n => none
  | .x id => some (.exit id)
  | .r => some .ret
def putPs (fr : Tr AV) : List Nat → List AV → Tr AV
  | p :: ps, x :: xs => putPs (fr.set (path p) x) ps xs
  | _, _ => fr
def exBool : Ex → Bool
  | .n => true
  | _ => false
/-- What yield comes to. RA, RB: the runs of the assignment and of the body. -/
def Yr (RA RB : Post → Tr AV → Hp → Prop) (b : B) (n : Nat) (ps : List Nat) (cas cbd : Code) (fr : Tr AV) : YT := fun b' xs H R =>
  b' = b ∧ H.m.get b = some (.lp .ready none n ps.toArray cas cbd fr) ∧ xs.length = ps.length ∧
    RA (thenA (fun fr1 H1 => H1.m.get b = some (.lp .ready none n ps.toArray cas cbd fr) ∧
      RB (fun e fr2 H2 => H2.m.get b = some (.lp .busy none n ps.toArray cas cbd fr) ∧
        R (.b (exBool e)) (H2.app (.put b (.lp (if exBool e then .ready else .done) (jumpC e) n ps.toArray cas cbd fr))))
        fr1 (H1.app (.put b (.lp .busy none n ps.toArray cas cbd fr)))) fun _ _ _ => False) (putPs fr ps xs) H
/-- Behind a range over a function. -/
def aftY (b : B) (n : Nat) (ps : List Nat) (cas cbd : Code) (fr : Tr AV) (K : Post) (H' : Hp) : Prop :=
  ∃ e, H'.m.get b = some (.lp (if exBool e then .ready else .done) (jumpC e) n ps.toArray cas cbd fr) ∧ K e fr (H'.app (.put b .dead))
def entY (H : Hp) (n : Nat) (ps : List Nat) (cas cbd : Code) (fr : Tr AV) : Hp := H.app (.new (.lp .ready none n ps.toArray cas cbd fr))
/-- The condition that a code leads to K. out: it does not stand in a round. -/
def AW (P : Program) (Y : YT) (out : Bool) (lim : B) : AC → Post → Tr AV → Hp → Prop
  | .skip, K, fr, H => K .n fr H
  | .rg ss, K, fr, H => awT P Y ss fr H fun fr H => K .n fr H
  | .rd ss [], K, fr, H => aws P false ss fr H [] fun fr H _ => K .n fr H
  | .rd ss un, K, fr, H => aws P true ss fr H [] fun fr H acc => chk un acc.reverse ∧ K .n fr H
  | .seq a b, K, fr, H => AW P Y out lim a (thenA (AW P Y out lim b K) K) fr H
  | .cond c t f, K, fr, H => match c.ev fr with
    | .b x => if x = true then AW P Y out lim t K fr H else AW P Y out lim f K fr H
    | _ => False
  | .block id b, K, fr, H => AW P Y out lim b (inB id K) fr H
  | .loop b, K, fr, H => ∀ I : Tr AV → Hp → Prop, (∀ fr H, AW P Y out lim b (thenA (wkI lim I) K) fr H → I fr H) → wkI lim I fr H
  | .exit id, K, fr, H => K (.x id) fr H
  | .ret, K, fr, H => K .r fr H
  | .bad, _, _, _ => False
  | .rngf fo n ps cas cbd asg body, K, fr, H => out = true ∧ ∃ f cs, fo.ev fr = .fn f cs ∧
      ICallY P (Yr (fun J fr H => AW P Y0 false H.nx asg J fr H) (fun J fr H => AW P Y0 false H.nx body J fr H) H.nx n ps cas cbd fr) f (.yl H.nx :: cs) (entY H n ps cas cbd fr) fun _ H' => aftY H.nx n ps cas cbd fr K H'

def cc (P : Program) (n : Nat) (hint : Nat → Nat → Bool) : Code → Option AC
  | .skip => some .skip
  | .region id ops false => (cStms P n ops (hint id) 0 ops.toList).map .rg
  | .region id ops true => (cRgD P n ops (hint id)).map fun x => .rd x.1 x.2
  | .seq a b => match cc P n hint a, cc P n hint b with
    | some x, some y => some (.seq x y)
    | _, _ => none
  | .cond c t f => match cOpd c, cc P n hint t, cc P n hint f with
    | some c, some x, some y => some (.cond c x y)
    | _, _, _ => none
  | .block id b => (cc P n hint b).map (.block id)
  | .loop b => (cc P n hint b).map .loop
  | .exit id => some (.exit id)
  | .ret => some .ret
  | .rangeFunc g ps a b => match cOpd g, cc P n hint a, cc P n hint b with
    | some g, some x, some y => if ps.toList.all fun p => decide (p < n) then some (.rngf g n ps.toList a b x y) else none
    | _, _, _ => none
  | _ => some .bad

/-! ### what the machine bears -/
def mkD (D : Nat) : Deferred := { target := .collected D, args := #[] }
/-- The marks of ranges over functions among the deferred calls. -/
def Marks (φ : Phi) (H : Hp) (w0 w : World) (ds : List Deferred) : Prop :=
  ∃ Ds : List Nat, ds = Ds.map mkD ∧ Ds.Nodup ∧ ∀ D ∈ Ds, w0.heap.size ≤ D ∧ w.heap[D]? = some (.deferred (some [])) ∧ ¬ img φ H D
/-- The machine's state is one of those that (fr, H) stands for; seen from where the function began. -/
structure At (fb : Nat → Prop) (φ0 : Phi) (H0 : Hp) (w0 : World) (n : Nat) (fr : Tr AV) (H : Hp) (φ : Phi) (a : Act) (w : World) : Prop where
  size : a.tmps.size = n
  defers : Marks φ H w0 w a.defers
  ext : Ext fb φ0 H0 w0 φ H w
  low : ∀ p : B, p.toNat < H0.nx.toNat → φ p = φ0 p
  nx : H0.nx.toNat ≤ H.nx.toNat
  hr : HR fb φ H w
  fr : FR φ (wrs fb φ H) w fr a.tmps
def ex : Ex → Exit
  | .n => .normal
  | .x id => .exit id
  | .r => .ret
def Stands (fb : Nat → Prop) (φ0 : Phi) (H0 : Hp) (w0 : World) (n : Nat) (K : Post) (Q : Exit → Act → World → Prop) : Prop :=
  ∀ e fr H φ a w, K e fr H → At fb φ0 H0 w0 n fr H φ a w → Q (ex e) a w

section
variable {P : Program} {fb : Nat → Prop} {φ0 φ : Phi} {H0 : Hp} {w0 w : World} {n : Nat}
theorem Marks.ext {H H' : Hp} {φ' : Phi} {w' : World} {ds : List Deferred} (h : Marks φ H w0 w ds) (hE : Ext fb φ H w φ' H' w') : Marks φ' H' w0 w' ds := by
  obtain ⟨Ds, h1, h2, h3⟩ := h
  refine ⟨Ds, h1, h2, fun D hD => ?_⟩
  obtain ⟨q1, q2, q3⟩ := h3 D hD
  have hlt := (Array.getElem?_eq_some_iff.1 q2).1
  exact ⟨q1, (hE.old D hlt q3).trans q2, fun hi => q3 (hE.img D hlt hi)⟩
theorem At.wk {fr fr1 : Tr AV} {H H1 : Hp} {a : Act} (h : At fb φ0 H0 w0 n fr H φ a w) {lim : B} (hlim : H0.nx.toNat ≤ lim.toNat) (hk : Wk lim fr1 H1 fr H) (hl : lim.toNat ≤ H1.nx.toNat) (h0 : ∀ p x, φ0 p = some x → p.toNat < H0.nx.toNat) : ∃ φ1, At fb φ0 H0 w0 n fr1 H1 φ1 a w := by
  obtain ⟨φ1, q1, q2, q3, q4⟩ := wk_ok h.hr h.fr hk
  refine ⟨φ1, h.size, ?_, ⟨h.ext.os, h.ext.tape, h.ext.output, h.ext.size, h.ext.old, h.ext.shape, fun p x hx => ?_, fun g hg hi => h.ext.img g hg (q4 g hi)⟩, fun p hp => (q3 p (Nat.lt_of_lt_of_le hp hlim)).trans (h.low p hp), Nat.le_trans hlim hl, q1, q2⟩
  · obtain ⟨Ds, h1, h2, h3⟩ := h.defers
    exact ⟨Ds, h1, h2, fun D hD => ⟨(h3 D hD).1, (h3 D hD).2.1, fun hi => (h3 D hD).2.2 (q4 D hi)⟩⟩
  · rw [q3 p (Nat.lt_of_lt_of_le (h0 p x hx) hlim)]
    exact h.ext.phi p x hx
theorem At.start {fr : Tr AV} {H : Hp} {tmps : Array Value} (hs : tmps.size = n) (hH : HR fb φ H w) (hF : FR φ (wrs fb φ H) w fr tmps) : At fb φ H w n fr H φ ⟨tmps, []⟩ w :=
  ⟨hs, ⟨[], rfl, List.nodup_nil, fun _ h => by cases h⟩, Ext.refl .., fun _ _ => rfl, Nat.le_refl _, hH, hF⟩
section
variable {F : Fence}
def LoopA (F : Fence) (P : Program) (c : Code) (Q : Exit → Act → World → Prop) (a : Act) (w : World) : Prop :=
  ∀ (b : Frame) (k : List Item) (cs : List Frame), b.roundOf = F.round → F.fn b.fn → F.room (cs.length + 1 + 0) →
    ∃ e a' w', Q e a' w' ∧ ArrivesIn (Machine.fenced P F) P (lone (b.atR a (.code c :: .inLoop c :: k)) cs w) b k cs e a' w'
theorem loopA_step {c : Code} {Q : Exit → Act → World → Prop} {a : Act} (h : c.wpIn F 0 P (Exit.then (LoopA F P c Q) Q) a w) : LoopA F P c Q a w := by
  intro b k cs hro hb hr
  obtain ⟨e, a₁, w₁, hq, harr⟩ := h b (.inLoop c :: k) cs hro hb hr
  cases e with
  | normal =>
    obtain ⟨e₂, a₂, w₂, hq₂, harr₂⟩ := hq b k cs hro hb hr
    exact ⟨e₂, a₂, w₂, hq₂, .of_steps (StepsIn.trans harr (.one (fenced_calm hb hr rfl) stepR_inLoop)) harr₂⟩
  | exit id => exact ⟨_, a₁, w₁, hq, .pass (x := .inLoop c) rfl (fun _ _ => .inl (by simp)) harr⟩
  | goto l => exact ⟨_, a₁, w₁, hq, .pass (x := .inLoop c) rfl (fun _ _ => .inl (by simp)) harr⟩
  | ret => exact ⟨_, a₁, w₁, hq, .pass (x := .inLoop c) rfl (fun _ _ => .inl (by simp)) harr⟩
  | panic ch => exact ⟨_, a₁, w₁, hq, .pass (x := .inLoop c) rfl (fun _ _ => .inl (by simp)) harr⟩
  | outgrown => exact ⟨_, a₁, w₁, hq, .pass (x := .inLoop c) rfl (fun _ _ => .inl (by simp)) harr⟩
theorem loopA_loop {c : Code} {Q : Exit → Act → World → Prop} {a : Act} (h : LoopA F P c Q a w) : (Code.loop c).wpIn F 0 P Q a w := by
  intro b k cs hro hb hr
  obtain ⟨e, a', w', hq, harr⟩ := h b k cs hro hb hr
  exact ⟨e, a', w', hq, .of_steps (.one (fenced_calm hb hr rfl) stepR_loop) harr⟩
end

theorem At.step {fr fr' : Tr AV} {H H' : Hp} {φ' : Phi} {a a' : Act} {w' : World} (h : At fb φ0 H0 w0 n fr H φ a w) (h1 : a'.tmps.size = n) (h2 : a'.defers = a.defers) (h3 : H.nx.toNat ≤ H'.nx.toNat) (h4 : ∀ p : B, p.toNat < H.nx.toNat → φ' p = φ p)
    (h5 : Ext fb φ H w φ' H' w') (h6 : HR fb φ' H' w') (h7 : FR φ' (wrs fb φ' H') w' fr' a'.tmps) : At fb φ0 H0 w0 n fr' H' φ' a' w' :=
  ⟨h1, h2 ▸ h.defers.ext h5, h.ext.trans h5, fun p hp => (h4 p (Nat.lt_of_lt_of_le hp h.nx)).trans (h.low p hp), Nat.le_trans h.nx h3, h6, h7⟩

/-! ### ranges over functions -/
theorem lpR {H : Hp} (hH : HR fb φ H w) {b : B} {st : LoopState} {pj : Option Code} {ps : Array Tmp} {asg body : Code} {fr : Tr AV} {g sz : Nat} (hg : φ b = some (g, sz)) (hb : H.m.get b = some (.lp st pj n ps asg body fr)) :
    ∃ r : Loop, w.heap[g]? = some (.loop r) ∧ r.state = st ∧ r.pending = pj ∧ r.tmps.size = n ∧ r.params = ps ∧ r.assign = asg ∧ r.body = body ∧ FR φ (wrs fb φ H) w fr r.tmps := by
  obtain ⟨g', sz', r, h1, h2⟩ := hH.blk b _ hb
  rw [hg] at h1
  injection h1 with h1
  injection h1 with h1 _
  subst h1
  exact ⟨r, h2⟩
/-- The record turns. -/
theorem lpPut {H : Hp} (hH : HR fb φ H w) {b : B} {st : LoopState} {pj : Option Code} {ps : Array Tmp} {asg body : Code} {fr : Tr AV} {g sz : Nat} (hg : φ b = some (g, sz)) (hb : H.m.get b = some (.lp st pj n ps asg body fr)) {r : Loop} (hr : w.heap[g]? = some (.loop r))
    (r' : Loop) (k' : Blk) (hk : BR φ (wrs fb φ H) w b (.lp st pj n ps asg body fr) → ∀ w', w'.heap[g]? = some (.loop r') → (∀ g', g' ≠ g → w'.heap[g']? = w.heap[g']?) → Keep φ (wrs fb φ H) w φ (wrs fb φ (H.app (.put b k'))) w' → BR φ (wrs fb φ (H.app (.put b k'))) w' b k') :
    Ext fb φ H w φ (H.app (.put b k')) (w.putObj g (.loop r')) ∧ HR fb φ (H.app (.put b k')) (w.putObj g (.loop r')) := by
  have hlt := (Array.getElem?_eq_some_iff.1 hr).1
  have hE : Ext fb φ H w φ (H.app (.put b k')) (w.putObj g (.loop r')) :=
    Ext.put hH hb rfl hg H.nx rfl rfl rfl (by simp) (fun g' hg' => World.putObj_heap_other hg') (fun c ty fz hc => by rw [hr] at hc; cases hc)
  exact ⟨hE, HR.put hH hb rfl hg H.nx (Nat.le_refl _) (by simp) (fun g' hg' => World.putObj_heap_other hg') hE (hk (hH.blk b _ hb) _ (World.putObj_heap_same hlt) (fun g' hg' => World.putObj_heap_other hg') hE.keep)⟩
theorem putPs_ok {wr : Nat → Prop} : ∀ {ps : List Nat} {xs : List AV} {cargs : List Value} {fr : Tr AV} {tmps : Array Value}, (∀ p ∈ ps, p < tmps.size) → ARl φ wr w xs cargs → FR φ wr w fr tmps →
    FR φ wr w (putPs fr ps xs) ((ps.zip cargs).foldl (fun tmps (x : Nat × Value) => tmps.setIfInBounds x.1 x.2) tmps)
  | [], xs, cargs, fr, tmps, _, _, hF => by simpa [putPs] using hF
  | p :: ps, [], cargs, fr, tmps, _, hx, hF => by
    simp only [ARl] at hx
    subst hx
    simpa [putPs] using hF
  | p :: ps, x :: xs, cargs, fr, tmps, hp, hx, hF => by
    simp only [ARl] at hx
    obtain ⟨v, cs, rfl, h1, h2⟩ := hx
    simp only [putPs, List.zip_cons_cons, List.foldl_cons]
    exact putPs_ok (fun q hq => by simpa using hp q (List.mem_cons_of_mem _ hq)) h2 (hF.set (hp p (List.mem_cons_self ..)) h1)
theorem foldl_size : ∀ (l : List (Nat × Value)) (tmps : Array Value), (l.foldl (fun tmps (x : Nat × Value) => tmps.setIfInBounds x.1 x.2) tmps).size = tmps.size
  | [], _ => rfl
  | x :: l, tmps => by rw [List.foldl_cons, foldl_size l]; simp
theorem jumpC_none {e : Ex} : (jumpC e).isNone = exBool e := by cases e <;> rfl

/-- One round of a range over a function. -/
theorem round_ok {ps : List Nat} {cas cbd : Code} {RA RB : Post → Tr AV → Hp → Prop}
    (hA : ∀ {fb : Nat → Prop} {φ0 φ : Phi} {H0 H : Hp} {w0 w : World} {a : Act} {fr : Tr AV} {g : Nat} {K : Post} {Q : Exit → Act → World → Prop}, (∀ p x, φ0 p = some x → p.toNat < H0.nx.toNat) → RA K fr H → At fb φ0 H0 w0 n fr H φ a w → Stands fb φ0 H0 w0 n K Q → cas.wpIn (FW (some g)) 0 P Q a w)
    (hB : ∀ {fb : Nat → Prop} {φ0 φ : Phi} {H0 H : Hp} {w0 w : World} {a : Act} {fr : Tr AV} {g : Nat} {K : Post} {Q : Exit → Act → World → Prop}, (∀ p x, φ0 p = some x → p.toNat < H0.nx.toNat) → RB K fr H → At fb φ0 H0 w0 n fr H φ a w → Stands fb φ0 H0 w0 n K Q → cbd.wpIn (FW (some g)) 0 P Q a w)
    (hps : ∀ p ∈ ps, p < n) (b : B) (fr : Tr AV) : YSem P (Yr RA RB b n ps cas cbd fr) := by
  intro b' xs H R hY fb φ w cargs hH ha
  obtain ⟨rfl, hb, hlen, hra⟩ := hY
  obtain ⟨g, sz, r, hg, q1, q2, q3, q4, q5, q6, q7, q8⟩ := hH.blk b' _ hb
  refine ⟨g, sz, hg, r.fn, _, _, _, run_yield (args := cargs.toArray) q1 (by rw [q5]; simp [ha.length, hlen]), ?_⟩
  rw [q6, q7]
  have hF0 : FR φ (wrs fb φ H) w (putPs fr ps xs) ((r.params.zip cargs.toArray).foldl (fun tmps (t, a) => tmps.setIfInBounds t a) r.tmps) := by
    rw [q5, ← Array.foldl_toList]
    simp only [Array.toList_zip]
    exact putPs_ok (fun p hp => q4 ▸ hps p hp) ha q8
  have hsz0 : ((r.params.zip cargs.toArray).foldl (fun tmps (t, a) => tmps.setIfInBounds t a) r.tmps).size = n := by
    rw [q5, ← Array.foldl_toList]
    simp only [Array.toList_zip]
    rw [foldl_size]
    exact q4
  refine roundIn_of_wpIn (F := FW none) trivial ?_
  refine hA (g := g) hH.phl hra (At.start hsz0 hH hF0) ?_
  intro e fr1 H1 φ1 a1 w1 hk hA1
  cases e with
  | x id => exact hk.elim
  | r => exact hk.elim
  | n =>
    obtain ⟨hb1, hrb⟩ := hk
    have hg1 := hA1.ext.phi _ _ hg
    obtain ⟨r1, p1, p2, p3, p4, p5, p6, p7, p8⟩ := lpR hA1.hr hg1 hb1
    obtain ⟨hE2, hH2⟩ := lpPut hA1.hr hg1 hb1 p1 { r1 with state := .busy } (.lp .busy none n ps.toArray cas cbd fr) (fun hbr w' h1 _ hk => ⟨g, sz, _, hg1, h1, rfl, p3, p4, p5, p6, p7, FR.keep hk p8⟩)
    refine ⟨_, run_beginRound p1 p2, ?_⟩
    refine hB (g := g) (a := a1) hH.phl hrb (hA1.step hA1.size rfl (Nat.le_refl _) (fun _ _ => rfl) hE2 hH2 (FR.keep hE2.keep hA1.fr)) ?_
    intro e fr2 H2 φ2 a2 w2 hk2 hA2
    obtain ⟨hb2, hR⟩ := hk2
    have hg2 := hA2.ext.phi _ _ hg
    obtain ⟨r2, s1, s2, s3, s4, s5, s6, s7, s8⟩ := lpR hA2.hr hg2 hb2
    obtain ⟨hE3, hH3⟩ := lpPut hA2.hr hg2 hb2 s1 { r2 with state := if (jumpC e).isNone then .ready else .done, pending := jumpC e } (.lp (if exBool e then .ready else .done) (jumpC e) n ps.toArray cas cbd fr)
      (fun hbr w' h1 _ hk => ⟨g, sz, _, hg2, h1, by simp only [jumpC_none], rfl, s4, s5, s6, s7, FR.keep hk s8⟩)
    have fin : ∃ v w', (Instr.endRound g (jumpC e)).run P w2 = .ok v w' ∧ ∃ v1 H' φ' cv, Ending.returned v = .returned cv ∧ R v1 H' ∧ H.nx.toNat ≤ H'.nx.toNat ∧ (∀ p : B, p.toNat < H.nx.toNat → φ' p = φ p) ∧ Ext fb φ H w φ' H' w' ∧ HR fb φ' H' w' ∧ AR φ' (wrs fb φ' H') w' v1 cv := by
      refine ⟨_, _, run_endRound (jumpC e) s1, _, _, φ2, _, rfl, hR, hA2.nx, hA2.low, hA2.ext.trans hE3, hH3, ?_⟩
      simp only [AR]
      rw [jumpC_none]
    cases e with
    | n => exact fin
    | x id => exact fin
    | r => exact fin

/-- The whole of it. -/
theorem rngf_ok {rnd : Option Nat} (hrnd : rnd = none) {ps : List Nat} {cas cbd : Code} {asg body : AC} {g : Operand} {fo : Opd} (hfo : cOpd g = some fo) (hps : ∀ p ∈ ps, p < n)
    (hA : ∀ {fb : Nat → Prop} {φ0 φ : Phi} {H0 H : Hp} {w0 w : World} {a : Act} {fr : Tr AV} {g : Nat} {K : Post} {Q : Exit → Act → World → Prop}, (∀ p x, φ0 p = some x → p.toNat < H0.nx.toNat) → AW P Y0 false H.nx asg K fr H → At fb φ0 H0 w0 n fr H φ a w → Stands fb φ0 H0 w0 n K Q → cas.wpIn (FW (some g)) 0 P Q a w)
    (hB : ∀ {fb : Nat → Prop} {φ0 φ : Phi} {H0 H : Hp} {w0 w : World} {a : Act} {fr : Tr AV} {g : Nat} {K : Post} {Q : Exit → Act → World → Prop}, (∀ p x, φ0 p = some x → p.toNat < H0.nx.toNat) → AW P Y0 false H.nx body K fr H → At fb φ0 H0 w0 n fr H φ a w → Stands fb φ0 H0 w0 n K Q → cbd.wpIn (FW (some g)) 0 P Q a w)
    {K : Post} {fr : Tr AV} {H : Hp} {a : Act} {Q : Exit → Act → World → Prop} {f : Nat} {cs : List AV} (hf : fo.ev fr = .fn f cs)
    (hI : ICallY P (Yr (fun J fr H => AW P Y0 false H.nx asg J fr H) (fun J fr H => AW P Y0 false H.nx body J fr H) H.nx n ps cas cbd fr) f (.yl H.nx :: cs) (entY H n ps cas cbd fr) fun _ H' => aftY H.nx n ps cas cbd fr K H')
    (hAt : At fb φ0 H0 w0 n fr H φ a w) (hS : Stands fb φ0 H0 w0 n K Q) : (Code.rangeFunc g ps.toArray cas cbd).wpIn (FW rnd) 0 P Q a w := by
  subst hrnd
  have hsem := round_ok (P := P) (n := n) (RA := fun J fr H => AW P Y0 false H.nx asg J fr H) (RB := fun J fr H => AW P Y0 false H.nx body J fr H) hA hB hps H.nx fr
  have hH := hAt.hr
  have hv := opd_ok hAt.fr hfo
  rw [hf] at hv
  simp only [AR] at hv
  obtain ⟨us, hfv, hus⟩ := hv
  obtain ⟨⟨fn, c, hfn, hbody, hname⟩, hcall⟩ := hI
  refine wpIn_rangeFunc fun fid _ => ?_
  have hE1 := Ext.free hH (.deferred (some [])) H.nx
  have hH1 : HR fb φ H (w.alloc (.deferred (some []))) := HR.free hH (.deferred (some [])) H.nx (Nat.le_refl _)
  have hF1 := FR.keep hE1.keep hAt.fr
  let rec0 : Loop := { state := .ready, pending := none, fn := fid, tmps := a.tmps, params := ps.toArray, assign := cas, body := cbd, defers := w.heap.size }
  have hn1 : φ H.nx = none := hH.phi_none (Nat.le_refl _)
  have hd1 : ∀ k0, H.m.get H.nx = some k0 → k0.wrt = false := fun k0 h0 => absurd (hH.lt _ _ h0) (Nat.lt_irrefl _)
  have hE2 := Ext.alloc hH1 (.loop rec0) H.nx (.lp .ready none n ps.toArray cas cbd fr) H.nx.succ 1 hn1 hd1
  have hH2 : HR fb (φ.set H.nx ((w.alloc (.deferred (some []))).heap.size, 1)) (entY H n ps cas cbd fr) ((w.alloc (.deferred (some []))).alloc (.loop rec0)) :=
    HR.alloc hH1 (.loop rec0) H.nx (.lp .ready none n ps.toArray cas cbd fr) H.nx.succ 1 hn1 hd1 (by rw [B.toNat_succ]; omega) (by rw [B.toNat_succ]; omega)
      ⟨rec0, rfl, rfl, rfl, hAt.size, rfl, rfl, rfl, hF1⟩
  have hE12 : Ext fb φ H w (φ.set H.nx ((w.alloc (.deferred (some []))).heap.size, 1)) (entY H n ps cas cbd fr) ((w.alloc (.deferred (some []))).alloc (.loop rec0)) := hE1.trans hE2
  have hφ2 : (φ.set H.nx ((w.alloc (.deferred (some []))).heap.size, 1)) H.nx = some (w.heap.size + 1, 1) := by simp [Phi.set]
  have hargs : ARl (φ.set H.nx ((w.alloc (.deferred (some []))).heap.size, 1)) (wrs fb (φ.set H.nx ((w.alloc (.deferred (some []))).heap.size, 1)) (entY H n ps cas cbd fr)) ((w.alloc (.deferred (some []))).alloc (.loop rec0)) (.yl H.nx :: cs) (.func (.yield (w.heap.size + 1)) #[] #[] :: us) := by
    simp only [ARl, AR]
    exact ⟨_, _, rfl, ⟨_, _, hφ2, rfl⟩, hE12.arl hus⟩
  have hcalls := hcall hsem fb _ _ _ hH2 hargs
  have hname' : ¬ fn.name = "runtime.NumGoroutine" := by simpa using hname
  refine ⟨w.heap.size + 1, [mkD w.heap.size], (w.alloc (.deferred (some []))).alloc (.loop rec0), { target := .fn (.func f) us.toArray, args := #[.func (.yield (w.heap.size + 1)) #[] #[]] }, (w.alloc (.deferred (some []))).alloc (.loop rec0), f, #[.func (.yield (w.heap.size + 1)) #[] #[]] ++ us.toArray, (w.alloc (.deferred (some []))).alloc (.loop rec0), run_enterLoop_outer fid a.tmps ps.toArray cas cbd, ?_, ?_, ?_, ?_, ?_⟩
  · simp only [rangeCall, resolve, hfv, Deferred.ofValue, Sem.run_pure]
    simp [Act.eval]
  · exact fun _ _ => trivial
  · simp [invoke, callFunc, hfn, hbody, hname']
  · exact fun h => by cases h
  · refine callsIn_fw ?_
    have e : (Value.func (.yield (w.heap.size + 1)) #[] #[] :: us).toArray = #[.func (.yield (w.heap.size + 1)) #[] #[]] ++ us.toArray := by simp
    rw [e] at hcalls
    refine hcalls.mono ?_
    rintro _ w3 ⟨v, H', φ', cv, rfl, ⟨ee, hb3, hK⟩, h1, h2, h3, h4, h5⟩
    have hg3 := h3.phi _ _ hφ2
    obtain ⟨r, s1, s2, s3, s4, s5, s6, s7, s8⟩ := lpR h4 hg3 hb3
    obtain ⟨hE4, hH4⟩ := lpPut h4 hg3 hb3 s1 { r with state := .exhausted } .dead (fun _ _ _ _ _ => trivial)
    have hEt := (hE12.trans h3).trans hE4
    have hlow : ∀ p : B, p.toNat < H.nx.toNat → φ' p = φ p := by
      intro p hp
      rw [h2 p (by simp only [entY, Hp.app, B.toNat_succ]; omega)]
      unfold Phi.set
      rw [if_neg (fun e => by rw [e] at hp; exact absurd hp (Nat.lt_irrefl _))]
    have hle : H.nx.toNat ≤ H'.nx.toNat := by
      simp only [entY, Hp.app, B.toNat_succ] at h1
      omega
    have hmark : Marks φ' (H'.app (.put H.nx .dead)) w0 (w3.putObj (w.heap.size + 1) (.loop { r with state := .exhausted })) ([mkD w.heap.size] ++ a.defers) := by
      obtain ⟨Ds, k1, k2, k3⟩ := hAt.defers.ext hE12
      have hnw : w.heap.size ∉ Ds := by
        intro hm
        obtain ⟨Ds', k1', k2', k3'⟩ := hAt.defers
        have : Ds = Ds' := by
          have e := k1.symm.trans k1'
          exact (List.map_inj_right (f := mkD) (fun x y h => by
            have := congrArg Deferred.target h
            simpa [mkD] using this)).1 e
        subst this
        have := (Array.getElem?_eq_some_iff.1 (k3' _ hm).2.1).1
        omega
      have hM : Marks (φ.set H.nx ((w.alloc (.deferred (some []))).heap.size, 1)) (entY H n ps cas cbd fr) w0 ((w.alloc (.deferred (some []))).alloc (.loop rec0)) ([mkD w.heap.size] ++ a.defers) := by
        refine ⟨w.heap.size :: Ds, by simp [k1], List.nodup_cons.2 ⟨hnw, k2⟩, fun D hD => ?_⟩
        rcases List.mem_cons.1 hD with rfl | hD
        · refine ⟨hAt.ext.size, ?_, ?_⟩
          · rw [heap_alloc_old _ _ (by simp)]
            exact heap_alloc_new' w _
          · rintro ⟨p, k, sz, q1, q2, q3⟩
            unfold Phi.set at q3
            split at q3
            · injection q3 with q3
              injection q3 with q3 _
              simp at q3
            · have := (hH.phw _ _ _ q3).1
              omega
        · exact k3 D hD
      exact (hM.ext h3).ext hE4
    have hA' : At fb φ0 H0 w0 n fr (H'.app (.put H.nx .dead)) φ' { a with defers := [mkD w.heap.size] ++ a.defers } (w3.putObj (w.heap.size + 1) (.loop { r with state := .exhausted })) :=
      ⟨hAt.size, hmark, hAt.ext.trans hEt, fun p hp => (hlow p (Nat.lt_of_lt_of_le hp hAt.nx)).trans (hAt.low p hp), Nat.le_trans hAt.nx hle, hH4, FR.keep hEt.keep hAt.fr⟩
    refine ⟨_, _, run_endLoop s1 (by rw [s2]; split <;> simp), ?_⟩
    generalize w3.putObj (w.heap.size + 1) (.loop { r with state := .exhausted }) = w4 at hA' ⊢
    rw [s3]
    cases ee with
    | n => exact hS .n _ _ _ _ _ hK hA'
    | x id => exact wpIn_exit (hS (.x id) _ _ _ _ _ hK hA')
    | r => exact wpIn_ret (hS .r _ _ _ _ _ hK hA')

theorem cw_ok (hm : P.follows .mixedOrders = true) {hint : Nat → Nat → Bool} : ∀ (c : Code) {Y : YT} {out : Bool} {rnd : Option Nat} (hout : out = true → rnd = none) (hY : YSem P Y) {ac : AC} (hc : cc P n hint c = some ac)
    {fb : Nat → Prop} {φ0 φ : Phi} {H0 : Hp} {w0 w : World} {lim : B} (hlim : H0.nx.toNat ≤ lim.toNat) (h0 : ∀ p x, φ0 p = some x → p.toNat < H0.nx.toNat) {K : Post} {fr : Tr AV} {H : Hp} {a : Act} {Q : Exit → Act → World → Prop},
    AW P Y out lim ac K fr H → At fb φ0 H0 w0 n fr H φ a w → Stands fb φ0 H0 w0 n K Q → c.wpIn (FW rnd) 0 P Q a w
  | .skip, Y, out, rnd, hout, hY, ac, hc, fb, φ0, φ, H0, w0, w, lim, hlim, h0, K, fr, H, a, Q, h, hA, hS => by
    injection hc with hc; subst hc
    exact wpIn_skip (hS .n _ _ _ _ _ h hA)
  | .region id ops false, Y, out, rnd, hout, hY, ac, hc, fb, φ0, φ, H0, w0, w, lim, hlim, h0, K, fr, H, a, Q, h, hA, hS => by
    simp only [cc, Option.map_eq_some_iff] at hc
    obtain ⟨ss, h1, rfl⟩ := hc
    exact rgA_ok hY h1 hA.size hA.hr hA.fr h fun fr' H' φ' a' w' hk q1 q2 q3 q4 q5 q6 q7 => hS .n _ _ _ _ _ hk (hA.step q1 q2 q3 q4 q5 q6 q7)
  | .region id ops true, Y, out, rnd, hout, hY, ac, hc, fb, φ0, φ, H0, w0, w, lim, hlim, h0, K, fr, H, a, Q, h, hA, hS => by
    simp only [cc, Option.map_eq_some_iff] at hc
    obtain ⟨⟨ss, un⟩, h1, rfl⟩ := hc
    cases un with
    | nil =>
      refine rgD_ok hm h1 hA.size hA.hr hA.fr (tr := false) (.inr rfl) (K := fun fr H => K .n fr H) ?_ fun fr' H' φ' a' w' hk q1 q2 q3 q4 q5 q6 q7 => hS .n _ _ _ _ _ hk (hA.step q1 q2 q3 q4 q5 q6 q7)
      simp only [AW] at h
      simpa only [chk, true_and] using h
    | cons u un =>
      exact rgD_ok hm h1 hA.size hA.hr hA.fr (tr := true) (.inl rfl) (K := fun fr H => K .n fr H) h fun fr' H' φ' a' w' hk q1 q2 q3 q4 q5 q6 q7 => hS .n _ _ _ _ _ hk (hA.step q1 q2 q3 q4 q5 q6 q7)
  | .seq x y, Y, out, rnd, hout, hY, ac, hc, fb, φ0, φ, H0, w0, w, lim, hlim, h0, K, fr, H, a, Q, h, hA, hS => by
    unfold cc at hc
    split at hc
    · rename_i ax ay hx hy
      injection hc with hc; subst hc
      simp only [AW] at h
      refine wpIn_seq (cw_ok hm x hout hY hx hlim h0 h hA ?_)
      intro e fr' H' φ' a' w' hk hA'
      cases e with
      | n => exact cw_ok hm y hout hY hy hlim h0 hk hA' hS
      | x id => exact hS (.x id) _ _ _ _ _ hk hA'
      | r => exact hS .r _ _ _ _ _ hk hA'
    · cases hc
  | .cond c x y, Y, out, rnd, hout, hY, ac, hc, fb, φ0, φ, H0, w0, w, lim, hlim, h0, K, fr, H, a, Q, h, hA, hS => by
    unfold cc at hc
    split at hc
    · rename_i oc ax ay hoc hx hy
      injection hc with hc; subst hc
      simp only [AW] at h
      have he := opd_ok hA.fr hoc
      split at h
      · rename_i t ht
        rw [ht] at he
        simp only [AR] at he
        refine wpIn_cond he ?_
        cases t with
        | true => exact cw_ok hm x hout hY hx hlim h0 (by simpa using h) hA hS
        | false => exact cw_ok hm y hout hY hy hlim h0 (by simpa using h) hA hS
      · exact h.elim
    · cases hc
  | .block id b, Y, out, rnd, hout, hY, ac, hc, fb, φ0, φ, H0, w0, w, lim, hlim, h0, K, fr, H, a, Q, h, hA, hS => by
    simp only [cc, Option.map_eq_some_iff] at hc
    obtain ⟨ab, h1, rfl⟩ := hc
    simp only [AW] at h
    refine wpIn_block (cw_ok hm b hout hY h1 hlim h0 h hA ?_)
    intro e fr' H' φ' a' w' hk hA'
    cases e with
    | n => exact hS .n _ _ _ _ _ hk hA'
    | x j =>
      simp only [inB] at hk
      simp only [ex, Exit.inBlock]
      split at hk
      · rename_i hj
        rw [if_pos hj]
        exact hS .n _ _ _ _ _ hk hA'
      · rename_i hj
        rw [if_neg hj]
        exact hS (.x j) _ _ _ _ _ hk hA'
    | r => exact hS .r _ _ _ _ _ hk hA'
  | .loop b, Y, out, rnd, hout, hY, ac, hc, fb, φ0, φ, H0, w0, w, lim, hlim, h0, K, fr, H, a, Q, h, hA, hS => by
    simp only [cc, Option.map_eq_some_iff] at hc
    obtain ⟨ab, h1, rfl⟩ := hc
    simp only [AW] at h
    have hI := h (fun fr H => ∀ φ a w, At fb φ0 H0 w0 n fr H φ a w → LoopA (FW rnd) P b Q a w) (by
      intro fr' H' hb φ' a' w' hA'
      apply loopA_step
      refine cw_ok hm b hout hY h1 hlim h0 hb hA' ?_
      intro e fr2 H2 φ2 a2 w2 hk hA2
      cases e with
      | n =>
        obtain ⟨fr3, H3, hw, hl, hk⟩ := hk
        obtain ⟨φ3, hA3⟩ := hA2.wk hlim hw hl h0
        exact hk _ _ _ hA3
      | x id => exact hS (.x id) _ _ _ _ _ hk hA2
      | r => exact hS .r _ _ _ _ _ hk hA2)
    obtain ⟨fr3, H3, hw, hl, hk⟩ := hI
    obtain ⟨φ3, hA3⟩ := hA.wk hlim hw hl h0
    exact loopA_loop (hk _ _ _ hA3)
  | .exit id, Y, out, rnd, hout, hY, ac, hc, fb, φ0, φ, H0, w0, w, lim, hlim, h0, K, fr, H, a, Q, h, hA, hS => by
    injection hc with hc; subst hc
    exact wpIn_exit (hS (.x id) _ _ _ _ _ h hA)
  | .ret, Y, out, rnd, hout, hY, ac, hc, fb, φ0, φ, H0, w0, w, lim, hlim, h0, K, fr, H, a, Q, h, hA, hS => by
    injection hc with hc; subst hc
    exact wpIn_ret (hS .r _ _ _ _ _ h hA)
  | .rangeFunc g ps x y, Y, out, rnd, hout, hY, ac, hc, fb, φ0, φ, H0, w0, w, lim, hlim, h0, K, fr, H, a, Q, h, hA, hS => by
    unfold cc at hc
    split at hc
    · rename_i og ax ay hog hx hy
      split at hc
      · rename_i hps
        injection hc with hc; subst hc
        simp only [AW] at h
        obtain ⟨rfl, f, cs, hf, hI⟩ := h
        have := rngf_ok (hout rfl) hog (fun p hp => by simpa using List.all_eq_true.1 hps p hp)
          (fun {fb φ0 φ H0 H w0 w a fr g K Q} h0 h hA hS => cw_ok hm x (by simp) ySem0 hx hA.nx h0 h hA hS)
          (fun {fb φ0 φ H0 H w0 w a fr g K Q} h0 h hA hS => cw_ok hm y (by simp) ySem0 hy hA.nx h0 h hA hS) hf hI hA hS
        simpa using this
      · cases hc
    · cases hc
  | .scope _, _, _, _, _, _, ac, hc, _, _, _, _, _, _, _, _, _, _, _, _, _, _, h, _, _ => by simp only [cc, Option.some.injEq] at hc; subst hc; exact h.elim
  | .label _, _, _, _, _, _, ac, hc, _, _, _, _, _, _, _, _, _, _, _, _, _, _, h, _, _ => by simp only [cc, Option.some.injEq] at hc; subst hc; exact h.elim
  | .goto _, _, _, _, _, _, ac, hc, _, _, _, _, _, _, _, _, _, _, _, _, _, _, h, _, _ => by simp only [cc, Option.some.injEq] at hc; subst hc; exact h.elim
  | .refuse _, _, _, _, _, _, ac, hc, _, _, _, _, _, _, _, _, _, _, _, _, _, _, h, _, _ => by simp only [cc, Option.some.injEq] at hc; subst hc; exact h.elim
end
end Go.Za
