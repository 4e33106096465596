/- The abstract machine, part 3: when a world bears an abstract heap, and what a step may change. No condition. -/
import Derived.Test.YtaabgjmcikolfaaGreatDoorZa2
import Derived.Calls
import Derived.Laws.Cells
import Derived.Laws.CopyRow
import Derived.Laws.Rows
set_option linter.unusedVariables false
set_option linter.unusedSimpArgs false
namespace Go.Za
open Go.RowKit

def Blk.wrt : Blk → Bool
  | .box _ _ | .map _ _ | .iter _ _ _ _ | .bts _ _ | .dfr | .lp _ _ _ _ _ _ _ => true
  | .rows _ live _ _ => live
  | .dead => false
def Blk.alive : Blk → Bool
  | .dead => false
  | _ => true
theorem Blk.alive_of_wrt {k : Blk} (h : k.wrt = true) : k.alive = true := by cases k <;> simp_all [Blk.wrt, Blk.alive]

/-- The blocks that the abstract heap may still write. -/
def img (φ : Phi) (H : Hp) (g : Nat) : Prop := ∃ p k sz, H.m.get p = some k ∧ k.wrt = true ∧ φ p = some (g, sz)
def wrs (fb : Nat → Prop) (φ : Phi) (H : Hp) (g : Nat) : Prop := fb g ∨ img φ H g

def ARe (φ : Phi) (wr : Nat → Prop) (w : World) : List (AV × AV × Nat) → List MapEntry → Prop
  | [], es => es = []
  | (k, v, n) :: rest, es => ∃ e es', es = e :: es' ∧ AR φ wr w k e.key ∧ AR φ wr w v e.val ∧ e.born = n ∧ ARe φ wr w rest es'

/-- The frame stands for the abstract one. -/
def FR (φ : Phi) (wr : Nat → Prop) (w : World) (fr : Tr AV) (tmps : Array Value) : Prop :=
  ∀ t v, fr.get (path t) = some v → AR φ wr w v (tmps.getD t undef)
theorem FR.keep {φ φ' : Phi} {wr wr' : Nat → Prop} {w w' : World} (hk : Keep φ wr w φ' wr' w') {fr : Tr AV} {tmps : Array Value} (h : FR φ wr w fr tmps) : FR φ' wr' w' fr tmps :=
  fun t v hv => AR.keep hk _ _ (h t v hv)
def bytesV (l : List UInt8) : List Value := l.map fun c => .int .u8 c.toNat
def BR (φ : Phi) (wr : Nat → Prop) (w : World) (p : B) : Blk → Prop
  | .box ty cs => ∃ g, ∃ c0 : List Value, φ p = some (g, cs.length) ∧ w.heap[g]? = some (.cells c0.toArray ty (0, 0)) ∧ ARl φ wr w cs c0
  | .rows sz _ pur xs => ∃ g ty, ∃ c0 : Array Value, φ p = some (g, sz) ∧ 0 < sz ∧ w.heap[g]? = some (.cells c0 ty (0, 0)) ∧ xs.length * sz ≤ c0.size ∧ ARr (pof pur φ) wr w ⟨g, 0, none⟩ sz 0 xs
  | .map es clock => ∃ g sz es', φ p = some (g, sz) ∧ w.heap[g]? = some (.map es' clock) ∧ ARe φ wr w es es'.toList
  | .dead => True
  | .iter mo since seen stepped => ∃ g sz mo', φ p = some (g, sz) ∧ w.heap[g]? = some (.mapIter mo' since seen.toArray stepped) ∧ (match mo with | none => mo' = none | some m => ∃ gm s, φ m = some (gm, s) ∧ mo' = some gm)
  | .bts ty l => ∃ g, ∃ c0 : Array Value, φ p = some (g, 1) ∧ w.heap[g]? = some (.cells c0 ty (0, 0)) ∧ l.length ≤ c0.size ∧ ∀ (i : Nat) (c : UInt8), l[i]? = some c → c0[i]? = some (.int .u8 c.toNat)
  | .dfr => ∃ g sz, φ p = some (g, sz) ∧ w.heap[g]? = some (.deferred (some []))
  | .lp st pj n ps asg body fr => ∃ g sz r, φ p = some (g, sz) ∧ w.heap[g]? = some (.loop r) ∧ r.state = st ∧ r.pending = pj ∧ r.tmps.size = n ∧ r.params = ps ∧ r.assign = asg ∧ r.body = body ∧ FR φ wr w fr r.tmps

structure HR (fb : Nat → Prop) (φ : Phi) (H : Hp) (w : World) : Prop where
  lt : ∀ p k, H.m.get p = some k → p.toNat < H.nx.toNat
  phl : ∀ p x, φ p = some x → p.toNat < H.nx.toNat
  phw : ∀ p g sz, φ p = some (g, sz) → g < w.heap.size ∧ ¬ fb g
  inj : ∀ p q g s t k k', H.m.get p = some k → H.m.get q = some k' → k.wrt = true → k'.alive = true → φ p = some (g, s) → φ q = some (g, t) → p = q
  blk : ∀ p k, H.m.get p = some k → BR φ (wrs fb φ H) w p k
  fbl : ∀ g, fb g → g < w.heap.size

structure Ext (fb : Nat → Prop) (φ : Phi) (H : Hp) (w : World) (φ' : Phi) (H' : Hp) (w' : World) : Prop where
  os : w'.os = w.os
  tape : w'.tape = w.tape
  output : w'.output = w.output
  size : w.heap.size ≤ w'.heap.size
  old : ∀ g, g < w.heap.size → ¬ img φ H g → w'.heap[g]? = w.heap[g]?
  shape : ∀ (g : Nat) (c : Array Value) (ty : TypeId) (fz : Nat × Nat), w.heap[g]? = some (.cells c ty fz) → ∃ c' fz', w'.heap[g]? = some (.cells c' ty fz') ∧ c'.size = c.size
  phi : ∀ p x, φ p = some x → φ' p = some x
  img : ∀ g, g < w.heap.size → img φ' H' g → img φ H g

theorem Ext.refl (fb : Nat → Prop) (φ : Phi) (H : Hp) (w : World) : Ext fb φ H w φ H w :=
  ⟨rfl, rfl, rfl, Nat.le_refl _, fun _ _ _ => rfl, fun _ c _ fz h => ⟨c, fz, h, rfl⟩, fun _ _ h => h, fun _ _ h => h⟩
theorem Ext.trans {fb : Nat → Prop} {φ φ' φ'' : Phi} {H H' H'' : Hp} {w w' w'' : World} (h : Ext fb φ H w φ' H' w') (k : Ext fb φ' H' w' φ'' H'' w'') : Ext fb φ H w φ'' H'' w'' :=
  ⟨k.os.trans h.os, k.tape.trans h.tape, k.output.trans h.output, Nat.le_trans h.size k.size,
   fun g hg hn => (k.old g (Nat.lt_of_lt_of_le hg h.size) (fun hi => hn (h.img g hg hi))).trans (h.old g hg hn),
   fun g c ty fz hc => by
     obtain ⟨c1, f1, h1, e1⟩ := h.shape g c ty fz hc
     obtain ⟨c2, f2, h2, e2⟩ := k.shape g c1 ty f1 h1
     exact ⟨c2, f2, h2, e2.trans e1⟩,
   fun p x hx => k.phi p x (h.phi p x hx), fun g hg hi => h.img g hg (k.img g (Nat.lt_of_lt_of_le hg h.size) hi)⟩
theorem Ext.keep {fb : Nat → Prop} {φ φ' : Phi} {H H' : Hp} {w w' : World} (h : Ext fb φ H w φ' H' w') : Keep φ (wrs fb φ H) w φ' (wrs fb φ' H') w' :=
  ⟨h.phi, fun g hg hw => hw.elim .inl (fun hi => .inr (h.img g hg hi)), h.size, fun a hg hn => cell_of_block (h.old a.block hg (fun hi => hn (.inr hi))), h.shape⟩
theorem Ext.ar {fb : Nat → Prop} {φ φ' : Phi} {H H' : Hp} {w w' : World} (h : Ext fb φ H w φ' H' w') {x : AV} {v : Value} (hv : AR φ (wrs fb φ H) w x v) : AR φ' (wrs fb φ' H') w' x v := AR.keep h.keep x v hv
theorem Ext.arl {fb : Nat → Prop} {φ φ' : Phi} {H H' : Hp} {w w' : World} (h : Ext fb φ H w φ' H' w') {x : List AV} {v : List Value} (hv : ARl φ (wrs fb φ H) w x v) : ARl φ' (wrs fb φ' H') w' x v := ARl.keep h.keep x v hv
/-- A draw turns nothing. -/
theorem Ext.drew (fb : Nat → Prop) (φ : Phi) (H : Hp) (w : World) : Ext fb φ H w φ H w.drew :=
  ⟨rfl, rfl, rfl, Nat.le_refl _, fun _ _ _ => rfl, fun _ c _ fz h => ⟨c, fz, h, rfl⟩, fun _ _ h => h, fun _ _ h => h⟩

theorem ARe.keep {φ φ' : Phi} {wr wr' : Nat → Prop} {w w' : World} (h : Keep φ wr w φ' wr' w') : ∀ {es : List (AV × AV × Nat)} {l : List MapEntry}, ARe φ wr w es l → ARe φ' wr' w' es l
  | [], l, hl => by simpa only [ARe] using hl
  | (k, v, n) :: rest, l, hl => by
    simp only [ARe] at hl ⊢
    obtain ⟨e, es', h1, h2, h3, h4, h5⟩ := hl
    exact ⟨e, es', h1, AR.keep h _ _ h2, AR.keep h _ _ h3, h4, ARe.keep h h5⟩

theorem HR.drew {fb : Nat → Prop} {φ : Phi} {H : Hp} {w : World} (h : HR fb φ H w) : HR fb φ H w.drew := by
  have hk := (Ext.drew fb φ H w).keep
  refine ⟨h.lt, h.phl, h.phw, h.inj, fun p k hp => ?_, h.fbl⟩
  have hb := h.blk p k hp
  cases k with
  | box ty cs =>
    obtain ⟨g, c0, h1, h2, h3⟩ := hb
    exact ⟨g, c0, h1, h2, ARl.keep hk _ _ h3⟩
  | iter mo since seen stepped => exact hb
  | bts ty l => exact hb
  | dfr => exact hb
  | lp st pj n ps asg body fr =>
    obtain ⟨g, sz, r, h1, h2, h3, h4, h4', h5, h6, h7, h8⟩ := hb
    exact ⟨g, sz, r, h1, h2, h3, h4, h4', h5, h6, h7, FR.keep hk h8⟩
  | rows sz l pur xs =>
    obtain ⟨g, ty, c0, h1, h2, h3, h4, h5⟩ := hb
    refine ⟨g, ty, c0, h1, h2, h3, h4, ARr.mk fun j r hj => ?_⟩
    obtain ⟨h6, h7⟩ := h5.get j r hj
    refine ⟨h6, ARc.mk h7.ones fun m c hm => ?_⟩
    obtain ⟨u, h8, h9⟩ := h7.get m c hm
    exact ⟨u, h8, AR.keep (hk.pof pur) _ _ h9⟩
  | map es clock =>
    obtain ⟨g, sz, es', h1, h2, h3⟩ := hb
    exact ⟨g, sz, es', h1, h2, ARe.keep hk h3⟩
  | dead => trivial

/-- A block that the step has not turned is as it was, in the world behind. -/
theorem BR.keepK {φ φ' : Phi} {wr wr' : Nat → Prop} {w w' : World} {p : B} {k : Blk} (h : Keep φ wr w φ' wr' w')
    (hw : ∀ g sz, φ p = some (g, sz) → w'.heap[g]? = w.heap[g]?) (hb : BR φ wr w p k) : BR φ' wr' w' p k := by
  cases k with
  | box ty cs =>
    obtain ⟨g, c0, h1, h2, h3⟩ := hb
    exact ⟨g, c0, h.phi _ _ h1, (hw _ _ h1).trans h2, ARl.keep h _ _ h3⟩
  | iter mo since seen stepped =>
    obtain ⟨g, sz, mo', h1, h2, h3⟩ := hb
    refine ⟨g, sz, mo', h.phi _ _ h1, (hw _ _ h1).trans h2, ?_⟩
    cases mo with
    | none => exact h3
    | some m =>
      obtain ⟨gm, s, h4, h5⟩ := h3
      exact ⟨gm, s, h.phi _ _ h4, h5⟩
  | bts ty l =>
    obtain ⟨g, c0, h1, h2, h3⟩ := hb
    exact ⟨g, c0, h.phi _ _ h1, (hw _ _ h1).trans h2, h3⟩
  | dfr =>
    obtain ⟨g, sz, h1, h2⟩ := hb
    exact ⟨g, sz, h.phi _ _ h1, (hw _ _ h1).trans h2⟩
  | lp st pj n ps asg body fr =>
    obtain ⟨g, sz, r, h1, h2, h3, h4, h4', h5, h6, h7, h8⟩ := hb
    exact ⟨g, sz, r, h.phi _ _ h1, (hw _ _ h1).trans h2, h3, h4, h4', h5, h6, h7, FR.keep h h8⟩
  | rows sz l pur xs =>
    obtain ⟨g, ty, c0, h1, h2, h3, h4, h5⟩ := hb
    refine ⟨g, ty, c0, h.phi _ _ h1, h2, (hw _ _ h1).trans h3, h4, ARr.mk fun j r hj => ?_⟩
    obtain ⟨h6, h7⟩ := h5.get j r hj
    refine ⟨h6, ARc.mk h7.ones fun m c hm => ?_⟩
    obtain ⟨u, h8, h9⟩ := h7.get m c hm
    refine ⟨u, ?_, AR.keep (h.pof pur) _ _ h9⟩
    exact (cell_of_block (w := w) (w' := w') (by rw [add_block, add_block]; exact hw _ _ h1)).trans h8
  | map es clock =>
    obtain ⟨g, sz, es', h1, h2, h3⟩ := hb
    exact ⟨g, sz, es', h.phi _ _ h1, (hw _ _ h1).trans h2, ARe.keep h h3⟩
  | dead => trivial

theorem BR.keep {fb : Nat → Prop} {φ φ' : Phi} {H H' : Hp} {w w' : World} {p : B} {k : Blk} (h : Ext fb φ H w φ' H' w')
    (hw : ∀ g sz, φ p = some (g, sz) → w'.heap[g]? = w.heap[g]?) (hb : BR φ (wrs fb φ H) w p k) : BR φ' (wrs fb φ' H') w' p k := BR.keepK h.keep hw hb

/-! ### a new block -/
def Phi.set (φ : Phi) (p : B) (x : Nat × Nat) : Phi := fun q => if p = q then some x else φ q
/-- What a new block must be in the world: o. -/
def NB (φ : Phi) (wr : Nat → Prop) (w : World) (o : Obj) (sz : Nat) : Blk → Prop
  | .box ty cs => ∃ c0 : List Value, o = .cells c0.toArray ty ∧ ARl φ wr w cs c0 ∧ sz = cs.length
  | .rows z _ pur xs => ∃ ty, ∃ c0 : List Value, o = .cells c0.toArray ty ∧ 0 < z ∧ sz = z ∧ xs.length * z ≤ c0.length ∧ ∀ j r, xs[j]? = some r → r.length = z ∧ (∀ c ∈ r, c.one = true) ∧ ∀ m c, r[m]? = some c → ∃ u, c0[j * z + m]? = some u ∧ AR (pof pur φ) wr w c u
  | .map es clock => es = [] ∧ clock = 0 ∧ o = .map #[] 0
  | .dead => False
  | .iter mo since seen stepped => ∃ mo', o = .mapIter mo' since seen.toArray stepped ∧ (match mo with | none => mo' = none | some m => ∃ gm s, φ m = some (gm, s) ∧ mo' = some gm)
  | .bts ty l => sz = 1 ∧ ∃ c0 : Array Value, o = .cells c0 ty ∧ l.length ≤ c0.size ∧ ∀ (i : Nat) (c : UInt8), l[i]? = some c → c0[i]? = some (.int .u8 c.toNat)
  | .dfr => o = .deferred (some [])
  | .lp st pj n ps asg body fr => ∃ r : Loop, o = .loop r ∧ r.state = st ∧ r.pending = pj ∧ r.tmps.size = n ∧ r.params = ps ∧ r.assign = asg ∧ r.body = body ∧ FR φ wr w fr r.tmps

theorem size_alloc' (w : World) (o : Obj) : (w.alloc o).heap.size = w.heap.size + 1 := by simp
theorem heap_alloc_old (w : World) (o : Obj) {g : Nat} (h : g < w.heap.size) : (w.alloc o).heap[g]? = w.heap[g]? := Below.heap_alloc w o g h
theorem heap_alloc_new' (w : World) (o : Obj) : (w.alloc o).heap[w.heap.size]? = some o := by simp only [World.alloc, Array.getElem?_push_size]

section
variable {fb : Nat → Prop} {φ : Phi} {H : Hp} {w : World}
theorem HR.old_lt (h : HR fb φ H w) {g : Nat} (hi : img φ H g) : g < w.heap.size := by
  obtain ⟨p, k, sz, _, _, h3⟩ := hi
  exact (h.phw _ _ _ h3).1
theorem Ext.alloc (h : HR fb φ H w) (o : Obj) (b : B) (k : Blk) (nx : B) (sz : Nat) (hb : φ b = none) (hd : ∀ k0, H.m.get b = some k0 → k0.wrt = false) :
    Ext fb φ H w (φ.set b (w.heap.size, sz)) ⟨H.m.set b k, nx⟩ (w.alloc o) := by
  refine ⟨rfl, rfl, rfl, by simp, fun g hg _ => heap_alloc_old w o hg, fun g c ty fz hc => ?_, fun p x hp => ?_, fun g hg hi => ?_⟩
  · refine ⟨c, fz, ?_, rfl⟩
    have hg : g < w.heap.size := (Array.getElem?_eq_some_iff.1 hc).1
    rw [heap_alloc_old w o hg]; exact hc
  · unfold Phi.set
    split
    · rename_i he; subst he; rw [hb] at hp; cases hp
    · exact hp
  · obtain ⟨p, k', s, h1, h2, h3⟩ := hi
    simp only [Tr.get_set] at h1
    unfold Phi.set at h3
    by_cases hp : b = p
    · rw [if_pos hp] at h3
      injection h3 with h3
      injection h3 with h3 _
      omega
    · rw [if_neg hp] at h1 h3
      exact ⟨p, k', s, h1, h2, h3⟩
theorem HR.alloc (h : HR fb φ H w) (o : Obj) (b : B) (k : Blk) (nx : B) (sz : Nat) (hb : φ b = none) (hd : ∀ k0, H.m.get b = some k0 → k0.wrt = false)
    (hlt : b.toNat < nx.toNat) (hnx : H.nx.toNat ≤ nx.toNat) (hk : NB φ (wrs fb φ H) w o sz k) : HR fb (φ.set b (w.heap.size, sz)) ⟨H.m.set b k, nx⟩ (w.alloc o) := by
  have he := Ext.alloc h o b k nx sz hb hd
  refine ⟨fun p k' hp => ?_, fun p x hp => ?_, fun p g s hp => ?_, fun p q g s t k1 k2 h1 h2 a1 a2 e1 e2 => ?_, fun p k' hp => ?_, fun g hg => ?_⟩
  · simp only [Tr.get_set] at hp
    split at hp
    · rename_i e; subst e; exact hlt
    · exact Nat.lt_of_lt_of_le (h.lt _ _ hp) hnx
  · unfold Phi.set at hp
    split at hp
    · rename_i e; subst e; exact hlt
    · exact Nat.lt_of_lt_of_le (h.phl _ _ hp) hnx
  · unfold Phi.set at hp
    split at hp
    · injection hp with hp
      injection hp with hp _
      subst hp
      exact ⟨by simp, fun hf => absurd (h.fbl _ hf) (by omega)⟩
    · obtain ⟨h1, h2⟩ := h.phw _ _ _ hp
      exact ⟨by simp; omega, h2⟩
  · simp only [Tr.get_set] at h1 h2
    unfold Phi.set at e1 e2
    by_cases p1 : b = p <;> by_cases q1 : b = q
    · exact p1.symm.trans q1
    · rw [if_pos p1] at e1
      rw [if_neg q1] at e2
      injection e1 with e1
      injection e1 with e1 _
      have := (h.phw _ _ _ e2).1
      omega
    · rw [if_neg p1] at e1
      rw [if_pos q1] at e2
      injection e2 with e2
      injection e2 with e2 _
      have := (h.phw _ _ _ e1).1
      omega
    · rw [if_neg p1] at e1 h1
      rw [if_neg q1] at e2 h2
      exact h.inj p q g s t k1 k2 h1 h2 a1 a2 e1 e2
  · simp only [Tr.get_set] at hp
    by_cases p1 : b = p
    · rw [if_pos p1] at hp
      injection hp with hp
      subst hp
      subst p1
      have hφ : (φ.set b (w.heap.size, sz)) b = some (w.heap.size, sz) := by simp [Phi.set]
      cases k with
      | box ty cs =>
        obtain ⟨c0, rfl, h2, rfl⟩ := hk
        exact ⟨_, c0, hφ, heap_alloc_new' w _, ARl.keep he.keep _ _ h2⟩
      | iter mo since seen stepped =>
        obtain ⟨mo', rfl, h2⟩ := hk
        refine ⟨_, sz, mo', hφ, heap_alloc_new' w _, ?_⟩
        cases mo with
        | none => exact h2
        | some m =>
          obtain ⟨gm, s, h4, h5⟩ := h2
          exact ⟨gm, s, he.phi _ _ h4, h5⟩
      | bts ty l =>
        obtain ⟨rfl, c0, rfl, h2, h3⟩ := hk
        exact ⟨_, c0, hφ, heap_alloc_new' w _, h2, h3⟩
      | dfr =>
        subst hk
        exact ⟨_, sz, hφ, heap_alloc_new' w _⟩
      | lp st pj n ps asg body fr =>
        obtain ⟨r, rfl, h3, h4, h4', h5, h6, h7, h8⟩ := hk
        exact ⟨_, sz, r, hφ, heap_alloc_new' w _, h3, h4, h4', h5, h6, h7, FR.keep he.keep h8⟩
      | rows z l pur xs =>
        obtain ⟨ty, c0, rfl, h2, rfl, h4, h5⟩ := hk
        refine ⟨_, ty, c0.toArray, hφ, h2, heap_alloc_new' w _, by simpa using h4, ARr.mk fun j r hj => ?_⟩
        obtain ⟨h6, h60, h7⟩ := h5 j r hj
        refine ⟨h6, ARc.mk h60 fun m c hm => ?_⟩
        obtain ⟨u, h8, h9⟩ := h7 m c hm
        refine ⟨u, ?_, AR.keep (he.keep.pof pur) _ _ h9⟩
        rw [add_spot (add_spot_none rfl _), add_spot rfl]
        simpa [World.cell?_alloc_new] using h8
      | map es clock =>
        obtain ⟨rfl, rfl, rfl⟩ := hk
        exact ⟨_, sz, #[], hφ, heap_alloc_new' w _, by simp only [ARe]⟩
      | dead => exact hk.elim
    · rw [if_neg p1] at hp
      refine BR.keep he (fun g s hg => heap_alloc_old w o (h.phw _ _ _ hg).1) (h.blk p k' hp)
  · have := h.fbl g hg
    simp
    omega

/-! ### a block that is turned in place -/
theorem Ext.put (h : HR fb φ H w) {b : B} {k k' : Blk} {g s : Nat} (hb : H.m.get b = some k) (hk : k.wrt = true) (hg : φ b = some (g, s)) (nx : B) {w' : World}
    (hos : w'.os = w.os) (htp : w'.tape = w.tape) (hou : w'.output = w.output) (hsz : w'.heap.size = w.heap.size) (ho : ∀ g', g' ≠ g → w'.heap[g']? = w.heap[g']?)
    (hsh : ∀ (c : Array Value) (ty : TypeId) (fz : Nat × Nat), w.heap[g]? = some (.cells c ty fz) → ∃ c' fz', w'.heap[g]? = some (.cells c' ty fz') ∧ c'.size = c.size) :
    Ext fb φ H w φ ⟨H.m.set b k', nx⟩ w' := by
  refine ⟨hos, htp, hou, by omega, fun g' _ hn => ho g' (fun e => hn ⟨b, k, s, hb, hk, e ▸ hg⟩), fun g' c ty fz hc => ?_, fun _ _ hp => hp, fun g' _ hi => ?_⟩
  · by_cases e : g' = g
    · subst e; exact hsh c ty fz hc
    · exact ⟨c, fz, (ho g' e).trans hc, rfl⟩
  · obtain ⟨p, k2, t, h1, h2, h3⟩ := hi
    simp only [Tr.get_set] at h1
    by_cases e : b = p
    · subst e
      rw [hg] at h3
      injection h3 with h3
      injection h3 with h3 _
      subst h3
      exact ⟨b, k, s, hb, hk, hg⟩
    · rw [if_neg e] at h1
      exact ⟨p, k2, t, h1, h2, h3⟩
theorem HR.put (h : HR fb φ H w) {b : B} {k k' : Blk} {g s : Nat} (hb : H.m.get b = some k) (hk : k.wrt = true) (hg : φ b = some (g, s)) (nx : B) (hnx : H.nx.toNat ≤ nx.toNat) {w' : World}
    (hsz : w'.heap.size = w.heap.size) (ho : ∀ g', g' ≠ g → w'.heap[g']? = w.heap[g']?)
    (he : Ext fb φ H w φ ⟨H.m.set b k', nx⟩ w') (hbr : BR φ (wrs fb φ ⟨H.m.set b k', nx⟩) w' b k') : HR fb φ ⟨H.m.set b k', nx⟩ w' := by
  refine ⟨fun p k2 hp => ?_, fun p x hp => Nat.lt_of_lt_of_le (h.phl p x hp) hnx, fun p g' t hp => ?_, fun p q g' t u k1 k2 h1 h2 a1 a2 e1 e2 => ?_, fun p k2 hp => ?_, fun g' hf => by rw [hsz]; exact h.fbl g' hf⟩
  · simp only [Tr.get_set] at hp
    split at hp
    · rename_i e; subst e; exact Nat.lt_of_lt_of_le (h.lt _ _ hb) hnx
    · exact Nat.lt_of_lt_of_le (h.lt _ _ hp) hnx
  · rw [hsz]; exact h.phw p g' t hp
  · simp only [Tr.get_set] at h1 h2
    have ak := Blk.alive_of_wrt hk
    by_cases p1 : b = p <;> by_cases q1 : b = q
    · exact p1.symm.trans q1
    · subst p1
      rw [if_neg q1] at h2
      exact h.inj b q g' t u k k2 hb h2 hk a2 e1 e2
    · subst q1
      rw [if_neg p1] at h1
      exact h.inj p b g' t u k1 k h1 hb a1 ak e1 e2
    · rw [if_neg p1] at h1
      rw [if_neg q1] at h2
      exact h.inj p q g' t u k1 k2 h1 h2 a1 a2 e1 e2
  · simp only [Tr.get_set] at hp
    by_cases p1 : b = p
    · rw [if_pos p1] at hp
      injection hp with hp
      subst hp
      subst p1
      exact hbr
    · rw [if_neg p1] at hp
      cases ha : k2.alive with
      | false =>
        cases k2 <;> simp_all [Blk.alive]
        trivial
      | true =>
        exact BR.keep he (fun g' t hg' => ho g' (fun e => p1 (h.inj b p g s t k k2 hb hp hk ha hg (e ▸ hg')))) (h.blk p k2 hp)

/-! ### a block that goes on under another number -/
theorem Ext.mov (h : HR fb φ H w) {b nb : B} {k k' : Blk} {g s g' s' : Nat} (hb : H.m.get b = some k) (hk : k.wrt = true) (hg : φ b = some (g, s)) (hn : φ nb = none) (nx : B) {w' : World}
    (hos : w'.os = w.os) (htp : w'.tape = w.tape) (hou : w'.output = w.output) (hsz : w.heap.size ≤ w'.heap.size) (ho : ∀ j, j < w.heap.size → j ≠ g → w'.heap[j]? = w.heap[j]?)
    (hsh : ∀ (c : Array Value) (ty : TypeId) (fz : Nat × Nat), w.heap[g]? = some (.cells c ty fz) → ∃ c' fz', w'.heap[g]? = some (.cells c' ty fz') ∧ c'.size = c.size)
    (hg' : g' = g ∨ w.heap.size ≤ g') (hkk : k'.wrt = true) :
    Ext fb φ H w (φ.set nb (g', s')) ⟨(H.m.set b .dead).set nb k', nx⟩ w' := by
  refine ⟨hos, htp, hou, hsz, fun j hj hi => ho j hj (fun e => hi ⟨b, k, s, hb, hk, e ▸ hg⟩), fun j c ty fz hc => ?_, fun p x hp => ?_, fun j hj hi => ?_⟩
  · by_cases e : j = g
    · subst e; exact hsh c ty fz hc
    · exact ⟨c, fz, (ho j (Array.getElem?_eq_some_iff.1 hc).1 e).trans hc, rfl⟩
  · unfold Phi.set
    split
    · rename_i e; subst e; rw [hn] at hp; cases hp
    · exact hp
  · obtain ⟨p, k2, t, h1, h2, h3⟩ := hi
    simp only [Tr.get_set] at h1
    unfold Phi.set at h3
    by_cases e : nb = p
    · rw [if_pos e] at h3
      injection h3 with h3
      injection h3 with h3 _
      rcases hg' with hg' | hg'
      · rw [← h3, hg']; exact ⟨b, k, s, hb, hk, hg⟩
      · omega
    · rw [if_neg e] at h1 h3
      by_cases e2 : b = p
      · rw [if_pos e2] at h1
        injection h1 with h1
        subst h1
        cases h2
      · rw [if_neg e2] at h1
        exact ⟨p, k2, t, h1, h2, h3⟩
theorem HR.mov (h : HR fb φ H w) {b nb : B} {k k' : Blk} {g s g' s' : Nat} (hb : H.m.get b = some k) (hk : k.wrt = true) (hg : φ b = some (g, s)) (hn : φ nb = none) (nx : B)
    (hnx : H.nx.toNat ≤ nx.toNat) (hlt : nb.toNat < nx.toNat) {w' : World}
    (hsz : w.heap.size ≤ w'.heap.size) (ho : ∀ j, j < w.heap.size → j ≠ g → w'.heap[j]? = w.heap[j]?) (hg' : g' = g ∨ w.heap.size ≤ g') (hlw : g' < w'.heap.size)
    (he : Ext fb φ H w (φ.set nb (g', s')) ⟨(H.m.set b .dead).set nb k', nx⟩ w')
    (hbr : BR (φ.set nb (g', s')) (wrs fb (φ.set nb (g', s')) ⟨(H.m.set b .dead).set nb k', nx⟩) w' nb k') : HR fb (φ.set nb (g', s')) ⟨(H.m.set b .dead).set nb k', nx⟩ w' := by
  have hne : b ≠ nb := fun e => by rw [← e, hg] at hn; cases hn
  refine ⟨fun p k2 hp => ?_, fun p x hp => ?_, fun p j t hp => ?_, fun p q j t u k1 k2 h1 h2 a1 a2 e1 e2 => ?_, fun p k2 hp => ?_, fun j hf => Nat.lt_of_lt_of_le (h.fbl j hf) hsz⟩
  · simp only [Tr.get_set] at hp
    by_cases e : nb = p
    · subst e; exact hlt
    · rw [if_neg e] at hp
      by_cases e2 : b = p
      · subst e2; exact Nat.lt_of_lt_of_le (h.lt _ _ hb) hnx
      · rw [if_neg e2] at hp
        exact Nat.lt_of_lt_of_le (h.lt _ _ hp) hnx
  · unfold Phi.set at hp
    split at hp
    · rename_i e; subst e; exact hlt
    · exact Nat.lt_of_lt_of_le (h.phl _ _ hp) hnx
  · unfold Phi.set at hp
    split at hp
    · injection hp with hp
      injection hp with hp _
      subst hp
      refine ⟨hlw, fun hf => ?_⟩
      rcases hg' with hg' | hg'
      · subst hg'; exact (h.phw _ _ _ hg).2 hf
      · have := h.fbl _ hf; omega
    · exact ⟨Nat.lt_of_lt_of_le (h.phw _ _ _ hp).1 hsz, (h.phw _ _ _ hp).2⟩
  · have key : ∀ (p : B) (k1 : Blk) (j t : Nat), nb ≠ p → ((H.m.set b .dead).set nb k').get p = some k1 → k1.alive = true → (φ.set nb (g', s')) p = some (j, t) → H.m.get p = some k1 ∧ φ p = some (j, t) ∧ b ≠ p := by
      intro p k1 j t hp h1 a1 e1
      simp only [Tr.get_set] at h1
      unfold Phi.set at e1
      rw [if_neg hp] at h1 e1
      by_cases e : b = p
      · rw [if_pos e] at h1
        injection h1 with h1
        subst h1
        cases a1
      · rw [if_neg e] at h1
        exact ⟨h1, e1, e⟩
    have top : ∀ (p : B) (j t : Nat), nb = p → (φ.set nb (g', s')) p = some (j, t) → j = g' := by
      intro p j t hp e1
      unfold Phi.set at e1
      rw [if_pos hp] at e1
      injection e1 with e1
      injection e1 with e1 _
      exact e1.symm
    have clash : ∀ (p : B) (k1 : Blk) (t : Nat), H.m.get p = some k1 → k1.alive = true → φ p = some (g', t) → b ≠ p → False := by
      intro p k1 t h1 a1 e1 hne
      rcases hg' with hg' | hg'
      · exact hne (h.inj b p g s t k k1 hb h1 hk a1 hg (hg' ▸ e1))
      · have := (h.phw _ _ _ e1).1; omega
    by_cases p1 : nb = p <;> by_cases q1 : nb = q
    · exact p1.symm.trans q1
    · obtain ⟨x1, x2, x3⟩ := key q k2 j u q1 h2 a2 e2
      have := top p j t p1 e1
      subst this
      exact (clash q k2 u x1 a2 x2 x3).elim
    · obtain ⟨x1, x2, x3⟩ := key p k1 j t p1 h1 (Blk.alive_of_wrt a1) e1
      have := top q j u q1 e2
      subst this
      exact (clash p k1 t x1 (Blk.alive_of_wrt a1) x2 x3).elim
    · obtain ⟨x1, x2, x3⟩ := key p k1 j t p1 h1 (Blk.alive_of_wrt a1) e1
      obtain ⟨y1, y2, y3⟩ := key q k2 j u q1 h2 a2 e2
      exact h.inj p q j t u k1 k2 x1 y1 a1 a2 x2 y2
  · simp only [Tr.get_set] at hp
    by_cases p1 : nb = p
    · rw [if_pos p1] at hp
      injection hp with hp
      subst hp
      subst p1
      exact hbr
    · rw [if_neg p1] at hp
      by_cases p2 : b = p
      · rw [if_pos p2] at hp
        injection hp with hp
        subst hp
        trivial
      · rw [if_neg p2] at hp
        cases ha : k2.alive with
        | false =>
          cases k2 <;> simp_all [Blk.alive]
          trivial
        | true =>
          exact BR.keep he (fun j t hj => ho j (h.phw _ _ _ hj).1 (fun e => p2 (h.inj b p g s t k k2 hb hp hk ha hg (e ▸ hj)))) (h.blk p k2 hp)
end
end Go.Za
