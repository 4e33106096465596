/- The abstract machine, part 1: binary paths, tries, abstract values, and when a value of the model stands for an abstract one. No condition. -/
import Derived.Calls
import Derived.Below
import Derived.Laws.World
set_option linter.unusedVariables false
set_option linter.unusedSimpArgs false
namespace Go.Za

/-! ### paths and tries -/
inductive B where
  | e
  | l (p : B)
  | r (p : B)
  deriving DecidableEq

def B.toNat : B → Nat
  | .e => 1
  | .l p => 2 * p.toNat
  | .r p => 2 * p.toNat + 1
def B.succ : B → B
  | .e => .l .e
  | .l p => .r p
  | .r p => .l p.succ
theorem B.pos : ∀ p : B, 0 < p.toNat
  | .e => by decide
  | .l p => by have := p.pos; simp only [B.toNat]; omega
  | .r p => by simp only [B.toNat]; omega
theorem B.toNat_succ : ∀ p : B, p.succ.toNat = p.toNat + 1
  | .e => rfl
  | .l p => rfl
  | .r p => by have := p.toNat_succ; simp only [B.succ, B.toNat, this]; omega
theorem B.inj : ∀ {p q : B}, p.toNat = q.toNat → p = q
  | .e, .e, _ => rfl
  | .e, .l q, h => by have := q.pos; simp only [B.toNat] at h; omega
  | .e, .r q, h => by have := q.pos; simp only [B.toNat] at h; omega
  | .l p, .e, h => by have := p.pos; simp only [B.toNat] at h; omega
  | .r p, .e, h => by have := p.pos; simp only [B.toNat] at h; omega
  | .l p, .l q, h => by rw [B.inj (p := p) (q := q) (by simp only [B.toNat] at h; omega)]
  | .r p, .r q, h => by rw [B.inj (p := p) (q := q) (by simp only [B.toNat] at h; omega)]
  | .l p, .r q, h => by simp only [B.toNat] at h; omega
  | .r p, .l q, h => by simp only [B.toNat] at h; omega

/-- The path of a slot. -/
def B.go : Nat → Nat → B
  | 0, _ => .e
  | f + 1, n => if n ≤ 1 then .e else if n % 2 = 0 then .l (B.go f (n / 2)) else .r (B.go f (n / 2))
def path (t : Nat) : B := B.go (t + 1) (t + 1)
theorem B.go_toNat : ∀ (f n : Nat), 0 < n → n ≤ f → (B.go f n).toNat = n
  | 0, n, h0, h1 => by omega
  | f + 1, n, h0, h1 => by
    unfold B.go
    by_cases h : n ≤ 1
    · rw [if_pos h]; simp only [B.toNat]; omega
    · rw [if_neg h]
      by_cases h2 : n % 2 = 0
      · rw [if_pos h2]; simp only [B.toNat]; rw [B.go_toNat f (n / 2) (by omega) (by omega)]; omega
      · rw [if_neg h2]; simp only [B.toNat]; rw [B.go_toNat f (n / 2) (by omega) (by omega)]; omega
theorem path_toNat (t : Nat) : (path t).toNat = t + 1 := B.go_toNat _ _ (by omega) (by omega)
theorem path_inj {s t : Nat} (h : path s = path t) : s = t := by
  have := congrArg B.toNat h
  rw [path_toNat, path_toNat] at this
  omega

def B.eqb : B → B → Bool
  | .e, .e => true
  | .l p, .l q => p.eqb q
  | .r p, .r q => p.eqb q
  | _, _ => false
theorem B.eqb_iff : ∀ {p q : B}, p.eqb q = true ↔ p = q
  | .e, .e => by simp [B.eqb]
  | .e, .l q => by simp [B.eqb]
  | .e, .r q => by simp [B.eqb]
  | .l p, .e => by simp [B.eqb]
  | .l p, .l q => by simp [B.eqb, B.eqb_iff (p := p) (q := q)]
  | .l p, .r q => by simp [B.eqb]
  | .r p, .e => by simp [B.eqb]
  | .r p, .l q => by simp [B.eqb]
  | .r p, .r q => by simp [B.eqb, B.eqb_iff (p := p) (q := q)]
def bmem (p : B) : List B → Bool
  | [] => false
  | b :: bs => match p.eqb b with
    | true => true
    | false => bmem p bs
theorem bmem_iff {p : B} : ∀ {D : List B}, bmem p D = true ↔ p ∈ D
  | [] => by simp [bmem]
  | b :: bs => by
    simp only [bmem, List.mem_cons, ← bmem_iff (p := p) (D := bs), ← B.eqb_iff (p := p) (q := b)]
    cases p.eqb b <;> simp

inductive Tr (α : Type) where
  | e
  | n (l : Tr α) (v : Option α) (r : Tr α)
def Tr.get {α : Type} : Tr α → B → Option α
  | .e, _ => none
  | .n _ v _, .e => v
  | .n l _ _, .l p => l.get p
  | .n _ _ r, .r p => r.get p
def Tr.set {α : Type} : Tr α → B → α → Tr α
  | .e, .e, x => .n .e (some x) .e
  | .e, .l p, x => .n (Tr.set .e p x) none .e
  | .e, .r p, x => .n .e none (Tr.set .e p x)
  | .n l _ r, .e, x => .n l (some x) r
  | .n l v r, .l p, x => .n (l.set p x) v r
  | .n l v r, .r p, x => .n l v (r.set p x)
theorem Tr.get_e {α : Type} (p : B) : (Tr.e : Tr α).get p = none := by cases p <;> rfl
theorem Tr.get_set {α : Type} (x : α) : ∀ (t : Tr α) (p q : B), (t.set p x).get q = if p = q then some x else t.get q
  | .e, .e, .e => by simp [Tr.set, Tr.get]
  | .e, .e, .l q => by simp [Tr.set, Tr.get, Tr.get_e]
  | .e, .e, .r q => by simp [Tr.set, Tr.get, Tr.get_e]
  | .e, .l p, .e => by simp [Tr.set, Tr.get]
  | .e, .l p, .l q => by have := Tr.get_set x .e p q; simp [Tr.set, Tr.get, this, Tr.get_e]
  | .e, .l p, .r q => by simp [Tr.set, Tr.get, Tr.get_e]
  | .e, .r p, .e => by simp [Tr.set, Tr.get]
  | .e, .r p, .l q => by simp [Tr.set, Tr.get, Tr.get_e]
  | .e, .r p, .r q => by have := Tr.get_set x .e p q; simp [Tr.set, Tr.get, this, Tr.get_e]
  | .n l v r, .e, .e => by simp [Tr.set, Tr.get]
  | .n l v r, .e, .l q => by simp [Tr.set, Tr.get]
  | .n l v r, .e, .r q => by simp [Tr.set, Tr.get]
  | .n l v r, .l p, .e => by simp [Tr.set, Tr.get]
  | .n l v r, .l p, .l q => by have := Tr.get_set x l p q; simp [Tr.set, Tr.get, this]
  | .n l v r, .l p, .r q => by simp [Tr.set, Tr.get]
  | .n l v r, .r p, .e => by simp [Tr.set, Tr.get]
  | .n l v r, .r p, .l q => by simp [Tr.set, Tr.get]
  | .n l v r, .r p, .r q => by have := Tr.get_set x r p q; simp [Tr.set, Tr.get, this]

/-! ### abstract values -/
inductive AV where
  | u                                       -- not known
  | b (x : Bool)
  | i (k : IntKind) (n : Int)
  | s (x : List UInt8)
  | np                                      -- a nil pointer
  | nm                                      -- a nil map
  | nf                                      -- a nil function
  | e0                                      -- a slice of length and capacity 0
  | ref (b : B) (o : Nat)                   -- into a box
  | el (b : B) (i o : Nat)                  -- into row i of a block of rows
  | im (cs : List AV) (o : Nat)             -- into cells that don't change
  | ls (sz : Nat) (xs : List (List AV))     -- a slice whose cells don't change
  | sl (b : B) (lo n : Nat)                 -- a slice of a block of rows
  | mp (b : B)
  | fn (f : Nat) (cs : List AV)
  | ag (cs : List AV)
  | tu (vs : List AV)
  | ni                                      -- a nil interface value
  | ifc (t : Nat) (x : AV)                  -- an interface value
  | yl (b : B)                              -- yield of a range over a function

def AV.one : AV → Bool
  | .u | .ag _ | .tu _ => false
  | _ => true
/-- A cell that leads to none of the blocks that are told. -/
def AV.pure : AV → Bool
  | .ref _ _ | .el _ _ _ | .sl _ _ _ | .mp _ | .ag _ | .tu _ | .ifc _ _ | .yl _ => false
  | .fn _ cs => cs.isEmpty
  | _ => true
abbrev Phi := B → Option (Nat × Nat)
def pnone : Phi := fun _ => none
def str (l : List UInt8) : Value := .string ⟨l.toArray⟩

mutual
/-- v stands for the abstract value. wr: the blocks that may still be written. -/
def AR : Phi → (Nat → Prop) → World → AV → Value → Prop
  | _, _, _, .u, _ => True
  | _, _, _, .b x, v => v = .bool x
  | _, _, _, .i k n, v => v = .int k n
  | _, _, _, .s x, v => v = str x
  | _, _, _, .np, v => v = .pointer none
  | _, _, _, .nm, v => v = .map none
  | _, _, _, .nf, v => v = .nilFunc
  | _, _, _, .e0, v => ∃ A, v = .slice A 0 0
  | φ, _, _, .ref b o, v => ∃ g sz, φ b = some (g, sz) ∧ v = .pointer (some ⟨g, o, none⟩)
  | φ, _, _, .el b i o, v => ∃ g sz, φ b = some (g, sz) ∧ v = .pointer (some ⟨g, i * sz + o, none⟩)
  | _, wr, w, .im cs o, v => ∃ a : Addr, v = .pointer (some (a.add o)) ∧ a.spot = none ∧ ¬ wr a.block ∧ a.block < w.heap.size ∧ ARc pnone wr w a 0 cs
  | _, wr, w, .ls sz xs, v => ∃ A cap, v = .slice A xs.length cap ∧ xs.length ≤ cap ∧ 0 < sz ∧ (xs ≠ [] → ∃ a : Addr, A = some a ∧ a.spot = none ∧ ¬ wr a.block ∧ a.block < w.heap.size ∧ ARr pnone wr w a sz 0 xs)
  | φ, _, w, .sl b lo n, v => ∃ g sz cap c0 ty fz, φ b = some (g, sz) ∧ v = .slice (some ⟨g, lo * sz, none⟩) n cap ∧ w.heap[g]? = some (.cells c0 ty fz) ∧ (lo + cap) * sz ≤ c0.size ∧ n ≤ cap ∧ 0 < sz
  | φ, _, _, .mp b, v => ∃ g sz, φ b = some (g, sz) ∧ v = .map (some g)
  | φ, wr, w, .fn f cs, v => ∃ vs : List Value, v = .func (.func f) #[] vs.toArray ∧ ARl φ wr w cs vs
  | φ, wr, w, .ag cs, v => ∃ vs : List Value, v = .agg vs.toArray ∧ ARl φ wr w cs vs
  | φ, wr, w, .tu cs, v => ∃ vs : List Value, v = .tuple vs.toArray ∧ ARl φ wr w cs vs
  | _, _, _, .ni, v => v = .nilIface
  | φ, wr, w, .ifc t x, v => ∃ u, v = .iface t u ∧ AR φ wr w x u
  | φ, _, _, .yl b, v => ∃ g sz, φ b = some (g, sz) ∧ v = .func (.yield g) #[] #[]
/-- The cells from a + j on. -/
def ARc : Phi → (Nat → Prop) → World → Addr → Nat → List AV → Prop
  | _, _, _, _, _, [] => True
  | φ, wr, w, a, j, c :: cs => (c.one = true ∧ ∃ u, w.cell? (a.add j) = some u ∧ AR φ wr w c u) ∧ ARc φ wr w a (j + 1) cs
def ARl : Phi → (Nat → Prop) → World → List AV → List Value → Prop
  | _, _, _, [], vs => vs = []
  | φ, wr, w, c :: cs, vs => ∃ v vs', vs = v :: vs' ∧ AR φ wr w c v ∧ ARl φ wr w cs vs'
/-- The rows from number i on. -/
def ARr : Phi → (Nat → Prop) → World → Addr → Nat → Nat → List (List AV) → Prop
  | _, _, _, _, _, _, [] => True
  | φ, wr, w, a, sz, i, r :: rs => r.length = sz ∧ ARc φ wr w (a.add (i * sz)) 0 r ∧ ARr φ wr w a sz (i + 1) rs
end

/-! ### what is kept when the world goes on -/
theorem add_block (a : Addr) (n : Nat) : (a.add n).block = a.block := by unfold Addr.add; split <;> rfl
theorem add_spot {a : Addr} (h : a.spot = none) (n : Nat) : a.add n = ⟨a.block, a.off + n, none⟩ := by
  cases a with
  | mk b o s =>
    simp only at h
    subst h
    unfold Addr.add
    split
    · rename_i h0; subst h0; rfl
    · rfl
theorem add_zero (a : Addr) : a.add 0 = a := by simp [Addr.add]
theorem add_add {a : Addr} (h : a.spot = none) (i j : Nat) : (a.add i).add j = a.add (i + j) := by
  rw [add_spot h, add_spot h, add_spot rfl]
  simp [Nat.add_assoc]
theorem add_spot_none {a : Addr} (h : a.spot = none) (n : Nat) : (a.add n).spot = none := by rw [add_spot h]

structure Keep (φ : B → Option (Nat × Nat)) (wr : Nat → Prop) (w : World) (φ' : B → Option (Nat × Nat)) (wr' : Nat → Prop) (w' : World) : Prop where
  phi : ∀ p x, φ p = some x → φ' p = some x
  wri : ∀ g, g < w.heap.size → wr' g → wr g
  size : w.heap.size ≤ w'.heap.size
  unch : ∀ a : Addr, a.block < w.heap.size → ¬ wr a.block → w'.cell? a = w.cell? a
  shape : ∀ (g : Nat) (c : Array Value) (ty : TypeId) (fz : Nat × Nat), w.heap[g]? = some (.cells c ty fz) → ∃ c' fz', w'.heap[g]? = some (.cells c' ty fz') ∧ c'.size = c.size

theorem Keep.nop {φ φ' : B → Option (Nat × Nat)} {wr wr' : Nat → Prop} {w w' : World} (h : Keep φ wr w φ' wr' w') (ψ : Phi) : Keep pnone wr w ψ wr' w' :=
  ⟨fun _ _ h' => (by cases h'), h.wri, h.size, h.unch, h.shape⟩
theorem Keep.refl (φ : B → Option (Nat × Nat)) (wr : Nat → Prop) (w : World) : Keep φ wr w φ wr w :=
  ⟨fun _ _ h => h, fun _ _ h => h, Nat.le_refl _, fun _ _ _ => rfl, fun _ c _ fz h => ⟨c, fz, h, rfl⟩⟩
theorem Keep.trans {φ φ' φ'' : B → Option (Nat × Nat)} {wr wr' wr'' : Nat → Prop} {w w' w'' : World} (h : Keep φ wr w φ' wr' w') (k : Keep φ' wr' w' φ'' wr'' w'') : Keep φ wr w φ'' wr'' w'' :=
  ⟨fun p x hx => k.phi p x (h.phi p x hx), fun g hg hw => h.wri g hg (k.wri g (Nat.lt_of_lt_of_le hg h.size) hw), Nat.le_trans h.size k.size,
   fun g hg hw => (k.unch g (Nat.lt_of_lt_of_le hg h.size) (fun hn => hw (h.wri _ hg hn))).trans (h.unch g hg hw),
   fun g c ty fz hc => by
     obtain ⟨c1, f1, h1, e1⟩ := h.shape g c ty fz hc
     obtain ⟨c2, f2, h2, e2⟩ := k.shape g c1 ty f1 h1
     exact ⟨c2, f2, h2, e2.trans e1⟩⟩

theorem cell_of_block {w w' : World} {a : Addr} (h : w'.heap[a.block]? = w.heap[a.block]?) : w'.cell? a = w.cell? a := by
  unfold World.cell?
  rw [h]

section
variable {wr wr' : Nat → Prop} {w w' : World}
mutual
theorem AR.keep {φ φ' : Phi} (h : Keep φ wr w φ' wr' w') : ∀ (x : AV) (v : Value), AR φ wr w x v → AR φ' wr' w' x v
  | .u, _, _ => by simp only [AR]
  | .b x, v, hv => by simpa only [AR] using hv
  | .i k n, v, hv => by simpa only [AR] using hv
  | .s x, v, hv => by simpa only [AR] using hv
  | .np, v, hv => by simpa only [AR] using hv
  | .nm, v, hv => by simpa only [AR] using hv
  | .nf, v, hv => by simpa only [AR] using hv
  | .ni, v, hv => by simpa only [AR] using hv
  | .ifc t x, v, hv => by
    simp only [AR] at hv ⊢
    obtain ⟨u, h1, h2⟩ := hv
    exact ⟨u, h1, AR.keep h x u h2⟩
  | .yl b, v, hv => by
    simp only [AR] at hv ⊢
    obtain ⟨g, sz, h1, h2⟩ := hv
    exact ⟨g, sz, h.phi _ _ h1, h2⟩
  | .e0, v, hv => by simpa only [AR] using hv
  | .ref b o, v, hv => by
    simp only [AR] at hv ⊢
    obtain ⟨g, sz, h1, h2⟩ := hv
    exact ⟨g, sz, h.phi _ _ h1, h2⟩
  | .el b i o, v, hv => by
    simp only [AR] at hv ⊢
    obtain ⟨g, sz, h1, h2⟩ := hv
    exact ⟨g, sz, h.phi _ _ h1, h2⟩
  | .im cs o, v, hv => by
    simp only [AR] at hv ⊢
    obtain ⟨a, h1, h2, h3, h4, h5⟩ := hv
    exact ⟨a, h1, h2, fun hn => h3 (h.wri _ h4 hn), Nat.lt_of_lt_of_le h4 h.size, ARc.keep (h.nop pnone) cs a 0 h3 h4 h5⟩
  | .ls sz xs, v, hv => by
    simp only [AR] at hv ⊢
    obtain ⟨A, cap, h1, h2, h3, h4⟩ := hv
    refine ⟨A, cap, h1, h2, h3, fun hn => ?_⟩
    obtain ⟨a, h5, h6, h7, h8, h9⟩ := h4 hn
    exact ⟨a, h5, h6, fun hn => h7 (h.wri _ h8 hn), Nat.lt_of_lt_of_le h8 h.size, ARr.keep (h.nop pnone) xs a sz 0 h7 h8 h9⟩
  | .sl b lo n, v, hv => by
    simp only [AR] at hv ⊢
    obtain ⟨g, sz, cap, c0, ty, fz, h1, h2, h3, h4, h5, h6⟩ := hv
    obtain ⟨c', fz', h7, h8⟩ := h.shape _ _ _ _ h3
    exact ⟨g, sz, cap, c', ty, fz', h.phi _ _ h1, h2, h7, by rw [h8]; exact h4, h5, h6⟩
  | .mp b, v, hv => by
    simp only [AR] at hv ⊢
    obtain ⟨g, sz, h1, h2⟩ := hv
    exact ⟨g, sz, h.phi _ _ h1, h2⟩
  | .fn f cs, v, hv => by
    simp only [AR] at hv ⊢
    obtain ⟨vs, h1, h2⟩ := hv
    exact ⟨vs, h1, ARl.keep h cs vs h2⟩
  | .ag cs, v, hv => by
    simp only [AR] at hv ⊢
    obtain ⟨vs, h1, h2⟩ := hv
    exact ⟨vs, h1, ARl.keep h cs vs h2⟩
  | .tu cs, v, hv => by
    simp only [AR] at hv ⊢
    obtain ⟨vs, h1, h2⟩ := hv
    exact ⟨vs, h1, ARl.keep h cs vs h2⟩
theorem ARc.keep {φ φ' : Phi} (h : Keep φ wr w φ' wr' w') : ∀ (cs : List AV) (a : Addr) (j : Nat), ¬ wr a.block → a.block < w.heap.size → ARc φ wr w a j cs → ARc φ' wr' w' a j cs
  | [], a, j, _, _, _ => by simp only [ARc]
  | c :: cs, a, j, h1, h2, hc => by
    simp only [ARc] at hc ⊢
    obtain ⟨⟨h0, u, h3, h4⟩, h5⟩ := hc
    refine ⟨⟨h0, u, ?_, AR.keep h c u h4⟩, ARc.keep h cs a (j + 1) h1 h2 h5⟩
    exact (h.unch (a.add j) (by rw [add_block]; exact h2) (by rw [add_block]; exact h1)).trans h3
theorem ARl.keep {φ φ' : Phi} (h : Keep φ wr w φ' wr' w') : ∀ (cs : List AV) (vs : List Value), ARl φ wr w cs vs → ARl φ' wr' w' cs vs
  | [], vs, hc => by simpa only [ARl] using hc
  | c :: cs, vs, hc => by
    simp only [ARl] at hc ⊢
    obtain ⟨v, vs', h1, h2, h3⟩ := hc
    exact ⟨v, vs', h1, AR.keep h c v h2, ARl.keep h cs vs' h3⟩
theorem ARr.keep {φ φ' : Phi} (h : Keep φ wr w φ' wr' w') : ∀ (rs : List (List AV)) (a : Addr) (sz i : Nat), ¬ wr a.block → a.block < w.heap.size → ARr φ wr w a sz i rs → ARr φ' wr' w' a sz i rs
  | [], a, sz, i, _, _, _ => by simp only [ARr]
  | r :: rs, a, sz, i, h1, h2, hc => by
    simp only [ARr] at hc ⊢
    obtain ⟨h3, h4, h5⟩ := hc
    exact ⟨h3, ARc.keep h r (a.add (i * sz)) 0 (by rw [add_block]; exact h1) (by rw [add_block]; exact h2) h4, ARr.keep h rs a sz (i + 1) h1 h2 h5⟩
end
end

/-! ### lists of cells, by places -/
section
variable {φ : B → Option (Nat × Nat)} {wr : Nat → Prop} {w : World}
theorem ARc.get : ∀ {cs : List AV} {a : Addr} {j : Nat}, ARc φ wr w a j cs → ∀ (k : Nat) (c : AV), cs[k]? = some c → ∃ u, w.cell? (a.add (j + k)) = some u ∧ AR φ wr w c u
  | [], a, j, _, k, c, hk => by simp at hk
  | d :: cs, a, j, h, 0, c, hk => by
    simp only [ARc] at h
    simp only [List.getElem?_cons_zero, Option.some.injEq] at hk
    subst hk
    exact h.1.2
  | d :: cs, a, j, h, k + 1, c, hk => by
    simp only [ARc] at h
    simp only [List.getElem?_cons_succ] at hk
    have := ARc.get h.2 k c hk
    rwa [show j + 1 + k = j + (k + 1) by omega] at this
theorem ARc.ones : ∀ {cs : List AV} {a : Addr} {j : Nat}, ARc φ wr w a j cs → ∀ c ∈ cs, c.one = true
  | [], a, j, _, c, hc => by cases hc
  | d :: cs, a, j, h, c, hc => by
    simp only [ARc] at h
    cases hc with
    | head => exact h.1.1
    | tail _ hc => exact ARc.ones h.2 c hc
theorem ARc.mk : ∀ {cs : List AV} {a : Addr} {j : Nat}, (∀ c ∈ cs, c.one = true) → (∀ (k : Nat) (c : AV), cs[k]? = some c → ∃ u, w.cell? (a.add (j + k)) = some u ∧ AR φ wr w c u) → ARc φ wr w a j cs
  | [], a, j, _, _ => by simp only [ARc]
  | d :: cs, a, j, h1, h => by
    simp only [ARc]
    refine ⟨⟨h1 d (by simp), h 0 d rfl⟩, ARc.mk (fun c hc => h1 c (by simp [hc])) fun k c hk => ?_⟩
    have := h (k + 1) c (by simpa using hk)
    rwa [show j + (k + 1) = j + 1 + k by omega] at this
theorem ARc.drop {cs : List AV} {a : Addr} {j : Nat} (h : ARc φ wr w a j cs) (k : Nat) : ARc φ wr w a (j + k) (cs.drop k) :=
  ARc.mk (fun c hc => h.ones c (List.mem_of_mem_drop hc)) fun m c hm => by
    rw [List.getElem?_drop] at hm
    have := h.get (k + m) c hm
    rwa [← Nat.add_assoc] at this
theorem ARc.take {cs : List AV} {a : Addr} {j : Nat} (h : ARc φ wr w a j cs) (k : Nat) : ARc φ wr w a j (cs.take k) :=
  ARc.mk (fun c hc => h.ones c (List.mem_of_mem_take hc)) fun m c hm => by
    rw [List.getElem?_take] at hm
    split at hm
    · exact h.get m c hm
    · cases hm
theorem ARl.length : ∀ {cs : List AV} {vs : List Value}, ARl φ wr w cs vs → vs.length = cs.length
  | [], vs, h => by simp only [ARl] at h; subst h; rfl
  | c :: cs, vs, h => by
    simp only [ARl] at h
    obtain ⟨v, vs', rfl, _, h2⟩ := h
    simp [ARl.length h2]
theorem ARl.get : ∀ {cs : List AV} {vs : List Value}, ARl φ wr w cs vs → ∀ (k : Nat) (c : AV), cs[k]? = some c → ∃ v, vs[k]? = some v ∧ AR φ wr w c v
  | [], vs, h, k, c, hk => by simp at hk
  | d :: cs, vs, h, 0, c, hk => by
    simp only [ARl] at h
    obtain ⟨v, vs', rfl, h1, _⟩ := h
    simp only [List.getElem?_cons_zero, Option.some.injEq] at hk
    subst hk
    exact ⟨v, rfl, h1⟩
  | d :: cs, vs, h, k + 1, c, hk => by
    simp only [ARl] at h
    obtain ⟨v, vs', rfl, _, h2⟩ := h
    simp only [List.getElem?_cons_succ] at hk ⊢
    exact ARl.get h2 k c hk
theorem ARl.mk : ∀ {cs : List AV} {vs : List Value}, vs.length = cs.length → (∀ (k : Nat) (c : AV) (v : Value), cs[k]? = some c → vs[k]? = some v → AR φ wr w c v) → ARl φ wr w cs vs
  | [], vs, hl, _ => by simp only [ARl]; exact List.eq_nil_of_length_eq_zero hl
  | c :: cs, [], hl, _ => by simp at hl
  | c :: cs, v :: vs, hl, h => by
    simp only [ARl]
    exact ⟨v, vs, rfl, h 0 c v rfl rfl, ARl.mk (by simpa using hl) fun k c' v' hc hv => h (k + 1) c' v' (by simpa using hc) (by simpa using hv)⟩
theorem ARl.drop {cs : List AV} {vs : List Value} (h : ARl φ wr w cs vs) (k : Nat) : ARl φ wr w (cs.drop k) (vs.drop k) :=
  ARl.mk (by simp [h.length]) fun m c v hc hv => by
    rw [List.getElem?_drop] at hc hv
    obtain ⟨v', h1, h2⟩ := h.get _ _ hc
    rw [h1] at hv
    injection hv with hv
    exact hv ▸ h2
theorem ARl.take {cs : List AV} {vs : List Value} (h : ARl φ wr w cs vs) (k : Nat) : ARl φ wr w (cs.take k) (vs.take k) :=
  ARl.mk (by simp [h.length]) fun m c v hc hv => by
    rw [List.getElem?_take] at hc hv
    split at hc
    · rename_i hlt
      rw [if_pos hlt] at hv
      obtain ⟨v', h1, h2⟩ := h.get _ _ hc
      rw [h1] at hv
      injection hv with hv
      exact hv ▸ h2
    · cases hc
theorem ARl.append {cs ds : List AV} {vs us : List Value} (h : ARl φ wr w cs vs) (k : ARl φ wr w ds us) : ARl φ wr w (cs ++ ds) (vs ++ us) :=
  ARl.mk (by simp [h.length, k.length]) fun m c v hc hv => by
    rw [List.getElem?_append] at hc hv
    rw [h.length] at hv
    split at hc
    · rename_i hlt
      rw [if_pos hlt] at hv
      obtain ⟨v', h1, h2⟩ := h.get _ _ hc
      rw [h1] at hv
      injection hv with hv
      exact hv ▸ h2
    · rename_i hlt
      rw [if_neg hlt] at hv
      obtain ⟨v', h1, h2⟩ := k.get _ _ hc
      rw [h1] at hv
      injection hv with hv
      exact hv ▸ h2
/-- Cells in memory as a list of values. -/
theorem ARc.list : ∀ {cs : List AV} {a : Addr} {j : Nat}, ARc φ wr w a j cs → ∃ vs, ARl φ wr w cs vs ∧ ∀ (k : Nat) (v : Value), vs[k]? = some v → w.cell? (a.add (j + k)) = some v
  | [], a, j, _ => ⟨[], by simp only [ARl], fun k v h => by simp at h⟩
  | c :: cs, a, j, h => by
    simp only [ARc] at h
    obtain ⟨⟨_, u, h1, h2⟩, h3⟩ := h
    obtain ⟨vs, h4, h5⟩ := ARc.list h3
    refine ⟨u :: vs, by simp only [ARl]; exact ⟨u, vs, rfl, h2, h4⟩, fun k v hk => ?_⟩
    cases k with
    | zero => simp only [List.getElem?_cons_zero, Option.some.injEq] at hk; subst hk; exact h1
    | succ k =>
      have := h5 k v (by simpa using hk)
      rwa [show j + 1 + k = j + (k + 1) by omega] at this
theorem ARr.get : ∀ {rs : List (List AV)} {a : Addr} {sz i : Nat}, ARr φ wr w a sz i rs → ∀ (k : Nat) (r : List AV), rs[k]? = some r → r.length = sz ∧ ARc φ wr w (a.add ((i + k) * sz)) 0 r
  | [], a, sz, i, _, k, r, hk => by simp at hk
  | d :: rs, a, sz, i, h, 0, r, hk => by
    simp only [ARr] at h
    simp only [List.getElem?_cons_zero, Option.some.injEq] at hk
    subst hk
    exact ⟨h.1, h.2.1⟩
  | d :: rs, a, sz, i, h, k + 1, r, hk => by
    simp only [ARr] at h
    simp only [List.getElem?_cons_succ] at hk
    have := ARr.get h.2.2 k r hk
    rwa [show i + 1 + k = i + (k + 1) by omega] at this
theorem ARr.mk : ∀ {rs : List (List AV)} {a : Addr} {sz i : Nat}, (∀ (k : Nat) (r : List AV), rs[k]? = some r → r.length = sz ∧ ARc φ wr w (a.add ((i + k) * sz)) 0 r) → ARr φ wr w a sz i rs
  | [], a, sz, i, _ => by simp only [ARr]
  | d :: rs, a, sz, i, h => by
    simp only [ARr]
    have h0 := h 0 d rfl
    refine ⟨h0.1, h0.2, ARr.mk fun k r hk => ?_⟩
    have := h (k + 1) r (by simpa using hk)
    rwa [show i + (k + 1) = i + 1 + k by omega] at this

/-- What leads nowhere stands for the same under any telling. -/
theorem AR.up {x : AV} {v : Value} (h : AR pnone wr w x v) (ψ : Phi) : AR ψ wr w x v := AR.keep ((Keep.refl pnone wr w).nop ψ) x v h
theorem ARl.up {x : List AV} {v : List Value} (h : ARl pnone wr w x v) (ψ : Phi) : ARl ψ wr w x v := ARl.keep ((Keep.refl pnone wr w).nop ψ) x v h
theorem AR.down {x : AV} {v : Value} (h : AR φ wr w x v) (hp : x.pure = true) : AR pnone wr w x v := by
  cases x <;> simp only [AV.pure, Bool.false_eq_true] at hp <;> simp only [AR] at h ⊢ <;> try exact h
  rename_i f cs
  have : cs = [] := List.isEmpty_iff.1 hp
  subst this
  obtain ⟨vs, h1, h2⟩ := h
  refine ⟨vs, h1, ?_⟩
  simp only [ARl] at h2 ⊢
  exact h2
theorem ARl.down : ∀ {xs : List AV} {vs : List Value}, ARl φ wr w xs vs → (∀ c ∈ xs, c.pure = true) → ARl pnone wr w xs vs
  | [], vs, h, _ => by simp only [ARl] at h ⊢; exact h
  | x :: xs, vs, h, hp => by
    simp only [ARl] at h ⊢
    obtain ⟨v, vs', h1, h2, h3⟩ := h
    exact ⟨v, vs', h1, h2.down (hp x (by simp)), ARl.down h3 fun c hc => hp c (by simp [hc])⟩
def pof (pur : Bool) (φ : Phi) : Phi := if pur then pnone else φ
theorem AR.of_pof {pur : Bool} {x : AV} {v : Value} (h : AR (pof pur φ) wr w x v) : AR φ wr w x v := by
  cases pur
  · exact h
  · exact AR.up h φ
theorem AR.pof_and {p q : Bool} {x : AV} {v : Value} (h : AR (pof p φ) wr w x v) : AR (pof (p && q) φ) wr w x v := by
  cases p <;> cases q
  · exact h
  · exact h
  · exact h.of_pof
  · exact h
theorem AR.pof_and' {p q : Bool} {x : AV} {v : Value} (h : AR (pof q φ) wr w x v) : AR (pof (p && q) φ) wr w x v := by
  rw [Bool.and_comm]; exact h.pof_and
theorem Keep.pof {φ φ' : Phi} {wr wr' : Nat → Prop} {w w' : World} (h : Keep φ wr w φ' wr' w') (pur : Bool) : Keep (pof pur φ) wr w (pof pur φ') wr' w' := by
  cases pur
  · exact h
  · exact h.nop pnone
end
end Go.Za
