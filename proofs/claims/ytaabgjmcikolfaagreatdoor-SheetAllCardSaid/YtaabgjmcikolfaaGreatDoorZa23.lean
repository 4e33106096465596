/- The abstract machine, part 23: a runner with fuel, and that what it says is so. No condition. -/
import Derived.Test.YtaabgjmcikolfaaGreatDoorZa22
set_option linter.unusedVariables false
set_option linter.unusedSimpArgs false
namespace Go.Za
open Go.RowKit

/-! ### equality of abstract values -/
mutual
def AV.eqb : AV → AV → Bool
  | .b x, .b y => x == y
  | .i k n, .i j m => decide (k = j) && decide (n = m)
  | .s x, .s y => decide (x = y)
  | .np, .np => true
  | .nm, .nm => true
  | .nf, .nf => true
  | .e0, .e0 => true
  | .ref b o, .ref c q => b.eqb c && Nat.beq o q
  | .el b i o, .el c j q => b.eqb c && Nat.beq i j && Nat.beq o q
  | .sl b i o, .sl c j q => b.eqb c && Nat.beq i j && Nat.beq o q
  | .mp b, .mp c => b.eqb c
  | .yl b, .yl c => b.eqb c
  | .ni, .ni => true
  | .ifc t x, .ifc u y => Nat.beq t u && x.eqb y
  | .fn f cs, .fn g ds => Nat.beq f g && eqbL cs ds
  | .ag cs, .ag ds => eqbL cs ds
  | .tu cs, .tu ds => eqbL cs ds
  | _, _ => false
def eqbL : List AV → List AV → Bool
  | [], [] => true
  | x :: xs, y :: ys => match x.eqb y with
    | true => eqbL xs ys
    | false => false
  | _, _ => false
end
mutual
theorem AV.eqb_ok : ∀ {x y : AV}, x.eqb y = true → x = y
  | .b x, y, h => by cases y <;> simp [AV.eqb] at h; rw [h]
  | .i k n, y, h => by cases y <;> simp [AV.eqb] at h; rw [h.1, h.2]
  | .s x, y, h => by cases y <;> simp [AV.eqb] at h; rw [h]
  | .np, y, h => by cases y <;> simp [AV.eqb] at h; rfl
  | .nm, y, h => by cases y <;> simp [AV.eqb] at h; rfl
  | .nf, y, h => by cases y <;> simp [AV.eqb] at h; rfl
  | .e0, y, h => by cases y <;> simp [AV.eqb] at h; rfl
  | .ref b o, y, h => by cases y <;> simp [AV.eqb, B.eqb_iff] at h; rw [h.1, h.2]
  | .el b i o, y, h => by cases y <;> simp [AV.eqb, B.eqb_iff] at h; rw [h.1.1, h.1.2, h.2]
  | .sl b i o, y, h => by cases y <;> simp [AV.eqb, B.eqb_iff] at h; rw [h.1.1, h.1.2, h.2]
  | .mp b, y, h => by cases y <;> simp [AV.eqb, B.eqb_iff] at h; rw [h]
  | .yl b, y, h => by cases y <;> simp [AV.eqb, B.eqb_iff] at h; rw [h]
  | .ni, y, h => by cases y <;> simp [AV.eqb] at h; rfl
  | .ifc t x, y, h => by cases y <;> simp [AV.eqb] at h; rw [h.1, AV.eqb_ok h.2]
  | .fn f cs, y, h => by cases y <;> simp [AV.eqb] at h; rw [h.1, eqbL_ok h.2]
  | .ag cs, y, h => by cases y <;> simp [AV.eqb] at h; rw [eqbL_ok h]
  | .tu cs, y, h => by cases y <;> simp [AV.eqb] at h; rw [eqbL_ok h]
  | .u, y, h => by cases y <;> simp [AV.eqb] at h
  | .im _ _, y, h => by cases y <;> simp [AV.eqb] at h
  | .ls _ _, y, h => by cases y <;> simp [AV.eqb] at h
theorem eqbL_ok : ∀ {xs ys : List AV}, eqbL xs ys = true → xs = ys
  | [], [], _ => rfl
  | [], _ :: _, h => by simp [eqbL] at h
  | _ :: _, [], h => by simp [eqbL] at h
  | x :: xs, y :: ys, h => by
    simp only [eqbL] at h
    split at h
    · rename_i h1
      rw [AV.eqb_ok h1, eqbL_ok h]
    · cases h
end
def eqbR : List (List AV) → List (List AV) → Bool
  | [], [] => true
  | x :: xs, y :: ys => match eqbL x y with
    | true => eqbR xs ys
    | false => false
  | _, _ => false
theorem eqbR_ok : ∀ {xs ys : List (List AV)}, eqbR xs ys = true → xs = ys
  | [], [], _ => rfl
  | [], _ :: _, h => by simp [eqbR] at h
  | _ :: _, [], h => by simp [eqbR] at h
  | x :: xs, y :: ys, h => by
    simp only [eqbR] at h
    split at h
    · rename_i h1
      rw [eqbL_ok h1, eqbR_ok h]
    · cases h
def eqbE : List (AV × AV × Nat) → List (AV × AV × Nat) → Bool
  | [], [] => true
  | (k, v, n) :: xs, (j, v2, m) :: ys => match k.eqb j && v.eqb v2 && Nat.beq n m with
    | true => eqbE xs ys
    | false => false
  | _, _ => false
theorem eqbE_ok : ∀ {xs ys : List (AV × AV × Nat)}, eqbE xs ys = true → xs = ys
  | [], [], _ => rfl
  | [], _ :: _, h => by simp [eqbE] at h
  | _ :: _, [], h => by simp [eqbE] at h
  | (k, v, n) :: xs, (j, v2, m) :: ys, h => by
    simp only [eqbE] at h
    split at h
    · rename_i h1
      simp only [Bool.and_eq_true] at h1
      rw [AV.eqb_ok h1.1.1, AV.eqb_ok h1.1.2, Nat.eq_of_beq_eq_true h1.2, eqbE_ok h]
    · cases h
def eqbN : List Nat → List Nat → Bool
  | [], [] => true
  | x :: xs, y :: ys => match Nat.beq x y with
    | true => eqbN xs ys
    | false => false
  | _, _ => false
theorem eqbN_ok : ∀ {xs ys : List Nat}, eqbN xs ys = true → xs = ys
  | [], [], _ => rfl
  | [], _ :: _, h => by simp [eqbN] at h
  | _ :: _, [], h => by simp [eqbN] at h
  | x :: xs, y :: ys, h => by
    simp only [eqbN] at h
    split at h
    · rename_i h1
      rw [Nat.eq_of_beq_eq_true h1, eqbN_ok h]
    · cases h
def eqbU : List UInt8 → List UInt8 → Bool
  | [], [] => true
  | x :: xs, y :: ys => match Nat.beq x.toNat y.toNat with
    | true => eqbU xs ys
    | false => false
  | _, _ => false
theorem eqbU_ok : ∀ {xs ys : List UInt8}, eqbU xs ys = true → xs = ys
  | [], [], _ => rfl
  | [], _ :: _, h => by simp [eqbU] at h
  | _ :: _, [], h => by simp [eqbU] at h
  | x :: xs, y :: ys, h => by
    simp only [eqbU] at h
    split at h
    · rename_i h1
      rw [UInt8.toNat_inj.1 (Nat.eq_of_beq_eq_true h1), eqbU_ok h]
    · cases h
def eqbO : Option B → Option B → Bool
  | none, none => true
  | some b, some c => b.eqb c
  | _, _ => false
theorem eqbO_ok {x y : Option B} (h : eqbO x y = true) : x = y := by
  cases x <;> cases y <;> simp [eqbO, B.eqb_iff] at h
  · rfl
  · rw [h]
def Blk.eqb : Blk → Blk → Bool
  | .box t cs, .box u ds => Nat.beq t u && eqbL cs ds
  | .rows s l p xs, .rows t l' p' ys => Nat.beq s t && l == l' && p == p' && eqbR xs ys
  | .map es c, .map fs d => Nat.beq c d && eqbE es fs
  | .dead, .dead => true
  | .iter mo s l t, .iter mo' s' l' t' => eqbO mo mo' && Nat.beq s s' && eqbN l l' && Nat.beq t t'
  | .bts t l, .bts u k => Nat.beq t u && eqbU l k
  | .dfr, .dfr => true
  | _, _ => false
theorem Blk.eqb_ok {j k : Blk} (h : j.eqb k = true) : j = k := by
  cases j <;> cases k <;> simp only [Blk.eqb, Bool.false_eq_true, Bool.and_eq_true, beq_iff_eq] at h
  · rw [Nat.eq_of_beq_eq_true h.1, eqbL_ok h.2]
  · rw [Nat.eq_of_beq_eq_true h.1.1.1, h.1.1.2, h.1.2, eqbR_ok h.2]
  · rw [Nat.eq_of_beq_eq_true h.1, eqbE_ok h.2]
  · rfl
  · rw [eqbO_ok h.1.1.1, Nat.eq_of_beq_eq_true h.1.1.2, eqbN_ok h.1.2, Nat.eq_of_beq_eq_true h.2]
  · rw [Nat.eq_of_beq_eq_true h.1, eqbU_ok h.2]
  · rfl

/-! ### what is reached -/
mutual
def AV.nms : AV → List B → List B
  | .ref b _, l | .el b _ _, l | .sl b _ _, l | .mp b, l | .yl b, l => b :: l
  | .ifc _ x, l => x.nms l
  | .fn _ cs, l | .ag cs, l | .tu cs, l => nmsL cs l
  | _, l => l
def nmsL : List AV → List B → List B
  | [], l => l
  | x :: xs, l => x.nms (nmsL xs l)
end
def nmsR : List (List AV) → List B → List B
  | [], l => l
  | x :: xs, l => nmsL x (nmsR xs l)
def nmsE : List (AV × AV × Nat) → List B → List B
  | [], l => l
  | (k, v, _) :: xs, l => k.nms (v.nms (nmsE xs l))
def nmsT : Tr AV → List B → List B
  | .e, l => l
  | .n a v b, l => nmsT a (match v with | some x => x.nms (nmsT b l) | none => nmsT b l)
def Blk.nms : Blk → List B → List B
  | .box _ cs, l => nmsL cs l
  | .iter (some m) _ _ _, l => m :: l
  | .iter none _ _ _, l => l
  | .bts _ _, l => l
  | .dfr, l => l
  | .lp _ _ _ _ _ _ fr, l => nmsT fr l
  | .rows _ _ p xs, l => match p with | true => l | false => nmsR xs l
  | .map es _, l => nmsE es l
  | .dead, l => l
/-- The blocks that some lead to. -/
def reach (m : Tr Blk) (n : Nat) : List B → List B → Option (List B) :=
  Nat.rec (fun _ _ => none) (fun _ ih todo D => match todo with
    | [] => some D
    | b :: bs => match bmem b D with
      | true => ih bs D
      | false => match m.get b with
        | some k => ih (k.nms bs) (b :: D)
        | none => none) n

/-! ### what is other behind -/
def dv (v v' : Option Blk) : Option Blk :=
  match v' with
  | none => none
  | some k' => match v with
    | none => some k'
    | some k => match k.eqb k' with
      | true => none
      | false => some k'
def diffT : Tr Blk → Tr Blk → Tr Blk
  | .e, t => t
  | .n _ _ _, .e => .e
  | .n l v r, .n l' v' r' => .n (diffT l l') (dv v v') (diffT r r')
theorem diffT_get : ∀ (t t' : Tr Blk) (p : B), (diffT t t').get p = dv (t.get p) (t'.get p)
  | .e, t, p => by rw [diffT, Tr.get_e]; cases t.get p <;> rfl
  | .n l v r, .e, p => by rw [diffT, Tr.get_e]; rfl
  | .n l v r, .n l' v' r', .e => rfl
  | .n l v r, .n l' v' r', .l p => by simp only [diffT, Tr.get]; exact diffT_get l l' p
  | .n l v r, .n l' v' r', .r p => by simp only [diffT, Tr.get]; exact diffT_get r r' p
theorem over_diff (t t' : Tr Blk) (p : B) (h : t'.get p = none → t.get p = none) : t'.get p = (t.over (diffT t t')).get p := by
  rw [Tr.get_over, diffT_get]
  cases h' : t'.get p with
  | none => simp only [dv]; exact (h h').symm
  | some k' => cases ht : t.get p with
    | none => simp only [dv]
    | some k =>
      simp only [dv]
      cases he : k.eqb k' with
      | true => simp only [Blk.eqb_ok he]
      | false => rfl
def domAll (D : List B) (lo : Nat) : Tr Blk → (B → B) → Bool
  | .e, _ => true
  | .n l v r, c => (match v with
    | none => true
    | some _ => match Nat.ble lo (c .e).toNat with | true => true | false => bmem (c .e) D) && domAll D lo l (fun p => c (.l p)) && domAll D lo r (fun p => c (.r p))
theorem domAll_ok {D : List B} {lo : Nat} : ∀ {t : Tr Blk} {c : B → B}, domAll D lo t c = true → ∀ p k, t.get p = some k → c p ∈ D ∨ lo ≤ (c p).toNat
  | .e, c, _, p, k, hk => by rw [Tr.get_e] at hk; cases hk
  | .n l v r, c, h, .e, k, hk => by
    simp only [domAll, Bool.and_eq_true] at h
    simp only [Tr.get] at hk
    subst hk
    have h1 := h.1.1
    simp only at h1
    split at h1
    · rename_i h2; exact .inr (Nat.le_of_ble_eq_true h2)
    · exact .inl (bmem_iff.1 h1)
  | .n l v r, c, h, .l p, k, hk => by
    simp only [domAll, Bool.and_eq_true] at h
    exact domAll_ok (c := fun p => c (.l p)) h.1.2 p k hk
  | .n l v r, c, h, .r p, k, hk => by
    simp only [domAll, Bool.and_eq_true] at h
    exact domAll_ok (c := fun p => c (.r p)) h.2 p k hk

/-! ### are two apart? -/
def NoTB (b : B) : EffX → Bool
  | .eff _ .no => true
  | .eff nb (.new _) => !(nb.eqb b)
  | .eff _ (.wr c _ _ _) => !(c.eqb b)
  | .eff _ (.put c _) => !(c.eqb b)
  | .eff nb (.mov c _) => !(nb.eqb b) && !(c.eqb b)
  | .sl bs => !(bmem b bs)
  | .over m0 => match m0.get b with | none => true | some _ => false
theorem eqb_ne {p q : B} (h : (!(p.eqb q)) = true) : p ≠ q := by
  intro e
  rw [B.eqb_iff.2 e] at h
  cases h
theorem bmem_no {p : B} {l : List B} (h : (!(bmem p l)) = true) : p ∉ l := by
  intro e
  rw [bmem_iff.2 e] at h
  cases h
theorem noTB_ok {b : B} {x : EffX} (h : NoTB b x = true) : NoT b x := by
  cases x with
  | eff nb e =>
    cases e <;> simp only [NoTB] at h <;> simp only [NoT]
    · exact eqb_ne h
    · exact eqb_ne h
    · exact eqb_ne h
    · simp only [Bool.and_eq_true] at h; exact ⟨eqb_ne h.1, eqb_ne h.2⟩
  | sl bs => exact bmem_no h
  | over m0 =>
    simp only [NoTB] at h
    split at h
    · assumption
    · cases h
def Off1B (i o n i' o' n' : Nat) : Bool := !(Nat.beq i i') || Nat.beq n 0 || Nat.beq n' 0 || Nat.ble (o + n) o' || Nat.ble (o' + n') o
theorem off1B_ok {i o n i' o' n' : Nat} (h : Off1B i o n i' o' n' = true) : Off1 i o n i' o' n' := by
  simp only [Off1B, Bool.or_eq_true, Bool.not_eq_true'] at h
  unfold Off1
  rcases h with (((h | h) | h) | h) | h
  · left; intro e; subst e; simp at h
  · have := Nat.eq_of_beq_eq_true h; omega
  · have := Nat.eq_of_beq_eq_true h; omega
  · have := Nat.le_of_ble_eq_true h; omega
  · have := Nat.le_of_ble_eq_true h; omega
def OffB (x : EffX) : Fp → Bool
  | .blk b => NoTB b x
  | .at b i o n lv => match x with
    | .eff _ (.wr c i' o' cs) => match c.eqb b with | true => Off1B i o n i' o' cs.length | false => true
    | .sl bs => match lv with | true => !(bmem b bs) | false => true
    | x => NoTB b x
theorem offB_ok {x : EffX} {f : Fp} (h : OffB x f = true) : Off x f := by
  cases f with
  | blk b => exact noTB_ok h
  | «at» b i o n lv =>
    cases x with
    | eff nb e =>
      cases e <;> simp only [OffB] at h <;> simp only [Off] <;> try exact noTB_ok h
      rename_i c i' o' cs
      intro hc
      rw [B.eqb_iff.2 hc] at h
      exact off1B_ok h
    | sl bs =>
      simp only [OffB] at h
      simp only [Off]
      intro hl
      subst hl
      exact bmem_no h
    | over m0 => exact noTB_ok (b := b) (x := .over m0) h
def ApEB (x y : EffX) : Bool :=
  match x, y with
  | .eff _ (.wr b i o cs), .eff _ (.wr b' i' o' cs') => match b.eqb b' with | true => Off1B i o cs.length i' o' cs'.length | false => true
  | .eff _ .no, _ => true
  | _, .eff _ .no => true
  | .eff nb (.new _), y => NoTB nb y
  | .eff _ (.wr b _ _ _), y => NoTB b y
  | .eff _ (.put b _), y => NoTB b y
  | .eff nb (.mov b _), y => NoTB nb y && NoTB b y
  | .sl _, .sl _ => true
  | .sl bs, y => bs.all fun b => NoTB b y
  | x, .eff nb (.new _) => NoTB nb x
  | x, .eff _ (.wr b _ _ _) => NoTB b x
  | x, .eff _ (.put b _) => NoTB b x
  | x, .eff nb (.mov b _) => NoTB nb x && NoTB b x
  | x, .sl bs => bs.all fun b => NoTB b x
  | .over _, .over _ => false
theorem all_noT {bs : List B} {y : EffX} (h : (bs.all fun b => NoTB b y) = true) : ∀ b ∈ bs, NoT b y := fun b hb => noTB_ok (List.all_eq_true.1 h b hb)
theorem apEB_ok {x y : EffX} (h : ApEB x y = true) : ApE x y := by
  have w2 : ∀ {b b' : B} {i o n i' o' n' : Nat}, (match b.eqb b' with | true => Off1B i o n i' o' n' | false => true) = true → b = b' → Off1 i o n i' o' n' := by
    intro b b' i o n i' o' n' h e
    rw [B.eqb_iff.2 e] at h
    exact off1B_ok h
  have a2 : ∀ {b c : B} {z : EffX}, (NoTB b z && NoTB c z) = true → NoT b z ∧ NoT c z := by
    intro b c z h
    simp only [Bool.and_eq_true] at h
    exact ⟨noTB_ok h.1, noTB_ok h.2⟩
  rcases x with ⟨nb, _ | _ | _ | _ | _⟩ | bs | m0 <;> rcases y with ⟨nb', _ | _ | _ | _ | _⟩ | bs' | m0' <;> simp only [ApEB] at h <;> simp only [ApE] <;> first
    | exact noTB_ok h
    | exact a2 h
    | exact all_noT h
    | exact w2 h
    | (cases h; done)
def IndRB : Option Rec → Option Rec → Bool
  | some r, some q => (q.rd.all fun f => OffB r.ef f) && (r.rd.all fun f => OffB q.ef f) && ApEB r.ef q.ef
  | _, _ => true
theorem indRB_ok {r q : Option Rec} (h : IndRB r q = true) : IndR r q := by
  cases r with
  | none => trivial
  | some r => cases q with
    | none => trivial
    | some q =>
      simp only [IndRB, Bool.and_eq_true, List.all_eq_true] at h
      exact ⟨fun f hf => offB_ok (h.1.1 f hf), fun f hf => offB_ok (h.1.2 f hf), apEB_ok h.2⟩
def chkB (rs : List (Option Rec)) : List (Nat × Nat) → Bool
  | [] => true
  | (i, j) :: un => match rs[i]?, rs[j]? with
    | some r, some q => match IndRB r q with
      | true => chkB rs un
      | false => false
    | _, _ => false
theorem chkB_ok {rs : List (Option Rec)} : ∀ {un : List (Nat × Nat)}, chkB rs un = true → chk un rs
  | [], _ => trivial
  | (i, j) :: un, h => by
    simp only [chkB] at h
    split at h
    · rename_i r q hr hq
      split at h
      · rename_i hi
        simp only [chk, hr, hq]
        exact ⟨indRB_ok hi, chkB_ok h⟩
      · cases h
    · cases h

/-! ### the runner -/
structure FnT where
  ac : AC
  rvs : List RV
  np : Nat
abbrev YE := B → List AV → Hp → Option (AV × Hp)
def ye0 : YE := fun _ _ _ => none
abbrev CallF := Nat → List AV → Hp → Option (AV × Hp)
abbrev RunF := YE → Bool → AC → Tr AV → Hp → Option (Ex × Tr AV × Hp)
/-- No record of a range over a function comes of it. -/
def Blk.noLp : Blk → Bool
  | .lp _ _ _ _ _ _ _ => false
  | _ => true
def Eff.noLp : Eff → Bool
  | .put _ k | .mov _ k => k.noLp
  | _ => true
def evS (call : CallF) (ye : YE) : List Stm → Tr AV → Hp → Option (Tr AV × Hp)
  | [], fr, H => some (fr, H)
  | ⟨dst, gd, act⟩ :: ss, fr, H => match gdA fr gd with
    | some true => match act with
      | .op x => match aop fr H.m H.nx x with
        | some (v, e) => match e.noLp with
          | true => evS call ye ss (putA fr dst v) (H.app e)
          | false => none
        | none => none
      | .call _ x args => match x.ev fr with
        | .fn f cs => match call f (args.map (Opd.ev fr) ++ cs) H with
          | some (v, H') => evS call ye ss (putA fr dst v) H'
          | none => none
        | .yl b => match ye b (args.map (Opd.ev fr)) H with
          | some (v, H') => evS call ye ss (putA fr dst v) H'
          | none => none
        | _ => none
      | .nxt x => match x.ev fr with
        | .ref b 0 => match H.m.get b with
          | some (.iter none _ _ _) => evS call ye ss (putA fr dst (.tu [.b false])) H
          | some (.iter (some m) since seen stepped) => match H.m.get m with
            | some (.map es c) => match oldA es since stepped with
              | true => match candA es seen with
                | [none] => evS call ye ss (putA fr dst (.tu [.b false])) H
                | [some (k, v, n)] => evS call ye ss (putA fr dst (.tu [.b true, k, v])) (H.app (.put b (.iter (some m) since (seen ++ [n]) c)))
                | _ => none
              | false => none
            | _ => none
          | _ => none
        | _ => none
      | .ent x => match x.ev fr with
        | .ref b 0 => match H.m.get b with
          | some (.iter (some m) _ seen stepped) => match H.m.get m with
            | some (.map es c) => match Nat.beq c stepped with
              | true => match seen.getLast? with
                | some n => match es.find? (fun e => e.2.2 == n) with
                  | some (k, v, _) => evS call ye ss (putA fr dst (.tu [k, v])) H
                  | none => none
                | none => none
              | false => none
            | _ => none
          | _ => none
        | _ => none
    | some false => evS call ye ss (putA fr dst (.tu [])) H
    | none => none
/-- A call over a part of the heap, or of plain values. -/
def evC (call : CallF) (i : Bool) (f : Nat) (xs : List AV) (H : Hp) : Option Rec :=
  match i with
  | true => match reach H.m 100000 (nmsL xs []) [] with
    | some D => match closed H.m D && (rnmL (rD D) xs).isSome && D.all fun b => Nat.blt b.toNat H.nx.toNat with
      | true => match call f xs ⟨only H.m D, H.nx⟩ with
        | some (v, H') => match (D.all fun b => (H'.m.get b).isSome) && domAll D H.nx.toNat H'.m id && Nat.ble H.nx.toNat H'.nx.toNat with
          | true => some ⟨v, D.map .blk, .over (diffT (only H.m D) H'.m), H.nx, H'.nx⟩
          | false => none
        | none => none
      | false => none
    | none => none
  | false => match frzs H.m xs with
    | some (ys, bs) => match call f ys Hp.empty with
      | some (v, H') => match frzT H'.m v with
        | some v' => some ⟨v', bs.map .blk, .sl (if v'.flat then [] else bs), H.nx, H.nx⟩
        | none => none
      | none => none
    | none => none
def evR (call : CallF) : List Stm → Tr AV → Hp → List (Option Rec) → Option (Tr AV × Hp × List (Option Rec))
  | [], fr, H, acc => some (fr, H, acc)
  | ⟨dst, gd, act⟩ :: ss, fr, H, acc => match gdA fr gd with
    | some true => match act with
      | .op x => match aop fr H.m H.nx x with
        | some (v, e) => match e.noLp with
          | true => evR call ss (putA fr dst v) (H.app e) (some ⟨v, x.rds fr, .eff H.nx e, H.nx, (H.app e).nx⟩ :: acc)
          | false => none
        | none => none
      | .call i x args => match x.ev fr with
        | .fn f cs => match evC call i f (args.map (Opd.ev fr) ++ cs) H with
          | some r => evR call ss (putA fr dst r.v) ⟨r.ef.on H.m, r.hi⟩ (some r :: acc)
          | none => none
        | _ => none
      | _ => none
    | some false => evR call ss (putA fr dst (.tu [])) H (none :: acc)
    | none => none
def evCallY (T : Tr FnT) (run : RunF) (ye : YE) (f : Nat) (xs : List AV) (H : Hp) : Option (AV × Hp) :=
  match T.get (path f) with
  | none => none
  | some F => match Nat.ble xs.length F.np with
    | false => none
    | true => match run ye true F.ac (mkfr 0 xs .e) H with
      | none => none
      | some (e, fr, H') => match e with
        | .x _ => none
        | _ => match resA fr H'.m F.rvs with
          | some ys => some (resV ys, H')
          | none => none
def evCall (T : Tr FnT) (run : RunF) : CallF := evCallY T run ye0
/-- Is it such a record, in such a state? -/
def isLp (st : Bool) : Option Blk → Bool
  | some (.lp s pj _ _ _ _ _) => match pj with
    | none => match s with
      | .ready => st
      | .busy => !st
      | _ => false
    | some _ => false
  | _ => false
/-- What yield does. -/
def yeR (run : RunF) (b0 : B) (n : Nat) (ps : List Nat) (cas cbd : Code) (asg body : AC) (fr : Tr AV) : YE := fun b xs H => match b.eqb b0 && isLp true (H.m.get b0) && Nat.beq xs.length ps.length with
  | false => none
  | true => match run ye0 false asg (putPs fr ps xs) H with
    | some (.n, fr1, H1) => match isLp true (H1.m.get b0) with
      | false => none
      | true => match run ye0 false body fr1 (H1.app (.put b0 (.lp .busy none n ps.toArray cas cbd fr))) with
        | some (e, _, H2) => match isLp false (H2.m.get b0) with
          | false => none
          | true => some (.b (exBool e), H2.app (.put b0 (.lp (if exBool e then .ready else .done) (jumpC e) n ps.toArray cas cbd fr)))
        | none => none
    | _ => none
/-- The jump that a record bears when the function has ended. -/
def jumpE : Option Blk → Option Ex
  | some (.lp s pj _ _ _ _ _) => match s with
    | .ready => match pj with
      | none => some .n
      | some _ => none
    | .done => match pj with
      | some (.exit id) => some (.x id)
      | some .ret => some .r
      | _ => none
    | _ => none
  | _ => none
def evStep (T : Tr FnT) (run : RunF) : RunF := fun ye out ac fr H => match ac with
  | .skip => some (.n, fr, H)
  | .rg ss => match evS (evCall T run) ye ss fr H with
    | some (fr, H) => some (.n, fr, H)
    | none => none
  | .rd ss un => match evR (evCall T run) ss fr H [] with
    | some (fr, H, acc) => match chkB acc.reverse un with
      | true => some (.n, fr, H)
      | false => none
    | none => none
  | .seq a b => match run ye out a fr H with
    | some (.n, fr, H) => run ye out b fr H
    | r => r
  | .cond c t f => match c.ev fr with
    | .b x => match x with
      | true => run ye out t fr H
      | false => run ye out f fr H
    | _ => none
  | .block id b => match run ye out b fr H with
    | some (.x j, fr, H) => match Nat.beq j id with
      | true => some (.n, fr, H)
      | false => some (.x j, fr, H)
    | r => r
  | .loop b => match run ye out b fr H with
    | some (.n, fr, H) => run ye out (.loop b) fr H
    | r => r
  | .exit id => some (.x id, fr, H)
  | .ret => some (.r, fr, H)
  | .bad => none
  | .rngf fo n ps cas cbd asg body => match out with
    | false => none
    | true => match fo.ev fr with
      | .fn f cs => match evCallY T run (yeR run H.nx n ps cas cbd asg body fr) f (.yl H.nx :: cs) (entY H n ps cas cbd fr) with
        | some (_, H') => match jumpE (H'.m.get H.nx) with
          | some e => some (e, fr, H'.app (.put H.nx .dead))
          | none => none
        | none => none
      | _ => none
def ev (T : Tr FnT) (n : Nat) : RunF := Nat.rec (fun _ _ _ _ _ => none) (fun _ ih => evStep T ih) n
/-- A call of plain values: what it answers, as a plain value. -/
def runP (T : Tr FnT) (n : Nat) (f : Nat) (xs : List AV) : Option AV :=
  match evCall T (ev T n) f xs Hp.empty with
  | some (v, H') => frzT H'.m v
  | none => none

structure FnOK (P : Program) (f : Nat) (F : FnT) : Prop where
  ok : ∃ fn c hint, P.funcs[f]? = some fn ∧ fn.body = some c ∧ (fn.name == "runtime.NumGoroutine") = false ∧ fn.ntmps = F.np ∧ cc P F.np hint c = some F.ac ∧ cRes P fn.results.toList = some F.rvs
def TabOK (P : Program) (T : Tr FnT) : Prop := ∀ f F, T.get (path f) = some F → FnOK P f F

/-! ### records of ranges over functions -/
/-- The content of the old records is as it was. -/
def LpB (H H' : Hp) : Prop := H.nx.toNat ≤ H'.nx.toNat ∧ ∀ p : B, p.toNat < H.nx.toNat → ∀ st pj n ps a b fr, H'.m.get p = some (.lp st pj n ps a b fr) → ∃ st' pj', H.m.get p = some (.lp st' pj' n ps a b fr)
theorem LpB.refl (H : Hp) : LpB H H := ⟨Nat.le_refl _, fun _ _ st pj _ _ _ _ _ h => ⟨st, pj, h⟩⟩
theorem LpB.trans {H H' H'' : Hp} (h : LpB H H') (k : LpB H' H'') : LpB H H'' := ⟨Nat.le_trans h.1 k.1, fun p hp st pj n ps a b fr hx => by
  obtain ⟨st', pj', h1⟩ := k.2 p (Nat.lt_of_lt_of_le hp h.1) st pj n ps a b fr hx
  exact h.2 p hp st' pj' n ps a b fr h1⟩
theorem wr_lp {k : Blk} {i o : Nat} {cs : List AV} {st pj n ps a b fr} (h : k.wr i o cs = .lp st pj n ps a b fr) : k = .lp st pj n ps a b fr := by
  cases k <;> simp [Blk.wr] at h ⊢
  exact h
theorem app_le (H : Hp) (e : Eff) : H.nx.toNat ≤ (H.app e).nx.toNat := by
  rw [Hp.app_eq]
  simp only
  split
  · rw [B.toNat_succ]; omega
  · exact Nat.le_refl _
theorem LpB.app (H : Hp) {e : Eff} (he : e.noLp = true) : LpB H (H.app e) := by
  refine ⟨app_le H e, fun p hp st pj n ps a b fr hx => ?_⟩
  cases e with
  | no => exact ⟨st, pj, hx⟩
  | new k =>
    simp only [Hp.app, Tr.get_set] at hx
    rw [if_neg (fun e => by rw [← e] at hp; exact absurd hp (Nat.lt_irrefl _))] at hx
    exact ⟨st, pj, hx⟩
  | wr c i o cs =>
    simp only [Hp.app, wrM_get] at hx
    split at hx
    · simp only [Option.map_eq_some_iff] at hx
      obtain ⟨k, h1, h2⟩ := hx
      exact ⟨st, pj, by rw [h1, wr_lp h2]⟩
    · exact ⟨st, pj, hx⟩
  | put c k =>
    simp only [Hp.app, Tr.get_set] at hx
    split at hx
    · injection hx with hx
      subst hx
      cases he
    · exact ⟨st, pj, hx⟩
  | mov c k =>
    simp only [Hp.app, Tr.get_set] at hx
    rw [if_neg (fun e => by rw [← e] at hp; exact absurd hp (Nat.lt_irrefl _))] at hx
    split at hx
    · cases hx
    · exact ⟨st, pj, hx⟩
/-- The record itself turns. -/
theorem LpB.lpPut {H : Hp} {p : B} {st pj n ps a b fr st' pj'} (h : H.m.get p = some (.lp st pj n ps a b fr)) : LpB H (H.app (.put p (.lp st' pj' n ps a b fr))) := by
  refine ⟨Nat.le_refl _, fun q hq st2 pj2 n2 ps2 a2 b2 fr2 hx => ?_⟩
  simp only [Hp.app, Tr.get_set] at hx
  split at hx
  · rename_i e
    subst e
    injection hx with hx
    injection hx with h1 h2 h3 h4 h5 h6 h7
    subst h3; subst h4; subst h5; subst h6; subst h7
    exact ⟨st, pj, h⟩
  · exact ⟨st2, pj2, hx⟩
theorem seal_lp {k : Blk} {st pj n ps a b fr} (h : k.sealK = .lp st pj n ps a b fr) : k = .lp st pj n ps a b fr := by
  cases k <;> simp [Blk.sealK] at h ⊢
  exact h
theorem sealM_lp {p : B} {st pj n ps a b fr} : ∀ {bs : List B} {m : Tr Blk}, (sealM m bs).get p = some (.lp st pj n ps a b fr) → m.get p = some (.lp st pj n ps a b fr)
  | [], m, h => h
  | c :: bs, m, h => by
    have h1 := sealM_lp (bs := bs) (m := sealB m c) h
    unfold sealB at h1
    split at h1
    · rename_i k hk
      rw [Tr.get_set] at h1
      split at h1
      · rename_i e
        subst e
        injection h1 with h1
        rw [hk, seal_lp h1]
      · exact h1
    · exact h1
theorem only_lp {m : Tr Blk} {D : List B} {p : B} {k : Blk} (h : (only m D).get p = some k) : m.get p = some k := by
  rw [only_get] at h
  split at h
  · exact h
  · cases h

section
variable {P : Program}
def CallOK (P : Program) (call : CallF) : Prop := ∀ f xs H v H', call f xs H = some (v, H') → ICall P f xs H (fun v' H'' => v' = v ∧ H'' = H') ∧ LpB H H'
def YeOK (Y : YT) (I : Hp → Prop) (ye : YE) : Prop := ∀ b xs H v H', I H → ye b xs H = some (v, H') → LpB H H' ∧ ∀ R : AV → Hp → Prop, R v H' → Y b xs H R
def Stays (I : Hp → Prop) : Prop := ∀ H H', LpB H H' → I H → I H'
def RunOK (P : Program) (run : RunF) : Prop := ∀ (Y : YT) (I : Hp → Prop) (ye : YE), Stays I → YeOK Y I ye → ∀ out ac fr H e fr' H', I H → run ye out ac fr H = some (e, fr', H') → LpB H H' ∧ ∀ (lim : B) (K : Post), lim.toNat ≤ H.nx.toNat → K e fr' H' → AW P Y out lim ac K fr H
theorem ye0_ok : YeOK Y0 (fun _ => True) ye0 := fun _ _ _ _ _ _ h => by cases h
theorem evS_ok {call : CallF} (hc : CallOK P call) {Y : YT} {I : Hp → Prop} {ye : YE} (hI : Stays I) (hye : YeOK Y I ye) : ∀ {ss : List Stm} {fr : Tr AV} {H : Hp} {fr' : Tr AV} {H' : Hp}, I H → evS call ye ss fr H = some (fr', H') → LpB H H' ∧ ∀ K : Tr AV → Hp → Prop, K fr' H' → awT P Y ss fr H K
  | [], fr, H, fr', H', hi, h => by
    injection h with h
    injection h with h1 h2
    subst h1; subst h2
    exact ⟨LpB.refl _, fun K hk => hk⟩
  | ⟨dst, gd, act⟩ :: ss, fr, H, fr', H', hi, h => by
    unfold evS at h
    unfold awT
    split at h
    · rename_i hg
      simp only [hg]
      split at h
      · rename_i x
        split at h
        · rename_i v e hx
          simp only [hx]
          split at h
          · rename_i he
            have hl := LpB.app H he
            obtain ⟨q1, q2⟩ := evS_ok hc hI hye (hI _ _ hl hi) h
            exact ⟨hl.trans q1, q2⟩
          · cases h
        · cases h
      · rename_i i x args
        split at h
        · rename_i f cs hx
          split at h
          · rename_i v H1 hcall
            obtain ⟨p1, p2⟩ := hc _ _ _ _ _ hcall
            obtain ⟨q1, q2⟩ := evS_ok hc hI hye (hI _ _ p2 hi) h
            refine ⟨p2.trans q1, fun K hk => .inl ⟨f, cs, hx, p1.mono ?_⟩⟩
            rintro v' H'' ⟨rfl, rfl⟩
            exact q2 K hk
          · cases h
        · rename_i b hx
          split at h
          · rename_i v H1 hcall
            obtain ⟨p2, p1⟩ := hye _ _ _ _ _ hi hcall
            obtain ⟨q1, q2⟩ := evS_ok hc hI hye (hI _ _ p2 hi) h
            exact ⟨p2.trans q1, fun K hk => .inr (.inr ⟨b, hx, p1 _ (q2 K hk)⟩)⟩
          · cases h
        · cases h
      · rename_i x
        split at h
        · rename_i b hx
          split at h
          · rename_i since seen stepped hb
            obtain ⟨q1, q2⟩ := evS_ok hc hI hye hi h
            exact ⟨q1, fun K hk => ⟨b, none, since, seen, stepped, hx, hb, q2 K hk⟩⟩
          · rename_i m since seen stepped hb
            split at h
            · rename_i es c hm
              split at h
              · rename_i hold
                split at h
                · rename_i hcand
                  obtain ⟨q1, q2⟩ := evS_ok hc hI hye hi h
                  refine ⟨q1, fun K hk => ⟨b, some m, since, seen, stepped, hx, hb, es, c, hm, hold, fun y hy => ?_⟩⟩
                  rw [hcand] at hy
                  simp only [List.mem_singleton] at hy
                  subst hy
                  exact q2 K hk
                · rename_i k v n hcand
                  have hl := LpB.app H (e := .put b (.iter (some m) since (seen ++ [n]) c)) rfl
                  obtain ⟨q1, q2⟩ := evS_ok hc hI hye (hI _ _ hl hi) h
                  refine ⟨hl.trans q1, fun K hk => ⟨b, some m, since, seen, stepped, hx, hb, es, c, hm, hold, fun y hy => ?_⟩⟩
                  rw [hcand] at hy
                  simp only [List.mem_singleton] at hy
                  subst hy
                  exact q2 K hk
                · cases h
              · cases h
            · cases h
          · cases h
        · cases h
      · rename_i x
        split at h
        · rename_i b hx
          split at h
          · rename_i m since seen stepped hb
            split at h
            · rename_i es c hm
              split at h
              · rename_i hcs
                split at h
                · rename_i n hlast
                  split at h
                  · rename_i k v n' hfind
                    obtain ⟨q1, q2⟩ := evS_ok hc hI hye hi h
                    exact ⟨q1, fun K hk => ⟨b, m, since, seen, stepped, es, c, n, k, v, n', hx, hb, hm, Nat.eq_of_beq_eq_true hcs, hlast, hfind, q2 K hk⟩⟩
                  · cases h
                · cases h
              · cases h
            · cases h
          · cases h
        · cases h
    · rename_i hg
      simp only [hg]
      exact evS_ok hc hI hye hi h
    · cases h
theorem evC_ok {call : CallF} (hc : CallOK P call) {i : Bool} {f : Nat} {x : Opd} {args : List Opd} {cs : List AV} {fr : Tr AV} {H : Hp} {r : Rec} (hx : x.ev fr = .fn f cs) (h : evC call i f (args.map (Opd.ev fr) ++ cs) H = some r) :
    Does P fr H.m (.call i x args) r ∧ r.lo = H.nx ∧ r.lo.toNat ≤ r.hi.toNat ∧ LpB H ⟨r.ef.on H.m, r.hi⟩ := by
  unfold evC at h
  split at h
  · split at h
    · rename_i D hD
      split at h
      · rename_i h1
        split at h
        · rename_i v H' hcall
          split at h
          · rename_i h2
            injection h with h
            subst h
            simp only [Bool.and_eq_true] at h1 h2
            obtain ⟨hI, hL⟩ := hc _ _ _ _ _ hcall
            refine ⟨.callD hx h1.1.1 h1.1.2 (fun b hb => ?_) hI (fun p => ?_) (fun p k hk => ?_), rfl, Nat.le_of_ble_eq_true h2.2, Nat.le_of_ble_eq_true h2.2, fun p hp st pj n ps a b fr hg => ?_⟩
            · have := List.all_eq_true.1 h1.2 b hb
              exact Nat.le_of_ble_eq_true this
            · refine over_diff _ _ p fun hn => ?_
              rw [only_get]
              split
              · rename_i hp
                have := List.all_eq_true.1 h2.1.1 p hp
                rw [hn] at this
                cases this
              · rfl
            · rw [diffT_get] at hk
              have hk' : ∃ k', H'.m.get p = some k' := by
                cases h3 : H'.m.get p with
                | none => rw [h3] at hk; cases hk
                | some k' => exact ⟨k', rfl⟩
              obtain ⟨k', hk'⟩ := hk'
              exact domAll_ok (c := id) h2.1.2 p k' hk'
            · simp only [EffX.on, Tr.get_over] at hg
              split at hg
              · rename_i k hk
                rw [diffT_get] at hk
                injection hg with hg
                subst hg
                have hk' : H'.m.get p = some (.lp st pj n ps a b fr) := by
                  unfold dv at hk
                  split at hk
                  · cases hk
                  · rename_i k' hk'
                    split at hk
                    · injection hk with hk; rw [← hk]; exact hk'
                    · split at hk
                      · cases hk
                      · injection hk with hk; rw [← hk]; exact hk'
                obtain ⟨st', pj', q⟩ := hL.2 p hp _ _ _ _ _ _ _ hk'
                exact ⟨st', pj', only_lp q⟩
              · exact ⟨st, pj, hg⟩
          · cases h
        · cases h
      · cases h
    · cases h
  · split at h
    · rename_i ys bs hf
      split at h
      · rename_i v H' hcall
        split at h
        · rename_i v' hz
          injection h with h
          subst h
          refine ⟨.callP hx hf (.of_I ((hc _ _ _ _ _ hcall).1.mono ?_)), rfl, Nat.le_refl _, Nat.le_refl _, fun p hp st pj n ps a b fr hg => ⟨st, pj, sealM_lp hg⟩⟩
          rintro v1 H1 ⟨rfl, rfl⟩
          exact hz
        · cases h
      · cases h
    · cases h
theorem evR_ok {call : CallF} (hc : CallOK P call) : ∀ {ss : List Stm} {fr : Tr AV} {H : Hp} {acc : List (Option Rec)} {fr' : Tr AV} {H' : Hp} {acc' : List (Option Rec)}, evR call ss fr H acc = some (fr', H', acc') →
    LpB H H' ∧ ∀ K : Tr AV → Hp → List (Option Rec) → Prop, K fr' H' acc' → aws P true ss fr H acc K
  | [], fr, H, acc, fr', H', acc', h => by
    injection h with h
    injection h with h1 h2
    injection h2 with h2 h3
    subst h1; subst h2; subst h3
    exact ⟨LpB.refl _, fun K hk => hk⟩
  | ⟨dst, gd, act⟩ :: ss, fr, H, acc, fr', H', acc', h => by
    unfold evR at h
    unfold aws
    split at h
    · rename_i hg
      simp only [hg]
      split at h
      · rename_i x
        split at h
        · rename_i v e hx
          simp only [hx, if_true]
          split at h
          · rename_i he
            obtain ⟨q1, q2⟩ := evR_ok hc h
            exact ⟨(LpB.app H he).trans q1, q2⟩
          · cases h
        · cases h
      · rename_i i x args
        split at h
        · rename_i f cs hx
          split at h
          · rename_i r hcall
            obtain ⟨p1, p2, p3, p4⟩ := evC_ok hc hx hcall
            obtain ⟨q1, q2⟩ := evR_ok hc h
            simp only [if_true]
            exact ⟨p4.trans q1, fun K hk => ⟨r, p1, p2, p3, q2 K hk⟩⟩
          · cases h
        · cases h
      · cases h
    · rename_i hg
      simp only [hg, if_true]
      exact evR_ok hc h
    · cases h
theorem aws_forget {K : Tr AV → Hp → Prop} : ∀ {ss : List Stm} {fr : Tr AV} {H : Hp} {acc acc' : List (Option Rec)}, aws P true ss fr H acc (fun fr H _ => K fr H) → aws P false ss fr H acc' (fun fr H _ => K fr H)
  | [], fr, H, acc, acc', h => h
  | ⟨dst, gd, act⟩ :: ss, fr, H, acc, acc', h => by
    unfold aws at h ⊢
    split at h
    · split at h
      · split at h
        · exact aws_forget h
        · cases h
      · obtain ⟨r, h1, h2, h3, h4⟩ := h
        exact ⟨r, h1, h2, h3, aws_forget h4⟩
      · cases h
    · exact aws_forget h
    · cases h
theorem ICallY.mono {Y : YT} {f : FuncId} {args : List AV} {H : Hp} {R R' : AV → Hp → Prop} (h : ICallY P Y f args H R) (hr : ∀ v H', R v H' → R' v H') : ICallY P Y f args H R' :=
  ⟨h.1, fun hY fb φ w cargs hH ha => (h.2 hY fb φ w cargs hH ha).mono fun e w' ⟨v, H', φ', cv, h1, h2, h3⟩ => ⟨v, H', φ', cv, h1, hr _ _ h2, h3⟩⟩
theorem evCallY_ok (hm : P.follows .mixedOrders = true) {T : Tr FnT} (hT : TabOK P T) {run : RunF} (hr : RunOK P run) {Y : YT} {I : Hp → Prop} {ye : YE} (hI : Stays I) (hye : YeOK Y I ye) {f : Nat} {xs : List AV} {H H' : Hp} {v : AV} (hi : I H)
    (h : evCallY T run ye f xs H = some (v, H')) : ∃ (fn : Func) (c : Code) (hint : Nat → Nat → Bool) (F : FnT), P.funcs[f]? = some fn ∧ fn.body = some c ∧ (fn.name == "runtime.NumGoroutine") = false ∧ fn.ntmps = F.np ∧ cc P F.np hint c = some F.ac ∧ cRes P fn.results.toList = some F.rvs ∧ xs.length ≤ F.np ∧
      LpB H H' ∧ AW P Y true H.nx F.ac (finK F.rvs fun v' H'' => v' = v ∧ H'' = H') (mkfr 0 xs .e) H := by
  unfold evCallY at h
  split at h
  · cases h
  · rename_i F hF
    obtain ⟨fn, c, hint, q1, q2, q3, q4, q5, q6⟩ := (hT f F hF).ok
    split at h
    · cases h
    · rename_i hl
      split at h
      · cases h
      · rename_i e fr H1 hrun
        obtain ⟨p1, p2⟩ := hr Y I ye hI hye _ _ _ _ _ _ _ hi hrun
        have fin : ∀ (he : ∀ id, e ≠ .x id), (match resA fr H1.m F.rvs with | some ys => some (resV ys, H1) | none => none) = some (v, H') → LpB H H' ∧ AW P Y true H.nx F.ac (finK F.rvs fun v' H'' => v' = v ∧ H'' = H') (mkfr 0 xs .e) H := by
          intro he h
          split at h
          · rename_i ys hy
            injection h with h
            injection h with h1 h2
            subst h1; subst h2
            refine ⟨p1, p2 _ _ (Nat.le_refl _) ?_⟩
            cases e with
            | x id => exact absurd rfl (he id)
            | n => simp only [finK, hy, and_self]
            | r => simp only [finK, hy, and_self]
          · cases h
        refine ⟨fn, c, hint, F, q1, q2, q3, q4, q5, q6, Nat.le_of_ble_eq_true hl, ?_⟩
        cases e with
        | x id => cases h
        | n => exact fin (fun id h => by cases h) h
        | r => exact fin (fun id h => by cases h) h
theorem evCall_ok (hm : P.follows .mixedOrders = true) {T : Tr FnT} (hT : TabOK P T) {run : RunF} (hr : RunOK P run) : CallOK P (evCall T run) := by
  intro f xs H v H' h
  obtain ⟨fn, c, hint, F, q1, q2, q3, q4, q5, q6, q7, q8, q9⟩ := evCallY_ok hm hT hr (I := fun _ => True) (fun _ _ _ _ => trivial) ye0_ok trivial h
  exact ⟨fn_I hm q1 q2 q3 q4 q5 q6 q7 q9, q8⟩
/-- The record of the range that runs bears what it bore at its beginning. -/
def ILp (b0 : B) (n : Nat) (ps : List Nat) (cas cbd : Code) (fr : Tr AV) (H : Hp) : Prop :=
  b0.toNat < H.nx.toNat ∧ ∀ st pj n' ps' a' c' fr', H.m.get b0 = some (.lp st pj n' ps' a' c' fr') → n' = n ∧ ps' = ps.toArray ∧ a' = cas ∧ c' = cbd ∧ fr' = fr
theorem ILp.stays {b0 : B} {n : Nat} {ps : List Nat} {cas cbd : Code} {fr : Tr AV} : Stays (ILp b0 n ps cas cbd fr) := fun H H' hl hi => ⟨Nat.lt_of_lt_of_le hi.1 hl.1, fun st pj n' ps' a' c' fr' h => by
  obtain ⟨st', pj', h1⟩ := hl.2 b0 hi.1 _ _ _ _ _ _ _ h
  exact hi.2 _ _ _ _ _ _ _ h1⟩
theorem isLp_ok {st : Bool} {o : Option Blk} (h : isLp st o = true) : ∃ n ps a b fr, o = some (.lp (if st then .ready else .busy) none n ps a b fr) := by
  unfold isLp at h
  split at h
  · rename_i s pj n ps a b fr
    split at h
    · split at h
      · subst h; exact ⟨_, _, _, _, _, rfl⟩
      · simp only [Bool.not_eq_true'] at h; subst h; exact ⟨_, _, _, _, _, rfl⟩
      · cases h
    · cases h
  · cases h
theorem ILp.at {b0 : B} {n : Nat} {ps : List Nat} {cas cbd : Code} {fr : Tr AV} {H : Hp} (hi : ILp b0 n ps cas cbd fr H) {st : Bool} (h : isLp st (H.m.get b0) = true) : H.m.get b0 = some (.lp (if st then .ready else .busy) none n ps.toArray cas cbd fr) := by
  obtain ⟨n', ps', a', c', fr', h1⟩ := isLp_ok h
  obtain ⟨rfl, rfl, rfl, rfl, rfl⟩ := hi.2 _ _ _ _ _ _ _ h1
  exact h1
theorem yeR_ok {run : RunF} (hr : RunOK P run) (b0 : B) (n : Nat) (ps : List Nat) (cas cbd : Code) (asg body : AC) (fr : Tr AV) :
    YeOK (Yr (fun J fr H => AW P Y0 false H.nx asg J fr H) (fun J fr H => AW P Y0 false H.nx body J fr H) b0 n ps cas cbd fr) (ILp b0 n ps cas cbd fr) (yeR run b0 n ps cas cbd asg body fr) := by
  intro b xs H v H' hi h
  unfold yeR at h
  split at h
  · cases h
  · rename_i h1
    simp only [Bool.and_eq_true] at h1
    obtain ⟨⟨h1, h2⟩, h3⟩ := h1
    have hb : b = b0 := B.eqb_iff.1 h1
    subst hb
    have hb0 := hi.at h2
    simp only [if_true] at hb0
    split at h
    · rename_i fr1 H1 hasg
      split at h
      · cases h
      · rename_i h4
        obtain ⟨p1, p2⟩ := hr Y0 (fun _ => True) ye0 (fun _ _ _ _ => trivial) ye0_ok _ _ _ _ _ _ _ trivial hasg
        have hi1 := ILp.stays _ _ p1 hi
        have hb1 := hi1.at h4
        simp only [if_true] at hb1
        split at h
        · rename_i e fr2 H2 hbody
          split at h
          · cases h
          · rename_i h5
            injection h with h
            injection h with h6 h7
            subst h6; subst h7
            have l1 : LpB H1 (H1.app (.put b (.lp .busy none n ps.toArray cas cbd fr))) := LpB.lpPut hb1
            obtain ⟨r1, r2⟩ := hr Y0 (fun _ => True) ye0 (fun _ _ _ _ => trivial) ye0_ok _ _ _ _ _ _ _ trivial hbody
            have hi2 := ILp.stays _ _ (l1.trans r1) hi1
            have hb2 := hi2.at h5
            simp only [Bool.false_eq_true, if_false] at hb2
            refine ⟨((p1.trans l1).trans r1).trans (LpB.lpPut hb2), fun R hR => ⟨rfl, hb0, Nat.eq_of_beq_eq_true h3, p2 _ _ (Nat.le_refl _) ⟨hb1, r2 _ _ (Nat.le_refl _) ⟨hb2, hR⟩⟩⟩⟩
        · cases h
    · cases h
theorem jumpE_ok {o : Option Blk} {e : Ex} (h : jumpE o = some e) : ∃ n ps a b fr, o = some (.lp (if exBool e then .ready else .done) (jumpC e) n ps a b fr) := by
  unfold jumpE at h
  split at h
  · split at h
    · split at h
      · injection h with h; subst h; exact ⟨_, _, _, _, _, rfl⟩
      · cases h
    · split at h
      · injection h with h; subst h; exact ⟨_, _, _, _, _, rfl⟩
      · injection h with h; subst h; exact ⟨_, _, _, _, _, rfl⟩
      · cases h
    · cases h
  · cases h
theorem evStep_ok (hm : P.follows .mixedOrders = true) {T : Tr FnT} (hT : TabOK P T) {run : RunF} (hr : RunOK P run) : RunOK P (evStep T run) := by
  intro Y I ye hI hye out ac fr H e fr' H' hi h
  have hcall := evCall_ok hm hT hr
  have hrun := hr Y I ye hI hye
  have inj : ∀ {a b : Ex} {c d : Tr AV} {x y : Hp}, some (a, c, x) = some (b, d, y) → a = b ∧ c = d ∧ x = y := by
    intro a b c d x y h
    injection h with h
    injection h with h1 h
    injection h with h2 h3
    exact ⟨h1, h2, h3⟩
  cases ac with
  | skip =>
    obtain ⟨rfl, rfl, rfl⟩ := inj h
    exact ⟨LpB.refl _, fun lim K _ hk => hk⟩
  | rg ss =>
    simp only [evStep] at h
    split at h
    · rename_i fr1 H1 hs
      obtain ⟨rfl, rfl, rfl⟩ := inj h
      obtain ⟨q1, q2⟩ := evS_ok hcall hI hye hi hs
      refine ⟨q1, fun lim K _ hk => ?_⟩
      simp only [AW]
      exact q2 _ hk
    · cases h
  | rd ss un =>
    simp only [evStep] at h
    split at h
    · rename_i fr1 H1 acc hs
      split at h
      · rename_i hchk
        obtain ⟨rfl, rfl, rfl⟩ := inj h
        obtain ⟨q1, q2⟩ := evR_ok hcall hs
        refine ⟨q1, fun lim K _ hk => ?_⟩
        cases un with
        | nil =>
          simp only [AW]
          exact aws_forget (acc := []) (q2 (fun fr H _ => K .n fr H) hk)
        | cons u un =>
          simp only [AW]
          exact q2 _ ⟨chkB_ok hchk, hk⟩
      · cases h
    · cases h
  | seq a b =>
    simp only [evStep] at h
    split at h
    · rename_i fr1 H1 h1
      obtain ⟨p1, p2⟩ := hrun _ _ _ _ _ _ _ hi h1
      obtain ⟨q1, q2⟩ := hrun _ _ _ _ _ _ _ (hI _ _ p1 hi) h
      refine ⟨p1.trans q1, fun lim K hl hk => ?_⟩
      simp only [AW]
      exact p2 lim _ hl (q2 lim K (Nat.le_trans hl p1.1) hk)
    · rename_i hn
      obtain ⟨p1, p2⟩ := hrun _ _ _ _ _ _ _ hi h
      refine ⟨p1, fun lim K hl hk => ?_⟩
      simp only [AW]
      refine p2 lim _ hl ?_
      cases e with
      | n => exact absurd h (hn _ _)
      | x id => exact hk
      | r => exact hk
  | cond c t f =>
    simp only [evStep] at h
    simp only [AW]
    split at h
    · rename_i x hx
      simp only [hx]
      split at h
      · simp only [if_true]; exact hrun _ _ _ _ _ _ _ hi h
      · simp only [Bool.false_eq_true, if_false]; exact hrun _ _ _ _ _ _ _ hi h
    · cases h
  | block id b =>
    simp only [evStep] at h
    simp only [AW]
    split at h
    · rename_i j fr1 H1 h1
      obtain ⟨p1, p2⟩ := hrun _ _ _ _ _ _ _ hi h1
      split at h
      · rename_i hj
        obtain ⟨rfl, rfl, rfl⟩ := inj h
        refine ⟨p1, fun lim K hl hk => p2 lim _ hl ?_⟩
        simp only [inB]
        rw [if_pos (Nat.eq_of_beq_eq_true hj)]
        exact hk
      · rename_i hj
        obtain ⟨rfl, rfl, rfl⟩ := inj h
        refine ⟨p1, fun lim K hl hk => p2 lim _ hl ?_⟩
        simp only [inB]
        rw [if_neg (Nat.ne_of_beq_eq_false hj)]
        exact hk
    · rename_i hn
      obtain ⟨p1, p2⟩ := hrun _ _ _ _ _ _ _ hi h
      refine ⟨p1, fun lim K hl hk => p2 lim _ hl ?_⟩
      cases e with
      | n => exact hk
      | x j => exact absurd h (hn _ _ _)
      | r => exact hk
  | loop b =>
    simp only [evStep] at h
    split at h
    · rename_i fr1 H1 h1
      obtain ⟨p1, p2⟩ := hrun _ _ _ _ _ _ _ hi h1
      obtain ⟨q1, q2⟩ := hrun _ _ _ _ _ _ _ (hI _ _ p1 hi) h
      refine ⟨p1.trans q1, fun lim K hl hk => ?_⟩
      have q3 := q2 lim K (Nat.le_trans hl p1.1) hk
      simp only [AW] at q3 ⊢
      intro J hJ
      exact ⟨fr, H, Wk.refl .., hl, hJ _ _ (p2 lim _ hl (q3 J hJ))⟩
    · rename_i hn
      obtain ⟨p1, p2⟩ := hrun _ _ _ _ _ _ _ hi h
      refine ⟨p1, fun lim K hl hk => ?_⟩
      simp only [AW]
      intro J hJ
      refine ⟨fr, H, Wk.refl .., hl, hJ _ _ (p2 lim _ hl ?_)⟩
      cases e with
      | n => exact absurd h (hn _ _)
      | x id => exact hk
      | r => exact hk
  | exit id =>
    obtain ⟨rfl, rfl, rfl⟩ := inj h
    exact ⟨LpB.refl _, fun lim K _ hk => hk⟩
  | ret =>
    obtain ⟨rfl, rfl, rfl⟩ := inj h
    exact ⟨LpB.refl _, fun lim K _ hk => hk⟩
  | bad => cases h
  | rngf fo n ps cas cbd asg body =>
    simp only [evStep] at h
    split at h
    · cases h
    · split at h
      · rename_i f cs hf
        split at h
        · rename_i v H1 hc
          split at h
          · rename_i e1 hj
            obtain ⟨rfl, rfl, rfl⟩ := inj h
            have l0 : LpB H (entY H n ps cas cbd fr) := LpB.app H rfl
            have i0 : ILp H.nx n ps cas cbd fr (entY H n ps cas cbd fr) := by
              refine ⟨by simp only [entY, Hp.app, B.toNat_succ]; omega, fun st pj n' ps' a' c' fr' hx => ?_⟩
              simp only [entY, Hp.app, Tr.get_set, if_true] at hx
              injection hx with hx
              injection hx with h1 h2 h3 h4 h5 h6 h7
              exact ⟨h3.symm, h4.symm, h5.symm, h6.symm, h7.symm⟩
            obtain ⟨fn, c, hint, F, q1, q2, q3, q4, q5, q6, q7, q8, q9⟩ := evCallY_ok hm hT hr ILp.stays (yeR_ok hr H.nx n ps cas cbd asg body fr) i0 hc
            obtain ⟨n', ps', a', c', fr', hb⟩ := jumpE_ok hj
            obtain ⟨rfl, rfl, rfl, rfl, rfl⟩ := (ILp.stays _ _ q8 i0).2 _ _ _ _ _ _ _ hb
            refine ⟨(l0.trans q8).trans (LpB.app H1 rfl), fun lim K hl hk => ?_⟩
            simp only [AW]
            refine ⟨trivial, f, cs, hf, (fn_Y hm q1 q2 q3 q4 q5 q6 q7 q9).mono ?_⟩
            rintro v' H'' ⟨rfl, rfl⟩
            exact ⟨_, hb, hk⟩
          · cases h
        · cases h
      · cases h
theorem ev_ok (hm : P.follows .mixedOrders = true) {T : Tr FnT} (hT : TabOK P T) : ∀ n, RunOK P (ev T n)
  | 0 => fun Y I ye _ _ out ac fr H e fr' H' _ h => by cases h
  | n + 1 => evStep_ok hm hT (ev_ok hm hT n)
/-- What the runner says of a call of plain values is so. -/
theorem runP_ok (hm : P.follows .mixedOrders = true) {T : Tr FnT} (hT : TabOK P T) {n f : Nat} {xs : List AV} {v : AV} (h : runP T n f xs = some v) : PCall P f xs v := by
  unfold runP at h
  split at h
  · rename_i v1 H1 hc
    refine .of_I ((evCall_ok hm hT (ev_ok hm hT n) _ _ _ _ _ hc).1.mono ?_)
    rintro v' H' ⟨rfl, rfl⟩
    exact h
  · cases h
end
end Go.Za
