/- The abstract machine, part 12: effects that are apart. No condition. -/
import Derived.Test.YtaabgjmcikolfaaGreatDoorZa11
set_option linter.unusedVariables false
set_option linter.unusedSimpArgs false
namespace Go.Za
open Go.RowKit

/-- The effect leaves block b alone. -/
def NoT (b : B) : EffX → Prop
  | .eff nb .no => True
  | .eff nb (.new _) => nb ≠ b
  | .eff nb (.wr c _ _ _) => c ≠ b
  | .eff nb (.put c _) => c ≠ b
  | .eff nb (.mov c _) => nb ≠ b ∧ c ≠ b
  | .sl bs => b ∉ bs
  | .over m0 => m0.get b = none
theorem NoT.pt {b : B} {x : EffX} (h : NoT b x) (k : Option Blk) : x.pt b k = k := by
  cases x with
  | eff nb e => cases e <;> simp only [NoT] at h <;> simp only [EffX.pt] <;> first | rw [if_neg h] | rw [if_neg h.1, if_neg h.2] | rfl
  | sl bs => simp only [NoT] at h; simp only [EffX.pt, if_neg h]
  | over m0 => simp only [NoT] at h; simp only [EffX.pt, h]
/-- Cells that don't meet. -/
def Off1 (i o n i' o' n' : Nat) : Prop := i ≠ i' ∨ n = 0 ∨ n' = 0 ∨ o + n ≤ o' ∨ o' + n' ≤ o
/-- The effect does not turn what is looked at. -/
def Off (x : EffX) : Fp → Prop
  | .blk b => NoT b x
  | .at b i o n lv => match x with
    | .eff nb (.wr c i' o' cs) => c = b → Off1 i o n i' o' cs.length
    | .sl bs => lv = true → b ∉ bs
    | x => NoT b x
theorem simB.refl (i o n : Nat) (lv : Bool) (k : Option Blk) : simB i o n lv k k := by
  cases k with
  | none => simp only [simB]
  | some k => cases k <;> simp [simB]; (intro x y h1 h2; rw [h1] at h2; injection h2 with h2; subst h2; intros; rfl)
theorem spliceIf_length (c0 : List AV) (o : Nat) (cs : List AV) : (spliceIf c0 o cs).length = c0.length := by
  unfold spliceIf
  split
  · exact splice_length (by assumption)
  · rfl
theorem splice_get {c0 cs : List AV} {o : Nat} (h : o + cs.length ≤ c0.length) (j : Nat) : (splice c0 o cs)[j]? = if o ≤ j ∧ j < o + cs.length then cs[j - o]? else c0[j]? := by
  unfold splice
  by_cases h1 : j < o
  · rw [List.append_assoc, List.getElem?_append_left (by simp; omega), List.getElem?_take, if_pos h1, if_neg (by omega)]
  · by_cases h2 : j < o + cs.length
    · rw [List.getElem?_append_left (by simp; omega), List.getElem?_append_right (by simp; omega), if_pos (by omega)]
      congr 1
      simp
      omega
    · rw [List.getElem?_append_right (by simp; omega), List.getElem?_drop, if_neg (by omega)]
      congr 1
      simp
      omega
theorem spliceIf_get (c0 : List AV) (o : Nat) (cs : List AV) (j : Nat) (h : j < o ∨ o + cs.length ≤ j) : (spliceIf c0 o cs)[j]? = c0[j]? := by
  unfold spliceIf
  split
  · rename_i hf
    rw [splice_get hf, if_neg (by omega)]
  · rfl
theorem off_agr {m : Tr Blk} {x : EffX} {f : Fp} (h : Off x f) : AgrF m (x.on m) f := by
  cases f with
  | blk b => simp only [Off] at h; simp only [AgrF, EffX.on_get, h.pt]
  | «at» b i o n lv =>
    simp only [AgrF, EffX.on_get]
    have dflt : NoT b x → simB i o n lv (m.get b) (x.pt b (m.get b)) := fun h => by rw [h.pt]; exact simB.refl _ _ _ _ _
    cases x with
    | eff nb e =>
      cases e <;> simp only [Off] at h <;> try exact dflt h
      rename_i c i' o' cs
      by_cases hc : c = b
      · subst hc
        have h1 := h rfl
        simp only [EffX.pt, if_true]
        cases m.get c with
        | none => simp [simB]
        | some k =>
          cases k with
          | box bty c0 =>
            simp only [Option.map_some, Blk.wr, simB]
            by_cases hi : i' = 0
            · rw [if_pos hi, spliceIf_length]
              refine ⟨rfl, fun hz j h2 h3 => ?_⟩
              rw [spliceIf_get _ _ _ _ (by unfold Off1 at h1; omega)]
            · rw [if_neg hi]
              exact ⟨rfl, fun _ _ _ _ => rfl⟩
          | rows s l p xs =>
            simp only [Option.map_some, Blk.wr, simB]
            refine ⟨trivial, fun _ => trivial, ?_, fun j => ?_, fun x y hx hy j h2 h3 => ?_⟩
            · split <;> simp
            · split
              · rename_i r hr
                rw [List.getElem?_set]
                split
                · rename_i e
                  subst e
                  rw [hr]
                  split
                  · simp [spliceIf_length]
                  · rename_i hl
                    have := (List.getElem?_eq_some_iff.1 hr).1
                    omega
                · rfl
              · rfl
            · split at hy
              · rename_i r hr
                rw [List.getElem?_set] at hy
                split at hy
                · rename_i e
                  subst e
                  rw [hr] at hx
                  injection hx with hx
                  subst hx
                  split at hy
                  · injection hy with hy
                    subst hy
                    rw [spliceIf_get _ _ _ _ (by unfold Off1 at h1; omega)]
                  · cases hy
                · rw [hx] at hy; injection hy with hy; subst hy; rfl
              · rw [hx] at hy; injection hy with hy; subst hy; rfl
          | map es c => simp [Blk.wr, simB]
          | _ => simp [Blk.wr, simB]
      · exact dflt hc
    | sl bs =>
      simp only [Off] at h
      simp only [EffX.pt]
      split
      · rename_i hb
        cases m.get b with
        | none => simp [simB]
        | some k =>
          cases k with
          | rows s l p xs =>
            simp only [Option.map_some, Blk.sealK, simB]
            refine ⟨trivial, fun hl => absurd hb (h hl), trivial, fun _ => trivial, fun x y hx hy j _ _ => ?_⟩
            rw [hx] at hy; injection hy with hy; subst hy; rfl
          | _ => exact simB.refl _ _ _ _ _
      · exact simB.refl _ _ _ _ _
    | over m0 => exact dflt h

/-- Two effects that may change places. -/
def ApE (x y : EffX) : Prop :=
  match x, y with
  | .eff _ (.wr b i o cs), .eff _ (.wr b' i' o' cs') => b = b' → Off1 i o cs.length i' o' cs'.length
  | .eff _ .no, _ => True
  | _, .eff _ .no => True
  | .eff nb (.new _), y => NoT nb y
  | .eff _ (.wr b _ _ _), y => NoT b y
  | .eff _ (.put b _), y => NoT b y
  | .eff nb (.mov b _), y => NoT nb y ∧ NoT b y
  | .sl bs, .sl _ => True
  | .sl bs, y => ∀ b ∈ bs, NoT b y
  | x, .eff nb (.new _) => NoT nb x
  | x, .eff _ (.wr b _ _ _) => NoT b x
  | x, .eff _ (.put b _) => NoT b x
  | x, .eff nb (.mov b _) => NoT nb x ∧ NoT b x
  | x, .sl bs => ∀ b ∈ bs, NoT b x
  | .over _, .over _ => False
theorem spliceIf_comm {c0 cs ds : List AV} {o o' : Nat} (h : cs.length = 0 ∨ ds.length = 0 ∨ o + cs.length ≤ o' ∨ o' + ds.length ≤ o) :
    spliceIf (spliceIf c0 o cs) o' ds = spliceIf (spliceIf c0 o' ds) o cs := by
  have get : ∀ (c : List AV) (o : Nat) (cs : List AV) (j : Nat), o + cs.length ≤ c.length → (spliceIf c o cs)[j]? = if o ≤ j ∧ j < o + cs.length then cs[j - o]? else c[j]? := by
    intro c o cs j hf
    unfold spliceIf
    rw [if_pos hf, splice_get hf]
  by_cases h1 : o + cs.length ≤ c0.length
  · by_cases h2 : o' + ds.length ≤ c0.length
    · apply List.ext_getElem?
      intro j
      rw [get _ _ _ _ (by rw [spliceIf_length]; exact h2), get _ _ _ _ h1, get _ _ _ _ (by rw [spliceIf_length]; exact h1), get _ _ _ _ h2]
      by_cases ha : o ≤ j ∧ j < o + cs.length
      · have hb : ¬ (o' ≤ j ∧ j < o' + ds.length) := by omega
        simp only [if_pos ha, if_neg hb]
      · simp only [if_neg ha]
    · have e : ∀ c : List AV, c.length = c0.length → spliceIf c o' ds = c := fun c hc => by unfold spliceIf; rw [if_neg (by omega)]
      rw [e _ (spliceIf_length _ _ _), e _ rfl]
  · have e : ∀ c : List AV, c.length = c0.length → spliceIf c o cs = c := fun c hc => by unfold spliceIf; rw [if_neg (by omega)]
    rw [e _ rfl, e _ (spliceIf_length _ _ _)]
theorem wr_rows (i o : Nat) (cs : List AV) (s : Nat) (l p : Bool) (xs : List (List AV)) : Blk.wr i o cs (.rows s l p xs) = .rows s l (p && cs.all AV.pure) (xs.modify i (fun r => spliceIf r o cs)) := by
  simp only [Blk.wr]
  congr 1
  apply List.ext_getElem?
  intro j
  rw [List.getElem?_modify]
  split
  · rename_i r hr
    rw [List.getElem?_set]
    by_cases e : i = j
    · subst e
      rw [hr]
      have := (List.getElem?_eq_some_iff.1 hr).1
      simp [this]
    · cases xs[j]? <;> simp [e]
  · rename_i hr
    by_cases e : i = j
    · subst e; rw [hr]; rfl
    · cases xs[j]? <;> simp [e]
theorem wr_comm {i o i' o' : Nat} {cs ds : List AV} (h : Off1 i o cs.length i' o' ds.length) (k : Blk) : (k.wr i o cs).wr i' o' ds = (k.wr i' o' ds).wr i o cs := by
  cases k with
  | box bty c0 =>
    simp only [Blk.wr]
    by_cases h1 : i = 0
    · by_cases h2 : i' = 0
      · rw [if_pos h1, if_pos h2, if_pos h2, if_pos h1, spliceIf_comm (by unfold Off1 at h; omega)]
      · rw [if_pos h1, if_neg h2, if_neg h2, if_pos h1]
    · rw [if_neg h1, if_neg h1]
  | rows s l p xs =>
    simp only [wr_rows]
    have hp : ((p && cs.all AV.pure) && ds.all AV.pure) = ((p && ds.all AV.pure) && cs.all AV.pure) := by
      cases p <;> cases cs.all AV.pure <;> cases ds.all AV.pure <;> rfl
    rw [hp]
    congr 1
    have g : ∀ (i o : Nat) (cs : List AV) (xs : List (List AV)) (j : Nat), (xs.modify i (fun r => spliceIf r o cs))[j]? = if i = j then (xs[j]?).map (fun r => spliceIf r o cs) else xs[j]? := by
      intro i o cs xs j
      rw [List.getElem?_modify]
      cases xs[j]? with
      | none => simp
      | some r => by_cases e : i = j <;> simp [e]
    apply List.ext_getElem?
    intro j
    rw [g, g, g, g]
    by_cases h1 : i = j
    · by_cases h2 : i' = j
      · rw [if_pos h2, if_pos h1, if_pos h1, if_pos h2]
        cases xs[j]? with
        | none => rfl
        | some r => simp only [Option.map_some]; rw [spliceIf_comm (by unfold Off1 at h; omega)]
      · simp only [if_neg h2, if_pos h1]
    · by_cases h2 : i' = j
      · simp only [if_pos h2, if_neg h1]
      · simp only [if_neg h2, if_neg h1]
  | _ => rfl
theorem comm_left {x y : EffX} {p : B} (h : NoT p x) (k : Option Blk) : x.pt p (y.pt p k) = y.pt p (x.pt p k) := by rw [h.pt, h.pt]
theorem comm_right {x y : EffX} {p : B} (h : NoT p y) (k : Option Blk) : x.pt p (y.pt p k) = y.pt p (x.pt p k) := by rw [h.pt, h.pt]
/-- An effect that turns the blocks of a list alone. -/
def EffX.tb : EffX → List B
  | .eff _ .no => []
  | .eff nb (.new _) => [nb]
  | .eff _ (.wr c _ _ _) => [c]
  | .eff _ (.put c _) => [c]
  | .eff nb (.mov c _) => [nb, c]
  | .sl bs => bs
  | .over _ => []
theorem noT_tb {x : EffX} {p : B} (hx : ∀ m0, x ≠ .over m0) (h : p ∉ x.tb) : NoT p x := by
  cases x with
  | eff nb e =>
    cases e <;> simp only [NoT] <;> simp only [EffX.tb, List.mem_cons, List.not_mem_nil, or_false, not_or] at h
    · exact fun e => h e.symm
    · exact fun e => h e.symm
    · exact fun e => h e.symm
    · exact ⟨fun e => h.1 e.symm, fun e => h.2 e.symm⟩
  | sl bs => exact h
  | over m0 => exact absurd rfl (hx m0)
theorem comm_tb {x y : EffX} (hx : ∀ m0, x ≠ .over m0) (h : ∀ b ∈ x.tb, NoT b y) (p : B) (k : Option Blk) : x.pt p (y.pt p k) = y.pt p (x.pt p k) := by
  by_cases hp : p ∈ x.tb
  · exact comm_right (h p hp) k
  · exact comm_left (noT_tb hx hp) k
theorem apE_comm {x y : EffX} (h : ApE x y) (p : B) (k : Option Blk) : x.pt p (y.pt p k) = y.pt p (x.pt p k) := by
  have hn : ∀ (nb : B) (k' : Option Blk), (EffX.eff nb .no).pt p k' = k' := fun _ _ => rfl
  cases x with
  | eff nb e =>
    cases e with
    | no => rw [hn, hn]
    | new k1 => cases y with
      | eff nb' e' => cases e' <;> first | rw [hn, hn] | (refine comm_tb (by intro _ h; cases h) ?_ p k; simpa [EffX.tb, ApE] using h)
      | sl bs => refine comm_tb (by intro _ h; cases h) ?_ p k; simpa [EffX.tb, ApE] using h
      | over m0 => refine comm_tb (by intro _ h; cases h) ?_ p k; simpa [EffX.tb, ApE] using h
    | wr b i o cs => cases y with
      | eff nb' e' => cases e' with
        | no => rw [hn, hn]
        | wr b' i' o' cs' =>
          simp only [ApE] at h
          simp only [EffX.pt]
          by_cases h1 : b = p
          · by_cases h2 : b' = p
            · rw [if_pos h1, if_pos h2, if_pos h2, if_pos h1]
              cases k with
              | none => rfl
              | some k => simp only [Option.map_some]; rw [wr_comm (h (h1.trans h2.symm))]
            · rw [if_pos h1, if_neg h2, if_neg h2, if_pos h1]
          · rw [if_neg h1, if_neg h1]
        | _ => refine comm_tb (by intro _ h; cases h) ?_ p k; simpa [EffX.tb, ApE] using h
      | sl bs => refine comm_tb (by intro _ h; cases h) ?_ p k; simpa [EffX.tb, ApE] using h
      | over m0 => refine comm_tb (by intro _ h; cases h) ?_ p k; simpa [EffX.tb, ApE] using h
    | put b k1 => cases y with
      | eff nb' e' => cases e' <;> first | rw [hn, hn] | (refine comm_tb (by intro _ h; cases h) ?_ p k; simpa [EffX.tb, ApE] using h)
      | sl bs => refine comm_tb (by intro _ h; cases h) ?_ p k; simpa [EffX.tb, ApE] using h
      | over m0 => refine comm_tb (by intro _ h; cases h) ?_ p k; simpa [EffX.tb, ApE] using h
    | mov b k1 => cases y with
      | eff nb' e' => cases e' <;> first | rw [hn, hn] | (refine comm_tb (by intro _ h; cases h) ?_ p k; simpa [EffX.tb, ApE] using h)
      | sl bs => refine comm_tb (by intro _ h; cases h) ?_ p k; simpa [EffX.tb, ApE] using h
      | over m0 => refine comm_tb (by intro _ h; cases h) ?_ p k; simpa [EffX.tb, ApE] using h
  | sl bs => cases y with
    | eff nb' e' => cases e' <;> first | rw [hn, hn] | (refine comm_tb (by intro _ h; cases h) ?_ p k; simpa [EffX.tb, ApE] using h)
    | sl cs =>
      simp only [EffX.pt]
      by_cases h1 : p ∈ bs <;> by_cases h2 : p ∈ cs <;> simp [h1, h2]
    | over m0 => refine comm_tb (by intro _ h; cases h) ?_ p k; simpa [EffX.tb, ApE] using h
  | over m0 => cases y with
    | eff nb' e' => cases e' <;> first | rw [hn, hn] | (refine (comm_tb (by intro _ h; cases h) ?_ p k).symm; simpa [EffX.tb, ApE] using h)
    | sl bs => refine (comm_tb (by intro _ h; cases h) ?_ p k).symm; simpa [EffX.tb, ApE] using h
    | over m1 => exact h.elim
end Go.Za
