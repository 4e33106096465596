/- The abstract machine, part 18: drawn regions, from the compiled statements. No condition. -/
import Derived.Test.YtaabgjmcikolfaaGreatDoorZa17
set_option linter.unusedVariables false
set_option linter.unusedSimpArgs false
namespace Go.Za
open Go.RowKit

/-! ### what can be seen from the text -/
/-- 0: it turns nothing, and looks at single cells; 1: a call; 2: all else. -/
def AOp.kd : AOp → Nat
  | .mv _ | .pick .. | .bld .. | .lit0 | .ld .. | .chk _ | .bin .. | .beq .. | .peq .. | .eqa .. | .un .. | .cvi .. | .fa .. | .fld .. | .ixa .. | .ixs .. | .ixv .. | .ixb .. | .ext .. | .cuts .. | .cut .. | .alen _ | .mm .. | .mkf .. => 0
  | .len k _ => if k = 2 then 2 else 0
  | .lit _ _ own _ _ => if own then 2 else 0
  | .ex k _ => match k with
    | .nes | .peq _ | .cap | .cpy | .sld | .ad64 | .sb64 | .mki _ | .ta _ _ _ | .snil _ => 0
    | _ => 2
  | _ => 2
def Act1.kd : Act1 → Nat
  | .op x => x.kd
  | .call false _ _ => 1
  | .call true _ _ => 2
  | .nxt _ | .ent _ => 2
def quiet (f : Fp) : Prop := match f with | .at _ _ _ _ false => True | _ => False
theorem quiet_fpA (x : AV) (n : Nat) : ∀ f ∈ fpA x n false, quiet f := by
  intro f hf
  cases x <;> simp [fpA] at hf <;> subst hf <;> trivial
theorem pure1_no {x : Option AV} {v : AV} {e : Eff} (h : pure1 x = some (v, e)) : e = .no := by
  cases x with
  | none => cases h
  | some y => injection h with h; injection h with _ h; exact h.symm
theorem kd0 {fr : Tr AV} {m : Tr Blk} {nb : B} {x : AOp} {v : AV} {e : Eff} (hk : x.kd = 0) (h : aop fr m nb x = some (v, e)) : e = .no ∧ ∀ f ∈ x.rds fr, quiet f := by
  cases x <;> simp only [AOp.kd] at hk <;> try (exact absurd hk (by decide))
  case ex k xs =>
    have hn : e = .no := by
      simp only [aop] at h
      generalize (xs.map (Opd.ev fr)) = ys at h
      cases k <;> simp only at hk <;> try (exact absurd hk (by decide))
      all_goals
        rcases ys with _ | ⟨a, _ | ⟨b, _ | ⟨c, _ | ⟨d, ys⟩⟩⟩⟩ <;> simp only [xop, reduceCtorEq] at h <;> (repeat' (split at h)) <;> first | (cases h; done) | (injection h with h; injection h with _ h; exact h.symm)
    refine ⟨hn, fun f hf => ?_⟩
    simp only [AOp.rds] at hf
    cases k <;> simp only at hk <;> first | exact absurd hk (by decide) | (simp [xrds, XOp.reads] at hf)
  all_goals simp only [AOp.rds]
  all_goals first
    | exact ⟨pure1_no h, quiet_fpA _ _⟩
    | exact ⟨pure1_no h, fun f hf => by cases hf⟩
    | skip
  case mv x => simp only [aop] at h; injection h with h; injection h with _ h; exact ⟨h.symm, fun f hf => by cases hf⟩
  case lit0 => simp only [aop] at h; injection h with h; injection h with _ h; exact ⟨h.symm, fun f hf => by cases hf⟩
  case alen n => simp only [aop] at h; injection h with h; injection h with _ h; exact ⟨h.symm, fun f hf => by cases hf⟩
  case mkf f cs => simp only [aop] at h; injection h with h; injection h with _ h; exact ⟨h.symm, fun f hf => by cases hf⟩
  case len k x =>
    split at hk
    · cases hk
    · rename_i hk2
      rw [if_neg hk2]
      exact ⟨pure1_no h, fun f hf => by cases hf⟩
  case lit sz len own z parts =>
    cases own with
    | true => simp at hk
    | false =>
      simp only [aop] at h
      split at h
      · simp only [Bool.false_eq_true, if_false] at h
        split at h
        · injection h with h; injection h with _ h; exact ⟨h.symm, fun f hf => by cases hf⟩
        · cases h
      · cases h
  all_goals
    simp only [aop] at h
    refine ⟨?_, fun f hf => by cases hf⟩
    (repeat (split at h)) <;> first
      | cases h; done
      | exact pure1_no h
      | (injection h with h; injection h with _ h; exact h.symm)

theorem off_no (nb : B) (f : Fp) : Off (.eff nb .no) f := by cases f <;> simp [Off, NoT]
theorem off_sl {bs : List B} {f : Fp} (h : quiet f) : Off (.sl bs) f := by
  cases f with
  | blk b => exact h.elim
  | «at» b i o n lv => cases lv with
    | true => exact h.elim
    | false => intro h; cases h
def statOK (a b : Nat) : Bool := (a == 0 && (b == 0 || b == 1)) || (a == 1 && b == 0)
theorem stat_ind {P : Program} {fr fr' : Tr AV} {m m' : Tr Blk} {x y : Act1} {r q : Rec} (h : statOK x.kd y.kd = true) (hx : Does P fr m x r) (hy : Does P fr' m' y q) : (∀ f ∈ q.rd, Off r.ef f) ∧ (∀ f ∈ r.rd, Off q.ef f) ∧ ApE r.ef q.ef := by
  have k0 : ∀ {fr : Tr AV} {m : Tr Blk} {z : Act1} {r : Rec}, Does P fr m z r → z.kd = 0 → (∃ nb, r.ef = .eff nb .no) ∧ ∀ f ∈ r.rd, quiet f := by
    intro fr m z r hz hk
    cases hz with
    | op h1 =>
      simp only [Act1.kd] at hk
      obtain ⟨e1, e2⟩ := kd0 hk h1
      subst e1
      exact ⟨⟨_, rfl⟩, e2⟩
    | callP => simp [Act1.kd] at hk
    | callD => simp [Act1.kd] at hk
  have k1 : ∀ {fr : Tr AV} {m : Tr Blk} {z : Act1} {r : Rec}, Does P fr m z r → z.kd = 1 → ∃ bs, r.ef = .sl bs := by
    intro fr m z r hz hk
    cases hz with
    | op h1 =>
      rename_i x _ _ _
      simp only [Act1.kd] at hk
      cases x <;> simp only [AOp.kd] at hk <;> first | cases hk | (split at hk <;> cases hk)
    | callP => exact ⟨_, rfl⟩
    | callD => simp [Act1.kd] at hk
  simp only [statOK, Bool.or_eq_true, Bool.and_eq_true, beq_iff_eq] at h
  rcases h with ⟨h1, h2 | h2⟩ | ⟨h1, h2⟩
  · obtain ⟨⟨nb, e1⟩, a1⟩ := k0 hx h1
    obtain ⟨⟨nb', e2⟩, a2⟩ := k0 hy h2
    rw [e1, e2]
    exact ⟨fun f _ => off_no _ f, fun f _ => off_no _ f, by simp [ApE]⟩
  · obtain ⟨⟨nb, e1⟩, a1⟩ := k0 hx h1
    obtain ⟨bs, e2⟩ := k1 hy h2
    rw [e1, e2]
    exact ⟨fun f _ => off_no _ f, fun f hf => off_sl (a1 f hf), by simp [ApE]⟩
  · obtain ⟨bs, e1⟩ := k1 hx h1
    obtain ⟨⟨nb, e2⟩, a2⟩ := k0 hy h2
    rw [e1, e2]
    exact ⟨fun f hf => off_sl (a2 f hf), fun f _ => off_no _ f, by simp [ApE]⟩

/-! ### who is behind whom -/
def preds (md : Region.Mode) (o : Oper) : List Nat := (o.after.toList.filter (Region.binds md)).map (·.on)
def mks (md : Region.Mode) : List Oper → List Nat → List Nat
  | [], acc => acc
  | o :: os, acc => mks md os (acc ++ [(preds md o).foldl (fun s e => s ||| (2 ^ e ||| acc.getD e 0)) 0])
theorem fold_bit (acc : List Nat) : ∀ (l : List Nat) (s i : Nat), (l.foldl (fun s e => s ||| (2 ^ e ||| acc.getD e 0)) s).testBit i = true → s.testBit i = true ∨ ∃ e ∈ l, e = i ∨ (acc.getD e 0).testBit i = true
  | [], s, i, h => .inl h
  | e :: l, s, i, h => by
    rcases fold_bit acc l _ i h with h | ⟨e', h1, h2⟩
    · simp only [Nat.testBit_or, Nat.testBit_two_pow, Bool.or_eq_true, decide_eq_true_eq] at h
      rcases h with h | h | h
      · exact .inl h
      · exact .inr ⟨e, List.mem_cons_self .., .inl h⟩
      · exact .inr ⟨e, List.mem_cons_self .., .inr h⟩
    · exact .inr ⟨e', List.mem_cons_of_mem _ h1, h2⟩
theorem mks_ok {md : Region.Mode} {ops : Array Oper} : ∀ (os : List Oper) (acc : List Nat), (∀ j o, os[j]? = some o → ops[acc.length + j]? = some o) → (∀ j i, (acc.getD j 0).testBit i = true → Anc md ops i j) →
    ∀ j i, ((mks md os acc).getD j 0).testBit i = true → Anc md ops i j
  | [], acc, _, h => h
  | o :: os, acc, ho, h => by
    unfold mks
    refine mks_ok os _ (fun j o' hj => ?_) (fun j i hb => ?_)
    · rw [List.length_append, List.length_singleton, show acc.length + 1 + j = acc.length + (j + 1) by omega]
      exact ho (j + 1) o' (by simpa using hj)
    · by_cases hj : j < acc.length
      · rw [List.getD_eq_getElem?_getD, List.getElem?_append_left hj, ← List.getD_eq_getElem?_getD] at hb
        exact h j i hb
      · by_cases hj' : j = acc.length
        · subst hj'
          rw [List.getD_eq_getElem?_getD, List.getElem?_append_right (Nat.le_refl _)] at hb
          simp only [Nat.sub_self, List.getElem?_cons_zero, Option.getD_some] at hb
          rcases fold_bit acc _ _ _ hb with hb | ⟨e, he, hb⟩
          · simp at hb
          · simp only [preds, List.mem_map, List.mem_filter, Array.mem_toList_iff] at he
            obtain ⟨ed, ⟨h1, h2⟩, h3⟩ := he
            have h0 := ho 0 o rfl
            rcases hb with hb | hb
            · exact .one h0 h1 h2 (h3.trans hb)
            · exact .more h0 h1 h2 (h3 ▸ h e i hb)
        · rw [List.getD_eq_getElem?_getD, List.getElem?_eq_none (by simp; omega)] at hb
          simp at hb
end Go.Za
