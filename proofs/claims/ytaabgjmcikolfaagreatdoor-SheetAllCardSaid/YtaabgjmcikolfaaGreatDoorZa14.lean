/- The abstract machine, part 14: statements one behind the other, in the order of the text and in any other. No condition. -/
import Derived.Test.YtaabgjmcikolfaaGreatDoorZa13
set_option linter.unusedVariables false
set_option linter.unusedSimpArgs false
namespace Go.Za
open Go.RowKit

/-! ### what a statement reads of its frame -/
def Opd.ps : Opd → List B
  | .t p => [p]
  | .c _ => []
def psO : Option Opd → List B
  | some x => x.ps
  | none => []
def psL (l : List Opd) : List B := l.flatMap Opd.ps
def psP (l : List (Nat × Nat × Opd)) : List B := l.flatMap fun x => x.2.2.ps
def AOp.ps : AOp → List B
  | .mv x | .box _ x | .chk x | .un _ x | .cvi _ x | .fa _ x | .fld _ _ x | .ext _ x | .len _ x | .ld _ x => x.ps
  | .pick c a b => c.ps ++ a.ps ++ b.ps
  | .al _ _ | .lit0 | .alen _ | .mkm => []
  | .ex _ xs => psL xs
  | .bld _ parts | .lit _ _ _ _ parts => psP parts
  | .st _ a x | .bin _ a x | .beq _ a x | .peq _ a x | .eqa _ _ a x | .ixa _ _ a x | .ixs _ a x | .ixv _ _ _ a x | .ixb a x | .app _ _ a x => a.ps ++ x.ps
  | .cuts x lo hi | .cut _ x lo hi => x.ps ++ psO lo ++ psO hi
  | .mm _ x ys => x.ps ++ psL ys
  | .mkf _ cs => psL cs
def Act1.ps : Act1 → List B
  | .op x => x.ps
  | .call _ x args => x.ps ++ psL args
  | .nxt x | .ent x => x.ps
def Stm.ps (s : Stm) : List B := (match s.gd with | some (g, _) => [g] | none => []) ++ s.act.ps
def FA (fr fr' : Tr AV) (l : List B) : Prop := ∀ p ∈ l, fr.get p = fr'.get p
theorem FA.left {fr fr' : Tr AV} {l k : List B} (h : FA fr fr' (l ++ k)) : FA fr fr' l := fun p hp => h p (List.mem_append_left _ hp)
theorem FA.right {fr fr' : Tr AV} {l k : List B} (h : FA fr fr' (l ++ k)) : FA fr fr' k := fun p hp => h p (List.mem_append_right _ hp)
theorem ev_fa {fr fr' : Tr AV} {x : Opd} (h : FA fr fr' x.ps) : x.ev fr = x.ev fr' := by
  cases x with
  | t p => simp only [Opd.ev, h p (by simp [Opd.ps])]
  | c v => rfl
theorem evO_fa {fr fr' : Tr AV} {x : Option Opd} (h : FA fr fr' (psO x)) : x.map (Opd.ev fr) = x.map (Opd.ev fr') := by
  cases x with
  | none => rfl
  | some x => simp only [Option.map_some, ev_fa (x := x) h]
theorem evL_fa {fr fr' : Tr AV} {l : List Opd} (h : FA fr fr' (psL l)) : l.map (Opd.ev fr) = l.map (Opd.ev fr') := by
  apply List.map_congr_left
  intro x hx
  exact ev_fa fun p hp => h p (List.mem_flatMap.2 ⟨x, hx, hp⟩)
theorem fill_fa {fr fr' : Tr AV} : ∀ {l : List (Nat × Nat × Opd)} {cs : List AV}, FA fr fr' (psP l) → fillA cs fr l = fillA cs fr' l
  | [], cs, _ => rfl
  | (o, n, x) :: l, cs, h => by
    have h1 : x.ev fr = x.ev fr' := ev_fa fun p hp => h p (List.mem_flatMap.2 ⟨_, List.mem_cons_self .., hp⟩)
    have h2 : FA fr fr' (psP l) := fun p hp => by
      obtain ⟨y, hy, hp⟩ := List.mem_flatMap.1 hp
      exact h p (List.mem_flatMap.2 ⟨y, List.mem_cons_of_mem _ hy, hp⟩)
    simp only [fillA, h1]
    split
    · rfl
    · split
      · exact fill_fa h2
      · rfl
theorem aop_fa {fr fr' : Tr AV} {m : Tr Blk} {nb : B} {x : AOp} (h : FA fr fr' x.ps) : aop fr m nb x = aop fr' m nb x ∧ x.rds fr = x.rds fr' := by
  cases x <;> simp only [AOp.ps] at h <;> simp only [aop, AOp.rds]
  all_goals first
    | exact ⟨trivial, trivial⟩
    | (simp only [ev_fa h]; exact ⟨trivial, trivial⟩)
    | (simp only [ev_fa h.left, ev_fa h.right]; exact ⟨trivial, trivial⟩)
    | (simp only [ev_fa h.left.left, ev_fa h.left.right, ev_fa h.right]; exact ⟨trivial, trivial⟩)
    | (simp only [ev_fa h.left.left, evO_fa h.left.right, evO_fa h.right]; exact ⟨trivial, trivial⟩)
    | (simp only [fill_fa h]; exact ⟨trivial, trivial⟩)
    | (simp only [ev_fa h.left, evL_fa h.right]; exact ⟨trivial, trivial⟩)
    | (simp only [evL_fa h]; exact ⟨trivial, trivial⟩)

/-! ### one statement's deed depends on what it looks at alone -/
theorem frz1_agr {m m' : Tr Blk} {x y : AV} {bs : List B} (h : frz1 m x = some (y, bs)) (ha : ∀ b ∈ bs, m.get b = m'.get b) : frz1 m' x = some (y, bs) := by
  cases x <;> try (unfold frz1 at h ⊢; exact h)
  rename_i b lo n
  have hb : b ∈ bs := by
    simp only [frz1] at h
    split at h
    · split at h
      · injection h with h; injection h with _ h; subst h; simp
      · cases h
    · cases h
  simp only [frz1, ← ha b hb] at h ⊢
  exact h
theorem frzL_agr {m m' : Tr Blk} : ∀ {xs ys : List AV} {bs : List B}, frzL m xs = some (ys, bs) → (∀ b ∈ bs, m.get b = m'.get b) → frzL m' xs = some (ys, bs)
  | [], ys, bs, h, _ => h
  | x :: xs, ys, bs, h, ha => by
    unfold frzL at h
    split at h
    · rename_i y b1 ys' b2 h1 h2
      injection h with h
      injection h with e1 e2
      subst e1; subst e2
      simp only [frzL, frz1_agr h1 (fun b hb => ha b (List.mem_append_left _ hb)), frzL_agr h2 (fun b hb => ha b (List.mem_append_right _ hb))]
    · cases h
theorem frz_agr {m m' : Tr Blk} {x y : AV} {bs : List B} (h : frz m x = some (y, bs)) (ha : ∀ b ∈ bs, m.get b = m'.get b) : frz m' x = some (y, bs) := by
  cases x <;> try (unfold frz at h ⊢; exact frz1_agr h ha)
  simp only [frz] at h ⊢
  split at h
  · rename_i ds cs h1
    injection h with h
    injection h with e1 e2
    subst e1; subst e2
    simp only [frzL_agr h1 ha]
  · cases h
theorem frzs_agr {m m' : Tr Blk} : ∀ {xs ys : List AV} {bs : List B}, frzs m xs = some (ys, bs) → (∀ b ∈ bs, m.get b = m'.get b) → frzs m' xs = some (ys, bs)
  | [], ys, bs, h, _ => h
  | x :: xs, ys, bs, h, ha => by
    unfold frzs at h
    split at h
    · rename_i y b1 ys' b2 h1 h2
      injection h with h
      injection h with e1 e2
      subst e1; subst e2
      simp only [frzs, frz_agr h1 (fun b hb => ha b (List.mem_append_left _ hb)), frzs_agr h2 (fun b hb => ha b (List.mem_append_right _ hb))]
    · cases h
theorem does_agr {P : Program} {fr fr' : Tr AV} {m m' : Tr Blk} {act : Act1} {r : Rec} (h : Does P fr m act r) (hf : FA fr fr' act.ps) (hm : Agr m m' r.rd) : Does P fr' m' act r := by
  cases h with
  | op h1 =>
    rename_i x v e nb
    obtain ⟨h2, h3⟩ := aop_fa (m := m) (nb := nb) hf
    rw [h2, aop_agr (m' := m') (by rw [← h3]; exact hm)] at h1
    rw [h3]
    exact .op h1
  | callP h1 h2 h3 =>
    rename_i x args f cs ys bs v lo
    have e1 : x.ev fr = x.ev fr' := ev_fa hf.left
    have e2 := evL_fa (l := args) hf.right
    rw [e1] at h1
    rw [e2] at h2
    exact .callP h1 (frzs_agr h2 fun b hb => hm (.blk b) (List.mem_map.2 ⟨b, hb, rfl⟩)) h3
  | callD h1 h2 h3 h4 h5 h6 h7 =>
    rename_i x args f cs D v H' m0 lo
    have e1 : x.ev fr = x.ev fr' := ev_fa hf.left
    have e2 := evL_fa (l := args) hf.right
    have e3 : ∀ b ∈ D, m.get b = m'.get b := fun b hb => hm (.blk b) (List.mem_map.2 ⟨b, hb, rfl⟩)
    rw [e1] at h1
    rw [e2] at h3 h5
    rw [only_agr e3] at h5 h6
    rw [closed_agr e3] at h2
    exact .callD h1 h2 h3 h4 h5 h6 h7

abbrev It := Nat × Stm × Option Rec
def valO : Option Rec → AV
  | some r => r.v
  | none => .tu []
def onO (m : Tr Blk) : Option Rec → Tr Blk
  | some r => r.ef.on m
  | none => m
def rdO : Option Rec → List Fp
  | some r => r.rd
  | none => []
def Did1 (P : Program) (fr : Tr AV) (m : Tr Blk) (s : Stm) : Option Rec → Prop
  | some r => gdA fr s.gd = some true ∧ Does P fr m s.act r
  | none => gdA fr s.gd = some false
def Run (P : Program) : List It → Tr AV → Tr Blk → Prop
  | [], _, _ => True
  | (_, s, ro) :: L, fr, m => Did1 P fr m s ro ∧ Run P L (putA fr s.dst (valO ro)) (onO m ro)
def finF : List It → Tr AV → Tr AV
  | [], fr => fr
  | (_, s, ro) :: L, fr => finF L (putA fr s.dst (valO ro))
def finM : List It → Tr Blk → Tr Blk
  | [], m => m
  | (_, _, ro) :: L, m => finM L (onO m ro)
def FE (fr fr' : Tr AV) : Prop := ∀ p, fr.get p = fr'.get p
def ME (m m' : Tr Blk) : Prop := ∀ p, m.get p = m'.get p
theorem did1_agr {P : Program} {fr fr' : Tr AV} {m m' : Tr Blk} {s : Stm} {ro : Option Rec} (h : Did1 P fr m s ro) (hf : FA fr fr' s.ps) (hm : Agr m m' (rdO ro)) : Did1 P fr' m' s ro := by
  have hg : gdA fr s.gd = gdA fr' s.gd := by
    cases hs : s.gd with
    | none => rfl
    | some gw =>
      obtain ⟨g, want⟩ := gw
      have := hf g (by simp [Stm.ps, hs])
      simp only [gdA, this]
  have ha : FA fr fr' s.act.ps := fun p hp => hf p (List.mem_append_right _ hp)
  cases ro with
  | none => simp only [Did1] at h ⊢; rw [← hg]; exact h
  | some r => simp only [Did1] at h ⊢; exact ⟨by rw [← hg]; exact h.1, does_agr h.2 ha hm⟩
theorem agr_me {m m' : Tr Blk} (h : ME m m') (l : List Fp) : Agr m m' l := fun f _ => by
  cases f with
  | blk b => exact h b
  | «at» b i o n lv => simp only [AgrF, h b]; exact simB.refl _ _ _ _ _
theorem agrF_symm {m m' : Tr Blk} {f : Fp} (h : AgrF m m' f) : AgrF m' m f := by
  cases f with
  | blk b => exact Eq.symm h
  | «at» b i o n lv =>
    simp only [AgrF] at h ⊢
    cases hb : m.get b with
    | none => cases hb' : m'.get b with
      | none => simp [simB]
      | some k => rw [hb, hb'] at h; cases k <;> simp only [simB] at h
    | some k => cases hb' : m'.get b with
      | none => rw [hb, hb'] at h; cases k <;> simp only [simB] at h
      | some k' =>
        rw [hb, hb'] at h
        cases k <;> cases k' <;> simp only [simB] at h ⊢
        · exact ⟨h.1.symm, fun hz j h1 h2 => (h.2 hz j h1 h2).symm⟩
        · obtain ⟨h1, h2, h3, h4, h5⟩ := h
          exact ⟨h1.symm, fun hl => (h2 hl).symm, h3.symm, fun j => (h4 j).symm, fun x y hx hy j a b => (h5 y x hy hx j a b).symm⟩
theorem get_putA (fr : Tr AV) (d : Option B) (v : AV) (p : B) : (putA fr d v).get p = if d = some p then some v else fr.get p := by
  cases d with
  | none => simp [putA]
  | some d => simp only [putA, Tr.get_set, Option.some.injEq]
theorem FE.put {fr fr' : Tr AV} (h : FE fr fr') (d : Option B) (v : AV) : FE (putA fr d v) (putA fr' d v) := fun p => by rw [get_putA, get_putA, h p]
def ptO (p : B) (k : Option Blk) : Option Rec → Option Blk
  | some r => r.ef.pt p k
  | none => k
theorem onO_get (m : Tr Blk) (ro : Option Rec) (p : B) : (onO m ro).get p = ptO p (m.get p) ro := by
  cases ro with
  | none => rfl
  | some r => exact EffX.on_get _ _ _
theorem ME.on {m m' : Tr Blk} (h : ME m m') (ro : Option Rec) : ME (onO m ro) (onO m' ro) := fun p => by rw [onO_get, onO_get, h p]
theorem run_congr {P : Program} : ∀ {L : List It} {fr fr' : Tr AV} {m m' : Tr Blk}, FE fr fr' → ME m m' → Run P L fr m → Run P L fr' m'
  | [], _, _, _, _, _, _, _ => trivial
  | (_, s, ro) :: L, fr, fr', m, m', hf, hm, h => ⟨did1_agr h.1 (fun p _ => hf p) (agr_me hm _), run_congr (hf.put _ _) (hm.on _) h.2⟩
theorem fin_congr : ∀ {L : List It} {fr fr' : Tr AV} {m m' : Tr Blk}, FE fr fr' → ME m m' → FE (finF L fr) (finF L fr') ∧ ME (finM L m) (finM L m')
  | [], _, _, _, _, hf, hm => ⟨hf, hm⟩
  | (_, s, ro) :: L, fr, fr', m, m', hf, hm => fin_congr (L := L) (hf.put _ _) (hm.on _)

/-- Two statements that may change places. -/
def IndS (x y : Stm) : Prop := (∀ d, x.dst = some d → d ∉ y.ps ∧ y.dst ≠ some d) ∧ (∀ d, y.dst = some d → d ∉ x.ps)
def IndR : Option Rec → Option Rec → Prop
  | some r, some q => (∀ f ∈ q.rd, Off r.ef f) ∧ (∀ f ∈ r.rd, Off q.ef f) ∧ ApE r.ef q.ef
  | _, _ => True
def Ind (x y : It) : Prop := IndS x.2.1 y.2.1 ∧ IndR x.2.2 y.2.2
theorem fa_put {fr : Tr AV} {d : Option B} {v : AV} {l : List B} (h : ∀ p, d = some p → p ∉ l) : FA (putA fr d v) fr l := fun p hp => by
  rw [get_putA, if_neg (fun e => h p e hp)]
theorem swap {P : Program} {x j : It} {L : List It} {fr : Tr AV} {m : Tr Blk} (h : Run P (x :: j :: L) fr m) (hi : Ind x j) :
    Run P (j :: x :: L) fr m ∧ FE (finF (x :: j :: L) fr) (finF (j :: x :: L) fr) ∧ ME (finM (x :: j :: L) m) (finM (j :: x :: L) m) := by
  obtain ⟨xi, sx, rx⟩ := x
  obtain ⟨ji, sj, rj⟩ := j
  obtain ⟨⟨i1, i2⟩, i3⟩ := hi
  simp only at i1 i2 i3
  obtain ⟨h1, h2, h3⟩ := h
  have hfe : FE (putA (putA fr sx.dst (valO rx)) sj.dst (valO rj)) (putA (putA fr sj.dst (valO rj)) sx.dst (valO rx)) := fun p => by
    rw [get_putA, get_putA, get_putA, get_putA]
    by_cases a : sj.dst = some p
    · by_cases b : sx.dst = some p
      · exact absurd a (i1 p b).2
      · simp only [if_pos a, if_neg b]
    · simp only [if_neg a]
  have hme : ME (onO (onO m rx) rj) (onO (onO m rj) rx) := fun p => by
    rw [onO_get, onO_get, onO_get, onO_get]
    cases rx with
    | none => rfl
    | some r => cases rj with
      | none => rfl
      | some q => exact (apE_comm i3.2.2 p _).symm
  refine ⟨⟨did1_agr h2 (fa_put fun p hp => (i1 p hp).1) ?_, did1_agr h1 (fun p hp => (fa_put (fun p hp => i2 p hp) p hp).symm) ?_, run_congr hfe hme h3⟩, fin_congr (L := L) hfe hme⟩
  · cases rx with
    | none => exact agr_me (fun _ => rfl) _
    | some r => cases rj with
      | none => intro f hf; cases hf
      | some q =>
        intro f hf
        exact agrF_symm (off_agr (m := m) (i3.1 f hf))
  · cases rj with
    | none => exact agr_me (fun _ => rfl) _
    | some q => cases rx with
      | none => intro f hf; cases hf
      | some r =>
        intro f hf
        exact off_agr (i3.2.1 f hf)
theorem bubble {P : Program} {j : It} : ∀ {L1 L2 : List It} {fr : Tr AV} {m : Tr Blk}, Run P (L1 ++ j :: L2) fr m → (∀ x ∈ L1, Ind x j) →
    Run P (j :: (L1 ++ L2)) fr m ∧ FE (finF (L1 ++ j :: L2) fr) (finF (j :: (L1 ++ L2)) fr) ∧ ME (finM (L1 ++ j :: L2) m) (finM (j :: (L1 ++ L2)) m)
  | [], L2, fr, m, h, _ => ⟨h, fun _ => rfl, fun _ => rfl⟩
  | x :: L1, L2, fr, m, h, hi => by
    obtain ⟨xi, sx, rx⟩ := x
    obtain ⟨q1, q2, q3⟩ := bubble (L1 := L1) (L2 := L2) h.2 (fun y hy => hi y (List.mem_cons_of_mem _ hy))
    obtain ⟨r1, r2, r3⟩ := swap (L := L1 ++ L2) (x := (xi, sx, rx)) (j := j) (fr := fr) (m := m) ⟨h.1, q1⟩ (hi _ (List.mem_cons_self ..))
    exact ⟨r1, fun p => (q2 p).trans (r2 p), fun p => (q3 p).trans (r3 p)⟩
end Go.Za
