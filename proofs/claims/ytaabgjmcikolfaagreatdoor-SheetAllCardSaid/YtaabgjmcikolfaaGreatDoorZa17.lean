/- The abstract machine, part 17: regions, from the compiled statements. No condition. -/
import Derived.Test.YtaabgjmcikolfaaGreatDoorZa16
set_option linter.unusedVariables false
set_option linter.unusedSimpArgs false
namespace Go.Za
open Go.RowKit

/-! ### the run, as a condition -/
/-- tr: what each did is kept. -/
def aws (P : Program) (tr : Bool) : List Stm → Tr AV → Hp → List (Option Rec) → (Tr AV → Hp → List (Option Rec) → Prop) → Prop
  | [], fr, H, acc, K => K fr H acc
  | ⟨dst, gd, act⟩ :: ss, fr, H, acc, K => match gdA fr gd with
    | some true => match act with
      | .op x => match aop fr H.m H.nx x with
        | some (v, e) => aws P tr ss (putA fr dst v) (H.app e) (if tr then some ⟨v, x.rds fr, .eff H.nx e, H.nx, (H.app e).nx⟩ :: acc else acc) K
        | none => False
      | .call i x args => ∃ r, Does P fr H.m (.call i x args) r ∧ r.lo = H.nx ∧ r.lo.toNat ≤ r.hi.toNat ∧ aws P tr ss (putA fr dst r.v) ⟨r.ef.on H.m, r.hi⟩ (if tr then some r :: acc else acc) K
      | _ => False
    | some false => aws P tr ss (putA fr dst (.tu [])) H (if tr then none :: acc else acc) K
    | none => False

def mkL : Nat → List Stm → List (Option Rec) → List It
  | k, s :: ss, ro :: ros => (k, s, ro) :: mkL (k + 1) ss ros
  | _, _, _ => []
def Chain : B → List (Option Rec) → B → Prop
  | nx, [], nx' => nx = nx'
  | nx, some r :: ros, nx' => r.lo = nx ∧ r.lo.toNat ≤ r.hi.toNat ∧ Chain r.hi ros nx'
  | nx, none :: ros, nx' => Chain nx ros nx'

theorem aws_run {P : Program} {tr : Bool} : ∀ {ss : List Stm} {k : Nat} {fr : Tr AV} {H : Hp} {acc : List (Option Rec)} {K : Tr AV → Hp → List (Option Rec) → Prop}, aws P tr ss fr H acc K →
    ∃ ros nx', ros.length = ss.length ∧ Run P (mkL k ss ros) fr H.m ∧ Chain H.nx ros nx' ∧ K (finF (mkL k ss ros) fr) ⟨finM (mkL k ss ros) H.m, nx'⟩ (if tr then ros.reverse ++ acc else acc)
  | [], k, fr, H, acc, K, h => ⟨[], H.nx, rfl, trivial, rfl, by cases tr <;> exact h⟩
  | ⟨dst, gd, act⟩ :: ss, k, fr, H, acc, K, h => by
    have fin : ∀ (ro : Option Rec) (fr1 : Tr AV) (H1 : Hp), Did1 P fr H.m ⟨dst, gd, act⟩ ro → fr1 = putA fr dst (valO ro) → H1.m = onO H.m ro → (∀ ros nx', Chain H1.nx ros nx' → Chain H.nx (ro :: ros) nx') →
        aws P tr ss fr1 H1 (if tr then ro :: acc else acc) K →
        ∃ ros nx', ros.length = (Stm.mk dst gd act :: ss).length ∧ Run P (mkL k (⟨dst, gd, act⟩ :: ss) ros) fr H.m ∧ Chain H.nx ros nx' ∧
          K (finF (mkL k (⟨dst, gd, act⟩ :: ss) ros) fr) ⟨finM (mkL k (⟨dst, gd, act⟩ :: ss) ros) H.m, nx'⟩ (if tr then ros.reverse ++ acc else acc) := by
      intro ro fr1 H1 h1 h2 h3 h4 h5
      obtain ⟨ros, nx', q1, q2, q3, q4⟩ := aws_run (k := k + 1) h5
      subst h2
      rw [h3] at q2 q4
      refine ⟨ro :: ros, nx', by simp [q1], ⟨h1, q2⟩, h4 _ _ q3, ?_⟩
      cases tr
      · simp only [Bool.false_eq_true, if_false] at q4 ⊢; exact q4
      · simp only [if_true, List.reverse_cons, List.append_assoc, List.singleton_append] at q4 ⊢; exact q4
    unfold aws at h
    split at h
    · rename_i hg
      split at h
      · rename_i x
        split at h
        · rename_i v e hx
          have hd : Does P fr H.m (.op x) ⟨v, x.rds fr, .eff H.nx e, H.nx, (H.app e).nx⟩ := by
            have := Does.op (P := P) hx
            rw [Hp.app_eq]
            exact this
          refine fin (some ⟨v, x.rds fr, .eff H.nx e, H.nx, (H.app e).nx⟩) _ (H.app e) ⟨hg, hd⟩ rfl ?_ ?_ h
          · rw [Hp.app_eq]; rfl
          · intro ros nx' hc
            refine ⟨rfl, ?_, hc⟩
            rw [Hp.app_eq]
            simp only
            split
            · rw [B.toNat_succ]; omega
            · exact Nat.le_refl _
        · cases h
      · obtain ⟨r, h1, h2, h3, h4⟩ := h
        exact fin (some r) _ ⟨r.ef.on H.m, r.hi⟩ ⟨hg, h1⟩ rfl rfl (fun ros nx' hc => ⟨h2, h3, hc⟩) h4
      · cases h
    · rename_i hg
      exact fin none _ H hg rfl rfl (fun ros nx' hc => hc) h
    · cases h

theorem Chain.le : ∀ {ros : List (Option Rec)} {nx nx' : B}, Chain nx ros nx' → nx.toNat ≤ nx'.toNat
  | [], nx, nx', h => by simp only [Chain] at h; subst h; exact Nat.le_refl _
  | some r :: ros, nx, nx', h => by
    obtain ⟨h1, h2, h3⟩ := h
    subst h1
    exact Nat.le_trans h2 h3.le
  | none :: ros, nx, nx', h => Chain.le (ros := ros) h
theorem Chain.all : ∀ {ros : List (Option Rec)} {nx nx' : B}, Chain nx ros nx' → (∀ ro ∈ ros, ∀ r, ro = some r → nx.toNat ≤ r.lo.toNat ∧ r.lo.toNat ≤ r.hi.toNat ∧ r.hi.toNat ≤ nx'.toNat) ∧ ros.Pairwise Seqd
  | [], nx, nx', h => ⟨fun ro h => by (cases h), List.Pairwise.nil⟩
  | some r :: ros, nx, nx', h => by
    obtain ⟨h1, h2, h3⟩ := h
    subst h1
    obtain ⟨q1, q2⟩ := h3.all
    refine ⟨fun ro hro r' hr => ?_, List.pairwise_cons.2 ⟨fun q hq => ?_, q2⟩⟩
    · rcases List.mem_cons.1 hro with rfl | hro
      · injection hr with hr; subst hr
        exact ⟨Nat.le_refl _, h2, h3.le⟩
      · have := q1 ro hro r' hr
        omega
    · cases q with
      | none => trivial
      | some q => exact (q1 _ hq q rfl).1
  | none :: ros, nx, nx', h => by
    obtain ⟨q1, q2⟩ := Chain.all (ros := ros) h
    refine ⟨fun ro hro r' hr => ?_, List.pairwise_cons.2 ⟨fun q hq => trivial, q2⟩⟩
    rcases List.mem_cons.1 hro with rfl | hro
    · cases hr
    · exact q1 ro hro r' hr
theorem mkL_ros : ∀ {k : Nat} {ss : List Stm} {ros : List (Option Rec)}, ros.length = ss.length → (mkL k ss ros).map (fun x => x.2.2) = ros
  | k, [], [], _ => rfl
  | k, s :: ss, ro :: ros, h => by simp only [mkL, List.map_cons]; rw [mkL_ros (by simpa using h)]
  | k, [], _ :: _, h => by simp at h
  | k, _ :: _, [], h => by simp at h
theorem mkL_idx : ∀ {k : Nat} {ss : List Stm} {ros : List (Option Rec)}, ros.length = ss.length → (mkL k ss ros).map (fun x => x.1) = List.range' k ss.length
  | k, [], [], _ => rfl
  | k, s :: ss, ro :: ros, h => by simp only [mkL, List.map_cons, List.length_cons, List.range'_succ]; rw [mkL_idx (by simpa using h)]
  | k, [], _ :: _, h => by simp at h
  | k, _ :: _, [], h => by simp at h
theorem mkL_get : ∀ {k : Nat} {ss : List Stm} {ros : List (Option Rec)} {it : It}, it ∈ mkL k ss ros → k ≤ it.1 ∧ ss[it.1 - k]? = some it.2.1 ∧ ros[it.1 - k]? = some it.2.2
  | k, [], [], it, h => by cases h
  | k, s :: ss, ro :: ros, it, h => by
    rcases List.mem_cons.1 h with rfl | h
    · simp
    · obtain ⟨h1, h2, h3⟩ := mkL_get h
      have e : it.1 - k = it.1 - (k + 1) + 1 := by omega
      rw [e]
      exact ⟨by omega, by simpa using h2, by simpa using h3⟩
  | k, [], _ :: _, it, h => by cases h
  | k, _ :: _, [], it, h => by cases h

/-! ### compiling a region -/
def dOk (n : Nat) : Option Tmp → Bool
  | some d => decide (d < n)
  | none => true
def cStms (P : Program) (n : Nat) (ops : Array Oper) (hint : Nat → Bool) : Nat → List Oper → Option (List Stm)
  | _, [] => some []
  | k, o :: os => match cStm P ops (hint k) o, cStms P n ops hint (k + 1) os with
    | some s, some ss => if dOk n o.dst = true then some (s :: ss) else none
    | _, _ => none
theorem cStms_ok {P : Program} {n : Nat} {ops : Array Oper} {hint : Nat → Bool} : ∀ {k : Nat} {os : List Oper} {ss : List Stm}, cStms P n ops hint k os = some ss →
    os.length = ss.length ∧ ∀ i s, ss[i]? = some s → ∃ o, os[i]? = some o ∧ cStm P ops (hint (k + i)) o = some s ∧ ∀ d, o.dst = some d → d < n
  | k, [], ss, h => by injection h with h; subst h; exact ⟨rfl, fun i s h => by simp at h⟩
  | k, o :: os, ss, h => by
    unfold cStms at h
    split at h
    · rename_i s ss' h1 h2
      split at h
      · rename_i hd
        injection h with h
        subst h
        obtain ⟨q1, q2⟩ := cStms_ok h2
        refine ⟨by simp [q1], fun i t ht => ?_⟩
        cases i with
        | zero =>
          simp only [List.getElem?_cons_zero, Option.some.injEq] at ht
          subst ht
          refine ⟨o, rfl, h1, fun d hod => ?_⟩
          rw [hod] at hd
          simpa [dOk] using hd
        | succ i =>
          simp only [List.getElem?_cons_succ] at ht ⊢
          obtain ⟨o', a, b, c⟩ := q2 i t ht
          refine ⟨o', a, ?_, c⟩
          rw [show k + (i + 1) = k + 1 + i by omega]
          exact b
      · cases h
    · cases h
theorem cmp_of {P : Program} {n : Nat} {ops : Array Oper} {hint : Nat → Bool} {ss : List Stm} (h : cStms P n ops hint 0 ops.toList = some ss) {ros : List (Option Rec)} : ∀ it ∈ mkL 0 ss ros, Cmp P ops n it.1 it.2.1 := by
  intro it hit
  obtain ⟨_, h1, _⟩ := mkL_get hit
  obtain ⟨o, a, b, c⟩ := (cStms_ok h).2 _ _ h1
  exact ⟨o, _, by simpa using a, b, c⟩

section
variable {P : Program} {fb : Nat → Prop} {φ : Phi} {w : World}
theorem HR.phi_none {H : Hp} (hH : HR fb φ H w) {p : B} (h : H.nx.toNat ≤ p.toNat) : φ p = none := by
  cases hp : φ p with
  | none => rfl
  | some x => have := hH.phl p x hp; omega
theorem nm_all {ss : List Stm} {ros : List (Option Rec)} {H : Hp} {nx' : B} (hH : HR fb φ H w) (hc : Chain H.nx ros nx') : ∀ it ∈ mkL 0 ss ros, NmO nx' φ it.2.2 := by
  intro it hit
  obtain ⟨_, _, h2⟩ := mkL_get hit
  cases hr : it.2.2 with
  | none => trivial
  | some r =>
    rw [hr] at h2
    obtain ⟨q1, q2, q3⟩ := hc.all.1 _ (List.mem_of_getElem? h2) r rfl
    exact ⟨q2, q3, fun p h3 _ => hH.phi_none (by omega)⟩
theorem seq_all {ss : List Stm} {ros : List (Option Rec)} (hl : ros.length = ss.length) {nx nx' : B} (hc : Chain nx ros nx') : (mkL 0 ss ros).Pairwise (fun x y => Seqd x.2.2 y.2.2) := by
  have := hc.all.2
  rw [← mkL_ros (k := 0) hl] at this
  exact List.pairwise_map.1 this
theorem out_all {ss : List Stm} {ros : List (Option Rec)} {nx nx' p : B} (hc : Chain nx ros nx') (hp : p.toNat < nx.toNat) : ∀ it ∈ mkL 0 ss ros, OutO p it.2.2 := by
  intro it hit
  obtain ⟨_, _, h2⟩ := mkL_get hit
  cases hr : it.2.2 with
  | none => trivial
  | some r =>
    rw [hr] at h2
    obtain ⟨q1, q2, q3⟩ := hc.all.1 _ (List.mem_of_getElem? h2) r rfl
    exact .inl (by omega)
/-- A region in the order of the text. -/
theorem rgT_ok {rnd : Option Nat} {n : Nat} {ops : Array Oper} {hint : Nat → Bool} {ss : List Stm} (hc : cStms P n ops hint 0 ops.toList = some ss) {a : Act} {id : Nat} {Q : Exit → Act → World → Prop} (hn : a.tmps.size = n) {fr : Tr AV} {H : Hp} (hH : HR fb φ H w) (hF : FR φ (wrs fb φ H) w fr a.tmps)
    {K : Tr AV → Hp → Prop} (h : aws P false ss fr H [] fun fr H _ => K fr H)
    (k : ∀ fr' H' φ' a' w', K fr' H' → a'.tmps.size = n → a'.defers = a.defers → H.nx.toNat ≤ H'.nx.toNat → (∀ p : B, p.toNat < H.nx.toNat → φ' p = φ p) → Ext fb φ H w φ' H' w' → HR fb φ' H' w' → FR φ' (wrs fb φ' H') w' fr' a'.tmps → Q .normal a' w') : (Code.region id ops false).wpIn (FW rnd) 0 P Q a w := by
  obtain ⟨ros, nx', h1, h2, h3, h4⟩ := aws_run (k := 0) h
  apply wpIn_region
  have e : List.range ops.size = (mkL 0 ss ros).map (fun x => x.1) := by
    rw [mkL_idx h1, List.range_eq_range', ← (cStms_ok hc).1]; simp
  rw [e]
  refine text_ok (nx := nx') _ (hn ▸ cmp_of hc) (HR.stay hH nx' h3.le) (hF.keep (Ext.stay hH nx').keep) h2 (nm_all hH h3) (seq_all h1 h3) ?_
  intro φ' a' w' q1 q2 qp q3 q4 q5
  exact k _ _ φ' a' w' h4 (q1.trans hn) q2 h3.le (fun p hp => qp p (out_all h3 hp)) ((Ext.stay hH nx').trans q3) q4 q5
end
end Go.Za
