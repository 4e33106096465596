/- The abstract machine, part 19: drawn regions, from the compiled statements. No condition. -/
import Derived.Test.YtaabgjmcikolfaaGreatDoorZa18
set_option linter.unusedVariables false
set_option linter.unusedSimpArgs false
namespace Go.Za
open Go.RowKit

def dNot (d : Option B) (l : List B) : Bool :=
  match d with
  | some d => !l.contains d
  | none => true
def IndSB (x y : Stm) : Bool := dNot x.dst y.ps && dNot y.dst x.ps && (match x.dst, y.dst with | some d, some d2 => decide (d ≠ d2) | _, _ => true)
theorem dNot_ok {d : Option B} {l : List B} (h : dNot d l = true) : ∀ p, d = some p → p ∉ l := by
  intro p hp
  subst hp
  simpa [dNot] using h
theorem indSB_ok {x y : Stm} (h : IndSB x y = true) : IndS x y := by
  simp only [IndSB, Bool.and_eq_true] at h
  obtain ⟨⟨h1, h2⟩, h3⟩ := h
  refine ⟨fun d hd => ⟨dNot_ok h1 d hd, fun he => ?_⟩, fun d hd => dNot_ok h2 d hd⟩
  rw [hd, he] at h3
  simp at h3
/-- The pairs that no edge orders. -/
def pairs (M : List Nat) (n : Nat) : List (Nat × Nat) := (List.range n).flatMap fun j => ((List.range j).filter fun i => !(M.getD j 0).testBit i).map fun i => (i, j)
def pOK (ss : List Stm) (p : Nat × Nat) : Bool := match ss[p.1]?, ss[p.2]? with | some x, some y => IndSB x y | _, _ => false
def sOK (ss : List Stm) (p : Nat × Nat) : Bool := match ss[p.1]?, ss[p.2]? with | some x, some y => statOK x.act.kd y.act.kd | _, _ => false
def fwd (ops : Array Oper) : Bool := (List.range ops.size).all fun i => match ops[i]? with | some o => (preds .any o).all fun j => decide (j < i) | none => true
/-- The statements of a drawn region, and the pairs of which it is to be shown that they are apart. -/
def cRgD (P : Program) (n : Nat) (ops : Array Oper) (hint : Nat → Bool) : Option (List Stm × List (Nat × Nat)) :=
  match cStms P n ops hint 0 ops.toList with
  | some ss =>
    let ps := pairs (mks .any ops.toList []) ss.length
    if fwd ops && ps.all (pOK ss) then some (ss, ps.filter fun p => !sOK ss p) else none
  | none => none
def chk : List (Nat × Nat) → List (Option Rec) → Prop
  | [], _ => True
  | (i, j) :: un, rs => (match rs[i]?, rs[j]? with | some r, some q => IndR r q | _, _ => False) ∧ chk un rs
theorem chk_ok : ∀ {un : List (Nat × Nat)} {rs : List (Option Rec)}, chk un rs → ∀ i j, (i, j) ∈ un → ∀ r q, rs[i]? = some r → rs[j]? = some q → IndR r q
  | [], rs, _, i, j, h, _, _, _, _ => by cases h
  | (a, b) :: un, rs, hc, i, j, h, r, q, hr, hq => by
    rcases List.mem_cons.1 h with h | h
    · injection h with h1 h2
      subst h1; subst h2
      have := hc.1
      rw [hr, hq] at this
      exact this
    · exact chk_ok hc.2 i j h r q hr hq

section
variable {P : Program} {fb : Nat → Prop} {φ : Phi} {w : World}
theorem run_did : ∀ {L : List It} {fr : Tr AV} {m : Tr Blk}, Run P L fr m → ∀ it ∈ L, ∃ fr m, Did1 P fr m it.2.1 it.2.2
  | [], fr, m, _, it, h => by cases h
  | (k, s, ro) :: L, fr, m, hr, it, h => by
    rcases List.mem_cons.1 h with rfl | h
    · exact ⟨fr, m, hr.1⟩
    · exact run_did hr.2 it h
theorem idx_all {ss : List Stm} {ros : List (Option Rec)} (hl : ros.length = ss.length) : (mkL 0 ss ros).Pairwise (fun x y => x.1 < y.1) := by
  have : (List.range' 0 ss.length).Pairwise (· < ·) := List.pairwise_lt_range'
  rw [← mkL_idx (k := 0) hl] at this
  exact List.pairwise_map.1 this
theorem pairs_mem {M : List Nat} {n i j : Nat} (hj : j < n) (hi : i < j) (h : (M.getD j 0).testBit i = false) : (i, j) ∈ pairs M n := by
  unfold pairs
  refine List.mem_flatMap.2 ⟨j, List.mem_range.2 hj, List.mem_map.2 ⟨i, List.mem_filter.2 ⟨List.mem_range.2 hi, ?_⟩, rfl⟩⟩
  simp only [h, Bool.not_false]

/-- A drawn region. -/
theorem rgD_ok {rnd : Option Nat} (hm : P.follows .mixedOrders = true) {n : Nat} {ops : Array Oper} {hint : Nat → Bool} {ss : List Stm} {un : List (Nat × Nat)} (hc : cRgD P n ops hint = some (ss, un)) {a : Act} {id : Nat} {Q : Exit → Act → World → Prop} (hn : a.tmps.size = n) {fr : Tr AV} {H : Hp}
    (hH : HR fb φ H w) (hF : FR φ (wrs fb φ H) w fr a.tmps) {tr : Bool} (htr : tr = true ∨ un = []) {K : Tr AV → Hp → Prop} (h : aws P tr ss fr H [] fun fr H acc => chk un acc.reverse ∧ K fr H)
    (k : ∀ fr' H' φ' a' w', K fr' H' → a'.tmps.size = n → a'.defers = a.defers → H.nx.toNat ≤ H'.nx.toNat → (∀ p : B, p.toNat < H.nx.toNat → φ' p = φ p) → Ext fb φ H w φ' H' w' → HR fb φ' H' w' → FR φ' (wrs fb φ' H') w' fr' a'.tmps → Q .normal a' w') : (Code.region id ops true).wpIn (FW rnd) 0 P Q a w := by
  unfold cRgD at hc
  split at hc
  · rename_i ss' hcs
    simp only at hc
    split at hc
    · rename_i hall
      injection hc with hc
      injection hc with e1 e2
      subst e1
      simp only [Bool.and_eq_true] at hall
      obtain ⟨ros, nx', h1, h2, h3, h4, h5⟩ := aws_run (k := 0) h
      apply wpIn_region_any hm
      have hlen := (cStms_ok hcs).1
      have hH0 : HR fb φ H w.drew := hH.drew
      have hE0 : Ext fb φ H w φ H w.drew := Ext.drew fb φ H w
      have hF0 : FR φ (wrs fb φ H) w.drew fr a.tmps := hF.keep hE0.keep
      have hst : ∀ i o, ops[i]? = some o → ∀ e ∈ o.after, Region.binds .any e = true → e.on < i := by
        intro i o hi e he hb
        have hf := hall.1
        unfold fwd at hf
        rw [List.all_eq_true] at hf
        have := hf i (List.mem_range.2 (Array.getElem?_eq_some_iff.1 hi).1)
        rw [hi] at this
        simp only [List.all_eq_true, preds, List.mem_map, List.mem_filter, decide_eq_true_eq] at this
        exact this e.on ⟨e, ⟨by simpa using he, hb⟩, rfl⟩
      have hsz : (mkL 0 ss' ros).length = ops.size := by
        have := congrArg List.length (mkL_idx (k := 0) h1)
        simp only [List.length_map, List.length_range'] at this
        rw [this, ← hlen]; simp
      refine any_ok (w := w.drew) hst ops.size (mkL 0 ss' ros) (nx := nx') hsz ?_ (hn ▸ cmp_of hcs) (HR.stay hH0 nx' h3.le) (hF0.keep (Ext.stay hH0 nx').keep) h2 (nm_all hH h3) (seq_all h1 h3) (idx_all h1) ?_ ?_
      · refine ⟨by simp, fun i hi => ?_, fun i o hi hl => ?_⟩
        · constructor
          · intro _
            have : i ∈ (mkL 0 ss' ros).map (fun x => x.1) := by
              rw [mkL_idx h1, ← hlen]
              simpa using hi
            obtain ⟨it, q1, q2⟩ := List.mem_map.1 this
            exact ⟨it, q1, q2⟩
          · intro _
            simp [hi]
        · exfalso
          have := (Array.getElem?_eq_some_iff.1 hi).1
          simp [this] at hl
      · refine List.Pairwise.imp_of_mem ?_ (idx_all h1)
        intro x y hx hy hxy
        obtain ⟨_, sx, rx⟩ := mkL_get hx
        obtain ⟨_, sy, ry⟩ := mkL_get hy
        simp only [Nat.sub_zero] at sx rx sy ry
        have hyn : y.1 < ss'.length := (List.getElem?_eq_some_iff.1 sy).1
        cases hb : ((mks .any ops.toList []).getD y.1 0).testBit x.1 with
        | true => exact .inl (mks_ok ops.toList [] (fun j o hj => by simpa using hj) (fun j i hh => by simp at hh) _ _ hb)
        | false =>
          right
          have hp := pairs_mem (M := mks .any ops.toList []) hyn hxy hb
          have h6 := List.all_eq_true.1 hall.2 _ hp
          simp only [pOK, sx, sy] at h6
          refine ⟨indSB_ok h6, ?_⟩
          cases hs : sOK ss' (x.1, y.1) with
          | true =>
            simp only [sOK, sx, sy] at hs
            obtain ⟨f1, m1, d1⟩ := run_did h2 x hx
            obtain ⟨f2, m2, d2⟩ := run_did h2 y hy
            cases hr : x.2.2 with
            | none => trivial
            | some r => cases hq : y.2.2 with
              | none => trivial
              | some q =>
                rw [hr] at d1
                rw [hq] at d2
                exact stat_ind hs d1.2 d2.2
          | false =>
            have hun : (x.1, y.1) ∈ un := by
              rw [← e2]
              exact List.mem_filter.2 ⟨hp, by simp [hs]⟩
            rcases htr with htr | htr
            · subst htr
              simp only [if_true, List.append_nil, List.reverse_reverse] at h4
              exact chk_ok h4 _ _ hun _ _ rx ry
            · rw [htr] at hun; cases hun
      · intro φ' a' w' q1 q2 qp q3 q4 q5
        exact k _ _ φ' a' w' h5 (q1.trans hn) q2 h3.le (fun p hp => qp p (out_all h3 hp)) (hE0.trans ((Ext.stay hH0 nx').trans q3)) q4 q5
    · cases hc
  · cases hc
end
end Go.Za
