/- The abstract machine, part 16: a region in any order. No condition. -/
import Derived.Test.YtaabgjmcikolfaaGreatDoorZa15
set_option linter.unusedVariables false
set_option linter.unusedSimpArgs false
namespace Go.Za
open Go.RowKit

/-- x is behind y, by the edges. -/
inductive Anc (md : Region.Mode) (ops : Array Oper) (x : Nat) : Nat → Prop
  | one {y : Nat} {o : Oper} {e : Edge} (h : ops[y]? = some o) (he : e ∈ o.after) (hb : Region.binds md e = true) (hx : e.on = x) : Anc md ops x y
  | more {y : Nat} {o : Oper} {e : Edge} (h : ops[y]? = some o) (he : e ∈ o.after) (hb : Region.binds md e = true) (hx : Anc md ops x e.on) : Anc md ops x y

section
variable {P : Program} {fb : Nat → Prop} {φ φ' : Phi} {w w' : World} {md : Region.Mode} {ops : Array Oper}

structure Lst (md : Region.Mode) (ops : Array Oper) (listed : Array Bool) (L : List It) : Prop where
  size : listed.size = ops.size
  mem : ∀ i, i < ops.size → (listed.getD i true = false ↔ ∃ it ∈ L, it.1 = i)
  down : ∀ i o, ops[i]? = some o → listed.getD i false = true → ∀ e ∈ o.after, Region.binds md e = true → listed.getD e.on false = true
theorem Lst.anc {listed : Array Bool} {L : List It} (h : Lst md ops listed L) {x y : Nat} (ha : Anc md ops x y) (hy : ∀ o, ops[y]? = some o → ∀ e ∈ o.after, Region.binds md e = true → listed.getD e.on false = true) : listed.getD x false = true := by
  induction ha with
  | one h1 h2 h3 h4 => subst h4; exact hy _ h1 _ h2 h3
  | more h1 h2 h3 h4 ih =>
    refine ih fun o ho e he hb => h.down _ _ ho (hy _ h1 _ h2 h3) e he hb

theorem any_ok {rnd : Option Nat} {Q : Exit → Act → World → Prop} {nx : B} (hst : ∀ i o, ops[i]? = some o → ∀ e ∈ o.after, Region.binds md e = true → e.on < i) : ∀ (n : Nat) (L : List It) {listed : Array Bool} {φ : Phi} {w : World} {a : Act} {fr : Tr AV} {m : Tr Blk}, L.length = n →
    Lst md ops listed L → (∀ it ∈ L, Cmp P ops a.tmps.size it.1 it.2.1) →
    HR fb φ ⟨m, nx⟩ w → FR φ (wrs fb φ ⟨m, nx⟩) w fr a.tmps → Run P L fr m → (∀ it ∈ L, NmO nx φ it.2.2) →
    L.Pairwise (fun x y => Seqd x.2.2 y.2.2) → L.Pairwise (fun x y => x.1 < y.1) → L.Pairwise (fun x y => Anc md ops x.1 y.1 ∨ Ind x y) →
    (∀ φ' a' w', a'.tmps.size = a.tmps.size → a'.defers = a.defers → (∀ p, (∀ it ∈ L, OutO p it.2.2) → φ' p = φ p) → Ext fb φ ⟨m, nx⟩ w φ' ⟨finM L m, nx⟩ w' → HR fb φ' ⟨finM L m, nx⟩ w' → FR φ' (wrs fb φ' ⟨finM L m, nx⟩) w' (finF L fr) a'.tmps → Q .normal a' w') →
    wpAnyIn (FW rnd) 0 P md ops Q n listed a w
  | 0, [], listed, φ, w, a, fr, m, _, hl, _, hH, hF, _, _, _, _, _, k => by
    refine ⟨?_, k φ a w rfl rfl (fun _ _ => rfl) (Ext.refl ..) hH hF⟩
    cases hr : Region.ready md ops listed with
    | nil => rfl
    | cons i l =>
      have hi : i ∈ Region.ready md ops listed := by rw [hr]; exact List.mem_cons_self ..
      obtain ⟨h1, o, h2, _⟩ := mem_ready.1 hi
      obtain ⟨it, h3, _⟩ := (hl.mem i (Array.getElem?_eq_some_iff.1 h2).1).1 h1
      cases h3
  | 0, _ :: _, listed, φ, w, a, fr, m, hn, _, _, _, _, _, _, _, _, _, _ => by simp at hn
  | n + 1, [], listed, φ, w, a, fr, m, hn, _, _, _, _, _, _, _, _, _, _ => by simp at hn
  | n + 1, it0 :: L0, listed, φ, w, a, fr, m, hn, hl, hc, hH, hF, hr, hnm, hs, hlt, hind, k => by
    refine ⟨fun he => ?_, fun i hi => ?_⟩
    · exfalso
      obtain ⟨o, hint, ho, _⟩ := hc it0 (List.mem_cons_self ..)
      have hsz := (Array.getElem?_eq_some_iff.1 ho).1
      have : it0.1 ∈ Region.ready md ops listed := by
        refine mem_ready.2 ⟨(hl.mem _ hsz).2 ⟨it0, List.mem_cons_self .., rfl⟩, o, ho, fun e he hb => ?_⟩
        have h1 := hst _ _ ho e he hb
        have h2 : e.on < ops.size := by omega
        have h3 : ¬ listed.getD e.on true = false := fun h => by
          obtain ⟨it, h4, h5⟩ := (hl.mem _ h2).1 h
          rcases List.mem_cons.1 h4 with rfl | h4
          · omega
          · have := (List.pairwise_cons.1 hlt).1 it h4
            omega
        have h6 : e.on < listed.size := by rw [hl.size]; exact h2
        simpa [h6] using h3
      rw [he] at this
      cases this
    · obtain ⟨h1, o, ho, hall⟩ := mem_ready.1 hi
      have hsz := (Array.getElem?_eq_some_iff.1 ho).1
      obtain ⟨it, hmem, hidx⟩ := (hl.mem i hsz).1 h1
      generalize hL : it0 :: L0 = L at *
      obtain ⟨L1, L2, hsplit⟩ := List.append_of_mem hmem
      subst hsplit
      have hpi := List.pairwise_append.1 hind
      have hps := List.pairwise_append.1 hs
      have hpl := List.pairwise_append.1 hlt
      have hindL : ∀ x ∈ L1, Ind x it := fun x hx => by
        rcases hpi.2.2 x hx it (List.mem_cons_self ..) with h2 | h2
        · exfalso
          rw [hidx] at h2
          have h3 := hl.anc h2 (fun o' ho' e he hb => by rw [ho] at ho'; injection ho' with ho'; subst ho'; exact hall e he hb)
          have hxs : x.1 < ops.size := by
            obtain ⟨ox, _, hox, _⟩ := hc x (List.mem_append_left _ hx)
            exact (Array.getElem?_eq_some_iff.1 hox).1
          have h4 := (hl.mem x.1 hxs).2 ⟨x, List.mem_append_left _ hx, rfl⟩
          have h5 : x.1 < listed.size := by rw [hl.size]; exact hxs
          simp [h5] at h3 h4
          rw [h3] at h4
          cases h4
        · exact h2
      obtain ⟨r1, r2, r3⟩ := bubble hr hindL
      obtain ⟨o', hint, ho', hcs, hd⟩ := hc it hmem
      obtain ⟨ii, s, ro⟩ := it
      simp only at hidx
      subst hidx
      have hsub : ∀ x ∈ L1 ++ L2, x ∈ L1 ++ (ii, s, ro) :: L2 := fun x hx => by
        rcases List.mem_append.1 hx with hx | hx
        · exact List.mem_append_left _ hx
        · exact List.mem_append_right _ (List.mem_cons_of_mem _ hx)
      refine stm_ok ho' hcs hd hH hF r1.1 (Nat.le_refl _) (hnm _ hmem) ?_
      intro φ1 a1 w1 e1 e2 hE hH1 hF1 hout
      refine any_ok hst n (L1 ++ L2) ?_ ?_ (fun x hx => e1 ▸ hc x (hsub x hx)) hH1 hF1 r1.2 ?_ ?_ ?_ ?_ ?_
      · simp at hn ⊢; omega
      · refine ⟨by simp [hl.size], fun j hj => ?_, fun j oj hoj hlj e he hb => ?_⟩
        · by_cases hij : ii = j
          · subst hij
            have h5 : ii < listed.size := by rw [hl.size]; exact hj
            constructor
            · intro h; simp [h5] at h
            · rintro ⟨x, hx, hxi⟩
              exfalso
              rcases List.mem_append.1 hx with hx | hx
              · have := hpl.2.2 x hx _ (List.mem_cons_self ..)
                simp only at this
                omega
              · have := (List.pairwise_cons.1 hpl.2.1).1 x hx
                simp only at this
                omega
          · rw [getD_set_ne true hij, hl.mem j hj]
            constructor
            · rintro ⟨x, hx, hxi⟩
              rcases List.mem_append.1 hx with hx | hx
              · exact ⟨x, List.mem_append_left _ hx, hxi⟩
              · rcases List.mem_cons.1 hx with rfl | hx
                · exact absurd hxi hij
                · exact ⟨x, List.mem_append_right _ hx, hxi⟩
            · rintro ⟨x, hx, hxi⟩
              exact ⟨x, hsub x hx, hxi⟩
        · by_cases hij : ii = j
          · subst hij
            rw [ho] at hoj
            injection hoj with hoj
            subst hoj
            exact getD_set_true (hall e he hb)
          · rw [getD_set_ne false hij] at hlj
            exact getD_set_true (hl.down j oj hoj hlj e he hb)
      · intro x hx
        refine nm_next hout ?_ (hnm _ hmem) (hnm x (hsub x hx))
        rcases List.mem_append.1 hx with hx | hx
        · exact .inr (hps.2.2 x hx _ (List.mem_cons_self ..))
        · exact .inl ((List.pairwise_cons.1 hps.2.1).1 x hx)
      · exact List.pairwise_append.2 ⟨hps.1, (List.pairwise_cons.1 hps.2.1).2, fun x hx y hy => hps.2.2 x hx y (List.mem_cons_of_mem _ hy)⟩
      · exact List.pairwise_append.2 ⟨hpl.1, (List.pairwise_cons.1 hpl.2.1).2, fun x hx y hy => hpl.2.2 x hx y (List.mem_cons_of_mem _ hy)⟩
      · exact List.pairwise_append.2 ⟨hpi.1, (List.pairwise_cons.1 hpi.2.1).2, fun x hx y hy => hpi.2.2 x hx y (List.mem_cons_of_mem _ hy)⟩
      · intro φ2 a2 w2 q1 q2 hp hE2 hH2 hF2
        have hme : ME (finM (L1 ++ L2) (onO m ro)) (finM (L1 ++ (ii, s, ro) :: L2) m) := fun p => (r3 p).symm
        have hfe : FE (finF (L1 ++ L2) (putA fr s.dst (valO ro))) (finF (L1 ++ (ii, s, ro) :: L2) fr) := fun p => (r2 p).symm
        refine k φ2 a2 w2 (q1.trans e1) (q2.trans e2) (fun p hq => (hp p fun x hx => hq x (hsub x hx)).trans (hout p (hq _ hmem))) (Ext.me hme (hE.trans hE2)) (HR.me hme hH2) ?_
        rw [← wrs_me (nx := nx) hme]
        exact hF2.fe hfe
end
end Go.Za
