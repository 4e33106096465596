/- The abstract machine, part 8: append, len, and the small ones. No condition. -/
import Derived.Test.YtaabgjmcikolfaaGreatDoorZa7
import Derived.Laws.AppendOwn
set_option linter.unusedVariables false
set_option linter.unusedSimpArgs false
namespace Go.Za
open Go.RowKit

section
variable {P : Program} {fb : Nat → Prop} {φ : Phi} {H : Hp} {wr : Nat → Prop} {w : World}

/-- The rows ys as plain values. -/
def Rel (φ : Phi) (wr : Nat → Prop) (w : World) (sz : Nat) (ys : List (List AV)) (news : List Value) : Prop :=
  news.length = ys.length * sz ∧ ∀ j r, ys[j]? = some r → r.length = sz ∧ (∀ c ∈ r, c.one = true) ∧ ∀ m c, r[m]? = some c → ∃ u, news[j * sz + m]? = some u ∧ AR φ wr w c u

theorem rel_of_ARr {a : Addr} (ha : a.spot = none) {sz : Nat} (hs : 0 < sz) {ys : List (List AV)} (h : ARr φ wr w a sz 0 ys) :
    ∃ news, Rel φ wr w sz ys news ∧ ∀ j u, news[j]? = some u → w.cell? (a.add j) = some u := by
  have cell : ∀ j, j < ys.length * sz → ∃ u, w.cell? (a.add j) = some u := by
    intro j hj
    have hq : j / sz < ys.length := by rw [Nat.div_lt_iff_lt_mul hs]; exact hj
    obtain ⟨h1, h2⟩ := h.get (j / sz) _ (List.getElem?_eq_getElem hq)
    have hm : j % sz < ys[j / sz].length := by rw [h1]; exact Nat.mod_lt _ hs
    obtain ⟨u, h3, _⟩ := h2.get (j % sz) _ (List.getElem?_eq_getElem hm)
    rw [add_add ha, Nat.zero_add, Nat.zero_add, Nat.div_add_mod'] at h3
    exact ⟨u, h3⟩
  let news : List Value := (List.range (ys.length * sz)).map fun j => (w.cell? (a.add j)).getD undef
  have hn : ∀ j, j < ys.length * sz → news[j]? = some ((w.cell? (a.add j)).getD undef) := by
    intro j hj
    simp [news, hj]
  have hlen : news.length = ys.length * sz := by simp [news]
  refine ⟨news, ⟨hlen, fun j r hj => ?_⟩, fun j u hj => ?_⟩
  · obtain ⟨h1, h2⟩ := h.get j r hj
    refine ⟨h1, h2.ones, fun m c hm => ?_⟩
    obtain ⟨u, h3, h4⟩ := h2.get m c hm
    have hjl : j < ys.length := (List.getElem?_eq_some_iff.1 hj).1
    have hml : m < sz := by rw [← h1]; exact (List.getElem?_eq_some_iff.1 hm).1
    have hfit : j * sz + sz ≤ ys.length * sz := by
      have : (j + 1) * sz ≤ ys.length * sz := Nat.mul_le_mul_right _ hjl
      rwa [Nat.add_mul, Nat.one_mul] at this
    rw [add_add ha, Nat.zero_add, Nat.zero_add] at h3
    refine ⟨u, ?_, h4⟩
    rw [hn _ (by omega), h3]
    rfl
  · have hjl : j < ys.length * sz := by rw [← hlen]; exact (List.getElem?_eq_some_iff.1 hj).1
    obtain ⟨v, hv⟩ := cell j hjl
    rw [hn j hjl, hv] at hj
    injection hj with hj
    rw [← hj]
    exact hv
theorem Rel.ones {sz : Nat} (hs : 0 < sz) {ys : List (List AV)} {news : List Value} (h : Rel φ wr w sz ys news) : ∀ u ∈ news, u.oneCell' = true := by
  intro u hu
  obtain ⟨j, hj, rfl⟩ := List.mem_iff_getElem.1 hu
  have hq : j / sz < ys.length := by rw [Nat.div_lt_iff_lt_mul hs, ← h.1]; exact hj
  obtain ⟨h1, h2, h3⟩ := h.2 (j / sz) _ (List.getElem?_eq_getElem hq)
  have hm : j % sz < ys[j / sz].length := by rw [h1]; exact Nat.mod_lt _ hs
  obtain ⟨v, h4, h5⟩ := h3 (j % sz) _ (List.getElem?_eq_getElem hm)
  rw [Nat.div_add_mod', List.getElem?_eq_getElem hj] at h4
  injection h4 with h4
  rw [h4]
  exact h5.one (h2 _ (List.getElem_mem hm))
theorem Rel.nil (sz : Nat) : Rel φ wr w sz [] [] := ⟨by simp, fun j r h => by simp at h⟩
theorem Rel.append {sz : Nat} {xs ys : List (List AV)} {olds news : List Value} (h : Rel φ wr w sz xs olds) (k : Rel φ wr w sz ys news) : Rel φ wr w sz (xs ++ ys) (olds ++ news) := by
  refine ⟨by rw [List.length_append, List.length_append, h.1, k.1, Nat.add_mul], fun j r hj => ?_⟩
  rw [List.getElem?_append] at hj
  split at hj
  · rename_i hlt
    obtain ⟨h1, h2, h3⟩ := h.2 j r hj
    refine ⟨h1, h2, fun m c hm => ?_⟩
    obtain ⟨u, h4, h5⟩ := h3 m c hm
    refine ⟨u, ?_, h5⟩
    rw [List.getElem?_append_left (List.getElem?_eq_some_iff.1 h4).1]
    exact h4
  · rename_i hge
    obtain ⟨h1, h2, h3⟩ := k.2 _ r hj
    refine ⟨h1, h2, fun m c hm => ?_⟩
    obtain ⟨u, h4, h5⟩ := h3 m c hm
    refine ⟨u, ?_, h5⟩
    have hmul : xs.length * sz ≤ j * sz := Nat.mul_le_mul_right _ (by omega)
    rw [List.getElem?_append_right (by rw [h.1]; omega), ← h4, h.1]
    congr 1
    rw [Nat.sub_mul]
    omega
theorem Rel.keep {φ' : Phi} {wr' : Nat → Prop} {w' : World} (hk : Keep φ wr w φ' wr' w') {sz : Nat} {xs : List (List AV)} {olds : List Value} (h : Rel φ wr w sz xs olds) : Rel φ' wr' w' sz xs olds :=
  ⟨h.1, fun j r hj => by
    obtain ⟨h1, h2, h3⟩ := h.2 j r hj
    refine ⟨h1, h2, fun m c hm => ?_⟩
    obtain ⟨u, h4, h5⟩ := h3 m c hm
    exact ⟨u, h4, AR.keep hk _ _ h5⟩⟩

theorem rows_src (hH : HR fb φ H w) {sz : Nat} (hs : 0 < sz) {y : AV} {v : Value} {q : Bool} {ys : List (List AV)} (hy : AR φ (wrs fb φ H) w y v) (h : rowsOf H.m sz y = some (q, ys)) :
    ∃ A c news, v = .slice A ys.length c ∧ Rel (pof q φ) (wrs fb φ H) w sz ys news ∧ (0 < ys.length → ∃ a : Addr, A = some a ∧ ∀ j u, news[j]? = some u → w.cell? (a.add j) = some u) := by
  unfold rowsOf at h
  split at h
  · injection h with h; injection h with h0 h; subst h; subst h0
    simp only [AR] at hy
    obtain ⟨A, rfl⟩ := hy
    exact ⟨A, 0, [], rfl, Rel.nil sz, fun h => absurd h (by simp)⟩
  · rename_i z xs
    split at h
    · rename_i hz
      injection h with h; injection h with h0 h; subst h; subst h0; subst hz
      simp only [AR] at hy
      obtain ⟨A, cap, rfl, h2, h3, h4⟩ := hy
      by_cases hx : xs = []
      · subst hx
        exact ⟨A, cap, [], rfl, Rel.nil z, fun h => absurd h (by simp)⟩
      · obtain ⟨a, rfl, h5, h6, h7, h8⟩ := h4 hx
        obtain ⟨news, h9, h10⟩ := rel_of_ARr h5 h3 h8
        exact ⟨_, cap, news, rfl, h9, fun _ => ⟨a, rfl, h10⟩⟩
    · cases h
  · rename_i b lo n
    split at h
    · rename_i z lv pur xs hb
      split at h
      · rename_i hc
        obtain ⟨hz, hfit⟩ := hc
        injection h with h; injection h with h0 h; subst h; subst h0; subst hz
        simp only [AR] at hy
        obtain ⟨g, s, cap, c0, ty, fz, h1, rfl, h3, h4, h5, h6⟩ := hy
        have hse := rows_sz hH hb h1
        subst hse
        obtain ⟨g', ty', c1, k1, k2, k3, k4, k5⟩ := hH.blk b _ hb
        rw [h1] at k1
        injection k1 with k1
        injection k1 with k1 _
        subst k1
        have hl : ((xs.drop lo).take n).length = n := by simp; omega
        have hr : ARr (pof pur φ) (wrs fb φ H) w ⟨g, lo * s, none⟩ s 0 ((xs.drop lo).take n) := by
          refine ARr.mk fun j r hj => ?_
          rw [List.getElem?_take, List.getElem?_drop] at hj
          split at hj
          · obtain ⟨q1, q2⟩ := k5.get (lo + j) r hj
            refine ⟨q1, ?_⟩
            rw [add_spot rfl] at q2 ⊢
            simp only [Nat.zero_add] at q2 ⊢
            rwa [Nat.add_mul] at q2
          · cases hj
        obtain ⟨news, h9, h10⟩ := rel_of_ARr rfl h6 hr
        refine ⟨_, cap, news, by rw [hl], h9, fun _ => ⟨_, rfl, h10⟩⟩
      · cases h
    · cases h
  · cases h

theorem br_rows {g : Nat} {ty : TypeId} {c0 : Array Value} {sz : Nat} (hs : 0 < sz) {p : B} {lv pur : Bool} {xs : List (List AV)} (hφ : φ p = some (g, sz)) (hg : w.heap[g]? = some (.cells c0 ty (0, 0)))
    {all : List Value} (hall : c0.toList.take all.length = all) (h : Rel (pof pur φ) wr w sz xs all) : BR φ wr w p (.rows sz lv pur xs) := by
  have hle : all.length ≤ c0.size := by
    have := congrArg List.length hall
    simp at this
    omega
  refine ⟨g, ty, c0, hφ, hs, hg, by rw [← h.1]; exact hle, ARr.mk fun j r hj => ?_⟩
  obtain ⟨h1, h2, h3⟩ := h.2 j r hj
  refine ⟨h1, ARc.mk h2 fun m c hm => ?_⟩
  obtain ⟨u, h4, h5⟩ := h3 m c hm
  refine ⟨u, ?_, h5⟩
  rw [add_spot (add_spot_none rfl _), add_spot rfl]
  simp only [Nat.zero_add]
  have hjm : j * sz + m < all.length := (List.getElem?_eq_some_iff.1 h4).1
  rw [← hall, List.getElem?_take, if_pos hjm] at h4
  simpa [World.cell?, hg] using h4

theorem Rel.pof_and {p q : Bool} {sz : Nat} {xs : List (List AV)} {news : List Value} (h : Rel (pof p φ) wr w sz xs news) : Rel (pof (p && q) φ) wr w sz xs news :=
  ⟨h.1, fun j r hj => by
    obtain ⟨h1, h2, h3⟩ := h.2 j r hj
    refine ⟨h1, h2, fun m c hm => ?_⟩
    obtain ⟨u, h4, h5⟩ := h3 m c hm
    exact ⟨u, h4, h5.pof_and⟩⟩
theorem Rel.pof_and' {p q : Bool} {sz : Nat} {xs : List (List AV)} {news : List Value} (h : Rel (pof q φ) wr w sz xs news) : Rel (pof (p && q) φ) wr w sz xs news := by
  rw [Bool.and_comm]; exact h.pof_and
theorem app_ok (hH : HR fb φ H w) {t ty e : TypeId} {i : TypeInfo} {z : Value} (ht : P.underlying t = some (.slice e)) (hi : P.info? e = some i) (hz : i.zero = some z) (hzs : z.cells.size = i.size) (hs : 0 < i.size) (hby : 0 < i.bytes)
    {x y r : AV} {vx vy : Value} {ef : Eff} (hx : AR φ (wrs fb φ H) w x vx) (hy : AR φ (wrs fb φ H) w y vy) {nb nx : B} (h : appA H.m nb i.size i.bytes x y = some (r, ef))
    (hb : φ nb = none) (hd : ∀ k0, H.m.get nb = some k0 → k0.wrt = false) (hlt : ef.fresh = true → nb.toNat < nx.toNat) (hnx : H.nx.toNat ≤ nx.toNat) :
    ∃ cv w' φ', (Builtin.append_ #[t, t] ty #[vx, vy]).run P w = .ok cv w' ∧ Ext fb φ H w φ' ⟨ef.on H.m nb, nx⟩ w' ∧ HR fb φ' ⟨ef.on H.m nb, nx⟩ w' ∧ AR φ' (wrs fb φ' ⟨ef.on H.m nb, nx⟩) w' r cv ∧ (∀ p, p ≠ nb → φ' p = φ p) ∧ (ef.fresh = false → φ' = φ) := by
  have noeff : ∀ {v : AV} {cv : Value}, AR φ (wrs fb φ H) w v cv → Ext fb φ H w φ ⟨(Eff.no).on H.m nb, nx⟩ w ∧ HR fb φ ⟨(Eff.no).on H.m nb, nx⟩ w ∧ AR φ (wrs fb φ ⟨(Eff.no).on H.m nb, nx⟩) w v cv := by
    intro v cv hv
    refine ⟨⟨rfl, rfl, rfl, Nat.le_refl _, fun _ _ _ => rfl, fun _ c _ fz h => ⟨c, fz, h, rfl⟩, fun _ _ h => h, fun _ _ h => h⟩, ⟨fun p k hp => Nat.lt_of_lt_of_le (hH.lt p k hp) hnx, fun p k hp => Nat.lt_of_lt_of_le (hH.phl p k hp) hnx, hH.phw, hH.inj, hH.blk, hH.fbl⟩, hv⟩
  unfold appA at h
  split at h
  · cases h
  rename_i qf ys hys
  obtain ⟨A, c, news, rfl, hrel, hsrc⟩ := rows_src hH hs hy hys
  unfold appR at h
  split at h
  · -- an empty one
    simp only [AR] at hx
    obtain ⟨A0, rfl⟩ := hx
    split at h
    · rename_i h0
      injection h with h
      injection h with h1 h2
      subst h1; subst h2
      obtain ⟨q1, q2, q3⟩ := noeff (v := .e0) (cv := .slice A0 0 0) (by simp only [AR]; exact ⟨A0, rfl⟩)
      refine ⟨.slice A0 0 0, w, φ, ?_, q1, q2, q3, fun _ _ => rfl, fun _ => rfl⟩
      rw [h0]
      cases A <;> cases A0 <;> simp [Builtin.append_, run_underlying ht, run_sizeOf' hi, Builtin.lenOf, Builtin.firstCells, loadCells, loadCellsFrom, storeCells]
    · rename_i h0
      split at h
      · rename_i hbd
        injection h with h
        injection h with h1 h2
        subst h1; subst h2
        have hpos : 0 < ys.length := by omega
        obtain ⟨a, rfl, hcell⟩ := hsrc hpos
        have hle63 : ys.length ≤ 1099511627776 := Nat.le_trans (Nat.le_mul_of_pos_right _ hby) hbd
        have hcap := grownCap_ge w ys.length 0 e
        have hrun : (Builtin.append_ #[t, t] ty #[.slice A0 0 0, .slice (some a) ys.length c]).run P w =
            .ok (.slice (some ⟨w.heap.size, 0, none⟩) ys.length (grownCap w ys.length 0 e)) (w.drew.alloc (.cells (news ++ (Builtin.zeroCells z.cells (grownCap w ys.length 0 e - ys.length)).toList).toArray e)) := by
          cases A0 with
          | none =>
            rw [run_append_nil w t ty e i z ht hi hz a ys.length c news hrel.1 hcell hpos (by omega) (by omega)]
            congr 3
            apply Array.ext'
            simp
          | some a0 =>
            have := run_append_grow (P := P) w t ty e i z ht hi hz a0 0 0 [] (by simp) (fun j v h => by simp at h) a ys.length c news hrel.1 hcell (by omega) (by omega) (growslice_fits (by omega) (by rw [Nat.zero_add]; omega))
            rw [Nat.zero_add] at this
            rw [this]
            congr 3
            apply Array.ext'
            simp
        have hzl : (Builtin.zeroCells z.cells (grownCap w ys.length 0 e - ys.length)).toList.length = (grownCap w ys.length 0 e - ys.length) * i.size := by
          rw [Array.length_toList, size_zeroCells, hzs]
        have hH' := hH.drew
        have hk := (Ext.drew fb φ H w).keep
        have hrel' := Rel.keep (hk.pof qf) hrel
        have hnb : NB φ (wrs fb φ H) w.drew (.cells (news ++ (Builtin.zeroCells z.cells (grownCap w ys.length 0 e - ys.length)).toList).toArray e) i.size (.rows i.size true qf ys) :=
          ⟨e, _, rfl, hs, rfl, by rw [List.length_append, hrel.1]; omega, fun j r hj => by
            obtain ⟨q1, q2, q3⟩ := hrel'.2 j r hj
            refine ⟨q1, q2, fun m c hm => ?_⟩
            obtain ⟨u, q4, q5⟩ := q3 m c hm
            exact ⟨u, by rw [List.getElem?_append_left (List.getElem?_eq_some_iff.1 q4).1]; exact q4, q5⟩⟩
        have hlt' := hlt rfl
        have hE := Ext.alloc hH' (.cells (news ++ (Builtin.zeroCells z.cells (grownCap w ys.length 0 e - ys.length)).toList).toArray e) nb (.rows i.size true qf ys) nx i.size hb hd
        refine ⟨_, _, _, hrun, (Ext.drew fb φ H w).trans hE, HR.alloc hH' _ nb (.rows i.size true qf ys) nx i.size hb hd hlt' hnx hnb, ?_, fun p hp => by simp [Phi.set, Ne.symm hp], fun hf => by cases hf⟩
        simp only [AR]
        refine ⟨w.heap.size, i.size, grownCap w ys.length 0 e, _, e, _, by simp [Phi.set], by simp, heap_alloc_new' w.drew _, ?_, hcap, hs⟩
        simp only [List.size_toArray, List.length_append, hrel.1, hzl, Nat.zero_add]
        rw [← Nat.add_mul]
        exact Nat.le_of_eq (by congr 1; omega)
      · cases h
  · -- one of the call's own
    rename_i b n
    split at h
    · rename_i zz pf xs hbk
      split at h
      · rename_i hc0
        obtain ⟨hz0, hn⟩ := hc0
        subst hz0
        have hx' := hx
        simp only [AR] at hx
        obtain ⟨g, s0, cap, c0, ty0, fz0, k1, rfl, k3, k4, k5, k6⟩ := hx
        have hse := rows_sz hH hbk k1
        subst hse
        split at h
        · rename_i h0
          injection h with h
          injection h with h1 h2
          subst h1; subst h2
          obtain ⟨q1, q2, q3⟩ := noeff hx'
          refine ⟨_, w, φ, ?_, q1, q2, q3, fun _ _ => rfl, fun _ => rfl⟩
          rw [h0]
          cases A <;> simp [Builtin.append_, run_underlying ht, run_sizeOf' hi, Builtin.lenOf, Builtin.firstCells, loadCells, loadCellsFrom, storeCells, k5]
        · rename_i h0
          split at h
          · rename_i hbd
            injection h with h
            injection h with h1 h2
            subst h1; subst h2
            have hpos : 0 < ys.length := by omega
            obtain ⟨a, rfl, hcell⟩ := hsrc hpos
            have hle63 : n + ys.length ≤ 1099511627776 := Nat.le_trans (Nat.le_mul_of_pos_right _ hby) hbd
            obtain ⟨g', ty', c1, l1, l2, l3, l4, l5⟩ := hH.blk b _ hbk
            rw [k1] at l1
            injection l1 with l1
            injection l1 with l1 _
            subst l1
            rw [k3] at l3
            injection l3 with l3
            injection l3 with l3 l3' l3''
            subst l3; subst l3'; subst l3''
            obtain ⟨olds, o1, o2⟩ := rel_of_ARr rfl hs l5
            have hon : olds.length = n * i.size := by rw [o1.1, hn]
            have htake : c0.toList.take (n * i.size) = olds := by
              apply List.ext_getElem?
              intro j
              rw [List.getElem?_take]
              split
              · rename_i hj
                have hj' : j < olds.length := by omega
                have := o2 j _ (List.getElem?_eq_getElem hj')
                rw [List.getElem?_eq_getElem hj', ← this, add_spot rfl]
                simp [World.cell?, k3]
              · rename_i hj
                rw [List.getElem?_eq_none (by omega)]
            have hall := (o1.pof_and (q := qf)).append (hrel.pof_and' (p := pf))
            have hlt' := hlt rfl
            have hmulc : (0 + cap) * i.size = cap * i.size := by rw [Nat.zero_add]
            by_cases hroom : n + ys.length ≤ cap
            · -- there is room
              have hfit : n * i.size + news.length ≤ c0.size := by
                rw [hrel.1, ← Nat.add_mul]
                have : (n + ys.length) * i.size ≤ cap * i.size := Nat.mul_le_mul_right _ hroom
                omega
              have hf := run_firstCells_some (P := P) w i.size ys.length a ys.length c news hrel.1 hcell
              have hst := run_storeCells_at P g (n * i.size) ty0 news 0 c0 w k3 (by simpa using hfit) (hrel.ones hs)
              simp only [Nat.add_zero] at hst
              have hrun : (Builtin.append_ #[t, t] ty #[.slice (some ⟨g, 0 * i.size, none⟩) n cap, .slice (some a) ys.length c]).run P w =
                  .ok (.slice (some ⟨g, 0, none⟩) (n + ys.length) cap) (w.setRow g (c0.toList.take (n * i.size) ++ news ++ c0.toList.drop (n * i.size + news.length)).toArray) := by
                simp [Builtin.append_, run_underlying ht, run_sizeOf' hi, Builtin.lenOf, hroom, hf, add_spot, hst]
              obtain ⟨f1, f2, f3, f4, f5, f6⟩ := setRow_facts k3 (c0.toList.take (n * i.size) ++ news ++ c0.toList.drop (n * i.size + news.length)).toArray
              have hsize : (c0.toList.take (n * i.size) ++ news ++ c0.toList.drop (n * i.size + news.length)).toArray.size = c0.size := by simp; omega
              have hE := Ext.mov hH (k' := .rows i.size true (pf && qf) (xs ++ ys)) (g' := g) (s' := i.size) hbk rfl k1 hb nx f1 f2 f3 (Nat.le_of_eq f4.symm) (fun j _ hj => f5 j hj) (fun c ty' fz hc => by
                rw [k3] at hc
                injection hc with hc
                injection hc with hc1 hc2 _
                subst hc1
                subst hc2
                exact ⟨_, _, f6, hsize⟩) (.inl rfl) rfl
              refine ⟨_, _, _, hrun, hE, HR.mov hH hbk rfl k1 hb nx hnx hlt' (Nat.le_of_eq f4.symm) (fun j _ hj => f5 j hj) (.inl rfl) (by rw [f4]; exact (hH.phw _ _ _ k1).1) hE ?_, ?_, fun p hp => by simp [Phi.set, Ne.symm hp], fun hf => by cases hf⟩
              · refine br_rows hs (by simp [Phi.set]) f6 (all := olds ++ news) ?_ (Rel.keep (hE.keep.pof _) hall)
                rw [htake]
                simp only [List.toList_toArray]
                rw [List.take_append_of_le_length (by simp), List.take_of_length_le (by simp)]
              · simp only [AR]
                exact ⟨g, i.size, cap, _, ty0, _, by simp [Phi.set], by simp, f6, by rw [hsize]; exact k4, hroom, hs⟩
            · -- a new array
              have hcap := grownCap_ge w (n + ys.length) cap e
              have hrun := run_append_grow (P := P) w t ty e i z ht hi hz ⟨g, 0, none⟩ n cap olds hon o2 a ys.length c news hrel.1 hcell (by omega) (by omega) (growslice_fits (by omega) (by omega))
              have hzl : (Builtin.zeroCells z.cells (grownCap w (n + ys.length) cap e - (n + ys.length))).size = (grownCap w (n + ys.length) cap e - (n + ys.length)) * i.size := by
                rw [size_zeroCells, hzs]
              have hE := Ext.mov hH (w' := w.drew.alloc (.cells (olds.toArray ++ news.toArray ++ Builtin.zeroCells z.cells (grownCap w (n + ys.length) cap e - (n + ys.length))) e)) (k' := .rows i.size true (pf && qf) (xs ++ ys)) (g' := w.heap.size) (s' := i.size) hbk rfl k1 hb nx rfl rfl rfl (by simp) (fun j hj _ => heap_alloc_old w.drew _ hj) (fun c ty' fz hc => ⟨c, fz, (heap_alloc_old w.drew _ (Array.getElem?_eq_some_iff.1 hc).1).trans hc, rfl⟩) (.inr (Nat.le_refl _)) rfl
              rw [show (⟨g, 0 * i.size, none⟩ : Addr) = ⟨g, 0, none⟩ by simp]
              refine ⟨_, _, _, hrun, hE, HR.mov hH hbk rfl k1 hb nx hnx hlt' (by simp) (fun j hj _ => heap_alloc_old w.drew _ hj) (.inr (Nat.le_refl _)) (by simp) hE ?_, ?_, fun p hp => by simp [Phi.set, Ne.symm hp], fun hf => by cases hf⟩
              · refine br_rows hs (by simp [Phi.set]) (heap_alloc_new' w.drew _) (all := olds ++ news) ?_ (Rel.keep (hE.keep.pof _) hall)
                simp only [Array.toList_append]
                rw [List.take_append_of_le_length (by simp), List.take_of_length_le (by simp)]
              · simp only [AR]
                refine ⟨w.heap.size, i.size, _, _, e, _, by simp [Phi.set], by simp, heap_alloc_new' w.drew _, ?_, hcap, hs⟩
                simp only [Array.size_append, List.size_toArray, hon, hrel.1, hzl, Nat.zero_add]
                rw [← Nat.add_mul, ← Nat.add_mul]
                exact Nat.le_of_eq (by congr 1; omega)
          · cases h
      · cases h
    · cases h
  · cases h

theorem len_ok (hH : HR fb φ H w) {t ty : TypeId} {d : TypeDesc} {k : Nat} (ht : P.underlying t = some d) {x y : AV} {v : Value} (hx : AR φ (wrs fb φ H) w x v) (h : lenA H.m k x = some y)
    (hd : match d with | .string => k = 0 | .slice _ => k = 1 | .map _ _ => k = 2 | _ => False) :
    ∃ cv, (Builtin.len_ #[t] ty #[v]).run P w = .ok cv w ∧ AR φ (wrs fb φ H) w y cv := by
  unfold lenA at h
  split at h
  · injection h with h; subst h
    simp only [AR] at hx
    subst hx
    cases d <;> simp only at hd <;> first | cases hd | skip
    have hsz : ∀ l : List UInt8, (⟨l.toArray⟩ : ByteArray).size = l.length := fun l => by simp [ByteArray.size]
    refine ⟨.int .i64 ((⟨(_ : List UInt8).toArray⟩ : ByteArray).size), ?_, by simp only [AR]; rw [hsz]⟩
    simp only [Builtin.len_, str]
    simp [run_underlying ht, goInt, - ByteArray.size_data]
  · injection h with h; subst h
    simp only [AR] at hx
    obtain ⟨A, rfl⟩ := hx
    cases d <;> simp only at hd <;> first | cases hd | skip
    refine ⟨_, ?_, by simp only [AR]; rfl⟩
    simp [Builtin.len_, run_underlying ht, goInt]
  · injection h with h; subst h
    simp only [AR] at hx
    obtain ⟨A, cap, rfl, _⟩ := hx
    cases d <;> simp only at hd <;> first | cases hd | skip
    refine ⟨_, ?_, by simp only [AR]; rfl⟩
    simp [Builtin.len_, run_underlying ht, goInt]
  · injection h with h; subst h
    simp only [AR] at hx
    obtain ⟨g, sz, cap, c0, ty', fz, _, rfl, _⟩ := hx
    cases d <;> simp only at hd <;> first | cases hd | skip
    refine ⟨_, ?_, by simp only [AR]; rfl⟩
    simp [Builtin.len_, run_underlying ht, goInt]
  · injection h with h; subst h
    simp only [AR] at hx
    subst hx
    cases d <;> simp only at hd <;> first | cases hd | skip
    refine ⟨_, ?_, by simp only [AR]; rfl⟩
    simp [Builtin.len_, run_underlying ht, goInt]
  · split at h
    · rename_i b x0 es clock hb
      injection h with h; subst h
      simp only [AR] at hx
      obtain ⟨g, sz, h1, rfl⟩ := hx
      cases d <;> simp only at hd <;> first | cases hd | skip
      obtain ⟨g', sz', es', h2, h3, h4⟩ := hH.blk b _ hb
      rw [h1] at h2
      injection h2 with h2
      injection h2 with h2 _
      subst h2
      have hl : ∀ {es : List (AV × AV × Nat)} {l : List MapEntry}, ARe φ (wrs fb φ H) w es l → l.length = es.length := by
        intro es
        induction es with
        | nil => intro l h; simp only [ARe] at h; subst h; rfl
        | cons x es ih =>
          intro l h
          obtain ⟨k, v, n⟩ := x
          simp only [ARe] at h
          obtain ⟨e, es', rfl, _, _, _, h5⟩ := h
          simp [ih h5]
      refine ⟨.int .i64 es'.size, ?_, by simp only [AR]; rw [← hl h4]; simp⟩
      simp [Builtin.len_, run_underlying ht, goInt, getObj, Sem.run, h3]
    · cases h
  · cases h

theorem mm_ok {max : Bool} : ∀ {ys : List AV} {x y : AV} {v : Value} {vs : List Value}, AR φ wr w x v → ARl φ wr w ys vs → mmA max x ys = some y →
    ∃ cv, (vs.foldlM (if max then Builtin.max2 else Builtin.min2) v).run P w = .ok cv w ∧ AR φ wr w y cv
  | [], x, y, v, vs, hx, hys, h => by
    simp only [ARl] at hys
    subst hys
    unfold mmA at h
    split at h
    · injection h with h; subst h
      exact ⟨v, by simp, hx⟩
    · cases h
  | z :: ys, x, y, v, vs, hx, hys, h => by
    simp only [ARl] at hys
    obtain ⟨vz, vs', rfl, hz, hr⟩ := hys
    unfold mmA at h
    split at h
    · rename_i k a k' b
      split at h
      · rename_i hk
        subst hk
        simp only [AR] at hx hz
        subst hx
        subst hz
        have hx2 : AR φ wr w (.i k (if max = true then (if b > a then b else a) else (if b < a then b else a))) (.int k (if max = true then (if b > a then b else a) else (if b < a then b else a))) := by simp only [AR]
        obtain ⟨cv, h1, h2⟩ := mm_ok hx2 hr h
        refine ⟨cv, ?_, h2⟩
        clear hx2 h
        cases max
        · simp only [Bool.false_eq_true, if_false] at h1 ⊢
          simpa [List.foldlM_cons, Builtin.min2] using h1
        · simp only [if_true] at h1 ⊢
          simpa [List.foldlM_cons, Builtin.max2] using h1
      · cases h
    · cases h

/-! ### a block that nobody will write -/
theorem Ext.free (h : HR fb φ H w) (o : Obj) (nx : B) : Ext fb φ H w φ ⟨H.m, nx⟩ (w.alloc o) := by
  refine ⟨rfl, rfl, rfl, by simp, fun g hg _ => heap_alloc_old w o hg, fun g c ty fz hc => ⟨c, fz, ?_, rfl⟩, fun p x hp => hp, fun g hg hi => hi⟩
  rw [heap_alloc_old w o (Array.getElem?_eq_some_iff.1 hc).1]; exact hc
theorem HR.free (h : HR fb φ H w) (o : Obj) (nx : B) (hnx : H.nx.toNat ≤ nx.toNat) : HR fb φ ⟨H.m, nx⟩ (w.alloc o) :=
  ⟨fun p k hp => Nat.lt_of_lt_of_le (h.lt p k hp) hnx, fun p x hp => Nat.lt_of_lt_of_le (h.phl p x hp) hnx,
   fun p g sz hp => by obtain ⟨h1, h2⟩ := h.phw p g sz hp; exact ⟨by simp; omega, h2⟩, h.inj,
   fun p k hp => BR.keep (Ext.free h o nx) (fun g s hg => heap_alloc_old w o (h.phw _ _ _ hg).1) (h.blk p k hp), fun g hg => by have := h.fbl g hg; simp; omega⟩
theorem Ext.stay (h : HR fb φ H w) (nx : B) : Ext fb φ H w φ ⟨H.m, nx⟩ w :=
  ⟨rfl, rfl, rfl, Nat.le_refl _, fun _ _ _ => rfl, fun _ c _ fz h => ⟨c, fz, h, rfl⟩, fun _ _ h => h, fun _ _ h => h⟩
theorem HR.stay (h : HR fb φ H w) (nx : B) (hnx : H.nx.toNat ≤ nx.toNat) : HR fb φ ⟨H.m, nx⟩ w :=
  ⟨fun p k hp => Nat.lt_of_lt_of_le (h.lt p k hp) hnx, fun p x hp => Nat.lt_of_lt_of_le (h.phl p x hp) hnx, h.phw, h.inj, h.blk, h.fbl⟩
theorem ls_ok (hH : HR fb φ H w) {cs : List AV} {us : List Value} {e : TypeId} {sz n : Nat} (hs : 0 < sz) (hl : ARl φ (wrs fb φ H) w cs us) (h1 : ∀ c ∈ cs, c.one = true) (hp : cs.all AV.pure = true) (hn : cs.length = n * sz) (nx : B) :
    AR φ (wrs fb φ ⟨H.m, nx⟩) (w.alloc (.cells us.toArray e)) (.ls sz (chunk sz n cs)) (.slice (some ⟨w.heap.size, 0, none⟩) n n) := by
  have hk := (Ext.free hH (.cells us.toArray e) nx).keep
  simp only [AR]
  refine ⟨_, n, by rw [chunk_length], by rw [chunk_length]; exact Nat.le_refl _, hs, fun _ => ⟨_, rfl, rfl, ?_, by simp, ARr.mk fun j r hj => ?_⟩⟩
  · rintro (hf | hf)
    · have := hH.fbl _ hf; simp at this
    · have := hH.old_lt hf; simp at this
  · obtain ⟨q1, q2, q3⟩ := rows_facts (hl.down (List.all_eq_true.1 hp)) h1 hn j r hj
    refine ⟨q1, ARc.mk q2 fun m c hm => ?_⟩
    obtain ⟨u, q4, q5⟩ := q3 m c hm
    refine ⟨u, ?_, AR.keep (hk.nop pnone) _ _ q5⟩
    rw [add_spot (add_spot_none rfl _), add_spot rfl]
    simpa [World.cell?_alloc_new] using q4
end
end Go.Za
