/- No condition. -/
import Derived.Test.YtaabgjmcikolfaaGreatDoorTs25b
set_option maxRecDepth 100000
set_option linter.unusedSimpArgs false
set_option linter.unusedVariables false
namespace Go.Za.Td25
open Go.Za Go
theorem same16 : PCall P 16 [.e0, .e0] (.b true) := runP_ok mx tab_ok (n := 1000) (by kernel_rfl)
theorem Spec_ok (m k : Int) (hm : 1 ≤ m ∧ m ≤ 64) (hk : 1 ≤ k ∧ k ≤ 64) : ICall P 7 [.e0, .e0, .i .i64 5, .i .i64 m, .i .i64 k] Hp.empty fun v H' => v = .tu [.ag [.i .i64 5, .i .i64 m, .i .i64 k, .e0, .e0], .i .i64 0] := by
  refine fnT_I k7_ok (by simp -implicitDefEqProofs [k7]) ?_
  simp only [k7, b1, b2, b3, b4, b5, b6, b7, b8, b9, b10, b11, b12, b13, b14, b15, b16, b17, b18, b19, b20, Hp.empty]
  refine aw_seq (aw_rg (awT_ops ?_))
  simp -implicitDefEqProofs [evOK, evO, gdA, aop, Opd.ev, putA, Tr.get, Tr.set, B.succ, Hp.app, thenA, inB, awT_nil, pure1, binA, binI, unA, loadA, storeA, getN, spliceIf, splice, wrM, Blk.wr, faA, lenA, fillA, AV.cells, AV.one, p0, p1, p2, p3, p4, mkfr]
  refine aw_seq (aw_rg (awT_ops ?_))
  simp -implicitDefEqProofs [evOK, evO, gdA, aop, Opd.ev, putA, Tr.get, Tr.set, B.succ, Hp.app, thenA, inB, awT_nil, pure1, binA, binI, unA, loadA, storeA, getN, spliceIf, splice, wrM, Blk.wr, faA, lenA, fillA, AV.cells, AV.one, p0, p1, p2, p3, p4, mkfr]
  refine awT_call rfl rfl (spec_ok m k hm hk) ?_
  rintro _ H' ⟨rfl, h⟩
  refine awT_ops ?_
  simp -implicitDefEqProofs [evOK, evO, gdA, aop, Opd.ev, putA, Tr.get, Tr.set, B.succ, Hp.app, thenA, inB, awT_nil, pure1, binA, binI, unA, loadA, storeA, getN, spliceIf, splice, wrM, Blk.wr, faA, lenA, fillA, AV.cells, AV.one, p0, p1, p2, p3, p4, mkfr, h]
  simp -implicitDefEqProofs [AW, finK, resA, RV.ev, Opd.ev, Tr.get, Tr.get_set, resV, loadA, getN]
theorem Spec_bad (m k : Int) (hb : ¬ ((1 ≤ m ∧ m ≤ 64) ∧ 1 ≤ k ∧ k ≤ 64)) : ICall P 7 [.e0, .e0, .i .i64 5, .i .i64 m, .i .i64 k] Hp.empty fun v H' => v = .tu [.ag zs, .i .i64 16] := by
  refine fnT_I k7_ok (by simp -implicitDefEqProofs [k7]) ?_
  simp only [k7, b1, b2, b3, b4, b5, b6, b7, b8, b9, b10, b11, b12, b13, b14, b15, b16, b17, b18, b19, b20, Hp.empty]
  refine aw_seq (aw_rg (awT_ops ?_))
  simp -implicitDefEqProofs [evOK, evO, gdA, aop, Opd.ev, putA, Tr.get, Tr.set, B.succ, Hp.app, thenA, inB, awT_nil, pure1, binA, binI, unA, loadA, storeA, getN, spliceIf, splice, wrM, Blk.wr, faA, lenA, fillA, AV.cells, AV.one, p0, p1, p2, p3, p4, mkfr]
  refine aw_seq (aw_rg (awT_ops ?_))
  simp -implicitDefEqProofs [evOK, evO, gdA, aop, Opd.ev, putA, Tr.get, Tr.set, B.succ, Hp.app, thenA, inB, awT_nil, pure1, binA, binI, unA, loadA, storeA, getN, spliceIf, splice, wrM, Blk.wr, faA, lenA, fillA, AV.cells, AV.one, p0, p1, p2, p3, p4, mkfr]
  refine awT_call rfl rfl (spec_bad m k hb) ?_
  rintro _ H' ⟨rfl, h⟩
  refine awT_ops ?_
  simp -implicitDefEqProofs [evOK, evO, gdA, aop, Opd.ev, putA, Tr.get, Tr.set, B.succ, Hp.app, thenA, inB, awT_nil, pure1, binA, binI, unA, loadA, storeA, getN, spliceIf, splice, wrM, Blk.wr, faA, lenA, fillA, AV.cells, AV.one, p0, p1, p2, p3, p4, mkfr, h]
  simp -implicitDefEqProofs [AW, finK, resA, RV.ev, Opd.ev, Tr.get, Tr.get_set, resV, loadA, getN]
theorem Same_ok (n m k : Int) : PCall P 9 [.ag [.i .i64 n, .i .i64 m, .i .i64 k, .e0, .e0], .ag [.i .i64 n, .i .i64 m, .i .i64 k, .e0, .e0]] (.b true) := by
  refine .of_I (fnT_I k9_ok (by simp -implicitDefEqProofs [k9]) ?_)
  simp only [k9, b1, b2, b3, b4, b5, b6, b7, b8, b9, b10, b11, b12, b13, b14, b15, b16, b17, b18, b19, b20, b21, b22, b23, b24, b25, b26, b27, b28, b29, b30, b31, b32, b33, b34, b35, b36, b37, b38, b39, b40, b41, b42, b43, b44, b45, b46, b47, b48, b49, b50, b51, b52, b53, b54, b55, b56, b57, b58, b59, b60, Hp.empty]
  refine aw_seq (aw_rg (awT_ops ?_))
  simp -implicitDefEqProofs [evOK, evO, gdA, aop, Opd.ev, putA, Tr.get, Tr.set, B.succ, Hp.app, thenA, inB, awT_nil, pure1, binA, binI, unA, loadA, storeA, getN, spliceIf, splice, wrM, Blk.wr, faA, lenA, fillA, AV.cells, AV.one, p0, p1, p2, p3, p4, mkfr]
  refine aw_seq (aw_seq (aw_rg (awT_ops ?_)))
  simp -implicitDefEqProofs [evOK, evO, gdA, aop, Opd.ev, putA, Tr.get, Tr.set, B.succ, Hp.app, thenA, inB, awT_nil, pure1, binA, binI, unA, loadA, storeA, getN, spliceIf, splice, wrM, Blk.wr, faA, lenA, fillA, AV.cells, AV.one, p0, p1, p2, p3, p4, mkfr]
  refine awT_callP (cs := []) (by simp -implicitDefEqProofs [gdA, Tr.get]) (by simp -implicitDefEqProofs [Opd.ev]) (by simp -implicitDefEqProofs [frzs, frz, frz1, AV.pure, Opd.ev, Tr.get]) same16 ?_
  refine awT_ops ?_
  simp -implicitDefEqProofs [evOK, evO, gdA, aop, Opd.ev, putA, Tr.get, Tr.set, B.succ, Hp.app, thenA, inB, awT_nil, pure1, binA, binI, unA, loadA, storeA, getN, spliceIf, splice, wrM, Blk.wr, faA, lenA, fillA, AV.cells, AV.one, p0, p1, p2, p3, p4, mkfr]
  refine aw_f (by simp -implicitDefEqProofs [Opd.ev, Tr.get]) (aw_skip ?_)
  simp only [thenA]
  refine aw_seq (aw_seq (aw_rg (awT_ops ?_)))
  simp -implicitDefEqProofs [evOK, evO, gdA, aop, Opd.ev, putA, Tr.get, Tr.set, B.succ, Hp.app, thenA, inB, awT_nil, pure1, binA, binI, unA, loadA, storeA, getN, spliceIf, splice, wrM, Blk.wr, faA, lenA, fillA, AV.cells, AV.one, p0, p1, p2, p3, p4, mkfr]
  refine aw_block (aw_loop 0 (fun _ fr H => fr = _ ∧ H = _) (fun i hi => absurd hi (Nat.not_lt_zero _)) ?_ ⟨_, _, Wk.refl .., ?_, rfl, rfl⟩)
  · rintro J _ _ ⟨rfl, rfl⟩
    refine aw_seq (aw_seq (aw_rg (awT_ops ?_)))
    simp -implicitDefEqProofs [evOK, evO, gdA, aop, Opd.ev, putA, Tr.get, Tr.set, B.succ, Hp.app, thenA, inB, awT_nil, pure1, binA, binI, unA, loadA, storeA, getN, spliceIf, splice, wrM, Blk.wr, faA, lenA, fillA, AV.cells, AV.one, p0, p1, p2, p3, p4, mkfr]
    refine aw_f (by simp -implicitDefEqProofs [Opd.ev, Tr.get]) (aw_exit ?_)
    simp -implicitDefEqProofs [thenA, inB]
    refine aw_seq (aw_rg (awT_ops ?_))
    simp -implicitDefEqProofs [evOK, evO, gdA, aop, Opd.ev, putA, Tr.get, Tr.set, B.succ, Hp.app, thenA, inB, awT_nil, pure1, binA, binI, unA, loadA, storeA, getN, spliceIf, splice, wrM, Blk.wr, faA, lenA, fillA, AV.cells, AV.one, p0, p1, p2, p3, p4, mkfr]
    simp -implicitDefEqProofs [AW, finK, resA, RV.ev, Opd.ev, Tr.get, Tr.get_set, resV, loadA, getN, frzT, frz, frz1, AV.pure]
  · simp -implicitDefEqProofs [B.toNat]
theorem law_ok (m k : Int) : PCall P 4 [.i .i64 m, .i .i64 k] (.b true) := by
  refine .of_I (fnT_I k4_ok (by simp -implicitDefEqProofs [k4]) ?_)
  simp only [k4, b1, b2, b3, b4, b5, b6, b7, b8, b9, b10, b11, b12, b13, b14, b15, b16, b17, b18, b19, b20, b21, b22, b23, b24, b25, b26, b27, b28, b29, b30, b31, b32, b33, b34, b35, b36, b37, b38, b39, b40, b41, b42, b43, b44, b45, b46, b47, b48, b49]
  refine aw_seq (aw_rg (awT_ops ?_))
  simp -implicitDefEqProofs [evOK, evO, gdA, aop, Opd.ev, putA, Tr.get, Tr.set, B.succ, Hp.app, thenA, inB, awT_nil, pure1, binA, binI, unA, loadA, storeA, getN, spliceIf, splice, wrM, Blk.wr, faA, lenA, fillA, AV.cells, AV.one, p0, p1, p2, p3, p4, mkfr]
  refine aw_seq (aw_rg (awT_ops ?_))
  simp -implicitDefEqProofs [evOK, evO, gdA, aop, Opd.ev, putA, Tr.get, Tr.set, B.succ, Hp.app, thenA, inB, awT_nil, pure1, binA, binI, unA, loadA, storeA, getN, spliceIf, splice, wrM, Blk.wr, faA, lenA, fillA, AV.cells, AV.one, p0, p1, p2, p3, p4, mkfr]
  by_cases hb : (1 ≤ m ∧ m ≤ 64) ∧ 1 ≤ k ∧ k ≤ 64
  · obtain ⟨hm, hk⟩ := hb
    refine awT_call rfl rfl (Spec_ok m k hm hk) ?_
    rintro _ H' rfl
    refine awT_ops ?_
    simp -implicitDefEqProofs [evOK, evO, gdA, aop, Opd.ev, putA, Tr.get, Tr.set, B.succ, Hp.app, thenA, inB, awT_nil, pure1, binA, binI, unA, loadA, storeA, getN, spliceIf, splice, wrM, Blk.wr, faA, lenA, fillA, AV.cells, AV.one, p0, p1, p2, p3, p4, mkfr, Tr.get_set]
    refine aw_seq (aw_seq (aw_rg (awT_ops ?_)))
    have a1 : ¬ m < 1 := by omega
    have a2 : ¬ 64 < m := by omega
    have a3 : ¬ k < 1 := by omega
    have a4 : ¬ 64 < k := by omega
    simp -implicitDefEqProofs [evOK, evO, gdA, aop, Opd.ev, putA, Tr.get, Tr.set, B.succ, Hp.app, thenA, inB, awT_nil, pure1, binA, binI, unA, loadA, storeA, getN, spliceIf, splice, wrM, Blk.wr, faA, lenA, fillA, AV.cells, AV.one, p0, p1, p2, p3, p4, mkfr, a1, a2, a3, a4]
    refine aw_f (by simp -implicitDefEqProofs [Opd.ev, Tr.get]) (aw_skip ?_)
    simp only [thenA]
    refine aw_seq (aw_rg (awT_ops ?_))
    simp -implicitDefEqProofs [evOK, evO, gdA, aop, Opd.ev, putA, Tr.get, Tr.set, B.succ, Hp.app, thenA, inB, awT_nil, pure1, binA, binI, unA, loadA, storeA, getN, spliceIf, splice, wrM, Blk.wr, faA, lenA, fillA, AV.cells, AV.one, p0, p1, p2, p3, p4, mkfr, Tr.get_set]
    refine awT_callP (cs := []) (by simp -implicitDefEqProofs [gdA]) (by simp -implicitDefEqProofs [Opd.ev]) (by simp -implicitDefEqProofs [frzs, frz, frz1, frzL, AV.pure, Opd.ev, Tr.get]) (Same_ok 5 m k) ?_
    refine awT_ops ?_
    simp -implicitDefEqProofs [evOK, evO, gdA, aop, Opd.ev, putA, Tr.get, Tr.set, B.succ, Hp.app, thenA, inB, awT_nil, pure1, binA, binI, unA, loadA, storeA, getN, spliceIf, splice, wrM, Blk.wr, faA, lenA, fillA, AV.cells, AV.one, p0, p1, p2, p3, p4, mkfr]
    refine awT_callP (cs := []) (by simp -implicitDefEqProofs [gdA, Tr.get]) (by simp -implicitDefEqProofs [Opd.ev]) (by simp -implicitDefEqProofs [frzs]) lives_ok ?_
    refine awT_ops ?_
    simp -implicitDefEqProofs [evOK, evO, gdA, aop, Opd.ev, putA, Tr.get, Tr.set, B.succ, Hp.app, thenA, inB, awT_nil, pure1, binA, binI, unA, loadA, storeA, getN, spliceIf, splice, wrM, Blk.wr, faA, lenA, fillA, AV.cells, AV.one, p0, p1, p2, p3, p4, mkfr]
    simp -implicitDefEqProofs [AW, finK, resA, RV.ev, Opd.ev, Tr.get, Tr.get_set, resV, loadA, getN, frzT, frz, frz1, AV.pure]
  · refine awT_call rfl rfl (Spec_bad m k hb) ?_
    rintro _ H' rfl
    refine awT_ops ?_
    simp -implicitDefEqProofs [evOK, evO, gdA, aop, Opd.ev, putA, Tr.get, Tr.set, B.succ, Hp.app, thenA, inB, awT_nil, pure1, binA, binI, unA, loadA, storeA, getN, spliceIf, splice, wrM, Blk.wr, faA, lenA, fillA, AV.cells, AV.one, p0, p1, p2, p3, p4, mkfr, Tr.get_set]
    have hc : m < 1 ∨ (¬ m < 1 ∧ 64 < m) ∨ (¬ m < 1 ∧ ¬ 64 < m ∧ k < 1) ∨ (¬ m < 1 ∧ ¬ 64 < m ∧ ¬ k < 1 ∧ 64 < k) := by omega
    clear hb
    rcases hc with a1 | ⟨a1, a2⟩ | ⟨a1, a2, a3⟩ | ⟨a1, a2, a3, a4⟩ <;>
    · refine aw_seq (aw_seq (aw_rg (awT_ops ?_)))
      simp -implicitDefEqProofs [evOK, evO, gdA, aop, Opd.ev, putA, Tr.get, Tr.set, B.succ, Hp.app, thenA, inB, awT_nil, pure1, binA, binI, unA, loadA, storeA, getN, spliceIf, splice, wrM, Blk.wr, faA, lenA, fillA, AV.cells, AV.one, p0, p1, p2, p3, p4, mkfr, *]
      refine aw_t (by simp -implicitDefEqProofs [Opd.ev, Tr.get]) (aw_seq (aw_rg (awT_ops ?_)))
      simp -implicitDefEqProofs [evOK, evO, gdA, aop, Opd.ev, putA, Tr.get, Tr.set, B.succ, Hp.app, thenA, inB, awT_nil, pure1, binA, binI, unA, loadA, storeA, getN, spliceIf, splice, wrM, Blk.wr, faA, lenA, fillA, AV.cells, AV.one, p0, p1, p2, p3, p4, mkfr, Tr.get_set]
      refine awT_callP (cs := []) (by simp -implicitDefEqProofs [gdA]) (by simp -implicitDefEqProofs [Opd.ev]) (by simp -implicitDefEqProofs [frzs, frz, frz1, frzL, AV.pure, Opd.ev, Tr.get]) (Same_ok 0 0 0) ?_
      refine awT_ops ?_
      simp -implicitDefEqProofs [evOK, evO, gdA, aop, Opd.ev, putA, Tr.get, Tr.set, B.succ, Hp.app, thenA, inB, awT_nil, pure1, binA, binI, unA, loadA, storeA, getN, spliceIf, splice, wrM, Blk.wr, faA, lenA, fillA, AV.cells, AV.one, p0, p1, p2, p3, p4, mkfr]
      refine awT_callP (cs := []) (by simp -implicitDefEqProofs [gdA, Tr.get]) (by simp -implicitDefEqProofs [Opd.ev]) (by simp -implicitDefEqProofs [frzs]) lives_ok ?_
      refine awT_ops ?_
      simp -implicitDefEqProofs [evOK, evO, gdA, aop, Opd.ev, putA, Tr.get, Tr.set, B.succ, Hp.app, thenA, inB, awT_nil, pure1, binA, binI, unA, loadA, storeA, getN, spliceIf, splice, wrM, Blk.wr, faA, lenA, fillA, AV.cells, AV.one, p0, p1, p2, p3, p4, mkfr]
      simp -implicitDefEqProofs [AW, thenA, finK, resA, RV.ev, Opd.ev, Tr.get, Tr.get_set, resV, loadA, getN, frzT, frz, frz1, AV.pure]
end Go.Za.Td25
