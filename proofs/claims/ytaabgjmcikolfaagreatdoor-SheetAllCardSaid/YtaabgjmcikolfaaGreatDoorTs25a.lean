/- No condition. -/
import Derived.Test.YtaabgjmcikolfaaGreatDoorZa25
import Derived.Test.YtaabgjmcikolfaaGreatDoorTe25
set_option maxRecDepth 100000
set_option linter.unusedSimpArgs false
set_option linter.unusedVariables false
namespace Go.Za.Td25
open Go.Za Go
noncomputable abbrev P := Go.Proofs.Tryz.prog
theorem mx : P.follows .mixedOrders = true := by kernel_rfl
/-- A function of the table. -/
theorem fnT_I {f : Nat} {F : FnT} (hF : FnOK P f F) {xs : List AV} (hl : xs.length ≤ F.np) {H : Hp} {R : AV → Hp → Prop} (h : AW P Y0 true H.nx F.ac (finK F.rvs R) (mkfr 0 xs .e) H) : ICall P f xs H R := by
  obtain ⟨fn, c, hint, q1, q2, q3, q4, q5, q6⟩ := hF.ok
  exact fn_I mx q1 q2 q3 q4 q5 q6 hl h
theorem fnT_Y {f : Nat} {F : FnT} (hF : FnOK P f F) {Y : YT} {xs : List AV} (hl : xs.length ≤ F.np) {H : Hp} {R : AV → Hp → Prop} (h : AW P Y true H.nx F.ac (finK F.rvs R) (mkfr 0 xs .e) H) : ICallY P Y f xs H R := by
  obtain ⟨fn, c, hint, q1, q2, q3, q4, q5, q6⟩ := hF.ok
  exact fn_Y mx q1 q2 q3 q4 q5 q6 hl h
theorem p0 : path 0 = .e := by kernel_rfl
theorem p1 : path 1 = .l .e := by kernel_rfl
theorem p2 : path 2 = .r .e := by kernel_rfl
theorem p3 : path 3 = .l (.l .e) := by kernel_rfl
theorem p4 : path 4 = .r (.l .e) := by kernel_rfl
theorem good_I (n : Int) (H : Hp) : ICall P 23 [.i .i64 n] H fun v H' => v = .b (decide (1 ≤ n) && decide (n ≤ 64)) ∧ H' = H := by
  refine fnT_I k23_ok (by simp [k23]) ?_
  unfold k23
  by_cases h1 : 1 ≤ n <;> by_cases h2 : n ≤ 64 <;>
  · refine aw_seq (aw_rg (awT_ops ?_))
    simp [evOK, evO, gdA, aop, Opd.ev, putA, mkfr, p0, b1, b2, b3, b4, b5, b6, b7, b8, b9, Tr.get, Tr.set, Hp.app, thenA, awT]
    refine aw_seq (aw_rg (awT_ops ?_))
    simp [evOK, evO, gdA, aop, Opd.ev, putA, mkfr, Tr.get, Tr.set, Hp.app, thenA, awT, pure1, binA, binI, h1, h2]
    simp [AW, finK, resA, RV.ev, Opd.ev, Tr.get, resV]
theorem tiles_I (m k : Int) (H : Hp) : ICall P 24 [.i .i64 m, .i .i64 k] H fun v H' => v = .fn 41 [.ref H.nx 0, .ref H.nx.succ 0] ∧ H' = (H.app (.new (.box 3 [.i .i64 m]))).app (.new (.box 3 [.i .i64 k])) := by
  refine fnT_I k24_ok (by simp [k24]) ?_
  unfold k24
  refine aw_seq (aw_rg (awT_ops ?_))
  simp [evOK, evO, gdA, aop, Opd.ev, putA, mkfr, p0, p1, b1, b2, b3, b4, b5, b6, b7, b8, b9, Tr.get, Tr.set, Hp.app, thenA, awT, AV.cells, AV.one]
  refine aw_seq (aw_rg (awT_ops ?_))
  simp [evOK, evO, gdA, aop, Opd.ev, putA, Tr.get, Tr.set, Hp.app, thenA, awT]
  simp [AW, finK, resA, RV.ev, Opd.ev, Tr.get, resV, Hp.app]
abbrev zs : List AV := [.i .i64 0, .i .i64 0, .i .i64 0, .e0, .e0]
abbrev H7 : Hp := ⟨.n .e (some (.box 30 zs)) .e, .l .e⟩
theorem spec_bad (m k : Int) (h : ¬ ((1 ≤ m ∧ m ≤ 64) ∧ 1 ≤ k ∧ k ≤ 64)) : ICall P 15 [.e0, .e0, .i .i64 5, .i .i64 m, .i .i64 k] H7 fun v H' => v = .tu [.ag zs, .i .i64 16] ∧ H'.m.get .e = some (.box 30 zs) := by
  refine fnT_I k15_ok (by simp [k15]) ?_
  simp only [k15, b1, b2, b3, b4, b5, b6, b7, b8, b9, b10, b11, b12, b13, b14, b15, b16, b17, b18, b19, b20, b21, b22, b23, b24, b25, b26, b27, b28, b29, b30, b31, b32, b33, b34, b35, b36, b37, b38, b39, b40, b41, b42, b43, b44, b45, b46, b47, b48, b49, b50, b51, b52, b53, b54, b55, b56, b57, b58, b59, b60, b61, b62, b63, b64, b65, b66, b67, b68, b69, b70, b71, b72, b73, b74, b75]
  refine aw_seq (aw_rg (awT_ops ?_))
  simp [evOK, evO, gdA, aop, Opd.ev, putA, Tr.get, Tr.set, B.succ, Hp.app, thenA, inB, awT_nil, pure1, binA, binI, unA, loadA, storeA, getN, spliceIf, splice, wrM, Blk.wr, faA, lenA, fillA, AV.cells, AV.one, p0, p1, p2, p3, p4, mkfr]
  refine aw_seq (aw_seq (aw_rg (awT_ops ?_)))
  simp [evOK, evO, gdA, aop, Opd.ev, putA, Tr.get, Tr.set, B.succ, Hp.app, thenA, inB, awT_nil, pure1, binA, binI, unA, loadA, storeA, getN, spliceIf, splice, wrM, Blk.wr, faA, lenA, fillA, AV.cells, AV.one, p0, p1, p2, p3, p4, mkfr]
  refine awT_call rfl rfl (good_I m _) ?_
  rintro _ _ ⟨rfl, rfl⟩
  refine awT_ops ?_
  by_cases hm : 1 ≤ m ∧ m ≤ 64
  · have hk : ¬ (1 ≤ k ∧ k ≤ 64) := fun hk => h ⟨hm, hk⟩
    simp [evOK, evO, gdA, aop, Opd.ev, putA, Tr.get, Tr.set, B.succ, Hp.app, thenA, inB, awT_nil, pure1, binA, binI, unA, loadA, storeA, getN, spliceIf, splice, wrM, Blk.wr, faA, lenA, fillA, AV.cells, AV.one, p0, p1, p2, p3, p4, mkfr, hm]
    refine awT_callG rfl rfl rfl (good_I k _) ?_
    rintro _ _ ⟨rfl, rfl⟩
    refine awT_ops ?_
    have e : (decide (1 ≤ k) && decide (k ≤ 64)) = false := by simpa using hk
    simp [evOK, evO, gdA, aop, Opd.ev, putA, Tr.get, Tr.set, B.succ, Hp.app, thenA, inB, awT_nil, pure1, binA, binI, unA, loadA, storeA, getN, spliceIf, splice, wrM, Blk.wr, faA, lenA, fillA, AV.cells, AV.one, p0, p1, p2, p3, p4, mkfr, e]
    refine aw_t rfl (aw_seq (aw_rg (awT_ops ?_)))
    simp [evOK, evO, gdA, aop, Opd.ev, putA, Tr.get, Tr.set, B.succ, Hp.app, thenA, inB, awT_nil, pure1, binA, binI, unA, loadA, storeA, getN, spliceIf, splice, wrM, Blk.wr, faA, lenA, fillA, AV.cells, AV.one, p0, p1, p2, p3, p4, mkfr]
    simp [AW, thenA, finK, resA, RV.ev, Opd.ev, Tr.get, resV, loadA, getN]
  · have e : (decide (1 ≤ m) && decide (m ≤ 64)) = false := by simpa using hm
    simp [evOK, evO, gdA, aop, Opd.ev, putA, Tr.get, Tr.set, B.succ, Hp.app, thenA, inB, awT_nil, pure1, binA, binI, unA, loadA, storeA, getN, spliceIf, splice, wrM, Blk.wr, faA, lenA, fillA, AV.cells, AV.one, p0, p1, p2, p3, p4, mkfr, e]
    refine aw_t rfl (aw_seq (aw_rg (awT_ops ?_)))
    simp [evOK, evO, gdA, aop, Opd.ev, putA, Tr.get, Tr.set, B.succ, Hp.app, thenA, inB, awT_nil, pure1, binA, binI, unA, loadA, storeA, getN, spliceIf, splice, wrM, Blk.wr, faA, lenA, fillA, AV.cells, AV.one, p0, p1, p2, p3, p4, mkfr]
    simp [AW, thenA, finK, resA, RV.ev, Opd.ev, Tr.get, resV, loadA, getN]

end Go.Za.Td25
