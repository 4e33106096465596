/- No condition. -/
import Derived.Test.YtaabgjmcikolfaaGreatDoorTs25a
import Derived.Laws.Runes
set_option maxRecDepth 100000
set_option linter.unusedSimpArgs false
set_option linter.unusedVariables false
namespace Go.Za.Td25
open Go.Za Go
def fr1 (b x y : B) (m i : Int) : Tr AV := ((((Tr.e.set b1 (.yl b)).set b2 (.ref x 0)).set b3 (.ref y 0)).set b7 (.i .i64 m)).set b8 (.i .i64 i)
def fr2 (b x y : B) (m i k j : Int) : Tr AV := (((fr1 b x y m i).set b5 (.i .i64 i)).set b11 (.i .i64 k)).set b12 (.i .i64 j)
theorem tiles_Y (m k : Int) (hm : 1 ≤ m ∧ m ≤ 64) (hk : 1 ≤ k ∧ k ≤ 64) {n : Nat} {ps : List Nat} {cas cbd : Code} {F : Tr AV} {H : Hp} {b x y : B} {RA RB : Post → Tr AV → Hp → Prop}
    (h2 : H.m.get x = some (.box 3 [.i .i64 m])) (h3 : H.m.get y = some (.box 3 [.i .i64 k]))
    (hr : ∀ (i j : Int) (R : AV → Hp → Prop), R (.b true) H → Yr RA RB b n ps cas cbd F b [.i .i64 i, .i .i64 j] H R) :
    ICallY P (Yr RA RB b n ps cas cbd F) 41 [.yl b, .ref x 0, .ref y 0] H fun _ H' => H' = H := by
  refine fnT_Y k41_ok (by simp [k41]) ?_
  simp only [k41, b1, b2, b3, b4, b5, b6, b7, b8, b9, b10, b11, b12, b13, b14, b15, b16, b17, b18, b19, b20, b21]
  refine aw_seq (aw_rg (awT_ops ?_))
  simp [evOK, evO, gdA, aop, Opd.ev, putA, Tr.get, Tr.set, B.succ, Hp.app, thenA, inB, awT_nil, pure1, binA, binI, unA, loadA, storeA, getN, spliceIf, splice, wrM, Blk.wr, faA, lenA, fillA, AV.cells, AV.one, p0, p1, p2, p3, p4, mkfr, h2]
  refine aw_block (aw_loop m.toNat (fun i fr H' => fr = fr1 b x y m i ∧ H' = H) ?_ ?_ (wkI_sub (fr1 := fr1 b x y m 0) ?_ (Nat.le_refl _) ⟨rfl, rfl⟩))
  · rintro i hi J hJ _ H ⟨rfl, rfl⟩
    have hw : IntKind.i64.wrap ((i : Int) + 1) = ((i + 1 : Nat) : Int) := by rw [wrap_small _ (by omega) (by omega)]; simp
    refine aw_seq (aw_rg (awT_ops ?_))
    simp [evOK, evO, gdA, aop, Opd.ev, putA, Tr.get, Tr.set, B.succ, Hp.app, thenA, inB, awT_nil, pure1, binA, binI, unA, loadA, storeA, getN, spliceIf, splice, wrM, Blk.wr, faA, lenA, fillA, AV.cells, AV.one, p0, p1, p2, p3, p4, mkfr, fr1, b1, b2, b3, b4, b5, b6, b7, b8, b9, b10, b11, b12, b13, b14, b15, b16, b17, b18, b19, b20, b21]
    refine aw_seq (aw_t (by simp [Opd.ev, Tr.get]; omega) (aw_skip ?_))
    simp only [thenA]
    refine aw_seq (aw_block (aw_seq (aw_rg (awT_ops ?_))))
    simp [evOK, evO, gdA, aop, Opd.ev, putA, Tr.get, Tr.set, B.succ, Hp.app, thenA, inB, awT_nil, pure1, binA, binI, unA, loadA, storeA, getN, spliceIf, splice, wrM, Blk.wr, faA, lenA, fillA, AV.cells, AV.one, p0, p1, p2, p3, p4, mkfr]
    refine aw_seq (aw_rg (awT_ops ?_))
    simp [evOK, evO, gdA, aop, Opd.ev, putA, Tr.get, Tr.set, B.succ, Hp.app, thenA, inB, awT_nil, pure1, binA, binI, unA, loadA, storeA, getN, spliceIf, splice, wrM, Blk.wr, faA, lenA, fillA, AV.cells, AV.one, p0, p1, p2, p3, p4, mkfr, h3]
    refine aw_block (aw_loop k.toNat (fun j fr H' => fr = fr2 b x y m i k j ∧ H' = H) ?_ ?_ (wkI_sub (fr1 := fr2 b x y m i k 0) ?_ (Nat.le_refl _) ⟨rfl, rfl⟩))
    · rintro j hj J' hJ' _ H ⟨rfl, rfl⟩
      have hw' : IntKind.i64.wrap ((j : Int) + 1) = ((j + 1 : Nat) : Int) := by rw [wrap_small _ (by omega) (by omega)]; simp
      refine aw_seq (aw_rg (awT_ops ?_))
      simp [evOK, evO, gdA, aop, Opd.ev, putA, Tr.get, Tr.set, B.succ, Hp.app, thenA, inB, awT_nil, pure1, binA, binI, unA, loadA, storeA, getN, spliceIf, splice, wrM, Blk.wr, faA, lenA, fillA, AV.cells, AV.one, p0, p1, p2, p3, p4, mkfr, fr2, fr1, b1, b2, b3, b4, b5, b6, b7, b8, b9, b10, b11, b12, b13, b14, b15, b16, b17, b18, b19, b20, b21]
      refine aw_seq (aw_t (by simp [Opd.ev, Tr.get]; omega) (aw_skip ?_))
      simp only [thenA]
      refine aw_seq (aw_block (aw_seq (aw_rg (awT_ops ?_))))
      simp [evOK, evO, gdA, aop, Opd.ev, putA, Tr.get, Tr.set, B.succ, Hp.app, thenA, inB, awT_nil, pure1, binA, binI, unA, loadA, storeA, getN, spliceIf, splice, wrM, Blk.wr, faA, lenA, fillA, AV.cells, AV.one, p0, p1, p2, p3, p4, mkfr]
      refine aw_seq (aw_rg (awT_ops ?_))
      simp [evOK, evO, gdA, aop, Opd.ev, putA, Tr.get, Tr.set, B.succ, Hp.app, thenA, inB, awT_nil, pure1, binA, binI, unA, loadA, storeA, getN, spliceIf, splice, wrM, Blk.wr, faA, lenA, fillA, AV.cells, AV.one, p0, p1, p2, p3, p4, mkfr]
      refine awT_yl rfl (hr i j _ ?_)
      refine awT_ops ?_
      simp [evOK, evO, gdA, aop, Opd.ev, putA, Tr.get, Tr.set, B.succ, Hp.app, thenA, inB, awT_nil, pure1, binA, binI, unA, loadA, storeA, getN, spliceIf, splice, wrM, Blk.wr, faA, lenA, fillA, AV.cells, AV.one, p0, p1, p2, p3, p4, mkfr]
      refine aw_f rfl (aw_skip ?_)
      simp only [thenA, inB]
      refine aw_rg (awT_ops ?_)
      simp [evOK, evO, gdA, aop, Opd.ev, putA, Tr.get, Tr.set, B.succ, Hp.app, thenA, inB, awT_nil, pure1, binA, binI, unA, loadA, storeA, getN, spliceIf, splice, wrM, Blk.wr, faA, lenA, fillA, AV.cells, AV.one, p0, p1, p2, p3, p4, mkfr, hw']
      refine wkI_sub (fr1 := fr2 b x y m i k (j + 1 : Nat)) ?_ (Nat.le_refl _) (hJ' _ _ ⟨rfl, rfl⟩)
      simp [fr2, fr1, b1, b2, b3, b4, b5, b6, b7, b8, b9, b10, b11, b12, b13, b14, b15, b16, b17, b18, b19, b20, b21, Tr.set, subF]
    · rintro J' _ H ⟨rfl, rfl⟩
      refine aw_seq (aw_rg (awT_ops ?_))
      simp [evOK, evO, gdA, aop, Opd.ev, putA, Tr.get, Tr.set, B.succ, Hp.app, thenA, inB, awT_nil, pure1, binA, binI, unA, loadA, storeA, getN, spliceIf, splice, wrM, Blk.wr, faA, lenA, fillA, AV.cells, AV.one, p0, p1, p2, p3, p4, mkfr, fr2, fr1, b1, b2, b3, b4, b5, b6, b7, b8, b9, b10, b11, b12, b13, b14, b15, b16, b17, b18, b19, b20, b21]
      refine aw_seq (aw_f (by simp [Opd.ev, Tr.get]; omega) (aw_exit ?_))
      simp [thenA, inB]
      refine aw_rg (awT_ops ?_)
      simp [evOK, evO, gdA, aop, Opd.ev, putA, Tr.get, Tr.set, B.succ, Hp.app, thenA, inB, awT_nil, pure1, binA, binI, unA, loadA, storeA, getN, spliceIf, splice, wrM, Blk.wr, faA, lenA, fillA, AV.cells, AV.one, p0, p1, p2, p3, p4, mkfr, hw]
      refine wkI_sub (fr1 := fr1 b x y m (i + 1 : Nat)) ?_ (Nat.le_refl _) (hJ _ _ ⟨rfl, rfl⟩)
      simp [fr2, fr1, b1, b2, b3, b4, b5, b6, b7, b8, b9, b10, b11, b12, b13, b14, b15, b16, b17, b18, b19, b20, b21, Tr.set, subF]
    · simp [fr2, fr1, b1, b2, b3, b4, b5, b6, b7, b8, b9, b10, b11, b12, b13, b14, b15, b16, b17, b18, b19, b20, b21, Tr.set, subF]
  · rintro J _ H ⟨rfl, rfl⟩
    refine aw_seq (aw_rg (awT_ops ?_))
    simp [evOK, evO, gdA, aop, Opd.ev, putA, Tr.get, Tr.set, B.succ, Hp.app, thenA, inB, awT_nil, pure1, binA, binI, unA, loadA, storeA, getN, spliceIf, splice, wrM, Blk.wr, faA, lenA, fillA, AV.cells, AV.one, p0, p1, p2, p3, p4, mkfr, fr1, b1, b2, b3, b4, b5, b6, b7, b8, b9, b10, b11, b12, b13, b14, b15, b16, b17, b18, b19, b20, b21]
    refine aw_seq (aw_f (by simp [Opd.ev, Tr.get]; omega) (aw_exit ?_))
    simp [thenA, inB, finK, resA, resV]
  · simp [fr1, b1, b2, b3, b4, b5, b6, b7, b8, b9, b10, b11, b12, b13, b14, b15, b16, b17, b18, b19, b20, b21, Tr.set, subF]
end Go.Za.Td25
