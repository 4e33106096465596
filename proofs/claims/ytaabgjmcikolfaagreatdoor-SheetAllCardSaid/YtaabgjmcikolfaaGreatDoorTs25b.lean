/- No condition. -/
import Derived.Test.YtaabgjmcikolfaaGreatDoorTs25y
set_option maxRecDepth 100000
set_option linter.unusedSimpArgs false
set_option linter.unusedVariables false
namespace Go.Za.Td25
open Go.Za Go
theorem p56 : path 56 = b57 := by kernel_rfl
theorem p57 : path 57 = b58 := by kernel_rfl
def asg15 : AC := (.seq (.rg [⟨(some b16), none, (.op (.mv (.t b57)))⟩])
 (.rg [⟨(some b17), none, (.op (.mv (.t b58)))⟩]))
def body15 : AC := (.block 3 (.seq (.rg [⟨(some b59), none, (.op (.ld none (.t b7)))⟩, ⟨(some b60), none, (.op (.len 1 (.t b59)))⟩, ⟨(some b61), none, (.op (.mv (.c (.i .i64 0))))⟩])
 (.block 4 (.loop (.seq (.rg [⟨(some b62), none, (.op (.bin .lss (.t b61) (.t b60)))⟩])
 (.seq (.cond (.t b62) .skip (.exit 4))
 (.seq (.block 5 (.seq (.rg [⟨(some b63), none, (.op (.ixs 9 (.t b59) (.t b61)))⟩, ⟨(some b64), none, (.op (.ld (some 9) (.t b63)))⟩, ⟨(some b19), none, (.op (.al 54 [(.i .i64 0), (.i .i64 0), (.i .i64 0), (.i .i64 0), (.i .i64 0), (.i .i64 0), (.i .i64 0), (.i .i64 0), (.i .i64 0)]))⟩, ⟨none, none, (.op (.st 9 (.t b19) (.t b64)))⟩])
 (.rd [⟨(some b65), none, (.op (.fa 4 (.t b13)))⟩, ⟨(some b66), none, (.op (.ld none (.t b65)))⟩, ⟨(some b67), none, (.op (.ld (some 9) (.t b19)))⟩, ⟨(some b68), none, (.op (.mv (.t b16)))⟩, ⟨(some b69), none, (.op (.mv (.t b17)))⟩, ⟨(some b70), none, (.call false (.c (.fn 25 [])) [(.t b67), (.t b68), (.t b69)])⟩, ⟨(some b71), none, (.op (.lit 9 1 false [(.i .i64 0), (.i .i64 0), (.i .i64 0), (.i .i64 0), (.i .i64 0), (.i .i64 0), (.i .i64 0), (.i .i64 0), (.i .i64 0)] [(0, (9, (.t b70)))]))⟩, ⟨(some b72), none, (.op (.app 9 72 (.t b66) (.t b71)))⟩, ⟨(some b73), none, (.op (.fa 4 (.t b13)))⟩, ⟨none, none, (.op (.st 1 (.t b73) (.t b72)))⟩] [])))
 (.rg [⟨(some b74), none, (.op (.bin .add (.t b61) (.c (.i .i64 1))))⟩, ⟨(some b61), none, (.op (.mv (.t b74)))⟩]))))))))
theorem Tr.set_set {α : Type} : ∀ (t : Tr α) (p : B) (x y : α), (t.set p x).set p y = t.set p y
  | .e, .e, x, y => rfl
  | .e, .l p, x, y => by simp only [Tr.set, Tr.set_set]
  | .e, .r p, x, y => by simp only [Tr.set, Tr.set_set]
  | .n l v r, .e, x, y => rfl
  | .n l v r, .l p, x, y => by simp only [Tr.set, Tr.set_set]
  | .n l v r, .r p, x, y => by simp only [Tr.set, Tr.set_set]
theorem spec_round {F : Tr AV} {H : Hp} {b : B} {cas cbd : Code} (hF : F.get b7 = some (.ref (.l .e) 0)) (hb : H.m.get b = some (.lp .ready none 75 [56, 57].toArray cas cbd F)) (h3 : H.m.get (.l .e) = some (.box 23 [.e0])) (hne : b ≠ .l .e) (i j : Int) (R : AV → Hp → Prop) (hR : R (.b true) H) :
    Yr (fun J fr H => AW P Y0 false H.nx asg15 J fr H) (fun J fr H => AW P Y0 false H.nx body15 J fr H) b 75 [56, 57] cas cbd F b [.i .i64 i, .i .i64 j] H R := by
  refine ⟨rfl, hb, rfl, ?_⟩
  simp only [b7] at hF
  simp only [asg15, body15, b1, b2, b3, b4, b5, b6, b7, b8, b9, b10, b11, b12, b13, b14, b15, b16, b17, b18, b19, b20, b21, b22, b23, b24, b25, b26, b27, b28, b29, b30, b31, b32, b33, b34, b35, b36, b37, b38, b39, b40, b41, b42, b43, b44, b45, b46, b47, b48, b49, b50, b51, b52, b53, b54, b55, b56, b57, b58, b59, b60, b61, b62, b63, b64, b65, b66, b67, b68, b69, b70, b71, b72, b73, b74, b75]
  refine aw_seq (aw_rg (awT_ops ?_))
  simp [evOK, evO, gdA, aop, Opd.ev, putA, putPs, Tr.get_set, thenA, awT_nil, Hp.app, p56, p57, b57, b58]
  refine aw_rg (awT_ops ?_)
  simp [evOK, evO, gdA, aop, Opd.ev, putA, putPs, Tr.get_set, thenA, awT_nil, Hp.app, hb]
  refine aw_block (aw_seq (aw_rg (awT_ops ?_)))
  simp [evOK, evO, gdA, aop, Opd.ev, putA, putPs, Tr.get_set, thenA, awT_nil, Hp.app, pure1, loadA, getN, lenA, hF, h3, hne]
  refine aw_block (aw_loop 0 (fun _ fr' H' => fr' = _ ∧ H' = _) (fun i hi => absurd hi (Nat.not_lt_zero _)) ?_ ⟨_, _, Wk.refl .., Nat.le_refl _, rfl, rfl⟩)
  rintro J _ _ ⟨rfl, rfl⟩
  refine aw_seq (aw_rg (awT_ops ?_))
  simp [evOK, evO, gdA, aop, Opd.ev, putA, Tr.get_set, thenA, awT_nil, Hp.app, pure1, binA, binI]
  refine aw_seq (aw_f (by simp [Opd.ev, Tr.get_set]) (aw_exit ?_))
  simp [thenA, inB, Tr.get_set, exBool, jumpC, Hp.app, Tr.set_set]
  have e : H.m.set b (.lp .ready none 75 #[56, 57] cas cbd F) = H.m := Tr.set_same hb
  rw [e]
  exact hR
theorem spec_ok (m k : Int) (hm : 1 ≤ m ∧ m ≤ 64) (hk : 1 ≤ k ∧ k ≤ 64) : ICall P 15 [.e0, .e0, .i .i64 5, .i .i64 m, .i .i64 k] H7 fun v H' => v = .tu [.ag [.i .i64 5, .i .i64 m, .i .i64 k, .e0, .e0], .i .i64 0] ∧ H'.m.get .e = some (.box 30 zs) := by
  refine fnT_I k15_ok (by simp [k15]) ?_
  simp only [k15, b1, b2, b3, b4, b5, b6, b7, b8, b9, b10, b11, b12, b13, b14, b15, b16, b17, b18, b19, b20, b21, b22, b23, b24, b25, b26, b27, b28, b29, b30, b31, b32, b33, b34, b35, b36, b37, b38, b39, b40, b41, b42, b43, b44, b45, b46, b47, b48, b49, b50, b51, b52, b53, b54, b55, b56, b57, b58, b59, b60, b61, b62, b63, b64, b65, b66, b67, b68, b69, b70, b71, b72, b73, b74, b75]
  refine aw_seq (aw_rg (awT_ops ?_))
  simp [evOK, evO, gdA, aop, Opd.ev, putA, Tr.get, Tr.set, B.succ, Hp.app, thenA, inB, awT_nil, pure1, binA, binI, unA, loadA, storeA, getN, spliceIf, splice, wrM, Blk.wr, faA, lenA, fillA, AV.cells, AV.one, p0, p1, p2, p3, p4, mkfr]
  refine aw_seq (aw_seq (aw_rg (awT_ops ?_)))
  simp [evOK, evO, gdA, aop, Opd.ev, putA, Tr.get, Tr.set, B.succ, Hp.app, thenA, inB, awT_nil, pure1, binA, binI, unA, loadA, storeA, getN, spliceIf, splice, wrM, Blk.wr, faA, lenA, fillA, AV.cells, AV.one, p0, p1, p2, p3, p4, mkfr]
  refine awT_call rfl rfl (good_I m _) ?_
  rintro _ _ ⟨rfl, rfl⟩
  refine awT_ops ?_
  simp [evOK, evO, gdA, aop, Opd.ev, putA, Tr.get, Tr.set, B.succ, Hp.app, thenA, inB, awT_nil, pure1, binA, binI, unA, loadA, storeA, getN, spliceIf, splice, wrM, Blk.wr, faA, lenA, fillA, AV.cells, AV.one, p0, p1, p2, p3, p4, mkfr, hm]
  refine awT_callG rfl rfl rfl (good_I k _) ?_
  rintro _ _ ⟨rfl, rfl⟩
  refine awT_ops ?_
  simp [evOK, evO, gdA, aop, Opd.ev, putA, Tr.get, Tr.set, B.succ, Hp.app, thenA, inB, awT_nil, pure1, binA, binI, unA, loadA, storeA, getN, spliceIf, splice, wrM, Blk.wr, faA, lenA, fillA, AV.cells, AV.one, p0, p1, p2, p3, p4, mkfr, hk]
  refine aw_f rfl ?_
  refine aw_skip ?_
  simp only [thenA]
  refine aw_seq (aw_rg (awT_ops ?_))
  simp [evOK, evO, gdA, aop, Opd.ev, putA, Tr.get, Tr.set, B.succ, Hp.app, thenA, inB, awT_nil, pure1, binA, binI, unA, loadA, storeA, getN, spliceIf, splice, wrM, Blk.wr, faA, lenA, fillA, AV.cells, AV.one, p0, p1, p2, p3, p4, mkfr]
  refine aw_seq (aw_seq (aw_rg (awT_ops ?_)))
  simp [evOK, evO, gdA, aop, Opd.ev, putA, Tr.get, Tr.set, B.succ, Hp.app, thenA, inB, awT_nil, pure1, binA, binI, unA, loadA, storeA, getN, spliceIf, splice, wrM, Blk.wr, faA, lenA, fillA, AV.cells, AV.one, p0, p1, p2, p3, p4, mkfr]
  refine aw_block (aw_loop 0 (fun _ fr H => fr = _ ∧ H = _) (fun i hi => absurd hi (Nat.not_lt_zero _)) ?_ ⟨_, _, Wk.refl .., ?_, rfl, rfl⟩)
  · rintro J _ _ ⟨rfl, rfl⟩
    refine aw_seq (aw_rg (awT_ops ?_))
    simp [evOK, evO, gdA, aop, Opd.ev, putA, Tr.get, Tr.set, B.succ, Hp.app, thenA, inB, awT_nil, pure1, binA, binI, unA, loadA, storeA, getN, spliceIf, splice, wrM, Blk.wr, faA, lenA, fillA, AV.cells, AV.one, p0, p1, p2, p3, p4, mkfr]
    refine aw_seq (aw_f rfl ?_)
    refine aw_exit ?_
    simp [thenA, inB]
    refine aw_seq (aw_seq (aw_rg (awT_ops ?_)))
    simp [evOK, evO, gdA, aop, Opd.ev, putA, Tr.get, Tr.set, B.succ, Hp.app, thenA, inB, awT_nil, pure1, binA, binI, unA, loadA, storeA, getN, spliceIf, splice, wrM, Blk.wr, faA, lenA, fillA, AV.cells, AV.one, p0, p1, p2, p3, p4, mkfr]
    refine awT_call rfl rfl (tiles_I m k _) ?_
    rintro _ _ ⟨rfl, rfl⟩
    refine awT_ops ?_
    simp [evOK, evO, gdA, aop, Opd.ev, putA, Tr.get, Tr.set, B.succ, Hp.app, thenA, inB, awT_nil, pure1, binA, binI, unA, loadA, storeA, getN, spliceIf, splice, wrM, Blk.wr, faA, lenA, fillA, AV.cells, AV.one, p0, p1, p2, p3, p4, mkfr]
    refine aw_block (aw_rngf rfl ((tiles_Y m k hm hk ?_ ?_ fun i j R hR => spec_round ?_ ?_ ?_ ?_ i j R hR).mono ?_))
    · simp [entY, Hp.app, Tr.get, Tr.set]
    · simp [entY, Hp.app, Tr.get, Tr.set]
    · simp [b7, Tr.get, Tr.set]
    · simp [entY, Hp.app, Tr.get, Tr.set]
    · simp [entY, Hp.app, Tr.get, Tr.set]
    · simp
    · rintro v H' rfl
      refine ⟨.n, ?_, ?_⟩
      · simp [entY, Hp.app, Tr.get, Tr.set, exBool, jumpC]
      · simp [thenA, inB]
        refine aw_seq (aw_rg (awT_ops ?_))
        simp [evOK, evO, gdA, aop, Opd.ev, putA, Tr.get, Tr.set, B.succ, Hp.app, thenA, inB, awT_nil, pure1, binA, binI, unA, loadA, storeA, getN, spliceIf, splice, wrM, Blk.wr, faA, lenA, fillA, AV.cells, AV.one, p0, p1, p2, p3, p4, mkfr, entY]
        refine aw_ret ?_
        simp [finK, resA, RV.ev, Opd.ev, Tr.get, resV, loadA, getN]
  · simp [B.toNat]
end Go.Za.Td25
