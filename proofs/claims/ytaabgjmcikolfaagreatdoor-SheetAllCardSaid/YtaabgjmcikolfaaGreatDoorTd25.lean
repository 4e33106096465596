/- Abstract code, printed. No condition. -/
import Derived.Test.YtaabgjmcikolfaaGreatDoorZa24
import Derived.Test.YtaabgjmcikolfaaGreatDoorProg
set_option maxRecDepth 100000
set_option linter.unusedVariables false
namespace Go.Za.Td25
open Go.Za Go
def b1 : B := .e
def b2 : B := .l .e
def b3 : B := .r .e
def b4 : B := .l (.l .e)
def b5 : B := .r (.l .e)
def b6 : B := .l (.r .e)
def b7 : B := .r (.r .e)
def b8 : B := .l (.l (.l .e))
def b9 : B := .r (.l (.l .e))
def b10 : B := .l (.r (.l .e))
def b11 : B := .r (.r (.l .e))
def b12 : B := .l (.l (.r .e))
def b13 : B := .r (.l (.r .e))
def b14 : B := .l (.r (.r .e))
def b15 : B := .r (.r (.r .e))
def b16 : B := .l (.l (.l (.l .e)))
def b17 : B := .r (.l (.l (.l .e)))
def b18 : B := .l (.r (.l (.l .e)))
def b19 : B := .r (.r (.l (.l .e)))
def b20 : B := .l (.l (.r (.l .e)))
def b21 : B := .r (.l (.r (.l .e)))
def b22 : B := .l (.r (.r (.l .e)))
def b23 : B := .r (.r (.r (.l .e)))
def b24 : B := .l (.l (.l (.r .e)))
def b25 : B := .r (.l (.l (.r .e)))
def b26 : B := .l (.r (.l (.r .e)))
def b27 : B := .r (.r (.l (.r .e)))
def b28 : B := .l (.l (.r (.r .e)))
def b29 : B := .r (.l (.r (.r .e)))
def b30 : B := .l (.r (.r (.r .e)))
def b31 : B := .r (.r (.r (.r .e)))
def b32 : B := .l (.l (.l (.l (.l .e))))
def b33 : B := .r (.l (.l (.l (.l .e))))
def b34 : B := .l (.r (.l (.l (.l .e))))
def b35 : B := .r (.r (.l (.l (.l .e))))
def b36 : B := .l (.l (.r (.l (.l .e))))
def b37 : B := .r (.l (.r (.l (.l .e))))
def b38 : B := .l (.r (.r (.l (.l .e))))
def b39 : B := .r (.r (.r (.l (.l .e))))
def b40 : B := .l (.l (.l (.r (.l .e))))
def b41 : B := .r (.l (.l (.r (.l .e))))
def b42 : B := .l (.r (.l (.r (.l .e))))
def b43 : B := .r (.r (.l (.r (.l .e))))
def b44 : B := .l (.l (.r (.r (.l .e))))
def b45 : B := .r (.l (.r (.r (.l .e))))
def b46 : B := .l (.r (.r (.r (.l .e))))
def b47 : B := .r (.r (.r (.r (.l .e))))
def b48 : B := .l (.l (.l (.l (.r .e))))
def b49 : B := .r (.l (.l (.l (.r .e))))
def b50 : B := .l (.r (.l (.l (.r .e))))
def b51 : B := .r (.r (.l (.l (.r .e))))
def b52 : B := .l (.l (.r (.l (.r .e))))
def b53 : B := .r (.l (.r (.l (.r .e))))
def b54 : B := .l (.r (.r (.l (.r .e))))
def b55 : B := .r (.r (.r (.l (.r .e))))
def b56 : B := .l (.l (.l (.r (.r .e))))
def b57 : B := .r (.l (.l (.r (.r .e))))
def b58 : B := .l (.r (.l (.r (.r .e))))
def b59 : B := .r (.r (.l (.r (.r .e))))
def b60 : B := .l (.l (.r (.r (.r .e))))
def b61 : B := .r (.l (.r (.r (.r .e))))
def b62 : B := .l (.r (.r (.r (.r .e))))
def b63 : B := .r (.r (.r (.r (.r .e))))
def b64 : B := .l (.l (.l (.l (.l (.l .e)))))
def b65 : B := .r (.l (.l (.l (.l (.l .e)))))
def b66 : B := .l (.r (.l (.l (.l (.l .e)))))
def b67 : B := .r (.r (.l (.l (.l (.l .e)))))
def b68 : B := .l (.l (.r (.l (.l (.l .e)))))
def b69 : B := .r (.l (.r (.l (.l (.l .e)))))
def b70 : B := .l (.r (.r (.l (.l (.l .e)))))
def b71 : B := .r (.r (.r (.l (.l (.l .e)))))
def b72 : B := .l (.l (.l (.r (.l (.l .e)))))
def b73 : B := .r (.l (.l (.r (.l (.l .e)))))
def b74 : B := .l (.r (.l (.r (.l (.l .e)))))
def b75 : B := .r (.r (.l (.r (.l (.l .e)))))
def b76 : B := .l (.l (.r (.r (.l (.l .e)))))
def b77 : B := .r (.l (.r (.r (.l (.l .e)))))
def b78 : B := .l (.r (.r (.r (.l (.l .e)))))
def b79 : B := .r (.r (.r (.r (.l (.l .e)))))
def b80 : B := .l (.l (.l (.l (.r (.l .e)))))
def b81 : B := .r (.l (.l (.l (.r (.l .e)))))
def b82 : B := .l (.r (.l (.l (.r (.l .e)))))
def b83 : B := .r (.r (.l (.l (.r (.l .e)))))
def b84 : B := .l (.l (.r (.l (.r (.l .e)))))
def b85 : B := .r (.l (.r (.l (.r (.l .e)))))
def b86 : B := .l (.r (.r (.l (.r (.l .e)))))
def b87 : B := .r (.r (.r (.l (.r (.l .e)))))
def b88 : B := .l (.l (.l (.r (.r (.l .e)))))
def b89 : B := .r (.l (.l (.r (.r (.l .e)))))
def b90 : B := .l (.r (.l (.r (.r (.l .e)))))
def b91 : B := .r (.r (.l (.r (.r (.l .e)))))
def b92 : B := .l (.l (.r (.r (.r (.l .e)))))
def b93 : B := .r (.l (.r (.r (.r (.l .e)))))
def b94 : B := .l (.r (.r (.r (.r (.l .e)))))
def b95 : B := .r (.r (.r (.r (.r (.l .e)))))
def b96 : B := .l (.l (.l (.l (.l (.r .e)))))
def b97 : B := .r (.l (.l (.l (.l (.r .e)))))
def b98 : B := .l (.r (.l (.l (.l (.r .e)))))
def b99 : B := .r (.r (.l (.l (.l (.r .e)))))
def b100 : B := .l (.l (.r (.l (.l (.r .e)))))
def b101 : B := .r (.l (.r (.l (.l (.r .e)))))
def b102 : B := .l (.r (.r (.l (.l (.r .e)))))
def b103 : B := .r (.r (.r (.l (.l (.r .e)))))
def b104 : B := .l (.l (.l (.r (.l (.r .e)))))
def b105 : B := .r (.l (.l (.r (.l (.r .e)))))
def b106 : B := .l (.r (.l (.r (.l (.r .e)))))
def b107 : B := .r (.r (.l (.r (.l (.r .e)))))
def b108 : B := .l (.l (.r (.r (.l (.r .e)))))
def b109 : B := .r (.l (.r (.r (.l (.r .e)))))
def b110 : B := .l (.r (.r (.r (.l (.r .e)))))
def b111 : B := .r (.r (.r (.r (.l (.r .e)))))
def b112 : B := .l (.l (.l (.l (.r (.r .e)))))
def b113 : B := .r (.l (.l (.l (.r (.r .e)))))
def b114 : B := .l (.r (.l (.l (.r (.r .e)))))
def b115 : B := .r (.r (.l (.l (.r (.r .e)))))
def b116 : B := .l (.l (.r (.l (.r (.r .e)))))
def b117 : B := .r (.l (.r (.l (.r (.r .e)))))
def b118 : B := .l (.r (.r (.l (.r (.r .e)))))
def b119 : B := .r (.r (.r (.l (.r (.r .e)))))
def b120 : B := .l (.l (.l (.r (.r (.r .e)))))
def b121 : B := .r (.l (.l (.r (.r (.r .e)))))
def b122 : B := .l (.r (.l (.r (.r (.r .e)))))
def b123 : B := .r (.r (.l (.r (.r (.r .e)))))
def b124 : B := .l (.l (.r (.r (.r (.r .e)))))
def b125 : B := .r (.l (.r (.r (.r (.r .e)))))
def b126 : B := .l (.r (.r (.r (.r (.r .e)))))
def b127 : B := .r (.r (.r (.r (.r (.r .e)))))
def b128 : B := .l (.l (.l (.l (.l (.l (.l .e))))))
def b129 : B := .r (.l (.l (.l (.l (.l (.l .e))))))
def b130 : B := .l (.r (.l (.l (.l (.l (.l .e))))))
def b131 : B := .r (.r (.l (.l (.l (.l (.l .e))))))
def b132 : B := .l (.l (.r (.l (.l (.l (.l .e))))))
def b133 : B := .r (.l (.r (.l (.l (.l (.l .e))))))
def b134 : B := .l (.r (.r (.l (.l (.l (.l .e))))))
def b135 : B := .r (.r (.r (.l (.l (.l (.l .e))))))
def b136 : B := .l (.l (.l (.r (.l (.l (.l .e))))))
def b137 : B := .r (.l (.l (.r (.l (.l (.l .e))))))
def b138 : B := .l (.r (.l (.r (.l (.l (.l .e))))))
def b139 : B := .r (.r (.l (.r (.l (.l (.l .e))))))
def b140 : B := .l (.l (.r (.r (.l (.l (.l .e))))))
def b141 : B := .r (.l (.r (.r (.l (.l (.l .e))))))
def b142 : B := .l (.r (.r (.r (.l (.l (.l .e))))))
def b143 : B := .r (.r (.r (.r (.l (.l (.l .e))))))
def b144 : B := .l (.l (.l (.l (.r (.l (.l .e))))))
def b145 : B := .r (.l (.l (.l (.r (.l (.l .e))))))
def b146 : B := .l (.r (.l (.l (.r (.l (.l .e))))))
def b147 : B := .r (.r (.l (.l (.r (.l (.l .e))))))
def b148 : B := .l (.l (.r (.l (.r (.l (.l .e))))))
/-- zellige/zelligelaw25.SheetAll -/
noncomputable def k4 : FnT := ⟨(.seq (.rg [⟨(some b5), none, (.op (.mv (.c (.b false))))⟩])
 (.seq (.rg [⟨(some b9), none, (.op (.mv (.t b1)))⟩, ⟨(some b10), none, (.op (.mv (.t b2)))⟩, ⟨(some b11), none, (.call false (.c (.fn 7 [])) [(.c .e0), (.c .e0), (.c (.i .i64 5)), (.t b9), (.t b10)])⟩, ⟨(some b8), none, (.op (.mv (.t b11)))⟩, ⟨(some b12), none, (.op (.ext 0 (.t b8)))⟩, ⟨(some b13), none, (.op (.ext 1 (.t b8)))⟩, ⟨(some b6), none, (.op (.al 30 [(.i .i64 0), (.i .i64 0), (.i .i64 0), .e0, .e0]))⟩, ⟨none, none, (.op (.st 5 (.t b6) (.t b12)))⟩, ⟨(some b7), none, (.op (.mv (.t b13)))⟩])
 (.seq (.seq (.rg [⟨(some b14), none, (.op (.mv (.t b1)))⟩, ⟨(some b15), none, (.op (.bin .lss (.t b14) (.c (.i .i64 1))))⟩, ⟨(some b16), none, (.op (.mv (.t b15)))⟩, ⟨(some b17), (some (b16, false)), (.op (.mv (.t b1)))⟩, ⟨(some b18), (some (b16, false)), (.op (.bin .gtr (.t b17) (.c (.i .i64 64))))⟩, ⟨(some b19), none, (.op (.pick (.t b16) (.c (.b true)) (.t b18)))⟩, ⟨(some b20), none, (.op (.mv (.t b19)))⟩, ⟨(some b21), (some (b20, false)), (.op (.mv (.t b2)))⟩, ⟨(some b22), (some (b20, false)), (.op (.bin .lss (.t b21) (.c (.i .i64 1))))⟩, ⟨(some b23), none, (.op (.pick (.t b20) (.c (.b true)) (.t b22)))⟩, ⟨(some b24), none, (.op (.mv (.t b23)))⟩, ⟨(some b25), (some (b24, false)), (.op (.mv (.t b2)))⟩, ⟨(some b26), (some (b24, false)), (.op (.bin .gtr (.t b25) (.c (.i .i64 64))))⟩, ⟨(some b27), none, (.op (.pick (.t b24) (.c (.b true)) (.t b26)))⟩])
 (.cond (.t b27) (.seq (.rg [⟨(some b28), none, (.op (.ld (some 5) (.t b6)))⟩, ⟨(some b29), none, (.op (.bld [(.i .i64 0), (.i .i64 0), (.i .i64 0), .e0, .e0] []))⟩, ⟨(some b30), none, (.call false (.c (.fn 9 [])) [(.t b28), (.t b29)])⟩, ⟨(some b31), none, (.op (.mv (.t b30)))⟩, ⟨(some b32), (some (b31, true)), (.op (.mv (.t b7)))⟩, ⟨(some b33), (some (b31, true)), (.op (.bin .eql (.t b32) (.c (.i .i64 16))))⟩, ⟨(some b34), none, (.op (.pick (.t b31) (.t b33) (.c (.b false))))⟩, ⟨(some b35), none, (.op (.mv (.t b34)))⟩, ⟨(some b36), (some (b35, true)), (.call false (.c (.fn 10 [])) [])⟩, ⟨(some b37), none, (.op (.pick (.t b35) (.t b36) (.c (.b false))))⟩, ⟨(some b5), none, (.op (.mv (.t b37)))⟩])
 .ret) .skip))
 (.seq (.rg [⟨(some b38), none, (.op (.ld (some 5) (.t b6)))⟩, ⟨(some b39), none, (.op (.mv (.t b1)))⟩, ⟨(some b40), none, (.op (.mv (.t b2)))⟩, ⟨(some b41), none, (.op (.bld [(.i .i64 0), (.i .i64 0), (.i .i64 0), .e0, .e0] [(0, (1, (.c (.i .i64 5)))), (1, (1, (.t b39))), (2, (1, (.t b40)))]))⟩, ⟨(some b42), none, (.call false (.c (.fn 9 [])) [(.t b38), (.t b41)])⟩, ⟨(some b43), none, (.op (.mv (.t b42)))⟩, ⟨(some b44), (some (b43, true)), (.op (.mv (.t b7)))⟩, ⟨(some b45), (some (b43, true)), (.op (.bin .eql (.t b44) (.c (.i .i64 0))))⟩, ⟨(some b46), none, (.op (.pick (.t b43) (.t b45) (.c (.b false))))⟩, ⟨(some b47), none, (.op (.mv (.t b46)))⟩, ⟨(some b48), (some (b47, true)), (.call false (.c (.fn 10 [])) [])⟩, ⟨(some b49), none, (.op (.pick (.t b47) (.t b48) (.c (.b false))))⟩, ⟨(some b5), none, (.op (.mv (.t b49)))⟩])
 .ret)))), [(.t b5)], 49⟩

/-- zellige/sheet.Spec -/
noncomputable def k7 : FnT := ⟨(.seq (.rg [⟨(some b11), none, (.op (.al 30 [(.i .i64 0), (.i .i64 0), (.i .i64 0), .e0, .e0]))⟩, ⟨(some b12), none, (.op (.mv (.c (.i .i64 0))))⟩])
 (.seq (.rg [⟨(some b13), none, (.op (.mv (.t b1)))⟩, ⟨(some b14), none, (.op (.mv (.t b2)))⟩, ⟨(some b15), none, (.op (.mv (.t b3)))⟩, ⟨(some b16), none, (.op (.mv (.t b4)))⟩, ⟨(some b17), none, (.op (.mv (.t b5)))⟩, ⟨(some b18), none, (.call false (.c (.fn 15 [])) [(.t b13), (.t b14), (.t b15), (.t b16), (.t b17)])⟩, ⟨(some b19), none, (.op (.ext 0 (.t b18)))⟩, ⟨(some b20), none, (.op (.ext 1 (.t b18)))⟩, ⟨none, none, (.op (.st 5 (.t b11) (.t b19)))⟩, ⟨(some b12), none, (.op (.mv (.t b20)))⟩])
 .ret)), [(.c (some 5) b11), (.t b12)], 20⟩
/-- zellige/zelligeref24.Same -/
noncomputable def k9 : FnT := ⟨(.seq (.rg [⟨(some b3), none, (.op (.box 30 (.t b1)))⟩, ⟨(some b4), none, (.op (.box 30 (.t b2)))⟩, ⟨(some b5), none, (.op (.mv (.c (.b false))))⟩])
 (.seq (.seq (.rg [⟨(some b7), none, (.op (.fa 0 (.t b3)))⟩, ⟨(some b8), none, (.op (.ld none (.t b7)))⟩, ⟨(some b9), none, (.op (.fa 0 (.t b4)))⟩, ⟨(some b10), none, (.op (.ld none (.t b9)))⟩, ⟨(some b11), none, (.op (.bin .neq (.t b8) (.t b10)))⟩, ⟨(some b12), none, (.op (.mv (.t b11)))⟩, ⟨(some b13), (some (b12, false)), (.op (.fa 1 (.t b3)))⟩, ⟨(some b14), (some (b12, false)), (.op (.ld none (.t b13)))⟩, ⟨(some b15), (some (b12, false)), (.op (.fa 1 (.t b4)))⟩, ⟨(some b16), (some (b12, false)), (.op (.ld none (.t b15)))⟩, ⟨(some b17), (some (b12, false)), (.op (.bin .neq (.t b14) (.t b16)))⟩, ⟨(some b18), none, (.op (.pick (.t b12) (.c (.b true)) (.t b17)))⟩, ⟨(some b19), none, (.op (.mv (.t b18)))⟩, ⟨(some b20), (some (b19, false)), (.op (.fa 2 (.t b3)))⟩, ⟨(some b21), (some (b19, false)), (.op (.ld none (.t b20)))⟩, ⟨(some b22), (some (b19, false)), (.op (.fa 2 (.t b4)))⟩, ⟨(some b23), (some (b19, false)), (.op (.ld none (.t b22)))⟩, ⟨(some b24), (some (b19, false)), (.op (.bin .neq (.t b21) (.t b23)))⟩, ⟨(some b25), none, (.op (.pick (.t b19) (.c (.b true)) (.t b24)))⟩, ⟨(some b26), none, (.op (.mv (.t b25)))⟩, ⟨(some b27), (some (b26, false)), (.op (.fa 3 (.t b3)))⟩, ⟨(some b28), (some (b26, false)), (.op (.ld none (.t b27)))⟩, ⟨(some b29), (some (b26, false)), (.op (.fa 3 (.t b4)))⟩, ⟨(some b30), (some (b26, false)), (.op (.ld none (.t b29)))⟩, ⟨(some b31), (some (b26, false)), (.call false (.c (.fn 16 [])) [(.t b28), (.t b30)])⟩, ⟨(some b32), (some (b26, false)), (.op (.un .not (.t b31)))⟩, ⟨(some b33), none, (.op (.pick (.t b26) (.c (.b true)) (.t b32)))⟩, ⟨(some b34), none, (.op (.mv (.t b33)))⟩, ⟨(some b35), (some (b34, false)), (.op (.fa 4 (.t b3)))⟩, ⟨(some b36), (some (b34, false)), (.op (.ld none (.t b35)))⟩, ⟨(some b37), (some (b34, false)), (.op (.len 1 (.t b36)))⟩, ⟨(some b38), (some (b34, false)), (.op (.fa 4 (.t b4)))⟩, ⟨(some b39), (some (b34, false)), (.op (.ld none (.t b38)))⟩, ⟨(some b40), (some (b34, false)), (.op (.len 1 (.t b39)))⟩, ⟨(some b41), (some (b34, false)), (.op (.bin .neq (.t b37) (.t b40)))⟩, ⟨(some b42), none, (.op (.pick (.t b34) (.c (.b true)) (.t b41)))⟩])
 (.cond (.t b42) (.seq (.rg [⟨(some b5), none, (.op (.mv (.c (.b false))))⟩])
 .ret) .skip))
 (.seq (.seq (.rg [⟨(some b6), none, (.op (.mv (.c (.i .i64 0))))⟩])
 (.block 0 (.loop (.seq (.seq (.rg [⟨(some b43), none, (.op (.mv (.t b6)))⟩, ⟨(some b44), none, (.op (.fa 4 (.t b3)))⟩, ⟨(some b45), none, (.op (.ld none (.t b44)))⟩, ⟨(some b46), none, (.op (.len 1 (.t b45)))⟩, ⟨(some b47), none, (.op (.bin .lss (.t b43) (.t b46)))⟩])
 (.cond (.t b47) .skip (.exit 0)))
 (.seq (.block 1 (.seq (.rd [⟨(some b50), none, (.op (.fa 4 (.t b3)))⟩, ⟨(some b51), none, (.op (.ld none (.t b50)))⟩, ⟨(some b52), none, (.op (.mv (.t b6)))⟩, ⟨(some b53), none, (.op (.ixs 9 (.t b51) (.t b52)))⟩, ⟨(some b54), none, (.op (.ld (some 9) (.t b53)))⟩, ⟨(some b55), none, (.op (.fa 4 (.t b4)))⟩, ⟨(some b56), none, (.op (.ld none (.t b55)))⟩, ⟨(some b57), none, (.op (.mv (.t b6)))⟩, ⟨(some b58), none, (.op (.ixs 9 (.t b56) (.t b57)))⟩, ⟨(some b59), none, (.op (.ld (some 9) (.t b58)))⟩, ⟨(some b60), none, (.op (.eqa true [0, 0, 0, 0, 0, 0, 0, 0, 0] (.t b54) (.t b59)))⟩] [])
 (.cond (.t b60) (.seq (.rg [⟨(some b5), none, (.op (.mv (.c (.b false))))⟩])
 .ret) .skip)))
 (.rg [⟨(some b48), none, (.op (.mv (.t b6)))⟩, ⟨(some b49), none, (.op (.bin .add (.t b48) (.c (.i .i64 1))))⟩, ⟨(some b6), none, (.op (.mv (.t b49)))⟩]))))))
 (.seq (.rg [⟨(some b5), none, (.op (.mv (.c (.b true))))⟩])
 .ret)))), [(.t b5)], 60⟩
/-- zellige/zelligelaw25.lives -/
noncomputable def k10 : FnT := ⟨(.seq (.rg [⟨(some b1), none, (.op (.mv (.c (.b false))))⟩])
 (.seq (.rg [⟨(some b9), none, (.call false (.c (.fn 17 [])) [(.c (.i .i64 10)), (.c (.i .i64 5))])⟩, ⟨(some b8), none, (.op (.mv (.t b9)))⟩, ⟨(some b10), none, (.op (.ext 0 (.t b8)))⟩, ⟨(some b11), none, (.op (.ext 1 (.t b8)))⟩, ⟨(some b2), none, (.op (.mv (.t b10)))⟩, ⟨(some b3), none, (.op (.mv (.t b11)))⟩])
 (.seq (.rg [⟨(some b13), none, (.op (.mv (.t b2)))⟩, ⟨(some b14), none, (.call false (.c (.fn 18 [])) [(.t b13), (.c (.i .i64 1)), (.c (.i .i64 1))])⟩, ⟨(some b12), none, (.op (.mv (.t b14)))⟩, ⟨(some b15), none, (.op (.ext 0 (.t b12)))⟩, ⟨(some b16), none, (.op (.ext 1 (.t b12)))⟩, ⟨(some b4), none, (.op (.mv (.t b15)))⟩, ⟨(some b5), none, (.op (.mv (.t b16)))⟩])
 (.seq (.rg [⟨(some b18), none, (.op (.mv (.t b2)))⟩, ⟨(some b19), none, (.call false (.c (.fn 18 [])) [(.t b18), (.c (.i .i64 0)), (.c (.i .i64 1))])⟩, ⟨(some b17), none, (.op (.mv (.t b19)))⟩, ⟨(some b20), none, (.op (.ext 0 (.t b17)))⟩, ⟨(some b21), none, (.op (.ext 1 (.t b17)))⟩, ⟨(some b6), none, (.op (.mv (.t b20)))⟩, ⟨(some b7), none, (.op (.mv (.t b21)))⟩])
 (.seq (.rg [⟨(some b22), none, (.op (.mv (.t b3)))⟩, ⟨(some b23), none, (.op (.bin .eql (.t b22) (.c (.i .i64 0))))⟩, ⟨(some b24), none, (.op (.mv (.t b23)))⟩, ⟨(some b25), (some (b24, true)), (.op (.mv (.t b4)))⟩, ⟨(some b26), (some (b24, true)), (.op (.bin .eql (.t b25) (.c (.s [109, 101, 115, 104, 32, 49, 48, 32, 49, 32, 49, 10, 101, 110, 100, 10]))))⟩, ⟨(some b27), none, (.op (.pick (.t b24) (.t b26) (.c (.b false))))⟩, ⟨(some b28), none, (.op (.mv (.t b27)))⟩, ⟨(some b29), (some (b28, true)), (.op (.mv (.t b5)))⟩, ⟨(some b30), (some (b28, true)), (.op (.bin .eql (.t b29) (.c (.i .i64 0))))⟩, ⟨(some b31), none, (.op (.pick (.t b28) (.t b30) (.c (.b false))))⟩, ⟨(some b32), none, (.op (.mv (.t b31)))⟩, ⟨(some b33), (some (b32, true)), (.op (.mv (.t b7)))⟩, ⟨(some b34), (some (b32, true)), (.op (.bin .eql (.t b33) (.c (.i .i64 16))))⟩, ⟨(some b35), none, (.op (.pick (.t b32) (.t b34) (.c (.b false))))⟩, ⟨(some b1), none, (.op (.mv (.t b35)))⟩])
 .ret))))), [(.t b1)], 35⟩

/-- zellige/sheet.spec -/
noncomputable def k15 : FnT := ⟨(.seq (.rg [⟨(some b7), none, (.op (.box 23 (.t b2)))⟩, ⟨(some b11), none, (.op (.al 30 [(.i .i64 0), (.i .i64 0), (.i .i64 0), .e0, .e0]))⟩, ⟨(some b12), none, (.op (.mv (.c (.i .i64 0))))⟩])
 (.seq (.seq (.rg [⟨(some b20), none, (.op (.mv (.t b4)))⟩, ⟨(some b21), none, (.call false (.c (.fn 23 [])) [(.t b20)])⟩, ⟨(some b22), none, (.op (.un .not (.t b21)))⟩, ⟨(some b23), none, (.op (.mv (.t b22)))⟩, ⟨(some b24), (some (b23, false)), (.op (.mv (.t b5)))⟩, ⟨(some b25), (some (b23, false)), (.call false (.c (.fn 23 [])) [(.t b24)])⟩, ⟨(some b26), (some (b23, false)), (.op (.un .not (.t b25)))⟩, ⟨(some b27), none, (.op (.pick (.t b23) (.c (.b true)) (.t b26)))⟩])
 (.cond (.t b27) (.seq (.rg [⟨(some b28), none, (.op (.bld [(.i .i64 0), (.i .i64 0), (.i .i64 0), .e0, .e0] []))⟩, ⟨none, none, (.op (.st 5 (.t b11) (.t b28)))⟩, ⟨(some b12), none, (.op (.mv (.c (.i .i64 16))))⟩])
 .ret) .skip))
 (.seq (.rg [⟨(some b29), none, (.op (.mv (.t b3)))⟩, ⟨(some b30), none, (.op (.mv (.t b4)))⟩, ⟨(some b31), none, (.op (.mv (.t b5)))⟩, ⟨(some b32), none, (.op (.bld [(.i .i64 0), (.i .i64 0), (.i .i64 0), .e0, .e0] [(0, (1, (.t b29))), (1, (1, (.t b30))), (2, (1, (.t b31)))]))⟩, ⟨(some b13), none, (.op (.al 30 [(.i .i64 0), (.i .i64 0), (.i .i64 0), .e0, .e0]))⟩, ⟨none, none, (.op (.st 5 (.t b13) (.t b32)))⟩])
 (.seq (.seq (.rg [⟨(some b33), none, (.op (.mv (.t b1)))⟩, ⟨(some b34), none, (.op (.len 1 (.t b33)))⟩, ⟨(some b35), none, (.op (.mv (.c (.i .i64 0))))⟩])
 (.block 0 (.loop (.seq (.rg [⟨(some b36), none, (.op (.bin .lss (.t b35) (.t b34)))⟩])
 (.seq (.cond (.t b36) .skip (.exit 0))
 (.seq (.block 1 (.seq (.rg [⟨(some b37), none, (.op (.ixs 3 (.t b33) (.t b35)))⟩, ⟨(some b38), none, (.op (.ld (some 3) (.t b37)))⟩, ⟨(some b15), none, (.op (.al 45 [(.i .i64 0), (.i .i64 0), (.i .i64 0)]))⟩, ⟨none, none, (.op (.st 3 (.t b15) (.t b38)))⟩])
 (.rg [⟨(some b39), none, (.op (.fa 3 (.t b13)))⟩, ⟨(some b40), none, (.op (.ld none (.t b39)))⟩, ⟨(some b41), none, (.op (.fa 0 (.t b15)))⟩, ⟨(some b42), none, (.op (.ld none (.t b41)))⟩, ⟨(some b43), none, (.op (.fa 1 (.t b15)))⟩, ⟨(some b44), none, (.op (.fa 0 (.t b43)))⟩, ⟨(some b45), none, (.op (.ld none (.t b44)))⟩, ⟨(some b46), none, (.op (.fa 1 (.t b15)))⟩, ⟨(some b47), none, (.op (.fa 1 (.t b46)))⟩, ⟨(some b48), none, (.op (.ld none (.t b47)))⟩, ⟨(some b49), none, (.op (.bld [(.i .i64 0), (.i .i64 0), (.i .i64 0)] [(0, (1, (.t b42))), (1, (1, (.t b45))), (2, (1, (.t b48)))]))⟩, ⟨(some b50), none, (.op (.lit 3 1 false [(.i .i64 0), (.i .i64 0), (.i .i64 0)] [(0, (3, (.t b49)))]))⟩, ⟨(some b51), none, (.op (.app 3 24 (.t b40) (.t b50)))⟩, ⟨(some b52), none, (.op (.fa 3 (.t b13)))⟩, ⟨none, none, (.op (.st 1 (.t b52) (.t b51)))⟩])))
 (.rg [⟨(some b53), none, (.op (.bin .add (.t b35) (.c (.i .i64 1))))⟩, ⟨(some b35), none, (.op (.mv (.t b53)))⟩])))))))
 (.seq (.seq (.rg [⟨(some b54), none, (.op (.mv (.t b4)))⟩, ⟨(some b55), none, (.op (.mv (.t b5)))⟩, ⟨(some b56), none, (.call false (.c (.fn 24 [])) [(.t b54), (.t b55)])⟩])
 (.block 2 (.rngf (.t b56) 75 [56, 57] (subC [1, 1, 1, 1, 0, 1, 0, 0] (bodyC (Go.Proofs.Tryz.f15))) (subC [1, 1, 1, 1, 0, 1, 0, 1] (bodyC (Go.Proofs.Tryz.f15))) (.seq (.rg [⟨(some b16), none, (.op (.mv (.t b57)))⟩])
 (.rg [⟨(some b17), none, (.op (.mv (.t b58)))⟩])) (.block 3 (.seq (.rg [⟨(some b59), none, (.op (.ld none (.t b7)))⟩, ⟨(some b60), none, (.op (.len 1 (.t b59)))⟩, ⟨(some b61), none, (.op (.mv (.c (.i .i64 0))))⟩])
 (.block 4 (.loop (.seq (.rg [⟨(some b62), none, (.op (.bin .lss (.t b61) (.t b60)))⟩])
 (.seq (.cond (.t b62) .skip (.exit 4))
 (.seq (.block 5 (.seq (.rg [⟨(some b63), none, (.op (.ixs 9 (.t b59) (.t b61)))⟩, ⟨(some b64), none, (.op (.ld (some 9) (.t b63)))⟩, ⟨(some b19), none, (.op (.al 54 [(.i .i64 0), (.i .i64 0), (.i .i64 0), (.i .i64 0), (.i .i64 0), (.i .i64 0), (.i .i64 0), (.i .i64 0), (.i .i64 0)]))⟩, ⟨none, none, (.op (.st 9 (.t b19) (.t b64)))⟩])
 (.rd [⟨(some b65), none, (.op (.fa 4 (.t b13)))⟩, ⟨(some b66), none, (.op (.ld none (.t b65)))⟩, ⟨(some b67), none, (.op (.ld (some 9) (.t b19)))⟩, ⟨(some b68), none, (.op (.mv (.t b16)))⟩, ⟨(some b69), none, (.op (.mv (.t b17)))⟩, ⟨(some b70), none, (.call false (.c (.fn 25 [])) [(.t b67), (.t b68), (.t b69)])⟩, ⟨(some b71), none, (.op (.lit 9 1 false [(.i .i64 0), (.i .i64 0), (.i .i64 0), (.i .i64 0), (.i .i64 0), (.i .i64 0), (.i .i64 0), (.i .i64 0), (.i .i64 0)] [(0, (9, (.t b70)))]))⟩, ⟨(some b72), none, (.op (.app 9 72 (.t b66) (.t b71)))⟩, ⟨(some b73), none, (.op (.fa 4 (.t b13)))⟩, ⟨none, none, (.op (.st 1 (.t b73) (.t b72)))⟩] [])))
 (.rg [⟨(some b74), none, (.op (.bin .add (.t b61) (.c (.i .i64 1))))⟩, ⟨(some b61), none, (.op (.mv (.t b74)))⟩])))))))))))
 (.seq (.rg [⟨(some b75), none, (.op (.ld (some 5) (.t b13)))⟩, ⟨none, none, (.op (.st 5 (.t b11) (.t b75)))⟩, ⟨(some b12), none, (.op (.mv (.c (.i .i64 0))))⟩])
 .ret)))))), [(.c (some 5) b11), (.t b12)], 75⟩
/-- zellige/zelligeref23.Same -/
noncomputable def k16 : FnT := ⟨(.seq (.rg [⟨(some b5), none, (.op (.mv (.c (.b false))))⟩])
 (.seq (.seq (.rg [⟨(some b7), none, (.op (.mv (.t b1)))⟩, ⟨(some b8), none, (.op (.len 1 (.t b7)))⟩, ⟨(some b9), none, (.op (.mv (.t b2)))⟩, ⟨(some b10), none, (.op (.len 1 (.t b9)))⟩, ⟨(some b11), none, (.op (.bin .neq (.t b8) (.t b10)))⟩])
 (.cond (.t b11) (.seq (.rg [⟨(some b5), none, (.op (.mv (.c (.b false))))⟩])
 .ret) .skip))
 (.seq (.seq (.rg [⟨(some b6), none, (.op (.mv (.c (.i .i64 0))))⟩])
 (.block 0 (.loop (.seq (.seq (.rg [⟨(some b12), none, (.op (.mv (.t b6)))⟩, ⟨(some b13), none, (.op (.mv (.t b1)))⟩, ⟨(some b14), none, (.op (.len 1 (.t b13)))⟩, ⟨(some b15), none, (.op (.bin .lss (.t b12) (.t b14)))⟩])
 (.cond (.t b15) .skip (.exit 0)))
 (.seq (.block 1 (.seq (.rd [⟨(some b18), none, (.op (.mv (.t b1)))⟩, ⟨(some b19), none, (.op (.mv (.t b6)))⟩, ⟨(some b20), none, (.op (.ixs 3 (.t b18) (.t b19)))⟩, ⟨(some b21), none, (.op (.ld (some 3) (.t b20)))⟩, ⟨(some b22), none, (.op (.mv (.t b2)))⟩, ⟨(some b23), none, (.op (.mv (.t b6)))⟩, ⟨(some b24), none, (.op (.ixs 3 (.t b22) (.t b23)))⟩, ⟨(some b25), none, (.op (.ld (some 3) (.t b24)))⟩, ⟨(some b26), none, (.op (.eqa true [0, 0, 0] (.t b21) (.t b25)))⟩] [])
 (.cond (.t b26) (.seq (.rg [⟨(some b5), none, (.op (.mv (.c (.b false))))⟩])
 .ret) .skip)))
 (.rg [⟨(some b16), none, (.op (.mv (.t b6)))⟩, ⟨(some b17), none, (.op (.bin .add (.t b16) (.c (.i .i64 1))))⟩, ⟨(some b6), none, (.op (.mv (.t b17)))⟩]))))))
 (.seq (.rg [⟨(some b5), none, (.op (.mv (.c (.b true))))⟩])
 .ret)))), [(.t b5)], 26⟩

/-- zellige/pdt.Open -/
noncomputable def k17 : FnT := ⟨(.seq (.rg [⟨(some b5), none, (.op (.mv (.c .np)))⟩, ⟨(some b6), none, (.op (.mv (.c (.i .i64 0))))⟩])
 (.seq (.seq (.rg [⟨(some b8), none, (.op (.mv (.t b1)))⟩, ⟨(some b9), none, (.op (.bin .lss (.t b8) (.c (.i .i64 1))))⟩, ⟨(some b10), none, (.op (.mv (.t b9)))⟩, ⟨(some b11), (some (b10, false)), (.op (.mv (.t b1)))⟩, ⟨(some b12), (some (b10, false)), (.op (.bin .gtr (.t b11) (.c (.i .i64 1073741824))))⟩, ⟨(some b13), none, (.op (.pick (.t b10) (.c (.b true)) (.t b12)))⟩, ⟨(some b14), none, (.op (.mv (.t b13)))⟩, ⟨(some b15), (some (b14, false)), (.op (.mv (.t b2)))⟩, ⟨(some b16), (some (b14, false)), (.op (.bin .lss (.t b15) (.c (.i .i64 1))))⟩, ⟨(some b17), none, (.op (.pick (.t b14) (.c (.b true)) (.t b16)))⟩, ⟨(some b18), none, (.op (.mv (.t b17)))⟩, ⟨(some b19), (some (b18, false)), (.op (.mv (.t b2)))⟩, ⟨(some b20), (some (b18, false)), (.op (.bin .gtr (.t b19) (.c (.i .i64 16777216))))⟩, ⟨(some b21), none, (.op (.pick (.t b18) (.c (.b true)) (.t b20)))⟩])
 (.cond (.t b21) (.seq (.rg [⟨(some b5), none, (.op (.mv (.c .np)))⟩, ⟨(some b6), none, (.op (.mv (.c (.i .i64 10))))⟩])
 .ret) .skip))
 (.seq (.rg [⟨(some b22), none, (.op (.mv (.t b1)))⟩, ⟨(some b23), none, (.op (.mv (.t b2)))⟩, ⟨(some b24), none, (.op .mkm)⟩, ⟨(some b25), none, (.op .mkm)⟩, ⟨(some b26), none, (.op (.bld [(.i .i64 0), (.i .i64 0), .nm, .nm, (.i .i64 0), (.i .i64 0), .np] [(0, (1, (.t b22))), (1, (1, (.t b23))), (2, (1, (.t b24))), (3, (1, (.t b25)))]))⟩, ⟨(some b27), none, (.op (.box 77 (.t b26)))⟩, ⟨(some b7), none, (.op (.mv (.t b27)))⟩])
 (.seq (.rg [⟨(some b28), none, (.op (.mv (.t b7)))⟩, ⟨(some b29), none, (.call false (.c (.fn 26 [])) [(.t b28)])⟩])
 (.seq (.rg [⟨(some b30), none, (.op (.mv (.t b7)))⟩, ⟨(some b5), none, (.op (.mv (.t b30)))⟩, ⟨(some b6), none, (.op (.mv (.c (.i .i64 0))))⟩])
 .ret))))), [(.t b5), (.t b6)], 30⟩

/-- zellige/sheet.Export -/
noncomputable def k18 : FnT := ⟨(.seq (.rg [⟨(some b7), none, (.op (.mv (.c (.s []))))⟩, ⟨(some b8), none, (.op (.mv (.c (.i .i64 0))))⟩])
 (.seq (.seq (.rg [⟨(some b13), none, (.op (.mv (.t b1)))⟩, ⟨(some b14), none, (.op (.ex (.peq false) [(.t b13), (.c .np)]))⟩])
 (.cond (.t b14) (.seq (.rg [⟨(some b7), none, (.op (.mv (.c (.s []))))⟩, ⟨(some b8), none, (.op (.mv (.c (.i .i64 10))))⟩])
 .ret) .skip))
 (.seq (.rg [⟨(some b16), none, (.op (.mv (.t b1)))⟩, ⟨(some b17), none, (.call false (.c (.fn 28 [])) [(.t b16)])⟩, ⟨(some b18), none, (.op (.mv (.t b1)))⟩, ⟨(some b19), none, (.call false (.c (.fn 29 [])) [(.t b18)])⟩, ⟨(some b20), none, (.call false (.c (.fn 27 [])) [(.t b17), (.t b19)])⟩, ⟨(some b15), none, (.op (.mv (.t b20)))⟩, ⟨(some b21), none, (.op (.ext 0 (.t b15)))⟩, ⟨(some b22), none, (.op (.ext 1 (.t b15)))⟩, ⟨(some b9), none, (.op (.mv (.t b21)))⟩, ⟨(some b10), none, (.op (.mv (.t b22)))⟩])
 (.seq (.rg [⟨(some b24), none, (.op (.mv (.t b1)))⟩, ⟨(some b25), none, (.call false (.c (.fn 30 [])) [(.t b24)])⟩, ⟨(some b26), none, (.op (.mv (.t b9)))⟩, ⟨(some b27), none, (.op (.mv (.t b1)))⟩, ⟨(some b28), none, (.call false (.c (.fn 29 [])) [(.t b27)])⟩, ⟨(some b29), none, (.op (.mv (.t b2)))⟩, ⟨(some b30), none, (.op (.mv (.t b3)))⟩, ⟨(some b31), none, (.call false (.c (.fn 15 [])) [(.t b25), (.t b26), (.t b28), (.t b29), (.t b30)])⟩, ⟨(some b23), none, (.op (.mv (.t b31)))⟩, ⟨(some b32), none, (.op (.ext 0 (.t b23)))⟩, ⟨(some b33), none, (.op (.ext 1 (.t b23)))⟩, ⟨(some b11), none, (.op (.al 30 [(.i .i64 0), (.i .i64 0), (.i .i64 0), .e0, .e0]))⟩, ⟨none, none, (.op (.st 5 (.t b11) (.t b32)))⟩, ⟨(some b12), none, (.op (.mv (.t b33)))⟩])
 (.seq (.seq (.rg [⟨(some b34), none, (.op (.mv (.t b12)))⟩, ⟨(some b35), none, (.op (.bin .neq (.t b34) (.c (.i .i64 0))))⟩])
 (.cond (.t b35) (.seq (.rg [⟨(some b36), none, (.op (.mv (.t b12)))⟩, ⟨(some b7), none, (.op (.mv (.c (.s []))))⟩, ⟨(some b8), none, (.op (.mv (.t b36)))⟩])
 .ret) .skip))
 (.seq (.rg [⟨(some b37), none, (.op (.ld (some 5) (.t b11)))⟩, ⟨(some b38), none, (.call false (.c (.fn 31 [])) [(.t b37)])⟩, ⟨(some b7), none, (.op (.mv (.t b38)))⟩, ⟨(some b8), none, (.op (.mv (.c (.i .i64 0))))⟩])
 .ret)))))), [(.t b7), (.t b8)], 38⟩
/-- zellige/sheet.good -/
noncomputable def k23 : FnT := ⟨(.seq (.rg [⟨(some b3), none, (.op (.mv (.c (.b false))))⟩])
 (.seq (.rg [⟨(some b4), none, (.op (.mv (.t b1)))⟩, ⟨(some b5), none, (.op (.bin .geq (.t b4) (.c (.i .i64 1))))⟩, ⟨(some b6), none, (.op (.mv (.t b5)))⟩, ⟨(some b7), (some (b6, true)), (.op (.mv (.t b1)))⟩, ⟨(some b8), (some (b6, true)), (.op (.bin .leq (.t b7) (.c (.i .i64 64))))⟩, ⟨(some b9), none, (.op (.pick (.t b6) (.t b8) (.c (.b false))))⟩, ⟨(some b3), none, (.op (.mv (.t b9)))⟩])
 .ret)), [(.t b3)], 9⟩
/-- zellige/sheet.tiles -/
noncomputable def k24 : FnT := ⟨(.seq (.rg [⟨(some b3), none, (.op (.box 3 (.t b1)))⟩, ⟨(some b4), none, (.op (.box 3 (.t b2)))⟩, ⟨(some b5), none, (.op (.mv (.c .nf)))⟩])
 (.seq (.rg [⟨(some b6), none, (.op (.mkf 41 [(.t b3), (.t b4)]))⟩, ⟨(some b5), none, (.op (.mv (.t b6)))⟩])
 .ret)), [(.t b5)], 6⟩
/-- (*zellige/pdt.Engine).clear -/
noncomputable def k26 : FnT := ⟨(.seq (.rg [⟨(some b3), none, (.op (.mv (.t b1)))⟩, ⟨(some b4), none, (.op (.chk (.t b3)))⟩, ⟨(some b5), none, (.op (.fa 2 (.t b4)))⟩, ⟨(some b6), none, (.op (.ld none (.t b5)))⟩, ⟨none, none, (.op (.ex .mc [(.t b6)]))⟩])
 (.seq (.rg [⟨(some b7), none, (.op (.mv (.t b1)))⟩, ⟨(some b8), none, (.op (.chk (.t b7)))⟩, ⟨(some b9), none, (.op (.fa 3 (.t b8)))⟩, ⟨(some b10), none, (.op (.ld none (.t b9)))⟩, ⟨none, none, (.op (.ex .mc [(.t b10)]))⟩])
 (.seq (.rg [⟨(some b11), none, (.op (.mv (.t b1)))⟩, ⟨(some b12), none, (.op (.chk (.t b11)))⟩, ⟨(some b13), none, (.op (.fa 4 (.t b12)))⟩, ⟨none, none, (.op (.st 1 (.t b13) (.c (.i .i64 0))))⟩])
 (.rd [⟨(some b14), none, (.op (.mv (.t b1)))⟩, ⟨(some b15), none, (.op (.mv (.t b1)))⟩, ⟨(some b16), none, (.op (.mv (.t b1)))⟩, ⟨(some b17), none, (.op (.chk (.t b16)))⟩, ⟨(some b18), none, (.op (.fa 0 (.t b17)))⟩, ⟨(some b19), none, (.op (.ld none (.t b18)))⟩, ⟨(some b20), none, (.call true (.c (.fn 43 [])) [(.t b19)])⟩, ⟨(some b21), none, (.op (.mv (.t b1)))⟩, ⟨(some b22), none, (.op (.chk (.t b21)))⟩, ⟨(some b23), none, (.op (.fa 0 (.t b22)))⟩, ⟨(some b24), none, (.op (.ld none (.t b23)))⟩, ⟨(some b25), none, (.call true (.c (.fn 42 [])) [(.t b20), (.t b24)])⟩, ⟨(some b26), none, (.op (.chk (.t b14)))⟩, ⟨(some b27), none, (.op (.fa 5 (.t b26)))⟩, ⟨none, none, (.op (.st 1 (.t b27) (.c (.i .i64 0))))⟩, ⟨(some b28), none, (.op (.chk (.t b15)))⟩, ⟨(some b29), none, (.op (.fa 6 (.t b28)))⟩, ⟨none, none, (.op (.st 1 (.t b29) (.t b25)))⟩] [(0, 6), (1, 6), (6, 7), (6, 8), (6, 9), (6, 10), (0, 11), (1, 11), (1, 14)])))), [], 29⟩

/-- zellige/unfold.Faces -/
noncomputable def k27 : FnT := ⟨(.seq (.rg [⟨(some b3), none, (.op (.box 83 (.t b1)))⟩, ⟨(some b5), none, (.op (.mv (.c .e0)))⟩, ⟨(some b6), none, (.op (.mv (.c (.b false))))⟩])
 (.seq (.seq (.rg [⟨(some b18), none, (.op (.mv (.t b2)))⟩, ⟨(some b19), none, (.op (.bin .lss (.t b18) (.c (.i .i64 1))))⟩, ⟨(some b20), none, (.op (.mv (.t b19)))⟩, ⟨(some b21), (some (b20, false)), (.op (.fa 0 (.t b3)))⟩, ⟨(some b22), (some (b20, false)), (.op (.ld none (.t b21)))⟩, ⟨(some b23), (some (b20, false)), (.op (.mv (.t b2)))⟩, ⟨(some b24), (some (b20, false)), (.op (.bin .neq (.t b22) (.t b23)))⟩, ⟨(some b25), (some (b20, false)), (.op (.mv (.t b24)))⟩, ⟨(some b26), (some (b25, true)), (.op (.fa 0 (.t b3)))⟩, ⟨(some b27), (some (b25, true)), (.op (.ld none (.t b26)))⟩, ⟨(some b28), (some (b25, true)), (.op (.bin .rem (.t b27) (.c (.i .i64 3))))⟩, ⟨(some b29), (some (b25, true)), (.op (.bin .neq (.t b28) (.c (.i .i64 0))))⟩, ⟨(some b30), (some (b25, true)), (.op (.mv (.t b29)))⟩, ⟨(some b31), (some (b30, false)), (.op (.fa 0 (.t b3)))⟩, ⟨(some b32), (some (b30, false)), (.op (.ld none (.t b31)))⟩, ⟨(some b33), (some (b30, false)), (.op (.bin .quo (.t b32) (.c (.i .i64 3))))⟩, ⟨(some b34), (some (b30, false)), (.op (.mv (.t b2)))⟩, ⟨(some b35), (some (b30, false)), (.op (.bin .neq (.t b33) (.t b34)))⟩, ⟨(some b36), (some (b25, true)), (.op (.pick (.t b30) (.c (.b true)) (.t b35)))⟩, ⟨(some b37), (some (b20, false)), (.op (.pick (.t b25) (.t b36) (.c (.b false))))⟩, ⟨(some b38), none, (.op (.pick (.t b20) (.c (.b true)) (.t b37)))⟩])
 (.cond (.t b38) (.seq (.rg [⟨(some b5), none, (.op (.mv (.c .e0)))⟩, ⟨(some b6), none, (.op (.mv (.c (.b false))))⟩])
 .ret) .skip))
 (.seq (.rg [⟨(some b39), none, (.op .mkm)⟩, ⟨(some b7), none, (.op (.mv (.t b39)))⟩])
 (.seq (.seq (.rg [⟨(some b40), none, (.op (.fa 1 (.t b3)))⟩, ⟨(some b41), none, (.op (.ld none (.t b40)))⟩, ⟨(some b42), none, (.op (.len 1 (.t b41)))⟩, ⟨(some b43), none, (.op (.mv (.c (.i .i64 0))))⟩])
 (.block 0 (.loop (.seq (.rg [⟨(some b44), none, (.op (.bin .lss (.t b43) (.t b42)))⟩])
 (.seq (.cond (.t b44) .skip (.exit 0))
 (.seq (.block 1 (.seq (.rg [⟨(some b45), none, (.op (.ixs 4 (.t b41) (.t b43)))⟩, ⟨(some b46), none, (.op (.ld (some 4) (.t b45)))⟩, ⟨(some b9), none, (.op (.al 121 [(.i .i64 0), (.i .i64 0), (.i .i64 0), (.i .i64 0)]))⟩, ⟨none, none, (.op (.st 4 (.t b9) (.t b46)))⟩])
 (.rg [⟨(some b47), none, (.op (.mv (.t b7)))⟩, ⟨(some b48), none, (.op (.fa 0 (.t b9)))⟩, ⟨(some b49), none, (.op (.ld none (.t b48)))⟩, ⟨(some b50), none, (.op (.ld (some 4) (.t b9)))⟩, ⟨none, none, (.op (.ex .bad []))⟩])))
 (.rg [⟨(some b51), none, (.op (.bin .add (.t b43) (.c (.i .i64 1))))⟩, ⟨(some b43), none, (.op (.mv (.t b51)))⟩])))))))
 (.seq (.rg [⟨(some b10), none, (.op (.mv (.c .e0)))⟩])
 (.seq (.seq (.rg [⟨(some b52), none, (.op (.fa 2 (.t b3)))⟩, ⟨(some b53), none, (.op (.ld none (.t b52)))⟩, ⟨(some b54), none, (.op (.len 1 (.t b53)))⟩, ⟨(some b55), none, (.op (.mv (.c (.i .i64 0))))⟩])
 (.block 2 (.loop (.seq (.rg [⟨(some b56), none, (.op (.bin .lss (.t b55) (.t b54)))⟩])
 (.seq (.cond (.t b56) .skip (.exit 2))
 (.seq (.block 3 (.seq (.rg [⟨(some b57), none, (.op (.ixs 10 (.t b53) (.t b55)))⟩, ⟨(some b58), none, (.op (.ld (some 10) (.t b57)))⟩, ⟨(some b12), none, (.op (.al 123 [(.i .i64 0), (.i .i64 0), (.i .i64 0), (.i .i64 0), (.i .i64 0), (.i .i64 0), (.i .i64 0), (.i .i64 0), (.i .i64 0), (.i .i64 0)]))⟩, ⟨none, none, (.op (.st 10 (.t b12) (.t b58)))⟩])
 (.seq (.rg [⟨(some b13), none, (.op (.al 54 [(.i .i64 0), (.i .i64 0), (.i .i64 0), (.i .i64 0), (.i .i64 0), (.i .i64 0), (.i .i64 0), (.i .i64 0), (.i .i64 0)]))⟩])
 (.seq (.seq (.rg [⟨(some b59), none, (.op (.fa 1 (.t b12)))⟩, ⟨(some b60), none, (.op (.fa 0 (.t b59)))⟩, ⟨(some b61), none, (.op (.ld (some 3) (.t b60)))⟩, ⟨(some b62), none, (.op (.mv (.c (.i .i64 0))))⟩])
 (.block 4 (.loop (.seq (.rg [⟨(some b63), none, (.op (.bin .lss (.t b62) (.c (.i .i64 3))))⟩])
 (.seq (.cond (.t b63) .skip (.exit 4))
 (.seq (.block 5 (.seq (.rg [⟨(some b64), none, (.op (.mv (.t b62)))⟩, ⟨(some b65), none, (.op (.ixv 3 1 none (.t b61) (.t b62)))⟩, ⟨(some b14), none, (.op (.mv (.t b64)))⟩, ⟨(some b15), none, (.op (.mv (.t b65)))⟩])
 (.seq (.rg [⟨(some b67), none, (.op (.mv (.t b7)))⟩, ⟨(some b68), none, (.op (.mv (.t b15)))⟩, ⟨(some b69), none, (.op (.ex .bad []))⟩, ⟨(some b66), none, (.op (.mv (.t b69)))⟩, ⟨(some b70), none, (.op (.ext 0 (.t b66)))⟩, ⟨(some b71), none, (.op (.ext 1 (.t b66)))⟩, ⟨(some b16), none, (.op (.al 121 [(.i .i64 0), (.i .i64 0), (.i .i64 0), (.i .i64 0)]))⟩, ⟨none, none, (.op (.st 4 (.t b16) (.t b70)))⟩, ⟨(some b17), none, (.op (.mv (.t b71)))⟩])
 (.seq (.seq (.rg [⟨(some b72), none, (.op (.mv (.t b17)))⟩, ⟨(some b73), none, (.op (.un .not (.t b72)))⟩])
 (.cond (.t b73) (.seq (.rg [⟨(some b5), none, (.op (.mv (.c .e0)))⟩, ⟨(some b6), none, (.op (.mv (.c (.b false))))⟩])
 .ret) .skip))
 (.rd [⟨(some b75), none, (.op (.mv (.t b14)))⟩, ⟨(some b76), none, (.op (.mv (.t b14)))⟩, ⟨(some b77), none, (.op (.ld (some 4) (.t b16)))⟩, ⟨(some b78), none, (.op (.mv (.t b14)))⟩, ⟨(some b79), none, (.op (.fa 1 (.t b12)))⟩, ⟨(some b80), none, (.op (.fa 3 (.t b79)))⟩, ⟨(some b81), none, (.op (.ixa 3 2 (.t b80) (.t b78)))⟩, ⟨(some b82), none, (.op (.ld (some 2) (.t b81)))⟩, ⟨(some b83), none, (.op (.fa 0 (.t b3)))⟩, ⟨(some b84), none, (.op (.ld none (.t b83)))⟩, ⟨(some b85), none, (.op (.mv (.t b2)))⟩, ⟨(some b86), none, (.op (.bin .quo (.t b84) (.t b85)))⟩, ⟨(some b87), none, (.op (.mv (.t b2)))⟩, ⟨(some b88), none, (.call false (.c (.fn 44 [])) [(.t b77), (.t b82), (.t b86), (.t b87)])⟩, ⟨(some b74), none, (.op (.mv (.t b88)))⟩, ⟨(some b89), none, (.op (.ext 0 (.t b74)))⟩, ⟨(some b90), none, (.op (.ext 1 (.t b74)))⟩, ⟨(some b91), none, (.op (.fa 0 (.t b13)))⟩, ⟨(some b92), none, (.op (.ixa 3 1 (.t b91) (.t b75)))⟩, ⟨none, none, (.op (.st 1 (.t b92) (.t b89)))⟩, ⟨(some b93), none, (.op (.fa 3 (.t b13)))⟩, ⟨(some b94), none, (.op (.ixa 3 2 (.t b93) (.t b76)))⟩, ⟨none, none, (.op (.st 2 (.t b94) (.t b90)))⟩] [(1, 19), (16, 19), (19, 20)])))))
 (.rg [⟨(some b95), none, (.op (.bin .add (.t b62) (.c (.i .i64 1))))⟩, ⟨(some b62), none, (.op (.mv (.t b95)))⟩])))))))
 (.rg [⟨(some b96), none, (.op (.mv (.t b10)))⟩, ⟨(some b97), none, (.op (.ld (some 9) (.t b13)))⟩, ⟨(some b98), none, (.call false (.c (.fn 45 [])) [(.t b97)])⟩, ⟨(some b99), none, (.op (.lit 9 1 false [(.i .i64 0), (.i .i64 0), (.i .i64 0), (.i .i64 0), (.i .i64 0), (.i .i64 0), (.i .i64 0), (.i .i64 0), (.i .i64 0)] [(0, (9, (.t b98)))]))⟩, ⟨(some b100), none, (.op (.app 9 72 (.t b96) (.t b99)))⟩, ⟨(some b10), none, (.op (.mv (.t b100)))⟩])))))
 (.rg [⟨(some b101), none, (.op (.bin .add (.t b55) (.c (.i .i64 1))))⟩, ⟨(some b55), none, (.op (.mv (.t b101)))⟩])))))))
 (.seq (.rg [⟨(some b102), none, (.op (.mv (.t b10)))⟩, ⟨(some b103), none, (.call false (.c (.fn 46 [])) [(.t b102), (.c (.fn 47 []))])⟩])
 (.seq (.rg [⟨(some b104), none, (.op (.mv (.t b10)))⟩, ⟨(some b105), none, (.call false (.c (.fn 48 [])) [(.t b104)])⟩, ⟨(some b5), none, (.op (.mv (.t b105)))⟩, ⟨(some b6), none, (.op (.mv (.c (.b true))))⟩])
 .ret)))))))), [(.t b5), (.t b6)], 105⟩
/-- (*zellige/pdt.Engine).Dump -/
noncomputable def k28 : FnT := ⟨(.seq (.rg [⟨(some b3), none, (.op (.al 83 [(.i .i64 0), .e0, .e0]))⟩])
 (.seq (.seq (.rg [⟨(some b4), none, (.op (.mv (.t b1)))⟩, ⟨(some b5), none, (.op (.ex (.peq false) [(.t b4), (.c .np)]))⟩])
 (.cond (.t b5) (.seq (.rg [⟨(some b6), none, (.op (.bld [(.i .i64 0), .e0, .e0] []))⟩, ⟨none, none, (.op (.st 3 (.t b3) (.t b6)))⟩])
 .ret) .skip))
 (.seq (.rg [⟨(some b7), none, (.op (.mv (.t b1)))⟩, ⟨(some b8), none, (.op (.chk (.t b7)))⟩, ⟨(some b9), none, (.op (.fa 6 (.t b8)))⟩, ⟨(some b10), none, (.op (.ld none (.t b9)))⟩, ⟨(some b11), none, (.op (.chk (.t b10)))⟩, ⟨(some b12), none, (.op (.fa 0 (.t b11)))⟩, ⟨(some b13), none, (.op (.ld none (.t b12)))⟩, ⟨(some b14), none, (.call false (.c (.fn 49 [])) [(.t b13)])⟩, ⟨none, none, (.op (.st 3 (.t b3) (.t b14)))⟩])
 .ret))), [(.c (some 3) b3)], 14⟩
/-- (*zellige/pdt.Engine).N -/
noncomputable def k29 : FnT := ⟨(.seq (.rg [⟨(some b3), none, (.op (.mv (.c (.i .i64 0))))⟩])
 (.seq (.seq (.rg [⟨(some b4), none, (.op (.mv (.t b1)))⟩, ⟨(some b5), none, (.op (.ex (.peq false) [(.t b4), (.c .np)]))⟩])
 (.cond (.t b5) (.seq (.rg [⟨(some b3), none, (.op (.mv (.c (.i .i64 0))))⟩])
 .ret) .skip))
 (.seq (.rg [⟨(some b6), none, (.op (.mv (.t b1)))⟩, ⟨(some b7), none, (.op (.chk (.t b6)))⟩, ⟨(some b8), none, (.op (.fa 0 (.t b7)))⟩, ⟨(some b9), none, (.op (.ld none (.t b8)))⟩, ⟨(some b3), none, (.op (.mv (.t b9)))⟩])
 .ret))), [(.t b3)], 9⟩
/-- (*zellige/pdt.Engine).Sites -/
noncomputable def k30 : FnT := ⟨(.seq (.rg [⟨(some b3), none, (.op (.mv (.c .e0)))⟩])
 (.seq (.seq (.rg [⟨(some b7), none, (.op (.mv (.t b1)))⟩, ⟨(some b8), none, (.op (.ex (.peq false) [(.t b7), (.c .np)]))⟩])
 (.cond (.t b8) (.seq (.rg [⟨(some b3), none, (.op (.mv (.c .e0)))⟩])
 .ret) .skip))
 (.seq (.rg [⟨(some b4), none, (.op (.mv (.c .e0)))⟩])
 (.seq (.seq (.rg [⟨(some b9), none, (.op (.mv (.t b1)))⟩, ⟨(some b10), none, (.op (.chk (.t b9)))⟩, ⟨(some b11), none, (.op (.fa 2 (.t b10)))⟩, ⟨(some b12), none, (.op (.ld none (.t b11)))⟩, ⟨(some b13), none, (.op (.ex .rng [(.t b12)]))⟩])
 (.block 0 (.loop (.seq (.rg [⟨(some b14), none, (.nxt (.t b13))⟩, ⟨(some b15), none, (.op (.ext 0 (.t b14)))⟩])
 (.seq (.cond (.t b15) .skip (.exit 0))
 (.block 1 (.seq (.rg [⟨(some b16), none, (.ent (.t b13))⟩, ⟨(some b17), none, (.op (.ext 0 (.t b16)))⟩, ⟨(some b18), none, (.op (.ext 1 (.t b16)))⟩, ⟨(some b6), none, (.op (.al 43 [(.i .i64 0), (.i .i64 0)]))⟩, ⟨(some b5), none, (.op (.mv (.t b17)))⟩, ⟨none, none, (.op (.st 2 (.t b6) (.t b18)))⟩])
 (.rg [⟨(some b19), none, (.op (.mv (.t b4)))⟩, ⟨(some b20), none, (.op (.mv (.t b5)))⟩, ⟨(some b21), none, (.op (.ld (some 2) (.t b6)))⟩, ⟨(some b22), none, (.op (.bld [(.i .i64 0), (.i .i64 0), (.i .i64 0)] [(0, (1, (.t b20))), (1, (2, (.t b21)))]))⟩, ⟨(some b23), none, (.op (.lit 3 1 false [(.i .i64 0), (.i .i64 0), (.i .i64 0)] [(0, (3, (.t b22)))]))⟩, ⟨(some b24), none, (.op (.app 3 24 (.t b19) (.t b23)))⟩, ⟨(some b4), none, (.op (.mv (.t b24)))⟩]))))))))
 (.seq (.rg [⟨(some b25), none, (.op (.mv (.t b4)))⟩, ⟨(some b26), none, (.call false (.c (.fn 50 [])) [(.t b25), (.c (.fn 51 []))])⟩])
 (.seq (.rg [⟨(some b27), none, (.op (.mv (.t b4)))⟩, ⟨(some b3), none, (.op (.mv (.t b27)))⟩])
 .ret)))))), [(.t b3)], 27⟩
/-- zellige/file.Show -/
noncomputable def k31 : FnT := ⟨(.seq (.rg [⟨(some b2), none, (.op (.box 30 (.t b1)))⟩, ⟨(some b3), none, (.op (.mv (.c (.s []))))⟩])
 (.seq (.rg [⟨(some b4), none, (.op (.al 143 [.np, .e0]))⟩])
 (.seq (.rd [⟨(some b12), none, (.op (.fa 0 (.t b2)))⟩, ⟨(some b13), none, (.op (.ld none (.t b12)))⟩, ⟨(some b14), none, (.call false (.c (.fn 53 [])) [(.t b13)])⟩, ⟨(some b15), none, (.op (.fa 1 (.t b2)))⟩, ⟨(some b16), none, (.op (.ld none (.t b15)))⟩, ⟨(some b17), none, (.call false (.c (.fn 53 [])) [(.t b16)])⟩, ⟨(some b18), none, (.op (.fa 2 (.t b2)))⟩, ⟨(some b19), none, (.op (.ld none (.t b18)))⟩, ⟨(some b20), none, (.call false (.c (.fn 53 [])) [(.t b19)])⟩, ⟨(some b21), none, (.op (.lit 1 3 false [(.s []), (.s []), (.s [])] [(0, (1, (.t b14))), (1, (1, (.t b17))), (2, (1, (.t b20)))]))⟩, ⟨(some b22), none, (.call true (.c (.fn 52 [])) [(.t b4), (.c (.s [109, 101, 115, 104, 32])), (.t b21)])⟩] [])
 (.seq (.seq (.rg [⟨(some b23), none, (.op (.fa 3 (.t b2)))⟩, ⟨(some b24), none, (.op (.ld none (.t b23)))⟩, ⟨(some b25), none, (.op (.len 1 (.t b24)))⟩, ⟨(some b26), none, (.op (.mv (.c (.i .i64 0))))⟩])
 (.block 0 (.loop (.seq (.rg [⟨(some b27), none, (.op (.bin .lss (.t b26) (.t b25)))⟩])
 (.seq (.cond (.t b27) .skip (.exit 0))
 (.seq (.block 1 (.seq (.rg [⟨(some b28), none, (.op (.ixs 3 (.t b24) (.t b26)))⟩, ⟨(some b29), none, (.op (.ld (some 3) (.t b28)))⟩, ⟨(some b6), none, (.op (.al 47 [(.i .i64 0), (.i .i64 0), (.i .i64 0)]))⟩, ⟨none, none, (.op (.st 3 (.t b6) (.t b29)))⟩])
 (.rd [⟨(some b30), none, (.op (.fa 0 (.t b6)))⟩, ⟨(some b31), none, (.op (.ld none (.t b30)))⟩, ⟨(some b32), none, (.call false (.c (.fn 53 [])) [(.t b31)])⟩, ⟨(some b33), none, (.op (.fa 1 (.t b6)))⟩, ⟨(some b34), none, (.op (.ld none (.t b33)))⟩, ⟨(some b35), none, (.call false (.c (.fn 53 [])) [(.t b34)])⟩, ⟨(some b36), none, (.op (.fa 2 (.t b6)))⟩, ⟨(some b37), none, (.op (.ld none (.t b36)))⟩, ⟨(some b38), none, (.call false (.c (.fn 53 [])) [(.t b37)])⟩, ⟨(some b39), none, (.op (.lit 1 3 false [(.s []), (.s []), (.s [])] [(0, (1, (.t b32))), (1, (1, (.t b35))), (2, (1, (.t b38)))]))⟩, ⟨(some b40), none, (.call true (.c (.fn 52 [])) [(.t b4), (.c (.s [115, 105, 116, 101, 32])), (.t b39)])⟩] [])))
 (.rg [⟨(some b41), none, (.op (.bin .add (.t b26) (.c (.i .i64 1))))⟩, ⟨(some b26), none, (.op (.mv (.t b41)))⟩])))))))
 (.seq (.seq (.rg [⟨(some b42), none, (.op (.fa 4 (.t b2)))⟩, ⟨(some b43), none, (.op (.ld none (.t b42)))⟩, ⟨(some b44), none, (.op (.len 1 (.t b43)))⟩, ⟨(some b45), none, (.op (.mv (.c (.i .i64 0))))⟩])
 (.block 2 (.loop (.seq (.rg [⟨(some b46), none, (.op (.bin .lss (.t b45) (.t b44)))⟩])
 (.seq (.cond (.t b46) .skip (.exit 2))
 (.seq (.block 3 (.seq (.rg [⟨(some b47), none, (.op (.ixs 9 (.t b43) (.t b45)))⟩, ⟨(some b48), none, (.op (.ld (some 9) (.t b47)))⟩, ⟨(some b8), none, (.op (.al 48 [(.i .i64 0), (.i .i64 0), (.i .i64 0), (.i .i64 0), (.i .i64 0), (.i .i64 0), (.i .i64 0), (.i .i64 0), (.i .i64 0)]))⟩, ⟨none, none, (.op (.st 9 (.t b8) (.t b48)))⟩])
 (.seq (.rg [⟨(some b9), none, (.op (.mv (.c .e0)))⟩])
 (.seq (.seq (.rg [⟨(some b49), none, (.op (.ld (some 9) (.t b8)))⟩, ⟨(some b50), none, (.op (.mv (.c (.i .i64 0))))⟩])
 (.block 4 (.loop (.seq (.rg [⟨(some b51), none, (.op (.bin .lss (.t b50) (.c (.i .i64 3))))⟩])
 (.seq (.cond (.t b51) .skip (.exit 4))
 (.seq (.block 5 (.seq (.rg [⟨(some b52), none, (.op (.ixv 3 3 (some 3) (.t b49) (.t b50)))⟩, ⟨(some b11), none, (.op (.al 47 [(.i .i64 0), (.i .i64 0), (.i .i64 0)]))⟩, ⟨none, none, (.op (.st 3 (.t b11) (.t b52)))⟩])
 (.rd [⟨(some b53), none, (.op (.mv (.t b9)))⟩, ⟨(some b54), none, (.op (.fa 0 (.t b11)))⟩, ⟨(some b55), none, (.op (.ld none (.t b54)))⟩, ⟨(some b56), none, (.call false (.c (.fn 53 [])) [(.t b55)])⟩, ⟨(some b57), none, (.op (.fa 1 (.t b11)))⟩, ⟨(some b58), none, (.op (.ld none (.t b57)))⟩, ⟨(some b59), none, (.call false (.c (.fn 37 [])) [(.t b58)])⟩, ⟨(some b60), none, (.op (.fa 2 (.t b11)))⟩, ⟨(some b61), none, (.op (.ld none (.t b60)))⟩, ⟨(some b62), none, (.call false (.c (.fn 37 [])) [(.t b61)])⟩, ⟨(some b63), none, (.op (.lit 1 3 true [(.s []), (.s []), (.s [])] [(0, (1, (.t b56))), (1, (1, (.t b59))), (2, (1, (.t b62)))]))⟩, ⟨(some b64), none, (.op (.app 1 16 (.t b53) (.t b63)))⟩, ⟨(some b9), none, (.op (.mv (.t b64)))⟩] [(0, 10)])))
 (.rg [⟨(some b65), none, (.op (.bin .add (.t b50) (.c (.i .i64 1))))⟩, ⟨(some b50), none, (.op (.mv (.t b65)))⟩])))))))
 (.rg [⟨(some b66), none, (.op (.mv (.t b9)))⟩, ⟨(some b67), none, (.call false (.c (.fn 52 [])) [(.t b4), (.c (.s [102, 97, 99, 101, 32])), (.t b66)])⟩])))))
 (.rg [⟨(some b68), none, (.op (.bin .add (.t b45) (.c (.i .i64 1))))⟩, ⟨(some b45), none, (.op (.mv (.t b68)))⟩])))))))
 (.seq (.rg [⟨(some b69), none, (.op (.fa 0 (.t b4)))⟩, ⟨(some b70), none, (.call false (.c (.fn 54 [])) [(.t b69), (.c (.s [101, 110, 100, 10]))])⟩])
 (.seq (.rg [⟨(some b71), none, (.op (.fa 0 (.t b4)))⟩, ⟨(some b72), none, (.call false (.c (.fn 55 [])) [(.t b71)])⟩, ⟨(some b3), none, (.op (.mv (.t b72)))⟩])
 .ret))))))), [(.t b3)], 72⟩
/-- strconv.Itoa -/
noncomputable def k37 : FnT := ⟨(.seq (.rg [⟨(some b3), none, (.op (.mv (.c (.s []))))⟩])
 (.seq (.rg [⟨(some b4), none, (.op (.mv (.t b1)))⟩, ⟨(some b5), none, (.call false (.c (.fn 67 [])) [(.t b4)])⟩, ⟨(some b3), none, (.op (.mv (.t b5)))⟩])
 .ret)), [(.t b3)], 5⟩
/-- strings.Join -/
noncomputable def k40 : FnT := ⟨(.seq (.rg [⟨(some b5), none, (.op (.mv (.c (.s []))))⟩])
 (.seq (.seq (.rg [⟨(some b12), none, (.op (.mv (.t b1)))⟩, ⟨(some b13), none, (.op (.len 1 (.t b12)))⟩])
 (.block 0 (.seq (.rg [⟨(some b15), none, (.op (.bin .eql (.t b13) (.c (.i .i64 0))))⟩, ⟨(some b14), none, (.op (.mv (.t b15)))⟩])
 (.cond (.t b14) (.seq (.rg [⟨(some b5), none, (.op (.mv (.c (.s []))))⟩])
 .ret) (.seq (.rg [⟨(some b17), none, (.op (.bin .eql (.t b13) (.c (.i .i64 1))))⟩, ⟨(some b16), none, (.op (.mv (.t b17)))⟩])
 (.cond (.t b16) (.seq (.rg [⟨(some b18), none, (.op (.mv (.t b1)))⟩, ⟨(some b19), none, (.op (.ixs 1 (.t b18) (.c (.i .i64 0))))⟩, ⟨(some b20), none, (.op (.ld none (.t b19)))⟩, ⟨(some b5), none, (.op (.mv (.t b20)))⟩])
 .ret) .skip))))))
 (.seq (.rg [⟨(some b6), none, (.op (.mv (.c (.i .i64 0))))⟩])
 (.seq (.seq (.rg [⟨(some b21), none, (.op (.mv (.t b2)))⟩, ⟨(some b22), none, (.op (.len 0 (.t b21)))⟩, ⟨(some b23), none, (.op (.bin .gtr (.t b22) (.c (.i .i64 0))))⟩])
 (.cond (.t b23) (.seq (.seq (.rg [⟨(some b24), none, (.op (.mv (.t b2)))⟩, ⟨(some b25), none, (.op (.len 0 (.t b24)))⟩, ⟨(some b26), none, (.op (.mv (.t b1)))⟩, ⟨(some b27), none, (.op (.len 1 (.t b26)))⟩, ⟨(some b28), none, (.op (.bin .sub (.t b27) (.c (.i .i64 1))))⟩, ⟨(some b29), none, (.op (.bin .quo (.c (.i .i64 9223372036854775807)) (.t b28)))⟩, ⟨(some b30), none, (.op (.bin .geq (.t b25) (.t b29)))⟩])
 (.cond (.t b30) (.rg [⟨(some b31), none, (.op (.ex .bad []))⟩, ⟨none, none, (.op (.ex .bad []))⟩]) .skip))
 (.rg [⟨(some b32), none, (.op (.mv (.t b6)))⟩, ⟨(some b33), none, (.op (.mv (.t b2)))⟩, ⟨(some b34), none, (.op (.len 0 (.t b33)))⟩, ⟨(some b35), none, (.op (.mv (.t b1)))⟩, ⟨(some b36), none, (.op (.len 1 (.t b35)))⟩, ⟨(some b37), none, (.op (.bin .sub (.t b36) (.c (.i .i64 1))))⟩, ⟨(some b38), none, (.op (.bin .mul (.t b34) (.t b37)))⟩, ⟨(some b39), none, (.op (.bin .add (.t b32) (.t b38)))⟩, ⟨(some b6), none, (.op (.mv (.t b39)))⟩])) .skip))
 (.seq (.seq (.rg [⟨(some b40), none, (.op (.mv (.t b1)))⟩, ⟨(some b41), none, (.op (.len 1 (.t b40)))⟩, ⟨(some b42), none, (.op (.mv (.c (.i .i64 0))))⟩])
 (.block 1 (.loop (.seq (.rg [⟨(some b43), none, (.op (.bin .lss (.t b42) (.t b41)))⟩])
 (.seq (.cond (.t b43) .skip (.exit 1))
 (.seq (.block 2 (.seq (.rg [⟨(some b44), none, (.op (.ixs 1 (.t b40) (.t b42)))⟩, ⟨(some b45), none, (.op (.ld none (.t b44)))⟩, ⟨(some b8), none, (.op (.mv (.t b45)))⟩])
 (.seq (.seq (.rg [⟨(some b46), none, (.op (.mv (.t b8)))⟩, ⟨(some b47), none, (.op (.len 0 (.t b46)))⟩, ⟨(some b48), none, (.op (.mv (.t b6)))⟩, ⟨(some b49), none, (.op (.bin .sub (.c (.i .i64 9223372036854775807)) (.t b48)))⟩, ⟨(some b50), none, (.op (.bin .gtr (.t b47) (.t b49)))⟩])
 (.cond (.t b50) (.rg [⟨(some b51), none, (.op (.ex .bad []))⟩, ⟨none, none, (.op (.ex .bad []))⟩]) .skip))
 (.rg [⟨(some b52), none, (.op (.mv (.t b6)))⟩, ⟨(some b53), none, (.op (.mv (.t b8)))⟩, ⟨(some b54), none, (.op (.len 0 (.t b53)))⟩, ⟨(some b55), none, (.op (.bin .add (.t b52) (.t b54)))⟩, ⟨(some b6), none, (.op (.mv (.t b55)))⟩]))))
 (.rg [⟨(some b56), none, (.op (.bin .add (.t b42) (.c (.i .i64 1))))⟩, ⟨(some b42), none, (.op (.mv (.t b56)))⟩])))))))
 (.seq (.rg [⟨(some b9), none, (.op (.al 141 [.np, .e0]))⟩])
 (.seq (.rg [⟨(some b57), none, (.op (.mv (.t b6)))⟩, ⟨(some b58), none, (.call false (.c (.fn 71 [])) [(.t b9), (.t b57)])⟩])
 (.seq (.rg [⟨(some b59), none, (.op (.mv (.t b1)))⟩, ⟨(some b60), none, (.op (.ixs 1 (.t b59) (.c (.i .i64 0))))⟩, ⟨(some b61), none, (.op (.ld none (.t b60)))⟩, ⟨(some b62), none, (.call false (.c (.fn 54 [])) [(.t b9), (.t b61)])⟩])
 (.seq (.seq (.rg [⟨(some b63), none, (.op (.mv (.t b1)))⟩, ⟨(some b64), none, (.op (.cut 1 (.t b63) (some (.c (.i .i64 1))) none))⟩, ⟨(some b65), none, (.op (.len 1 (.t b64)))⟩, ⟨(some b66), none, (.op (.mv (.c (.i .i64 0))))⟩])
 (.block 3 (.loop (.seq (.rg [⟨(some b67), none, (.op (.bin .lss (.t b66) (.t b65)))⟩])
 (.seq (.cond (.t b67) .skip (.exit 3))
 (.seq (.block 4 (.seq (.rg [⟨(some b68), none, (.op (.ixs 1 (.t b64) (.t b66)))⟩, ⟨(some b69), none, (.op (.ld none (.t b68)))⟩, ⟨(some b11), none, (.op (.mv (.t b69)))⟩])
 (.seq (.rg [⟨(some b70), none, (.op (.mv (.t b2)))⟩, ⟨(some b71), none, (.call false (.c (.fn 54 [])) [(.t b9), (.t b70)])⟩])
 (.rg [⟨(some b72), none, (.op (.mv (.t b11)))⟩, ⟨(some b73), none, (.call false (.c (.fn 54 [])) [(.t b9), (.t b72)])⟩]))))
 (.rg [⟨(some b74), none, (.op (.bin .add (.t b66) (.c (.i .i64 1))))⟩, ⟨(some b66), none, (.op (.mv (.t b74)))⟩])))))))
 (.seq (.rg [⟨(some b75), none, (.call false (.c (.fn 55 [])) [(.t b9)])⟩, ⟨(some b5), none, (.op (.mv (.t b75)))⟩])
 .ret)))))))))), [(.t b5)], 75⟩
/-- zellige/sheet.tiles$1 -/
noncomputable def k41 : FnT := ⟨(.seq (.rg [⟨(some b7), none, (.op (.ld none (.t b2)))⟩, ⟨(some b8), none, (.op (.mv (.c (.i .i64 0))))⟩])
 (.block 0 (.loop (.seq (.rg [⟨(some b9), none, (.op (.bin .lss (.t b8) (.t b7)))⟩])
 (.seq (.cond (.t b9) .skip (.exit 0))
 (.seq (.block 1 (.seq (.rg [⟨(some b10), none, (.op (.mv (.t b8)))⟩, ⟨(some b5), none, (.op (.mv (.t b10)))⟩])
 (.seq (.rg [⟨(some b11), none, (.op (.ld none (.t b3)))⟩, ⟨(some b12), none, (.op (.mv (.c (.i .i64 0))))⟩])
 (.block 2 (.loop (.seq (.rg [⟨(some b13), none, (.op (.bin .lss (.t b12) (.t b11)))⟩])
 (.seq (.cond (.t b13) .skip (.exit 2))
 (.seq (.block 3 (.seq (.rg [⟨(some b14), none, (.op (.mv (.t b12)))⟩, ⟨(some b6), none, (.op (.mv (.t b14)))⟩])
 (.seq (.rg [⟨(some b15), none, (.op (.mv (.t b1)))⟩, ⟨(some b16), none, (.op (.mv (.t b5)))⟩, ⟨(some b17), none, (.op (.mv (.t b6)))⟩, ⟨(some b18), none, (.call false (.t b15) [(.t b16), (.t b17)])⟩, ⟨(some b19), none, (.op (.un .not (.t b18)))⟩])
 (.cond (.t b19) .ret .skip))))
 (.rg [⟨(some b20), none, (.op (.bin .add (.t b12) (.c (.i .i64 1))))⟩, ⟨(some b12), none, (.op (.mv (.t b20)))⟩])))))))))
 (.rg [⟨(some b21), none, (.op (.bin .add (.t b8) (.c (.i .i64 1))))⟩, ⟨(some b8), none, (.op (.mv (.t b21)))⟩]))))))), [], 21⟩
/-- zellige/pdt.lay -/
noncomputable def k42 : FnT := ⟨(.seq (.rg [⟨(some b5), none, (.op (.mv (.c .np)))⟩])
 (.seq (.rg [⟨(some b12), none, (.op (.mv (.t b1)))⟩, ⟨(some b13), none, (.op (.mv (.t b1)))⟩, ⟨(some b14), none, (.call false (.c (.fn 73 [])) [(.t b13)])⟩, ⟨(some b15), none, (.call false (.c (.fn 72 [])) [(.t b14), (.c (.i .i64 16))])⟩, ⟨(some b16), none, (.op (.mv (.t b2)))⟩, ⟨(some b17), none, (.op .mkm)⟩, ⟨(some b18), none, (.op .mkm)⟩, ⟨(some b19), none, (.op (.bld [.np, .np, (.i .i64 0), .nm, .nm] [(0, (1, (.t b12))), (1, (1, (.t b15))), (2, (1, (.t b16))), (3, (1, (.t b17))), (4, (1, (.t b18)))]))⟩, ⟨(some b20), none, (.op (.box 135 (.t b19)))⟩, ⟨(some b6), none, (.op (.mv (.t b20)))⟩])
 (.seq (.rg [⟨(some b21), none, (.op (.mv (.t b1)))⟩, ⟨(some b22), none, (.call false (.c (.fn 49 [])) [(.t b21)])⟩, ⟨(some b7), none, (.op (.al 83 [(.i .i64 0), .e0, .e0]))⟩, ⟨none, none, (.op (.st 3 (.t b7) (.t b22)))⟩])
 (.seq (.seq (.rg [⟨(some b23), none, (.op (.fa 1 (.t b7)))⟩, ⟨(some b24), none, (.op (.ld none (.t b23)))⟩, ⟨(some b25), none, (.op (.len 1 (.t b24)))⟩, ⟨(some b26), none, (.op (.mv (.c (.i .i64 0))))⟩])
 (.block 0 (.loop (.seq (.rg [⟨(some b27), none, (.op (.bin .lss (.t b26) (.t b25)))⟩])
 (.seq (.cond (.t b27) .skip (.exit 0))
 (.seq (.block 1 (.seq (.rg [⟨(some b28), none, (.op (.ixs 4 (.t b24) (.t b26)))⟩, ⟨(some b29), none, (.op (.ld (some 4) (.t b28)))⟩, ⟨(some b9), none, (.op (.al 121 [(.i .i64 0), (.i .i64 0), (.i .i64 0), (.i .i64 0)]))⟩, ⟨none, none, (.op (.st 4 (.t b9) (.t b29)))⟩])
 (.seq (.rd [⟨(some b30), none, (.op (.mv (.t b6)))⟩, ⟨(some b31), none, (.op (.chk (.t b30)))⟩, ⟨(some b32), none, (.op (.fa 1 (.t b31)))⟩, ⟨(some b33), none, (.op (.ld none (.t b32)))⟩, ⟨(some b34), none, (.op (.fa 0 (.t b9)))⟩, ⟨(some b35), none, (.op (.ld none (.t b34)))⟩, ⟨(some b36), none, (.op (.fa 1 (.t b9)))⟩, ⟨(some b37), none, (.op (.ld (some 2) (.t b36)))⟩, ⟨(some b38), none, (.call false (.c (.fn 74 [])) [(.t b33), (.t b35), (.t b37)])⟩] [])
 (.rd [⟨(some b39), none, (.op (.mv (.t b6)))⟩, ⟨(some b40), none, (.op (.chk (.t b39)))⟩, ⟨(some b41), none, (.op (.fa 4 (.t b40)))⟩, ⟨(some b42), none, (.op (.ld none (.t b41)))⟩, ⟨(some b43), none, (.op (.fa 3 (.t b9)))⟩, ⟨(some b44), none, (.op (.ld none (.t b43)))⟩, ⟨(some b45), none, (.op (.mv (.t b6)))⟩, ⟨(some b46), none, (.op (.chk (.t b45)))⟩, ⟨(some b47), none, (.op (.fa 4 (.t b46)))⟩, ⟨(some b48), none, (.op (.ld none (.t b47)))⟩, ⟨(some b49), none, (.op (.fa 3 (.t b9)))⟩, ⟨(some b50), none, (.op (.ld none (.t b49)))⟩, ⟨(some b51), none, (.op (.ex .bad []))⟩, ⟨(some b52), none, (.op (.fa 0 (.t b9)))⟩, ⟨(some b53), none, (.op (.ld none (.t b52)))⟩, ⟨(some b54), none, (.op (.lit 1 1 false [(.i .i64 0)] [(0, (1, (.t b53)))]))⟩, ⟨(some b55), none, (.op (.app 1 8 (.t b51) (.t b54)))⟩, ⟨none, none, (.op (.ex .bad []))⟩] [(0, 12), (1, 12), (2, 12), (3, 12), (4, 12), (5, 12), (12, 13), (12, 14), (12, 15), (0, 16), (1, 16), (2, 16), (3, 16), (4, 16), (5, 16)]))))
 (.rg [⟨(some b56), none, (.op (.bin .add (.t b26) (.c (.i .i64 1))))⟩, ⟨(some b26), none, (.op (.mv (.t b56)))⟩])))))))
 (.seq (.seq (.rg [⟨(some b57), none, (.op (.fa 2 (.t b7)))⟩, ⟨(some b58), none, (.op (.ld none (.t b57)))⟩, ⟨(some b59), none, (.op (.len 1 (.t b58)))⟩, ⟨(some b60), none, (.op (.mv (.c (.i .i64 0))))⟩])
 (.block 2 (.loop (.seq (.rg [⟨(some b61), none, (.op (.bin .lss (.t b60) (.t b59)))⟩])
 (.seq (.cond (.t b61) .skip (.exit 2))
 (.seq (.block 3 (.seq (.rg [⟨(some b62), none, (.op (.ixs 10 (.t b58) (.t b60)))⟩, ⟨(some b63), none, (.op (.ld (some 10) (.t b62)))⟩, ⟨(some b11), none, (.op (.al 123 [(.i .i64 0), (.i .i64 0), (.i .i64 0), (.i .i64 0), (.i .i64 0), (.i .i64 0), (.i .i64 0), (.i .i64 0), (.i .i64 0), (.i .i64 0)]))⟩, ⟨none, none, (.op (.st 10 (.t b11) (.t b63)))⟩])
 (.rg [⟨(some b64), none, (.op (.mv (.t b6)))⟩, ⟨(some b65), none, (.op (.fa 0 (.t b11)))⟩, ⟨(some b66), none, (.op (.ld none (.t b65)))⟩, ⟨(some b67), none, (.op (.lit 1 1 false [(.i .i64 0)] [(0, (1, (.t b66)))]))⟩, ⟨(some b68), none, (.call false (.c (.fn 75 [])) [(.t b64), (.t b67)])⟩])))
 (.rg [⟨(some b69), none, (.op (.bin .add (.t b60) (.c (.i .i64 1))))⟩, ⟨(some b60), none, (.op (.mv (.t b69)))⟩])))))))
 (.seq (.rg [⟨(some b70), none, (.op (.mv (.t b6)))⟩, ⟨(some b5), none, (.op (.mv (.t b70)))⟩])
 .ret)))))), [(.t b5)], 70⟩
/-- zellige/mesh.New -/
noncomputable def k43 : FnT := ⟨(.seq (.rg [⟨(some b3), none, (.op (.mv (.c .np)))⟩])
 (.seq (.seq (.rg [⟨(some b4), none, (.op (.mv (.t b1)))⟩, ⟨(some b5), none, (.op (.bin .lss (.t b4) (.c (.i .i64 1))))⟩, ⟨(some b6), none, (.op (.mv (.t b5)))⟩, ⟨(some b7), (some (b6, false)), (.op (.mv (.t b1)))⟩, ⟨(some b8), (some (b6, false)), (.op (.bin .gtr (.t b7) (.c (.i .i64 17179869184))))⟩, ⟨(some b9), none, (.op (.pick (.t b6) (.c (.b true)) (.t b8)))⟩])
 (.cond (.t b9) (.seq (.rg [⟨(some b3), none, (.op (.mv (.c .np)))⟩])
 .ret) .skip))
 (.seq (.rg [⟨(some b10), none, (.op (.mv (.t b1)))⟩, ⟨(some b11), none, (.call false (.c (.fn 76 [])) [])⟩, ⟨(some b12), none, (.call false (.c (.fn 76 [])) [])⟩, ⟨(some b13), none, (.op .mkm)⟩, ⟨(some b14), none, (.op .mkm)⟩, ⟨(some b15), none, (.op (.bld [(.i .i64 0), .np, .np, .e0, .e0, .nm, .nm] [(0, (1, (.t b10))), (1, (1, (.t b11))), (2, (1, (.t b12))), (5, (1, (.t b13))), (6, (1, (.t b14)))]))⟩, ⟨(some b16), none, (.op (.box 172 (.t b15)))⟩, ⟨(some b3), none, (.op (.mv (.t b16)))⟩])
 .ret))), [(.t b3)], 16⟩

/-- slices.SortFunc[[]zellige/api.Tri,zellige/api.Tri] -/
noncomputable def k46 : FnT := ⟨(.seq (.rg [⟨(some b6), none, (.op (.mv (.t b1)))⟩, ⟨(some b7), none, (.op (.len 1 (.t b6)))⟩, ⟨(some b5), none, (.op (.mv (.t b7)))⟩])
 (.rg [⟨(some b8), none, (.op (.mv (.t b1)))⟩, ⟨(some b9), none, (.op (.mv (.t b5)))⟩, ⟨(some b10), none, (.op (.mv (.t b5)))⟩, ⟨(some b11), none, (.op (.cvi .u64 (.t b10)))⟩, ⟨(some b12), none, (.call false (.c (.fn 57 [])) [(.t b11)])⟩, ⟨(some b13), none, (.op (.mv (.t b2)))⟩, ⟨(some b14), none, (.call false (.c (.fn 78 [])) [(.t b8), (.c (.i .i64 0)), (.t b9), (.t b12), (.t b13)])⟩])), [], 14⟩
/-- slices.Compact[[]zellige/api.Tri,zellige/api.Tri] -/
noncomputable def k48 : FnT := ⟨(.seq (.rg [⟨(some b3), none, (.op (.mv (.c .e0)))⟩])
 (.seq (.seq (.rg [⟨(some b7), none, (.op (.mv (.t b1)))⟩, ⟨(some b8), none, (.op (.len 1 (.t b7)))⟩, ⟨(some b9), none, (.op (.bin .lss (.t b8) (.c (.i .i64 2))))⟩])
 (.cond (.t b9) (.seq (.rg [⟨(some b10), none, (.op (.mv (.t b1)))⟩, ⟨(some b3), none, (.op (.mv (.t b10)))⟩])
 .ret) .skip))
 (.seq (.seq (.rg [⟨(some b4), none, (.op (.mv (.c (.i .i64 1))))⟩])
 (.block 0 (.loop (.seq (.seq (.rg [⟨(some b11), none, (.op (.mv (.t b4)))⟩, ⟨(some b12), none, (.op (.mv (.t b1)))⟩, ⟨(some b13), none, (.op (.len 1 (.t b12)))⟩, ⟨(some b14), none, (.op (.bin .lss (.t b11) (.t b13)))⟩])
 (.cond (.t b14) .skip (.exit 0)))
 (.seq (.block 1 (.seq (.rd [⟨(some b17), none, (.op (.mv (.t b1)))⟩, ⟨(some b18), none, (.op (.mv (.t b4)))⟩, ⟨(some b19), none, (.op (.ixs 9 (.t b17) (.t b18)))⟩, ⟨(some b20), none, (.op (.ld (some 9) (.t b19)))⟩, ⟨(some b21), none, (.op (.mv (.t b1)))⟩, ⟨(some b22), none, (.op (.mv (.t b4)))⟩, ⟨(some b23), none, (.op (.bin .sub (.t b22) (.c (.i .i64 1))))⟩, ⟨(some b24), none, (.op (.ixs 9 (.t b21) (.t b23)))⟩, ⟨(some b25), none, (.op (.ld (some 9) (.t b24)))⟩, ⟨(some b26), none, (.op (.eqa false [0, 0, 0, 0, 0, 0, 0, 0, 0] (.t b20) (.t b25)))⟩] [])
 (.cond (.t b26) (.seq (.rg [⟨(some b27), none, (.op (.mv (.t b1)))⟩, ⟨(some b28), none, (.op (.mv (.t b4)))⟩, ⟨(some b29), none, (.op (.cut 9 (.t b27) (some (.t b28)) none))⟩, ⟨(some b5), none, (.op (.mv (.t b29)))⟩])
 (.seq (.seq (.rg [⟨(some b6), none, (.op (.mv (.c (.i .i64 1))))⟩])
 (.block 2 (.loop (.seq (.seq (.rg [⟨(some b30), none, (.op (.mv (.t b6)))⟩, ⟨(some b31), none, (.op (.mv (.t b5)))⟩, ⟨(some b32), none, (.op (.len 1 (.t b31)))⟩, ⟨(some b33), none, (.op (.bin .lss (.t b30) (.t b32)))⟩])
 (.cond (.t b33) .skip (.exit 2)))
 (.seq (.block 3 (.seq (.rd [⟨(some b36), none, (.op (.mv (.t b5)))⟩, ⟨(some b37), none, (.op (.mv (.t b6)))⟩, ⟨(some b38), none, (.op (.ixs 9 (.t b36) (.t b37)))⟩, ⟨(some b39), none, (.op (.ld (some 9) (.t b38)))⟩, ⟨(some b40), none, (.op (.mv (.t b5)))⟩, ⟨(some b41), none, (.op (.mv (.t b6)))⟩, ⟨(some b42), none, (.op (.bin .sub (.t b41) (.c (.i .i64 1))))⟩, ⟨(some b43), none, (.op (.ixs 9 (.t b40) (.t b42)))⟩, ⟨(some b44), none, (.op (.ld (some 9) (.t b43)))⟩, ⟨(some b45), none, (.op (.eqa true [0, 0, 0, 0, 0, 0, 0, 0, 0] (.t b39) (.t b44)))⟩] [])
 (.cond (.t b45) (.seq (.rg [⟨(some b46), none, (.op (.mv (.t b1)))⟩, ⟨(some b47), none, (.op (.mv (.t b4)))⟩, ⟨(some b48), none, (.op (.mv (.t b5)))⟩, ⟨(some b49), none, (.op (.mv (.t b6)))⟩, ⟨(some b50), none, (.op (.ixs 9 (.t b48) (.t b49)))⟩, ⟨(some b51), none, (.op (.ld (some 9) (.t b50)))⟩, ⟨(some b52), none, (.op (.ixs 9 (.t b46) (.t b47)))⟩, ⟨none, none, (.op (.st 9 (.t b52) (.t b51)))⟩])
 (.rg [⟨(some b53), none, (.op (.mv (.t b4)))⟩, ⟨(some b54), none, (.op (.bin .add (.t b53) (.c (.i .i64 1))))⟩, ⟨(some b4), none, (.op (.mv (.t b54)))⟩])) .skip)))
 (.rg [⟨(some b34), none, (.op (.mv (.t b6)))⟩, ⟨(some b35), none, (.op (.bin .add (.t b34) (.c (.i .i64 1))))⟩, ⟨(some b6), none, (.op (.mv (.t b35)))⟩]))))))
 (.seq (.rg [⟨(some b55), none, (.op (.mv (.t b1)))⟩, ⟨(some b56), none, (.op (.mv (.t b4)))⟩, ⟨(some b57), none, (.op (.cut 9 (.t b55) (some (.t b56)) none))⟩, ⟨none, none, (.op (.ex .bad []))⟩])
 (.seq (.rg [⟨(some b58), none, (.op (.mv (.t b1)))⟩, ⟨(some b59), none, (.op (.mv (.t b4)))⟩, ⟨(some b60), none, (.op (.cut 9 (.t b58) none (some (.t b59))))⟩, ⟨(some b3), none, (.op (.mv (.t b60)))⟩])
 .ret)))) .skip)))
 (.rg [⟨(some b15), none, (.op (.mv (.t b4)))⟩, ⟨(some b16), none, (.op (.bin .add (.t b15) (.c (.i .i64 1))))⟩, ⟨(some b4), none, (.op (.mv (.t b16)))⟩]))))))
 (.seq (.rg [⟨(some b61), none, (.op (.mv (.t b1)))⟩, ⟨(some b3), none, (.op (.mv (.t b61)))⟩])
 .ret)))), [(.t b3)], 61⟩
/-- (*zellige/mesh.Mesh).Dump -/
noncomputable def k49 : FnT := ⟨(.seq (.rg [⟨(some b3), none, (.op (.al 83 [(.i .i64 0), .e0, .e0]))⟩])
 (.seq (.seq (.rg [⟨(some b9), none, (.op (.mv (.t b1)))⟩, ⟨(some b10), none, (.op (.ex (.peq false) [(.t b9), (.c .np)]))⟩])
 (.cond (.t b10) (.seq (.rg [⟨(some b11), none, (.op (.bld [(.i .i64 0), .e0, .e0] []))⟩, ⟨none, none, (.op (.st 3 (.t b3) (.t b11)))⟩])
 .ret) .skip))
 (.seq (.rg [⟨(some b12), none, (.op (.mv (.t b1)))⟩, ⟨(some b13), none, (.op (.chk (.t b12)))⟩, ⟨(some b14), none, (.op (.fa 0 (.t b13)))⟩, ⟨(some b15), none, (.op (.ld none (.t b14)))⟩, ⟨(some b16), none, (.op (.bld [(.i .i64 0), .e0, .e0] [(0, (1, (.t b15)))]))⟩, ⟨(some b4), none, (.op (.al 83 [(.i .i64 0), .e0, .e0]))⟩, ⟨none, none, (.op (.st 3 (.t b4) (.t b16)))⟩])
 (.seq (.seq (.rg [⟨(some b17), none, (.op (.mv (.t b1)))⟩, ⟨(some b18), none, (.op (.chk (.t b17)))⟩, ⟨(some b19), none, (.op (.fa 1 (.t b18)))⟩, ⟨(some b20), none, (.op (.ld none (.t b19)))⟩, ⟨(some b21), none, (.call false (.c (.fn 80 [])) [(.t b20)])⟩, ⟨(some b22), none, (.op (.len 1 (.t b21)))⟩, ⟨(some b23), none, (.op (.mv (.c (.i .i64 0))))⟩])
 (.block 0 (.loop (.seq (.rg [⟨(some b24), none, (.op (.bin .lss (.t b23) (.t b22)))⟩])
 (.seq (.cond (.t b24) .skip (.exit 0))
 (.seq (.block 1 (.seq (.rg [⟨(some b25), none, (.op (.ixs 1 (.t b21) (.t b23)))⟩, ⟨(some b26), none, (.op (.ld none (.t b25)))⟩, ⟨(some b6), none, (.op (.mv (.t b26)))⟩])
 (.rd [⟨(some b27), none, (.op (.fa 1 (.t b4)))⟩, ⟨(some b28), none, (.op (.ld none (.t b27)))⟩, ⟨(some b29), none, (.op (.mv (.t b1)))⟩, ⟨(some b30), none, (.op (.chk (.t b29)))⟩, ⟨(some b31), none, (.op (.fa 3 (.t b30)))⟩, ⟨(some b32), none, (.op (.ld none (.t b31)))⟩, ⟨(some b33), none, (.op (.mv (.t b6)))⟩, ⟨(some b34), none, (.op (.ixs 4 (.t b32) (.t b33)))⟩, ⟨(some b35), none, (.op (.ld (some 4) (.t b34)))⟩, ⟨(some b36), none, (.op (.lit 4 1 false [(.i .i64 0), (.i .i64 0), (.i .i64 0), (.i .i64 0)] [(0, (4, (.t b35)))]))⟩, ⟨(some b37), none, (.op (.app 4 32 (.t b28) (.t b36)))⟩, ⟨(some b38), none, (.op (.fa 1 (.t b4)))⟩, ⟨none, none, (.op (.st 1 (.t b38) (.t b37)))⟩] [])))
 (.rg [⟨(some b39), none, (.op (.bin .add (.t b23) (.c (.i .i64 1))))⟩, ⟨(some b23), none, (.op (.mv (.t b39)))⟩])))))))
 (.seq (.seq (.rg [⟨(some b40), none, (.op (.mv (.t b1)))⟩, ⟨(some b41), none, (.op (.chk (.t b40)))⟩, ⟨(some b42), none, (.op (.fa 2 (.t b41)))⟩, ⟨(some b43), none, (.op (.ld none (.t b42)))⟩, ⟨(some b44), none, (.call false (.c (.fn 80 [])) [(.t b43)])⟩, ⟨(some b45), none, (.op (.len 1 (.t b44)))⟩, ⟨(some b46), none, (.op (.mv (.c (.i .i64 0))))⟩])
 (.block 2 (.loop (.seq (.rg [⟨(some b47), none, (.op (.bin .lss (.t b46) (.t b45)))⟩])
 (.seq (.cond (.t b47) .skip (.exit 2))
 (.seq (.block 3 (.seq (.rg [⟨(some b48), none, (.op (.ixs 1 (.t b44) (.t b46)))⟩, ⟨(some b49), none, (.op (.ld none (.t b48)))⟩, ⟨(some b8), none, (.op (.mv (.t b49)))⟩])
 (.rd [⟨(some b50), none, (.op (.fa 2 (.t b4)))⟩, ⟨(some b51), none, (.op (.ld none (.t b50)))⟩, ⟨(some b52), none, (.op (.mv (.t b8)))⟩, ⟨(some b53), none, (.op (.mv (.t b1)))⟩, ⟨(some b54), none, (.op (.chk (.t b53)))⟩, ⟨(some b55), none, (.op (.fa 4 (.t b54)))⟩, ⟨(some b56), none, (.op (.ld none (.t b55)))⟩, ⟨(some b57), none, (.op (.mv (.t b8)))⟩, ⟨(some b58), none, (.op (.ixs 9 (.t b56) (.t b57)))⟩, ⟨(some b59), none, (.op (.ld (some 9) (.t b58)))⟩, ⟨(some b60), none, (.op (.bld [(.i .i64 0), (.i .i64 0), (.i .i64 0), (.i .i64 0), (.i .i64 0), (.i .i64 0), (.i .i64 0), (.i .i64 0), (.i .i64 0), (.i .i64 0)] [(0, (1, (.t b52))), (1, (9, (.t b59)))]))⟩, ⟨(some b61), none, (.op (.lit 10 1 false [(.i .i64 0), (.i .i64 0), (.i .i64 0), (.i .i64 0), (.i .i64 0), (.i .i64 0), (.i .i64 0), (.i .i64 0), (.i .i64 0), (.i .i64 0)] [(0, (10, (.t b60)))]))⟩, ⟨(some b62), none, (.op (.app 10 80 (.t b51) (.t b61)))⟩, ⟨(some b63), none, (.op (.fa 2 (.t b4)))⟩, ⟨none, none, (.op (.st 1 (.t b63) (.t b62)))⟩] [])))
 (.rg [⟨(some b64), none, (.op (.bin .add (.t b46) (.c (.i .i64 1))))⟩, ⟨(some b46), none, (.op (.mv (.t b64)))⟩])))))))
 (.seq (.rg [⟨(some b65), none, (.op (.ld (some 3) (.t b4)))⟩, ⟨none, none, (.op (.st 3 (.t b3) (.t b65)))⟩])
 .ret)))))), [(.c (some 3) b3)], 65⟩
/-- slices.SortFunc[[]zellige/api.Place,zellige/api.Place] -/
noncomputable def k50 : FnT := ⟨(.seq (.rg [⟨(some b6), none, (.op (.mv (.t b1)))⟩, ⟨(some b7), none, (.op (.len 1 (.t b6)))⟩, ⟨(some b5), none, (.op (.mv (.t b7)))⟩])
 (.rg [⟨(some b8), none, (.op (.mv (.t b1)))⟩, ⟨(some b9), none, (.op (.mv (.t b5)))⟩, ⟨(some b10), none, (.op (.mv (.t b5)))⟩, ⟨(some b11), none, (.op (.cvi .u64 (.t b10)))⟩, ⟨(some b12), none, (.call false (.c (.fn 57 [])) [(.t b11)])⟩, ⟨(some b13), none, (.op (.mv (.t b2)))⟩, ⟨(some b14), none, (.call false (.c (.fn 81 [])) [(.t b8), (.c (.i .i64 0)), (.t b9), (.t b12), (.t b13)])⟩])), [], 14⟩
/-- (*zellige/file.writer).line -/
noncomputable def k52 : FnT := ⟨(.rd [⟨(some b7), none, (.op (.mv (.t b1)))⟩, ⟨(some b8), none, (.op (.chk (.t b7)))⟩, ⟨(some b9), none, (.op (.fa 0 (.t b8)))⟩, ⟨(some b10), none, (.op (.mv (.t b2)))⟩, ⟨(some b11), none, (.op (.mv (.t b3)))⟩, ⟨(some b12), none, (.call false (.c (.fn 40 [])) [(.t b11), (.c (.s [32]))])⟩, ⟨(some b13), none, (.op (.bin .add (.t b10) (.t b12)))⟩, ⟨(some b14), none, (.op (.bin .add (.t b13) (.c (.s [10]))))⟩, ⟨(some b15), none, (.call true (.c (.fn 54 [])) [(.t b9), (.t b14)])⟩] []), [], 15⟩
/-- zellige/file.plain -/
noncomputable def k53 : FnT := ⟨(.seq (.rg [⟨(some b3), none, (.op (.mv (.c (.s []))))⟩])
 (.seq (.rg [⟨(some b4), none, (.op (.mv (.t b1)))⟩, ⟨(some b5), none, (.op (.mm true (.t b4) [(.c (.i .i64 0))]))⟩, ⟨(some b6), none, (.call false (.c (.fn 37 [])) [(.t b5)])⟩, ⟨(some b3), none, (.op (.mv (.t b6)))⟩])
 .ret)), [(.t b3)], 6⟩
/-- (*strings.Builder).WriteString -/
noncomputable def k54 : FnT := ⟨(.seq (.rg [⟨(some b5), none, (.op (.mv (.c (.i .i64 0))))⟩, ⟨(some b6), none, (.op (.mv (.c .ni)))⟩])
 (.seq (.rg [⟨(some b7), none, (.op (.mv (.t b1)))⟩, ⟨(some b8), none, (.call false (.c (.fn 82 [])) [(.t b7)])⟩])
 (.seq (.rg [⟨(some b9), none, (.op (.mv (.t b1)))⟩, ⟨(some b10), none, (.op (.mv (.t b1)))⟩, ⟨(some b11), none, (.op (.chk (.t b10)))⟩, ⟨(some b12), none, (.op (.fa 1 (.t b11)))⟩, ⟨(some b13), none, (.op (.ld none (.t b12)))⟩, ⟨(some b14), none, (.op (.mv (.t b2)))⟩, ⟨(some b15), none, (.op (.ex (.aps 5) [(.t b13), (.t b14)]))⟩, ⟨(some b16), none, (.op (.chk (.t b9)))⟩, ⟨(some b17), none, (.op (.fa 1 (.t b16)))⟩, ⟨none, none, (.op (.st 1 (.t b17) (.t b15)))⟩])
 (.seq (.rg [⟨(some b18), none, (.op (.mv (.t b2)))⟩, ⟨(some b19), none, (.op (.len 0 (.t b18)))⟩, ⟨(some b5), none, (.op (.mv (.t b19)))⟩, ⟨(some b6), none, (.op (.mv (.c .ni)))⟩])
 .ret)))), [(.t b5), (.t b6)], 19⟩
/-- (*strings.Builder).String -/
noncomputable def k55 : FnT := ⟨(.seq (.rg [⟨(some b3), none, (.op (.mv (.c (.s []))))⟩])
 (.seq (.rd [⟨(some b4), none, (.op (.mv (.t b1)))⟩, ⟨(some b5), none, (.op (.chk (.t b4)))⟩, ⟨(some b6), none, (.op (.fa 1 (.t b5)))⟩, ⟨(some b7), none, (.op (.ld none (.t b6)))⟩, ⟨(some b8), none, (.op (.ex .sld [(.t b7)]))⟩, ⟨(some b9), none, (.op (.mv (.t b1)))⟩, ⟨(some b10), none, (.op (.chk (.t b9)))⟩, ⟨(some b11), none, (.op (.fa 1 (.t b10)))⟩, ⟨(some b12), none, (.op (.ld none (.t b11)))⟩, ⟨(some b13), none, (.op (.len 1 (.t b12)))⟩, ⟨(some b14), none, (.op (.ex (.ust 5) [(.t b8), (.t b13)]))⟩, ⟨(some b3), none, (.op (.mv (.t b14)))⟩] [])
 .ret)), [(.t b3)], 14⟩
/-- math/bits.Len -/
noncomputable def k57 : FnT := ⟨(.seq (.rg [⟨(some b3), none, (.op (.mv (.c (.i .i64 0))))⟩])
 (.seq (.cond (.c (.b false)) (.seq (.rg [⟨(some b4), none, (.op (.mv (.t b1)))⟩, ⟨(some b5), none, (.op (.cvi .u32 (.t b4)))⟩, ⟨(some b6), none, (.call false (.c (.fn 92 [])) [(.t b5)])⟩, ⟨(some b3), none, (.op (.mv (.t b6)))⟩])
 .ret) .skip)
 (.seq (.rg [⟨(some b7), none, (.op (.mv (.t b1)))⟩, ⟨(some b8), none, (.call false (.c (.fn 93 [])) [(.t b7)])⟩, ⟨(some b3), none, (.op (.mv (.t b8)))⟩])
 .ret))), [(.t b3)], 8⟩
/-- internal/strconv.Itoa -/
noncomputable def k67 : FnT := ⟨(.seq (.rg [⟨(some b3), none, (.op (.mv (.c (.s []))))⟩])
 (.seq (.rg [⟨(some b4), none, (.op (.mv (.t b1)))⟩, ⟨(some b5), none, (.call false (.c (.fn 103 [])) [(.t b4), (.c (.i .i64 10))])⟩, ⟨(some b3), none, (.op (.mv (.t b5)))⟩])
 .ret)), [(.t b3)], 5⟩
/-- (*strings.Builder).Grow -/
noncomputable def k71 : FnT := ⟨(.seq (.rg [⟨(some b5), none, (.op (.mv (.t b1)))⟩, ⟨(some b6), none, (.call false (.c (.fn 82 [])) [(.t b5)])⟩])
 (.seq (.seq (.rg [⟨(some b7), none, (.op (.mv (.t b2)))⟩, ⟨(some b8), none, (.op (.bin .lss (.t b7) (.c (.i .i64 0))))⟩])
 (.cond (.t b8) (.rg [⟨(some b9), none, (.op (.ex .bad []))⟩, ⟨none, none, (.op (.ex .bad []))⟩]) .skip))
 (.seq (.rd [⟨(some b10), none, (.op (.mv (.t b1)))⟩, ⟨(some b11), none, (.op (.chk (.t b10)))⟩, ⟨(some b12), none, (.op (.fa 1 (.t b11)))⟩, ⟨(some b13), none, (.op (.ld none (.t b12)))⟩, ⟨(some b14), none, (.op (.ex .cap [(.t b13)]))⟩, ⟨(some b15), none, (.op (.mv (.t b1)))⟩, ⟨(some b16), none, (.op (.chk (.t b15)))⟩, ⟨(some b17), none, (.op (.fa 1 (.t b16)))⟩, ⟨(some b18), none, (.op (.ld none (.t b17)))⟩, ⟨(some b19), none, (.op (.len 1 (.t b18)))⟩, ⟨(some b20), none, (.op (.bin .sub (.t b14) (.t b19)))⟩, ⟨(some b21), none, (.op (.mv (.t b2)))⟩, ⟨(some b22), none, (.op (.bin .lss (.t b20) (.t b21)))⟩] [])
 (.cond (.t b22) (.rg [⟨(some b23), none, (.op (.mv (.t b1)))⟩, ⟨(some b24), none, (.op (.mv (.t b2)))⟩, ⟨(some b25), none, (.call false (.c (.fn 110 [])) [(.t b23), (.t b24)])⟩]) .skip)))), [], 25⟩
/-- zellige/bucket.New -/
noncomputable def k72 : FnT := ⟨(.seq (.rg [⟨(some b5), none, (.op (.mv (.c .np)))⟩])
 (.seq (.seq (.rg [⟨(some b6), none, (.op (.mv (.t b1)))⟩, ⟨(some b7), none, (.op (.bin .lss (.t b6) (.c (.i .i64 1))))⟩, ⟨(some b8), none, (.op (.mv (.t b7)))⟩, ⟨(some b9), (some (b8, false)), (.op (.mv (.t b1)))⟩, ⟨(some b10), (some (b8, false)), (.op (.bin .gtr (.t b9) (.c (.i .i64 17179869184))))⟩, ⟨(some b11), none, (.op (.pick (.t b8) (.c (.b true)) (.t b10)))⟩, ⟨(some b12), none, (.op (.mv (.t b11)))⟩, ⟨(some b13), (some (b12, false)), (.op (.mv (.t b2)))⟩, ⟨(some b14), (some (b12, false)), (.op (.bin .lss (.t b13) (.c (.i .i64 1))))⟩, ⟨(some b15), none, (.op (.pick (.t b12) (.c (.b true)) (.t b14)))⟩, ⟨(some b16), none, (.op (.mv (.t b15)))⟩, ⟨(some b17), (some (b16, false)), (.op (.mv (.t b2)))⟩, ⟨(some b18), (some (b16, false)), (.op (.bin .gtr (.t b17) (.c (.i .i64 64))))⟩, ⟨(some b19), none, (.op (.pick (.t b16) (.c (.b true)) (.t b18)))⟩])
 (.cond (.t b19) (.seq (.rg [⟨(some b5), none, (.op (.mv (.c .np)))⟩])
 .ret) .skip))
 (.seq (.rg [⟨(some b20), none, (.op (.mv (.t b1)))⟩, ⟨(some b21), none, (.op (.mv (.t b2)))⟩, ⟨(some b22), none, (.op (.mv (.t b2)))⟩, ⟨(some b23), none, (.op (.mv (.t b2)))⟩, ⟨(some b24), none, (.op (.bin .mul (.t b22) (.t b23)))⟩, ⟨(some b25), none, (.op (.ex (.mks 1 24 [.e0]) [(.t b24), (.t b24)]))⟩, ⟨(some b26), none, (.op (.bld [(.i .i64 0), (.i .i64 0), .e0, (.i .i64 0)] [(0, (1, (.t b20))), (1, (1, (.t b21))), (2, (1, (.t b25)))]))⟩, ⟨(some b27), none, (.op (.box 209 (.t b26)))⟩, ⟨(some b5), none, (.op (.mv (.t b27)))⟩])
 .ret))), [(.t b5)], 27⟩
/-- (*zellige/mesh.Mesh).Side -/
noncomputable def k73 : FnT := ⟨(.seq (.rg [⟨(some b3), none, (.op (.mv (.c (.i .i64 0))))⟩])
 (.seq (.seq (.rg [⟨(some b4), none, (.op (.mv (.t b1)))⟩, ⟨(some b5), none, (.op (.ex (.peq false) [(.t b4), (.c .np)]))⟩])
 (.cond (.t b5) (.seq (.rg [⟨(some b3), none, (.op (.mv (.c (.i .i64 0))))⟩])
 .ret) .skip))
 (.seq (.rg [⟨(some b6), none, (.op (.mv (.t b1)))⟩, ⟨(some b7), none, (.op (.chk (.t b6)))⟩, ⟨(some b8), none, (.op (.fa 0 (.t b7)))⟩, ⟨(some b9), none, (.op (.ld none (.t b8)))⟩, ⟨(some b3), none, (.op (.mv (.t b9)))⟩])
 .ret))), [(.t b3)], 9⟩
/-- zellige/arena.New -/
noncomputable def k76 : FnT := ⟨(.seq (.rg [⟨(some b1), none, (.op (.mv (.c .np)))⟩])
 (.seq (.rg [⟨(some b2), none, (.op (.bld [.e0, (.i .i64 0), (.i .i64 0)] [(1, (1, (.c (.i .i64 (-1)))))]))⟩, ⟨(some b3), none, (.op (.box 215 (.t b2)))⟩, ⟨(some b1), none, (.op (.mv (.t b3)))⟩])
 .ret)), [(.t b1)], 3⟩

/-- slices.pdqsortCmpFunc[zellige/api.Tri] -/
noncomputable def k78 : FnT := ⟨(.seq (.rg [⟨(some b11), none, (.op (.mv (.c (.b true))))⟩])
 (.seq (.rg [⟨(some b12), none, (.op (.mv (.c (.b true))))⟩])
 (.block 0 (.loop (.block 1 (.seq (.rg [⟨(some b22), none, (.op (.mv (.t b3)))⟩, ⟨(some b23), none, (.op (.mv (.t b2)))⟩, ⟨(some b24), none, (.op (.bin .sub (.t b22) (.t b23)))⟩, ⟨(some b13), none, (.op (.mv (.t b24)))⟩])
 (.seq (.seq (.rg [⟨(some b25), none, (.op (.mv (.t b13)))⟩, ⟨(some b26), none, (.op (.bin .leq (.t b25) (.c (.i .i64 12))))⟩])
 (.cond (.t b26) (.seq (.rg [⟨(some b27), none, (.op (.mv (.t b1)))⟩, ⟨(some b28), none, (.op (.mv (.t b2)))⟩, ⟨(some b29), none, (.op (.mv (.t b3)))⟩, ⟨(some b30), none, (.op (.mv (.t b5)))⟩, ⟨(some b31), none, (.call false (.c (.fn 115 [])) [(.t b27), (.t b28), (.t b29), (.t b30)])⟩])
 .ret) .skip))
 (.seq (.seq (.rg [⟨(some b32), none, (.op (.mv (.t b4)))⟩, ⟨(some b33), none, (.op (.bin .eql (.t b32) (.c (.i .i64 0))))⟩])
 (.cond (.t b33) (.seq (.rg [⟨(some b34), none, (.op (.mv (.t b1)))⟩, ⟨(some b35), none, (.op (.mv (.t b2)))⟩, ⟨(some b36), none, (.op (.mv (.t b3)))⟩, ⟨(some b37), none, (.op (.mv (.t b5)))⟩, ⟨(some b38), none, (.call false (.c (.fn 116 [])) [(.t b34), (.t b35), (.t b36), (.t b37)])⟩])
 .ret) .skip))
 (.seq (.seq (.rg [⟨(some b39), none, (.op (.mv (.t b11)))⟩, ⟨(some b40), none, (.op (.un .not (.t b39)))⟩])
 (.cond (.t b40) (.seq (.rg [⟨(some b41), none, (.op (.mv (.t b1)))⟩, ⟨(some b42), none, (.op (.mv (.t b2)))⟩, ⟨(some b43), none, (.op (.mv (.t b3)))⟩, ⟨(some b44), none, (.op (.mv (.t b5)))⟩, ⟨(some b45), none, (.call false (.c (.fn 117 [])) [(.t b41), (.t b42), (.t b43), (.t b44)])⟩])
 (.rg [⟨(some b46), none, (.op (.mv (.t b4)))⟩, ⟨(some b47), none, (.op (.bin .sub (.t b46) (.c (.i .i64 1))))⟩, ⟨(some b4), none, (.op (.mv (.t b47)))⟩])) .skip))
 (.seq (.rg [⟨(some b49), none, (.op (.mv (.t b1)))⟩, ⟨(some b50), none, (.op (.mv (.t b2)))⟩, ⟨(some b51), none, (.op (.mv (.t b3)))⟩, ⟨(some b52), none, (.op (.mv (.t b5)))⟩, ⟨(some b53), none, (.call false (.c (.fn 118 [])) [(.t b49), (.t b50), (.t b51), (.t b52)])⟩, ⟨(some b48), none, (.op (.mv (.t b53)))⟩, ⟨(some b54), none, (.op (.ext 0 (.t b48)))⟩, ⟨(some b55), none, (.op (.ext 1 (.t b48)))⟩, ⟨(some b14), none, (.op (.mv (.t b54)))⟩, ⟨(some b15), none, (.op (.mv (.t b55)))⟩])
 (.seq (.seq (.rg [⟨(some b56), none, (.op (.mv (.t b15)))⟩, ⟨(some b57), none, (.op (.bin .eql (.t b56) (.c (.i .i64 2))))⟩])
 (.cond (.t b57) (.seq (.rg [⟨(some b58), none, (.op (.mv (.t b1)))⟩, ⟨(some b59), none, (.op (.mv (.t b2)))⟩, ⟨(some b60), none, (.op (.mv (.t b3)))⟩, ⟨(some b61), none, (.op (.mv (.t b5)))⟩, ⟨(some b62), none, (.call false (.c (.fn 119 [])) [(.t b58), (.t b59), (.t b60), (.t b61)])⟩])
 (.seq (.rg [⟨(some b63), none, (.op (.mv (.t b3)))⟩, ⟨(some b64), none, (.op (.bin .sub (.t b63) (.c (.i .i64 1))))⟩, ⟨(some b65), none, (.op (.mv (.t b14)))⟩, ⟨(some b66), none, (.op (.mv (.t b2)))⟩, ⟨(some b67), none, (.op (.bin .sub (.t b65) (.t b66)))⟩, ⟨(some b68), none, (.op (.bin .sub (.t b64) (.t b67)))⟩, ⟨(some b14), none, (.op (.mv (.t b68)))⟩])
 (.rg [⟨(some b15), none, (.op (.mv (.c (.i .i64 1))))⟩]))) .skip))
 (.seq (.seq (.rg [⟨(some b69), none, (.op (.mv (.t b11)))⟩, ⟨(some b70), none, (.op (.mv (.t b69)))⟩, ⟨(some b71), (some (b70, true)), (.op (.mv (.t b12)))⟩, ⟨(some b72), none, (.op (.pick (.t b70) (.t b71) (.c (.b false))))⟩, ⟨(some b73), none, (.op (.mv (.t b72)))⟩, ⟨(some b74), (some (b73, true)), (.op (.mv (.t b15)))⟩, ⟨(some b75), (some (b73, true)), (.op (.bin .eql (.t b74) (.c (.i .i64 1))))⟩, ⟨(some b76), none, (.op (.pick (.t b73) (.t b75) (.c (.b false))))⟩])
 (.cond (.t b76) (.seq (.rg [⟨(some b77), none, (.op (.mv (.t b1)))⟩, ⟨(some b78), none, (.op (.mv (.t b2)))⟩, ⟨(some b79), none, (.op (.mv (.t b3)))⟩, ⟨(some b80), none, (.op (.mv (.t b5)))⟩, ⟨(some b81), none, (.call false (.c (.fn 120 [])) [(.t b77), (.t b78), (.t b79), (.t b80)])⟩])
 (.cond (.t b81) .ret .skip)) .skip))
 (.seq (.seq (.rd [⟨(some b82), none, (.op (.mv (.t b2)))⟩, ⟨(some b83), none, (.op (.bin .gtr (.t b82) (.c (.i .i64 0))))⟩, ⟨(some b84), none, (.op (.mv (.t b83)))⟩, ⟨(some b85), (some (b84, true)), (.op (.mv (.t b5)))⟩, ⟨(some b86), (some (b84, true)), (.op (.mv (.t b1)))⟩, ⟨(some b87), (some (b84, true)), (.op (.mv (.t b2)))⟩, ⟨(some b88), (some (b84, true)), (.op (.bin .sub (.t b87) (.c (.i .i64 1))))⟩, ⟨(some b89), (some (b84, true)), (.op (.ixs 9 (.t b86) (.t b88)))⟩, ⟨(some b90), (some (b84, true)), (.op (.ld (some 9) (.t b89)))⟩, ⟨(some b91), (some (b84, true)), (.op (.mv (.t b1)))⟩, ⟨(some b92), (some (b84, true)), (.op (.mv (.t b14)))⟩, ⟨(some b93), (some (b84, true)), (.op (.ixs 9 (.t b91) (.t b92)))⟩, ⟨(some b94), (some (b84, true)), (.op (.ld (some 9) (.t b93)))⟩, ⟨(some b95), (some (b84, true)), (.call false (.t b85) [(.t b90), (.t b94)])⟩, ⟨(some b96), (some (b84, true)), (.op (.bin .lss (.t b95) (.c (.i .i64 0))))⟩, ⟨(some b97), (some (b84, true)), (.op (.un .not (.t b96)))⟩, ⟨(some b98), none, (.op (.pick (.t b84) (.t b97) (.c (.b false))))⟩] [])
 (.cond (.t b98) (.seq (.rg [⟨(some b99), none, (.op (.mv (.t b1)))⟩, ⟨(some b100), none, (.op (.mv (.t b2)))⟩, ⟨(some b101), none, (.op (.mv (.t b3)))⟩, ⟨(some b102), none, (.op (.mv (.t b14)))⟩, ⟨(some b103), none, (.op (.mv (.t b5)))⟩, ⟨(some b104), none, (.call false (.c (.fn 121 [])) [(.t b99), (.t b100), (.t b101), (.t b102), (.t b103)])⟩, ⟨(some b16), none, (.op (.mv (.t b104)))⟩])
 (.seq (.rg [⟨(some b105), none, (.op (.mv (.t b16)))⟩, ⟨(some b2), none, (.op (.mv (.t b105)))⟩])
 (.exit 1))) .skip))
 (.seq (.rg [⟨(some b107), none, (.op (.mv (.t b1)))⟩, ⟨(some b108), none, (.op (.mv (.t b2)))⟩, ⟨(some b109), none, (.op (.mv (.t b3)))⟩, ⟨(some b110), none, (.op (.mv (.t b14)))⟩, ⟨(some b111), none, (.op (.mv (.t b5)))⟩, ⟨(some b112), none, (.call false (.c (.fn 122 [])) [(.t b107), (.t b108), (.t b109), (.t b110), (.t b111)])⟩, ⟨(some b106), none, (.op (.mv (.t b112)))⟩, ⟨(some b113), none, (.op (.ext 0 (.t b106)))⟩, ⟨(some b114), none, (.op (.ext 1 (.t b106)))⟩, ⟨(some b17), none, (.op (.mv (.t b113)))⟩, ⟨(some b18), none, (.op (.mv (.t b114)))⟩])
 (.seq (.rg [⟨(some b115), none, (.op (.mv (.t b18)))⟩, ⟨(some b12), none, (.op (.mv (.t b115)))⟩])
 (.seq (.rg [⟨(some b116), none, (.op (.mv (.t b17)))⟩, ⟨(some b117), none, (.op (.mv (.t b2)))⟩, ⟨(some b118), none, (.op (.bin .sub (.t b116) (.t b117)))⟩, ⟨(some b119), none, (.op (.mv (.t b3)))⟩, ⟨(some b120), none, (.op (.mv (.t b17)))⟩, ⟨(some b121), none, (.op (.bin .sub (.t b119) (.t b120)))⟩, ⟨(some b19), none, (.op (.mv (.t b118)))⟩, ⟨(some b20), none, (.op (.mv (.t b121)))⟩])
 (.seq (.rg [⟨(some b122), none, (.op (.mv (.t b13)))⟩, ⟨(some b123), none, (.op (.bin .quo (.t b122) (.c (.i .i64 8))))⟩, ⟨(some b21), none, (.op (.mv (.t b123)))⟩])
 (.seq (.rg [⟨(some b124), none, (.op (.mv (.t b19)))⟩, ⟨(some b125), none, (.op (.mv (.t b20)))⟩, ⟨(some b126), none, (.op (.bin .lss (.t b124) (.t b125)))⟩])
 (.cond (.t b126) (.seq (.rg [⟨(some b127), none, (.op (.mv (.t b19)))⟩, ⟨(some b128), none, (.op (.mv (.t b21)))⟩, ⟨(some b129), none, (.op (.bin .geq (.t b127) (.t b128)))⟩, ⟨(some b11), none, (.op (.mv (.t b129)))⟩])
 (.seq (.rg [⟨(some b130), none, (.op (.mv (.t b1)))⟩, ⟨(some b131), none, (.op (.mv (.t b2)))⟩, ⟨(some b132), none, (.op (.mv (.t b17)))⟩, ⟨(some b133), none, (.op (.mv (.t b4)))⟩, ⟨(some b134), none, (.op (.mv (.t b5)))⟩, ⟨(some b135), none, (.call false (.c (.fn 78 [])) [(.t b130), (.t b131), (.t b132), (.t b133), (.t b134)])⟩])
 (.rg [⟨(some b136), none, (.op (.mv (.t b17)))⟩, ⟨(some b137), none, (.op (.bin .add (.t b136) (.c (.i .i64 1))))⟩, ⟨(some b2), none, (.op (.mv (.t b137)))⟩]))) (.seq (.rg [⟨(some b138), none, (.op (.mv (.t b20)))⟩, ⟨(some b139), none, (.op (.mv (.t b21)))⟩, ⟨(some b140), none, (.op (.bin .geq (.t b138) (.t b139)))⟩, ⟨(some b11), none, (.op (.mv (.t b140)))⟩])
 (.seq (.rg [⟨(some b141), none, (.op (.mv (.t b1)))⟩, ⟨(some b142), none, (.op (.mv (.t b17)))⟩, ⟨(some b143), none, (.op (.bin .add (.t b142) (.c (.i .i64 1))))⟩, ⟨(some b144), none, (.op (.mv (.t b3)))⟩, ⟨(some b145), none, (.op (.mv (.t b4)))⟩, ⟨(some b146), none, (.op (.mv (.t b5)))⟩, ⟨(some b147), none, (.call false (.c (.fn 78 [])) [(.t b141), (.t b143), (.t b144), (.t b145), (.t b146)])⟩])
 (.rg [⟨(some b148), none, (.op (.mv (.t b17)))⟩, ⟨(some b3), none, (.op (.mv (.t b148)))⟩])))))))))))))))))))))), [], 148⟩
/-- (*zellige/arena.Arena).All -/
noncomputable def k80 : FnT := ⟨(.seq (.rg [⟨(some b3), none, (.op (.mv (.c .e0)))⟩])
 (.seq (.seq (.rg [⟨(some b6), none, (.op (.mv (.t b1)))⟩, ⟨(some b7), none, (.op (.ex (.peq false) [(.t b6), (.c .np)]))⟩])
 (.cond (.t b7) (.seq (.rg [⟨(some b3), none, (.op (.mv (.c .e0)))⟩])
 .ret) .skip))
 (.seq (.rg [⟨(some b4), none, (.op (.mv (.c .e0)))⟩])
 (.seq (.seq (.rg [⟨(some b8), none, (.op (.mv (.t b1)))⟩, ⟨(some b9), none, (.op (.chk (.t b8)))⟩, ⟨(some b10), none, (.op (.fa 0 (.t b9)))⟩, ⟨(some b11), none, (.op (.ld none (.t b10)))⟩, ⟨(some b12), none, (.op (.len 1 (.t b11)))⟩, ⟨(some b13), none, (.op (.mv (.c (.i .i64 0))))⟩])
 (.block 0 (.loop (.seq (.rg [⟨(some b14), none, (.op (.bin .lss (.t b13) (.t b12)))⟩])
 (.seq (.cond (.t b14) .skip (.exit 0))
 (.seq (.block 1 (.seq (.rg [⟨(some b15), none, (.op (.mv (.t b13)))⟩, ⟨(some b5), none, (.op (.mv (.t b15)))⟩])
 (.seq (.rg [⟨(some b16), none, (.op (.mv (.t b1)))⟩, ⟨(some b17), none, (.op (.mv (.t b5)))⟩, ⟨(some b18), none, (.call false (.c (.fn 125 [])) [(.t b16), (.t b17)])⟩])
 (.cond (.t b18) (.rg [⟨(some b19), none, (.op (.mv (.t b4)))⟩, ⟨(some b20), none, (.op (.mv (.t b5)))⟩, ⟨(some b21), none, (.op (.lit 1 1 false [(.i .i64 0)] [(0, (1, (.t b20)))]))⟩, ⟨(some b22), none, (.op (.app 1 8 (.t b19) (.t b21)))⟩, ⟨(some b4), none, (.op (.mv (.t b22)))⟩]) .skip))))
 (.rg [⟨(some b23), none, (.op (.bin .add (.t b13) (.c (.i .i64 1))))⟩, ⟨(some b13), none, (.op (.mv (.t b23)))⟩])))))))
 (.seq (.rg [⟨(some b24), none, (.op (.mv (.t b4)))⟩, ⟨(some b3), none, (.op (.mv (.t b24)))⟩])
 .ret))))), [(.t b3)], 24⟩
/-- slices.pdqsortCmpFunc[zellige/api.Place] -/
noncomputable def k81 : FnT := ⟨(.seq (.rg [⟨(some b11), none, (.op (.mv (.c (.b true))))⟩])
 (.seq (.rg [⟨(some b12), none, (.op (.mv (.c (.b true))))⟩])
 (.block 0 (.loop (.block 1 (.seq (.rg [⟨(some b22), none, (.op (.mv (.t b3)))⟩, ⟨(some b23), none, (.op (.mv (.t b2)))⟩, ⟨(some b24), none, (.op (.bin .sub (.t b22) (.t b23)))⟩, ⟨(some b13), none, (.op (.mv (.t b24)))⟩])
 (.seq (.seq (.rg [⟨(some b25), none, (.op (.mv (.t b13)))⟩, ⟨(some b26), none, (.op (.bin .leq (.t b25) (.c (.i .i64 12))))⟩])
 (.cond (.t b26) (.seq (.rg [⟨(some b27), none, (.op (.mv (.t b1)))⟩, ⟨(some b28), none, (.op (.mv (.t b2)))⟩, ⟨(some b29), none, (.op (.mv (.t b3)))⟩, ⟨(some b30), none, (.op (.mv (.t b5)))⟩, ⟨(some b31), none, (.call false (.c (.fn 126 [])) [(.t b27), (.t b28), (.t b29), (.t b30)])⟩])
 .ret) .skip))
 (.seq (.seq (.rg [⟨(some b32), none, (.op (.mv (.t b4)))⟩, ⟨(some b33), none, (.op (.bin .eql (.t b32) (.c (.i .i64 0))))⟩])
 (.cond (.t b33) (.seq (.rg [⟨(some b34), none, (.op (.mv (.t b1)))⟩, ⟨(some b35), none, (.op (.mv (.t b2)))⟩, ⟨(some b36), none, (.op (.mv (.t b3)))⟩, ⟨(some b37), none, (.op (.mv (.t b5)))⟩, ⟨(some b38), none, (.call false (.c (.fn 127 [])) [(.t b34), (.t b35), (.t b36), (.t b37)])⟩])
 .ret) .skip))
 (.seq (.seq (.rg [⟨(some b39), none, (.op (.mv (.t b11)))⟩, ⟨(some b40), none, (.op (.un .not (.t b39)))⟩])
 (.cond (.t b40) (.seq (.rg [⟨(some b41), none, (.op (.mv (.t b1)))⟩, ⟨(some b42), none, (.op (.mv (.t b2)))⟩, ⟨(some b43), none, (.op (.mv (.t b3)))⟩, ⟨(some b44), none, (.op (.mv (.t b5)))⟩, ⟨(some b45), none, (.call false (.c (.fn 128 [])) [(.t b41), (.t b42), (.t b43), (.t b44)])⟩])
 (.rg [⟨(some b46), none, (.op (.mv (.t b4)))⟩, ⟨(some b47), none, (.op (.bin .sub (.t b46) (.c (.i .i64 1))))⟩, ⟨(some b4), none, (.op (.mv (.t b47)))⟩])) .skip))
 (.seq (.rg [⟨(some b49), none, (.op (.mv (.t b1)))⟩, ⟨(some b50), none, (.op (.mv (.t b2)))⟩, ⟨(some b51), none, (.op (.mv (.t b3)))⟩, ⟨(some b52), none, (.op (.mv (.t b5)))⟩, ⟨(some b53), none, (.call false (.c (.fn 129 [])) [(.t b49), (.t b50), (.t b51), (.t b52)])⟩, ⟨(some b48), none, (.op (.mv (.t b53)))⟩, ⟨(some b54), none, (.op (.ext 0 (.t b48)))⟩, ⟨(some b55), none, (.op (.ext 1 (.t b48)))⟩, ⟨(some b14), none, (.op (.mv (.t b54)))⟩, ⟨(some b15), none, (.op (.mv (.t b55)))⟩])
 (.seq (.seq (.rg [⟨(some b56), none, (.op (.mv (.t b15)))⟩, ⟨(some b57), none, (.op (.bin .eql (.t b56) (.c (.i .i64 2))))⟩])
 (.cond (.t b57) (.seq (.rg [⟨(some b58), none, (.op (.mv (.t b1)))⟩, ⟨(some b59), none, (.op (.mv (.t b2)))⟩, ⟨(some b60), none, (.op (.mv (.t b3)))⟩, ⟨(some b61), none, (.op (.mv (.t b5)))⟩, ⟨(some b62), none, (.call false (.c (.fn 130 [])) [(.t b58), (.t b59), (.t b60), (.t b61)])⟩])
 (.seq (.rg [⟨(some b63), none, (.op (.mv (.t b3)))⟩, ⟨(some b64), none, (.op (.bin .sub (.t b63) (.c (.i .i64 1))))⟩, ⟨(some b65), none, (.op (.mv (.t b14)))⟩, ⟨(some b66), none, (.op (.mv (.t b2)))⟩, ⟨(some b67), none, (.op (.bin .sub (.t b65) (.t b66)))⟩, ⟨(some b68), none, (.op (.bin .sub (.t b64) (.t b67)))⟩, ⟨(some b14), none, (.op (.mv (.t b68)))⟩])
 (.rg [⟨(some b15), none, (.op (.mv (.c (.i .i64 1))))⟩]))) .skip))
 (.seq (.seq (.rg [⟨(some b69), none, (.op (.mv (.t b11)))⟩, ⟨(some b70), none, (.op (.mv (.t b69)))⟩, ⟨(some b71), (some (b70, true)), (.op (.mv (.t b12)))⟩, ⟨(some b72), none, (.op (.pick (.t b70) (.t b71) (.c (.b false))))⟩, ⟨(some b73), none, (.op (.mv (.t b72)))⟩, ⟨(some b74), (some (b73, true)), (.op (.mv (.t b15)))⟩, ⟨(some b75), (some (b73, true)), (.op (.bin .eql (.t b74) (.c (.i .i64 1))))⟩, ⟨(some b76), none, (.op (.pick (.t b73) (.t b75) (.c (.b false))))⟩])
 (.cond (.t b76) (.seq (.rg [⟨(some b77), none, (.op (.mv (.t b1)))⟩, ⟨(some b78), none, (.op (.mv (.t b2)))⟩, ⟨(some b79), none, (.op (.mv (.t b3)))⟩, ⟨(some b80), none, (.op (.mv (.t b5)))⟩, ⟨(some b81), none, (.call false (.c (.fn 131 [])) [(.t b77), (.t b78), (.t b79), (.t b80)])⟩])
 (.cond (.t b81) .ret .skip)) .skip))
 (.seq (.seq (.rd [⟨(some b82), none, (.op (.mv (.t b2)))⟩, ⟨(some b83), none, (.op (.bin .gtr (.t b82) (.c (.i .i64 0))))⟩, ⟨(some b84), none, (.op (.mv (.t b83)))⟩, ⟨(some b85), (some (b84, true)), (.op (.mv (.t b5)))⟩, ⟨(some b86), (some (b84, true)), (.op (.mv (.t b1)))⟩, ⟨(some b87), (some (b84, true)), (.op (.mv (.t b2)))⟩, ⟨(some b88), (some (b84, true)), (.op (.bin .sub (.t b87) (.c (.i .i64 1))))⟩, ⟨(some b89), (some (b84, true)), (.op (.ixs 3 (.t b86) (.t b88)))⟩, ⟨(some b90), (some (b84, true)), (.op (.ld (some 3) (.t b89)))⟩, ⟨(some b91), (some (b84, true)), (.op (.mv (.t b1)))⟩, ⟨(some b92), (some (b84, true)), (.op (.mv (.t b14)))⟩, ⟨(some b93), (some (b84, true)), (.op (.ixs 3 (.t b91) (.t b92)))⟩, ⟨(some b94), (some (b84, true)), (.op (.ld (some 3) (.t b93)))⟩, ⟨(some b95), (some (b84, true)), (.call false (.t b85) [(.t b90), (.t b94)])⟩, ⟨(some b96), (some (b84, true)), (.op (.bin .lss (.t b95) (.c (.i .i64 0))))⟩, ⟨(some b97), (some (b84, true)), (.op (.un .not (.t b96)))⟩, ⟨(some b98), none, (.op (.pick (.t b84) (.t b97) (.c (.b false))))⟩] [])
 (.cond (.t b98) (.seq (.rg [⟨(some b99), none, (.op (.mv (.t b1)))⟩, ⟨(some b100), none, (.op (.mv (.t b2)))⟩, ⟨(some b101), none, (.op (.mv (.t b3)))⟩, ⟨(some b102), none, (.op (.mv (.t b14)))⟩, ⟨(some b103), none, (.op (.mv (.t b5)))⟩, ⟨(some b104), none, (.call false (.c (.fn 132 [])) [(.t b99), (.t b100), (.t b101), (.t b102), (.t b103)])⟩, ⟨(some b16), none, (.op (.mv (.t b104)))⟩])
 (.seq (.rg [⟨(some b105), none, (.op (.mv (.t b16)))⟩, ⟨(some b2), none, (.op (.mv (.t b105)))⟩])
 (.exit 1))) .skip))
 (.seq (.rg [⟨(some b107), none, (.op (.mv (.t b1)))⟩, ⟨(some b108), none, (.op (.mv (.t b2)))⟩, ⟨(some b109), none, (.op (.mv (.t b3)))⟩, ⟨(some b110), none, (.op (.mv (.t b14)))⟩, ⟨(some b111), none, (.op (.mv (.t b5)))⟩, ⟨(some b112), none, (.call false (.c (.fn 133 [])) [(.t b107), (.t b108), (.t b109), (.t b110), (.t b111)])⟩, ⟨(some b106), none, (.op (.mv (.t b112)))⟩, ⟨(some b113), none, (.op (.ext 0 (.t b106)))⟩, ⟨(some b114), none, (.op (.ext 1 (.t b106)))⟩, ⟨(some b17), none, (.op (.mv (.t b113)))⟩, ⟨(some b18), none, (.op (.mv (.t b114)))⟩])
 (.seq (.rg [⟨(some b115), none, (.op (.mv (.t b18)))⟩, ⟨(some b12), none, (.op (.mv (.t b115)))⟩])
 (.seq (.rg [⟨(some b116), none, (.op (.mv (.t b17)))⟩, ⟨(some b117), none, (.op (.mv (.t b2)))⟩, ⟨(some b118), none, (.op (.bin .sub (.t b116) (.t b117)))⟩, ⟨(some b119), none, (.op (.mv (.t b3)))⟩, ⟨(some b120), none, (.op (.mv (.t b17)))⟩, ⟨(some b121), none, (.op (.bin .sub (.t b119) (.t b120)))⟩, ⟨(some b19), none, (.op (.mv (.t b118)))⟩, ⟨(some b20), none, (.op (.mv (.t b121)))⟩])
 (.seq (.rg [⟨(some b122), none, (.op (.mv (.t b13)))⟩, ⟨(some b123), none, (.op (.bin .quo (.t b122) (.c (.i .i64 8))))⟩, ⟨(some b21), none, (.op (.mv (.t b123)))⟩])
 (.seq (.rg [⟨(some b124), none, (.op (.mv (.t b19)))⟩, ⟨(some b125), none, (.op (.mv (.t b20)))⟩, ⟨(some b126), none, (.op (.bin .lss (.t b124) (.t b125)))⟩])
 (.cond (.t b126) (.seq (.rg [⟨(some b127), none, (.op (.mv (.t b19)))⟩, ⟨(some b128), none, (.op (.mv (.t b21)))⟩, ⟨(some b129), none, (.op (.bin .geq (.t b127) (.t b128)))⟩, ⟨(some b11), none, (.op (.mv (.t b129)))⟩])
 (.seq (.rg [⟨(some b130), none, (.op (.mv (.t b1)))⟩, ⟨(some b131), none, (.op (.mv (.t b2)))⟩, ⟨(some b132), none, (.op (.mv (.t b17)))⟩, ⟨(some b133), none, (.op (.mv (.t b4)))⟩, ⟨(some b134), none, (.op (.mv (.t b5)))⟩, ⟨(some b135), none, (.call false (.c (.fn 81 [])) [(.t b130), (.t b131), (.t b132), (.t b133), (.t b134)])⟩])
 (.rg [⟨(some b136), none, (.op (.mv (.t b17)))⟩, ⟨(some b137), none, (.op (.bin .add (.t b136) (.c (.i .i64 1))))⟩, ⟨(some b2), none, (.op (.mv (.t b137)))⟩]))) (.seq (.rg [⟨(some b138), none, (.op (.mv (.t b20)))⟩, ⟨(some b139), none, (.op (.mv (.t b21)))⟩, ⟨(some b140), none, (.op (.bin .geq (.t b138) (.t b139)))⟩, ⟨(some b11), none, (.op (.mv (.t b140)))⟩])
 (.seq (.rg [⟨(some b141), none, (.op (.mv (.t b1)))⟩, ⟨(some b142), none, (.op (.mv (.t b17)))⟩, ⟨(some b143), none, (.op (.bin .add (.t b142) (.c (.i .i64 1))))⟩, ⟨(some b144), none, (.op (.mv (.t b3)))⟩, ⟨(some b145), none, (.op (.mv (.t b4)))⟩, ⟨(some b146), none, (.op (.mv (.t b5)))⟩, ⟨(some b147), none, (.call false (.c (.fn 81 [])) [(.t b141), (.t b143), (.t b144), (.t b145), (.t b146)])⟩])
 (.rg [⟨(some b148), none, (.op (.mv (.t b17)))⟩, ⟨(some b3), none, (.op (.mv (.t b148)))⟩])))))))))))))))))))))), [], 148⟩
/-- (*strings.Builder).copyCheck -/
noncomputable def k82 : FnT := ⟨(.seq (.rg [⟨(some b3), none, (.op (.mv (.t b1)))⟩, ⟨(some b4), none, (.op (.chk (.t b3)))⟩, ⟨(some b5), none, (.op (.fa 0 (.t b4)))⟩, ⟨(some b6), none, (.op (.ld none (.t b5)))⟩, ⟨(some b7), none, (.op (.ex (.peq false) [(.t b6), (.c .np)]))⟩])
 (.cond (.t b7) (.rg [⟨(some b8), none, (.op (.mv (.t b1)))⟩, ⟨(some b9), none, (.op (.mv (.t b1)))⟩, ⟨(some b10), none, (.op (.ex .cvu [(.t b9)]))⟩, ⟨(some b11), none, (.op (.ex .nes [(.t b10)]))⟩, ⟨(some b12), none, (.op (.ex (.cvp [(140, 2), (141, 2), (142, 2), (143, 2)]) [(.t b11)]))⟩, ⟨(some b13), none, (.op (.chk (.t b8)))⟩, ⟨(some b14), none, (.op (.fa 0 (.t b13)))⟩, ⟨none, none, (.op (.st 1 (.t b14) (.t b12)))⟩]) (.seq (.rg [⟨(some b15), none, (.op (.mv (.t b1)))⟩, ⟨(some b16), none, (.op (.chk (.t b15)))⟩, ⟨(some b17), none, (.op (.fa 0 (.t b16)))⟩, ⟨(some b18), none, (.op (.ld none (.t b17)))⟩, ⟨(some b19), none, (.op (.mv (.t b1)))⟩, ⟨(some b20), none, (.op (.ex (.peq true) [(.t b18), (.t b19)]))⟩])
 (.cond (.t b20) .bad .skip)))), [], 20⟩
/-- math/bits.Len64 -/
noncomputable def k93 : FnT := ⟨(.seq (.rg [⟨(some b3), none, (.op (.mv (.c (.i .i64 0))))⟩])
 (.seq (.seq (.rg [⟨(some b4), none, (.op (.mv (.t b1)))⟩, ⟨(some b5), none, (.op (.bin .geq (.t b4) (.c (.i .u64 4294967296))))⟩])
 (.cond (.t b5) (.seq (.rg [⟨(some b6), none, (.op (.mv (.t b1)))⟩, ⟨(some b7), none, (.op (.bin .shr (.t b6) (.c (.i .u64 32))))⟩, ⟨(some b1), none, (.op (.mv (.t b7)))⟩])
 (.rg [⟨(some b3), none, (.op (.mv (.c (.i .i64 32))))⟩])) .skip))
 (.seq (.seq (.rg [⟨(some b8), none, (.op (.mv (.t b1)))⟩, ⟨(some b9), none, (.op (.bin .geq (.t b8) (.c (.i .u64 65536))))⟩])
 (.cond (.t b9) (.seq (.rg [⟨(some b10), none, (.op (.mv (.t b1)))⟩, ⟨(some b11), none, (.op (.bin .shr (.t b10) (.c (.i .u64 16))))⟩, ⟨(some b1), none, (.op (.mv (.t b11)))⟩])
 (.rg [⟨(some b12), none, (.op (.mv (.t b3)))⟩, ⟨(some b13), none, (.op (.bin .add (.t b12) (.c (.i .i64 16))))⟩, ⟨(some b3), none, (.op (.mv (.t b13)))⟩])) .skip))
 (.seq (.seq (.rg [⟨(some b14), none, (.op (.mv (.t b1)))⟩, ⟨(some b15), none, (.op (.bin .geq (.t b14) (.c (.i .u64 256))))⟩])
 (.cond (.t b15) (.seq (.rg [⟨(some b16), none, (.op (.mv (.t b1)))⟩, ⟨(some b17), none, (.op (.bin .shr (.t b16) (.c (.i .u64 8))))⟩, ⟨(some b1), none, (.op (.mv (.t b17)))⟩])
 (.rg [⟨(some b18), none, (.op (.mv (.t b3)))⟩, ⟨(some b19), none, (.op (.bin .add (.t b18) (.c (.i .i64 8))))⟩, ⟨(some b3), none, (.op (.mv (.t b19)))⟩])) .skip))
 (.seq (.rg [⟨(some b20), none, (.op (.mv (.t b3)))⟩, ⟨(some b21), none, (.op (.mv (.t b1)))⟩, ⟨(some b22), none, (.op (.cvi .u8 (.t b21)))⟩, ⟨(some b23), none, (.op (.ixb (.c (.s [0, 1, 2, 2, 3, 3, 3, 3, 4, 4, 4, 4, 4, 4, 4, 4, 5, 5, 5, 5, 5, 5, 5, 5, 5, 5, 5, 5, 5, 5, 5, 5, 6, 6, 6, 6, 6, 6, 6, 6, 6, 6, 6, 6, 6, 6, 6, 6, 6, 6, 6, 6, 6, 6, 6, 6, 6, 6, 6, 6, 6, 6, 6, 6, 7, 7, 7, 7, 7, 7, 7, 7, 7, 7, 7, 7, 7, 7, 7, 7, 7, 7, 7, 7, 7, 7, 7, 7, 7, 7, 7, 7, 7, 7, 7, 7, 7, 7, 7, 7, 7, 7, 7, 7, 7, 7, 7, 7, 7, 7, 7, 7, 7, 7, 7, 7, 7, 7, 7, 7, 7, 7, 7, 7, 7, 7, 7, 7, 8, 8, 8, 8, 8, 8, 8, 8, 8, 8, 8, 8, 8, 8, 8, 8, 8, 8, 8, 8, 8, 8, 8, 8, 8, 8, 8, 8, 8, 8, 8, 8, 8, 8, 8, 8, 8, 8, 8, 8, 8, 8, 8, 8, 8, 8, 8, 8, 8, 8, 8, 8, 8, 8, 8, 8, 8, 8, 8, 8, 8, 8, 8, 8, 8, 8, 8, 8, 8, 8, 8, 8, 8, 8, 8, 8, 8, 8, 8, 8, 8, 8, 8, 8, 8, 8, 8, 8, 8, 8, 8, 8, 8, 8, 8, 8, 8, 8, 8, 8, 8, 8, 8, 8, 8, 8, 8, 8, 8, 8, 8, 8, 8, 8, 8, 8, 8, 8, 8, 8, 8, 8, 8, 8, 8, 8, 8, 8])) (.t b22)))⟩, ⟨(some b24), none, (.op (.cvi .i64 (.t b23)))⟩, ⟨(some b25), none, (.op (.bin .add (.t b20) (.t b24)))⟩, ⟨(some b3), none, (.op (.mv (.t b25)))⟩])
 .ret))))), [(.t b3)], 25⟩
/-- internal/strconv.FormatInt -/
noncomputable def k103 : FnT := ⟨(.seq (.rg [⟨(some b5), none, (.op (.mv (.c (.s []))))⟩])
 (.seq (.seq (.rg [⟨(some b11), none, (.op (.mv (.t b2)))⟩, ⟨(some b12), none, (.op (.bin .eql (.t b11) (.c (.i .i64 10))))⟩])
 (.cond (.t b12) (.seq (.seq (.rg [⟨(some b13), none, (.op (.mv (.t b1)))⟩, ⟨(some b14), none, (.op (.bin .leq (.c (.i .i64 0)) (.t b13)))⟩, ⟨(some b15), none, (.op (.mv (.t b14)))⟩, ⟨(some b16), (some (b15, true)), (.op (.mv (.t b1)))⟩, ⟨(some b17), (some (b15, true)), (.op (.bin .lss (.t b16) (.c (.i .i64 100))))⟩, ⟨(some b18), none, (.op (.pick (.t b15) (.t b17) (.c (.b false))))⟩])
 (.cond (.t b18) (.seq (.rg [⟨(some b19), none, (.op (.mv (.t b1)))⟩, ⟨(some b20), none, (.call false (.c (.fn 163 [])) [(.t b19)])⟩, ⟨(some b5), none, (.op (.mv (.t b20)))⟩])
 .ret) .skip))
 (.seq (.rg [⟨(some b6), none, (.op (.al 262 [(.i .u8 0), (.i .u8 0), (.i .u8 0), (.i .u8 0), (.i .u8 0), (.i .u8 0), (.i .u8 0), (.i .u8 0), (.i .u8 0), (.i .u8 0), (.i .u8 0), (.i .u8 0), (.i .u8 0), (.i .u8 0), (.i .u8 0), (.i .u8 0), (.i .u8 0), (.i .u8 0), (.i .u8 0), (.i .u8 0), (.i .u8 0), (.i .u8 0), (.i .u8 0), (.i .u8 0)]))⟩])
 (.seq (.rg [⟨(some b21), none, (.op (.mv (.t b1)))⟩, ⟨(some b22), none, (.op (.cvi .u64 (.t b21)))⟩, ⟨(some b7), none, (.op (.mv (.t b22)))⟩])
 (.seq (.seq (.rg [⟨(some b23), none, (.op (.mv (.t b1)))⟩, ⟨(some b24), none, (.op (.bin .lss (.t b23) (.c (.i .i64 0))))⟩])
 (.cond (.t b24) (.rg [⟨(some b25), none, (.op (.mv (.t b7)))⟩, ⟨(some b26), none, (.op (.un .neg (.t b25)))⟩, ⟨(some b7), none, (.op (.mv (.t b26)))⟩]) .skip))
 (.seq (.rg [⟨(some b27), none, (.op (.mv (.t b7)))⟩, ⟨(some b28), none, (.call false (.c (.fn 164 [])) [(.t b27)])⟩, ⟨(some b8), none, (.op (.mv (.t b28)))⟩])
 (.seq (.rg [⟨(some b29), none, (.op (.mv (.t b8)))⟩, ⟨(some b30), none, (.op (.bin .add (.c (.i .i64 1)) (.t b29)))⟩, ⟨(some b31), none, (.op (.ex .bad []))⟩, ⟨(some b32), none, (.op (.mv (.t b7)))⟩, ⟨(some b33), none, (.call false (.c (.fn 165 [])) [(.t b31), (.t b32)])⟩])
 (.seq (.seq (.rg [⟨(some b34), none, (.op (.mv (.t b1)))⟩, ⟨(some b35), none, (.op (.bin .lss (.t b34) (.c (.i .i64 0))))⟩])
 (.cond (.t b35) (.seq (.rg [⟨(some b36), none, (.op (.ixa 24 1 (.t b6) (.c (.i .i64 0))))⟩, ⟨none, none, (.op (.st 1 (.t b36) (.c (.i .u8 45))))⟩])
 (.seq (.rg [⟨(some b37), none, (.op (.mv (.t b8)))⟩, ⟨(some b38), none, (.op (.bin .add (.c (.i .i64 1)) (.t b37)))⟩, ⟨(some b39), none, (.op (.ex .bad []))⟩, ⟨(some b40), none, (.op (.ex .bad []))⟩, ⟨(some b5), none, (.op (.mv (.t b40)))⟩])
 .ret)) .skip))
 (.seq (.rg [⟨(some b41), none, (.op (.mv (.t b8)))⟩, ⟨(some b42), none, (.op (.bin .add (.c (.i .i64 1)) (.t b41)))⟩, ⟨(some b43), none, (.op (.ex .bad []))⟩, ⟨(some b44), none, (.op (.ex .bad []))⟩, ⟨(some b5), none, (.op (.mv (.t b44)))⟩])
 .ret)))))))) .skip))
 (.seq (.rg [⟨(some b46), none, (.op (.mv (.t b1)))⟩, ⟨(some b47), none, (.op (.cvi .u64 (.t b46)))⟩, ⟨(some b48), none, (.op (.mv (.t b2)))⟩, ⟨(some b49), none, (.op (.mv (.t b1)))⟩, ⟨(some b50), none, (.op (.bin .lss (.t b49) (.c (.i .i64 0))))⟩, ⟨(some b51), none, (.call false (.c (.fn 166 [])) [(.c .e0), (.t b47), (.t b48), (.t b50), (.c (.b false))])⟩, ⟨(some b45), none, (.op (.mv (.t b51)))⟩, ⟨(some b52), none, (.op (.ext 0 (.t b45)))⟩, ⟨(some b53), none, (.op (.ext 1 (.t b45)))⟩, ⟨(some b9), none, (.op (.mv (.t b52)))⟩, ⟨(some b10), none, (.op (.mv (.t b53)))⟩])
 (.seq (.rg [⟨(some b54), none, (.op (.mv (.t b10)))⟩, ⟨(some b5), none, (.op (.mv (.t b54)))⟩])
 .ret)))), [(.t b5)], 54⟩
/-- (*strings.Builder).grow -/
noncomputable def k110 : FnT := ⟨(.seq (.rd [⟨(some b6), none, (.op (.mv (.t b1)))⟩, ⟨(some b7), none, (.op (.chk (.t b6)))⟩, ⟨(some b8), none, (.op (.fa 1 (.t b7)))⟩, ⟨(some b9), none, (.op (.ld none (.t b8)))⟩, ⟨(some b10), none, (.op (.ex .cap [(.t b9)]))⟩, ⟨(some b11), none, (.op (.bin .mul (.c (.i .i64 2)) (.t b10)))⟩, ⟨(some b12), none, (.op (.mv (.t b2)))⟩, ⟨(some b13), none, (.op (.bin .add (.t b11) (.t b12)))⟩, ⟨(some b14), none, (.op (.ex (.mnz 5) [(.t b13)]))⟩, ⟨(some b15), none, (.op (.mv (.t b1)))⟩, ⟨(some b16), none, (.op (.chk (.t b15)))⟩, ⟨(some b17), none, (.op (.fa 1 (.t b16)))⟩, ⟨(some b18), none, (.op (.ld none (.t b17)))⟩, ⟨(some b19), none, (.op (.len 1 (.t b18)))⟩, ⟨(some b20), none, (.op (.cut 1 (.t b14) none (some (.t b19))))⟩, ⟨(some b5), none, (.op (.mv (.t b20)))⟩] [(8, 9), (8, 10), (8, 11), (8, 12), (8, 13)])
 (.seq (.rg [⟨(some b21), none, (.op (.mv (.t b5)))⟩, ⟨(some b22), none, (.op (.mv (.t b1)))⟩, ⟨(some b23), none, (.op (.chk (.t b22)))⟩, ⟨(some b24), none, (.op (.fa 1 (.t b23)))⟩, ⟨(some b25), none, (.op (.ld none (.t b24)))⟩, ⟨(some b26), none, (.op (.ex .cpy [(.t b21), (.t b25)]))⟩])
 (.rg [⟨(some b27), none, (.op (.mv (.t b1)))⟩, ⟨(some b28), none, (.op (.mv (.t b5)))⟩, ⟨(some b29), none, (.op (.chk (.t b27)))⟩, ⟨(some b30), none, (.op (.fa 1 (.t b29)))⟩, ⟨none, none, (.op (.st 1 (.t b30) (.t b28)))⟩]))), [], 30⟩
/-- slices.insertionSortCmpFunc[zellige/api.Tri] -/
noncomputable def k115 : FnT := ⟨(.seq (.rg [⟨(some b11), none, (.op (.mv (.t b2)))⟩, ⟨(some b12), none, (.op (.bin .add (.t b11) (.c (.i .i64 1))))⟩, ⟨(some b9), none, (.op (.mv (.t b12)))⟩])
 (.block 0 (.loop (.seq (.seq (.rg [⟨(some b13), none, (.op (.mv (.t b9)))⟩, ⟨(some b14), none, (.op (.mv (.t b3)))⟩, ⟨(some b15), none, (.op (.bin .lss (.t b13) (.t b14)))⟩])
 (.cond (.t b15) .skip (.exit 0)))
 (.seq (.block 1 (.seq (.rg [⟨(some b18), none, (.op (.mv (.t b9)))⟩, ⟨(some b10), none, (.op (.mv (.t b18)))⟩])
 (.block 2 (.loop (.seq (.seq (.rd [⟨(some b19), none, (.op (.mv (.t b10)))⟩, ⟨(some b20), none, (.op (.mv (.t b2)))⟩, ⟨(some b21), none, (.op (.bin .gtr (.t b19) (.t b20)))⟩, ⟨(some b22), none, (.op (.mv (.t b21)))⟩, ⟨(some b23), (some (b22, true)), (.op (.mv (.t b4)))⟩, ⟨(some b24), (some (b22, true)), (.op (.mv (.t b1)))⟩, ⟨(some b25), (some (b22, true)), (.op (.mv (.t b10)))⟩, ⟨(some b26), (some (b22, true)), (.op (.ixs 9 (.t b24) (.t b25)))⟩, ⟨(some b27), (some (b22, true)), (.op (.ld (some 9) (.t b26)))⟩, ⟨(some b28), (some (b22, true)), (.op (.mv (.t b1)))⟩, ⟨(some b29), (some (b22, true)), (.op (.mv (.t b10)))⟩, ⟨(some b30), (some (b22, true)), (.op (.bin .sub (.t b29) (.c (.i .i64 1))))⟩, ⟨(some b31), (some (b22, true)), (.op (.ixs 9 (.t b28) (.t b30)))⟩, ⟨(some b32), (some (b22, true)), (.op (.ld (some 9) (.t b31)))⟩, ⟨(some b33), (some (b22, true)), (.call false (.t b23) [(.t b27), (.t b32)])⟩, ⟨(some b34), (some (b22, true)), (.op (.bin .lss (.t b33) (.c (.i .i64 0))))⟩, ⟨(some b35), none, (.op (.pick (.t b22) (.t b34) (.c (.b false))))⟩] [])
 (.cond (.t b35) .skip (.exit 2)))
 (.seq (.block 3 (.rd [⟨(some b38), none, (.op (.mv (.t b1)))⟩, ⟨(some b39), none, (.op (.mv (.t b10)))⟩, ⟨(some b40), none, (.op (.mv (.t b1)))⟩, ⟨(some b41), none, (.op (.mv (.t b10)))⟩, ⟨(some b42), none, (.op (.bin .sub (.t b41) (.c (.i .i64 1))))⟩, ⟨(some b43), none, (.op (.mv (.t b1)))⟩, ⟨(some b44), none, (.op (.mv (.t b10)))⟩, ⟨(some b45), none, (.op (.bin .sub (.t b44) (.c (.i .i64 1))))⟩, ⟨(some b46), none, (.op (.ixs 9 (.t b43) (.t b45)))⟩, ⟨(some b47), none, (.op (.ld (some 9) (.t b46)))⟩, ⟨(some b48), none, (.op (.mv (.t b1)))⟩, ⟨(some b49), none, (.op (.mv (.t b10)))⟩, ⟨(some b50), none, (.op (.ixs 9 (.t b48) (.t b49)))⟩, ⟨(some b51), none, (.op (.ld (some 9) (.t b50)))⟩, ⟨(some b52), none, (.op (.ixs 9 (.t b38) (.t b39)))⟩, ⟨none, none, (.op (.st 9 (.t b52) (.t b47)))⟩, ⟨(some b53), none, (.op (.ixs 9 (.t b40) (.t b42)))⟩, ⟨none, none, (.op (.st 9 (.t b53) (.t b51)))⟩] [(2, 15), (3, 15), (4, 15)]))
 (.rg [⟨(some b36), none, (.op (.mv (.t b10)))⟩, ⟨(some b37), none, (.op (.bin .sub (.t b36) (.c (.i .i64 1))))⟩, ⟨(some b10), none, (.op (.mv (.t b37)))⟩])))))))
 (.rg [⟨(some b16), none, (.op (.mv (.t b9)))⟩, ⟨(some b17), none, (.op (.bin .add (.t b16) (.c (.i .i64 1))))⟩, ⟨(some b9), none, (.op (.mv (.t b17)))⟩])))))), [], 53⟩

/-- slices.insertionSortCmpFunc[zellige/api.Place] -/
noncomputable def k126 : FnT := ⟨(.seq (.rg [⟨(some b11), none, (.op (.mv (.t b2)))⟩, ⟨(some b12), none, (.op (.bin .add (.t b11) (.c (.i .i64 1))))⟩, ⟨(some b9), none, (.op (.mv (.t b12)))⟩])
 (.block 0 (.loop (.seq (.seq (.rg [⟨(some b13), none, (.op (.mv (.t b9)))⟩, ⟨(some b14), none, (.op (.mv (.t b3)))⟩, ⟨(some b15), none, (.op (.bin .lss (.t b13) (.t b14)))⟩])
 (.cond (.t b15) .skip (.exit 0)))
 (.seq (.block 1 (.seq (.rg [⟨(some b18), none, (.op (.mv (.t b9)))⟩, ⟨(some b10), none, (.op (.mv (.t b18)))⟩])
 (.block 2 (.loop (.seq (.seq (.rd [⟨(some b19), none, (.op (.mv (.t b10)))⟩, ⟨(some b20), none, (.op (.mv (.t b2)))⟩, ⟨(some b21), none, (.op (.bin .gtr (.t b19) (.t b20)))⟩, ⟨(some b22), none, (.op (.mv (.t b21)))⟩, ⟨(some b23), (some (b22, true)), (.op (.mv (.t b4)))⟩, ⟨(some b24), (some (b22, true)), (.op (.mv (.t b1)))⟩, ⟨(some b25), (some (b22, true)), (.op (.mv (.t b10)))⟩, ⟨(some b26), (some (b22, true)), (.op (.ixs 3 (.t b24) (.t b25)))⟩, ⟨(some b27), (some (b22, true)), (.op (.ld (some 3) (.t b26)))⟩, ⟨(some b28), (some (b22, true)), (.op (.mv (.t b1)))⟩, ⟨(some b29), (some (b22, true)), (.op (.mv (.t b10)))⟩, ⟨(some b30), (some (b22, true)), (.op (.bin .sub (.t b29) (.c (.i .i64 1))))⟩, ⟨(some b31), (some (b22, true)), (.op (.ixs 3 (.t b28) (.t b30)))⟩, ⟨(some b32), (some (b22, true)), (.op (.ld (some 3) (.t b31)))⟩, ⟨(some b33), (some (b22, true)), (.call false (.t b23) [(.t b27), (.t b32)])⟩, ⟨(some b34), (some (b22, true)), (.op (.bin .lss (.t b33) (.c (.i .i64 0))))⟩, ⟨(some b35), none, (.op (.pick (.t b22) (.t b34) (.c (.b false))))⟩] [])
 (.cond (.t b35) .skip (.exit 2)))
 (.seq (.block 3 (.rd [⟨(some b38), none, (.op (.mv (.t b1)))⟩, ⟨(some b39), none, (.op (.mv (.t b10)))⟩, ⟨(some b40), none, (.op (.mv (.t b1)))⟩, ⟨(some b41), none, (.op (.mv (.t b10)))⟩, ⟨(some b42), none, (.op (.bin .sub (.t b41) (.c (.i .i64 1))))⟩, ⟨(some b43), none, (.op (.mv (.t b1)))⟩, ⟨(some b44), none, (.op (.mv (.t b10)))⟩, ⟨(some b45), none, (.op (.bin .sub (.t b44) (.c (.i .i64 1))))⟩, ⟨(some b46), none, (.op (.ixs 3 (.t b43) (.t b45)))⟩, ⟨(some b47), none, (.op (.ld (some 3) (.t b46)))⟩, ⟨(some b48), none, (.op (.mv (.t b1)))⟩, ⟨(some b49), none, (.op (.mv (.t b10)))⟩, ⟨(some b50), none, (.op (.ixs 3 (.t b48) (.t b49)))⟩, ⟨(some b51), none, (.op (.ld (some 3) (.t b50)))⟩, ⟨(some b52), none, (.op (.ixs 3 (.t b38) (.t b39)))⟩, ⟨none, none, (.op (.st 3 (.t b52) (.t b47)))⟩, ⟨(some b53), none, (.op (.ixs 3 (.t b40) (.t b42)))⟩, ⟨none, none, (.op (.st 3 (.t b53) (.t b51)))⟩] [(2, 15), (3, 15), (4, 15)]))
 (.rg [⟨(some b36), none, (.op (.mv (.t b10)))⟩, ⟨(some b37), none, (.op (.bin .sub (.t b36) (.c (.i .i64 1))))⟩, ⟨(some b10), none, (.op (.mv (.t b37)))⟩])))))))
 (.rg [⟨(some b16), none, (.op (.mv (.t b9)))⟩, ⟨(some b17), none, (.op (.bin .add (.t b16) (.c (.i .i64 1))))⟩, ⟨(some b9), none, (.op (.mv (.t b17)))⟩])))))), [], 53⟩
/-- internal/strconv.small -/
noncomputable def k163 : FnT := ⟨(.seq (.rg [⟨(some b3), none, (.op (.mv (.c (.s []))))⟩])
 (.seq (.seq (.rg [⟨(some b4), none, (.op (.mv (.t b1)))⟩, ⟨(some b5), none, (.op (.bin .lss (.t b4) (.c (.i .i64 10))))⟩])
 (.cond (.t b5) (.seq (.rg [⟨(some b6), none, (.op (.mv (.t b1)))⟩, ⟨(some b7), none, (.op (.mv (.t b1)))⟩, ⟨(some b8), none, (.op (.bin .add (.t b7) (.c (.i .i64 1))))⟩, ⟨(some b9), none, (.op (.cuts (.c (.s [48, 49, 50, 51, 52, 53, 54, 55, 56, 57, 97, 98, 99, 100, 101, 102, 103, 104, 105, 106, 107, 108, 109, 110, 111, 112, 113, 114, 115, 116, 117, 118, 119, 120, 121, 122])) (some (.t b6)) (some (.t b8))))⟩, ⟨(some b3), none, (.op (.mv (.t b9)))⟩])
 .ret) .skip))
 (.seq (.rg [⟨(some b10), none, (.op (.mv (.t b1)))⟩, ⟨(some b11), none, (.op (.bin .mul (.t b10) (.c (.i .i64 2))))⟩, ⟨(some b12), none, (.op (.mv (.t b1)))⟩, ⟨(some b13), none, (.op (.bin .mul (.t b12) (.c (.i .i64 2))))⟩, ⟨(some b14), none, (.op (.bin .add (.t b13) (.c (.i .i64 2))))⟩, ⟨(some b15), none, (.op (.cuts (.c (.s [48, 48, 48, 49, 48, 50, 48, 51, 48, 52, 48, 53, 48, 54, 48, 55, 48, 56, 48, 57, 49, 48, 49, 49, 49, 50, 49, 51, 49, 52, 49, 53, 49, 54, 49, 55, 49, 56, 49, 57, 50, 48, 50, 49, 50, 50, 50, 51, 50, 52, 50, 53, 50, 54, 50, 55, 50, 56, 50, 57, 51, 48, 51, 49, 51, 50, 51, 51, 51, 52, 51, 53, 51, 54, 51, 55, 51, 56, 51, 57, 52, 48, 52, 49, 52, 50, 52, 51, 52, 52, 52, 53, 52, 54, 52, 55, 52, 56, 52, 57, 53, 48, 53, 49, 53, 50, 53, 51, 53, 52, 53, 53, 53, 54, 53, 55, 53, 56, 53, 57, 54, 48, 54, 49, 54, 50, 54, 51, 54, 52, 54, 53, 54, 54, 54, 55, 54, 56, 54, 57, 55, 48, 55, 49, 55, 50, 55, 51, 55, 52, 55, 53, 55, 54, 55, 55, 55, 56, 55, 57, 56, 48, 56, 49, 56, 50, 56, 51, 56, 52, 56, 53, 56, 54, 56, 55, 56, 56, 56, 57, 57, 48, 57, 49, 57, 50, 57, 51, 57, 52, 57, 53, 57, 54, 57, 55, 57, 56, 57, 57])) (some (.t b11)) (some (.t b14))))⟩, ⟨(some b3), none, (.op (.mv (.t b15)))⟩])
 .ret))), [(.t b3)], 15⟩

noncomputable def tab : Tr FnT := (.n (.n (.n (.n (.n (.n .e (some k31) .e) (some k15) .e) (some k7) (.n (.n (.n .e (some k71) .e) none (.n .e (some k103) .e)) (some k23) (.n .e (some k55) .e))) none (.n (.n (.n (.n .e (some k67) .e) none (.n (.n .e (some k163) .e) none .e)) none (.n .e none (.n .e (some k115) .e))) none (.n (.n .e (some k43) .e) (some k27) .e))) none (.n (.n (.n .e (some k17) (.n (.n .e (some k81) .e) (some k49) .e)) (some k9) (.n (.n (.n .e (some k73) .e) (some k41) .e) none (.n .e (some k57) .e))) none (.n (.n (.n .e (some k37) .e) none (.n .e (some k53) .e)) none (.n .e (some k29) (.n (.n .e (some k93) .e) none .e))))) none (.n (.n (.n (.n .e (some k16) (.n (.n .e (some k80) .e) (some k48) .e)) none (.n (.n (.n .e (some k72) .e) (some k40) .e) (some k24) .e)) (some k4) (.n (.n .e none (.n .e (some k52) .e)) none (.n (.n (.n .e (some k76) .e) none .e) (some k28) .e))) none (.n (.n (.n .e (some k18) (.n (.n .e (some k82) .e) (some k50) .e)) (some k10) (.n (.n .e (some k42) .e) (some k26) .e)) none (.n (.n .e none (.n .e (some k54) .e)) none (.n (.n (.n .e (some k78) .e) (some k46) (.n .e (some k110) .e)) (some k30) (.n .e none (.n .e (some k126) .e)))))))
theorem k4_ok : FnOK Go.Proofs.Tryz.prog 4 k4 := ⟨⟨Go.Proofs.Tryz.f4, bodyC Go.Proofs.Tryz.f4, hintL [], by kernel_rfl, by kernel_rfl, by kernel_rfl, by kernel_rfl, by kernel_rfl, by kernel_rfl⟩⟩
theorem k7_ok : FnOK Go.Proofs.Tryz.prog 7 k7 := ⟨⟨Go.Proofs.Tryz.f7, bodyC Go.Proofs.Tryz.f7, hintL [], by kernel_rfl, by kernel_rfl, by kernel_rfl, by kernel_rfl, by kernel_rfl, by kernel_rfl⟩⟩
theorem k9_ok : FnOK Go.Proofs.Tryz.prog 9 k9 := ⟨⟨Go.Proofs.Tryz.f9, bodyC Go.Proofs.Tryz.f9, hintL [], by kernel_rfl, by kernel_rfl, by kernel_rfl, by kernel_rfl, by kernel_rfl, by kernel_rfl⟩⟩
theorem k10_ok : FnOK Go.Proofs.Tryz.prog 10 k10 := ⟨⟨Go.Proofs.Tryz.f10, bodyC Go.Proofs.Tryz.f10, hintL [], by kernel_rfl, by kernel_rfl, by kernel_rfl, by kernel_rfl, by kernel_rfl, by kernel_rfl⟩⟩
theorem k15_ok : FnOK Go.Proofs.Tryz.prog 15 k15 := ⟨⟨Go.Proofs.Tryz.f15, bodyC Go.Proofs.Tryz.f15, hintL [], by kernel_rfl, by kernel_rfl, by kernel_rfl, by kernel_rfl, by kernel_rfl, by kernel_rfl⟩⟩
theorem k16_ok : FnOK Go.Proofs.Tryz.prog 16 k16 := ⟨⟨Go.Proofs.Tryz.f16, bodyC Go.Proofs.Tryz.f16, hintL [], by kernel_rfl, by kernel_rfl, by kernel_rfl, by kernel_rfl, by kernel_rfl, by kernel_rfl⟩⟩
theorem k17_ok : FnOK Go.Proofs.Tryz.prog 17 k17 := ⟨⟨Go.Proofs.Tryz.f17, bodyC Go.Proofs.Tryz.f17, hintL [], by kernel_rfl, by kernel_rfl, by kernel_rfl, by kernel_rfl, by kernel_rfl, by kernel_rfl⟩⟩
theorem k18_ok : FnOK Go.Proofs.Tryz.prog 18 k18 := ⟨⟨Go.Proofs.Tryz.f18, bodyC Go.Proofs.Tryz.f18, hintL [], by kernel_rfl, by kernel_rfl, by kernel_rfl, by kernel_rfl, by kernel_rfl, by kernel_rfl⟩⟩
theorem k23_ok : FnOK Go.Proofs.Tryz.prog 23 k23 := ⟨⟨Go.Proofs.Tryz.f23, bodyC Go.Proofs.Tryz.f23, hintL [], by kernel_rfl, by kernel_rfl, by kernel_rfl, by kernel_rfl, by kernel_rfl, by kernel_rfl⟩⟩
theorem k24_ok : FnOK Go.Proofs.Tryz.prog 24 k24 := ⟨⟨Go.Proofs.Tryz.f24, bodyC Go.Proofs.Tryz.f24, hintL [], by kernel_rfl, by kernel_rfl, by kernel_rfl, by kernel_rfl, by kernel_rfl, by kernel_rfl⟩⟩
theorem k26_ok : FnOK Go.Proofs.Tryz.prog 26 k26 := ⟨⟨Go.Proofs.Tryz.f26, bodyC Go.Proofs.Tryz.f26, hintL [6, 11], by kernel_rfl, by kernel_rfl, by kernel_rfl, by kernel_rfl, by kernel_rfl, by kernel_rfl⟩⟩
theorem k27_ok : FnOK Go.Proofs.Tryz.prog 27 k27 := ⟨⟨Go.Proofs.Tryz.f27, bodyC Go.Proofs.Tryz.f27, hintL [], by kernel_rfl, by kernel_rfl, by kernel_rfl, by kernel_rfl, by kernel_rfl, by kernel_rfl⟩⟩
theorem k28_ok : FnOK Go.Proofs.Tryz.prog 28 k28 := ⟨⟨Go.Proofs.Tryz.f28, bodyC Go.Proofs.Tryz.f28, hintL [], by kernel_rfl, by kernel_rfl, by kernel_rfl, by kernel_rfl, by kernel_rfl, by kernel_rfl⟩⟩
theorem k29_ok : FnOK Go.Proofs.Tryz.prog 29 k29 := ⟨⟨Go.Proofs.Tryz.f29, bodyC Go.Proofs.Tryz.f29, hintL [], by kernel_rfl, by kernel_rfl, by kernel_rfl, by kernel_rfl, by kernel_rfl, by kernel_rfl⟩⟩
theorem k30_ok : FnOK Go.Proofs.Tryz.prog 30 k30 := ⟨⟨Go.Proofs.Tryz.f30, bodyC Go.Proofs.Tryz.f30, hintL [], by kernel_rfl, by kernel_rfl, by kernel_rfl, by kernel_rfl, by kernel_rfl, by kernel_rfl⟩⟩
theorem k31_ok : FnOK Go.Proofs.Tryz.prog 31 k31 := ⟨⟨Go.Proofs.Tryz.f31, bodyC Go.Proofs.Tryz.f31, hintL [10], by kernel_rfl, by kernel_rfl, by kernel_rfl, by kernel_rfl, by kernel_rfl, by kernel_rfl⟩⟩
theorem k37_ok : FnOK Go.Proofs.Tryz.prog 37 k37 := ⟨⟨Go.Proofs.Tryz.f37, bodyC Go.Proofs.Tryz.f37, hintL [], by kernel_rfl, by kernel_rfl, by kernel_rfl, by kernel_rfl, by kernel_rfl, by kernel_rfl⟩⟩
theorem k40_ok : FnOK Go.Proofs.Tryz.prog 40 k40 := ⟨⟨Go.Proofs.Tryz.f40, bodyC Go.Proofs.Tryz.f40, hintL [], by kernel_rfl, by kernel_rfl, by kernel_rfl, by kernel_rfl, by kernel_rfl, by kernel_rfl⟩⟩
theorem k41_ok : FnOK Go.Proofs.Tryz.prog 41 k41 := ⟨⟨Go.Proofs.Tryz.f41, bodyC Go.Proofs.Tryz.f41, hintL [], by kernel_rfl, by kernel_rfl, by kernel_rfl, by kernel_rfl, by kernel_rfl, by kernel_rfl⟩⟩
theorem k42_ok : FnOK Go.Proofs.Tryz.prog 42 k42 := ⟨⟨Go.Proofs.Tryz.f42, bodyC Go.Proofs.Tryz.f42, hintL [], by kernel_rfl, by kernel_rfl, by kernel_rfl, by kernel_rfl, by kernel_rfl, by kernel_rfl⟩⟩
theorem k43_ok : FnOK Go.Proofs.Tryz.prog 43 k43 := ⟨⟨Go.Proofs.Tryz.f43, bodyC Go.Proofs.Tryz.f43, hintL [], by kernel_rfl, by kernel_rfl, by kernel_rfl, by kernel_rfl, by kernel_rfl, by kernel_rfl⟩⟩
theorem k46_ok : FnOK Go.Proofs.Tryz.prog 46 k46 := ⟨⟨Go.Proofs.Tryz.f46, bodyC Go.Proofs.Tryz.f46, hintL [], by kernel_rfl, by kernel_rfl, by kernel_rfl, by kernel_rfl, by kernel_rfl, by kernel_rfl⟩⟩
theorem k48_ok : FnOK Go.Proofs.Tryz.prog 48 k48 := ⟨⟨Go.Proofs.Tryz.f48, bodyC Go.Proofs.Tryz.f48, hintL [], by kernel_rfl, by kernel_rfl, by kernel_rfl, by kernel_rfl, by kernel_rfl, by kernel_rfl⟩⟩
theorem k49_ok : FnOK Go.Proofs.Tryz.prog 49 k49 := ⟨⟨Go.Proofs.Tryz.f49, bodyC Go.Proofs.Tryz.f49, hintL [], by kernel_rfl, by kernel_rfl, by kernel_rfl, by kernel_rfl, by kernel_rfl, by kernel_rfl⟩⟩
theorem k50_ok : FnOK Go.Proofs.Tryz.prog 50 k50 := ⟨⟨Go.Proofs.Tryz.f50, bodyC Go.Proofs.Tryz.f50, hintL [], by kernel_rfl, by kernel_rfl, by kernel_rfl, by kernel_rfl, by kernel_rfl, by kernel_rfl⟩⟩
theorem k52_ok : FnOK Go.Proofs.Tryz.prog 52 k52 := ⟨⟨Go.Proofs.Tryz.f52, bodyC Go.Proofs.Tryz.f52, hintL [8], by kernel_rfl, by kernel_rfl, by kernel_rfl, by kernel_rfl, by kernel_rfl, by kernel_rfl⟩⟩
theorem k53_ok : FnOK Go.Proofs.Tryz.prog 53 k53 := ⟨⟨Go.Proofs.Tryz.f53, bodyC Go.Proofs.Tryz.f53, hintL [], by kernel_rfl, by kernel_rfl, by kernel_rfl, by kernel_rfl, by kernel_rfl, by kernel_rfl⟩⟩
theorem k54_ok : FnOK Go.Proofs.Tryz.prog 54 k54 := ⟨⟨Go.Proofs.Tryz.f54, bodyC Go.Proofs.Tryz.f54, hintL [], by kernel_rfl, by kernel_rfl, by kernel_rfl, by kernel_rfl, by kernel_rfl, by kernel_rfl⟩⟩
theorem k55_ok : FnOK Go.Proofs.Tryz.prog 55 k55 := ⟨⟨Go.Proofs.Tryz.f55, bodyC Go.Proofs.Tryz.f55, hintL [], by kernel_rfl, by kernel_rfl, by kernel_rfl, by kernel_rfl, by kernel_rfl, by kernel_rfl⟩⟩
theorem k57_ok : FnOK Go.Proofs.Tryz.prog 57 k57 := ⟨⟨Go.Proofs.Tryz.f57, bodyC Go.Proofs.Tryz.f57, hintL [], by kernel_rfl, by kernel_rfl, by kernel_rfl, by kernel_rfl, by kernel_rfl, by kernel_rfl⟩⟩
theorem k67_ok : FnOK Go.Proofs.Tryz.prog 67 k67 := ⟨⟨Go.Proofs.Tryz.f67, bodyC Go.Proofs.Tryz.f67, hintL [], by kernel_rfl, by kernel_rfl, by kernel_rfl, by kernel_rfl, by kernel_rfl, by kernel_rfl⟩⟩
theorem k71_ok : FnOK Go.Proofs.Tryz.prog 71 k71 := ⟨⟨Go.Proofs.Tryz.f71, bodyC Go.Proofs.Tryz.f71, hintL [], by kernel_rfl, by kernel_rfl, by kernel_rfl, by kernel_rfl, by kernel_rfl, by kernel_rfl⟩⟩
theorem k72_ok : FnOK Go.Proofs.Tryz.prog 72 k72 := ⟨⟨Go.Proofs.Tryz.f72, bodyC Go.Proofs.Tryz.f72, hintL [], by kernel_rfl, by kernel_rfl, by kernel_rfl, by kernel_rfl, by kernel_rfl, by kernel_rfl⟩⟩
theorem k73_ok : FnOK Go.Proofs.Tryz.prog 73 k73 := ⟨⟨Go.Proofs.Tryz.f73, bodyC Go.Proofs.Tryz.f73, hintL [], by kernel_rfl, by kernel_rfl, by kernel_rfl, by kernel_rfl, by kernel_rfl, by kernel_rfl⟩⟩
theorem k76_ok : FnOK Go.Proofs.Tryz.prog 76 k76 := ⟨⟨Go.Proofs.Tryz.f76, bodyC Go.Proofs.Tryz.f76, hintL [], by kernel_rfl, by kernel_rfl, by kernel_rfl, by kernel_rfl, by kernel_rfl, by kernel_rfl⟩⟩
theorem k78_ok : FnOK Go.Proofs.Tryz.prog 78 k78 := ⟨⟨Go.Proofs.Tryz.f78, bodyC Go.Proofs.Tryz.f78, hintL [], by kernel_rfl, by kernel_rfl, by kernel_rfl, by kernel_rfl, by kernel_rfl, by kernel_rfl⟩⟩
theorem k80_ok : FnOK Go.Proofs.Tryz.prog 80 k80 := ⟨⟨Go.Proofs.Tryz.f80, bodyC Go.Proofs.Tryz.f80, hintL [], by kernel_rfl, by kernel_rfl, by kernel_rfl, by kernel_rfl, by kernel_rfl, by kernel_rfl⟩⟩
theorem k81_ok : FnOK Go.Proofs.Tryz.prog 81 k81 := ⟨⟨Go.Proofs.Tryz.f81, bodyC Go.Proofs.Tryz.f81, hintL [], by kernel_rfl, by kernel_rfl, by kernel_rfl, by kernel_rfl, by kernel_rfl, by kernel_rfl⟩⟩
theorem k82_ok : FnOK Go.Proofs.Tryz.prog 82 k82 := ⟨⟨Go.Proofs.Tryz.f82, bodyC Go.Proofs.Tryz.f82, hintL [], by kernel_rfl, by kernel_rfl, by kernel_rfl, by kernel_rfl, by kernel_rfl, by kernel_rfl⟩⟩
theorem k93_ok : FnOK Go.Proofs.Tryz.prog 93 k93 := ⟨⟨Go.Proofs.Tryz.f93, bodyC Go.Proofs.Tryz.f93, hintL [], by kernel_rfl, by kernel_rfl, by kernel_rfl, by kernel_rfl, by kernel_rfl, by kernel_rfl⟩⟩
theorem k103_ok : FnOK Go.Proofs.Tryz.prog 103 k103 := ⟨⟨Go.Proofs.Tryz.f103, bodyC Go.Proofs.Tryz.f103, hintL [], by kernel_rfl, by kernel_rfl, by kernel_rfl, by kernel_rfl, by kernel_rfl, by kernel_rfl⟩⟩
theorem k110_ok : FnOK Go.Proofs.Tryz.prog 110 k110 := ⟨⟨Go.Proofs.Tryz.f110, bodyC Go.Proofs.Tryz.f110, hintL [], by kernel_rfl, by kernel_rfl, by kernel_rfl, by kernel_rfl, by kernel_rfl, by kernel_rfl⟩⟩
theorem k115_ok : FnOK Go.Proofs.Tryz.prog 115 k115 := ⟨⟨Go.Proofs.Tryz.f115, bodyC Go.Proofs.Tryz.f115, hintL [], by kernel_rfl, by kernel_rfl, by kernel_rfl, by kernel_rfl, by kernel_rfl, by kernel_rfl⟩⟩
theorem k126_ok : FnOK Go.Proofs.Tryz.prog 126 k126 := ⟨⟨Go.Proofs.Tryz.f126, bodyC Go.Proofs.Tryz.f126, hintL [], by kernel_rfl, by kernel_rfl, by kernel_rfl, by kernel_rfl, by kernel_rfl, by kernel_rfl⟩⟩
theorem k163_ok : FnOK Go.Proofs.Tryz.prog 163 k163 := ⟨⟨Go.Proofs.Tryz.f163, bodyC Go.Proofs.Tryz.f163, hintL [], by kernel_rfl, by kernel_rfl, by kernel_rfl, by kernel_rfl, by kernel_rfl, by kernel_rfl⟩⟩
theorem tab_ok : TabOK Go.Proofs.Tryz.prog tab := tabOK_of ⟨trivial, ⟨trivial, ⟨trivial, ⟨k7_ok, ⟨k15_ok, ⟨k31_ok, trivial, trivial⟩, trivial⟩, ⟨k23_ok, ⟨trivial, ⟨k71_ok, trivial, trivial⟩, ⟨k103_ok, trivial, trivial⟩⟩, ⟨k55_ok, trivial, trivial⟩⟩⟩, ⟨trivial, ⟨trivial, ⟨trivial, ⟨k67_ok, trivial, trivial⟩, ⟨trivial, ⟨k163_ok, trivial, trivial⟩, trivial⟩⟩, ⟨trivial, trivial, ⟨k115_ok, trivial, trivial⟩⟩⟩, ⟨k27_ok, ⟨k43_ok, trivial, trivial⟩, trivial⟩⟩⟩, ⟨trivial, ⟨k9_ok, ⟨k17_ok, trivial, ⟨k49_ok, ⟨k81_ok, trivial, trivial⟩, trivial⟩⟩, ⟨trivial, ⟨k41_ok, ⟨k73_ok, trivial, trivial⟩, trivial⟩, ⟨k57_ok, trivial, trivial⟩⟩⟩, ⟨trivial, ⟨trivial, ⟨k37_ok, trivial, trivial⟩, ⟨k53_ok, trivial, trivial⟩⟩, ⟨k29_ok, trivial, ⟨trivial, ⟨k93_ok, trivial, trivial⟩, trivial⟩⟩⟩⟩⟩, ⟨trivial, ⟨k4_ok, ⟨trivial, ⟨k16_ok, trivial, ⟨k48_ok, ⟨k80_ok, trivial, trivial⟩, trivial⟩⟩, ⟨k24_ok, ⟨k40_ok, ⟨k72_ok, trivial, trivial⟩, trivial⟩, trivial⟩⟩, ⟨trivial, ⟨trivial, trivial, ⟨k52_ok, trivial, trivial⟩⟩, ⟨k28_ok, ⟨trivial, ⟨k76_ok, trivial, trivial⟩, trivial⟩, trivial⟩⟩⟩, ⟨trivial, ⟨k10_ok, ⟨k18_ok, trivial, ⟨k50_ok, ⟨k82_ok, trivial, trivial⟩, trivial⟩⟩, ⟨k26_ok, ⟨k42_ok, trivial, trivial⟩, trivial⟩⟩, ⟨trivial, ⟨trivial, trivial, ⟨k54_ok, trivial, trivial⟩⟩, ⟨k30_ok, ⟨k46_ok, ⟨k78_ok, trivial, trivial⟩, ⟨k110_ok, trivial, trivial⟩⟩, ⟨trivial, trivial, ⟨k126_ok, trivial, trivial⟩⟩⟩⟩⟩⟩⟩
end Go.Za.Td25
