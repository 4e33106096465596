/- No condition. -/
import Derived.Test.YtaabgjmcikolfaaGreatDoorTd25
set_option maxRecDepth 100000
namespace Go.Za.Td25
theorem lives_run : runP tab 100000 10 [] = some (.b true) := by kernel_rfl
theorem lives_ok : PCall Go.Proofs.Tryz.prog 10 [] (.b true) := runP_ok (by kernel_rfl) tab_ok lives_run
end Go.Za.Td25
