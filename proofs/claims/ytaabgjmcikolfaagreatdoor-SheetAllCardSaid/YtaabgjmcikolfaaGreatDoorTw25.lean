/- No condition. -/
import Derived.Test.YtaabgjmcikolfaaGreatDoorTv25
namespace Go.Proofs.YtaabgjmcikolfaaGreatDoor
open Go.ChangeShapes Go.WideShapes Go.ChangeAt Go.RowKit
theorem sheetAll_card : Rows.SheetAllCardSaid :=
  Claim7.holds_tied_plain_at .later [] [.data, .data, .data] true (true, "24025cc071cbbc7658646a4303fd07c069c66ccc5f32da4e576c5387c582788a") true
    sheetAll_row (fun _ h => by cases h) (by kernel_rfl) (fun _ h => by cases h) sheetAll_row_tie rfl ⟨rfl, rfl⟩ (by kernel_rfl) rfl
    (fun f fn hf hfn => by
      obtain rfl : f = 4 := Option.some.inj ((show Tryz.prog.funcNamed "zellige/zelligelaw25.SheetAll" = some 4 by kernel_rfl).symm.trans hf) |>.symm
      obtain rfl : fn = Tryz.f4 := (Option.some.inj (Tryz.func4.symm.trans hfn)).symm
      exact ⟨by kernel_rfl, fun j t ht => by
        rw [Tryz.params4] at ht
        have hm : t ∈ [3, 3] := by simpa using Array.mem_of_getElem? ht
        have hall : ([3, 3].all fun u => !Tryz.prog.wantsStandIn u) = true := by kernel_rfl
        exact (show Tryz.prog.wantsStandIn t = false by simpa using List.all_eq_true.1 hall t hm)⟩)
    (by kernel_rfl)
#print axioms sheetAll_card
end Go.Proofs.YtaabgjmcikolfaaGreatDoor
