/- For any list of numbers and any three numbers the law ValuesValid returns true and leaves its arguments as they were. CONDITIONS: the five listed variables of the library read as the program text lays them (the card ties them to the text). -/
import Derived.Test.YtmbkcjnjjlkidaaGreatDoorPRow4
import Derived.Test.YtmbkcjnjjlkidaaGreatDoorCards
import Derived.Test.YtmbkcjnjjlkidaaGreatDoorTie
set_option linter.all false
namespace Go.Proofs.YtmbkcjnjjlkidaaGreatDoor
open Go
set_option maxRecDepth 100000
theorem valuesValid_holds : Rows.ValuesValidCardSaid :=
  Claim7.holds_tied_plain_at .later [] [.data, .data, .data, .sentinel, .sentinel] true (true, "0f5b615063af0d1c7b2b7904a292601a522746d7c2037bc8e9d94168d7e41aee") true
    valuesValid.done (fun _ h => by cases h) (by kernel_rfl) (fun _ h => by cases h) valuesValid_row_tie rfl ⟨rfl, rfl⟩ (by kernel_rfl) rfl
    (fun f fn hf hfn => by
      obtain rfl : f = 4 := Option.some.inj ((show Tryz.prog.funcNamed "refuter/refuterlaw10.ValuesValid" = some 4 by kernel_rfl).symm.trans hf) |>.symm
      obtain rfl : fn = Tryz.f4 := (Option.some.inj (Tryz.func4.symm.trans hfn)).symm
      exact ⟨by kernel_rfl, fun j t ht => by
        rw [Tryz.params4] at ht
        have hm : t ∈ [22, 3, 3, 3] := by have := Array.mem_of_getElem? ht; simpa using this
        have hall : ([22, 3, 3, 3].all fun u => !Tryz.prog.wantsStandIn u) = true := by kernel_rfl
        exact (show Tryz.prog.wantsStandIn t = false by simpa using List.all_eq_true.1 hall t hm)⟩)
    (by kernel_rfl)
end Go.Proofs.YtmbkcjnjjlkidaaGreatDoor
