/- The law TableSets holds whatever its arguments are. -/
import Derived.Test.YtjgooecohepkoaaGreatDoorSAR
import Derived.Test.YtjgooecohepkoaaGreatDoorCards
import Derived.Test.YtjgooecohepkoaaGreatDoorTie
import Derived.SevenTiedAt
set_option linter.unusedVariables false
set_option linter.unusedSimpArgs false
namespace Go.Proofs.YtjgooecohepkoaaGreatDoor
open Go Go.Abs
theorem sets_card_holds : Rows.TableSetsCardSaid :=
  Claim7.holds_tied_plain_at .later [] [.data] true (true, "424d2ef1fac29d3a3a7555e3a9ba6708ac9c5cceebe91d9482880aeae6dd36b8") false
    sets_holds (fun _ h => by cases h) (by kernel_rfl) (fun _ h => by cases h) tableSets_row_tie rfl ⟨rfl, rfl⟩ (by kernel_rfl) rfl
    (fun f fn hf hfn => by
      obtain rfl : f = 8 := Option.some.inj ((show Tryz.prog.funcNamed Rows.tableSetsRow.func = some 8 by kernel_rfl).symm.trans hf) |>.symm
      obtain rfl : fn = Tryz.f8 := (Option.some.inj (fu8.symm.trans hfn)).symm
      exact ⟨by kernel_rfl, fun j t ht => by
        rw [pr8] at ht
        have hm : t ∈ [48, 23, 5] := by simpa using Array.mem_of_getElem? ht
        have hall : ([48, 23, 5].all fun u => !Tryz.prog.wantsStandIn u) = true := by kernel_rfl
        exact (show Tryz.prog.wantsStandIn t = false by simpa using List.all_eq_true.1 hall t hm)⟩)
    (by kernel_rfl)
#print axioms sets_card_holds
end Go.Proofs.YtjgooecohepkoaaGreatDoor
