/- What is found in a made lookup table, in it and after a change, and whether it is right, is what the reference says, for every input. -/
import Derived.Test.YtjgooecohepkoaaGreatDoorSAO
import Derived.Test.YtjgooecohepkoaaGreatDoorCards
import Derived.Test.YtjgooecohepkoaaGreatDoorTie
import Derived.SevenTiedAt
set_option linter.unusedVariables false
set_option linter.unusedSimpArgs false
namespace Go.Proofs.YtjgooecohepkoaaGreatDoor
open Go Go.Abs
theorem finds_card_holds : Rows.TableFindsCardSaid :=
  Claim7.holds_tied_plain_at .later [] [.data] true (true, "424d2ef1fac29d3a3a7555e3a9ba6708ac9c5cceebe91d9482880aeae6dd36b8") false
    finds_holds (fun _ h => by cases h) (by kernel_rfl) (fun _ h => by cases h) tableFinds_row_tie rfl ⟨rfl, rfl⟩ (by kernel_rfl) rfl
    (fun f fn hf hfn => by
      obtain rfl : f = 3 := Option.some.inj ((show Tryz.prog.funcNamed Rows.tableFindsRow.func = some 3 by kernel_rfl).symm.trans hf) |>.symm
      obtain rfl : fn = Tryz.f3 := (Option.some.inj (fu3.symm.trans hfn)).symm
      exact ⟨by kernel_rfl, fun j t ht => by
        rw [pr3] at ht
        have hm : t ∈ [22, 23, 23] := by simpa using Array.mem_of_getElem? ht
        have hall : ([22, 23, 23].all fun u => !Tryz.prog.wantsStandIn u) = true := by kernel_rfl
        exact (show Tryz.prog.wantsStandIn t = false by simpa using List.all_eq_true.1 hall t hm)⟩)
    (by kernel_rfl)
#print axioms finds_card_holds
end Go.Proofs.YtjgooecohepkoaaGreatDoor
