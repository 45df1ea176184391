/- For every input of TableDeps the call returns true and each argument reads afterwards as it read before. Conditions: those of the given row (the package variable decimal.powers holds at the start what the text of the program lays; the card ties it). No other condition. -/
import Derived.Test.YtjgooecohepkoaaGreatDoorSAQ
import Derived.Test.YtjgooecohepkoaaGreatDoorCards
import Derived.Test.YtjgooecohepkoaaGreatDoorTie
import Derived.SevenTiedAt
set_option linter.unusedVariables false
set_option linter.unusedSimpArgs false
namespace Go.Proofs.YtjgooecohepkoaaGreatDoor
open Go Go.Abs
theorem deps_card_holds : Rows.TableDepsCardSaid :=
  Claim7.holds_tied_plain_at .later [] [.data] true (true, "424d2ef1fac29d3a3a7555e3a9ba6708ac9c5cceebe91d9482880aeae6dd36b8") false
    deps_holds (fun _ h => by cases h) (by kernel_rfl) (fun _ h => by cases h) tableDeps_row_tie rfl ⟨rfl, rfl⟩ (by kernel_rfl) rfl
    (fun f fn hf hfn => by
      obtain rfl : f = 6 := Option.some.inj ((show Tryz.prog.funcNamed Rows.tableDepsRow.func = some 6 by kernel_rfl).symm.trans hf) |>.symm
      obtain rfl : fn = Tryz.f6 := (Option.some.inj (fu6.symm.trans hfn)).symm
      exact ⟨by kernel_rfl, fun j t ht => by
        rw [pr6] at ht
        have hm : t ∈ [22, 48, 22] := by simpa using Array.mem_of_getElem? ht
        have hall : ([22, 48, 22].all fun u => !Tryz.prog.wantsStandIn u) = true := by kernel_rfl
        exact (show Tryz.prog.wantsStandIn t = false by simpa using List.all_eq_true.1 hall t hm)⟩)
    (by kernel_rfl)
#print axioms deps_card_holds
end Go.Proofs.YtjgooecohepkoaaGreatDoor
