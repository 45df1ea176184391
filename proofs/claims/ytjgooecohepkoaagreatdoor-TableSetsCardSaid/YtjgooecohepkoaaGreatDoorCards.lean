/-
  DERIVED. GIVEN WITH THE SEED: THE CARDS: each row of YtjgooecohepkoaaGreatDoorRows.lean that lists a variable, with what it lists TIED to the program's text (the seventh form; the later family's looks); each row that meets fmt, with fmt's text TOLD by the authors' own Lean function (tested against real Go, not proved from fmt's source: count such statements apart). THE CARD IS WHAT COUNTS. Prove the row's statement (the work); the ties are given (YtjgooecohepkoaaGreatDoorTie.lean); close each card by the builder's one call (the guide's Derived/Test/ToyasCard.lean, 'card_holds'). Laid BY PROGRAM, IN A SANDBOX (cutbox-door.mjs). By AI agents, Wed Nov 11 2026. No macro, syntax, notation, axiom, sorry.
-/
import Derived.Test.YtjgooecohepkoaaGreatDoorRows
import GoSem.ClaimSeven
namespace Go.Proofs.YtjgooecohepkoaaGreatDoor
namespace Rows

/-- THE TIED CARD OF 'concordlaw09.TableFinds'. -/
def tableFindsCard : Claim7 := { stood := { row := tableFindsRow, standIns := [], harness := (true, "424d2ef1fac29d3a3a7555e3a9ba6708ac9c5cceebe91d9482880aeae6dd36b8"), looks := false }, kinds := [], alts := [], laidByText := true, laidKinds := [.data], laidTests := true, laidLooks := .later }
def TableFindsCardSaid : Prop := Claim7.holds Tryz.pinned (.plain (OpenSpec.ofChange tableFindsSpec)) tableFindsCard

/-- THE TIED CARD OF 'concordlaw09.TableSums'. -/
def tableSumsCard : Claim7 := { stood := { row := tableSumsRow, standIns := [], harness := (true, "424d2ef1fac29d3a3a7555e3a9ba6708ac9c5cceebe91d9482880aeae6dd36b8"), looks := false }, kinds := [], alts := [], laidByText := true, laidKinds := [.data], laidTests := true, laidLooks := .later }
def TableSumsCardSaid : Prop := Claim7.holds Tryz.pinned (.plain (OpenSpec.ofChange tableSumsSpec)) tableSumsCard

/-- THE TIED CARD OF 'concordlaw09.TableImplied'. -/
def tableImpliedCard : Claim7 := { stood := { row := tableImpliedRow, standIns := [], harness := (true, "424d2ef1fac29d3a3a7555e3a9ba6708ac9c5cceebe91d9482880aeae6dd36b8"), looks := false }, kinds := [], alts := [], laidByText := true, laidKinds := [.data], laidTests := true, laidLooks := .later }
def TableImpliedCardSaid : Prop := Claim7.holds Tryz.pinned (.plain (OpenSpec.ofChange tableImpliedSpec)) tableImpliedCard

/-- THE TIED CARD OF 'concordlaw09.TableDeps'. -/
def tableDepsCard : Claim7 := { stood := { row := tableDepsRow, standIns := [], harness := (true, "424d2ef1fac29d3a3a7555e3a9ba6708ac9c5cceebe91d9482880aeae6dd36b8"), looks := false }, kinds := [], alts := [], laidByText := true, laidKinds := [.data], laidTests := true, laidLooks := .later }
def TableDepsCardSaid : Prop := Claim7.holds Tryz.pinned (.plain (OpenSpec.ofChange tableDepsSpec)) tableDepsCard

/-- THE TIED CARD OF 'concordlaw09.TableSelects'. -/
def tableSelectsCard : Claim7 := { stood := { row := tableSelectsRow, standIns := [], harness := (true, "424d2ef1fac29d3a3a7555e3a9ba6708ac9c5cceebe91d9482880aeae6dd36b8"), looks := false }, kinds := [], alts := [], laidByText := true, laidKinds := [.data], laidTests := true, laidLooks := .later }
def TableSelectsCardSaid : Prop := Claim7.holds Tryz.pinned (.plain (OpenSpec.ofChange tableSelectsSpec)) tableSelectsCard

/-- THE TIED CARD OF 'concordlaw09.TableSets'. -/
def tableSetsCard : Claim7 := { stood := { row := tableSetsRow, standIns := [], harness := (true, "424d2ef1fac29d3a3a7555e3a9ba6708ac9c5cceebe91d9482880aeae6dd36b8"), looks := false }, kinds := [], alts := [], laidByText := true, laidKinds := [.data], laidTests := true, laidLooks := .later }
def TableSetsCardSaid : Prop := Claim7.holds Tryz.pinned (.plain (OpenSpec.ofChange tableSetsSpec)) tableSetsCard

/-- THE TIED CARD OF 'concordlaw09.TableJoins'. -/
def tableJoinsCard : Claim7 := { stood := { row := tableJoinsRow, standIns := [], harness := (true, "424d2ef1fac29d3a3a7555e3a9ba6708ac9c5cceebe91d9482880aeae6dd36b8"), looks := false }, kinds := [], alts := [], laidByText := true, laidKinds := [.data, .data, .data, .data, .data, .pinned], laidTests := true, laidLooks := .later }
def TableJoinsCardSaid : Prop := Claim7.holds Tryz.pinned (.plain (OpenSpec.ofChange tableJoinsSpec)) tableJoinsCard

/-- THE TIED CARD OF 'concordlaw09.TableSelf'. -/
def tableSelfCard : Claim7 := { stood := { row := tableSelfRow, standIns := [], harness := (true, "424d2ef1fac29d3a3a7555e3a9ba6708ac9c5cceebe91d9482880aeae6dd36b8"), looks := false }, kinds := [], alts := [], laidByText := true, laidKinds := [.data, .data, .data, .data, .data, .pinned], laidTests := true, laidLooks := .later }
def TableSelfCardSaid : Prop := Claim7.holds Tryz.pinned (.plain (OpenSpec.ofChange tableSelfSpec)) tableSelfCard

/-- THE SECOND FORM's CARD OF 'concordlaw09.TableFinds'. -/
def tableFindsUptoCard : Claim7 := { stood := { row := tableFindsUptoRow, standIns := [], harness := (true, "424d2ef1fac29d3a3a7555e3a9ba6708ac9c5cceebe91d9482880aeae6dd36b8"), looks := false }, kinds := [], alts := [], laidByText := true, laidKinds := [.data], laidTests := true, laidLooks := .later }
def TableFindsUptoCardSaid : Prop := Claim7.holds Tryz.pinned (.plain (OpenSpec.upto tableFindsSpec)) tableFindsUptoCard

/-- THE SECOND FORM's CARD OF 'concordlaw09.TableSums'. -/
def tableSumsUptoCard : Claim7 := { stood := { row := tableSumsUptoRow, standIns := [], harness := (true, "424d2ef1fac29d3a3a7555e3a9ba6708ac9c5cceebe91d9482880aeae6dd36b8"), looks := false }, kinds := [], alts := [], laidByText := true, laidKinds := [.data], laidTests := true, laidLooks := .later }
def TableSumsUptoCardSaid : Prop := Claim7.holds Tryz.pinned (.plain (OpenSpec.upto tableSumsSpec)) tableSumsUptoCard

/-- THE SECOND FORM's CARD OF 'concordlaw09.TableImplied'. -/
def tableImpliedUptoCard : Claim7 := { stood := { row := tableImpliedUptoRow, standIns := [], harness := (true, "424d2ef1fac29d3a3a7555e3a9ba6708ac9c5cceebe91d9482880aeae6dd36b8"), looks := false }, kinds := [], alts := [], laidByText := true, laidKinds := [.data], laidTests := true, laidLooks := .later }
def TableImpliedUptoCardSaid : Prop := Claim7.holds Tryz.pinned (.plain (OpenSpec.upto tableImpliedSpec)) tableImpliedUptoCard

/-- THE SECOND FORM's CARD OF 'concordlaw09.TableDeps'. -/
def tableDepsUptoCard : Claim7 := { stood := { row := tableDepsUptoRow, standIns := [], harness := (true, "424d2ef1fac29d3a3a7555e3a9ba6708ac9c5cceebe91d9482880aeae6dd36b8"), looks := false }, kinds := [], alts := [], laidByText := true, laidKinds := [.data], laidTests := true, laidLooks := .later }
def TableDepsUptoCardSaid : Prop := Claim7.holds Tryz.pinned (.plain (OpenSpec.upto tableDepsSpec)) tableDepsUptoCard

/-- THE SECOND FORM's CARD OF 'concordlaw09.TableSelects'. -/
def tableSelectsUptoCard : Claim7 := { stood := { row := tableSelectsUptoRow, standIns := [], harness := (true, "424d2ef1fac29d3a3a7555e3a9ba6708ac9c5cceebe91d9482880aeae6dd36b8"), looks := false }, kinds := [], alts := [], laidByText := true, laidKinds := [.data], laidTests := true, laidLooks := .later }
def TableSelectsUptoCardSaid : Prop := Claim7.holds Tryz.pinned (.plain (OpenSpec.upto tableSelectsSpec)) tableSelectsUptoCard

/-- THE SECOND FORM's CARD OF 'concordlaw09.TableSets'. -/
def tableSetsUptoCard : Claim7 := { stood := { row := tableSetsUptoRow, standIns := [], harness := (true, "424d2ef1fac29d3a3a7555e3a9ba6708ac9c5cceebe91d9482880aeae6dd36b8"), looks := false }, kinds := [], alts := [], laidByText := true, laidKinds := [.data], laidTests := true, laidLooks := .later }
def TableSetsUptoCardSaid : Prop := Claim7.holds Tryz.pinned (.plain (OpenSpec.upto tableSetsSpec)) tableSetsUptoCard

/-- THE SECOND FORM's CARD OF 'concordlaw09.TableJoins'. -/
def tableJoinsUptoCard : Claim7 := { stood := { row := tableJoinsUptoRow, standIns := [], harness := (true, "424d2ef1fac29d3a3a7555e3a9ba6708ac9c5cceebe91d9482880aeae6dd36b8"), looks := false }, kinds := [], alts := [], laidByText := true, laidKinds := [.data, .data, .data, .data, .data, .pinned], laidTests := true, laidLooks := .later }
def TableJoinsUptoCardSaid : Prop := Claim7.holds Tryz.pinned (.plain (OpenSpec.upto tableJoinsSpec)) tableJoinsUptoCard

/-- THE SECOND FORM's CARD OF 'concordlaw09.TableSelf'. -/
def tableSelfUptoCard : Claim7 := { stood := { row := tableSelfUptoRow, standIns := [], harness := (true, "424d2ef1fac29d3a3a7555e3a9ba6708ac9c5cceebe91d9482880aeae6dd36b8"), looks := false }, kinds := [], alts := [], laidByText := true, laidKinds := [.data, .data, .data, .data, .data, .pinned], laidTests := true, laidLooks := .later }
def TableSelfUptoCardSaid : Prop := Claim7.holds Tryz.pinned (.plain (OpenSpec.upto tableSelfSpec)) tableSelfUptoCard
end Rows
end Go.Proofs.YtjgooecohepkoaaGreatDoor
