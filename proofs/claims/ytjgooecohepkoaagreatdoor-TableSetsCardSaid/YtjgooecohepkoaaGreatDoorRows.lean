/-
  NARROWER THAN 'FOR EVERY INPUT', by the rows' own cells (each row's printed sentence says how): TableFinds: laid · TableSums: laid · TableImplied: laid · TableDeps: laid · TableSelects: laid · TableSets: laid · TableJoins: laid · TableSelf: laid.
  DERIVED. THE GIVEN ROWS OF THIS SEAT. 8 by the template 'for every input the law returns true; each argument reads behind the call as it read before'; 0 by the template 'total and deterministic' (their statements: YtjgooecohepkoaaGreatDoorTotals.lean).
  GIVEN WITH THE SEED: the statements are not yours to turn. If you find one false, say at which input.
  Laid BY PROGRAM, IN A SANDBOX (cutbox-rows.mjs): the forced cells as the released guide's own fill.sh prints them over the translation 7a3d6660a2ab158c… (all of the seat's roots in one cut). By AI agents, Wed Nov 11 2026. No macro, syntax, notation, axiom, sorry.
-/
import Derived.Test.YtjgooecohepkoaaGreatDoorChecked
import GoSem.PinnedTables
import GoSem.Claim
import GoSem.ClaimJoined
import GoSem.ClaimMapViews
import Derived.JoinedTies
import Derived.KernelRfl
namespace Go.Proofs.YtjgooecohepkoaaGreatDoor
/- THE CELL 'sum', in the pinned program and in every row, IS THE sha256 OF THE DUMP (.gsa) THAT YtjgooecohepkoaaGreatDoorProg.lean LOADS. Nothing in Lean hashes anything: it is a label: what it is worth is what the hold of that sum in a sandbox is worth. -/
noncomputable def Tryz.pinned : Pinned := { name := "ytjgooecohepkoaagreatdoor", sum := "7a3d6660a2ab158c053669b8f25558827754e6969a2844183b9dab4e3664bebc", checked := Tryz.checked }
namespace Rows
def none {H : Type} : Left H := { results := [], args := [] }

/- WHAT THE LISTED PACKAGE-LEVEL VARIABLES READ AS WHEN THE CALL BEGINS. Each datum BY PROGRAM (the guide's laid-datum.mjs) off the statement by which the dump's own 'gosem.cut.vars' lays the variable. In a bare row this is a premise. The card (YtjgooecohepkoaaGreatDoorCards.lean) ties it to the program's text. -/
def laid_concord_decimal_powers {H : Type} : DataW H := .agg [.lit (.int .i64 1), .lit (.int .i64 10), .lit (.int .i64 100), .lit (.int .i64 1000), .lit (.int .i64 10000), .lit (.int .i64 100000), .lit (.int .i64 1000000), .lit (.int .i64 10000000), .lit (.int .i64 100000000), .lit (.int .i64 1000000000), .lit (.int .i64 10000000000), .lit (.int .i64 100000000000), .lit (.int .i64 1000000000000), .lit (.int .i64 10000000000000), .lit (.int .i64 100000000000000), .lit (.int .i64 1000000000000000), .lit (.int .i64 10000000000000000), .lit (.int .i64 100000000000000000), .lit (.int .i64 1000000000000000000)]
def laid_math_bits_deBruijn32tab {H : Type} : DataW H := .agg [.lit (.int .u8 0), .lit (.int .u8 1), .lit (.int .u8 28), .lit (.int .u8 2), .lit (.int .u8 29), .lit (.int .u8 14), .lit (.int .u8 24), .lit (.int .u8 3), .lit (.int .u8 30), .lit (.int .u8 22), .lit (.int .u8 20), .lit (.int .u8 15), .lit (.int .u8 25), .lit (.int .u8 17), .lit (.int .u8 4), .lit (.int .u8 8), .lit (.int .u8 31), .lit (.int .u8 27), .lit (.int .u8 13), .lit (.int .u8 23), .lit (.int .u8 21), .lit (.int .u8 19), .lit (.int .u8 16), .lit (.int .u8 7), .lit (.int .u8 26), .lit (.int .u8 12), .lit (.int .u8 18), .lit (.int .u8 6), .lit (.int .u8 11), .lit (.int .u8 5), .lit (.int .u8 10), .lit (.int .u8 9)]
def laid_math_bits_deBruijn64tab {H : Type} : DataW H := .agg [.lit (.int .u8 0), .lit (.int .u8 1), .lit (.int .u8 56), .lit (.int .u8 2), .lit (.int .u8 57), .lit (.int .u8 49), .lit (.int .u8 28), .lit (.int .u8 3), .lit (.int .u8 61), .lit (.int .u8 58), .lit (.int .u8 42), .lit (.int .u8 50), .lit (.int .u8 38), .lit (.int .u8 29), .lit (.int .u8 17), .lit (.int .u8 4), .lit (.int .u8 62), .lit (.int .u8 47), .lit (.int .u8 59), .lit (.int .u8 36), .lit (.int .u8 45), .lit (.int .u8 43), .lit (.int .u8 51), .lit (.int .u8 22), .lit (.int .u8 53), .lit (.int .u8 39), .lit (.int .u8 33), .lit (.int .u8 30), .lit (.int .u8 24), .lit (.int .u8 18), .lit (.int .u8 12), .lit (.int .u8 5), .lit (.int .u8 63), .lit (.int .u8 55), .lit (.int .u8 48), .lit (.int .u8 27), .lit (.int .u8 60), .lit (.int .u8 41), .lit (.int .u8 37), .lit (.int .u8 16), .lit (.int .u8 46), .lit (.int .u8 35), .lit (.int .u8 44), .lit (.int .u8 21), .lit (.int .u8 52), .lit (.int .u8 32), .lit (.int .u8 23), .lit (.int .u8 11), .lit (.int .u8 54), .lit (.int .u8 26), .lit (.int .u8 40), .lit (.int .u8 15), .lit (.int .u8 34), .lit (.int .u8 20), .lit (.int .u8 31), .lit (.int .u8 10), .lit (.int .u8 25), .lit (.int .u8 14), .lit (.int .u8 19), .lit (.int .u8 9), .lit (.int .u8 13), .lit (.int .u8 8), .lit (.int .u8 7), .lit (.int .u8 6)]
def laid_internal_strconv_uint64pow10 {H : Type} : DataW H := .agg [.lit (.int .u64 1), .lit (.int .u64 10), .lit (.int .u64 100), .lit (.int .u64 1000), .lit (.int .u64 10000), .lit (.int .u64 100000), .lit (.int .u64 1000000), .lit (.int .u64 10000000), .lit (.int .u64 100000000), .lit (.int .u64 1000000000), .lit (.int .u64 10000000000), .lit (.int .u64 100000000000), .lit (.int .u64 1000000000000), .lit (.int .u64 10000000000000), .lit (.int .u64 100000000000000), .lit (.int .u64 1000000000000000), .lit (.int .u64 10000000000000000), .lit (.int .u64 100000000000000000), .lit (.int .u64 1000000000000000000), .lit (.int .u64 10000000000000000000)]
def laid_unicode_utf8_acceptRanges {H : Type} : DataW H := .agg [.agg [.lit (.int .u8 128), .lit (.int .u8 191)], .agg [.lit (.int .u8 160), .lit (.int .u8 191)], .agg [.lit (.int .u8 128), .lit (.int .u8 159)], .agg [.lit (.int .u8 144), .lit (.int .u8 191)], .agg [.lit (.int .u8 128), .lit (.int .u8 143)], .agg [.lit (.int .u8 0), .lit (.int .u8 0)], .agg [.lit (.int .u8 0), .lit (.int .u8 0)], .agg [.lit (.int .u8 0), .lit (.int .u8 0)], .agg [.lit (.int .u8 0), .lit (.int .u8 0)], .agg [.lit (.int .u8 0), .lit (.int .u8 0)], .agg [.lit (.int .u8 0), .lit (.int .u8 0)], .agg [.lit (.int .u8 0), .lit (.int .u8 0)], .agg [.lit (.int .u8 0), .lit (.int .u8 0)], .agg [.lit (.int .u8 0), .lit (.int .u8 0)], .agg [.lit (.int .u8 0), .lit (.int .u8 0)], .agg [.lit (.int .u8 0), .lit (.int .u8 0)]]
/-- One of Go's own tables, pinned by name: the form's constant. -/
def laid_unicode_utf8_first : DataW Unit := Go.Pinned.utf8First

/-- 'concordlaw09.TableFinds': WHATEVER THE INPUT: true; the input reads as it did. -/
def tableFindsSpec : ChangeSpec := { name := "tableFinds", fn := fun _ => fun
  | [d1, d2, d3] => { results := [.lit (.bool true)], args := [d1, d2, d3] }
  | _ => none }
def tableFindsRow : OpenClaim := { program := "ytjgooecohepkoaagreatdoor", sum := "7a3d6660a2ab158c053669b8f25558827754e6969a2844183b9dab4e3664bebc", func := "concord/concordlaw09.TableFinds", spec := "tableFinds", inPlace := ["math/bits.Add64", "math/bits.Sub64"], unfollowed := true, recurses := true, named := ["concord/decimal.powers", "math/bits.divideError", "math/bits.overflowError"], apart := false, laid := [("concord/decimal.powers", laid_concord_decimal_powers)] }
def TableFindsSaid : Prop := tableFindsRow.holds Tryz.pinned (OpenSpec.ofChange tableFindsSpec)

/-- ITS FALSE NEIGHBOUR: 'it returns false'. Refute it at one input. -/
def tableFindsWrong : ChangeSpec := { name := "tableFinds", fn := fun _ => fun
  | [d1, d2, d3] => { results := [.lit (.bool false)], args := [d1, d2, d3] }
  | _ => none }
def TableFindsWrongFalsely : Prop := tableFindsRow.holds Tryz.pinned (OpenSpec.ofChange tableFindsWrong)

/-- 'concordlaw09.TableSums': WHATEVER THE INPUT: true; the input reads as it did. -/
def tableSumsSpec : ChangeSpec := { name := "tableSums", fn := fun _ => fun
  | [d1, d2, d3] => { results := [.lit (.bool true)], args := [d1, d2, d3] }
  | _ => none }
def tableSumsRow : OpenClaim := { program := "ytjgooecohepkoaagreatdoor", sum := "7a3d6660a2ab158c053669b8f25558827754e6969a2844183b9dab4e3664bebc", func := "concord/concordlaw09.TableSums", spec := "tableSums", inPlace := ["math/bits.Add64", "math/bits.Sub64"], unfollowed := true, recurses := true, named := ["concord/decimal.powers", "math/bits.divideError", "math/bits.overflowError"], apart := false, laid := [("concord/decimal.powers", laid_concord_decimal_powers)] }
def TableSumsSaid : Prop := tableSumsRow.holds Tryz.pinned (OpenSpec.ofChange tableSumsSpec)

/-- ITS FALSE NEIGHBOUR: 'it returns false'. Refute it at one input. -/
def tableSumsWrong : ChangeSpec := { name := "tableSums", fn := fun _ => fun
  | [d1, d2, d3] => { results := [.lit (.bool false)], args := [d1, d2, d3] }
  | _ => none }
def TableSumsWrongFalsely : Prop := tableSumsRow.holds Tryz.pinned (OpenSpec.ofChange tableSumsWrong)

/-- 'concordlaw09.TableImplied': WHATEVER THE INPUT: true; the input reads as it did. -/
def tableImpliedSpec : ChangeSpec := { name := "tableImplied", fn := fun _ => fun
  | [d1, d2, d3] => { results := [.lit (.bool true)], args := [d1, d2, d3] }
  | _ => none }
def tableImpliedRow : OpenClaim := { program := "ytjgooecohepkoaagreatdoor", sum := "7a3d6660a2ab158c053669b8f25558827754e6969a2844183b9dab4e3664bebc", func := "concord/concordlaw09.TableImplied", spec := "tableImplied", inPlace := ["math/bits.Add64", "math/bits.Sub64"], unfollowed := true, recurses := true, named := ["concord/decimal.powers", "math/bits.divideError", "math/bits.overflowError"], apart := false, laid := [("concord/decimal.powers", laid_concord_decimal_powers)] }
def TableImpliedSaid : Prop := tableImpliedRow.holds Tryz.pinned (OpenSpec.ofChange tableImpliedSpec)

/-- ITS FALSE NEIGHBOUR: 'it returns false'. Refute it at one input. -/
def tableImpliedWrong : ChangeSpec := { name := "tableImplied", fn := fun _ => fun
  | [d1, d2, d3] => { results := [.lit (.bool false)], args := [d1, d2, d3] }
  | _ => none }
def TableImpliedWrongFalsely : Prop := tableImpliedRow.holds Tryz.pinned (OpenSpec.ofChange tableImpliedWrong)

/-- 'concordlaw09.TableDeps': WHATEVER THE INPUT: true; the input reads as it did. -/
def tableDepsSpec : ChangeSpec := { name := "tableDeps", fn := fun _ => fun
  | [d1, d2, d3] => { results := [.lit (.bool true)], args := [d1, d2, d3] }
  | _ => none }
def tableDepsRow : OpenClaim := { program := "ytjgooecohepkoaagreatdoor", sum := "7a3d6660a2ab158c053669b8f25558827754e6969a2844183b9dab4e3664bebc", func := "concord/concordlaw09.TableDeps", spec := "tableDeps", inPlace := ["math/bits.Add64", "math/bits.Sub64"], unfollowed := true, recurses := true, named := ["concord/decimal.powers", "math/bits.divideError", "math/bits.overflowError"], apart := false, laid := [("concord/decimal.powers", laid_concord_decimal_powers)] }
def TableDepsSaid : Prop := tableDepsRow.holds Tryz.pinned (OpenSpec.ofChange tableDepsSpec)

/-- ITS FALSE NEIGHBOUR: 'it returns false'. Refute it at one input. -/
def tableDepsWrong : ChangeSpec := { name := "tableDeps", fn := fun _ => fun
  | [d1, d2, d3] => { results := [.lit (.bool false)], args := [d1, d2, d3] }
  | _ => none }
def TableDepsWrongFalsely : Prop := tableDepsRow.holds Tryz.pinned (OpenSpec.ofChange tableDepsWrong)

/-- 'concordlaw09.TableSelects': WHATEVER THE INPUT: true; the input reads as it did. -/
def tableSelectsSpec : ChangeSpec := { name := "tableSelects", fn := fun _ => fun
  | [d1, d2, d3] => { results := [.lit (.bool true)], args := [d1, d2, d3] }
  | _ => none }
def tableSelectsRow : OpenClaim := { program := "ytjgooecohepkoaagreatdoor", sum := "7a3d6660a2ab158c053669b8f25558827754e6969a2844183b9dab4e3664bebc", func := "concord/concordlaw09.TableSelects", spec := "tableSelects", inPlace := ["math/bits.Add64", "math/bits.Sub64"], unfollowed := true, recurses := true, named := ["concord/decimal.powers", "math/bits.divideError", "math/bits.overflowError"], apart := false, laid := [("concord/decimal.powers", laid_concord_decimal_powers)] }
def TableSelectsSaid : Prop := tableSelectsRow.holds Tryz.pinned (OpenSpec.ofChange tableSelectsSpec)

/-- ITS FALSE NEIGHBOUR: 'it returns false'. Refute it at one input. -/
def tableSelectsWrong : ChangeSpec := { name := "tableSelects", fn := fun _ => fun
  | [d1, d2, d3] => { results := [.lit (.bool false)], args := [d1, d2, d3] }
  | _ => none }
def TableSelectsWrongFalsely : Prop := tableSelectsRow.holds Tryz.pinned (OpenSpec.ofChange tableSelectsWrong)

/-- 'concordlaw09.TableSets': WHATEVER THE INPUT: true; the input reads as it did. -/
def tableSetsSpec : ChangeSpec := { name := "tableSets", fn := fun _ => fun
  | [d1, d2, d3] => { results := [.lit (.bool true)], args := [d1, d2, d3] }
  | _ => none }
def tableSetsRow : OpenClaim := { program := "ytjgooecohepkoaagreatdoor", sum := "7a3d6660a2ab158c053669b8f25558827754e6969a2844183b9dab4e3664bebc", func := "concord/concordlaw09.TableSets", spec := "tableSets", inPlace := ["math/bits.Add64", "math/bits.Sub64"], unfollowed := true, recurses := true, named := ["concord/decimal.powers", "math/bits.divideError", "math/bits.overflowError"], apart := false, laid := [("concord/decimal.powers", laid_concord_decimal_powers)] }
def TableSetsSaid : Prop := tableSetsRow.holds Tryz.pinned (OpenSpec.ofChange tableSetsSpec)

/-- ITS FALSE NEIGHBOUR: 'it returns false'. Refute it at one input. -/
def tableSetsWrong : ChangeSpec := { name := "tableSets", fn := fun _ => fun
  | [d1, d2, d3] => { results := [.lit (.bool false)], args := [d1, d2, d3] }
  | _ => none }
def TableSetsWrongFalsely : Prop := tableSetsRow.holds Tryz.pinned (OpenSpec.ofChange tableSetsWrong)

/-- 'concordlaw09.TableJoins': WHATEVER THE INPUT: true; the input reads as it did. -/
def tableJoinsSpec : ChangeSpec := { name := "tableJoins", fn := fun _ => fun
  | [d1, d2, d3] => { results := [.lit (.bool true)], args := [d1, d2, d3] }
  | _ => none }
def tableJoinsRow : OpenClaim := { program := "ytjgooecohepkoaagreatdoor", sum := "7a3d6660a2ab158c053669b8f25558827754e6969a2844183b9dab4e3664bebc", func := "concord/concordlaw09.TableJoins", spec := "tableJoins", inPlace := ["math/bits.Add64", "math/bits.Sub64", "internal/bytealg.CountString", "internal/bytealg.IndexByteString", "internal/bytealg.IndexString", "internal/abi.NoEscape", "internal/bytealg.MakeNoZero"], unfollowed := true, recurses := true, named := ["concord/decimal.powers", "math/bits.divideError", "math/bits.overflowError", "internal/bytealg.MaxLen", "unicode/utf8.first", "unicode/utf8.acceptRanges", "internal/strconv.uint64pow10", "math/bits.deBruijn32tab", "math/bits.deBruijn64tab"], apart := false, laid := [("math/bits.deBruijn32tab", laid_math_bits_deBruijn32tab), ("math/bits.deBruijn64tab", laid_math_bits_deBruijn64tab), ("internal/strconv.uint64pow10", laid_internal_strconv_uint64pow10), ("unicode/utf8.acceptRanges", laid_unicode_utf8_acceptRanges), ("concord/decimal.powers", laid_concord_decimal_powers), ("unicode/utf8.first", laid_unicode_utf8_first)] }
def TableJoinsSaid : Prop := tableJoinsRow.holds Tryz.pinned (OpenSpec.ofChange tableJoinsSpec)

/-- ITS FALSE NEIGHBOUR: 'it returns false'. Refute it at one input. -/
def tableJoinsWrong : ChangeSpec := { name := "tableJoins", fn := fun _ => fun
  | [d1, d2, d3] => { results := [.lit (.bool false)], args := [d1, d2, d3] }
  | _ => none }
def TableJoinsWrongFalsely : Prop := tableJoinsRow.holds Tryz.pinned (OpenSpec.ofChange tableJoinsWrong)

/-- 'concordlaw09.TableSelf': WHATEVER THE INPUT: true; the input reads as it did. -/
def tableSelfSpec : ChangeSpec := { name := "tableSelf", fn := fun _ => fun
  | [d1, d2] => { results := [.lit (.bool true)], args := [d1, d2] }
  | _ => none }
def tableSelfRow : OpenClaim := { program := "ytjgooecohepkoaagreatdoor", sum := "7a3d6660a2ab158c053669b8f25558827754e6969a2844183b9dab4e3664bebc", func := "concord/concordlaw09.TableSelf", spec := "tableSelf", inPlace := ["math/bits.Add64", "math/bits.Sub64", "internal/bytealg.CountString", "internal/bytealg.IndexByteString", "internal/bytealg.IndexString", "internal/abi.NoEscape", "internal/bytealg.MakeNoZero"], unfollowed := true, recurses := true, named := ["concord/decimal.powers", "math/bits.divideError", "math/bits.overflowError", "internal/bytealg.MaxLen", "unicode/utf8.first", "unicode/utf8.acceptRanges", "internal/strconv.uint64pow10", "math/bits.deBruijn32tab", "math/bits.deBruijn64tab"], apart := false, laid := [("math/bits.deBruijn32tab", laid_math_bits_deBruijn32tab), ("math/bits.deBruijn64tab", laid_math_bits_deBruijn64tab), ("internal/strconv.uint64pow10", laid_internal_strconv_uint64pow10), ("unicode/utf8.acceptRanges", laid_unicode_utf8_acceptRanges), ("concord/decimal.powers", laid_concord_decimal_powers), ("unicode/utf8.first", laid_unicode_utf8_first)] }
def TableSelfSaid : Prop := tableSelfRow.holds Tryz.pinned (OpenSpec.ofChange tableSelfSpec)

/-- ITS FALSE NEIGHBOUR: 'it returns false'. Refute it at one input. -/
def tableSelfWrong : ChangeSpec := { name := "tableSelf", fn := fun _ => fun
  | [d1, d2] => { results := [.lit (.bool false)], args := [d1, d2] }
  | _ => none }
def TableSelfWrongFalsely : Prop := tableSelfRow.holds Tryz.pinned (OpenSpec.ofChange tableSelfWrong)

/- THE SECOND FORM. 'bulk': how many values and letters a reading holds, each counted each time it is reached (what is shared counts as often as it is met; a slice's spare places count too). A statement '..UptoSaid' is the law's where the arguments, and the package variables that the reading takes, are together of bulk at most 1048576: NARROWER than '..Said'. Prove '..Said' where nothing that the law and all that it calls make is longer than what came in: it says more and counts as full. Else prove '..UptoSaid'. A law counts once. -/
mutual
def uptoBulk {H : Type} : DataW H → Nat
  | .lit (.string bytes) => bytes.length + 1
  | .lit _ => 1
  | .nil => 1
  | .ptr d => uptoBulk d + 1
  | .slice elems spare => uptoBulkAll elems + uptoBulkAll spare + 1
  | .agg parts => uptoBulkAll parts + 1
  | .iface _ d => uptoBulk d + 1
  | .map entries => uptoBulkEntries entries + 1
  | .held _ => 1
def uptoBulkAll {H : Type} : List (DataW H) → Nat
  | [] => 0
  | d :: r => uptoBulk d + uptoBulkAll r
def uptoBulkEntries {H : Type} : List (Lit × DataW H) → Nat
  | [] => 0
  | x :: r => uptoBulkEntry x + uptoBulkEntries r
def uptoBulkEntry {H : Type} : Lit × DataW H → Nat
  | (.string bytes, d) => bytes.length + uptoBulk d + 1
  | (_, d) => uptoBulk d + 1
 end
def uptoSmall : (H : Type) → List (DataW H) → Bool := fun _ ds => decide (uptoBulkAll ds ≤ 1048576)
def OpenSpec.upto (s : _root_.Go.ChangeSpec) : _root_.Go.OpenSpec := { _root_.Go.OpenSpec.ofChange s with cond := some uptoSmall }

/-- 'concordlaw09.TableFinds', WHERE WHAT IT READS IS OF BULK AT MOST 1048576: true; the input reads as it did. -/
def tableFindsUptoRow : OpenClaim := { program := "ytjgooecohepkoaagreatdoor", sum := "7a3d6660a2ab158c053669b8f25558827754e6969a2844183b9dab4e3664bebc", func := "concord/concordlaw09.TableFinds", spec := "tableFinds", inPlace := ["math/bits.Add64", "math/bits.Sub64"], unfollowed := true, recurses := true, named := ["concord/decimal.powers", "math/bits.divideError", "math/bits.overflowError"], apart := false, laid := [("concord/decimal.powers", laid_concord_decimal_powers)], narrowed := true }
def TableFindsUptoSaid : Prop := tableFindsUptoRow.holds Tryz.pinned (OpenSpec.upto tableFindsSpec)

/-- 'concordlaw09.TableSums', WHERE WHAT IT READS IS OF BULK AT MOST 1048576: true; the input reads as it did. -/
def tableSumsUptoRow : OpenClaim := { program := "ytjgooecohepkoaagreatdoor", sum := "7a3d6660a2ab158c053669b8f25558827754e6969a2844183b9dab4e3664bebc", func := "concord/concordlaw09.TableSums", spec := "tableSums", inPlace := ["math/bits.Add64", "math/bits.Sub64"], unfollowed := true, recurses := true, named := ["concord/decimal.powers", "math/bits.divideError", "math/bits.overflowError"], apart := false, laid := [("concord/decimal.powers", laid_concord_decimal_powers)], narrowed := true }
def TableSumsUptoSaid : Prop := tableSumsUptoRow.holds Tryz.pinned (OpenSpec.upto tableSumsSpec)

/-- 'concordlaw09.TableImplied', WHERE WHAT IT READS IS OF BULK AT MOST 1048576: true; the input reads as it did. -/
def tableImpliedUptoRow : OpenClaim := { program := "ytjgooecohepkoaagreatdoor", sum := "7a3d6660a2ab158c053669b8f25558827754e6969a2844183b9dab4e3664bebc", func := "concord/concordlaw09.TableImplied", spec := "tableImplied", inPlace := ["math/bits.Add64", "math/bits.Sub64"], unfollowed := true, recurses := true, named := ["concord/decimal.powers", "math/bits.divideError", "math/bits.overflowError"], apart := false, laid := [("concord/decimal.powers", laid_concord_decimal_powers)], narrowed := true }
def TableImpliedUptoSaid : Prop := tableImpliedUptoRow.holds Tryz.pinned (OpenSpec.upto tableImpliedSpec)

/-- 'concordlaw09.TableDeps', WHERE WHAT IT READS IS OF BULK AT MOST 1048576: true; the input reads as it did. -/
def tableDepsUptoRow : OpenClaim := { program := "ytjgooecohepkoaagreatdoor", sum := "7a3d6660a2ab158c053669b8f25558827754e6969a2844183b9dab4e3664bebc", func := "concord/concordlaw09.TableDeps", spec := "tableDeps", inPlace := ["math/bits.Add64", "math/bits.Sub64"], unfollowed := true, recurses := true, named := ["concord/decimal.powers", "math/bits.divideError", "math/bits.overflowError"], apart := false, laid := [("concord/decimal.powers", laid_concord_decimal_powers)], narrowed := true }
def TableDepsUptoSaid : Prop := tableDepsUptoRow.holds Tryz.pinned (OpenSpec.upto tableDepsSpec)

/-- 'concordlaw09.TableSelects', WHERE WHAT IT READS IS OF BULK AT MOST 1048576: true; the input reads as it did. -/
def tableSelectsUptoRow : OpenClaim := { program := "ytjgooecohepkoaagreatdoor", sum := "7a3d6660a2ab158c053669b8f25558827754e6969a2844183b9dab4e3664bebc", func := "concord/concordlaw09.TableSelects", spec := "tableSelects", inPlace := ["math/bits.Add64", "math/bits.Sub64"], unfollowed := true, recurses := true, named := ["concord/decimal.powers", "math/bits.divideError", "math/bits.overflowError"], apart := false, laid := [("concord/decimal.powers", laid_concord_decimal_powers)], narrowed := true }
def TableSelectsUptoSaid : Prop := tableSelectsUptoRow.holds Tryz.pinned (OpenSpec.upto tableSelectsSpec)

/-- 'concordlaw09.TableSets', WHERE WHAT IT READS IS OF BULK AT MOST 1048576: true; the input reads as it did. -/
def tableSetsUptoRow : OpenClaim := { program := "ytjgooecohepkoaagreatdoor", sum := "7a3d6660a2ab158c053669b8f25558827754e6969a2844183b9dab4e3664bebc", func := "concord/concordlaw09.TableSets", spec := "tableSets", inPlace := ["math/bits.Add64", "math/bits.Sub64"], unfollowed := true, recurses := true, named := ["concord/decimal.powers", "math/bits.divideError", "math/bits.overflowError"], apart := false, laid := [("concord/decimal.powers", laid_concord_decimal_powers)], narrowed := true }
def TableSetsUptoSaid : Prop := tableSetsUptoRow.holds Tryz.pinned (OpenSpec.upto tableSetsSpec)

/-- 'concordlaw09.TableJoins', WHERE WHAT IT READS IS OF BULK AT MOST 1048576: true; the input reads as it did. -/
def tableJoinsUptoRow : OpenClaim := { program := "ytjgooecohepkoaagreatdoor", sum := "7a3d6660a2ab158c053669b8f25558827754e6969a2844183b9dab4e3664bebc", func := "concord/concordlaw09.TableJoins", spec := "tableJoins", inPlace := ["math/bits.Add64", "math/bits.Sub64", "internal/bytealg.CountString", "internal/bytealg.IndexByteString", "internal/bytealg.IndexString", "internal/abi.NoEscape", "internal/bytealg.MakeNoZero"], unfollowed := true, recurses := true, named := ["concord/decimal.powers", "math/bits.divideError", "math/bits.overflowError", "internal/bytealg.MaxLen", "unicode/utf8.first", "unicode/utf8.acceptRanges", "internal/strconv.uint64pow10", "math/bits.deBruijn32tab", "math/bits.deBruijn64tab"], apart := false, laid := [("math/bits.deBruijn32tab", laid_math_bits_deBruijn32tab), ("math/bits.deBruijn64tab", laid_math_bits_deBruijn64tab), ("internal/strconv.uint64pow10", laid_internal_strconv_uint64pow10), ("unicode/utf8.acceptRanges", laid_unicode_utf8_acceptRanges), ("concord/decimal.powers", laid_concord_decimal_powers), ("unicode/utf8.first", laid_unicode_utf8_first)], narrowed := true }
def TableJoinsUptoSaid : Prop := tableJoinsUptoRow.holds Tryz.pinned (OpenSpec.upto tableJoinsSpec)

/-- 'concordlaw09.TableSelf', WHERE WHAT IT READS IS OF BULK AT MOST 1048576: true; the input reads as it did. -/
def tableSelfUptoRow : OpenClaim := { program := "ytjgooecohepkoaagreatdoor", sum := "7a3d6660a2ab158c053669b8f25558827754e6969a2844183b9dab4e3664bebc", func := "concord/concordlaw09.TableSelf", spec := "tableSelf", inPlace := ["math/bits.Add64", "math/bits.Sub64", "internal/bytealg.CountString", "internal/bytealg.IndexByteString", "internal/bytealg.IndexString", "internal/abi.NoEscape", "internal/bytealg.MakeNoZero"], unfollowed := true, recurses := true, named := ["concord/decimal.powers", "math/bits.divideError", "math/bits.overflowError", "internal/bytealg.MaxLen", "unicode/utf8.first", "unicode/utf8.acceptRanges", "internal/strconv.uint64pow10", "math/bits.deBruijn32tab", "math/bits.deBruijn64tab"], apart := false, laid := [("math/bits.deBruijn32tab", laid_math_bits_deBruijn32tab), ("math/bits.deBruijn64tab", laid_math_bits_deBruijn64tab), ("internal/strconv.uint64pow10", laid_internal_strconv_uint64pow10), ("unicode/utf8.acceptRanges", laid_unicode_utf8_acceptRanges), ("concord/decimal.powers", laid_concord_decimal_powers), ("unicode/utf8.first", laid_unicode_utf8_first)], narrowed := true }
def TableSelfUptoSaid : Prop := tableSelfUptoRow.holds Tryz.pinned (OpenSpec.upto tableSelfSpec)

end Rows
end Go.Proofs.YtjgooecohepkoaaGreatDoor
