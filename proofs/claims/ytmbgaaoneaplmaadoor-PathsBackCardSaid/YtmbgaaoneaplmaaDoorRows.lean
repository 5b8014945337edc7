/-
  NARROWER THAN 'FOR EVERY INPUT', by the rows' own cells (each row's printed sentence says how): PathsPut: loops, laid · PathsBack: loops, laid · AlgebraOn: loops, laid · PathsOnly: loops, laid · PathsMerge: loops, laid · PathsGet: loops, laid · AlgebraParts: loops, laid · AlgebraGroups: loops, laid.
  DERIVED. THE GIVEN ROWS OF THIS SEAT. 8 by the template 'for every input the law returns true; each argument reads behind the call as it read before'; 0 by the template 'total and deterministic' (their statements: YtmbgaaoneaplmaaDoorTotals.lean).
  GIVEN WITH THE SEED: the statements are not yours to turn. If you find one false, say at which input.
  Laid BY PROGRAM, IN A SANDBOX (cutbox-rows.mjs): the forced cells as the released guide's own fill.sh prints them over the translation e0626423f6ae12e5… (all of the seat's roots in one cut). By AI agents, Wed Nov 11 2026. No macro, syntax, notation, axiom, sorry.
-/
import Derived.Test.YtmbgaaoneaplmaaDoorChecked
import GoSem.PinnedTables
import GoSem.Claim
import GoSem.ClaimJoined
import GoSem.ClaimMapViews
import Derived.JoinedTies
import Derived.KernelRfl
namespace Go.Proofs.YtmbgaaoneaplmaaDoor
/- THE CELL 'sum', in the pinned program and in every row, IS THE sha256 OF THE DUMP (.gsa) THAT YtmbgaaoneaplmaaDoorProg.lean LOADS. Nothing in Lean hashes anything: it is a label: what it is worth is what the hold of that sum in a sandbox is worth. -/
noncomputable def Tryd.pinned : Pinned := { name := "ytmbgaaoneaplmaadoor", sum := "e0626423f6ae12e5ba79bfa5b22586f25cdeeb9415ef12a2e1bed15744364982", checked := Tryd.checked }
namespace Rows
def none {H : Type} : Left H := { results := [], args := [] }

/- WHAT THE LISTED PACKAGE-LEVEL VARIABLES READ AS WHEN THE CALL BEGINS. Each datum BY PROGRAM (the guide's laid-datum.mjs) off the statement by which the dump's own 'gosem.cut.vars' lays the variable. In a bare row this is a premise. The card (YtmbgaaoneaplmaaDoorCards.lean) ties it to the program's text. -/
def laid_unicode_utf8_acceptRanges {H : Type} : DataW H := .agg [.agg [.lit (.int .u8 128), .lit (.int .u8 191)], .agg [.lit (.int .u8 160), .lit (.int .u8 191)], .agg [.lit (.int .u8 128), .lit (.int .u8 159)], .agg [.lit (.int .u8 144), .lit (.int .u8 191)], .agg [.lit (.int .u8 128), .lit (.int .u8 143)], .agg [.lit (.int .u8 0), .lit (.int .u8 0)], .agg [.lit (.int .u8 0), .lit (.int .u8 0)], .agg [.lit (.int .u8 0), .lit (.int .u8 0)], .agg [.lit (.int .u8 0), .lit (.int .u8 0)], .agg [.lit (.int .u8 0), .lit (.int .u8 0)], .agg [.lit (.int .u8 0), .lit (.int .u8 0)], .agg [.lit (.int .u8 0), .lit (.int .u8 0)], .agg [.lit (.int .u8 0), .lit (.int .u8 0)], .agg [.lit (.int .u8 0), .lit (.int .u8 0)], .agg [.lit (.int .u8 0), .lit (.int .u8 0)], .agg [.lit (.int .u8 0), .lit (.int .u8 0)]]
/-- One of Go's own tables, pinned by name: the form's constant. -/
def laid_unicode_utf8_first : DataW Unit := Go.Pinned.utf8First

/-- 'spinneylaw26.PathsPut': WHATEVER THE INPUT: true; the input reads as it did. -/
def pathsPutSpec : ChangeSpec := { name := "pathsPut", fn := fun _ => fun
  | [d1, d2, d3] => { results := [.lit (.bool true)], args := [d1, d2, d3] }
  | _ => none }
def pathsPutRow : OpenClaim := { program := "ytmbgaaoneaplmaadoor", sum := "e0626423f6ae12e5ba79bfa5b22586f25cdeeb9415ef12a2e1bed15744364982", func := "spinney/spinneylaw26.PathsPut", spec := "pathsPut", inPlace := ["internal/bytealg.abigen_runtime_cmpstring", "slices.overlaps[spinney/api.Value]"], unfollowed := true, recurses := true, named := ["unicode/utf8.first", "unicode/utf8.acceptRanges"], loops := true, apart := false, laid := [("unicode/utf8.acceptRanges", laid_unicode_utf8_acceptRanges), ("unicode/utf8.first", laid_unicode_utf8_first)] }
def PathsPutSaid : Prop := pathsPutRow.holds Tryd.pinned (OpenSpec.ofChange pathsPutSpec)

/-- ITS FALSE NEIGHBOUR: 'it returns false'. Refute it at one input. -/
def pathsPutWrong : ChangeSpec := { name := "pathsPut", fn := fun _ => fun
  | [d1, d2, d3] => { results := [.lit (.bool false)], args := [d1, d2, d3] }
  | _ => none }
def PathsPutWrongFalsely : Prop := pathsPutRow.holds Tryd.pinned (OpenSpec.ofChange pathsPutWrong)

/-- 'spinneylaw26.PathsBack': WHATEVER THE INPUT: true; the input reads as it did. -/
def pathsBackSpec : ChangeSpec := { name := "pathsBack", fn := fun _ => fun
  | [d1, d2, d3] => { results := [.lit (.bool true)], args := [d1, d2, d3] }
  | _ => none }
def pathsBackRow : OpenClaim := { program := "ytmbgaaoneaplmaadoor", sum := "e0626423f6ae12e5ba79bfa5b22586f25cdeeb9415ef12a2e1bed15744364982", func := "spinney/spinneylaw26.PathsBack", spec := "pathsBack", inPlace := ["internal/bytealg.abigen_runtime_cmpstring", "slices.overlaps[spinney/api.Value]"], unfollowed := true, recurses := true, named := ["unicode/utf8.first", "unicode/utf8.acceptRanges"], loops := true, apart := false, laid := [("unicode/utf8.acceptRanges", laid_unicode_utf8_acceptRanges), ("unicode/utf8.first", laid_unicode_utf8_first)] }
def PathsBackSaid : Prop := pathsBackRow.holds Tryd.pinned (OpenSpec.ofChange pathsBackSpec)

/-- ITS FALSE NEIGHBOUR: 'it returns false'. Refute it at one input. -/
def pathsBackWrong : ChangeSpec := { name := "pathsBack", fn := fun _ => fun
  | [d1, d2, d3] => { results := [.lit (.bool false)], args := [d1, d2, d3] }
  | _ => none }
def PathsBackWrongFalsely : Prop := pathsBackRow.holds Tryd.pinned (OpenSpec.ofChange pathsBackWrong)

/-- 'spinneylaw25.AlgebraOn': WHATEVER THE INPUT: true; the input reads as it did. -/
def algebraOnSpec : ChangeSpec := { name := "algebraOn", fn := fun _ => fun
  | [d1, d2, d3] => { results := [.lit (.bool true)], args := [d1, d2, d3] }
  | _ => none }
def algebraOnRow : OpenClaim := { program := "ytmbgaaoneaplmaadoor", sum := "e0626423f6ae12e5ba79bfa5b22586f25cdeeb9415ef12a2e1bed15744364982", func := "spinney/spinneylaw25.AlgebraOn", spec := "algebraOn", inPlace := ["internal/bytealg.abigen_runtime_cmpstring", "slices.overlaps[spinney/api.Pair]"], unfollowed := true, recurses := true, named := ["unicode/utf8.first", "unicode/utf8.acceptRanges"], loops := true, apart := false, laid := [("unicode/utf8.acceptRanges", laid_unicode_utf8_acceptRanges), ("unicode/utf8.first", laid_unicode_utf8_first)] }
def AlgebraOnSaid : Prop := algebraOnRow.holds Tryd.pinned (OpenSpec.ofChange algebraOnSpec)

/-- ITS FALSE NEIGHBOUR: 'it returns false'. Refute it at one input. -/
def algebraOnWrong : ChangeSpec := { name := "algebraOn", fn := fun _ => fun
  | [d1, d2, d3] => { results := [.lit (.bool false)], args := [d1, d2, d3] }
  | _ => none }
def AlgebraOnWrongFalsely : Prop := algebraOnRow.holds Tryd.pinned (OpenSpec.ofChange algebraOnWrong)

/-- 'spinneylaw26.PathsOnly': WHATEVER THE INPUT: true; the input reads as it did. -/
def pathsOnlySpec : ChangeSpec := { name := "pathsOnly", fn := fun _ => fun
  | [d1, d2] => { results := [.lit (.bool true)], args := [d1, d2] }
  | _ => none }
def pathsOnlyRow : OpenClaim := { program := "ytmbgaaoneaplmaadoor", sum := "e0626423f6ae12e5ba79bfa5b22586f25cdeeb9415ef12a2e1bed15744364982", func := "spinney/spinneylaw26.PathsOnly", spec := "pathsOnly", inPlace := ["internal/bytealg.abigen_runtime_cmpstring", "slices.overlaps[spinney/api.Value]"], unfollowed := true, recurses := true, named := ["unicode/utf8.first", "unicode/utf8.acceptRanges"], loops := true, apart := false, laid := [("unicode/utf8.acceptRanges", laid_unicode_utf8_acceptRanges), ("unicode/utf8.first", laid_unicode_utf8_first)] }
def PathsOnlySaid : Prop := pathsOnlyRow.holds Tryd.pinned (OpenSpec.ofChange pathsOnlySpec)

/-- ITS FALSE NEIGHBOUR: 'it returns false'. Refute it at one input. -/
def pathsOnlyWrong : ChangeSpec := { name := "pathsOnly", fn := fun _ => fun
  | [d1, d2] => { results := [.lit (.bool false)], args := [d1, d2] }
  | _ => none }
def PathsOnlyWrongFalsely : Prop := pathsOnlyRow.holds Tryd.pinned (OpenSpec.ofChange pathsOnlyWrong)

/-- 'spinneylaw26.PathsMerge': WHATEVER THE INPUT: true; the input reads as it did. -/
def pathsMergeSpec : ChangeSpec := { name := "pathsMerge", fn := fun _ => fun
  | [d1, d2] => { results := [.lit (.bool true)], args := [d1, d2] }
  | _ => none }
def pathsMergeRow : OpenClaim := { program := "ytmbgaaoneaplmaadoor", sum := "e0626423f6ae12e5ba79bfa5b22586f25cdeeb9415ef12a2e1bed15744364982", func := "spinney/spinneylaw26.PathsMerge", spec := "pathsMerge", inPlace := ["internal/bytealg.abigen_runtime_cmpstring", "slices.overlaps[spinney/api.Value]"], unfollowed := true, recurses := true, named := ["unicode/utf8.first", "unicode/utf8.acceptRanges"], loops := true, apart := false, laid := [("unicode/utf8.acceptRanges", laid_unicode_utf8_acceptRanges), ("unicode/utf8.first", laid_unicode_utf8_first)] }
def PathsMergeSaid : Prop := pathsMergeRow.holds Tryd.pinned (OpenSpec.ofChange pathsMergeSpec)

/-- ITS FALSE NEIGHBOUR: 'it returns false'. Refute it at one input. -/
def pathsMergeWrong : ChangeSpec := { name := "pathsMerge", fn := fun _ => fun
  | [d1, d2] => { results := [.lit (.bool false)], args := [d1, d2] }
  | _ => none }
def PathsMergeWrongFalsely : Prop := pathsMergeRow.holds Tryd.pinned (OpenSpec.ofChange pathsMergeWrong)

/-- 'spinneylaw26.PathsGet': WHATEVER THE INPUT: true; the input reads as it did. -/
def pathsGetSpec : ChangeSpec := { name := "pathsGet", fn := fun _ => fun
  | [d1, d2] => { results := [.lit (.bool true)], args := [d1, d2] }
  | _ => none }
def pathsGetRow : OpenClaim := { program := "ytmbgaaoneaplmaadoor", sum := "e0626423f6ae12e5ba79bfa5b22586f25cdeeb9415ef12a2e1bed15744364982", func := "spinney/spinneylaw26.PathsGet", spec := "pathsGet", inPlace := ["internal/bytealg.abigen_runtime_cmpstring", "slices.overlaps[spinney/api.Value]"], unfollowed := true, recurses := true, named := ["unicode/utf8.first", "unicode/utf8.acceptRanges"], loops := true, apart := false, laid := [("unicode/utf8.acceptRanges", laid_unicode_utf8_acceptRanges), ("unicode/utf8.first", laid_unicode_utf8_first)] }
def PathsGetSaid : Prop := pathsGetRow.holds Tryd.pinned (OpenSpec.ofChange pathsGetSpec)

/-- ITS FALSE NEIGHBOUR: 'it returns false'. Refute it at one input. -/
def pathsGetWrong : ChangeSpec := { name := "pathsGet", fn := fun _ => fun
  | [d1, d2] => { results := [.lit (.bool false)], args := [d1, d2] }
  | _ => none }
def PathsGetWrongFalsely : Prop := pathsGetRow.holds Tryd.pinned (OpenSpec.ofChange pathsGetWrong)

/-- 'spinneylaw25.AlgebraParts': WHATEVER THE INPUT: true; the input reads as it did. -/
def algebraPartsSpec : ChangeSpec := { name := "algebraParts", fn := fun _ => fun
  | [d1, d2, d3] => { results := [.lit (.bool true)], args := [d1, d2, d3] }
  | _ => none }
def algebraPartsRow : OpenClaim := { program := "ytmbgaaoneaplmaadoor", sum := "e0626423f6ae12e5ba79bfa5b22586f25cdeeb9415ef12a2e1bed15744364982", func := "spinney/spinneylaw25.AlgebraParts", spec := "algebraParts", inPlace := ["internal/bytealg.abigen_runtime_cmpstring", "slices.overlaps[spinney/api.Pair]"], unfollowed := true, recurses := true, named := ["unicode/utf8.first", "unicode/utf8.acceptRanges"], loops := true, apart := false, laid := [("unicode/utf8.acceptRanges", laid_unicode_utf8_acceptRanges), ("unicode/utf8.first", laid_unicode_utf8_first)] }
def AlgebraPartsSaid : Prop := algebraPartsRow.holds Tryd.pinned (OpenSpec.ofChange algebraPartsSpec)

/-- ITS FALSE NEIGHBOUR: 'it returns false'. Refute it at one input. -/
def algebraPartsWrong : ChangeSpec := { name := "algebraParts", fn := fun _ => fun
  | [d1, d2, d3] => { results := [.lit (.bool false)], args := [d1, d2, d3] }
  | _ => none }
def AlgebraPartsWrongFalsely : Prop := algebraPartsRow.holds Tryd.pinned (OpenSpec.ofChange algebraPartsWrong)

/-- 'spinneylaw25.AlgebraGroups': WHATEVER THE INPUT: true; the input reads as it did. -/
def algebraGroupsSpec : ChangeSpec := { name := "algebraGroups", fn := fun _ => fun
  | [d1, d2] => { results := [.lit (.bool true)], args := [d1, d2] }
  | _ => none }
def algebraGroupsRow : OpenClaim := { program := "ytmbgaaoneaplmaadoor", sum := "e0626423f6ae12e5ba79bfa5b22586f25cdeeb9415ef12a2e1bed15744364982", func := "spinney/spinneylaw25.AlgebraGroups", spec := "algebraGroups", inPlace := ["internal/bytealg.abigen_runtime_cmpstring", "slices.overlaps[spinney/api.Pair]", "slices.overlaps[spinney/api.Value]"], unfollowed := true, recurses := true, named := ["unicode/utf8.first", "unicode/utf8.acceptRanges"], loops := true, apart := false, laid := [("unicode/utf8.acceptRanges", laid_unicode_utf8_acceptRanges), ("unicode/utf8.first", laid_unicode_utf8_first)] }
def AlgebraGroupsSaid : Prop := algebraGroupsRow.holds Tryd.pinned (OpenSpec.ofChange algebraGroupsSpec)

/-- ITS FALSE NEIGHBOUR: 'it returns false'. Refute it at one input. -/
def algebraGroupsWrong : ChangeSpec := { name := "algebraGroups", fn := fun _ => fun
  | [d1, d2] => { results := [.lit (.bool false)], args := [d1, d2] }
  | _ => none }
def AlgebraGroupsWrongFalsely : Prop := algebraGroupsRow.holds Tryd.pinned (OpenSpec.ofChange algebraGroupsWrong)

/- THE SECOND FORM. 'bulk': how many values and letters a reading holds, each counted each time it is reached (what is shared counts as often as it is met; a slice's spare places count too). A statement '..UptoSaid' is the law's where the arguments, and the package variables that the reading takes, are together of bulk at most 1048576: NARROWER than '..Said'. Prove '..Said' where nothing that the law and all that it calls make is longer than what came in: it says more and counts as full. Else prove '..UptoSaid'. A law counts once. -/
mutual
def uptoBulk {H : Type} : DataW H → Nat
  | .lit (.string bytes) => bytes.length + 1
  | .lit _ => 1
  | .nil => 1
  | .ptr d => uptoBulk d + 1
  | .slice elems spare => uptoBulkAll elems + uptoBulkAll spare + 1
  | .agg parts => uptoBulkAll parts + 1
  | .iface _ d => uptoBulk d + 1
  | .map entries => uptoBulkEntries entries + 1
  | .held _ => 1
def uptoBulkAll {H : Type} : List (DataW H) → Nat
  | [] => 0
  | d :: r => uptoBulk d + uptoBulkAll r
def uptoBulkEntries {H : Type} : List (Lit × DataW H) → Nat
  | [] => 0
  | x :: r => uptoBulkEntry x + uptoBulkEntries r
def uptoBulkEntry {H : Type} : Lit × DataW H → Nat
  | (.string bytes, d) => bytes.length + uptoBulk d + 1
  | (_, d) => uptoBulk d + 1
 end
def uptoSmall : (H : Type) → List (DataW H) → Bool := fun _ ds => decide (uptoBulkAll ds ≤ 1048576)
def OpenSpec.upto (s : _root_.Go.ChangeSpec) : _root_.Go.OpenSpec := { _root_.Go.OpenSpec.ofChange s with cond := some uptoSmall }

/-- 'spinneylaw26.PathsPut', WHERE WHAT IT READS IS OF BULK AT MOST 1048576: true; the input reads as it did. -/
def pathsPutUptoRow : OpenClaim := { program := "ytmbgaaoneaplmaadoor", sum := "e0626423f6ae12e5ba79bfa5b22586f25cdeeb9415ef12a2e1bed15744364982", func := "spinney/spinneylaw26.PathsPut", spec := "pathsPut", inPlace := ["internal/bytealg.abigen_runtime_cmpstring", "slices.overlaps[spinney/api.Value]"], unfollowed := true, recurses := true, named := ["unicode/utf8.first", "unicode/utf8.acceptRanges"], loops := true, apart := false, laid := [("unicode/utf8.acceptRanges", laid_unicode_utf8_acceptRanges), ("unicode/utf8.first", laid_unicode_utf8_first)], narrowed := true }
def PathsPutUptoSaid : Prop := pathsPutUptoRow.holds Tryd.pinned (OpenSpec.upto pathsPutSpec)

/-- 'spinneylaw26.PathsBack', WHERE WHAT IT READS IS OF BULK AT MOST 1048576: true; the input reads as it did. -/
def pathsBackUptoRow : OpenClaim := { program := "ytmbgaaoneaplmaadoor", sum := "e0626423f6ae12e5ba79bfa5b22586f25cdeeb9415ef12a2e1bed15744364982", func := "spinney/spinneylaw26.PathsBack", spec := "pathsBack", inPlace := ["internal/bytealg.abigen_runtime_cmpstring", "slices.overlaps[spinney/api.Value]"], unfollowed := true, recurses := true, named := ["unicode/utf8.first", "unicode/utf8.acceptRanges"], loops := true, apart := false, laid := [("unicode/utf8.acceptRanges", laid_unicode_utf8_acceptRanges), ("unicode/utf8.first", laid_unicode_utf8_first)], narrowed := true }
def PathsBackUptoSaid : Prop := pathsBackUptoRow.holds Tryd.pinned (OpenSpec.upto pathsBackSpec)

/-- 'spinneylaw25.AlgebraOn', WHERE WHAT IT READS IS OF BULK AT MOST 1048576: true; the input reads as it did. -/
def algebraOnUptoRow : OpenClaim := { program := "ytmbgaaoneaplmaadoor", sum := "e0626423f6ae12e5ba79bfa5b22586f25cdeeb9415ef12a2e1bed15744364982", func := "spinney/spinneylaw25.AlgebraOn", spec := "algebraOn", inPlace := ["internal/bytealg.abigen_runtime_cmpstring", "slices.overlaps[spinney/api.Pair]"], unfollowed := true, recurses := true, named := ["unicode/utf8.first", "unicode/utf8.acceptRanges"], loops := true, apart := false, laid := [("unicode/utf8.acceptRanges", laid_unicode_utf8_acceptRanges), ("unicode/utf8.first", laid_unicode_utf8_first)], narrowed := true }
def AlgebraOnUptoSaid : Prop := algebraOnUptoRow.holds Tryd.pinned (OpenSpec.upto algebraOnSpec)

/-- 'spinneylaw26.PathsOnly', WHERE WHAT IT READS IS OF BULK AT MOST 1048576: true; the input reads as it did. -/
def pathsOnlyUptoRow : OpenClaim := { program := "ytmbgaaoneaplmaadoor", sum := "e0626423f6ae12e5ba79bfa5b22586f25cdeeb9415ef12a2e1bed15744364982", func := "spinney/spinneylaw26.PathsOnly", spec := "pathsOnly", inPlace := ["internal/bytealg.abigen_runtime_cmpstring", "slices.overlaps[spinney/api.Value]"], unfollowed := true, recurses := true, named := ["unicode/utf8.first", "unicode/utf8.acceptRanges"], loops := true, apart := false, laid := [("unicode/utf8.acceptRanges", laid_unicode_utf8_acceptRanges), ("unicode/utf8.first", laid_unicode_utf8_first)], narrowed := true }
def PathsOnlyUptoSaid : Prop := pathsOnlyUptoRow.holds Tryd.pinned (OpenSpec.upto pathsOnlySpec)

/-- 'spinneylaw26.PathsMerge', WHERE WHAT IT READS IS OF BULK AT MOST 1048576: true; the input reads as it did. -/
def pathsMergeUptoRow : OpenClaim := { program := "ytmbgaaoneaplmaadoor", sum := "e0626423f6ae12e5ba79bfa5b22586f25cdeeb9415ef12a2e1bed15744364982", func := "spinney/spinneylaw26.PathsMerge", spec := "pathsMerge", inPlace := ["internal/bytealg.abigen_runtime_cmpstring", "slices.overlaps[spinney/api.Value]"], unfollowed := true, recurses := true, named := ["unicode/utf8.first", "unicode/utf8.acceptRanges"], loops := true, apart := false, laid := [("unicode/utf8.acceptRanges", laid_unicode_utf8_acceptRanges), ("unicode/utf8.first", laid_unicode_utf8_first)], narrowed := true }
def PathsMergeUptoSaid : Prop := pathsMergeUptoRow.holds Tryd.pinned (OpenSpec.upto pathsMergeSpec)

/-- 'spinneylaw26.PathsGet', WHERE WHAT IT READS IS OF BULK AT MOST 1048576: true; the input reads as it did. -/
def pathsGetUptoRow : OpenClaim := { program := "ytmbgaaoneaplmaadoor", sum := "e0626423f6ae12e5ba79bfa5b22586f25cdeeb9415ef12a2e1bed15744364982", func := "spinney/spinneylaw26.PathsGet", spec := "pathsGet", inPlace := ["internal/bytealg.abigen_runtime_cmpstring", "slices.overlaps[spinney/api.Value]"], unfollowed := true, recurses := true, named := ["unicode/utf8.first", "unicode/utf8.acceptRanges"], loops := true, apart := false, laid := [("unicode/utf8.acceptRanges", laid_unicode_utf8_acceptRanges), ("unicode/utf8.first", laid_unicode_utf8_first)], narrowed := true }
def PathsGetUptoSaid : Prop := pathsGetUptoRow.holds Tryd.pinned (OpenSpec.upto pathsGetSpec)

/-- 'spinneylaw25.AlgebraParts', WHERE WHAT IT READS IS OF BULK AT MOST 1048576: true; the input reads as it did. -/
def algebraPartsUptoRow : OpenClaim := { program := "ytmbgaaoneaplmaadoor", sum := "e0626423f6ae12e5ba79bfa5b22586f25cdeeb9415ef12a2e1bed15744364982", func := "spinney/spinneylaw25.AlgebraParts", spec := "algebraParts", inPlace := ["internal/bytealg.abigen_runtime_cmpstring", "slices.overlaps[spinney/api.Pair]"], unfollowed := true, recurses := true, named := ["unicode/utf8.first", "unicode/utf8.acceptRanges"], loops := true, apart := false, laid := [("unicode/utf8.acceptRanges", laid_unicode_utf8_acceptRanges), ("unicode/utf8.first", laid_unicode_utf8_first)], narrowed := true }
def AlgebraPartsUptoSaid : Prop := algebraPartsUptoRow.holds Tryd.pinned (OpenSpec.upto algebraPartsSpec)

/-- 'spinneylaw25.AlgebraGroups', WHERE WHAT IT READS IS OF BULK AT MOST 1048576: true; the input reads as it did. -/
def algebraGroupsUptoRow : OpenClaim := { program := "ytmbgaaoneaplmaadoor", sum := "e0626423f6ae12e5ba79bfa5b22586f25cdeeb9415ef12a2e1bed15744364982", func := "spinney/spinneylaw25.AlgebraGroups", spec := "algebraGroups", inPlace := ["internal/bytealg.abigen_runtime_cmpstring", "slices.overlaps[spinney/api.Pair]", "slices.overlaps[spinney/api.Value]"], unfollowed := true, recurses := true, named := ["unicode/utf8.first", "unicode/utf8.acceptRanges"], loops := true, apart := false, laid := [("unicode/utf8.acceptRanges", laid_unicode_utf8_acceptRanges), ("unicode/utf8.first", laid_unicode_utf8_first)], narrowed := true }
def AlgebraGroupsUptoSaid : Prop := algebraGroupsUptoRow.holds Tryd.pinned (OpenSpec.upto algebraGroupsSpec)

end Rows
end Go.Proofs.YtmbgaaoneaplmaaDoor
