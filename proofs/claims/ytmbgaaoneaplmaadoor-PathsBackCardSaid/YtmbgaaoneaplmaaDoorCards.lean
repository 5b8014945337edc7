/-
  DERIVED. GIVEN WITH THE SEED: THE CARDS: each row of YtmbgaaoneaplmaaDoorRows.lean that lists a variable, with what it lists TIED to the program's text (the seventh form; the later family's looks); each row that meets fmt, with fmt's text TOLD by the authors' own Lean function (tested against real Go, not proved from fmt's source: count such statements apart). THE CARD IS WHAT COUNTS. Prove the row's statement (the work); the ties are given (YtmbgaaoneaplmaaDoorTie.lean); close each card by the builder's one call (the guide's Derived/Test/ToyasCard.lean, 'card_holds'). Laid BY PROGRAM, IN A SANDBOX (cutbox-door.mjs). By AI agents, Wed Nov 11 2026. No macro, syntax, notation, axiom, sorry.
-/
import Derived.Test.YtmbgaaoneaplmaaDoorRows
import GoSem.ClaimSeven
namespace Go.Proofs.YtmbgaaoneaplmaaDoor
namespace Rows

/-- THE TIED CARD OF 'spinneylaw26.PathsPut'. -/
def pathsPutCard : Claim7 := { stood := { row := pathsPutRow, standIns := [], harness := (true, "64a5b16f278c482ad3def364ec763296e66fd6629695ef20e9a614fff4bc338b"), looks := true }, kinds := [], alts := [], laidByText := true, laidKinds := [.data, .pinned], laidTests := true, laidLooks := .later }
def PathsPutCardSaid : Prop := Claim7.holds Tryd.pinned (.plain (OpenSpec.ofChange pathsPutSpec)) pathsPutCard

/-- THE TIED CARD OF 'spinneylaw26.PathsBack'. -/
def pathsBackCard : Claim7 := { stood := { row := pathsBackRow, standIns := [], harness := (true, "64a5b16f278c482ad3def364ec763296e66fd6629695ef20e9a614fff4bc338b"), looks := true }, kinds := [], alts := [], laidByText := true, laidKinds := [.data, .pinned], laidTests := true, laidLooks := .later }
def PathsBackCardSaid : Prop := Claim7.holds Tryd.pinned (.plain (OpenSpec.ofChange pathsBackSpec)) pathsBackCard

/-- THE TIED CARD OF 'spinneylaw25.AlgebraOn'. -/
def algebraOnCard : Claim7 := { stood := { row := algebraOnRow, standIns := [], harness := (true, "64a5b16f278c482ad3def364ec763296e66fd6629695ef20e9a614fff4bc338b"), looks := true }, kinds := [], alts := [], laidByText := true, laidKinds := [.data, .pinned], laidTests := true, laidLooks := .later }
def AlgebraOnCardSaid : Prop := Claim7.holds Tryd.pinned (.plain (OpenSpec.ofChange algebraOnSpec)) algebraOnCard

/-- THE TIED CARD OF 'spinneylaw26.PathsOnly'. -/
def pathsOnlyCard : Claim7 := { stood := { row := pathsOnlyRow, standIns := [], harness := (true, "64a5b16f278c482ad3def364ec763296e66fd6629695ef20e9a614fff4bc338b"), looks := true }, kinds := [], alts := [], laidByText := true, laidKinds := [.data, .pinned], laidTests := true, laidLooks := .later }
def PathsOnlyCardSaid : Prop := Claim7.holds Tryd.pinned (.plain (OpenSpec.ofChange pathsOnlySpec)) pathsOnlyCard

/-- THE TIED CARD OF 'spinneylaw26.PathsMerge'. -/
def pathsMergeCard : Claim7 := { stood := { row := pathsMergeRow, standIns := [], harness := (true, "64a5b16f278c482ad3def364ec763296e66fd6629695ef20e9a614fff4bc338b"), looks := true }, kinds := [], alts := [], laidByText := true, laidKinds := [.data, .pinned], laidTests := true, laidLooks := .later }
def PathsMergeCardSaid : Prop := Claim7.holds Tryd.pinned (.plain (OpenSpec.ofChange pathsMergeSpec)) pathsMergeCard

/-- THE TIED CARD OF 'spinneylaw26.PathsGet'. -/
def pathsGetCard : Claim7 := { stood := { row := pathsGetRow, standIns := [], harness := (true, "64a5b16f278c482ad3def364ec763296e66fd6629695ef20e9a614fff4bc338b"), looks := true }, kinds := [], alts := [], laidByText := true, laidKinds := [.data, .pinned], laidTests := true, laidLooks := .later }
def PathsGetCardSaid : Prop := Claim7.holds Tryd.pinned (.plain (OpenSpec.ofChange pathsGetSpec)) pathsGetCard

/-- THE TIED CARD OF 'spinneylaw25.AlgebraParts'. -/
def algebraPartsCard : Claim7 := { stood := { row := algebraPartsRow, standIns := [], harness := (true, "64a5b16f278c482ad3def364ec763296e66fd6629695ef20e9a614fff4bc338b"), looks := true }, kinds := [], alts := [], laidByText := true, laidKinds := [.data, .pinned], laidTests := true, laidLooks := .later }
def AlgebraPartsCardSaid : Prop := Claim7.holds Tryd.pinned (.plain (OpenSpec.ofChange algebraPartsSpec)) algebraPartsCard

/-- THE TIED CARD OF 'spinneylaw25.AlgebraGroups'. -/
def algebraGroupsCard : Claim7 := { stood := { row := algebraGroupsRow, standIns := [], harness := (true, "64a5b16f278c482ad3def364ec763296e66fd6629695ef20e9a614fff4bc338b"), looks := true }, kinds := [], alts := [], laidByText := true, laidKinds := [.data, .pinned], laidTests := true, laidLooks := .later }
def AlgebraGroupsCardSaid : Prop := Claim7.holds Tryd.pinned (.plain (OpenSpec.ofChange algebraGroupsSpec)) algebraGroupsCard

/-- THE SECOND FORM's CARD OF 'spinneylaw26.PathsPut'. -/
def pathsPutUptoCard : Claim7 := { stood := { row := pathsPutUptoRow, standIns := [], harness := (true, "64a5b16f278c482ad3def364ec763296e66fd6629695ef20e9a614fff4bc338b"), looks := true }, kinds := [], alts := [], laidByText := true, laidKinds := [.data, .pinned], laidTests := true, laidLooks := .later }
def PathsPutUptoCardSaid : Prop := Claim7.holds Tryd.pinned (.plain (OpenSpec.upto pathsPutSpec)) pathsPutUptoCard

/-- THE SECOND FORM's CARD OF 'spinneylaw26.PathsBack'. -/
def pathsBackUptoCard : Claim7 := { stood := { row := pathsBackUptoRow, standIns := [], harness := (true, "64a5b16f278c482ad3def364ec763296e66fd6629695ef20e9a614fff4bc338b"), looks := true }, kinds := [], alts := [], laidByText := true, laidKinds := [.data, .pinned], laidTests := true, laidLooks := .later }
def PathsBackUptoCardSaid : Prop := Claim7.holds Tryd.pinned (.plain (OpenSpec.upto pathsBackSpec)) pathsBackUptoCard

/-- THE SECOND FORM's CARD OF 'spinneylaw25.AlgebraOn'. -/
def algebraOnUptoCard : Claim7 := { stood := { row := algebraOnUptoRow, standIns := [], harness := (true, "64a5b16f278c482ad3def364ec763296e66fd6629695ef20e9a614fff4bc338b"), looks := true }, kinds := [], alts := [], laidByText := true, laidKinds := [.data, .pinned], laidTests := true, laidLooks := .later }
def AlgebraOnUptoCardSaid : Prop := Claim7.holds Tryd.pinned (.plain (OpenSpec.upto algebraOnSpec)) algebraOnUptoCard

/-- THE SECOND FORM's CARD OF 'spinneylaw26.PathsOnly'. -/
def pathsOnlyUptoCard : Claim7 := { stood := { row := pathsOnlyUptoRow, standIns := [], harness := (true, "64a5b16f278c482ad3def364ec763296e66fd6629695ef20e9a614fff4bc338b"), looks := true }, kinds := [], alts := [], laidByText := true, laidKinds := [.data, .pinned], laidTests := true, laidLooks := .later }
def PathsOnlyUptoCardSaid : Prop := Claim7.holds Tryd.pinned (.plain (OpenSpec.upto pathsOnlySpec)) pathsOnlyUptoCard

/-- THE SECOND FORM's CARD OF 'spinneylaw26.PathsMerge'. -/
def pathsMergeUptoCard : Claim7 := { stood := { row := pathsMergeUptoRow, standIns := [], harness := (true, "64a5b16f278c482ad3def364ec763296e66fd6629695ef20e9a614fff4bc338b"), looks := true }, kinds := [], alts := [], laidByText := true, laidKinds := [.data, .pinned], laidTests := true, laidLooks := .later }
def PathsMergeUptoCardSaid : Prop := Claim7.holds Tryd.pinned (.plain (OpenSpec.upto pathsMergeSpec)) pathsMergeUptoCard

/-- THE SECOND FORM's CARD OF 'spinneylaw26.PathsGet'. -/
def pathsGetUptoCard : Claim7 := { stood := { row := pathsGetUptoRow, standIns := [], harness := (true, "64a5b16f278c482ad3def364ec763296e66fd6629695ef20e9a614fff4bc338b"), looks := true }, kinds := [], alts := [], laidByText := true, laidKinds := [.data, .pinned], laidTests := true, laidLooks := .later }
def PathsGetUptoCardSaid : Prop := Claim7.holds Tryd.pinned (.plain (OpenSpec.upto pathsGetSpec)) pathsGetUptoCard

/-- THE SECOND FORM's CARD OF 'spinneylaw25.AlgebraParts'. -/
def algebraPartsUptoCard : Claim7 := { stood := { row := algebraPartsUptoRow, standIns := [], harness := (true, "64a5b16f278c482ad3def364ec763296e66fd6629695ef20e9a614fff4bc338b"), looks := true }, kinds := [], alts := [], laidByText := true, laidKinds := [.data, .pinned], laidTests := true, laidLooks := .later }
def AlgebraPartsUptoCardSaid : Prop := Claim7.holds Tryd.pinned (.plain (OpenSpec.upto algebraPartsSpec)) algebraPartsUptoCard

/-- THE SECOND FORM's CARD OF 'spinneylaw25.AlgebraGroups'. -/
def algebraGroupsUptoCard : Claim7 := { stood := { row := algebraGroupsUptoRow, standIns := [], harness := (true, "64a5b16f278c482ad3def364ec763296e66fd6629695ef20e9a614fff4bc338b"), looks := true }, kinds := [], alts := [], laidByText := true, laidKinds := [.data, .pinned], laidTests := true, laidLooks := .later }
def AlgebraGroupsUptoCardSaid : Prop := Claim7.holds Tryd.pinned (.plain (OpenSpec.upto algebraGroupsSpec)) algebraGroupsUptoCard
end Rows
end Go.Proofs.YtmbgaaoneaplmaaDoor
