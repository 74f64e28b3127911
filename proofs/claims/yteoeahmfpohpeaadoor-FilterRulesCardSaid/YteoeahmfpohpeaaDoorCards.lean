/-
  DERIVED. GIVEN WITH THE SEED: THE CARDS: each row of YteoeahmfpohpeaaDoorRows.lean that lists a variable, with what it lists TIED to the program's text (the seventh form; the later family's looks); each row that meets fmt, with fmt's text TOLD by the authors' own Lean function (tested against real Go, not proved from fmt's source: count such statements apart). THE CARD IS WHAT COUNTS. Prove the row's statement (the work); the ties are given (YteoeahmfpohpeaaDoorTie.lean); close each card by the builder's one call (the guide's Derived/Test/ToyasCard.lean, 'card_holds'). Laid BY PROGRAM, IN A SANDBOX (cutbox-door.mjs). By AI agents, Wed Nov 11 2026. No macro, syntax, notation, axiom, sorry.
-/
import Derived.Test.YteoeahmfpohpeaaDoorRows
import GoSem.ClaimSeven
namespace Go.Proofs.YteoeahmfpohpeaaDoor
namespace Rows

/-- THE TIED CARD OF 'lodestarlaw16.FilterIds'. -/
def filterIdsCard : Claim7 := { stood := { row := filterIdsRow, standIns := [], harness := (true, "1d6ad9bd1ba4d915fb67bb1424a9d3dec73ffbe3f47722ab85e6fca80ae413ef"), looks := true }, kinds := [], alts := [], laidByText := true, laidKinds := [.data, .pinned], laidTests := true, laidLooks := .later }
def FilterIdsCardSaid : Prop := Claim7.holds Tryd.pinned (.plain (OpenSpec.ofChange filterIdsSpec)) filterIdsCard

/-- THE TIED CARD OF 'lodestarlaw16.FilterRules'. -/
def filterRulesCard : Claim7 := { stood := { row := filterRulesRow, standIns := [], harness := (true, "1d6ad9bd1ba4d915fb67bb1424a9d3dec73ffbe3f47722ab85e6fca80ae413ef"), looks := true }, kinds := [], alts := [], laidByText := true, laidKinds := [.data, .pinned], laidTests := true, laidLooks := .later }
def FilterRulesCardSaid : Prop := Claim7.holds Tryd.pinned (.plain (OpenSpec.ofChange filterRulesSpec)) filterRulesCard

/-- THE TIED CARD OF 'lodestarlaw16.FilterParts'. -/
def filterPartsCard : Claim7 := { stood := { row := filterPartsRow, standIns := [], harness := (true, "1d6ad9bd1ba4d915fb67bb1424a9d3dec73ffbe3f47722ab85e6fca80ae413ef"), looks := true }, kinds := [], alts := [], laidByText := true, laidKinds := [.data, .pinned], laidTests := true, laidLooks := .later }
def FilterPartsCardSaid : Prop := Claim7.holds Tryd.pinned (.plain (OpenSpec.ofChange filterPartsSpec)) filterPartsCard

/-- THE SECOND FORM's CARD OF 'lodestarlaw16.FilterIds'. -/
def filterIdsUptoCard : Claim7 := { stood := { row := filterIdsUptoRow, standIns := [], harness := (true, "1d6ad9bd1ba4d915fb67bb1424a9d3dec73ffbe3f47722ab85e6fca80ae413ef"), looks := true }, kinds := [], alts := [], laidByText := true, laidKinds := [.data, .pinned], laidTests := true, laidLooks := .later }
def FilterIdsUptoCardSaid : Prop := Claim7.holds Tryd.pinned (.plain (OpenSpec.upto filterIdsSpec)) filterIdsUptoCard

/-- THE SECOND FORM's CARD OF 'lodestarlaw16.FilterRules'. -/
def filterRulesUptoCard : Claim7 := { stood := { row := filterRulesUptoRow, standIns := [], harness := (true, "1d6ad9bd1ba4d915fb67bb1424a9d3dec73ffbe3f47722ab85e6fca80ae413ef"), looks := true }, kinds := [], alts := [], laidByText := true, laidKinds := [.data, .pinned], laidTests := true, laidLooks := .later }
def FilterRulesUptoCardSaid : Prop := Claim7.holds Tryd.pinned (.plain (OpenSpec.upto filterRulesSpec)) filterRulesUptoCard

/-- THE SECOND FORM's CARD OF 'lodestarlaw16.FilterParts'. -/
def filterPartsUptoCard : Claim7 := { stood := { row := filterPartsUptoRow, standIns := [], harness := (true, "1d6ad9bd1ba4d915fb67bb1424a9d3dec73ffbe3f47722ab85e6fca80ae413ef"), looks := true }, kinds := [], alts := [], laidByText := true, laidKinds := [.data, .pinned], laidTests := true, laidLooks := .later }
def FilterPartsUptoCardSaid : Prop := Claim7.holds Tryd.pinned (.plain (OpenSpec.upto filterPartsSpec)) filterPartsUptoCard
end Rows
end Go.Proofs.YteoeahmfpohpeaaDoor
