/-
  DERIVED. GIVEN WITH THE SEED: THE CARDS: each row of YthjemhlcojmiaaaDoorRows.lean that lists a variable, with what it lists TIED to the program's text (the seventh form; the later family's looks); each row that meets fmt, with fmt's text TOLD by the authors' own Lean function (tested against real Go, not proved from fmt's source: count such statements apart). THE CARD IS WHAT COUNTS. Prove the row's statement (the work); the ties are given (YthjemhlcojmiaaaDoorTie.lean); close each card by the builder's one call (the guide's Derived/Test/ToyasCard.lean, 'card_holds'). Laid BY PROGRAM, IN A SANDBOX (cutbox-door.mjs). By AI agents, Wed Nov 11 2026. No macro, syntax, notation, axiom, sorry.
-/
import Derived.Test.YthjemhlcojmiaaaDoorRows
import GoSem.ClaimSeven
namespace Go.Proofs.YthjemhlcojmiaaaDoor
namespace Rows

/-- THE TIED CARD OF 'lodesmanlaw01.WordLeast'. -/
def wordLeastCard : Claim7 := { stood := { row := wordLeastRow, standIns := [], harness := (true, "9926f9edb46ceb32f147ef72ab8453744c45e18123cd07f2e082a28ca4d5f9c2"), looks := false }, kinds := [], alts := [], laidByText := true, laidKinds := [.data, .data, .data], laidTests := true, laidLooks := .later }
def WordLeastCardSaid : Prop := Claim7.holds Tryd.pinned (.plain (OpenSpec.ofChange wordLeastSpec)) wordLeastCard

/-- THE TIED CARD OF 'lodesmanlaw01.WordTexts'. -/
def wordTextsCard : Claim7 := { stood := { row := wordTextsRow, standIns := [], harness := (true, "9926f9edb46ceb32f147ef72ab8453744c45e18123cd07f2e082a28ca4d5f9c2"), looks := false }, kinds := [], alts := [], laidByText := true, laidKinds := [.data, .data, .data], laidTests := true, laidLooks := .later }
def WordTextsCardSaid : Prop := Claim7.holds Tryd.pinned (.plain (OpenSpec.ofChange wordTextsSpec)) wordTextsCard

/-- THE TIED CARD OF 'lodesmanlaw01.WordForms'. -/
def wordFormsCard : Claim7 := { stood := { row := wordFormsRow, standIns := [], harness := (true, "9926f9edb46ceb32f147ef72ab8453744c45e18123cd07f2e082a28ca4d5f9c2"), looks := false }, kinds := [], alts := [], laidByText := true, laidKinds := [.data, .data, .data], laidTests := true, laidLooks := .later }
def WordFormsCardSaid : Prop := Claim7.holds Tryd.pinned (.plain (OpenSpec.ofChange wordFormsSpec)) wordFormsCard

/-- THE TIED CARD OF 'lodesmanlaw01.WordJoins'. -/
def wordJoinsCard : Claim7 := { stood := { row := wordJoinsRow, standIns := [], harness := (true, "9926f9edb46ceb32f147ef72ab8453744c45e18123cd07f2e082a28ca4d5f9c2"), looks := false }, kinds := [], alts := [], laidByText := true, laidKinds := [.data, .data, .data], laidTests := true, laidLooks := .later }
def WordJoinsCardSaid : Prop := Claim7.holds Tryd.pinned (.plain (OpenSpec.ofChange wordJoinsSpec)) wordJoinsCard

/-- THE TIED CARD OF 'lodesmanlaw01.WordPositions'. -/
def wordPositionsCard : Claim7 := { stood := { row := wordPositionsRow, standIns := [], harness := (true, "9926f9edb46ceb32f147ef72ab8453744c45e18123cd07f2e082a28ca4d5f9c2"), looks := false }, kinds := [], alts := [], laidByText := true, laidKinds := [.data, .data, .data], laidTests := true, laidLooks := .later }
def WordPositionsCardSaid : Prop := Claim7.holds Tryd.pinned (.plain (OpenSpec.ofChange wordPositionsSpec)) wordPositionsCard

/-- THE SECOND FORM's CARD OF 'lodesmanlaw01.WordLeast'. -/
def wordLeastUptoCard : Claim7 := { stood := { row := wordLeastUptoRow, standIns := [], harness := (true, "9926f9edb46ceb32f147ef72ab8453744c45e18123cd07f2e082a28ca4d5f9c2"), looks := false }, kinds := [], alts := [], laidByText := true, laidKinds := [.data, .data, .data], laidTests := true, laidLooks := .later }
def WordLeastUptoCardSaid : Prop := Claim7.holds Tryd.pinned (.plain (OpenSpec.upto wordLeastSpec)) wordLeastUptoCard

/-- THE SECOND FORM's CARD OF 'lodesmanlaw01.WordTexts'. -/
def wordTextsUptoCard : Claim7 := { stood := { row := wordTextsUptoRow, standIns := [], harness := (true, "9926f9edb46ceb32f147ef72ab8453744c45e18123cd07f2e082a28ca4d5f9c2"), looks := false }, kinds := [], alts := [], laidByText := true, laidKinds := [.data, .data, .data], laidTests := true, laidLooks := .later }
def WordTextsUptoCardSaid : Prop := Claim7.holds Tryd.pinned (.plain (OpenSpec.upto wordTextsSpec)) wordTextsUptoCard

/-- THE SECOND FORM's CARD OF 'lodesmanlaw01.WordForms'. -/
def wordFormsUptoCard : Claim7 := { stood := { row := wordFormsUptoRow, standIns := [], harness := (true, "9926f9edb46ceb32f147ef72ab8453744c45e18123cd07f2e082a28ca4d5f9c2"), looks := false }, kinds := [], alts := [], laidByText := true, laidKinds := [.data, .data, .data], laidTests := true, laidLooks := .later }
def WordFormsUptoCardSaid : Prop := Claim7.holds Tryd.pinned (.plain (OpenSpec.upto wordFormsSpec)) wordFormsUptoCard

/-- THE SECOND FORM's CARD OF 'lodesmanlaw01.WordJoins'. -/
def wordJoinsUptoCard : Claim7 := { stood := { row := wordJoinsUptoRow, standIns := [], harness := (true, "9926f9edb46ceb32f147ef72ab8453744c45e18123cd07f2e082a28ca4d5f9c2"), looks := false }, kinds := [], alts := [], laidByText := true, laidKinds := [.data, .data, .data], laidTests := true, laidLooks := .later }
def WordJoinsUptoCardSaid : Prop := Claim7.holds Tryd.pinned (.plain (OpenSpec.upto wordJoinsSpec)) wordJoinsUptoCard

/-- THE SECOND FORM's CARD OF 'lodesmanlaw01.WordPositions'. -/
def wordPositionsUptoCard : Claim7 := { stood := { row := wordPositionsUptoRow, standIns := [], harness := (true, "9926f9edb46ceb32f147ef72ab8453744c45e18123cd07f2e082a28ca4d5f9c2"), looks := false }, kinds := [], alts := [], laidByText := true, laidKinds := [.data, .data, .data], laidTests := true, laidLooks := .later }
def WordPositionsUptoCardSaid : Prop := Claim7.holds Tryd.pinned (.plain (OpenSpec.upto wordPositionsSpec)) wordPositionsUptoCard
end Rows
end Go.Proofs.YthjemhlcojmiaaaDoor
