/-
  DERIVED. GIVEN WITH THE SEED: THE CARDS: each row of YtnkfgedpdokcpaaDoorRows.lean that lists a variable, with what it lists TIED to the program's text (the seventh form; the later family's looks); each row that meets fmt, with fmt's text TOLD by the authors' own Lean function (tested against real Go, not proved from fmt's source: count such statements apart). THE CARD IS WHAT COUNTS. Prove the row's statement (the work); the ties are given (YtnkfgedpdokcpaaDoorTie.lean); close each card by the builder's one call (the guide's Derived/Test/ToyasCard.lean, 'card_holds'). Laid BY PROGRAM, IN A SANDBOX (cutbox-door.mjs). By AI agents, Wed Nov 11 2026. No macro, syntax, notation, axiom, sorry.
-/
import Derived.Test.YtnkfgedpdokcpaaDoorRows
import GoSem.ClaimSeven
namespace Go.Proofs.YtnkfgedpdokcpaaDoor
namespace Rows

/-- THE TIED CARD OF 'footmanlaw07.DatesCookies'. -/
def datesCookiesCard : Claim7 := { stood := { row := datesCookiesRow, standIns := [], harness := (true, "b53815d3c7c5813e90d6939ba5ab6a813bc20380a877d94f8d56614568cbaf9f"), looks := true }, kinds := [], alts := [], laidByText := true, laidKinds := [.data, .data, .data, .data, .sentinel, .sentinel, .pinned], laidTests := true, laidLooks := .later }
def DatesCookiesCardSaid : Prop := Claim7.holds Tryd.pinned (.plain (OpenSpec.ofChange datesCookiesSpec)) datesCookiesCard

/-- THE TIED CARD OF 'footmanlaw07.DatesTexts'. -/
def datesTextsCard : Claim7 := { stood := { row := datesTextsRow, standIns := [], harness := (true, "b53815d3c7c5813e90d6939ba5ab6a813bc20380a877d94f8d56614568cbaf9f"), looks := true }, kinds := [], alts := [], laidByText := true, laidKinds := [.data, .data, .data, .data, .sentinel, .sentinel, .pinned], laidTests := true, laidLooks := .later }
def DatesTextsCardSaid : Prop := Claim7.holds Tryd.pinned (.plain (OpenSpec.ofChange datesTextsSpec)) datesTextsCard

/-- THE TIED CARD OF 'footmanlaw07.DatesBack'. -/
def datesBackCard : Claim7 := { stood := { row := datesBackRow, standIns := [], harness := (true, "b53815d3c7c5813e90d6939ba5ab6a813bc20380a877d94f8d56614568cbaf9f"), looks := true }, kinds := [], alts := [], laidByText := true, laidKinds := [.data, .data, .data, .data, .sentinel, .sentinel, .pinned], laidTests := true, laidLooks := .later }
def DatesBackCardSaid : Prop := Claim7.holds Tryd.pinned (.plain (OpenSpec.ofChange datesBackSpec)) datesBackCard

/-- THE TIED CARD OF 'footmanlaw07.DatesBegin'. -/
def datesBeginCard : Claim7 := { stood := { row := datesBeginRow, standIns := [], harness := (true, "b53815d3c7c5813e90d6939ba5ab6a813bc20380a877d94f8d56614568cbaf9f"), looks := true }, kinds := [], alts := [], laidByText := true, laidKinds := [.data, .data, .data, .data, .sentinel, .sentinel, .pinned], laidTests := true, laidLooks := .later }
def DatesBeginCardSaid : Prop := Claim7.holds Tryd.pinned (.plain (OpenSpec.ofChange datesBeginSpec)) datesBeginCard

/-- THE TIED CARD OF 'footmanlaw07.DatesNext'. -/
def datesNextCard : Claim7 := { stood := { row := datesNextRow, standIns := [], harness := (true, "b53815d3c7c5813e90d6939ba5ab6a813bc20380a877d94f8d56614568cbaf9f"), looks := true }, kinds := [], alts := [], laidByText := true, laidKinds := [.data, .data, .data, .data, .sentinel, .sentinel, .pinned], laidTests := true, laidLooks := .later }
def DatesNextCardSaid : Prop := Claim7.holds Tryd.pinned (.plain (OpenSpec.ofChange datesNextSpec)) datesNextCard

/-- THE TIED CARD OF 'footmanlaw07.DatesLeap'. -/
def datesLeapCard : Claim7 := { stood := { row := datesLeapRow, standIns := [], harness := (true, "b53815d3c7c5813e90d6939ba5ab6a813bc20380a877d94f8d56614568cbaf9f"), looks := true }, kinds := [], alts := [], laidByText := true, laidKinds := [.data, .data, .data, .data, .sentinel, .sentinel, .pinned], laidTests := true, laidLooks := .later }
def DatesLeapCardSaid : Prop := Claim7.holds Tryd.pinned (.plain (OpenSpec.ofChange datesLeapSpec)) datesLeapCard

/-- THE TIED CARD OF 'footmanlaw07.DatesForms'. -/
def datesFormsCard : Claim7 := { stood := { row := datesFormsRow, standIns := [], harness := (true, "b53815d3c7c5813e90d6939ba5ab6a813bc20380a877d94f8d56614568cbaf9f"), looks := true }, kinds := [], alts := [], laidByText := true, laidKinds := [.data, .data, .data, .data, .sentinel, .sentinel, .pinned], laidTests := true, laidLooks := .later }
def DatesFormsCardSaid : Prop := Claim7.holds Tryd.pinned (.plain (OpenSpec.ofChange datesFormsSpec)) datesFormsCard

/-- THE SECOND FORM's CARD OF 'footmanlaw07.DatesCookies'. -/
def datesCookiesUptoCard : Claim7 := { stood := { row := datesCookiesUptoRow, standIns := [], harness := (true, "b53815d3c7c5813e90d6939ba5ab6a813bc20380a877d94f8d56614568cbaf9f"), looks := true }, kinds := [], alts := [], laidByText := true, laidKinds := [.data, .data, .data, .data, .sentinel, .sentinel, .pinned], laidTests := true, laidLooks := .later }
def DatesCookiesUptoCardSaid : Prop := Claim7.holds Tryd.pinned (.plain (OpenSpec.upto datesCookiesSpec)) datesCookiesUptoCard

/-- THE SECOND FORM's CARD OF 'footmanlaw07.DatesTexts'. -/
def datesTextsUptoCard : Claim7 := { stood := { row := datesTextsUptoRow, standIns := [], harness := (true, "b53815d3c7c5813e90d6939ba5ab6a813bc20380a877d94f8d56614568cbaf9f"), looks := true }, kinds := [], alts := [], laidByText := true, laidKinds := [.data, .data, .data, .data, .sentinel, .sentinel, .pinned], laidTests := true, laidLooks := .later }
def DatesTextsUptoCardSaid : Prop := Claim7.holds Tryd.pinned (.plain (OpenSpec.upto datesTextsSpec)) datesTextsUptoCard

/-- THE SECOND FORM's CARD OF 'footmanlaw07.DatesBack'. -/
def datesBackUptoCard : Claim7 := { stood := { row := datesBackUptoRow, standIns := [], harness := (true, "b53815d3c7c5813e90d6939ba5ab6a813bc20380a877d94f8d56614568cbaf9f"), looks := true }, kinds := [], alts := [], laidByText := true, laidKinds := [.data, .data, .data, .data, .sentinel, .sentinel, .pinned], laidTests := true, laidLooks := .later }
def DatesBackUptoCardSaid : Prop := Claim7.holds Tryd.pinned (.plain (OpenSpec.upto datesBackSpec)) datesBackUptoCard

/-- THE SECOND FORM's CARD OF 'footmanlaw07.DatesBegin'. -/
def datesBeginUptoCard : Claim7 := { stood := { row := datesBeginUptoRow, standIns := [], harness := (true, "b53815d3c7c5813e90d6939ba5ab6a813bc20380a877d94f8d56614568cbaf9f"), looks := true }, kinds := [], alts := [], laidByText := true, laidKinds := [.data, .data, .data, .data, .sentinel, .sentinel, .pinned], laidTests := true, laidLooks := .later }
def DatesBeginUptoCardSaid : Prop := Claim7.holds Tryd.pinned (.plain (OpenSpec.upto datesBeginSpec)) datesBeginUptoCard

/-- THE SECOND FORM's CARD OF 'footmanlaw07.DatesNext'. -/
def datesNextUptoCard : Claim7 := { stood := { row := datesNextUptoRow, standIns := [], harness := (true, "b53815d3c7c5813e90d6939ba5ab6a813bc20380a877d94f8d56614568cbaf9f"), looks := true }, kinds := [], alts := [], laidByText := true, laidKinds := [.data, .data, .data, .data, .sentinel, .sentinel, .pinned], laidTests := true, laidLooks := .later }
def DatesNextUptoCardSaid : Prop := Claim7.holds Tryd.pinned (.plain (OpenSpec.upto datesNextSpec)) datesNextUptoCard

/-- THE SECOND FORM's CARD OF 'footmanlaw07.DatesLeap'. -/
def datesLeapUptoCard : Claim7 := { stood := { row := datesLeapUptoRow, standIns := [], harness := (true, "b53815d3c7c5813e90d6939ba5ab6a813bc20380a877d94f8d56614568cbaf9f"), looks := true }, kinds := [], alts := [], laidByText := true, laidKinds := [.data, .data, .data, .data, .sentinel, .sentinel, .pinned], laidTests := true, laidLooks := .later }
def DatesLeapUptoCardSaid : Prop := Claim7.holds Tryd.pinned (.plain (OpenSpec.upto datesLeapSpec)) datesLeapUptoCard

/-- THE SECOND FORM's CARD OF 'footmanlaw07.DatesForms'. -/
def datesFormsUptoCard : Claim7 := { stood := { row := datesFormsUptoRow, standIns := [], harness := (true, "b53815d3c7c5813e90d6939ba5ab6a813bc20380a877d94f8d56614568cbaf9f"), looks := true }, kinds := [], alts := [], laidByText := true, laidKinds := [.data, .data, .data, .data, .sentinel, .sentinel, .pinned], laidTests := true, laidLooks := .later }
def DatesFormsUptoCardSaid : Prop := Claim7.holds Tryd.pinned (.plain (OpenSpec.upto datesFormsSpec)) datesFormsUptoCard
end Rows
end Go.Proofs.YtnkfgedpdokcpaaDoor
