/-
  DERIVED. GIVEN WITH THE SEED: THE CARDS: each row of YtiookngmgednjaaDoorRows.lean that lists a variable, with what it lists TIED to the program's text (the seventh form; the later family's looks); each row that meets fmt, with fmt's text TOLD by the authors' own Lean function (tested against real Go, not proved from fmt's source: count such statements apart). THE CARD IS WHAT COUNTS. Prove the row's statement (the work); the ties are given (YtiookngmgednjaaDoorTie.lean); close each card by the builder's one call (the guide's Derived/Test/ToyasCard.lean, 'card_holds'). Laid BY PROGRAM, IN A SANDBOX (cutbox-door.mjs). By AI agents, Wed Nov 11 2026. No macro, syntax, notation, axiom, sorry.
-/
import Derived.Test.YtiookngmgednjaaDoorRows
import GoSem.ClaimSeven
namespace Go.Proofs.YtiookngmgednjaaDoor
namespace Rows

/-- THE TIED CARD OF 'footmanlaw04.AddrsTexts'. -/
def addrsTextsCard : Claim7 := { stood := { row := addrsTextsRow, standIns := [], harness := (true, "0e9104991100904f5197402f2bca925edc97d1b8f386a0ea94974792ee5bd241"), looks := true }, kinds := [], alts := [], laidByText := true, laidKinds := [.data, .data, .data], laidTests := true, laidLooks := .later }
def AddrsTextsCardSaid : Prop := Claim7.holds Tryd.pinned (.plain (OpenSpec.ofChange addrsTextsSpec)) addrsTextsCard

/-- THE TIED CARD OF 'footmanlaw04.AddrsFours'. -/
def addrsFoursCard : Claim7 := { stood := { row := addrsFoursRow, standIns := [], harness := (true, "0e9104991100904f5197402f2bca925edc97d1b8f386a0ea94974792ee5bd241"), looks := true }, kinds := [], alts := [], laidByText := true, laidKinds := [.data, .data, .data, .data, .sentinel, .sentinel, .pinned], laidTests := true, laidLooks := .later }
def AddrsFoursCardSaid : Prop := Claim7.holds Tryd.pinned (.plain (OpenSpec.ofChange addrsFoursSpec)) addrsFoursCard

/-- THE TIED CARD OF 'footmanlaw04.AddrsSixes'. -/
def addrsSixesCard : Claim7 := { stood := { row := addrsSixesRow, standIns := [], harness := (true, "0e9104991100904f5197402f2bca925edc97d1b8f386a0ea94974792ee5bd241"), looks := true }, kinds := [], alts := [], laidByText := true, laidKinds := [.data, .data, .data, .data, .sentinel, .sentinel, .pinned], laidTests := true, laidLooks := .later }
def AddrsSixesCardSaid : Prop := Claim7.holds Tryd.pinned (.plain (OpenSpec.ofChange addrsSixesSpec)) addrsSixesCard

/-- THE TIED CARD OF 'footmanlaw04.AddrsBack'. -/
def addrsBackCard : Claim7 := { stood := { row := addrsBackRow, standIns := [], harness := (true, "0e9104991100904f5197402f2bca925edc97d1b8f386a0ea94974792ee5bd241"), looks := true }, kinds := [], alts := [], laidByText := true, laidKinds := [.data, .data, .data, .data, .sentinel, .sentinel, .pinned], laidTests := true, laidLooks := .later }
def AddrsBackCardSaid : Prop := Claim7.holds Tryd.pinned (.plain (OpenSpec.ofChange addrsBackSpec)) addrsBackCard

/-- THE TIED CARD OF 'footmanlaw04.AddrsForms'. -/
def addrsFormsCard : Claim7 := { stood := { row := addrsFormsRow, standIns := [], harness := (true, "0e9104991100904f5197402f2bca925edc97d1b8f386a0ea94974792ee5bd241"), looks := true }, kinds := [], alts := [], laidByText := true, laidKinds := [.data, .data, .data, .data, .sentinel, .sentinel, .pinned], laidTests := true, laidLooks := .later }
def AddrsFormsCardSaid : Prop := Claim7.holds Tryd.pinned (.plain (OpenSpec.ofChange addrsFormsSpec)) addrsFormsCard

/-- THE TIED CARD OF 'footmanlaw04.AddrsNames'. -/
def addrsNamesCard : Claim7 := { stood := { row := addrsNamesRow, standIns := [], harness := (true, "0e9104991100904f5197402f2bca925edc97d1b8f386a0ea94974792ee5bd241"), looks := true }, kinds := [], alts := [], laidByText := true, laidKinds := [.data, .data, .data, .data, .sentinel, .sentinel, .pinned], laidTests := true, laidLooks := .later }
def AddrsNamesCardSaid : Prop := Claim7.holds Tryd.pinned (.plain (OpenSpec.ofChange addrsNamesSpec)) addrsNamesCard

/-- THE TIED CARD OF 'footmanlaw04.AddrsShort'. -/
def addrsShortCard : Claim7 := { stood := { row := addrsShortRow, standIns := [], harness := (true, "0e9104991100904f5197402f2bca925edc97d1b8f386a0ea94974792ee5bd241"), looks := true }, kinds := [], alts := [], laidByText := true, laidKinds := [.data, .data, .data, .data, .sentinel, .sentinel, .pinned], laidTests := true, laidLooks := .later }
def AddrsShortCardSaid : Prop := Claim7.holds Tryd.pinned (.plain (OpenSpec.ofChange addrsShortSpec)) addrsShortCard

/-- THE TIED CARD OF 'footmanlaw04.AddrsPieces'. -/
def addrsPiecesCard : Claim7 := { stood := { row := addrsPiecesRow, standIns := [], harness := (true, "0e9104991100904f5197402f2bca925edc97d1b8f386a0ea94974792ee5bd241"), looks := true }, kinds := [], alts := [], laidByText := true, laidKinds := [.data, .data, .data, .data, .sentinel, .sentinel, .pinned], laidTests := true, laidLooks := .later }
def AddrsPiecesCardSaid : Prop := Claim7.holds Tryd.pinned (.plain (OpenSpec.ofChange addrsPiecesSpec)) addrsPiecesCard

/-- THE SECOND FORM's CARD OF 'footmanlaw04.AddrsTexts'. -/
def addrsTextsUptoCard : Claim7 := { stood := { row := addrsTextsUptoRow, standIns := [], harness := (true, "0e9104991100904f5197402f2bca925edc97d1b8f386a0ea94974792ee5bd241"), looks := true }, kinds := [], alts := [], laidByText := true, laidKinds := [.data, .data, .data], laidTests := true, laidLooks := .later }
def AddrsTextsUptoCardSaid : Prop := Claim7.holds Tryd.pinned (.plain (OpenSpec.upto addrsTextsSpec)) addrsTextsUptoCard

/-- THE SECOND FORM's CARD OF 'footmanlaw04.AddrsFours'. -/
def addrsFoursUptoCard : Claim7 := { stood := { row := addrsFoursUptoRow, standIns := [], harness := (true, "0e9104991100904f5197402f2bca925edc97d1b8f386a0ea94974792ee5bd241"), looks := true }, kinds := [], alts := [], laidByText := true, laidKinds := [.data, .data, .data, .data, .sentinel, .sentinel, .pinned], laidTests := true, laidLooks := .later }
def AddrsFoursUptoCardSaid : Prop := Claim7.holds Tryd.pinned (.plain (OpenSpec.upto addrsFoursSpec)) addrsFoursUptoCard

/-- THE SECOND FORM's CARD OF 'footmanlaw04.AddrsSixes'. -/
def addrsSixesUptoCard : Claim7 := { stood := { row := addrsSixesUptoRow, standIns := [], harness := (true, "0e9104991100904f5197402f2bca925edc97d1b8f386a0ea94974792ee5bd241"), looks := true }, kinds := [], alts := [], laidByText := true, laidKinds := [.data, .data, .data, .data, .sentinel, .sentinel, .pinned], laidTests := true, laidLooks := .later }
def AddrsSixesUptoCardSaid : Prop := Claim7.holds Tryd.pinned (.plain (OpenSpec.upto addrsSixesSpec)) addrsSixesUptoCard

/-- THE SECOND FORM's CARD OF 'footmanlaw04.AddrsBack'. -/
def addrsBackUptoCard : Claim7 := { stood := { row := addrsBackUptoRow, standIns := [], harness := (true, "0e9104991100904f5197402f2bca925edc97d1b8f386a0ea94974792ee5bd241"), looks := true }, kinds := [], alts := [], laidByText := true, laidKinds := [.data, .data, .data, .data, .sentinel, .sentinel, .pinned], laidTests := true, laidLooks := .later }
def AddrsBackUptoCardSaid : Prop := Claim7.holds Tryd.pinned (.plain (OpenSpec.upto addrsBackSpec)) addrsBackUptoCard

/-- THE SECOND FORM's CARD OF 'footmanlaw04.AddrsForms'. -/
def addrsFormsUptoCard : Claim7 := { stood := { row := addrsFormsUptoRow, standIns := [], harness := (true, "0e9104991100904f5197402f2bca925edc97d1b8f386a0ea94974792ee5bd241"), looks := true }, kinds := [], alts := [], laidByText := true, laidKinds := [.data, .data, .data, .data, .sentinel, .sentinel, .pinned], laidTests := true, laidLooks := .later }
def AddrsFormsUptoCardSaid : Prop := Claim7.holds Tryd.pinned (.plain (OpenSpec.upto addrsFormsSpec)) addrsFormsUptoCard

/-- THE SECOND FORM's CARD OF 'footmanlaw04.AddrsNames'. -/
def addrsNamesUptoCard : Claim7 := { stood := { row := addrsNamesUptoRow, standIns := [], harness := (true, "0e9104991100904f5197402f2bca925edc97d1b8f386a0ea94974792ee5bd241"), looks := true }, kinds := [], alts := [], laidByText := true, laidKinds := [.data, .data, .data, .data, .sentinel, .sentinel, .pinned], laidTests := true, laidLooks := .later }
def AddrsNamesUptoCardSaid : Prop := Claim7.holds Tryd.pinned (.plain (OpenSpec.upto addrsNamesSpec)) addrsNamesUptoCard

/-- THE SECOND FORM's CARD OF 'footmanlaw04.AddrsShort'. -/
def addrsShortUptoCard : Claim7 := { stood := { row := addrsShortUptoRow, standIns := [], harness := (true, "0e9104991100904f5197402f2bca925edc97d1b8f386a0ea94974792ee5bd241"), looks := true }, kinds := [], alts := [], laidByText := true, laidKinds := [.data, .data, .data, .data, .sentinel, .sentinel, .pinned], laidTests := true, laidLooks := .later }
def AddrsShortUptoCardSaid : Prop := Claim7.holds Tryd.pinned (.plain (OpenSpec.upto addrsShortSpec)) addrsShortUptoCard

/-- THE SECOND FORM's CARD OF 'footmanlaw04.AddrsPieces'. -/
def addrsPiecesUptoCard : Claim7 := { stood := { row := addrsPiecesUptoRow, standIns := [], harness := (true, "0e9104991100904f5197402f2bca925edc97d1b8f386a0ea94974792ee5bd241"), looks := true }, kinds := [], alts := [], laidByText := true, laidKinds := [.data, .data, .data, .data, .sentinel, .sentinel, .pinned], laidTests := true, laidLooks := .later }
def AddrsPiecesUptoCardSaid : Prop := Claim7.holds Tryd.pinned (.plain (OpenSpec.upto addrsPiecesSpec)) addrsPiecesUptoCard
end Rows
end Go.Proofs.YtiookngmgednjaaDoor
