/-
  DERIVED. GIVEN WITH THE SEED: THE CARDS: each row of YtnmdcbneoipllaaDoorRows.lean that lists a variable, with what it lists TIED to the program's text (the seventh form; the later family's looks); each row that meets fmt, with fmt's text TOLD by the authors' own Lean function (tested against real Go, not proved from fmt's source: count such statements apart). THE CARD IS WHAT COUNTS. Prove the row's statement (the work); the ties are given (YtnmdcbneoipllaaDoorTie.lean); close each card by the builder's one call (the guide's Derived/Test/ToyasCard.lean, 'card_holds'). Laid BY PROGRAM, IN A SANDBOX (cutbox-door.mjs). By AI agents, Wed Nov 11 2026. No macro, syntax, notation, axiom, sorry.
-/
import Derived.Test.YtnmdcbneoipllaaDoorRows
import GoSem.ClaimSeven
namespace Go.Proofs.YtnmdcbneoipllaaDoor
namespace Rows

/-- THE TIED CARD OF 'footmanlaw11.StsTexts'. -/
def stsTextsCard : Claim7 := { stood := { row := stsTextsRow, standIns := [], harness := (true, "264ea9fa24d7f435a174f402a54f1dd35b9fe7c6c4087b6b7c1b96eb2bd3bd02"), looks := true }, kinds := [], alts := [], laidByText := true, laidKinds := [.data, .data, .data], laidTests := true, laidLooks := .later }
def StsTextsCardSaid : Prop := Claim7.holds Tryd.pinned (.plain (OpenSpec.ofChange stsTextsSpec)) stsTextsCard

/-- THE TIED CARD OF 'footmanlaw11.StsParses'. -/
def stsParsesCard : Claim7 := { stood := { row := stsParsesRow, standIns := [], harness := (true, "264ea9fa24d7f435a174f402a54f1dd35b9fe7c6c4087b6b7c1b96eb2bd3bd02"), looks := true }, kinds := [], alts := [], laidByText := true, laidKinds := [.data, .data, .data, .data, .sentinel, .sentinel, .pinned], laidTests := true, laidLooks := .later }
def StsParsesCardSaid : Prop := Claim7.holds Tryd.pinned (.plain (OpenSpec.ofChange stsParsesSpec)) stsParsesCard

/-- THE TIED CARD OF 'footmanlaw11.StsBack'. -/
def stsBackCard : Claim7 := { stood := { row := stsBackRow, standIns := [], harness := (true, "264ea9fa24d7f435a174f402a54f1dd35b9fe7c6c4087b6b7c1b96eb2bd3bd02"), looks := true }, kinds := [], alts := [], laidByText := true, laidKinds := [.data, .data, .data, .data, .sentinel, .sentinel, .pinned], laidTests := true, laidLooks := .later }
def StsBackCardSaid : Prop := Claim7.holds Tryd.pinned (.plain (OpenSpec.ofChange stsBackSpec)) stsBackCard

/-- THE TIED CARD OF 'footmanlaw11.StsOthers'. -/
def stsOthersCard : Claim7 := { stood := { row := stsOthersRow, standIns := [], harness := (true, "264ea9fa24d7f435a174f402a54f1dd35b9fe7c6c4087b6b7c1b96eb2bd3bd02"), looks := true }, kinds := [], alts := [], laidByText := true, laidKinds := [.data, .data, .data, .data, .sentinel, .sentinel, .pinned], laidTests := true, laidLooks := .later }
def StsOthersCardSaid : Prop := Claim7.holds Tryd.pinned (.plain (OpenSpec.ofChange stsOthersSpec)) stsOthersCard

/-- THE TIED CARD OF 'footmanlaw11.StsOnce'. -/
def stsOnceCard : Claim7 := { stood := { row := stsOnceRow, standIns := [], harness := (true, "264ea9fa24d7f435a174f402a54f1dd35b9fe7c6c4087b6b7c1b96eb2bd3bd02"), looks := true }, kinds := [], alts := [], laidByText := true, laidKinds := [.data, .data, .data, .data, .sentinel, .sentinel, .pinned], laidTests := true, laidLooks := .later }
def StsOnceCardSaid : Prop := Claim7.holds Tryd.pinned (.plain (OpenSpec.ofChange stsOnceSpec)) stsOnceCard

/-- THE TIED CARD OF 'footmanlaw11.StsAges'. -/
def stsAgesCard : Claim7 := { stood := { row := stsAgesRow, standIns := [], harness := (true, "264ea9fa24d7f435a174f402a54f1dd35b9fe7c6c4087b6b7c1b96eb2bd3bd02"), looks := true }, kinds := [], alts := [], laidByText := true, laidKinds := [.data, .data, .data, .data, .sentinel, .sentinel, .pinned], laidTests := true, laidLooks := .later }
def StsAgesCardSaid : Prop := Claim7.holds Tryd.pinned (.plain (OpenSpec.ofChange stsAgesSpec)) stsAgesCard

/-- THE TIED CARD OF 'footmanlaw11.StsOpen'. -/
def stsOpenCard : Claim7 := { stood := { row := stsOpenRow, standIns := [], harness := (true, "264ea9fa24d7f435a174f402a54f1dd35b9fe7c6c4087b6b7c1b96eb2bd3bd02"), looks := true }, kinds := [], alts := [], laidByText := true, laidKinds := [.data, .data, .data, .data, .sentinel, .sentinel, .pinned], laidTests := true, laidLooks := .later }
def StsOpenCardSaid : Prop := Claim7.holds Tryd.pinned (.plain (OpenSpec.ofChange stsOpenSpec)) stsOpenCard

/-- THE SECOND FORM's CARD OF 'footmanlaw11.StsTexts'. -/
def stsTextsUptoCard : Claim7 := { stood := { row := stsTextsUptoRow, standIns := [], harness := (true, "264ea9fa24d7f435a174f402a54f1dd35b9fe7c6c4087b6b7c1b96eb2bd3bd02"), looks := true }, kinds := [], alts := [], laidByText := true, laidKinds := [.data, .data, .data], laidTests := true, laidLooks := .later }
def StsTextsUptoCardSaid : Prop := Claim7.holds Tryd.pinned (.plain (OpenSpec.upto stsTextsSpec)) stsTextsUptoCard

/-- THE SECOND FORM's CARD OF 'footmanlaw11.StsParses'. -/
def stsParsesUptoCard : Claim7 := { stood := { row := stsParsesUptoRow, standIns := [], harness := (true, "264ea9fa24d7f435a174f402a54f1dd35b9fe7c6c4087b6b7c1b96eb2bd3bd02"), looks := true }, kinds := [], alts := [], laidByText := true, laidKinds := [.data, .data, .data, .data, .sentinel, .sentinel, .pinned], laidTests := true, laidLooks := .later }
def StsParsesUptoCardSaid : Prop := Claim7.holds Tryd.pinned (.plain (OpenSpec.upto stsParsesSpec)) stsParsesUptoCard

/-- THE SECOND FORM's CARD OF 'footmanlaw11.StsBack'. -/
def stsBackUptoCard : Claim7 := { stood := { row := stsBackUptoRow, standIns := [], harness := (true, "264ea9fa24d7f435a174f402a54f1dd35b9fe7c6c4087b6b7c1b96eb2bd3bd02"), looks := true }, kinds := [], alts := [], laidByText := true, laidKinds := [.data, .data, .data, .data, .sentinel, .sentinel, .pinned], laidTests := true, laidLooks := .later }
def StsBackUptoCardSaid : Prop := Claim7.holds Tryd.pinned (.plain (OpenSpec.upto stsBackSpec)) stsBackUptoCard

/-- THE SECOND FORM's CARD OF 'footmanlaw11.StsOthers'. -/
def stsOthersUptoCard : Claim7 := { stood := { row := stsOthersUptoRow, standIns := [], harness := (true, "264ea9fa24d7f435a174f402a54f1dd35b9fe7c6c4087b6b7c1b96eb2bd3bd02"), looks := true }, kinds := [], alts := [], laidByText := true, laidKinds := [.data, .data, .data, .data, .sentinel, .sentinel, .pinned], laidTests := true, laidLooks := .later }
def StsOthersUptoCardSaid : Prop := Claim7.holds Tryd.pinned (.plain (OpenSpec.upto stsOthersSpec)) stsOthersUptoCard

/-- THE SECOND FORM's CARD OF 'footmanlaw11.StsOnce'. -/
def stsOnceUptoCard : Claim7 := { stood := { row := stsOnceUptoRow, standIns := [], harness := (true, "264ea9fa24d7f435a174f402a54f1dd35b9fe7c6c4087b6b7c1b96eb2bd3bd02"), looks := true }, kinds := [], alts := [], laidByText := true, laidKinds := [.data, .data, .data, .data, .sentinel, .sentinel, .pinned], laidTests := true, laidLooks := .later }
def StsOnceUptoCardSaid : Prop := Claim7.holds Tryd.pinned (.plain (OpenSpec.upto stsOnceSpec)) stsOnceUptoCard

/-- THE SECOND FORM's CARD OF 'footmanlaw11.StsAges'. -/
def stsAgesUptoCard : Claim7 := { stood := { row := stsAgesUptoRow, standIns := [], harness := (true, "264ea9fa24d7f435a174f402a54f1dd35b9fe7c6c4087b6b7c1b96eb2bd3bd02"), looks := true }, kinds := [], alts := [], laidByText := true, laidKinds := [.data, .data, .data, .data, .sentinel, .sentinel, .pinned], laidTests := true, laidLooks := .later }
def StsAgesUptoCardSaid : Prop := Claim7.holds Tryd.pinned (.plain (OpenSpec.upto stsAgesSpec)) stsAgesUptoCard

/-- THE SECOND FORM's CARD OF 'footmanlaw11.StsOpen'. -/
def stsOpenUptoCard : Claim7 := { stood := { row := stsOpenUptoRow, standIns := [], harness := (true, "264ea9fa24d7f435a174f402a54f1dd35b9fe7c6c4087b6b7c1b96eb2bd3bd02"), looks := true }, kinds := [], alts := [], laidByText := true, laidKinds := [.data, .data, .data, .data, .sentinel, .sentinel, .pinned], laidTests := true, laidLooks := .later }
def StsOpenUptoCardSaid : Prop := Claim7.holds Tryd.pinned (.plain (OpenSpec.upto stsOpenSpec)) stsOpenUptoCard
end Rows
end Go.Proofs.YtnmdcbneoipllaaDoor
