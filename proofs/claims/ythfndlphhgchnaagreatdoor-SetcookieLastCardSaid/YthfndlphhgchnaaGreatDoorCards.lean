/-
  DERIVED. GIVEN WITH THE SEED: THE CARDS: each row of YthfndlphhgchnaaGreatDoorRows.lean that lists a variable, with what it lists TIED to the program's text (the seventh form; the later family's looks); each row that meets fmt, with fmt's text TOLD by the authors' own Lean function (tested against real Go, not proved from fmt's source: count such statements apart). THE CARD IS WHAT COUNTS. Prove the row's statement (the work); the ties are given (YthfndlphhgchnaaGreatDoorTie.lean); close each card by the builder's one call (the guide's Derived/Test/ToyasCard.lean, 'card_holds'). Laid BY PROGRAM, IN A SANDBOX (cutbox-door.mjs). By AI agents, Wed Nov 11 2026. No macro, syntax, notation, axiom, sorry.
-/
import Derived.Test.YthfndlphhgchnaaGreatDoorRows
import GoSem.ClaimSeven
namespace Go.Proofs.YthfndlphhgchnaaGreatDoor
namespace Rows

/-- THE TIED CARD OF 'footmanlaw10.SetcookieUntil'. -/
def setcookieUntilCard : Claim7 := { stood := { row := setcookieUntilRow, standIns := [], harness := (true, "f4c7db858aa9d48b6ccf989259f74399dcb90c3f03c244bb502f46cffe986601"), looks := true }, kinds := [], alts := [], laidByText := true, laidKinds := [.data, .data, .data, .data, .sentinel, .sentinel, .pinned], laidTests := true, laidLooks := .later }
def SetcookieUntilCardSaid : Prop := Claim7.holds Tryz.pinned (.plain (OpenSpec.ofChange setcookieUntilSpec)) setcookieUntilCard

/-- THE TIED CARD OF 'footmanlaw10.SetcookieDates'. -/
def setcookieDatesCard : Claim7 := { stood := { row := setcookieDatesRow, standIns := [], harness := (true, "f4c7db858aa9d48b6ccf989259f74399dcb90c3f03c244bb502f46cffe986601"), looks := true }, kinds := [], alts := [], laidByText := true, laidKinds := [.data, .data, .data, .data, .sentinel, .sentinel, .pinned], laidTests := true, laidLooks := .later }
def SetcookieDatesCardSaid : Prop := Claim7.holds Tryz.pinned (.plain (OpenSpec.ofChange setcookieDatesSpec)) setcookieDatesCard

/-- THE TIED CARD OF 'footmanlaw10.SetcookieParses'. -/
def setcookieParsesCard : Claim7 := { stood := { row := setcookieParsesRow, standIns := [], harness := (true, "f4c7db858aa9d48b6ccf989259f74399dcb90c3f03c244bb502f46cffe986601"), looks := true }, kinds := [], alts := [], laidByText := true, laidKinds := [.data, .data, .data, .data, .sentinel, .sentinel, .pinned], laidTests := true, laidLooks := .later }
def SetcookieParsesCardSaid : Prop := Claim7.holds Tryz.pinned (.plain (OpenSpec.ofChange setcookieParsesSpec)) setcookieParsesCard

/-- THE TIED CARD OF 'footmanlaw10.SetcookieTexts'. -/
def setcookieTextsCard : Claim7 := { stood := { row := setcookieTextsRow, standIns := [], harness := (true, "f4c7db858aa9d48b6ccf989259f74399dcb90c3f03c244bb502f46cffe986601"), looks := true }, kinds := [], alts := [], laidByText := true, laidKinds := [.data, .data, .data, .data, .sentinel, .sentinel, .pinned], laidTests := true, laidLooks := .later }
def SetcookieTextsCardSaid : Prop := Claim7.holds Tryz.pinned (.plain (OpenSpec.ofChange setcookieTextsSpec)) setcookieTextsCard

/-- THE TIED CARD OF 'footmanlaw10.SetcookieBack'. -/
def setcookieBackCard : Claim7 := { stood := { row := setcookieBackRow, standIns := [], harness := (true, "f4c7db858aa9d48b6ccf989259f74399dcb90c3f03c244bb502f46cffe986601"), looks := true }, kinds := [], alts := [], laidByText := true, laidKinds := [.data, .data, .data, .data, .sentinel, .sentinel, .pinned], laidTests := true, laidLooks := .later }
def SetcookieBackCardSaid : Prop := Claim7.holds Tryz.pinned (.plain (OpenSpec.ofChange setcookieBackSpec)) setcookieBackCard

/-- THE TIED CARD OF 'footmanlaw10.SetcookieAgain'. -/
def setcookieAgainCard : Claim7 := { stood := { row := setcookieAgainRow, standIns := [], harness := (true, "f4c7db858aa9d48b6ccf989259f74399dcb90c3f03c244bb502f46cffe986601"), looks := true }, kinds := [], alts := [], laidByText := true, laidKinds := [.data, .data, .data, .data, .sentinel, .sentinel, .pinned], laidTests := true, laidLooks := .later }
def SetcookieAgainCardSaid : Prop := Claim7.holds Tryz.pinned (.plain (OpenSpec.ofChange setcookieAgainSpec)) setcookieAgainCard

/-- THE TIED CARD OF 'footmanlaw10.SetcookieLast'. -/
def setcookieLastCard : Claim7 := { stood := { row := setcookieLastRow, standIns := [], harness := (true, "f4c7db858aa9d48b6ccf989259f74399dcb90c3f03c244bb502f46cffe986601"), looks := true }, kinds := [], alts := [], laidByText := true, laidKinds := [.data, .data, .data, .data, .sentinel, .sentinel, .pinned], laidTests := true, laidLooks := .later }
def SetcookieLastCardSaid : Prop := Claim7.holds Tryz.pinned (.plain (OpenSpec.ofChange setcookieLastSpec)) setcookieLastCard

/-- THE TIED CARD OF 'footmanlaw10.SetcookieFirst'. -/
def setcookieFirstCard : Claim7 := { stood := { row := setcookieFirstRow, standIns := [], harness := (true, "f4c7db858aa9d48b6ccf989259f74399dcb90c3f03c244bb502f46cffe986601"), looks := true }, kinds := [], alts := [], laidByText := true, laidKinds := [.data, .data, .data, .data, .sentinel, .sentinel, .pinned], laidTests := true, laidLooks := .later }
def SetcookieFirstCardSaid : Prop := Claim7.holds Tryz.pinned (.plain (OpenSpec.ofChange setcookieFirstSpec)) setcookieFirstCard

/-- THE SECOND FORM's CARD OF 'footmanlaw10.SetcookieUntil'. -/
def setcookieUntilUptoCard : Claim7 := { stood := { row := setcookieUntilUptoRow, standIns := [], harness := (true, "f4c7db858aa9d48b6ccf989259f74399dcb90c3f03c244bb502f46cffe986601"), looks := true }, kinds := [], alts := [], laidByText := true, laidKinds := [.data, .data, .data, .data, .sentinel, .sentinel, .pinned], laidTests := true, laidLooks := .later }
def SetcookieUntilUptoCardSaid : Prop := Claim7.holds Tryz.pinned (.plain (OpenSpec.upto setcookieUntilSpec)) setcookieUntilUptoCard

/-- THE SECOND FORM's CARD OF 'footmanlaw10.SetcookieDates'. -/
def setcookieDatesUptoCard : Claim7 := { stood := { row := setcookieDatesUptoRow, standIns := [], harness := (true, "f4c7db858aa9d48b6ccf989259f74399dcb90c3f03c244bb502f46cffe986601"), looks := true }, kinds := [], alts := [], laidByText := true, laidKinds := [.data, .data, .data, .data, .sentinel, .sentinel, .pinned], laidTests := true, laidLooks := .later }
def SetcookieDatesUptoCardSaid : Prop := Claim7.holds Tryz.pinned (.plain (OpenSpec.upto setcookieDatesSpec)) setcookieDatesUptoCard

/-- THE SECOND FORM's CARD OF 'footmanlaw10.SetcookieParses'. -/
def setcookieParsesUptoCard : Claim7 := { stood := { row := setcookieParsesUptoRow, standIns := [], harness := (true, "f4c7db858aa9d48b6ccf989259f74399dcb90c3f03c244bb502f46cffe986601"), looks := true }, kinds := [], alts := [], laidByText := true, laidKinds := [.data, .data, .data, .data, .sentinel, .sentinel, .pinned], laidTests := true, laidLooks := .later }
def SetcookieParsesUptoCardSaid : Prop := Claim7.holds Tryz.pinned (.plain (OpenSpec.upto setcookieParsesSpec)) setcookieParsesUptoCard

/-- THE SECOND FORM's CARD OF 'footmanlaw10.SetcookieTexts'. -/
def setcookieTextsUptoCard : Claim7 := { stood := { row := setcookieTextsUptoRow, standIns := [], harness := (true, "f4c7db858aa9d48b6ccf989259f74399dcb90c3f03c244bb502f46cffe986601"), looks := true }, kinds := [], alts := [], laidByText := true, laidKinds := [.data, .data, .data, .data, .sentinel, .sentinel, .pinned], laidTests := true, laidLooks := .later }
def SetcookieTextsUptoCardSaid : Prop := Claim7.holds Tryz.pinned (.plain (OpenSpec.upto setcookieTextsSpec)) setcookieTextsUptoCard

/-- THE SECOND FORM's CARD OF 'footmanlaw10.SetcookieBack'. -/
def setcookieBackUptoCard : Claim7 := { stood := { row := setcookieBackUptoRow, standIns := [], harness := (true, "f4c7db858aa9d48b6ccf989259f74399dcb90c3f03c244bb502f46cffe986601"), looks := true }, kinds := [], alts := [], laidByText := true, laidKinds := [.data, .data, .data, .data, .sentinel, .sentinel, .pinned], laidTests := true, laidLooks := .later }
def SetcookieBackUptoCardSaid : Prop := Claim7.holds Tryz.pinned (.plain (OpenSpec.upto setcookieBackSpec)) setcookieBackUptoCard

/-- THE SECOND FORM's CARD OF 'footmanlaw10.SetcookieAgain'. -/
def setcookieAgainUptoCard : Claim7 := { stood := { row := setcookieAgainUptoRow, standIns := [], harness := (true, "f4c7db858aa9d48b6ccf989259f74399dcb90c3f03c244bb502f46cffe986601"), looks := true }, kinds := [], alts := [], laidByText := true, laidKinds := [.data, .data, .data, .data, .sentinel, .sentinel, .pinned], laidTests := true, laidLooks := .later }
def SetcookieAgainUptoCardSaid : Prop := Claim7.holds Tryz.pinned (.plain (OpenSpec.upto setcookieAgainSpec)) setcookieAgainUptoCard

/-- THE SECOND FORM's CARD OF 'footmanlaw10.SetcookieLast'. -/
def setcookieLastUptoCard : Claim7 := { stood := { row := setcookieLastUptoRow, standIns := [], harness := (true, "f4c7db858aa9d48b6ccf989259f74399dcb90c3f03c244bb502f46cffe986601"), looks := true }, kinds := [], alts := [], laidByText := true, laidKinds := [.data, .data, .data, .data, .sentinel, .sentinel, .pinned], laidTests := true, laidLooks := .later }
def SetcookieLastUptoCardSaid : Prop := Claim7.holds Tryz.pinned (.plain (OpenSpec.upto setcookieLastSpec)) setcookieLastUptoCard

/-- THE SECOND FORM's CARD OF 'footmanlaw10.SetcookieFirst'. -/
def setcookieFirstUptoCard : Claim7 := { stood := { row := setcookieFirstUptoRow, standIns := [], harness := (true, "f4c7db858aa9d48b6ccf989259f74399dcb90c3f03c244bb502f46cffe986601"), looks := true }, kinds := [], alts := [], laidByText := true, laidKinds := [.data, .data, .data, .data, .sentinel, .sentinel, .pinned], laidTests := true, laidLooks := .later }
def SetcookieFirstUptoCardSaid : Prop := Claim7.holds Tryz.pinned (.plain (OpenSpec.upto setcookieFirstSpec)) setcookieFirstUptoCard
end Rows
end Go.Proofs.YthfndlphhgchnaaGreatDoor
