/-
  DERIVED. GIVEN WITH THE SEED: THE CARDS: each row of YtalinfpakmcobaaDoorRows.lean that lists a variable, with what it lists TIED to the program's text (the seventh form; the later family's looks); each row that meets fmt, with fmt's text TOLD by the authors' own Lean function (tested against real Go, not proved from fmt's source: count such statements apart). THE CARD IS WHAT COUNTS. Prove the row's statement (the work); the ties are given (YtalinfpakmcobaaDoorTie.lean); close each card by the builder's one call (the guide's Derived/Test/ToyasCard.lean, 'card_holds'). Laid BY PROGRAM, IN A SANDBOX (cutbox-door.mjs). By AI agents, Wed Nov 11 2026. No macro, syntax, notation, axiom, sorry.
-/
import Derived.Test.YtalinfpakmcobaaDoorRows
import GoSem.ClaimSeven
namespace Go.Proofs.YtalinfpakmcobaaDoor
namespace Rows

/-- THE TIED CARD OF 'footmanlaw01.AsciiTrims'. -/
def asciiTrimsCard : Claim7 := { stood := { row := asciiTrimsRow, standIns := [], harness := (true, "790ca2e81df2ac068e3e12937721ac8a93eae73cf88628ffbec8146ce56a5272"), looks := true }, kinds := [], alts := [], laidByText := true, laidKinds := [.data, .pinned], laidTests := true, laidLooks := .later }
def AsciiTrimsCardSaid : Prop := Claim7.holds Tryd.pinned (.plain (OpenSpec.ofChange asciiTrimsSpec)) asciiTrimsCard

/-- THE TIED CARD OF 'footmanlaw01.AsciiSplits'. -/
def asciiSplitsCard : Claim7 := { stood := { row := asciiSplitsRow, standIns := [], harness := (true, "790ca2e81df2ac068e3e12937721ac8a93eae73cf88628ffbec8146ce56a5272"), looks := true }, kinds := [], alts := [], laidByText := true, laidKinds := [.data, .data, .data, .data, .pinned], laidTests := true, laidLooks := .later }
def AsciiSplitsCardSaid : Prop := Claim7.holds Tryd.pinned (.plain (OpenSpec.ofChange asciiSplitsSpec)) asciiSplitsCard

/-- THE TIED CARD OF 'footmanlaw01.AsciiNumbers'. -/
def asciiNumbersCard : Claim7 := { stood := { row := asciiNumbersRow, standIns := [], harness := (true, "790ca2e81df2ac068e3e12937721ac8a93eae73cf88628ffbec8146ce56a5272"), looks := true }, kinds := [], alts := [], laidByText := true, laidKinds := [.data, .data, .data, .data, .sentinel, .sentinel, .pinned], laidTests := true, laidLooks := .later }
def AsciiNumbersCardSaid : Prop := Claim7.holds Tryd.pinned (.plain (OpenSpec.ofChange asciiNumbersSpec)) asciiNumbersCard

/-- THE TIED CARD OF 'footmanlaw01.AsciiAgain'. -/
def asciiAgainCard : Claim7 := { stood := { row := asciiAgainRow, standIns := [], harness := (true, "790ca2e81df2ac068e3e12937721ac8a93eae73cf88628ffbec8146ce56a5272"), looks := true }, kinds := [], alts := [], laidByText := true, laidKinds := [.data, .data, .data, .data, .sentinel, .sentinel, .pinned], laidTests := true, laidLooks := .later }
def AsciiAgainCardSaid : Prop := Claim7.holds Tryd.pinned (.plain (OpenSpec.ofChange asciiAgainSpec)) asciiAgainCard

/-- THE TIED CARD OF 'footmanlaw01.AsciiTrimmed'. -/
def asciiTrimmedCard : Claim7 := { stood := { row := asciiTrimmedRow, standIns := [], harness := (true, "790ca2e81df2ac068e3e12937721ac8a93eae73cf88628ffbec8146ce56a5272"), looks := true }, kinds := [], alts := [], laidByText := true, laidKinds := [.data, .data, .data, .data, .sentinel, .sentinel, .pinned], laidTests := true, laidLooks := .later }
def AsciiTrimmedCardSaid : Prop := Claim7.holds Tryd.pinned (.plain (OpenSpec.ofChange asciiTrimmedSpec)) asciiTrimmedCard

/-- THE TIED CARD OF 'footmanlaw01.AsciiParts'. -/
def asciiPartsCard : Claim7 := { stood := { row := asciiPartsRow, standIns := [], harness := (true, "790ca2e81df2ac068e3e12937721ac8a93eae73cf88628ffbec8146ce56a5272"), looks := true }, kinds := [], alts := [], laidByText := true, laidKinds := [.data, .data, .data, .data, .sentinel, .sentinel, .pinned], laidTests := true, laidLooks := .later }
def AsciiPartsCardSaid : Prop := Claim7.holds Tryd.pinned (.plain (OpenSpec.ofChange asciiPartsSpec)) asciiPartsCard

/-- THE TIED CARD OF 'footmanlaw01.AsciiDigits'. -/
def asciiDigitsCard : Claim7 := { stood := { row := asciiDigitsRow, standIns := [], harness := (true, "790ca2e81df2ac068e3e12937721ac8a93eae73cf88628ffbec8146ce56a5272"), looks := true }, kinds := [], alts := [], laidByText := true, laidKinds := [.data, .data, .data, .data, .sentinel, .sentinel, .pinned], laidTests := true, laidLooks := .later }
def AsciiDigitsCardSaid : Prop := Claim7.holds Tryd.pinned (.plain (OpenSpec.ofChange asciiDigitsSpec)) asciiDigitsCard

/-- THE TIED CARD OF 'footmanlaw01.AsciiSigns'. -/
def asciiSignsCard : Claim7 := { stood := { row := asciiSignsRow, standIns := [], harness := (true, "790ca2e81df2ac068e3e12937721ac8a93eae73cf88628ffbec8146ce56a5272"), looks := true }, kinds := [], alts := [], laidByText := true, laidKinds := [.data, .data, .data, .data, .sentinel, .sentinel, .pinned], laidTests := true, laidLooks := .later }
def AsciiSignsCardSaid : Prop := Claim7.holds Tryd.pinned (.plain (OpenSpec.ofChange asciiSignsSpec)) asciiSignsCard

/-- THE SECOND FORM's CARD OF 'footmanlaw01.AsciiTrims'. -/
def asciiTrimsUptoCard : Claim7 := { stood := { row := asciiTrimsUptoRow, standIns := [], harness := (true, "790ca2e81df2ac068e3e12937721ac8a93eae73cf88628ffbec8146ce56a5272"), looks := true }, kinds := [], alts := [], laidByText := true, laidKinds := [.data, .pinned], laidTests := true, laidLooks := .later }
def AsciiTrimsUptoCardSaid : Prop := Claim7.holds Tryd.pinned (.plain (OpenSpec.upto asciiTrimsSpec)) asciiTrimsUptoCard

/-- THE SECOND FORM's CARD OF 'footmanlaw01.AsciiSplits'. -/
def asciiSplitsUptoCard : Claim7 := { stood := { row := asciiSplitsUptoRow, standIns := [], harness := (true, "790ca2e81df2ac068e3e12937721ac8a93eae73cf88628ffbec8146ce56a5272"), looks := true }, kinds := [], alts := [], laidByText := true, laidKinds := [.data, .data, .data, .data, .pinned], laidTests := true, laidLooks := .later }
def AsciiSplitsUptoCardSaid : Prop := Claim7.holds Tryd.pinned (.plain (OpenSpec.upto asciiSplitsSpec)) asciiSplitsUptoCard

/-- THE SECOND FORM's CARD OF 'footmanlaw01.AsciiNumbers'. -/
def asciiNumbersUptoCard : Claim7 := { stood := { row := asciiNumbersUptoRow, standIns := [], harness := (true, "790ca2e81df2ac068e3e12937721ac8a93eae73cf88628ffbec8146ce56a5272"), looks := true }, kinds := [], alts := [], laidByText := true, laidKinds := [.data, .data, .data, .data, .sentinel, .sentinel, .pinned], laidTests := true, laidLooks := .later }
def AsciiNumbersUptoCardSaid : Prop := Claim7.holds Tryd.pinned (.plain (OpenSpec.upto asciiNumbersSpec)) asciiNumbersUptoCard

/-- THE SECOND FORM's CARD OF 'footmanlaw01.AsciiAgain'. -/
def asciiAgainUptoCard : Claim7 := { stood := { row := asciiAgainUptoRow, standIns := [], harness := (true, "790ca2e81df2ac068e3e12937721ac8a93eae73cf88628ffbec8146ce56a5272"), looks := true }, kinds := [], alts := [], laidByText := true, laidKinds := [.data, .data, .data, .data, .sentinel, .sentinel, .pinned], laidTests := true, laidLooks := .later }
def AsciiAgainUptoCardSaid : Prop := Claim7.holds Tryd.pinned (.plain (OpenSpec.upto asciiAgainSpec)) asciiAgainUptoCard

/-- THE SECOND FORM's CARD OF 'footmanlaw01.AsciiTrimmed'. -/
def asciiTrimmedUptoCard : Claim7 := { stood := { row := asciiTrimmedUptoRow, standIns := [], harness := (true, "790ca2e81df2ac068e3e12937721ac8a93eae73cf88628ffbec8146ce56a5272"), looks := true }, kinds := [], alts := [], laidByText := true, laidKinds := [.data, .data, .data, .data, .sentinel, .sentinel, .pinned], laidTests := true, laidLooks := .later }
def AsciiTrimmedUptoCardSaid : Prop := Claim7.holds Tryd.pinned (.plain (OpenSpec.upto asciiTrimmedSpec)) asciiTrimmedUptoCard

/-- THE SECOND FORM's CARD OF 'footmanlaw01.AsciiParts'. -/
def asciiPartsUptoCard : Claim7 := { stood := { row := asciiPartsUptoRow, standIns := [], harness := (true, "790ca2e81df2ac068e3e12937721ac8a93eae73cf88628ffbec8146ce56a5272"), looks := true }, kinds := [], alts := [], laidByText := true, laidKinds := [.data, .data, .data, .data, .sentinel, .sentinel, .pinned], laidTests := true, laidLooks := .later }
def AsciiPartsUptoCardSaid : Prop := Claim7.holds Tryd.pinned (.plain (OpenSpec.upto asciiPartsSpec)) asciiPartsUptoCard

/-- THE SECOND FORM's CARD OF 'footmanlaw01.AsciiDigits'. -/
def asciiDigitsUptoCard : Claim7 := { stood := { row := asciiDigitsUptoRow, standIns := [], harness := (true, "790ca2e81df2ac068e3e12937721ac8a93eae73cf88628ffbec8146ce56a5272"), looks := true }, kinds := [], alts := [], laidByText := true, laidKinds := [.data, .data, .data, .data, .sentinel, .sentinel, .pinned], laidTests := true, laidLooks := .later }
def AsciiDigitsUptoCardSaid : Prop := Claim7.holds Tryd.pinned (.plain (OpenSpec.upto asciiDigitsSpec)) asciiDigitsUptoCard

/-- THE SECOND FORM's CARD OF 'footmanlaw01.AsciiSigns'. -/
def asciiSignsUptoCard : Claim7 := { stood := { row := asciiSignsUptoRow, standIns := [], harness := (true, "790ca2e81df2ac068e3e12937721ac8a93eae73cf88628ffbec8146ce56a5272"), looks := true }, kinds := [], alts := [], laidByText := true, laidKinds := [.data, .data, .data, .data, .sentinel, .sentinel, .pinned], laidTests := true, laidLooks := .later }
def AsciiSignsUptoCardSaid : Prop := Claim7.holds Tryd.pinned (.plain (OpenSpec.upto asciiSignsSpec)) asciiSignsUptoCard
end Rows
end Go.Proofs.YtalinfpakmcobaaDoor
