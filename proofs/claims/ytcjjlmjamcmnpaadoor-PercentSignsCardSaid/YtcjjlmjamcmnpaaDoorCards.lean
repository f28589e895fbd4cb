/-
  DERIVED. GIVEN WITH THE SEED: THE CARDS: each row of YtcjjlmjamcmnpaaDoorRows.lean that lists a variable, with what it lists TIED to the program's text (the seventh form; the later family's looks); each row that meets fmt, with fmt's text TOLD by the authors' own Lean function (tested against real Go, not proved from fmt's source: count such statements apart). THE CARD IS WHAT COUNTS. Prove the row's statement (the work); the ties are given (YtcjjlmjamcmnpaaDoorTie.lean); close each card by the builder's one call (the guide's Derived/Test/ToyasCard.lean, 'card_holds'). Laid BY PROGRAM, IN A SANDBOX (cutbox-door.mjs). By AI agents, Wed Nov 11 2026. No macro, syntax, notation, axiom, sorry.
-/
import Derived.Test.YtcjjlmjamcmnpaaDoorRows
import GoSem.ClaimSeven
namespace Go.Proofs.YtcjjlmjamcmnpaaDoor
namespace Rows

/-- THE TIED CARD OF 'footmanlaw03.PercentDecodes'. -/
def percentDecodesCard : Claim7 := { stood := { row := percentDecodesRow, standIns := [], harness := (true, "362e003f36f221aa0d4c44a311c229ccf6e224c123dd847e456cdf554326de42"), looks := true }, kinds := [], alts := [], laidByText := true, laidKinds := [.data, .data, .data, .sentinel, .sentinel], laidTests := true, laidLooks := .later }
def PercentDecodesCardSaid : Prop := Claim7.holds Tryd.pinned (.plain (OpenSpec.ofChange percentDecodesSpec)) percentDecodesCard

/-- THE TIED CARD OF 'footmanlaw03.PercentBack'. -/
def percentBackCard : Claim7 := { stood := { row := percentBackRow, standIns := [], harness := (true, "362e003f36f221aa0d4c44a311c229ccf6e224c123dd847e456cdf554326de42"), looks := true }, kinds := [], alts := [], laidByText := true, laidKinds := [.data, .data, .data, .sentinel, .sentinel], laidTests := true, laidLooks := .later }
def PercentBackCardSaid : Prop := Claim7.holds Tryd.pinned (.plain (OpenSpec.ofChange percentBackSpec)) percentBackCard

/-- THE TIED CARD OF 'footmanlaw03.PercentClean'. -/
def percentCleanCard : Claim7 := { stood := { row := percentCleanRow, standIns := [], harness := (true, "362e003f36f221aa0d4c44a311c229ccf6e224c123dd847e456cdf554326de42"), looks := true }, kinds := [], alts := [], laidByText := true, laidKinds := [.data, .data, .data, .sentinel, .sentinel], laidTests := true, laidLooks := .later }
def PercentCleanCardSaid : Prop := Claim7.holds Tryd.pinned (.plain (OpenSpec.ofChange percentCleanSpec)) percentCleanCard

/-- THE TIED CARD OF 'footmanlaw03.PercentWithin'. -/
def percentWithinCard : Claim7 := { stood := { row := percentWithinRow, standIns := [], harness := (true, "362e003f36f221aa0d4c44a311c229ccf6e224c123dd847e456cdf554326de42"), looks := true }, kinds := [], alts := [], laidByText := true, laidKinds := [.data, .data, .data, .sentinel, .sentinel], laidTests := true, laidLooks := .later }
def PercentWithinCardSaid : Prop := Claim7.holds Tryd.pinned (.plain (OpenSpec.ofChange percentWithinSpec)) percentWithinCard

/-- THE TIED CARD OF 'footmanlaw03.PercentJoins'. -/
def percentJoinsCard : Claim7 := { stood := { row := percentJoinsRow, standIns := [], harness := (true, "362e003f36f221aa0d4c44a311c229ccf6e224c123dd847e456cdf554326de42"), looks := true }, kinds := [], alts := [], laidByText := true, laidKinds := [.data, .data, .data, .sentinel, .sentinel], laidTests := true, laidLooks := .later }
def PercentJoinsCardSaid : Prop := Claim7.holds Tryd.pinned (.plain (OpenSpec.ofChange percentJoinsSpec)) percentJoinsCard

/-- THE TIED CARD OF 'footmanlaw03.PercentSigns'. -/
def percentSignsCard : Claim7 := { stood := { row := percentSignsRow, standIns := [], harness := (true, "362e003f36f221aa0d4c44a311c229ccf6e224c123dd847e456cdf554326de42"), looks := true }, kinds := [], alts := [], laidByText := true, laidKinds := [.data, .data, .data, .sentinel, .sentinel], laidTests := true, laidLooks := .later }
def PercentSignsCardSaid : Prop := Claim7.holds Tryd.pinned (.plain (OpenSpec.ofChange percentSignsSpec)) percentSignsCard

/-- THE SECOND FORM's CARD OF 'footmanlaw03.PercentDecodes'. -/
def percentDecodesUptoCard : Claim7 := { stood := { row := percentDecodesUptoRow, standIns := [], harness := (true, "362e003f36f221aa0d4c44a311c229ccf6e224c123dd847e456cdf554326de42"), looks := true }, kinds := [], alts := [], laidByText := true, laidKinds := [.data, .data, .data, .sentinel, .sentinel], laidTests := true, laidLooks := .later }
def PercentDecodesUptoCardSaid : Prop := Claim7.holds Tryd.pinned (.plain (OpenSpec.upto percentDecodesSpec)) percentDecodesUptoCard

/-- THE SECOND FORM's CARD OF 'footmanlaw03.PercentBack'. -/
def percentBackUptoCard : Claim7 := { stood := { row := percentBackUptoRow, standIns := [], harness := (true, "362e003f36f221aa0d4c44a311c229ccf6e224c123dd847e456cdf554326de42"), looks := true }, kinds := [], alts := [], laidByText := true, laidKinds := [.data, .data, .data, .sentinel, .sentinel], laidTests := true, laidLooks := .later }
def PercentBackUptoCardSaid : Prop := Claim7.holds Tryd.pinned (.plain (OpenSpec.upto percentBackSpec)) percentBackUptoCard

/-- THE SECOND FORM's CARD OF 'footmanlaw03.PercentClean'. -/
def percentCleanUptoCard : Claim7 := { stood := { row := percentCleanUptoRow, standIns := [], harness := (true, "362e003f36f221aa0d4c44a311c229ccf6e224c123dd847e456cdf554326de42"), looks := true }, kinds := [], alts := [], laidByText := true, laidKinds := [.data, .data, .data, .sentinel, .sentinel], laidTests := true, laidLooks := .later }
def PercentCleanUptoCardSaid : Prop := Claim7.holds Tryd.pinned (.plain (OpenSpec.upto percentCleanSpec)) percentCleanUptoCard

/-- THE SECOND FORM's CARD OF 'footmanlaw03.PercentWithin'. -/
def percentWithinUptoCard : Claim7 := { stood := { row := percentWithinUptoRow, standIns := [], harness := (true, "362e003f36f221aa0d4c44a311c229ccf6e224c123dd847e456cdf554326de42"), looks := true }, kinds := [], alts := [], laidByText := true, laidKinds := [.data, .data, .data, .sentinel, .sentinel], laidTests := true, laidLooks := .later }
def PercentWithinUptoCardSaid : Prop := Claim7.holds Tryd.pinned (.plain (OpenSpec.upto percentWithinSpec)) percentWithinUptoCard

/-- THE SECOND FORM's CARD OF 'footmanlaw03.PercentJoins'. -/
def percentJoinsUptoCard : Claim7 := { stood := { row := percentJoinsUptoRow, standIns := [], harness := (true, "362e003f36f221aa0d4c44a311c229ccf6e224c123dd847e456cdf554326de42"), looks := true }, kinds := [], alts := [], laidByText := true, laidKinds := [.data, .data, .data, .sentinel, .sentinel], laidTests := true, laidLooks := .later }
def PercentJoinsUptoCardSaid : Prop := Claim7.holds Tryd.pinned (.plain (OpenSpec.upto percentJoinsSpec)) percentJoinsUptoCard

/-- THE SECOND FORM's CARD OF 'footmanlaw03.PercentSigns'. -/
def percentSignsUptoCard : Claim7 := { stood := { row := percentSignsUptoRow, standIns := [], harness := (true, "362e003f36f221aa0d4c44a311c229ccf6e224c123dd847e456cdf554326de42"), looks := true }, kinds := [], alts := [], laidByText := true, laidKinds := [.data, .data, .data, .sentinel, .sentinel], laidTests := true, laidLooks := .later }
def PercentSignsUptoCardSaid : Prop := Claim7.holds Tryd.pinned (.plain (OpenSpec.upto percentSignsSpec)) percentSignsUptoCard
end Rows
end Go.Proofs.YtcjjlmjamcmnpaaDoor
