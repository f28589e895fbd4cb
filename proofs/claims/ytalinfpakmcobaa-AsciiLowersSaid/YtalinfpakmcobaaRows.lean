/-
  No cell of these rows narrows 'for every input' (looked for: loops, veiled, ifaces, maps, wideKeys, modest, calm, conditions, laid).
  DERIVED. THE GIVEN ROWS OF THIS SEAT. 2 by the template 'for every input the law returns true; each argument reads behind the call as it read before'; 0 by the template 'total and deterministic' (their statements: YtalinfpakmcobaaTotals.lean).
  GIVEN WITH THE SEED: the statements are not yours to turn. If you find one false, say at which input.
  Laid BY PROGRAM, IN A SANDBOX (cutbox-rows.mjs): the forced cells as the released guide's own fill.sh prints them over the translation 8c2c9226566481c8… (all of the seat's roots in one cut). By AI agents, Wed Nov 11 2026. No macro, syntax, notation, axiom, sorry.
-/
import Derived.Test.YtalinfpakmcobaaChecked
import GoSem.Claim
import GoSem.ClaimJoined
import GoSem.ClaimMapViews
import Derived.JoinedTies
import Derived.KernelRfl
namespace Go.Proofs.Ytalinfpakmcobaa
/- THE CELL 'sum', in the pinned program and in every row, IS THE sha256 OF THE DUMP (.gsa) THAT YtalinfpakmcobaaProg.lean LOADS. Nothing in Lean hashes anything: it is a label: what it is worth is what the hold of that sum in a sandbox is worth. -/
noncomputable def Try.pinned : Pinned := { name := "ytalinfpakmcobaa", sum := "8c2c9226566481c8610f75e130c653516763e771dbfe48ab03d46e53cc619dc0", checked := Try.checked }
namespace Rows
def none {H : Type} : Left H := { results := [], args := [] }

/-- 'footmanlaw01.AsciiTokens': WHATEVER THE INPUT: true; the input reads as it did. -/
def asciiTokensSpec : ChangeSpec := { name := "asciiTokens", fn := fun _ => fun
  | [d] => { results := [.lit (.bool true)], args := [d] }
  | _ => none }
def asciiTokensRow : OpenClaim := { program := "ytalinfpakmcobaa", sum := "8c2c9226566481c8610f75e130c653516763e771dbfe48ab03d46e53cc619dc0", func := "footman/footmanlaw01.AsciiTokens", spec := "asciiTokens", apart := false }
def AsciiTokensSaid : Prop := asciiTokensRow.holds Try.pinned (OpenSpec.ofChange asciiTokensSpec)

/-- ITS FALSE NEIGHBOUR: 'it returns false'. Refute it at one input. -/
def asciiTokensWrong : ChangeSpec := { name := "asciiTokens", fn := fun _ => fun
  | [d] => { results := [.lit (.bool false)], args := [d] }
  | _ => none }
def AsciiTokensWrongFalsely : Prop := asciiTokensRow.holds Try.pinned (OpenSpec.ofChange asciiTokensWrong)

/-- 'footmanlaw01.AsciiLowers': WHATEVER THE INPUT: true; the input reads as it did. -/
def asciiLowersSpec : ChangeSpec := { name := "asciiLowers", fn := fun _ => fun
  | [d1, d2] => { results := [.lit (.bool true)], args := [d1, d2] }
  | _ => none }
def asciiLowersRow : OpenClaim := { program := "ytalinfpakmcobaa", sum := "8c2c9226566481c8610f75e130c653516763e771dbfe48ab03d46e53cc619dc0", func := "footman/footmanlaw01.AsciiLowers", spec := "asciiLowers", unfollowed := true, recurses := true, apart := false }
def AsciiLowersSaid : Prop := asciiLowersRow.holds Try.pinned (OpenSpec.ofChange asciiLowersSpec)

/-- ITS FALSE NEIGHBOUR: 'it returns false'. Refute it at one input. -/
def asciiLowersWrong : ChangeSpec := { name := "asciiLowers", fn := fun _ => fun
  | [d1, d2] => { results := [.lit (.bool false)], args := [d1, d2] }
  | _ => none }
def AsciiLowersWrongFalsely : Prop := asciiLowersRow.holds Try.pinned (OpenSpec.ofChange asciiLowersWrong)

/- THE SECOND FORM. 'bulk': how many values and letters a reading holds, each counted each time it is reached (what is shared counts as often as it is met; a slice's spare places count too). A statement '..UptoSaid' is the law's where the arguments, and the package variables that the reading takes, are together of bulk at most 1048576: NARROWER than '..Said'. Prove '..Said' where nothing that the law and all that it calls make is longer than what came in: it says more and counts as full. Else prove '..UptoSaid'. A law counts once. -/
mutual
def uptoBulk {H : Type} : DataW H → Nat
  | .lit (.string bytes) => bytes.length + 1
  | .lit _ => 1
  | .nil => 1
  | .ptr d => uptoBulk d + 1
  | .slice elems spare => uptoBulkAll elems + uptoBulkAll spare + 1
  | .agg parts => uptoBulkAll parts + 1
  | .iface _ d => uptoBulk d + 1
  | .map entries => uptoBulkEntries entries + 1
  | .held _ => 1
def uptoBulkAll {H : Type} : List (DataW H) → Nat
  | [] => 0
  | d :: r => uptoBulk d + uptoBulkAll r
def uptoBulkEntries {H : Type} : List (Lit × DataW H) → Nat
  | [] => 0
  | x :: r => uptoBulkEntry x + uptoBulkEntries r
def uptoBulkEntry {H : Type} : Lit × DataW H → Nat
  | (.string bytes, d) => bytes.length + uptoBulk d + 1
  | (_, d) => uptoBulk d + 1
 end
def uptoSmall : (H : Type) → List (DataW H) → Bool := fun _ ds => decide (uptoBulkAll ds ≤ 1048576)
def OpenSpec.upto (s : _root_.Go.ChangeSpec) : _root_.Go.OpenSpec := { _root_.Go.OpenSpec.ofChange s with cond := some uptoSmall }

/-- 'footmanlaw01.AsciiTokens', WHERE WHAT IT READS IS OF BULK AT MOST 1048576: true; the input reads as it did. -/
def asciiTokensUptoRow : OpenClaim := { program := "ytalinfpakmcobaa", sum := "8c2c9226566481c8610f75e130c653516763e771dbfe48ab03d46e53cc619dc0", func := "footman/footmanlaw01.AsciiTokens", spec := "asciiTokens", apart := false, narrowed := true }
def AsciiTokensUptoSaid : Prop := asciiTokensUptoRow.holds Try.pinned (OpenSpec.upto asciiTokensSpec)

/-- 'footmanlaw01.AsciiLowers', WHERE WHAT IT READS IS OF BULK AT MOST 1048576: true; the input reads as it did. -/
def asciiLowersUptoRow : OpenClaim := { program := "ytalinfpakmcobaa", sum := "8c2c9226566481c8610f75e130c653516763e771dbfe48ab03d46e53cc619dc0", func := "footman/footmanlaw01.AsciiLowers", spec := "asciiLowers", unfollowed := true, recurses := true, apart := false, narrowed := true }
def AsciiLowersUptoSaid : Prop := asciiLowersUptoRow.holds Try.pinned (OpenSpec.upto asciiLowersSpec)

end Rows
end Go.Proofs.Ytalinfpakmcobaa
