/-
  DERIVED. GIVEN WITH THE SEED: THE CARDS: each row of YteeaefjlpkijkaaDoorRows.lean that lists a variable, with what it lists TIED to the program's text (the seventh form; the later family's looks); each row that meets fmt, with fmt's text TOLD by the authors' own Lean function (tested against real Go, not proved from fmt's source: count such statements apart). THE CARD IS WHAT COUNTS. Prove the row's statement (the work); the ties are given (YteeaefjlpkijkaaDoorTie.lean); close each card by the builder's one call (the guide's Derived/Test/ToyasCard.lean, 'card_holds'). Laid BY PROGRAM, IN A SANDBOX (cutbox-door.mjs). By AI agents, Wed Nov 11 2026. No macro, syntax, notation, axiom, sorry.
-/
import Derived.Test.YteeaefjlpkijkaaDoorRows
import GoSem.ClaimSeven
namespace Go.Proofs.YteeaefjlpkijkaaDoor
namespace Rows

/-- THE TIED CARD OF 'laws.FnPatternBack'. -/
def fnPatternBackCard : Claim7 := { stood := { row := fnPatternBackRow, standIns := [], harness := (true, "9914b3964e607009f87a9a25dc7aabcf0628fffb6bf237c3c31a637c031cffcf"), looks := false }, kinds := [], alts := [], laidByText := true, laidKinds := [.data, .pinned], laidTests := true, laidLooks := .later }
def FnPatternBackCardSaid : Prop := Claim7.holds Tryd.pinned (.plain (OpenSpec.ofChange fnPatternBackSpec)) fnPatternBackCard

/-- THE SECOND FORM's CARD OF 'laws.FnPatternBack'. -/
def fnPatternBackUptoCard : Claim7 := { stood := { row := fnPatternBackUptoRow, standIns := [], harness := (true, "9914b3964e607009f87a9a25dc7aabcf0628fffb6bf237c3c31a637c031cffcf"), looks := false }, kinds := [], alts := [], laidByText := true, laidKinds := [.data, .pinned], laidTests := true, laidLooks := .later }
def FnPatternBackUptoCardSaid : Prop := Claim7.holds Tryd.pinned (.plain (OpenSpec.upto fnPatternBackSpec)) fnPatternBackUptoCard
end Rows
end Go.Proofs.YteeaefjlpkijkaaDoor
