/-
  DERIVED. GIVEN WITH THE SEED: THE CARDS: each row of YtimpbgncgdaofaaDoorRows.lean that lists a variable, with what it lists TIED to the program's text (the seventh form; the later family's looks); each row that meets fmt, with fmt's text TOLD by the authors' own Lean function (tested against real Go, not proved from fmt's source: count such statements apart). THE CARD IS WHAT COUNTS. Prove the row's statement (the work); the ties are given (YtimpbgncgdaofaaDoorTie.lean); close each card by the builder's one call (the guide's Derived/Test/ToyasCard.lean, 'card_holds'). Laid BY PROGRAM, IN A SANDBOX (cutbox-door.mjs). By AI agents, Wed Nov 11 2026. No macro, syntax, notation, axiom, sorry.
-/
import Derived.Test.YtimpbgncgdaofaaDoorRows
import GoSem.ClaimSeven
namespace Go.Proofs.YtimpbgncgdaofaaDoor
namespace Rows

/-- THE TIED CARD OF 'laws.FnExactBookOk'. -/
def fnExactBookOkCard : Claim7 := { stood := { row := fnExactBookOkRow, standIns := [], harness := (true, "9b02ef3fae2a33f36360b52d03b5ca6904b08f1fb56fd2cb7d574700a41385a4"), looks := false }, kinds := [], alts := [], laidByText := true, laidKinds := [.data, .pinned], laidTests := true, laidLooks := .later }
def FnExactBookOkCardSaid : Prop := Claim7.holds Tryd.pinned (.plain (OpenSpec.ofChange fnExactBookOkSpec)) fnExactBookOkCard

/-- THE TIED CARD OF 'laws.FnExactMarks'. -/
def fnExactMarksCard : Claim7 := { stood := { row := fnExactMarksRow, standIns := [], harness := (true, "9b02ef3fae2a33f36360b52d03b5ca6904b08f1fb56fd2cb7d574700a41385a4"), looks := false }, kinds := [], alts := [], laidByText := true, laidKinds := [.data, .pinned], laidTests := true, laidLooks := .later }
def FnExactMarksCardSaid : Prop := Claim7.holds Tryd.pinned (.plain (OpenSpec.ofChange fnExactMarksSpec)) fnExactMarksCard

/-- THE TIED CARD OF 'laws.FnExactParted'. -/
def fnExactPartedCard : Claim7 := { stood := { row := fnExactPartedRow, standIns := [], harness := (true, "9b02ef3fae2a33f36360b52d03b5ca6904b08f1fb56fd2cb7d574700a41385a4"), looks := false }, kinds := [], alts := [], laidByText := true, laidKinds := [.data, .pinned], laidTests := true, laidLooks := .later }
def FnExactPartedCardSaid : Prop := Claim7.holds Tryd.pinned (.plain (OpenSpec.ofChange fnExactPartedSpec)) fnExactPartedCard

/-- THE TIED CARD OF 'laws.FnExactHyphens'. -/
def fnExactHyphensCard : Claim7 := { stood := { row := fnExactHyphensRow, standIns := [], harness := (true, "9b02ef3fae2a33f36360b52d03b5ca6904b08f1fb56fd2cb7d574700a41385a4"), looks := false }, kinds := [], alts := [], laidByText := true, laidKinds := [.data, .pinned], laidTests := true, laidLooks := .later }
def FnExactHyphensCardSaid : Prop := Claim7.holds Tryd.pinned (.plain (OpenSpec.ofChange fnExactHyphensSpec)) fnExactHyphensCard

/-- THE SECOND FORM's CARD OF 'laws.FnExactBookOk'. -/
def fnExactBookOkUptoCard : Claim7 := { stood := { row := fnExactBookOkUptoRow, standIns := [], harness := (true, "9b02ef3fae2a33f36360b52d03b5ca6904b08f1fb56fd2cb7d574700a41385a4"), looks := false }, kinds := [], alts := [], laidByText := true, laidKinds := [.data, .pinned], laidTests := true, laidLooks := .later }
def FnExactBookOkUptoCardSaid : Prop := Claim7.holds Tryd.pinned (.plain (OpenSpec.upto fnExactBookOkSpec)) fnExactBookOkUptoCard

/-- THE SECOND FORM's CARD OF 'laws.FnExactMarks'. -/
def fnExactMarksUptoCard : Claim7 := { stood := { row := fnExactMarksUptoRow, standIns := [], harness := (true, "9b02ef3fae2a33f36360b52d03b5ca6904b08f1fb56fd2cb7d574700a41385a4"), looks := false }, kinds := [], alts := [], laidByText := true, laidKinds := [.data, .pinned], laidTests := true, laidLooks := .later }
def FnExactMarksUptoCardSaid : Prop := Claim7.holds Tryd.pinned (.plain (OpenSpec.upto fnExactMarksSpec)) fnExactMarksUptoCard

/-- THE SECOND FORM's CARD OF 'laws.FnExactParted'. -/
def fnExactPartedUptoCard : Claim7 := { stood := { row := fnExactPartedUptoRow, standIns := [], harness := (true, "9b02ef3fae2a33f36360b52d03b5ca6904b08f1fb56fd2cb7d574700a41385a4"), looks := false }, kinds := [], alts := [], laidByText := true, laidKinds := [.data, .pinned], laidTests := true, laidLooks := .later }
def FnExactPartedUptoCardSaid : Prop := Claim7.holds Tryd.pinned (.plain (OpenSpec.upto fnExactPartedSpec)) fnExactPartedUptoCard

/-- THE SECOND FORM's CARD OF 'laws.FnExactHyphens'. -/
def fnExactHyphensUptoCard : Claim7 := { stood := { row := fnExactHyphensUptoRow, standIns := [], harness := (true, "9b02ef3fae2a33f36360b52d03b5ca6904b08f1fb56fd2cb7d574700a41385a4"), looks := false }, kinds := [], alts := [], laidByText := true, laidKinds := [.data, .pinned], laidTests := true, laidLooks := .later }
def FnExactHyphensUptoCardSaid : Prop := Claim7.holds Tryd.pinned (.plain (OpenSpec.upto fnExactHyphensSpec)) fnExactHyphensUptoCard
end Rows
end Go.Proofs.YtimpbgncgdaofaaDoor
