/-
  DERIVED. GIVEN WITH THE SEED: THE CARDS: each row of YtkcpfchfpnmkpaaDoorRows.lean that lists a variable, with what it lists TIED to the program's text (the seventh form; the later family's looks); each row that meets fmt, with fmt's text TOLD by the authors' own Lean function (tested against real Go, not proved from fmt's source: count such statements apart). THE CARD IS WHAT COUNTS. Prove the row's statement (the work); the ties are given (YtkcpfchfpnmkpaaDoorTie.lean); close each card by the builder's one call (the guide's Derived/Test/ToyasCard.lean, 'card_holds'). Laid BY PROGRAM, IN A SANDBOX (cutbox-door.mjs). By AI agents, Wed Nov 11 2026. No macro, syntax, notation, axiom, sorry.
-/
import Derived.Test.YtkcpfchfpnmkpaaDoorRows
import GoSem.ClaimSeven
namespace Go.Proofs.YtkcpfchfpnmkpaaDoor
namespace Rows

/-- THE TIED CARD OF 'beadlelaw12.ImageBack'. -/
def imageBackCard : Claim7 := { stood := { row := imageBackRow, standIns := [], harness := (true, "2d17a238c00884e5dc58fb0d87a848d278590f8ae91d9402fdc30806706e2a47"), looks := false }, kinds := [], alts := [], laidByText := true, laidKinds := [.sentinel], laidTests := true, laidLooks := .later }
def ImageBackCardSaid : Prop := Claim7.holds Tryd.pinned (.plain (OpenSpec.ofChange imageBackSpec)) imageBackCard

/-- THE TIED CARD OF 'beadlelaw12.ImageNumbers'. -/
def imageNumbersCard : Claim7 := { stood := { row := imageNumbersRow, standIns := [], harness := (true, "2d17a238c00884e5dc58fb0d87a848d278590f8ae91d9402fdc30806706e2a47"), looks := false }, kinds := [], alts := [], laidByText := true, laidKinds := [.sentinel], laidTests := true, laidLooks := .later }
def ImageNumbersCardSaid : Prop := Claim7.holds Tryd.pinned (.plain (OpenSpec.ofChange imageNumbersSpec)) imageNumbersCard

/-- THE SECOND FORM's CARD OF 'beadlelaw12.ImageBack'. -/
def imageBackUptoCard : Claim7 := { stood := { row := imageBackUptoRow, standIns := [], harness := (true, "2d17a238c00884e5dc58fb0d87a848d278590f8ae91d9402fdc30806706e2a47"), looks := false }, kinds := [], alts := [], laidByText := true, laidKinds := [.sentinel], laidTests := true, laidLooks := .later }
def ImageBackUptoCardSaid : Prop := Claim7.holds Tryd.pinned (.plain (OpenSpec.upto imageBackSpec)) imageBackUptoCard

/-- THE SECOND FORM's CARD OF 'beadlelaw12.ImageNumbers'. -/
def imageNumbersUptoCard : Claim7 := { stood := { row := imageNumbersUptoRow, standIns := [], harness := (true, "2d17a238c00884e5dc58fb0d87a848d278590f8ae91d9402fdc30806706e2a47"), looks := false }, kinds := [], alts := [], laidByText := true, laidKinds := [.sentinel], laidTests := true, laidLooks := .later }
def ImageNumbersUptoCardSaid : Prop := Claim7.holds Tryd.pinned (.plain (OpenSpec.upto imageNumbersSpec)) imageNumbersUptoCard
end Rows
end Go.Proofs.YtkcpfchfpnmkpaaDoor
