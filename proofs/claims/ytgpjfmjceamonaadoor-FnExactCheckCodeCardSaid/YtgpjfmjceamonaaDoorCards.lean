/-
  DERIVED. GIVEN WITH THE SEED: THE CARDS: each row of YtgpjfmjceamonaaDoorRows.lean that lists a variable, with what it lists TIED to the program's text (the seventh form; the later family's looks); each row that meets fmt, with fmt's text TOLD by the authors' own Lean function (tested against real Go, not proved from fmt's source: count such statements apart). THE CARD IS WHAT COUNTS. Prove the row's statement (the work); the ties are given (YtgpjfmjceamonaaDoorTie.lean); close each card by the builder's one call (the guide's Derived/Test/ToyasCard.lean, 'card_holds'). Laid BY PROGRAM, IN A SANDBOX (cutbox-door.mjs). By AI agents, Wed Nov 11 2026. No macro, syntax, notation, axiom, sorry.
-/
import Derived.Test.YtgpjfmjceamonaaDoorRows
import GoSem.ClaimSeven
namespace Go.Proofs.YtgpjfmjceamonaaDoor
namespace Rows

/-- THE TIED CARD OF 'laws.FnExactCheckCode'. -/
def fnExactCheckCodeCard : Claim7 := { stood := { row := fnExactCheckCodeRow, standIns := [], harness := (true, "5206ff39625d0c56445e9bff215e3a0fcf1e5adb8d33d6f82dac057996b20d30"), looks := false }, kinds := [], alts := [], laidByText := true, laidKinds := [.mapped], laidTests := true, laidLooks := .later }
def FnExactCheckCodeCardSaid : Prop := Claim7.holds Tryd.pinned (.plain (OpenSpec.ofChange fnExactCheckCodeSpec)) fnExactCheckCodeCard

/-- THE SECOND FORM's CARD OF 'laws.FnExactCheckCode'. -/
def fnExactCheckCodeUptoCard : Claim7 := { stood := { row := fnExactCheckCodeUptoRow, standIns := [], harness := (true, "5206ff39625d0c56445e9bff215e3a0fcf1e5adb8d33d6f82dac057996b20d30"), looks := false }, kinds := [], alts := [], laidByText := true, laidKinds := [.mapped], laidTests := true, laidLooks := .later }
def FnExactCheckCodeUptoCardSaid : Prop := Claim7.holds Tryd.pinned (.plain (OpenSpec.upto fnExactCheckCodeSpec)) fnExactCheckCodeUptoCard
end Rows
end Go.Proofs.YtgpjfmjceamonaaDoor
