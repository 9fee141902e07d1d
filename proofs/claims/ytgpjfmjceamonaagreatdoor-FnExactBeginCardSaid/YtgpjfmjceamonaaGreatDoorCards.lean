/-
  DERIVED. GIVEN WITH THE SEED: THE CARDS: each row of YtgpjfmjceamonaaGreatDoorRows.lean that lists a variable, with what it lists TIED to the program's text (the seventh form; the later family's looks); each row that meets fmt, with fmt's text TOLD by the authors' own Lean function (tested against real Go, not proved from fmt's source: count such statements apart). THE CARD IS WHAT COUNTS. Prove the row's statement (the work); the ties are given (YtgpjfmjceamonaaGreatDoorTie.lean); close each card by the builder's one call (the guide's Derived/Test/ToyasCard.lean, 'card_holds'). Laid BY PROGRAM, IN A SANDBOX (cutbox-door.mjs). By AI agents, Wed Nov 11 2026. No macro, syntax, notation, axiom, sorry.
-/
import Derived.Test.YtgpjfmjceamonaaGreatDoorRows
import GoSem.ClaimSeven
namespace Go.Proofs.YtgpjfmjceamonaaGreatDoor
namespace Rows

/-- THE TIED CARD OF 'laws.FnExactPrepare'. -/
def fnExactPrepareCard : Claim7 := { stood := { row := fnExactPrepareRow, standIns := [], harness := (true, "f07cb11a616e1ad9d03cc487a65087448bf95f69b1bf94ad091a87a9c35410c2"), looks := false }, kinds := [], alts := [], laidByText := true, laidKinds := [.mapped], laidTests := true, laidLooks := .later }
def FnExactPrepareCardSaid : Prop := Claim7.holds Tryz.pinned (.plain (OpenSpec.ofChange fnExactPrepareSpec)) fnExactPrepareCard

/-- THE TIED CARD OF 'laws.FnExactBegin'. -/
def fnExactBeginCard : Claim7 := { stood := { row := fnExactBeginRow, standIns := [], harness := (true, "f07cb11a616e1ad9d03cc487a65087448bf95f69b1bf94ad091a87a9c35410c2"), looks := false }, kinds := [], alts := [], laidByText := true, laidKinds := [.mapped], laidTests := true, laidLooks := .later }
def FnExactBeginCardSaid : Prop := Claim7.holds Tryz.pinned (.plain (OpenSpec.ofChange fnExactBeginSpec)) fnExactBeginCard

/-- THE SECOND FORM's CARD OF 'laws.FnExactPrepare'. -/
def fnExactPrepareUptoCard : Claim7 := { stood := { row := fnExactPrepareUptoRow, standIns := [], harness := (true, "f07cb11a616e1ad9d03cc487a65087448bf95f69b1bf94ad091a87a9c35410c2"), looks := false }, kinds := [], alts := [], laidByText := true, laidKinds := [.mapped], laidTests := true, laidLooks := .later }
def FnExactPrepareUptoCardSaid : Prop := Claim7.holds Tryz.pinned (.plain (OpenSpec.upto fnExactPrepareSpec)) fnExactPrepareUptoCard

/-- THE SECOND FORM's CARD OF 'laws.FnExactBegin'. -/
def fnExactBeginUptoCard : Claim7 := { stood := { row := fnExactBeginUptoRow, standIns := [], harness := (true, "f07cb11a616e1ad9d03cc487a65087448bf95f69b1bf94ad091a87a9c35410c2"), looks := false }, kinds := [], alts := [], laidByText := true, laidKinds := [.mapped], laidTests := true, laidLooks := .later }
def FnExactBeginUptoCardSaid : Prop := Claim7.holds Tryz.pinned (.plain (OpenSpec.upto fnExactBeginSpec)) fnExactBeginUptoCard
end Rows
end Go.Proofs.YtgpjfmjceamonaaGreatDoor
