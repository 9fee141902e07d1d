/-
 The law FnExactPrepare holds: at every argument within the row's conditions (one variable laid as the program's text lays it) the program's Prepare answers as the reference's.
-/
import Derived.Test.YtgpjfmjceamonaaGreatDoorL6L
import Derived.Test.YtgpjfmjceamonaaGreatDoorL6QD
namespace Go.Proofs.YtgpjfmjceamonaaGreatDoor
/-- The law: the program's Prepare is the reference's. -/
theorem prepare_holds : Rows.FnExactPrepareCardSaid := Go.Ev.L6.card Go.Ev.L6.pure3
#print axioms prepare_holds
end Go.Proofs.YtgpjfmjceamonaaGreatDoor
