/-
 The law FnExactBegin holds: at every argument within the row's conditions (one variable laid as the program's text lays it) the program's Begin answers as the reference's.
-/
import Derived.Test.YtgpjfmjceamonaaGreatDoorL7QB
namespace Go.Proofs.YtgpjfmjceamonaaGreatDoor
theorem begin_holds:Rows.FnExactBeginCardSaid:=Go.Ev.L7.card Go.Ev.L7.pure4
#print axioms begin_holds
end Go.Proofs.YtgpjfmjceamonaaGreatDoor
