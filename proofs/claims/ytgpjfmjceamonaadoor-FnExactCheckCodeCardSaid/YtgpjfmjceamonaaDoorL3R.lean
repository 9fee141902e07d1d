/-
  The law FnExactCheckCode holds: at every argument within the row's conditions (one variable laid as the program's text lays it) the program's CheckCode answers as the reference's.
-/
import Derived.Test.YtgpjfmjceamonaaDoorL3L
import Derived.Test.YtgpjfmjceamonaaDoorL3QC
namespace Go.Proofs.YtgpjfmjceamonaaDoor
/-- The law: the program's CheckCode is the reference's. -/
theorem checkCode_holds : Rows.FnExactCheckCodeCardSaid := Go.Ev.L3.card Go.Ev.L3.pure3
#print axioms checkCode_holds
end Go.Proofs.YtgpjfmjceamonaaDoor
