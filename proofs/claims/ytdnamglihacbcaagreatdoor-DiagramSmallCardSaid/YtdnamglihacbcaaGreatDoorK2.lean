/- DiagramSmall returns true, whatever memory it is called in; the two package variables that it reads hold what the program's text lays. -/
import Derived.Test.YtdnamglihacbcaaGreatDoorS2
import Derived.Test.YtdnamglihacbcaaGreatDoorV
import Derived.KernelRfl
set_option maxRecDepth 1000000
namespace Go.Proofs.YtdnamglihacbcaaGreatDoor
open Go Go.Sp
theorem Tv.h4 : (Tv.view.fn.toL 1 0).all (fun x => codeB Tv.view 2 x.1 x.2.body) = true := by kernel_rfl
end Go.Proofs.YtdnamglihacbcaaGreatDoor
