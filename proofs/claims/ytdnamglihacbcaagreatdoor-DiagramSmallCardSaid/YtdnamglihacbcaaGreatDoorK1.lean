/- DiagramSmall returns true, whatever memory it is called in; the two package variables that it reads hold what the program's text lays. -/
import Derived.Test.YtdnamglihacbcaaGreatDoorS2
import Derived.Test.YtdnamglihacbcaaGreatDoorV
import Derived.KernelRfl
set_option maxRecDepth 1000000
namespace Go.Proofs.YtdnamglihacbcaaGreatDoor
open Go Go.Sp
theorem Tv.h1 : (Tv.view.ty.toL 1 0).map (fun x => mkTV Tryz.prog x.1) = (Tv.view.ty.toL 1 0).map (fun x => some x.2) := by kernel_rfl
theorem Tv.h2 : (Tv.view.fn.toL 1 0).map (fun x => (Tryz.prog.funcs[x.1]?).map FV.of) = (Tv.view.fn.toL 1 0).map (fun x => some x.2) := by kernel_rfl
theorem Tv.h3 : (Tv.view.fn.toL 1 0).all (fun x => nameB Tryz.prog x.1) = true := by kernel_rfl
theorem Tv.h5 : Tryz.prog.follows .mixedOrders = true := by kernel_rfl
end Go.Proofs.YtdnamglihacbcaaGreatDoor
