/- DiagramSmall returns true, whatever memory it is called in; the two package variables that it reads hold what the program's text lays. -/
import Derived.Test.YtdnamglihacbcaaGreatDoorMD
import Derived.Test.YtdnamglihacbcaaGreatDoorS2
import Derived.Test.YtdnamglihacbcaaGreatDoorV
import Derived.Test.YtdnamglihacbcaaGreatDoorA
import Derived.KernelRfl
set_option maxRecDepth 1000000
namespace Go.Proofs.YtdnamglihacbcaaGreatDoor
open Go Go.Sp

theorem Ts.st3 : stationB Ts.e4 Ts.h4 (Fast.run Tv.view2 1000000 (.code 3 Ts.fv.nt none (first Ts.b3) Ts.e3) Ts.h3) = true := by kernel_rfl
theorem Ts.sq2 : isSeq Ts.b2 = true := by kernel_rfl
theorem Ts.st2 : stationB Ts.e3 Ts.h3 (Fast.run Tv.view2 1000000 (.code 3 Ts.fv.nt none (first Ts.b2) Ts.e2) Ts.h2) = true := by kernel_rfl
theorem Ts.sq1 : isSeq Ts.b1 = true := by kernel_rfl
theorem Ts.st1 : stationB Ts.e2 Ts.h2 (Fast.run Tv.view2 1000000 (.code 3 Ts.fv.nt none (first Ts.b1) Ts.e1) Ts.h1) = true := by kernel_rfl
theorem Ts.sq0 : isSeq Ts.b0 = true := by kernel_rfl
theorem Ts.st0 : stationB Ts.e1 Ts.h1 (Fast.run Tv.view2 1000000 (.code 3 Ts.fv.nt none (first Ts.b0) Ts.e0) Ts.h0) = true := by kernel_rfl
end Go.Proofs.YtdnamglihacbcaaGreatDoor
