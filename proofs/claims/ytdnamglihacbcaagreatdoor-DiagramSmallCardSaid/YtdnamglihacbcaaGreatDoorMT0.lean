/- DiagramSmall returns true, whatever memory it is called in; the two package variables that it reads hold what the program's text lays. -/
import Derived.Test.YtdnamglihacbcaaGreatDoorMD
import Derived.Test.YtdnamglihacbcaaGreatDoorS2
import Derived.Test.YtdnamglihacbcaaGreatDoorV
import Derived.Test.YtdnamglihacbcaaGreatDoorA
import Derived.KernelRfl
set_option maxRecDepth 1000000
namespace Go.Proofs.YtdnamglihacbcaaGreatDoor
open Go Go.Sp

theorem Ts.sq30 : isSeq Ts.b30 = true := by kernel_rfl
theorem Ts.st30 : stationB Ts.e31 Ts.h31 (Fast.run Tv.view2 1000000 (.code 3 Ts.fv.nt none (first Ts.b30) Ts.e30) Ts.h30) = true := by kernel_rfl
theorem Ts.sq29 : isSeq Ts.b29 = true := by kernel_rfl
theorem Ts.st29 : stationB Ts.e30 Ts.h30 (Fast.run Tv.view2 1000000 (.code 3 Ts.fv.nt none (first Ts.b29) Ts.e29) Ts.h29) = true := by kernel_rfl
theorem Ts.sq28 : isSeq Ts.b28 = true := by kernel_rfl
theorem Ts.st28 : stationB Ts.e29 Ts.h29 (Fast.run Tv.view2 1000000 (.code 3 Ts.fv.nt none (first Ts.b28) Ts.e28) Ts.h28) = true := by kernel_rfl
theorem Ts.sq27 : isSeq Ts.b27 = true := by kernel_rfl
theorem Ts.st27 : stationB Ts.e28 Ts.h28 (Fast.run Tv.view2 1000000 (.code 3 Ts.fv.nt none (first Ts.b27) Ts.e27) Ts.h27) = true := by kernel_rfl
theorem Ts.sq26 : isSeq Ts.b26 = true := by kernel_rfl
theorem Ts.st26 : stationB Ts.e27 Ts.h27 (Fast.run Tv.view2 1000000 (.code 3 Ts.fv.nt none (first Ts.b26) Ts.e26) Ts.h26) = true := by kernel_rfl
theorem Ts.sq25 : isSeq Ts.b25 = true := by kernel_rfl
end Go.Proofs.YtdnamglihacbcaaGreatDoor
