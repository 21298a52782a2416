/- DiagramSmall returns true, whatever memory it is called in; the two package variables that it reads hold what the program's text lays. -/
import Derived.Test.YtdnamglihacbcaaGreatDoorMD
import Derived.Test.YtdnamglihacbcaaGreatDoorS2
import Derived.Test.YtdnamglihacbcaaGreatDoorV
import Derived.Test.YtdnamglihacbcaaGreatDoorA
import Derived.KernelRfl
set_option maxRecDepth 1000000
namespace Go.Proofs.YtdnamglihacbcaaGreatDoor
open Go Go.Sp

theorem Ts.sq19 : isSeq Ts.b19 = true := by kernel_rfl
theorem Ts.st19 : stationB Ts.e20 Ts.h20 (Fast.run Tv.view2 1000000 (.code 3 Ts.fv.nt none (first Ts.b19) Ts.e19) Ts.h19) = true := by kernel_rfl
theorem Ts.sq18 : isSeq Ts.b18 = true := by kernel_rfl
theorem Ts.st18 : stationB Ts.e19 Ts.h19 (Fast.run Tv.view2 1000000 (.code 3 Ts.fv.nt none (first Ts.b18) Ts.e18) Ts.h18) = true := by kernel_rfl
theorem Ts.sq17 : isSeq Ts.b17 = true := by kernel_rfl
theorem Ts.st17 : stationB Ts.e18 Ts.h18 (Fast.run Tv.view2 1000000 (.code 3 Ts.fv.nt none (first Ts.b17) Ts.e17) Ts.h17) = true := by kernel_rfl
theorem Ts.sq16 : isSeq Ts.b16 = true := by kernel_rfl
theorem Ts.st16 : stationB Ts.e17 Ts.h17 (Fast.run Tv.view2 1000000 (.code 3 Ts.fv.nt none (first Ts.b16) Ts.e16) Ts.h16) = true := by kernel_rfl
theorem Ts.sq15 : isSeq Ts.b15 = true := by kernel_rfl
theorem Ts.st15 : stationB Ts.e16 Ts.h16 (Fast.run Tv.view2 1000000 (.code 3 Ts.fv.nt none (first Ts.b15) Ts.e15) Ts.h15) = true := by kernel_rfl
theorem Ts.sq14 : isSeq Ts.b14 = true := by kernel_rfl
end Go.Proofs.YtdnamglihacbcaaGreatDoor
