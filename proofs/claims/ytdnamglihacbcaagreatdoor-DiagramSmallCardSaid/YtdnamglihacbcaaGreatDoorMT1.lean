/- DiagramSmall returns true, whatever memory it is called in; the two package variables that it reads hold what the program's text lays. -/
import Derived.Test.YtdnamglihacbcaaGreatDoorMD
import Derived.Test.YtdnamglihacbcaaGreatDoorS2
import Derived.Test.YtdnamglihacbcaaGreatDoorV
import Derived.Test.YtdnamglihacbcaaGreatDoorA
import Derived.KernelRfl
set_option maxRecDepth 1000000
namespace Go.Proofs.YtdnamglihacbcaaGreatDoor
open Go Go.Sp

theorem Ts.st25 : stationB Ts.e26 Ts.h26 (Fast.run Tv.view2 1000000 (.code 3 Ts.fv.nt none (first Ts.b25) Ts.e25) Ts.h25) = true := by kernel_rfl
theorem Ts.sq24 : isSeq Ts.b24 = true := by kernel_rfl
theorem Ts.st24 : stationB Ts.e25 Ts.h25 (Fast.run Tv.view2 1000000 (.code 3 Ts.fv.nt none (first Ts.b24) Ts.e24) Ts.h24) = true := by kernel_rfl
theorem Ts.sq23 : isSeq Ts.b23 = true := by kernel_rfl
theorem Ts.st23 : stationB Ts.e24 Ts.h24 (Fast.run Tv.view2 1000000 (.code 3 Ts.fv.nt none (first Ts.b23) Ts.e23) Ts.h23) = true := by kernel_rfl
theorem Ts.sq22 : isSeq Ts.b22 = true := by kernel_rfl
theorem Ts.st22 : stationB Ts.e23 Ts.h23 (Fast.run Tv.view2 1000000 (.code 3 Ts.fv.nt none (first Ts.b22) Ts.e22) Ts.h22) = true := by kernel_rfl
theorem Ts.sq21 : isSeq Ts.b21 = true := by kernel_rfl
theorem Ts.st21 : stationB Ts.e22 Ts.h22 (Fast.run Tv.view2 1000000 (.code 3 Ts.fv.nt none (first Ts.b21) Ts.e21) Ts.h21) = true := by kernel_rfl
theorem Ts.sq20 : isSeq Ts.b20 = true := by kernel_rfl
theorem Ts.st20 : stationB Ts.e21 Ts.h21 (Fast.run Tv.view2 1000000 (.code 3 Ts.fv.nt none (first Ts.b20) Ts.e20) Ts.h20) = true := by kernel_rfl
end Go.Proofs.YtdnamglihacbcaaGreatDoor
