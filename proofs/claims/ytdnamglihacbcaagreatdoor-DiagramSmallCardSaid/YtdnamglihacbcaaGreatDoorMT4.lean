/- DiagramSmall returns true, whatever memory it is called in; the two package variables that it reads hold what the program's text lays. -/
import Derived.Test.YtdnamglihacbcaaGreatDoorMD
import Derived.Test.YtdnamglihacbcaaGreatDoorS2
import Derived.Test.YtdnamglihacbcaaGreatDoorV
import Derived.Test.YtdnamglihacbcaaGreatDoorA
import Derived.KernelRfl
set_option maxRecDepth 1000000
namespace Go.Proofs.YtdnamglihacbcaaGreatDoor
open Go Go.Sp

theorem Ts.sq8 : isSeq Ts.b8 = true := by kernel_rfl
theorem Ts.st8 : stationB Ts.e9 Ts.h9 (Fast.run Tv.view2 1000000 (.code 3 Ts.fv.nt none (first Ts.b8) Ts.e8) Ts.h8) = true := by kernel_rfl
theorem Ts.sq7 : isSeq Ts.b7 = true := by kernel_rfl
theorem Ts.st7 : stationB Ts.e8 Ts.h8 (Fast.run Tv.view2 1000000 (.code 3 Ts.fv.nt none (first Ts.b7) Ts.e7) Ts.h7) = true := by kernel_rfl
theorem Ts.sq6 : isSeq Ts.b6 = true := by kernel_rfl
theorem Ts.st6 : stationB Ts.e7 Ts.h7 (Fast.run Tv.view2 1000000 (.code 3 Ts.fv.nt none (first Ts.b6) Ts.e6) Ts.h6) = true := by kernel_rfl
theorem Ts.sq5 : isSeq Ts.b5 = true := by kernel_rfl
theorem Ts.st5 : stationB Ts.e6 Ts.h6 (Fast.run Tv.view2 1000000 (.code 3 Ts.fv.nt none (first Ts.b5) Ts.e5) Ts.h5) = true := by kernel_rfl
theorem Ts.sq4 : isSeq Ts.b4 = true := by kernel_rfl
theorem Ts.st4 : stationB Ts.e5 Ts.h5 (Fast.run Tv.view2 1000000 (.code 3 Ts.fv.nt none (first Ts.b4) Ts.e4) Ts.h4) = true := by kernel_rfl
theorem Ts.sq3 : isSeq Ts.b3 = true := by kernel_rfl
end Go.Proofs.YtdnamglihacbcaaGreatDoor
