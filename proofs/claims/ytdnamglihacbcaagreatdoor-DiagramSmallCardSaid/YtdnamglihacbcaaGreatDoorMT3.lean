/- DiagramSmall returns true, whatever memory it is called in; the two package variables that it reads hold what the program's text lays. -/
import Derived.Test.YtdnamglihacbcaaGreatDoorMD
import Derived.Test.YtdnamglihacbcaaGreatDoorS2
import Derived.Test.YtdnamglihacbcaaGreatDoorV
import Derived.Test.YtdnamglihacbcaaGreatDoorA
import Derived.KernelRfl
set_option maxRecDepth 1000000
namespace Go.Proofs.YtdnamglihacbcaaGreatDoor
open Go Go.Sp

theorem Ts.st14 : stationB Ts.e15 Ts.h15 (Fast.run Tv.view2 1000000 (.code 3 Ts.fv.nt none (first Ts.b14) Ts.e14) Ts.h14) = true := by kernel_rfl
theorem Ts.sq13 : isSeq Ts.b13 = true := by kernel_rfl
theorem Ts.st13 : stationB Ts.e14 Ts.h14 (Fast.run Tv.view2 1000000 (.code 3 Ts.fv.nt none (first Ts.b13) Ts.e13) Ts.h13) = true := by kernel_rfl
theorem Ts.sq12 : isSeq Ts.b12 = true := by kernel_rfl
theorem Ts.st12 : stationB Ts.e13 Ts.h13 (Fast.run Tv.view2 1000000 (.code 3 Ts.fv.nt none (first Ts.b12) Ts.e12) Ts.h12) = true := by kernel_rfl
theorem Ts.sq11 : isSeq Ts.b11 = true := by kernel_rfl
theorem Ts.st11 : stationB Ts.e12 Ts.h12 (Fast.run Tv.view2 1000000 (.code 3 Ts.fv.nt none (first Ts.b11) Ts.e11) Ts.h11) = true := by kernel_rfl
theorem Ts.sq10 : isSeq Ts.b10 = true := by kernel_rfl
theorem Ts.st10 : stationB Ts.e11 Ts.h11 (Fast.run Tv.view2 1000000 (.code 3 Ts.fv.nt none (first Ts.b10) Ts.e10) Ts.h10) = true := by kernel_rfl
theorem Ts.sq9 : isSeq Ts.b9 = true := by kernel_rfl
theorem Ts.st9 : stationB Ts.e10 Ts.h10 (Fast.run Tv.view2 1000000 (.code 3 Ts.fv.nt none (first Ts.b9) Ts.e9) Ts.h9) = true := by kernel_rfl
end Go.Proofs.YtdnamglihacbcaaGreatDoor
