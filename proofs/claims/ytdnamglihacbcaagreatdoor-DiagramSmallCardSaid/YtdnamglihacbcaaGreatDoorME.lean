/- DiagramSmall returns true, whatever memory it is called in; the two package variables that it reads hold what the program's text lays. -/
import Derived.Test.YtdnamglihacbcaaGreatDoorMT0
import Derived.Test.YtdnamglihacbcaaGreatDoorMT1
import Derived.Test.YtdnamglihacbcaaGreatDoorMT2
import Derived.Test.YtdnamglihacbcaaGreatDoorMT3
import Derived.Test.YtdnamglihacbcaaGreatDoorMT4
import Derived.Test.YtdnamglihacbcaaGreatDoorMT5
import Derived.Test.YtdnamglihacbcaaGreatDoorS2
import Derived.Test.YtdnamglihacbcaaGreatDoorV
import Derived.Test.YtdnamglihacbcaaGreatDoorA
import Derived.KernelRfl
set_option maxRecDepth 1000000
namespace Go.Proofs.YtdnamglihacbcaaGreatDoor
open Go Go.Sp

theorem Ts.end31 : Go.Sp.Ends Tv.view2 3 Ts.fv Ts.b31 Ts.e31 Ts.h31 Ts.v := Go.Sp.Ends.last 1000000 (by kernel_rfl)
theorem Ts.end30 : Go.Sp.Ends Tv.view2 3 Ts.fv Ts.b30 Ts.e30 Ts.h30 Ts.v := Go.Sp.Ends.next 1000000 Ts.sq30 Ts.st30 Ts.end31
theorem Ts.end29 : Go.Sp.Ends Tv.view2 3 Ts.fv Ts.b29 Ts.e29 Ts.h29 Ts.v := Go.Sp.Ends.next 1000000 Ts.sq29 Ts.st29 Ts.end30
theorem Ts.end28 : Go.Sp.Ends Tv.view2 3 Ts.fv Ts.b28 Ts.e28 Ts.h28 Ts.v := Go.Sp.Ends.next 1000000 Ts.sq28 Ts.st28 Ts.end29
theorem Ts.end27 : Go.Sp.Ends Tv.view2 3 Ts.fv Ts.b27 Ts.e27 Ts.h27 Ts.v := Go.Sp.Ends.next 1000000 Ts.sq27 Ts.st27 Ts.end28
theorem Ts.end26 : Go.Sp.Ends Tv.view2 3 Ts.fv Ts.b26 Ts.e26 Ts.h26 Ts.v := Go.Sp.Ends.next 1000000 Ts.sq26 Ts.st26 Ts.end27
theorem Ts.end25 : Go.Sp.Ends Tv.view2 3 Ts.fv Ts.b25 Ts.e25 Ts.h25 Ts.v := Go.Sp.Ends.next 1000000 Ts.sq25 Ts.st25 Ts.end26
theorem Ts.end24 : Go.Sp.Ends Tv.view2 3 Ts.fv Ts.b24 Ts.e24 Ts.h24 Ts.v := Go.Sp.Ends.next 1000000 Ts.sq24 Ts.st24 Ts.end25
theorem Ts.end23 : Go.Sp.Ends Tv.view2 3 Ts.fv Ts.b23 Ts.e23 Ts.h23 Ts.v := Go.Sp.Ends.next 1000000 Ts.sq23 Ts.st23 Ts.end24
theorem Ts.end22 : Go.Sp.Ends Tv.view2 3 Ts.fv Ts.b22 Ts.e22 Ts.h22 Ts.v := Go.Sp.Ends.next 1000000 Ts.sq22 Ts.st22 Ts.end23
theorem Ts.end21 : Go.Sp.Ends Tv.view2 3 Ts.fv Ts.b21 Ts.e21 Ts.h21 Ts.v := Go.Sp.Ends.next 1000000 Ts.sq21 Ts.st21 Ts.end22
theorem Ts.end20 : Go.Sp.Ends Tv.view2 3 Ts.fv Ts.b20 Ts.e20 Ts.h20 Ts.v := Go.Sp.Ends.next 1000000 Ts.sq20 Ts.st20 Ts.end21
theorem Ts.end19 : Go.Sp.Ends Tv.view2 3 Ts.fv Ts.b19 Ts.e19 Ts.h19 Ts.v := Go.Sp.Ends.next 1000000 Ts.sq19 Ts.st19 Ts.end20
theorem Ts.end18 : Go.Sp.Ends Tv.view2 3 Ts.fv Ts.b18 Ts.e18 Ts.h18 Ts.v := Go.Sp.Ends.next 1000000 Ts.sq18 Ts.st18 Ts.end19
theorem Ts.end17 : Go.Sp.Ends Tv.view2 3 Ts.fv Ts.b17 Ts.e17 Ts.h17 Ts.v := Go.Sp.Ends.next 1000000 Ts.sq17 Ts.st17 Ts.end18
theorem Ts.end16 : Go.Sp.Ends Tv.view2 3 Ts.fv Ts.b16 Ts.e16 Ts.h16 Ts.v := Go.Sp.Ends.next 1000000 Ts.sq16 Ts.st16 Ts.end17
theorem Ts.end15 : Go.Sp.Ends Tv.view2 3 Ts.fv Ts.b15 Ts.e15 Ts.h15 Ts.v := Go.Sp.Ends.next 1000000 Ts.sq15 Ts.st15 Ts.end16
theorem Ts.end14 : Go.Sp.Ends Tv.view2 3 Ts.fv Ts.b14 Ts.e14 Ts.h14 Ts.v := Go.Sp.Ends.next 1000000 Ts.sq14 Ts.st14 Ts.end15
theorem Ts.end13 : Go.Sp.Ends Tv.view2 3 Ts.fv Ts.b13 Ts.e13 Ts.h13 Ts.v := Go.Sp.Ends.next 1000000 Ts.sq13 Ts.st13 Ts.end14
theorem Ts.end12 : Go.Sp.Ends Tv.view2 3 Ts.fv Ts.b12 Ts.e12 Ts.h12 Ts.v := Go.Sp.Ends.next 1000000 Ts.sq12 Ts.st12 Ts.end13
theorem Ts.end11 : Go.Sp.Ends Tv.view2 3 Ts.fv Ts.b11 Ts.e11 Ts.h11 Ts.v := Go.Sp.Ends.next 1000000 Ts.sq11 Ts.st11 Ts.end12
theorem Ts.end10 : Go.Sp.Ends Tv.view2 3 Ts.fv Ts.b10 Ts.e10 Ts.h10 Ts.v := Go.Sp.Ends.next 1000000 Ts.sq10 Ts.st10 Ts.end11
theorem Ts.end9 : Go.Sp.Ends Tv.view2 3 Ts.fv Ts.b9 Ts.e9 Ts.h9 Ts.v := Go.Sp.Ends.next 1000000 Ts.sq9 Ts.st9 Ts.end10
theorem Ts.end8 : Go.Sp.Ends Tv.view2 3 Ts.fv Ts.b8 Ts.e8 Ts.h8 Ts.v := Go.Sp.Ends.next 1000000 Ts.sq8 Ts.st8 Ts.end9
theorem Ts.end7 : Go.Sp.Ends Tv.view2 3 Ts.fv Ts.b7 Ts.e7 Ts.h7 Ts.v := Go.Sp.Ends.next 1000000 Ts.sq7 Ts.st7 Ts.end8
theorem Ts.end6 : Go.Sp.Ends Tv.view2 3 Ts.fv Ts.b6 Ts.e6 Ts.h6 Ts.v := Go.Sp.Ends.next 1000000 Ts.sq6 Ts.st6 Ts.end7
theorem Ts.end5 : Go.Sp.Ends Tv.view2 3 Ts.fv Ts.b5 Ts.e5 Ts.h5 Ts.v := Go.Sp.Ends.next 1000000 Ts.sq5 Ts.st5 Ts.end6
theorem Ts.end4 : Go.Sp.Ends Tv.view2 3 Ts.fv Ts.b4 Ts.e4 Ts.h4 Ts.v := Go.Sp.Ends.next 1000000 Ts.sq4 Ts.st4 Ts.end5
theorem Ts.end3 : Go.Sp.Ends Tv.view2 3 Ts.fv Ts.b3 Ts.e3 Ts.h3 Ts.v := Go.Sp.Ends.next 1000000 Ts.sq3 Ts.st3 Ts.end4
theorem Ts.end2 : Go.Sp.Ends Tv.view2 3 Ts.fv Ts.b2 Ts.e2 Ts.h2 Ts.v := Go.Sp.Ends.next 1000000 Ts.sq2 Ts.st2 Ts.end3
theorem Ts.end1 : Go.Sp.Ends Tv.view2 3 Ts.fv Ts.b1 Ts.e1 Ts.h1 Ts.v := Go.Sp.Ends.next 1000000 Ts.sq1 Ts.st1 Ts.end2
theorem Ts.end0 : Go.Sp.Ends Tv.view2 3 Ts.fv Ts.b0 Ts.e0 Ts.h0 Ts.v := Go.Sp.Ends.next 1000000 Ts.sq0 Ts.st0 Ts.end1
end Go.Proofs.YtdnamglihacbcaaGreatDoor
