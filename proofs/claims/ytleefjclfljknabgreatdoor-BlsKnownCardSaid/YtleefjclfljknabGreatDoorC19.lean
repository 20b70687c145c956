/-
Contracts of calls that BlsKnown comes to, each by the kernel's own run; printed by a program of the session.
-/
import Derived.Test.YtleefjclfljknabGreatDoorC0
import Derived.Test.YtleefjclfljknabGreatDoorC8
import Derived.Test.YtleefjclfljknabGreatDoorC13
import Derived.Test.YtleefjclfljknabGreatDoorC14
import Derived.Test.YtleefjclfljknabGreatDoorC15
import Derived.Test.YtleefjclfljknabGreatDoorC18
import Derived.Test.YtleefjclfljknabGreatDoorP
namespace Go.Proofs.YtleefjclfljknabGreatDoor
open Go.Rx
def c1484 : CT := ⟨180, [.one (.c (.ptr 0 0)), .one (.agg (W [58373, 0, 0, 0, 0, 0])), .one (.agg (W [32760, 0, 0, 0, 0, 0]))], [bx l34 253], .one (.agg (W [2, 0, 0, 0, 0, 0])), [xx], [true]⟩
theorem hc1484 : c1484.Holds P := fnA S autoOk Tryz.func180 o180 Tryz.call180 [] 7788 [] (by kernel_rfl)
def c1485 : CT := ⟨239, [.one (.c (.ptr 0 0)), .one (.agg (W [65517, 0, 0, 0, 0, 0])), .one (.agg (W [32760, 0, 0, 0, 0, 0]))], [bx l34 253], .one (.agg (W [2, 0, 0, 0, 0, 0])), [xx], [true]⟩
theorem hc1485 : c1485.Holds P := fnA S autoOk Tryz.func239 o239 Tryz.call239 [⟨c1320, hc1320, [0]⟩, ⟨c1483, hc1483, [0]⟩, ⟨c1484, hc1484, [0]⟩] 332 [] (by kernel_rfl)
def c1486 : CT := ⟨238, [.one (.c (.ptr 0 0)), .one (.c (.ptr 1 0)), .one (.c (.ptr 2 0))], [bx l34 253, b130, b133], .one (.agg (W [2, 0, 0, 0, 0, 0])), [xx, xx, xx], [true, true, true]⟩
theorem hc1486 : c1486.Holds P := fnA S autoOk Tryz.func238 o238 Tryz.call238 [⟨c1485, hc1485, [0]⟩] 312 [] (by kernel_rfl)
def c1487 : CT := ⟨237, [.one (.c (i 1)), .clo 238 [.c (.ptr 0 0), .c (.ptr 1 0)], .one (.c (.slc 2 0 2 2))], [b130, b133, bx l39 25], .tup [.agg (W [2, 0, 0, 0, 0, 0]), .c (i 0)], [xx, xx, xx], [true, true, true]⟩
theorem hc1487 : c1487.Holds P := fnA S autoOk Tryz.func237 o237 Tryz.call237 [⟨c1482, hc1482, [2]⟩, ⟨c1486, hc1486, [4, 0, 1]⟩] 334 [] (by kernel_rfl)
def c1488 : CT := ⟨207, [.one (.c (i 1)), .one (.agg (W [65517, 0, 0, 0, 0, 0])), .one (.agg (W [32760, 0, 0, 0, 0, 0]))], [], .tup [.agg (W [2, 0, 0, 0, 0, 0]), .c (i 0)], [], []⟩
theorem hc1488 : c1488.Holds P := fnA S autoOk Tryz.func207 o207 Tryz.call207 [⟨c1487, hc1487, [0, 1, 3]⟩] 328 [] (by kernel_rfl)
def c1489 : CT := ⟨156, [.one (.agg [i 1]), .one (.agg (W [65517, 0, 0, 0, 0, 0])), .one (.agg (W [32760, 0, 0, 0, 0, 0]))], [], .one (.agg (W [2, 0, 0, 0, 0, 0])), [], []⟩
theorem hc1489 : c1489.Holds P := fnA S autoOk Tryz.func156 o156 Tryz.call156 [⟨c1488, hc1488, []⟩] 334 [] (by kernel_rfl)
def c1490 : CT := ⟨242, [.one (.c (i 1)), .one (.c (.slc 0 0 2 2))], [bx l40 25], .tup [.c (.ptr 1 0), .c (i 0)], [xx, bx l34 253], [true]⟩
theorem hc1490 : c1490.Holds P := fnA S autoOk Tryz.func242 o242 Tryz.call242 [⟨c2, hc2, []⟩, ⟨c6, hc6, []⟩, ⟨c281, hc281, []⟩, ⟨c1341, hc1341, []⟩, ⟨c1318, hc1318, []⟩] 382 [4] (by kernel_rfl)
def c1491 : CT := ⟨241, [.one (.c (.ptr 0 0)), .one (.agg (rep (w 0) 6)), .one (.agg (W [2, 0, 0, 0, 0, 0]))], [bx l34 253], .one (.agg (W [65519, 0, 0, 0, 0, 0])), [xx], [true]⟩
theorem hc1491 : c1491.Holds P := fnA S autoOk Tryz.func241 o241 Tryz.call241 [⟨c1320, hc1320, [0]⟩, ⟨c1321, hc1321, [0]⟩, ⟨c1343, hc1343, [0]⟩, ⟨c1344, hc1344, []⟩] 362 [] (by kernel_rfl)
def c1492 : CT := ⟨240, [.one (.c (.ptr 0 0)), .one (.c (.ptr 1 0)), .one (.c (.ptr 2 0))], [bx l34 253, bx (rep (w 0) 6) 25, b131], .one (.agg (W [65519, 0, 0, 0, 0, 0])), [xx, xx, xx], [true, true, true]⟩
theorem hc1492 : c1492.Holds P := fnA S autoOk Tryz.func240 o240 Tryz.call240 [⟨c1491, hc1491, [0]⟩] 312 [] (by kernel_rfl)
def c1493 : CT := ⟨237, [.one (.c (i 1)), .clo 240 [.c (.ptr 0 0), .c (.ptr 1 0)], .one (.c (.slc 2 0 2 2))], [bx (rep (w 0) 6) 25, b131, bx l40 25], .tup [.agg (W [65519, 0, 0, 0, 0, 0]), .c (i 0)], [xx, xx, xx], [true, true, true]⟩
theorem hc1493 : c1493.Holds P := fnA S autoOk Tryz.func237 o237 Tryz.call237 [⟨c1490, hc1490, [2]⟩, ⟨c1492, hc1492, [4, 0, 1]⟩] 334 [] (by kernel_rfl)
def c1494 : CT := ⟨208, [.one (.c (i 1)), .one (.agg (rep (w 0) 6)), .one (.agg (W [2, 0, 0, 0, 0, 0]))], [], .tup [.agg (W [65519, 0, 0, 0, 0, 0]), .c (i 0)], [], []⟩
theorem hc1494 : c1494.Holds P := fnA S autoOk Tryz.func208 o208 Tryz.call208 [⟨c1493, hc1493, [0, 1, 3]⟩] 328 [] (by kernel_rfl)
def c1495 : CT := ⟨157, [.one (.agg [i 1]), .one (.agg (rep (w 0) 6)), .one (.agg (W [2, 0, 0, 0, 0, 0]))], [], .one (.agg (W [65519, 0, 0, 0, 0, 0])), [], []⟩
theorem hc1495 : c1495.Holds P := fnA S autoOk Tryz.func157 o157 Tryz.call157 [⟨c1494, hc1494, []⟩] 334 [] (by kernel_rfl)
def c1496 : CT := ⟨242, [.one (.c (i 1)), .one (.c (.slc 0 0 2 2))], [bx l41 25], .tup [.c (.ptr 1 0), .c (i 0)], [xx, bx l34 253], [true]⟩
theorem hc1496 : c1496.Holds P := fnA S autoOk Tryz.func242 o242 Tryz.call242 [⟨c2, hc2, []⟩, ⟨c6, hc6, []⟩, ⟨c1315, hc1315, []⟩, ⟨c1341, hc1341, []⟩, ⟨c1318, hc1318, []⟩] 382 [4] (by kernel_rfl)
def c1497 : CT := ⟨241, [.one (.c (.ptr 0 0)), .one (.agg (W [4, 0, 0, 0, 0, 0])), .one (.agg (W [2, 0, 0, 0, 0, 0]))], [bx l34 253], .one (.agg (W [2, 0, 0, 0, 0, 0])), [xx], [true]⟩
theorem hc1497 : c1497.Holds P := fnA S autoOk Tryz.func241 o241 Tryz.call241 [⟨c1320, hc1320, [0]⟩, ⟨c1322, hc1322, [0]⟩, ⟨c1343, hc1343, [0]⟩] 342 [] (by kernel_rfl)
def c1498 : CT := ⟨240, [.one (.c (.ptr 0 0)), .one (.c (.ptr 1 0)), .one (.c (.ptr 2 0))], [bx l34 253, b128, b131], .one (.agg (W [2, 0, 0, 0, 0, 0])), [xx, xx, xx], [true, true, true]⟩
theorem hc1498 : c1498.Holds P := fnA S autoOk Tryz.func240 o240 Tryz.call240 [⟨c1497, hc1497, [0]⟩] 312 [] (by kernel_rfl)
def c1499 : CT := ⟨237, [.one (.c (i 1)), .clo 240 [.c (.ptr 0 0), .c (.ptr 1 0)], .one (.c (.slc 2 0 2 2))], [b128, b131, bx l41 25], .tup [.agg (W [2, 0, 0, 0, 0, 0]), .c (i 0)], [xx, xx, xx], [true, true, true]⟩
theorem hc1499 : c1499.Holds P := fnA S autoOk Tryz.func237 o237 Tryz.call237 [⟨c1496, hc1496, [2]⟩, ⟨c1498, hc1498, [4, 0, 1]⟩] 334 [] (by kernel_rfl)
def c1500 : CT := ⟨208, [.one (.c (i 1)), .one (.agg (W [4, 0, 0, 0, 0, 0])), .one (.agg (W [2, 0, 0, 0, 0, 0]))], [], .tup [.agg (W [2, 0, 0, 0, 0, 0]), .c (i 0)], [], []⟩
theorem hc1500 : c1500.Holds P := fnA S autoOk Tryz.func208 o208 Tryz.call208 [⟨c1499, hc1499, [0, 1, 3]⟩] 328 [] (by kernel_rfl)
def c1501 : CT := ⟨157, [.one (.agg [i 1]), .one (.agg (W [4, 0, 0, 0, 0, 0])), .one (.agg (W [2, 0, 0, 0, 0, 0]))], [], .one (.agg (W [2, 0, 0, 0, 0, 0])), [], []⟩
theorem hc1501 : c1501.Holds P := fnA S autoOk Tryz.func157 o157 Tryz.call157 [⟨c1500, hc1500, []⟩] 334 [] (by kernel_rfl)
def c1502 : CT := ⟨242, [.one (.c (i 1)), .one (.c (.slc 0 0 2 2))], [bx l42 25], .tup [.c (.ptr 1 0), .c (i 0)], [xx, bx l34 253], [true]⟩
theorem hc1502 : c1502.Holds P := fnA S autoOk Tryz.func242 o242 Tryz.call242 [⟨c2, hc2, []⟩, ⟨c6, hc6, []⟩, ⟨c1329, hc1329, []⟩, ⟨c1341, hc1341, []⟩, ⟨c1318, hc1318, []⟩] 382 [4] (by kernel_rfl)
def c1503 : CT := ⟨180, [.one (.c (.ptr 0 0)), .one (.agg (W [1787, 0, 0, 0, 0, 0])), .one (.agg (W [2, 0, 0, 0, 0, 0]))], [bx l34 253], .one (.agg (W [2, 0, 0, 0, 0, 0])), [xx], [true]⟩
theorem hc1503 : c1503.Holds P := fnA S autoOk Tryz.func180 o180 Tryz.call180 [] 7788 [] (by kernel_rfl)
def c1504 : CT := ⟨239, [.one (.c (.ptr 0 0)), .one (.agg (W [1, 0, 0, 0, 0, 0])), .one (.agg (W [2, 0, 0, 0, 0, 0]))], [bx l34 253], .one (.agg (W [2, 0, 0, 0, 0, 0])), [xx], [true]⟩
theorem hc1504 : c1504.Holds P := fnA S autoOk Tryz.func239 o239 Tryz.call239 [⟨c1320, hc1320, [0]⟩, ⟨c1332, hc1332, [0]⟩, ⟨c1503, hc1503, [0]⟩] 332 [] (by kernel_rfl)
def c1505 : CT := ⟨238, [.one (.c (.ptr 0 0)), .one (.c (.ptr 1 0)), .one (.c (.ptr 2 0))], [bx l34 253, b129, b131], .one (.agg (W [2, 0, 0, 0, 0, 0])), [xx, xx, xx], [true, true, true]⟩
theorem hc1505 : c1505.Holds P := fnA S autoOk Tryz.func238 o238 Tryz.call238 [⟨c1504, hc1504, [0]⟩] 312 [] (by kernel_rfl)
def c1506 : CT := ⟨237, [.one (.c (i 1)), .clo 238 [.c (.ptr 0 0), .c (.ptr 1 0)], .one (.c (.slc 2 0 2 2))], [b129, b131, bx l42 25], .tup [.agg (W [2, 0, 0, 0, 0, 0]), .c (i 0)], [xx, xx, xx], [true, true, true]⟩
theorem hc1506 : c1506.Holds P := fnA S autoOk Tryz.func237 o237 Tryz.call237 [⟨c1502, hc1502, [2]⟩, ⟨c1505, hc1505, [4, 0, 1]⟩] 334 [] (by kernel_rfl)
def c1507 : CT := ⟨207, [.one (.c (i 1)), .one (.agg (W [1, 0, 0, 0, 0, 0])), .one (.agg (W [2, 0, 0, 0, 0, 0]))], [], .tup [.agg (W [2, 0, 0, 0, 0, 0]), .c (i 0)], [], []⟩
theorem hc1507 : c1507.Holds P := fnA S autoOk Tryz.func207 o207 Tryz.call207 [⟨c1506, hc1506, [0, 1, 3]⟩] 328 [] (by kernel_rfl)
def c1508 : CT := ⟨156, [.one (.agg [i 1]), .one (.agg (W [1, 0, 0, 0, 0, 0])), .one (.agg (W [2, 0, 0, 0, 0, 0]))], [], .one (.agg (W [2, 0, 0, 0, 0, 0])), [], []⟩
theorem hc1508 : c1508.Holds P := fnA S autoOk Tryz.func156 o156 Tryz.call156 [⟨c1507, hc1507, []⟩] 334 [] (by kernel_rfl)
def c1509 : CT := ⟨242, [.one (.c (i 1)), .one (.c (.slc 0 0 1 1))], [b131], .tup [.c (.ptr 1 0), .c (i 0)], [xx, bx l34 253], [true]⟩
theorem hc1509 : c1509.Holds P := fnA S autoOk Tryz.func242 o242 Tryz.call242 [⟨c2, hc2, []⟩, ⟨c6, hc6, []⟩, ⟨c1341, hc1341, []⟩, ⟨c1318, hc1318, []⟩] 360 [3] (by kernel_rfl)
def c1510 : CT := ⟨220, [.one (.agg (W [1, 0, 0, 0, 0, 0])), .one (.agg (W [65521, 0, 0, 0, 0, 0]))], [], .tup [.agg (W [65522, 0, 0, 0, 0, 0]), .c ff], [], []⟩
theorem hc1510 : c1510.Holds P := fnA S autoOk Tryz.func220 o220 Tryz.call220 [] 566 [] (by kernel_rfl)
def c1511 : CT := ⟨110, [.one (.agg (W [65522, 0, 0, 0, 0, 0])), .one (.c (i (-1)))], [], .one (.agg (W [32761, 0, 0, 0, 0, 0])), [], []⟩
theorem hc1511 : c1511.Holds P := fnA S autoOk Tryz.func110 o110 Tryz.call110 [] 924 [] (by kernel_rfl)
def c1512 : CT := ⟨253, [.one (.c (.ptr 0 0)), .one (.agg (W [1, 0, 0, 0, 0, 0]))], [bx l34 253], .one (.agg (W [32761, 0, 0, 0, 0, 0])), [xx], [true]⟩
theorem hc1512 : c1512.Holds P := fnA S autoOk Tryz.func253 o253 Tryz.call253 [⟨c1510, hc1510, []⟩, ⟨c1511, hc1511, []⟩] 338 [] (by kernel_rfl)
def c1513 : CT := ⟨16, [.one (.agg (W [32761, 0, 0, 0, 0, 0])), .one (.agg (W [65521, 0, 0, 0, 0, 0]))], [], .one (.c (i (-1))), [], []⟩
theorem hc1513 : c1513.Holds P := fnA S autoOk Tryz.func16 o16 Tryz.call16 [] 540 [] (by kernel_rfl)
def c1514 : CT := ⟨221, [.one (.c (.ptr 0 0)), .one (.agg (W [32761, 0, 0, 0, 0, 0]))], [bx l34 253], .one (.agg (W [32761, 0, 0, 0, 0, 0])), [xx], [true]⟩
theorem hc1514 : c1514.Holds P := fnA S autoOk Tryz.func221 o221 Tryz.call221 [⟨c1320, hc1320, [0]⟩, ⟨c1513, hc1513, []⟩] 326 [] (by kernel_rfl)
def c1515 : CT := ⟨220, [.one (.agg (W [18446744073709518855, 18446744073709551615, 18446744073709551615, 18446744073709551615, 18446744073709551615, 18446744073709551615])), .one (.agg (W [65521, 0, 0, 0, 0, 0]))], [], .tup [.agg (W [32760, 0, 0, 0, 0, 0]), .c tt], [], []⟩
theorem hc1515 : c1515.Holds P := fnA S autoOk Tryz.func220 o220 Tryz.call220 [] 566 [] (by kernel_rfl)
def c1516 : CT := ⟨241, [.one (.c (.ptr 0 0)), .one (.agg (rep (w 0) 6)), .one (.agg (W [32761, 0, 0, 0, 0, 0]))], [bx l34 253], .one (.agg (W [32760, 0, 0, 0, 0, 0])), [xx], [true]⟩
theorem hc1516 : c1516.Holds P := fnA S autoOk Tryz.func241 o241 Tryz.call241 [⟨c1320, hc1320, [0]⟩, ⟨c1321, hc1321, [0]⟩, ⟨c1514, hc1514, [0]⟩, ⟨c1515, hc1515, []⟩] 362 [] (by kernel_rfl)
end Go.Proofs.YtleefjclfljknabGreatDoor
