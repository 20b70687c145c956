/-
Contracts of calls that BlsKnown comes to, each by the kernel's own run; printed by a program of the session.
-/
import Derived.Test.YtleefjclfljknabGreatDoorC0
import Derived.Test.YtleefjclfljknabGreatDoorC13
import Derived.Test.YtleefjclfljknabGreatDoorC14
import Derived.Test.YtleefjclfljknabGreatDoorP
namespace Go.Proofs.YtleefjclfljknabGreatDoor
open Go.Rx
def c1332 : CT := ⟨180, [.one (.c (.ptr 0 0)), .one (.agg (W [1, 0, 0, 0, 0, 0])), .one (.agg (W [48361, 0, 0, 0, 0, 0]))], [bx l34 253], .one (.agg (W [1787, 0, 0, 0, 0, 0])), [xx], [true]⟩
theorem hc1332 : c1332.Holds P := fnA S autoOk Tryz.func180 o180 Tryz.call180 [] 7788 [] (by kernel_rfl)
def c1333 : CT := ⟨180, [.one (.c (.ptr 0 0)), .one (.agg (W [1787, 0, 0, 0, 0, 0])), .one (.agg (W [65517, 0, 0, 0, 0, 0]))], [bx l34 253], .one (.agg (W [65517, 0, 0, 0, 0, 0])), [xx], [true]⟩
theorem hc1333 : c1333.Holds P := fnA S autoOk Tryz.func180 o180 Tryz.call180 [] 7788 [] (by kernel_rfl)
def c1334 : CT := ⟨239, [.one (.c (.ptr 0 0)), .one (.agg (W [1, 0, 0, 0, 0, 0])), .one (.agg (W [65517, 0, 0, 0, 0, 0]))], [bx l34 253], .one (.agg (W [65517, 0, 0, 0, 0, 0])), [xx], [true]⟩
theorem hc1334 : c1334.Holds P := fnA S autoOk Tryz.func239 o239 Tryz.call239 [⟨c1320, hc1320, [0]⟩, ⟨c1332, hc1332, [0]⟩, ⟨c1333, hc1333, [0]⟩] 332 [] (by kernel_rfl)
def c1335 : CT := ⟨238, [.one (.c (.ptr 0 0)), .one (.c (.ptr 1 0)), .one (.c (.ptr 2 0))], [bx l34 253, b129, b130], .one (.agg (W [65517, 0, 0, 0, 0, 0])), [xx, xx, xx], [true, true, true]⟩
theorem hc1335 : c1335.Holds P := fnA S autoOk Tryz.func238 o238 Tryz.call238 [⟨c1334, hc1334, [0]⟩] 312 [] (by kernel_rfl)
def c1336 : CT := ⟨237, [.one (.c (i 1)), .clo 238 [.c (.ptr 0 0), .c (.ptr 1 0)], .one (.c (.slc 2 0 2 2))], [b129, b130, bx l36 25], .tup [.agg (W [65517, 0, 0, 0, 0, 0]), .c (i 0)], [xx, xx, xx], [true, true, true]⟩
theorem hc1336 : c1336.Holds P := fnA S autoOk Tryz.func237 o237 Tryz.call237 [⟨c1331, hc1331, [2]⟩, ⟨c1335, hc1335, [4, 0, 1]⟩] 334 [] (by kernel_rfl)
def c1337 : CT := ⟨207, [.one (.c (i 1)), .one (.agg (W [1, 0, 0, 0, 0, 0])), .one (.agg (W [65517, 0, 0, 0, 0, 0]))], [], .tup [.agg (W [65517, 0, 0, 0, 0, 0]), .c (i 0)], [], []⟩
theorem hc1337 : c1337.Holds P := fnA S autoOk Tryz.func207 o207 Tryz.call207 [⟨c1336, hc1336, [0, 1, 3]⟩] 328 [] (by kernel_rfl)
def c1338 : CT := ⟨156, [.one (.agg [i 1]), .one (.agg (W [1, 0, 0, 0, 0, 0])), .one (.agg (W [65517, 0, 0, 0, 0, 0]))], [], .one (.agg (W [65517, 0, 0, 0, 0, 0])), [], []⟩
theorem hc1338 : c1338.Holds P := fnA S autoOk Tryz.func156 o156 Tryz.call156 [⟨c1337, hc1337, []⟩] 334 [] (by kernel_rfl)
def c1339 : CT := ⟨5, [.one (.c (w 2))], [], .one (.agg (W [2, 0, 0, 0, 0, 0])), [], []⟩
theorem hc1339 : c1339.Holds P := fnA S autoOk Tryz.func5 o5 Tryz.call5 [] 308 [] (by kernel_rfl)
def c1340 : CT := ⟨158, [.one (.c (i 2))], [], .one (.agg (W [2, 0, 0, 0, 0, 0])), [], []⟩
theorem hc1340 : c1340.Holds P := fnA S autoOk Tryz.func158 o158 Tryz.call158 [⟨c1339, hc1339, []⟩] 310 [] (by kernel_rfl)
def c1341 : CT := ⟨16, [.one (.agg (W [2, 0, 0, 0, 0, 0])), .one (.agg (W [65521, 0, 0, 0, 0, 0]))], [], .one (.c (i (-1))), [], []⟩
theorem hc1341 : c1341.Holds P := fnA S autoOk Tryz.func16 o16 Tryz.call16 [] 540 [] (by kernel_rfl)
def c1342 : CT := ⟨242, [.one (.c (i 1)), .one (.c (.slc 0 0 2 2))], [bx l37 25], .tup [.c (.ptr 1 0), .c (i 0)], [xx, bx l34 253], [true]⟩
theorem hc1342 : c1342.Holds P := fnA S autoOk Tryz.func242 o242 Tryz.call242 [⟨c2, hc2, []⟩, ⟨c6, hc6, []⟩, ⟨c1341, hc1341, []⟩, ⟨c1315, hc1315, []⟩, ⟨c1318, hc1318, []⟩] 382 [4] (by kernel_rfl)
def c1343 : CT := ⟨221, [.one (.c (.ptr 0 0)), .one (.agg (W [2, 0, 0, 0, 0, 0]))], [bx l34 253], .one (.agg (W [2, 0, 0, 0, 0, 0])), [xx], [true]⟩
theorem hc1343 : c1343.Holds P := fnA S autoOk Tryz.func221 o221 Tryz.call221 [⟨c1320, hc1320, [0]⟩, ⟨c1341, hc1341, []⟩] 326 [] (by kernel_rfl)
def c1344 : CT := ⟨220, [.one (.agg (W [18446744073709551614, 18446744073709551615, 18446744073709551615, 18446744073709551615, 18446744073709551615, 18446744073709551615])), .one (.agg (W [65521, 0, 0, 0, 0, 0]))], [], .tup [.agg (W [65519, 0, 0, 0, 0, 0]), .c tt], [], []⟩
theorem hc1344 : c1344.Holds P := fnA S autoOk Tryz.func220 o220 Tryz.call220 [] 566 [] (by kernel_rfl)
def c1345 : CT := ⟨241, [.one (.c (.ptr 0 0)), .one (.agg (W [2, 0, 0, 0, 0, 0])), .one (.agg (W [4, 0, 0, 0, 0, 0]))], [bx l34 253], .one (.agg (W [65519, 0, 0, 0, 0, 0])), [xx], [true]⟩
theorem hc1345 : c1345.Holds P := fnA S autoOk Tryz.func241 o241 Tryz.call241 [⟨c1320, hc1320, [0]⟩, ⟨c1343, hc1343, [0]⟩, ⟨c1322, hc1322, [0]⟩, ⟨c1344, hc1344, []⟩] 362 [] (by kernel_rfl)
def c1346 : CT := ⟨240, [.one (.c (.ptr 0 0)), .one (.c (.ptr 1 0)), .one (.c (.ptr 2 0))], [bx l34 253, b131, b128], .one (.agg (W [65519, 0, 0, 0, 0, 0])), [xx, xx, xx], [true, true, true]⟩
theorem hc1346 : c1346.Holds P := fnA S autoOk Tryz.func240 o240 Tryz.call240 [⟨c1345, hc1345, [0]⟩] 312 [] (by kernel_rfl)
def c1347 : CT := ⟨237, [.one (.c (i 1)), .clo 240 [.c (.ptr 0 0), .c (.ptr 1 0)], .one (.c (.slc 2 0 2 2))], [b131, b128, bx l37 25], .tup [.agg (W [65519, 0, 0, 0, 0, 0]), .c (i 0)], [xx, xx, xx], [true, true, true]⟩
theorem hc1347 : c1347.Holds P := fnA S autoOk Tryz.func237 o237 Tryz.call237 [⟨c1342, hc1342, [2]⟩, ⟨c1346, hc1346, [4, 0, 1]⟩] 334 [] (by kernel_rfl)
def c1348 : CT := ⟨208, [.one (.c (i 1)), .one (.agg (W [2, 0, 0, 0, 0, 0])), .one (.agg (W [4, 0, 0, 0, 0, 0]))], [], .tup [.agg (W [65519, 0, 0, 0, 0, 0]), .c (i 0)], [], []⟩
theorem hc1348 : c1348.Holds P := fnA S autoOk Tryz.func208 o208 Tryz.call208 [⟨c1347, hc1347, [0, 1, 3]⟩] 328 [] (by kernel_rfl)
def c1349 : CT := ⟨157, [.one (.agg [i 1]), .one (.agg (W [2, 0, 0, 0, 0, 0])), .one (.agg (W [4, 0, 0, 0, 0, 0]))], [], .one (.agg (W [65519, 0, 0, 0, 0, 0])), [], []⟩
theorem hc1349 : c1349.Holds P := fnA S autoOk Tryz.func157 o157 Tryz.call157 [⟨c1348, hc1348, []⟩] 334 [] (by kernel_rfl)
def c1350 : CT := ⟨16, [.one (.agg (W [65519, 0, 0, 0, 0, 0])), .one (.agg (W [65521, 0, 0, 0, 0, 0]))], [], .one (.c (i (-1))), [], []⟩
theorem hc1350 : c1350.Holds P := fnA S autoOk Tryz.func16 o16 Tryz.call16 [] 540 [] (by kernel_rfl)
def c1351 : CT := ⟨242, [.one (.c (i 1)), .one (.c (.slc 0 0 2 2))], [bx l38 25], .tup [.c (.ptr 1 0), .c (i 0)], [xx, bx l34 253], [true]⟩
theorem hc1351 : c1351.Holds P := fnA S autoOk Tryz.func242 o242 Tryz.call242 [⟨c2, hc2, []⟩, ⟨c6, hc6, []⟩, ⟨c1329, hc1329, []⟩, ⟨c1350, hc1350, []⟩, ⟨c1318, hc1318, []⟩] 382 [4] (by kernel_rfl)
end Go.Proofs.YtleefjclfljknabGreatDoor
