/-
Contracts of calls that BlsKnown comes to, each by the kernel's own run; printed by a program of the session.
-/
import Derived.Test.YtleefjclfljknabGreatDoorC0
import Derived.Test.YtleefjclfljknabGreatDoorC4
import Derived.Test.YtleefjclfljknabGreatDoorC8
import Derived.Test.YtleefjclfljknabGreatDoorC13
import Derived.Test.YtleefjclfljknabGreatDoorP
namespace Go.Proofs.YtleefjclfljknabGreatDoor
open Go.Rx
def c1318 : CT := ⟨105, [.one (.agg (W [65521, 0, 0, 0, 0, 0]))], [], .tup [.c (.ptr 0 0), .c (i 0)], [bx l34 253], []⟩
theorem hc1318 : c1318.Holds P := fnA S autoOk Tryz.func105 o105 Tryz.call105 [⟨c1316, hc1316, []⟩, ⟨c32, hc32, []⟩, ⟨c1317, hc1317, []⟩, ⟨c34, hc34, []⟩] 12812 [1] (by kernel_rfl)
def c1319 : CT := ⟨242, [.one (.c (i 1)), .one (.c (.slc 0 0 2 2))], [bx l35 25], .tup [.c (.ptr 1 0), .c (i 0)], [xx, bx l34 253], [true]⟩
theorem hc1319 : c1319.Holds P := fnA S autoOk Tryz.func242 o242 Tryz.call242 [⟨c2, hc2, []⟩, ⟨c6, hc6, []⟩, ⟨c281, hc281, []⟩, ⟨c1315, hc1315, []⟩, ⟨c1318, hc1318, []⟩] 382 [4] (by kernel_rfl)
def c1320 : CT := ⟨178, [.one (.c (.ptr 0 0))], [bx l34 253], .one (.c ff), [xx], [true]⟩
theorem hc1320 : c1320.Holds P := fnA S autoOk Tryz.func178 o178 Tryz.call178 [] 322 [] (by kernel_rfl)
def c1321 : CT := ⟨221, [.one (.c (.ptr 0 0)), .one (.agg (rep (w 0) 6))], [bx l34 253], .one (.agg (rep (w 0) 6)), [xx], [true]⟩
theorem hc1321 : c1321.Holds P := fnA S autoOk Tryz.func221 o221 Tryz.call221 [⟨c1320, hc1320, [0]⟩, ⟨c281, hc281, []⟩] 326 [] (by kernel_rfl)
def c1322 : CT := ⟨221, [.one (.c (.ptr 0 0)), .one (.agg (W [4, 0, 0, 0, 0, 0]))], [bx l34 253], .one (.agg (W [4, 0, 0, 0, 0, 0])), [xx], [true]⟩
theorem hc1322 : c1322.Holds P := fnA S autoOk Tryz.func221 o221 Tryz.call221 [⟨c1320, hc1320, [0]⟩, ⟨c1315, hc1315, []⟩] 326 [] (by kernel_rfl)
def c1323 : CT := ⟨220, [.one (.agg (W [18446744073709551612, 18446744073709551615, 18446744073709551615, 18446744073709551615, 18446744073709551615, 18446744073709551615])), .one (.agg (W [65521, 0, 0, 0, 0, 0]))], [], .tup [.agg (W [65517, 0, 0, 0, 0, 0]), .c tt], [], []⟩
theorem hc1323 : c1323.Holds P := fnA S autoOk Tryz.func220 o220 Tryz.call220 [] 566 [] (by kernel_rfl)
def c1324 : CT := ⟨241, [.one (.c (.ptr 0 0)), .one (.agg (rep (w 0) 6)), .one (.agg (W [4, 0, 0, 0, 0, 0]))], [bx l34 253], .one (.agg (W [65517, 0, 0, 0, 0, 0])), [xx], [true]⟩
theorem hc1324 : c1324.Holds P := fnA S autoOk Tryz.func241 o241 Tryz.call241 [⟨c1320, hc1320, [0]⟩, ⟨c1321, hc1321, [0]⟩, ⟨c1322, hc1322, [0]⟩, ⟨c1323, hc1323, []⟩] 362 [] (by kernel_rfl)
def c1325 : CT := ⟨240, [.one (.c (.ptr 0 0)), .one (.c (.ptr 1 0)), .one (.c (.ptr 2 0))], [bx l34 253, bx (rep (w 0) 6) 25, b128], .one (.agg (W [65517, 0, 0, 0, 0, 0])), [xx, xx, xx], [true, true, true]⟩
theorem hc1325 : c1325.Holds P := fnA S autoOk Tryz.func240 o240 Tryz.call240 [⟨c1324, hc1324, [0]⟩] 312 [] (by kernel_rfl)
def c1326 : CT := ⟨237, [.one (.c (i 1)), .clo 240 [.c (.ptr 0 0), .c (.ptr 1 0)], .one (.c (.slc 2 0 2 2))], [bx (rep (w 0) 6) 25, b128, bx l35 25], .tup [.agg (W [65517, 0, 0, 0, 0, 0]), .c (i 0)], [xx, xx, xx], [true, true, true]⟩
theorem hc1326 : c1326.Holds P := fnA S autoOk Tryz.func237 o237 Tryz.call237 [⟨c1319, hc1319, [2]⟩, ⟨c1325, hc1325, [4, 0, 1]⟩] 334 [] (by kernel_rfl)
def c1327 : CT := ⟨208, [.one (.c (i 1)), .one (.agg (rep (w 0) 6)), .one (.agg (W [4, 0, 0, 0, 0, 0]))], [], .tup [.agg (W [65517, 0, 0, 0, 0, 0]), .c (i 0)], [], []⟩
theorem hc1327 : c1327.Holds P := fnA S autoOk Tryz.func208 o208 Tryz.call208 [⟨c1326, hc1326, [0, 1, 3]⟩] 328 [] (by kernel_rfl)
def c1328 : CT := ⟨157, [.one (.agg [i 1]), .one (.agg (rep (w 0) 6)), .one (.agg (W [4, 0, 0, 0, 0, 0]))], [], .one (.agg (W [65517, 0, 0, 0, 0, 0])), [], []⟩
theorem hc1328 : c1328.Holds P := fnA S autoOk Tryz.func157 o157 Tryz.call157 [⟨c1327, hc1327, []⟩] 334 [] (by kernel_rfl)
def c1329 : CT := ⟨16, [.one (.agg (W [1, 0, 0, 0, 0, 0])), .one (.agg (W [65521, 0, 0, 0, 0, 0]))], [], .one (.c (i (-1))), [], []⟩
theorem hc1329 : c1329.Holds P := fnA S autoOk Tryz.func16 o16 Tryz.call16 [] 540 [] (by kernel_rfl)
def c1330 : CT := ⟨16, [.one (.agg (W [65517, 0, 0, 0, 0, 0])), .one (.agg (W [65521, 0, 0, 0, 0, 0]))], [], .one (.c (i (-1))), [], []⟩
theorem hc1330 : c1330.Holds P := fnA S autoOk Tryz.func16 o16 Tryz.call16 [] 540 [] (by kernel_rfl)
def c1331 : CT := ⟨242, [.one (.c (i 1)), .one (.c (.slc 0 0 2 2))], [bx l36 25], .tup [.c (.ptr 1 0), .c (i 0)], [xx, bx l34 253], [true]⟩
theorem hc1331 : c1331.Holds P := fnA S autoOk Tryz.func242 o242 Tryz.call242 [⟨c2, hc2, []⟩, ⟨c6, hc6, []⟩, ⟨c1329, hc1329, []⟩, ⟨c1330, hc1330, []⟩, ⟨c1318, hc1318, []⟩] 382 [4] (by kernel_rfl)
end Go.Proofs.YtleefjclfljknabGreatDoor
