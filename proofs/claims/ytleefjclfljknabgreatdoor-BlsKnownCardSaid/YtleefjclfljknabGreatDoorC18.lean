/-
Contracts of calls that BlsKnown comes to, each by the kernel's own run; printed by a program of the session.
-/
import Derived.Test.YtleefjclfljknabGreatDoorC0
import Derived.Test.YtleefjclfljknabGreatDoorC4
import Derived.Test.YtleefjclfljknabGreatDoorC14
import Derived.Test.YtleefjclfljknabGreatDoorC15
import Derived.Test.YtleefjclfljknabGreatDoorC16
import Derived.Test.YtleefjclfljknabGreatDoorC17
import Derived.Test.YtleefjclfljknabGreatDoorP
namespace Go.Proofs.YtleefjclfljknabGreatDoor
open Go.Rx
def c1463 : CT := ⟨110, [.one (.agg (W [14, 0, 0, 0, 0, 0])), .one (.c (i (-1)))], [], .one (.agg (W [7, 0, 0, 0, 0, 0])), [], []⟩
theorem hc1463 : c1463.Holds P := fnA S autoOk Tryz.func110 o110 Tryz.call110 [] 924 [] (by kernel_rfl)
def c1464 : CT := ⟨110, [.one (.agg (W [65514, 0, 0, 0, 0, 0])), .one (.c (i (-1)))], [], .one (.agg (W [32757, 0, 0, 0, 0, 0])), [], []⟩
theorem hc1464 : c1464.Holds P := fnA S autoOk Tryz.func110 o110 Tryz.call110 [] 924 [] (by kernel_rfl)
def c1465 : CT := ⟨253, [.one (.c (.ptr 0 0)), .one (.agg (W [65514, 0, 0, 0, 0, 0]))], [bx l34 253], .one (.agg (W [32757, 0, 0, 0, 0, 0])), [xx], [true]⟩
theorem hc1465 : c1465.Holds P := fnA S autoOk Tryz.func253 o253 Tryz.call253 [⟨c1464, hc1464, []⟩] 318 [] (by kernel_rfl)
def c1466 : CT := ⟨16, [.one (.agg (W [7, 0, 0, 0, 0, 0])), .one (.agg (W [1, 0, 0, 0, 0, 0]))], [], .one (.c (i 1)), [], []⟩
theorem hc1466 : c1466.Holds P := fnA S autoOk Tryz.func16 o16 Tryz.call16 [] 556 [] (by kernel_rfl)
def c1467 : CT := ⟨16, [.one (.agg (W [32757, 0, 0, 0, 0, 0])), .one (.agg (W [65521, 0, 0, 0, 0, 0]))], [], .one (.c (i (-1))), [], []⟩
theorem hc1467 : c1467.Holds P := fnA S autoOk Tryz.func16 o16 Tryz.call16 [] 540 [] (by kernel_rfl)
def c1468 : CT := ⟨221, [.one (.c (.ptr 0 0)), .one (.agg (W [32757, 0, 0, 0, 0, 0]))], [bx l34 253], .one (.agg (W [32757, 0, 0, 0, 0, 0])), [xx], [true]⟩
theorem hc1468 : c1468.Holds P := fnA S autoOk Tryz.func221 o221 Tryz.call221 [⟨c1320, hc1320, [0]⟩, ⟨c1467, hc1467, []⟩] 326 [] (by kernel_rfl)
def c1469 : CT := ⟨220, [.one (.agg (W [18446744073709551613, 18446744073709551615, 18446744073709551615, 18446744073709551615, 18446744073709551615, 18446744073709551615])), .one (.agg (W [65521, 0, 0, 0, 0, 0]))], [], .tup [.agg (W [65518, 0, 0, 0, 0, 0]), .c tt], [], []⟩
theorem hc1469 : c1469.Holds P := fnA S autoOk Tryz.func220 o220 Tryz.call220 [] 566 [] (by kernel_rfl)
def c1470 : CT := ⟨241, [.one (.c (.ptr 0 0)), .one (.agg (W [32757, 0, 0, 0, 0, 0])), .one (.agg (W [32760, 0, 0, 0, 0, 0]))], [bx l34 253], .one (.agg (W [65518, 0, 0, 0, 0, 0])), [xx], [true]⟩
theorem hc1470 : c1470.Holds P := fnA S autoOk Tryz.func241 o241 Tryz.call241 [⟨c1320, hc1320, [0]⟩, ⟨c1468, hc1468, [0]⟩, ⟨c1368, hc1368, [0]⟩, ⟨c1469, hc1469, []⟩] 362 [] (by kernel_rfl)
def c1471 : CT := ⟨110, [.one (.agg (W [6, 0, 0, 0, 0, 0])), .one (.c (i (-1)))], [], .one (.agg (W [3, 0, 0, 0, 0, 0])), [], []⟩
theorem hc1471 : c1471.Holds P := fnA S autoOk Tryz.func110 o110 Tryz.call110 [] 924 [] (by kernel_rfl)
def c1472 : CT := ⟨253, [.one (.c (.ptr 0 0)), .one (.agg (W [65518, 0, 0, 0, 0, 0]))], [bx l34 253], .one (.agg (W [32759, 0, 0, 0, 0, 0])), [xx], [true]⟩
theorem hc1472 : c1472.Holds P := fnA S autoOk Tryz.func253 o253 Tryz.call253 [⟨c1371, hc1371, []⟩] 318 [] (by kernel_rfl)
def c1473 : CT := ⟨16, [.one (.agg (W [3, 0, 0, 0, 0, 0])), .one (.agg (W [1, 0, 0, 0, 0, 0]))], [], .one (.c (i 1)), [], []⟩
theorem hc1473 : c1473.Holds P := fnA S autoOk Tryz.func16 o16 Tryz.call16 [] 556 [] (by kernel_rfl)
def c1474 : CT := ⟨16, [.one (.agg (W [32759, 0, 0, 0, 0, 0])), .one (.agg (W [65521, 0, 0, 0, 0, 0]))], [], .one (.c (i (-1))), [], []⟩
theorem hc1474 : c1474.Holds P := fnA S autoOk Tryz.func16 o16 Tryz.call16 [] 540 [] (by kernel_rfl)
def c1475 : CT := ⟨221, [.one (.c (.ptr 0 0)), .one (.agg (W [32759, 0, 0, 0, 0, 0]))], [bx l34 253], .one (.agg (W [32759, 0, 0, 0, 0, 0])), [xx], [true]⟩
theorem hc1475 : c1475.Holds P := fnA S autoOk Tryz.func221 o221 Tryz.call221 [⟨c1320, hc1320, [0]⟩, ⟨c1474, hc1474, []⟩] 326 [] (by kernel_rfl)
def c1476 : CT := ⟨241, [.one (.c (.ptr 0 0)), .one (.agg (W [32759, 0, 0, 0, 0, 0])), .one (.agg (W [32760, 0, 0, 0, 0, 0]))], [bx l34 253], .one (.agg (W [65520, 0, 0, 0, 0, 0])), [xx], [true]⟩
theorem hc1476 : c1476.Holds P := fnA S autoOk Tryz.func241 o241 Tryz.call241 [⟨c1320, hc1320, [0]⟩, ⟨c1475, hc1475, [0]⟩, ⟨c1368, hc1368, [0]⟩, ⟨c1361, hc1361, []⟩] 362 [] (by kernel_rfl)
def c1477 : CT := ⟨16, [.one (.agg (W [1, 0, 0, 0, 0, 0])), .one (.agg (W [1, 0, 0, 0, 0, 0]))], [], .one (.c (i 0)), [], []⟩
theorem hc1477 : c1477.Holds P := fnA S autoOk Tryz.func16 o16 Tryz.call16 [] 566 [] (by kernel_rfl)
def c1478 : CT := ⟨241, [.one (.c (.ptr 0 0)), .one (.agg (W [32760, 0, 0, 0, 0, 0])), .one (.agg (W [32760, 0, 0, 0, 0, 0]))], [bx l34 253], .one (.agg (rep (w 0) 6)), [xx], [true]⟩
theorem hc1478 : c1478.Holds P := fnA S autoOk Tryz.func241 o241 Tryz.call241 [⟨c1320, hc1320, [0]⟩, ⟨c1368, hc1368, [0]⟩, ⟨c1368, hc1368, [0]⟩] 342 [] (by kernel_rfl)
def c1479 : CT := ⟨243, [.one (.c (.ptr 0 0)), .one (.agg (W [65519, 0, 0, 0, 0, 0]))], [bx l34 253], .tup [.agg (W [32760, 0, 0, 0, 0, 0]), .c (i 0)], [xx], [true]⟩
theorem hc1479 : c1479.Holds P := fnA S autoOk Tryz.func243 o243 Tryz.call243 [⟨c1320, hc1320, [0]⟩, ⟨c1359, hc1359, [0]⟩, ⟨c34, hc34, []⟩, ⟨c1350, hc1350, []⟩, ⟨c1362, hc1362, [0]⟩, ⟨c1363, hc1363, []⟩, ⟨c1365, hc1365, [0]⟩, ⟨c1366, hc1366, []⟩, ⟨c1370, hc1370, [0]⟩, ⟨c1371, hc1371, []⟩, ⟨c1373, hc1373, [0]⟩, ⟨c1374, hc1374, []⟩, ⟨c1378, hc1378, [0]⟩, ⟨c1379, hc1379, []⟩, ⟨c1381, hc1381, [0]⟩, ⟨c1382, hc1382, []⟩, ⟨c1386, hc1386, [0]⟩, ⟨c1387, hc1387, []⟩, ⟨c1389, hc1389, [0]⟩, ⟨c1390, hc1390, []⟩, ⟨c1394, hc1394, [0]⟩, ⟨c1395, hc1395, []⟩, ⟨c1398, hc1398, [0]⟩, ⟨c1399, hc1399, []⟩, ⟨c1401, hc1401, [0]⟩, ⟨c1402, hc1402, []⟩, ⟨c1406, hc1406, [0]⟩, ⟨c1407, hc1407, []⟩, ⟨c1409, hc1409, [0]⟩, ⟨c1410, hc1410, []⟩, ⟨c1414, hc1414, [0]⟩, ⟨c1415, hc1415, []⟩, ⟨c1417, hc1417, [0]⟩, ⟨c1418, hc1418, []⟩, ⟨c1422, hc1422, [0]⟩, ⟨c1423, hc1423, []⟩, ⟨c1425, hc1425, [0]⟩, ⟨c1426, hc1426, []⟩, ⟨c1430, hc1430, [0]⟩, ⟨c1431, hc1431, []⟩, ⟨c1433, hc1433, [0]⟩, ⟨c1434, hc1434, []⟩, ⟨c1438, hc1438, [0]⟩, ⟨c1439, hc1439, []⟩, ⟨c1441, hc1441, [0]⟩, ⟨c1442, hc1442, []⟩, ⟨c1446, hc1446, [0]⟩, ⟨c1447, hc1447, []⟩, ⟨c1449, hc1449, [0]⟩, ⟨c1450, hc1450, []⟩, ⟨c1454, hc1454, [0]⟩, ⟨c1455, hc1455, []⟩, ⟨c1457, hc1457, [0]⟩, ⟨c1458, hc1458, []⟩, ⟨c1462, hc1462, [0]⟩, ⟨c1463, hc1463, []⟩, ⟨c1465, hc1465, [0]⟩, ⟨c1466, hc1466, []⟩, ⟨c1470, hc1470, [0]⟩, ⟨c1471, hc1471, []⟩, ⟨c1472, hc1472, [0]⟩, ⟨c1473, hc1473, []⟩, ⟨c1476, hc1476, [0]⟩, ⟨c1363, hc1363, []⟩, ⟨c1365, hc1365, [0]⟩, ⟨c1477, hc1477, []⟩, ⟨c1478, hc1478, [0]⟩, ⟨c34, hc34, []⟩] 1812 [] (by kernel_rfl)
def c1480 : CT := ⟨209, [.one (.c (i 1)), .one (.agg (W [65519, 0, 0, 0, 0, 0]))], [], .tup [.agg (W [32760, 0, 0, 0, 0, 0]), .c (i 0)], [], []⟩
theorem hc1480 : c1480.Holds P := fnA S autoOk Tryz.func209 o209 Tryz.call209 [⟨c1358, hc1358, [2]⟩, ⟨c1479, hc1479, [3]⟩] 342 [] (by kernel_rfl)
def c1481 : CT := ⟨159, [.one (.agg [i 1]), .one (.agg (W [65519, 0, 0, 0, 0, 0]))], [], .one (.agg (W [32760, 0, 0, 0, 0, 0])), [], []⟩
theorem hc1481 : c1481.Holds P := fnA S autoOk Tryz.func159 o159 Tryz.call159 [⟨c1480, hc1480, []⟩] 330 [] (by kernel_rfl)
def c1482 : CT := ⟨242, [.one (.c (i 1)), .one (.c (.slc 0 0 2 2))], [bx l39 25], .tup [.c (.ptr 1 0), .c (i 0)], [xx, bx l34 253], [true]⟩
theorem hc1482 : c1482.Holds P := fnA S autoOk Tryz.func242 o242 Tryz.call242 [⟨c2, hc2, []⟩, ⟨c6, hc6, []⟩, ⟨c1330, hc1330, []⟩, ⟨c1367, hc1367, []⟩, ⟨c1318, hc1318, []⟩] 382 [4] (by kernel_rfl)
def c1483 : CT := ⟨180, [.one (.c (.ptr 0 0)), .one (.agg (W [65517, 0, 0, 0, 0, 0])), .one (.agg (W [48361, 0, 0, 0, 0, 0]))], [bx l34 253], .one (.agg (W [58373, 0, 0, 0, 0, 0])), [xx], [true]⟩
theorem hc1483 : c1483.Holds P := fnA S autoOk Tryz.func180 o180 Tryz.call180 [] 7788 [] (by kernel_rfl)
end Go.Proofs.YtleefjclfljknabGreatDoor
