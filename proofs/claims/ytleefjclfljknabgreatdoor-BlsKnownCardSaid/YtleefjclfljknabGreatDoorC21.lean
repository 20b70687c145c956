/-
Contracts of calls that BlsKnown comes to, each by the kernel's own run; printed by a program of the session.
-/
import Derived.Test.YtleefjclfljknabGreatDoorC0
import Derived.Test.YtleefjclfljknabGreatDoorC4
import Derived.Test.YtleefjclfljknabGreatDoorC7
import Derived.Test.YtleefjclfljknabGreatDoorC12
import Derived.Test.YtleefjclfljknabGreatDoorC13
import Derived.Test.YtleefjclfljknabGreatDoorC14
import Derived.Test.YtleefjclfljknabGreatDoorC15
import Derived.Test.YtleefjclfljknabGreatDoorC16
import Derived.Test.YtleefjclfljknabGreatDoorC17
import Derived.Test.YtleefjclfljknabGreatDoorC18
import Derived.Test.YtleefjclfljknabGreatDoorC19
import Derived.Test.YtleefjclfljknabGreatDoorC20
import Derived.Test.YtleefjclfljknabGreatDoorP
namespace Go.Proofs.YtleefjclfljknabGreatDoor
open Go.Rx
def c1597 : CT := ⟨16, [.one (.agg (W [32762, 0, 0, 0, 0, 0])), .one (.agg (W [65521, 0, 0, 0, 0, 0]))], [], .one (.c (i (-1))), [], []⟩
theorem hc1597 : c1597.Holds P := fnA S autoOk Tryz.func16 o16 Tryz.call16 [] 540 [] (by kernel_rfl)
def c1598 : CT := ⟨221, [.one (.c (.ptr 0 0)), .one (.agg (W [32762, 0, 0, 0, 0, 0]))], [bx l34 253], .one (.agg (W [32762, 0, 0, 0, 0, 0])), [xx], [true]⟩
theorem hc1598 : c1598.Holds P := fnA S autoOk Tryz.func221 o221 Tryz.call221 [⟨c1320, hc1320, [0]⟩, ⟨c1597, hc1597, []⟩] 326 [] (by kernel_rfl)
def c1599 : CT := ⟨241, [.one (.c (.ptr 0 0)), .one (.agg (W [32762, 0, 0, 0, 0, 0])), .one (.agg (W [32761, 0, 0, 0, 0, 0]))], [bx l34 253], .one (.agg (W [1, 0, 0, 0, 0, 0])), [xx], [true]⟩
theorem hc1599 : c1599.Holds P := fnA S autoOk Tryz.func241 o241 Tryz.call241 [⟨c1320, hc1320, [0]⟩, ⟨c1598, hc1598, [0]⟩, ⟨c1514, hc1514, [0]⟩] 342 [] (by kernel_rfl)
def c1600 : CT := ⟨241, [.one (.c (.ptr 0 0)), .one (.agg (W [32761, 0, 0, 0, 0, 0])), .one (.agg (W [32761, 0, 0, 0, 0, 0]))], [bx l34 253], .one (.agg (rep (w 0) 6)), [xx], [true]⟩
theorem hc1600 : c1600.Holds P := fnA S autoOk Tryz.func241 o241 Tryz.call241 [⟨c1320, hc1320, [0]⟩, ⟨c1514, hc1514, [0]⟩, ⟨c1514, hc1514, [0]⟩] 342 [] (by kernel_rfl)
def c1601 : CT := ⟨243, [.one (.c (.ptr 0 0)), .one (.agg (W [2, 0, 0, 0, 0, 0]))], [bx l34 253], .tup [.agg (W [32761, 0, 0, 0, 0, 0]), .c (i 0)], [xx], [true]⟩
theorem hc1601 : c1601.Holds P := fnA S autoOk Tryz.func243 o243 Tryz.call243 [⟨c1320, hc1320, [0]⟩, ⟨c1343, hc1343, [0]⟩, ⟨c34, hc34, []⟩, ⟨c1363, hc1363, []⟩, ⟨c1512, hc1512, [0]⟩, ⟨c1329, hc1329, []⟩, ⟨c1516, hc1516, [0]⟩, ⟨c1364, hc1364, []⟩, ⟨c1518, hc1518, [0]⟩, ⟨c1517, hc1517, []⟩, ⟨c1520, hc1520, [0]⟩, ⟨c1519, hc1519, []⟩, ⟨c1522, hc1522, [0]⟩, ⟨c1521, hc1521, []⟩, ⟨c1525, hc1525, [0]⟩, ⟨c1526, hc1526, []⟩, ⟨c1529, hc1529, [0]⟩, ⟨c1399, hc1399, []⟩, ⟨c1532, hc1532, [0]⟩, ⟨c1533, hc1533, []⟩, ⟨c1536, hc1536, [0]⟩, ⟨c1407, hc1407, []⟩, ⟨c1539, hc1539, [0]⟩, ⟨c1540, hc1540, []⟩, ⟨c1543, hc1543, [0]⟩, ⟨c1415, hc1415, []⟩, ⟨c1546, hc1546, [0]⟩, ⟨c1547, hc1547, []⟩, ⟨c1550, hc1550, [0]⟩, ⟨c1423, hc1423, []⟩, ⟨c1553, hc1553, [0]⟩, ⟨c1554, hc1554, []⟩, ⟨c1557, hc1557, [0]⟩, ⟨c1431, hc1431, []⟩, ⟨c1560, hc1560, [0]⟩, ⟨c1561, hc1561, []⟩, ⟨c1564, hc1564, [0]⟩, ⟨c1439, hc1439, []⟩, ⟨c1567, hc1567, [0]⟩, ⟨c1568, hc1568, []⟩, ⟨c1571, hc1571, [0]⟩, ⟨c1447, hc1447, []⟩, ⟨c1574, hc1574, [0]⟩, ⟨c1575, hc1575, []⟩, ⟨c1578, hc1578, [0]⟩, ⟨c1455, hc1455, []⟩, ⟨c1581, hc1581, [0]⟩, ⟨c1582, hc1582, []⟩, ⟨c1585, hc1585, [0]⟩, ⟨c1463, hc1463, []⟩, ⟨c1588, hc1588, [0]⟩, ⟨c1589, hc1589, []⟩, ⟨c1592, hc1592, [0]⟩, ⟨c1471, hc1471, []⟩, ⟨c1595, hc1595, [0]⟩, ⟨c1596, hc1596, []⟩, ⟨c1599, hc1599, [0]⟩, ⟨c1363, hc1363, []⟩, ⟨c1512, hc1512, [0]⟩, ⟨c1477, hc1477, []⟩, ⟨c1600, hc1600, [0]⟩, ⟨c34, hc34, []⟩] 1772 [] (by kernel_rfl)
def c1602 : CT := ⟨209, [.one (.c (i 1)), .one (.agg (W [2, 0, 0, 0, 0, 0]))], [], .tup [.agg (W [32761, 0, 0, 0, 0, 0]), .c (i 0)], [], []⟩
theorem hc1602 : c1602.Holds P := fnA S autoOk Tryz.func209 o209 Tryz.call209 [⟨c1509, hc1509, [2]⟩, ⟨c1601, hc1601, [3]⟩] 342 [] (by kernel_rfl)
def c1603 : CT := ⟨159, [.one (.agg [i 1]), .one (.agg (W [2, 0, 0, 0, 0, 0]))], [], .one (.agg (W [32761, 0, 0, 0, 0, 0])), [], []⟩
theorem hc1603 : c1603.Holds P := fnA S autoOk Tryz.func159 o159 Tryz.call159 [⟨c1602, hc1602, []⟩] 330 [] (by kernel_rfl)
def c1604 : CT := ⟨242, [.one (.c (i 1)), .one (.c (.slc 0 0 2 2))], [bx l43 25], .tup [.c (.ptr 1 0), .c (i 0)], [xx, bx l34 253], [true]⟩
theorem hc1604 : c1604.Holds P := fnA S autoOk Tryz.func242 o242 Tryz.call242 [⟨c2, hc2, []⟩, ⟨c6, hc6, []⟩, ⟨c1350, hc1350, []⟩, ⟨c1513, hc1513, []⟩, ⟨c1318, hc1318, []⟩] 382 [4] (by kernel_rfl)
def c1605 : CT := ⟨180, [.one (.c (.ptr 0 0)), .one (.agg (W [65519, 0, 0, 0, 0, 0])), .one (.agg (W [48361, 0, 0, 0, 0, 0]))], [bx l34 253], .one (.agg (W [61947, 0, 0, 0, 0, 0])), [xx], [true]⟩
theorem hc1605 : c1605.Holds P := fnA S autoOk Tryz.func180 o180 Tryz.call180 [] 7788 [] (by kernel_rfl)
def c1606 : CT := ⟨180, [.one (.c (.ptr 0 0)), .one (.agg (W [61947, 0, 0, 0, 0, 0])), .one (.agg (W [32761, 0, 0, 0, 0, 0]))], [bx l34 253], .one (.agg (W [65520, 0, 0, 0, 0, 0])), [xx], [true]⟩
theorem hc1606 : c1606.Holds P := fnA S autoOk Tryz.func180 o180 Tryz.call180 [] 7788 [] (by kernel_rfl)
def c1607 : CT := ⟨239, [.one (.c (.ptr 0 0)), .one (.agg (W [65519, 0, 0, 0, 0, 0])), .one (.agg (W [32761, 0, 0, 0, 0, 0]))], [bx l34 253], .one (.agg (W [65520, 0, 0, 0, 0, 0])), [xx], [true]⟩
theorem hc1607 : c1607.Holds P := fnA S autoOk Tryz.func239 o239 Tryz.call239 [⟨c1320, hc1320, [0]⟩, ⟨c1605, hc1605, [0]⟩, ⟨c1606, hc1606, [0]⟩] 332 [] (by kernel_rfl)
def c1608 : CT := ⟨238, [.one (.c (.ptr 0 0)), .one (.c (.ptr 1 0)), .one (.c (.ptr 2 0))], [bx l34 253, b132, b134], .one (.agg (W [65520, 0, 0, 0, 0, 0])), [xx, xx, xx], [true, true, true]⟩
theorem hc1608 : c1608.Holds P := fnA S autoOk Tryz.func238 o238 Tryz.call238 [⟨c1607, hc1607, [0]⟩] 312 [] (by kernel_rfl)
def c1609 : CT := ⟨237, [.one (.c (i 1)), .clo 238 [.c (.ptr 0 0), .c (.ptr 1 0)], .one (.c (.slc 2 0 2 2))], [b132, b134, bx l43 25], .tup [.agg (W [65520, 0, 0, 0, 0, 0]), .c (i 0)], [xx, xx, xx], [true, true, true]⟩
theorem hc1609 : c1609.Holds P := fnA S autoOk Tryz.func237 o237 Tryz.call237 [⟨c1604, hc1604, [2]⟩, ⟨c1608, hc1608, [4, 0, 1]⟩] 334 [] (by kernel_rfl)
def c1610 : CT := ⟨207, [.one (.c (i 1)), .one (.agg (W [65519, 0, 0, 0, 0, 0])), .one (.agg (W [32761, 0, 0, 0, 0, 0]))], [], .tup [.agg (W [65520, 0, 0, 0, 0, 0]), .c (i 0)], [], []⟩
theorem hc1610 : c1610.Holds P := fnA S autoOk Tryz.func207 o207 Tryz.call207 [⟨c1609, hc1609, [0, 1, 3]⟩] 328 [] (by kernel_rfl)
def c1611 : CT := ⟨156, [.one (.agg [i 1]), .one (.agg (W [65519, 0, 0, 0, 0, 0])), .one (.agg (W [32761, 0, 0, 0, 0, 0]))], [], .one (.agg (W [65520, 0, 0, 0, 0, 0])), [], []⟩
theorem hc1611 : c1611.Holds P := fnA S autoOk Tryz.func156 o156 Tryz.call156 [⟨c1610, hc1610, []⟩] 334 [] (by kernel_rfl)
def c1612 : CT := ⟨92, [.one (.agg [i 1]), .one (.c (.slu 0 1 1 0 2)), .one (.c (i 0))], [bo [i 2, i 4] 3 1, ghostBlk], .one (.c (.slu 2 3 6 0 2)), [xx, xx, bo (W [2, 0, 0, 0, 0, 0, 65520, 0, 0, 0, 0, 0]) 25 3, ghostBlk], [true, true]⟩
theorem hc1612 : c1612.Holds P := fnA S autoOk Tryz.func92 o92 Tryz.call92 [⟨c34, hc34, []⟩, ⟨c34, hc34, []⟩, ⟨c1312, hc1312, []⟩, ⟨c1314, hc1314, []⟩, ⟨c1328, hc1328, []⟩, ⟨c1338, hc1338, []⟩, ⟨c1340, hc1340, []⟩, ⟨c1314, hc1314, []⟩, ⟨c1349, hc1349, []⟩, ⟨c1357, hc1357, []⟩, ⟨c1481, hc1481, []⟩, ⟨c1489, hc1489, []⟩, ⟨c34, hc34, []⟩, ⟨c34, hc34, []⟩, ⟨c1312, hc1312, []⟩, ⟨c1340, hc1340, []⟩, ⟨c1495, hc1495, []⟩, ⟨c1357, hc1357, []⟩, ⟨c1314, hc1314, []⟩, ⟨c1340, hc1340, []⟩, ⟨c1501, hc1501, []⟩, ⟨c1508, hc1508, []⟩, ⟨c1603, hc1603, []⟩, ⟨c1611, hc1611, []⟩] 574 [11, 12] (by kernel_rfl)
def c1613 : CT := ⟨34, [.one (.agg (W [2, 0, 0, 0, 0, 0])), .one (.c (.slc 0 0 1 1))], [bx l27 33], .one (.c (i 0)), [xx], [true]⟩
theorem hc1613 : c1613.Holds P := fnA S autoOk Tryz.func34 o34 Tryz.call34 [⟨c1059, hc1059, []⟩, ⟨c6, hc6, []⟩, ⟨c1341, hc1341, []⟩] 378 [] (by kernel_rfl)
def c1614 : CT := ⟨61, [.one (.c (i 1)), .one (.c (.slc 0 0 1 1))], [b69], .tup [.agg l0, .c (i 0)], [xx], [true]⟩
theorem hc1614 : c1614.Holds P := fnA S autoOk Tryz.func61 o61 Tryz.call61 [⟨c3, hc3, []⟩, ⟨c1002, hc1002, []⟩] 360 [] (by kernel_rfl)
def c1615 : CT := ⟨62, [.one (.agg l0), .one (.agg [w 303299, w 366243, ff]), .one (.c (w 2))], [], .one (.agg [w 125378, w 245512, ff]), [], []⟩
theorem hc1615 : c1615.Holds P := fnA S autoOk Tryz.func62 o62 Tryz.call62 [⟨c1296, hc1296, []⟩, ⟨c54, hc54, []⟩, ⟨c1003, hc1003, []⟩, ⟨c1005, hc1005, []⟩] 398 [] (by kernel_rfl)
def c1616 : CT := ⟨36, [.one (.c (i 1)), .one (.agg [w 303299, w 366243, ff]), .one (.c (w 2))], [], .tup [.agg [w 125378, w 245512, ff], .c (i 0)], [], []⟩
theorem hc1616 : c1616.Holds P := fnA S autoOk Tryz.func36 o36 Tryz.call36 [⟨c1614, hc1614, [2]⟩, ⟨c1615, hc1615, []⟩] 342 [] (by kernel_rfl)
def c1617 : CT := ⟨17, [.one (.agg l27), .one (.agg (W [2, 0, 0, 0, 0, 0]))], [], .tup [.agg l44, .c (i 0)], [], []⟩
theorem hc1617 : c1617.Holds P := fnA S autoOk Tryz.func17 o17 Tryz.call17 [⟨c1613, hc1613, [3]⟩, ⟨c1616, hc1616, []⟩] 368 [] (by kernel_rfl)
def c1618 : CT := ⟨16, [.one (.agg (W [65520, 0, 0, 0, 0, 0])), .one (.agg (W [65521, 0, 0, 0, 0, 0]))], [], .one (.c (i (-1))), [], []⟩
theorem hc1618 : c1618.Holds P := fnA S autoOk Tryz.func16 o16 Tryz.call16 [] 540 [] (by kernel_rfl)
end Go.Proofs.YtleefjclfljknabGreatDoor
