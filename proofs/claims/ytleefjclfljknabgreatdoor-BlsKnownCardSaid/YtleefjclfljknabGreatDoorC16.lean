/-
Contracts of calls that BlsKnown comes to, each by the kernel's own run; printed by a program of the session.
-/
import Derived.Test.YtleefjclfljknabGreatDoorC0
import Derived.Test.YtleefjclfljknabGreatDoorC14
import Derived.Test.YtleefjclfljknabGreatDoorC15
import Derived.Test.YtleefjclfljknabGreatDoorP
namespace Go.Proofs.YtleefjclfljknabGreatDoor
open Go.Rx
def c1352 : CT := ⟨180, [.one (.c (.ptr 0 0)), .one (.agg (W [1787, 0, 0, 0, 0, 0])), .one (.agg (W [65519, 0, 0, 0, 0, 0]))], [bx l34 253], .one (.agg (W [65519, 0, 0, 0, 0, 0])), [xx], [true]⟩
theorem hc1352 : c1352.Holds P := fnA S autoOk Tryz.func180 o180 Tryz.call180 [] 7788 [] (by kernel_rfl)
def c1353 : CT := ⟨239, [.one (.c (.ptr 0 0)), .one (.agg (W [1, 0, 0, 0, 0, 0])), .one (.agg (W [65519, 0, 0, 0, 0, 0]))], [bx l34 253], .one (.agg (W [65519, 0, 0, 0, 0, 0])), [xx], [true]⟩
theorem hc1353 : c1353.Holds P := fnA S autoOk Tryz.func239 o239 Tryz.call239 [⟨c1320, hc1320, [0]⟩, ⟨c1332, hc1332, [0]⟩, ⟨c1352, hc1352, [0]⟩] 332 [] (by kernel_rfl)
def c1354 : CT := ⟨238, [.one (.c (.ptr 0 0)), .one (.c (.ptr 1 0)), .one (.c (.ptr 2 0))], [bx l34 253, b129, b132], .one (.agg (W [65519, 0, 0, 0, 0, 0])), [xx, xx, xx], [true, true, true]⟩
theorem hc1354 : c1354.Holds P := fnA S autoOk Tryz.func238 o238 Tryz.call238 [⟨c1353, hc1353, [0]⟩] 312 [] (by kernel_rfl)
def c1355 : CT := ⟨237, [.one (.c (i 1)), .clo 238 [.c (.ptr 0 0), .c (.ptr 1 0)], .one (.c (.slc 2 0 2 2))], [b129, b132, bx l38 25], .tup [.agg (W [65519, 0, 0, 0, 0, 0]), .c (i 0)], [xx, xx, xx], [true, true, true]⟩
theorem hc1355 : c1355.Holds P := fnA S autoOk Tryz.func237 o237 Tryz.call237 [⟨c1351, hc1351, [2]⟩, ⟨c1354, hc1354, [4, 0, 1]⟩] 334 [] (by kernel_rfl)
def c1356 : CT := ⟨207, [.one (.c (i 1)), .one (.agg (W [1, 0, 0, 0, 0, 0])), .one (.agg (W [65519, 0, 0, 0, 0, 0]))], [], .tup [.agg (W [65519, 0, 0, 0, 0, 0]), .c (i 0)], [], []⟩
theorem hc1356 : c1356.Holds P := fnA S autoOk Tryz.func207 o207 Tryz.call207 [⟨c1355, hc1355, [0, 1, 3]⟩] 328 [] (by kernel_rfl)
def c1357 : CT := ⟨156, [.one (.agg [i 1]), .one (.agg (W [1, 0, 0, 0, 0, 0])), .one (.agg (W [65519, 0, 0, 0, 0, 0]))], [], .one (.agg (W [65519, 0, 0, 0, 0, 0])), [], []⟩
theorem hc1357 : c1357.Holds P := fnA S autoOk Tryz.func156 o156 Tryz.call156 [⟨c1356, hc1356, []⟩] 334 [] (by kernel_rfl)
def c1358 : CT := ⟨242, [.one (.c (i 1)), .one (.c (.slc 0 0 1 1))], [b132], .tup [.c (.ptr 1 0), .c (i 0)], [xx, bx l34 253], [true]⟩
theorem hc1358 : c1358.Holds P := fnA S autoOk Tryz.func242 o242 Tryz.call242 [⟨c2, hc2, []⟩, ⟨c6, hc6, []⟩, ⟨c1350, hc1350, []⟩, ⟨c1318, hc1318, []⟩] 360 [3] (by kernel_rfl)
def c1359 : CT := ⟨221, [.one (.c (.ptr 0 0)), .one (.agg (W [65519, 0, 0, 0, 0, 0]))], [bx l34 253], .one (.agg (W [65519, 0, 0, 0, 0, 0])), [xx], [true]⟩
theorem hc1359 : c1359.Holds P := fnA S autoOk Tryz.func221 o221 Tryz.call221 [⟨c1320, hc1320, [0]⟩, ⟨c1350, hc1350, []⟩] 326 [] (by kernel_rfl)
def c1360 : CT := ⟨221, [.one (.c (.ptr 0 0)), .one (.agg (W [1, 0, 0, 0, 0, 0]))], [bx l34 253], .one (.agg (W [1, 0, 0, 0, 0, 0])), [xx], [true]⟩
theorem hc1360 : c1360.Holds P := fnA S autoOk Tryz.func221 o221 Tryz.call221 [⟨c1320, hc1320, [0]⟩, ⟨c1329, hc1329, []⟩] 326 [] (by kernel_rfl)
def c1361 : CT := ⟨220, [.one (.agg (rep (w 18446744073709551615) 6)), .one (.agg (W [65521, 0, 0, 0, 0, 0]))], [], .tup [.agg (W [65520, 0, 0, 0, 0, 0]), .c tt], [], []⟩
theorem hc1361 : c1361.Holds P := fnA S autoOk Tryz.func220 o220 Tryz.call220 [] 566 [] (by kernel_rfl)
def c1362 : CT := ⟨241, [.one (.c (.ptr 0 0)), .one (.agg (rep (w 0) 6)), .one (.agg (W [1, 0, 0, 0, 0, 0]))], [bx l34 253], .one (.agg (W [65520, 0, 0, 0, 0, 0])), [xx], [true]⟩
theorem hc1362 : c1362.Holds P := fnA S autoOk Tryz.func241 o241 Tryz.call241 [⟨c1320, hc1320, [0]⟩, ⟨c1321, hc1321, [0]⟩, ⟨c1360, hc1360, [0]⟩, ⟨c1361, hc1361, []⟩] 362 [] (by kernel_rfl)
def c1363 : CT := ⟨110, [.one (.agg (W [2, 0, 0, 0, 0, 0])), .one (.c (i (-1)))], [], .one (.agg (W [1, 0, 0, 0, 0, 0])), [], []⟩
theorem hc1363 : c1363.Holds P := fnA S autoOk Tryz.func110 o110 Tryz.call110 [] 924 [] (by kernel_rfl)
def c1364 : CT := ⟨110, [.one (.agg (W [65520, 0, 0, 0, 0, 0])), .one (.c (i (-1)))], [], .one (.agg (W [32760, 0, 0, 0, 0, 0])), [], []⟩
theorem hc1364 : c1364.Holds P := fnA S autoOk Tryz.func110 o110 Tryz.call110 [] 924 [] (by kernel_rfl)
def c1365 : CT := ⟨253, [.one (.c (.ptr 0 0)), .one (.agg (W [65520, 0, 0, 0, 0, 0]))], [bx l34 253], .one (.agg (W [32760, 0, 0, 0, 0, 0])), [xx], [true]⟩
theorem hc1365 : c1365.Holds P := fnA S autoOk Tryz.func253 o253 Tryz.call253 [⟨c1364, hc1364, []⟩] 318 [] (by kernel_rfl)
def c1366 : CT := ⟨16, [.one (.agg (W [65519, 0, 0, 0, 0, 0])), .one (.agg (W [1, 0, 0, 0, 0, 0]))], [], .one (.c (i 1)), [], []⟩
theorem hc1366 : c1366.Holds P := fnA S autoOk Tryz.func16 o16 Tryz.call16 [] 556 [] (by kernel_rfl)
def c1367 : CT := ⟨16, [.one (.agg (W [32760, 0, 0, 0, 0, 0])), .one (.agg (W [65521, 0, 0, 0, 0, 0]))], [], .one (.c (i (-1))), [], []⟩
theorem hc1367 : c1367.Holds P := fnA S autoOk Tryz.func16 o16 Tryz.call16 [] 540 [] (by kernel_rfl)
def c1368 : CT := ⟨221, [.one (.c (.ptr 0 0)), .one (.agg (W [32760, 0, 0, 0, 0, 0]))], [bx l34 253], .one (.agg (W [32760, 0, 0, 0, 0, 0])), [xx], [true]⟩
theorem hc1368 : c1368.Holds P := fnA S autoOk Tryz.func221 o221 Tryz.call221 [⟨c1320, hc1320, [0]⟩, ⟨c1367, hc1367, []⟩] 326 [] (by kernel_rfl)
def c1369 : CT := ⟨220, [.one (.agg (W [18446744073709518857, 18446744073709551615, 18446744073709551615, 18446744073709551615, 18446744073709551615, 18446744073709551615])), .one (.agg (W [65521, 0, 0, 0, 0, 0]))], [], .tup [.agg (W [32762, 0, 0, 0, 0, 0]), .c tt], [], []⟩
theorem hc1369 : c1369.Holds P := fnA S autoOk Tryz.func220 o220 Tryz.call220 [] 566 [] (by kernel_rfl)
def c1370 : CT := ⟨241, [.one (.c (.ptr 0 0)), .one (.agg (W [1, 0, 0, 0, 0, 0])), .one (.agg (W [32760, 0, 0, 0, 0, 0]))], [bx l34 253], .one (.agg (W [32762, 0, 0, 0, 0, 0])), [xx], [true]⟩
theorem hc1370 : c1370.Holds P := fnA S autoOk Tryz.func241 o241 Tryz.call241 [⟨c1320, hc1320, [0]⟩, ⟨c1360, hc1360, [0]⟩, ⟨c1368, hc1368, [0]⟩, ⟨c1369, hc1369, []⟩] 362 [] (by kernel_rfl)
def c1371 : CT := ⟨110, [.one (.agg (W [65518, 0, 0, 0, 0, 0])), .one (.c (i (-1)))], [], .one (.agg (W [32759, 0, 0, 0, 0, 0])), [], []⟩
theorem hc1371 : c1371.Holds P := fnA S autoOk Tryz.func110 o110 Tryz.call110 [] 924 [] (by kernel_rfl)
def c1372 : CT := ⟨110, [.one (.agg (W [32762, 0, 0, 0, 0, 0])), .one (.c (i (-1)))], [], .one (.agg (W [16381, 0, 0, 0, 0, 0])), [], []⟩
theorem hc1372 : c1372.Holds P := fnA S autoOk Tryz.func110 o110 Tryz.call110 [] 924 [] (by kernel_rfl)
def c1373 : CT := ⟨253, [.one (.c (.ptr 0 0)), .one (.agg (W [32762, 0, 0, 0, 0, 0]))], [bx l34 253], .one (.agg (W [16381, 0, 0, 0, 0, 0])), [xx], [true]⟩
theorem hc1373 : c1373.Holds P := fnA S autoOk Tryz.func253 o253 Tryz.call253 [⟨c1372, hc1372, []⟩] 318 [] (by kernel_rfl)
def c1374 : CT := ⟨16, [.one (.agg (W [32759, 0, 0, 0, 0, 0])), .one (.agg (W [1, 0, 0, 0, 0, 0]))], [], .one (.c (i 1)), [], []⟩
theorem hc1374 : c1374.Holds P := fnA S autoOk Tryz.func16 o16 Tryz.call16 [] 556 [] (by kernel_rfl)
def c1375 : CT := ⟨16, [.one (.agg (W [16381, 0, 0, 0, 0, 0])), .one (.agg (W [65521, 0, 0, 0, 0, 0]))], [], .one (.c (i (-1))), [], []⟩
theorem hc1375 : c1375.Holds P := fnA S autoOk Tryz.func16 o16 Tryz.call16 [] 540 [] (by kernel_rfl)
def c1376 : CT := ⟨221, [.one (.c (.ptr 0 0)), .one (.agg (W [16381, 0, 0, 0, 0, 0]))], [bx l34 253], .one (.agg (W [16381, 0, 0, 0, 0, 0])), [xx], [true]⟩
theorem hc1376 : c1376.Holds P := fnA S autoOk Tryz.func221 o221 Tryz.call221 [⟨c1320, hc1320, [0]⟩, ⟨c1375, hc1375, []⟩] 326 [] (by kernel_rfl)
def c1377 : CT := ⟨220, [.one (.agg (W [18446744073709535237, 18446744073709551615, 18446744073709551615, 18446744073709551615, 18446744073709551615, 18446744073709551615])), .one (.agg (W [65521, 0, 0, 0, 0, 0]))], [], .tup [.agg (W [49142, 0, 0, 0, 0, 0]), .c tt], [], []⟩
theorem hc1377 : c1377.Holds P := fnA S autoOk Tryz.func220 o220 Tryz.call220 [] 566 [] (by kernel_rfl)
def c1378 : CT := ⟨241, [.one (.c (.ptr 0 0)), .one (.agg (W [16381, 0, 0, 0, 0, 0])), .one (.agg (W [32760, 0, 0, 0, 0, 0]))], [bx l34 253], .one (.agg (W [49142, 0, 0, 0, 0, 0])), [xx], [true]⟩
theorem hc1378 : c1378.Holds P := fnA S autoOk Tryz.func241 o241 Tryz.call241 [⟨c1320, hc1320, [0]⟩, ⟨c1376, hc1376, [0]⟩, ⟨c1368, hc1368, [0]⟩, ⟨c1377, hc1377, []⟩] 362 [] (by kernel_rfl)
def c1379 : CT := ⟨110, [.one (.agg (W [32758, 0, 0, 0, 0, 0])), .one (.c (i (-1)))], [], .one (.agg (W [16379, 0, 0, 0, 0, 0])), [], []⟩
theorem hc1379 : c1379.Holds P := fnA S autoOk Tryz.func110 o110 Tryz.call110 [] 924 [] (by kernel_rfl)
def c1380 : CT := ⟨110, [.one (.agg (W [49142, 0, 0, 0, 0, 0])), .one (.c (i (-1)))], [], .one (.agg (W [24571, 0, 0, 0, 0, 0])), [], []⟩
theorem hc1380 : c1380.Holds P := fnA S autoOk Tryz.func110 o110 Tryz.call110 [] 924 [] (by kernel_rfl)
def c1381 : CT := ⟨253, [.one (.c (.ptr 0 0)), .one (.agg (W [49142, 0, 0, 0, 0, 0]))], [bx l34 253], .one (.agg (W [24571, 0, 0, 0, 0, 0])), [xx], [true]⟩
theorem hc1381 : c1381.Holds P := fnA S autoOk Tryz.func253 o253 Tryz.call253 [⟨c1380, hc1380, []⟩] 318 [] (by kernel_rfl)
def c1382 : CT := ⟨16, [.one (.agg (W [16379, 0, 0, 0, 0, 0])), .one (.agg (W [1, 0, 0, 0, 0, 0]))], [], .one (.c (i 1)), [], []⟩
theorem hc1382 : c1382.Holds P := fnA S autoOk Tryz.func16 o16 Tryz.call16 [] 556 [] (by kernel_rfl)
def c1383 : CT := ⟨16, [.one (.agg (W [24571, 0, 0, 0, 0, 0])), .one (.agg (W [65521, 0, 0, 0, 0, 0]))], [], .one (.c (i (-1))), [], []⟩
theorem hc1383 : c1383.Holds P := fnA S autoOk Tryz.func16 o16 Tryz.call16 [] 540 [] (by kernel_rfl)
def c1384 : CT := ⟨221, [.one (.c (.ptr 0 0)), .one (.agg (W [24571, 0, 0, 0, 0, 0]))], [bx l34 253], .one (.agg (W [24571, 0, 0, 0, 0, 0])), [xx], [true]⟩
theorem hc1384 : c1384.Holds P := fnA S autoOk Tryz.func221 o221 Tryz.call221 [⟨c1320, hc1320, [0]⟩, ⟨c1383, hc1383, []⟩] 326 [] (by kernel_rfl)
def c1385 : CT := ⟨220, [.one (.agg (W [18446744073709543427, 18446744073709551615, 18446744073709551615, 18446744073709551615, 18446744073709551615, 18446744073709551615])), .one (.agg (W [65521, 0, 0, 0, 0, 0]))], [], .tup [.agg (W [57332, 0, 0, 0, 0, 0]), .c tt], [], []⟩
theorem hc1385 : c1385.Holds P := fnA S autoOk Tryz.func220 o220 Tryz.call220 [] 566 [] (by kernel_rfl)
def c1386 : CT := ⟨241, [.one (.c (.ptr 0 0)), .one (.agg (W [24571, 0, 0, 0, 0, 0])), .one (.agg (W [32760, 0, 0, 0, 0, 0]))], [bx l34 253], .one (.agg (W [57332, 0, 0, 0, 0, 0])), [xx], [true]⟩
theorem hc1386 : c1386.Holds P := fnA S autoOk Tryz.func241 o241 Tryz.call241 [⟨c1320, hc1320, [0]⟩, ⟨c1384, hc1384, [0]⟩, ⟨c1368, hc1368, [0]⟩, ⟨c1385, hc1385, []⟩] 362 [] (by kernel_rfl)
def c1387 : CT := ⟨110, [.one (.agg (W [16378, 0, 0, 0, 0, 0])), .one (.c (i (-1)))], [], .one (.agg (W [8189, 0, 0, 0, 0, 0])), [], []⟩
theorem hc1387 : c1387.Holds P := fnA S autoOk Tryz.func110 o110 Tryz.call110 [] 924 [] (by kernel_rfl)
def c1388 : CT := ⟨110, [.one (.agg (W [57332, 0, 0, 0, 0, 0])), .one (.c (i (-1)))], [], .one (.agg (W [28666, 0, 0, 0, 0, 0])), [], []⟩
theorem hc1388 : c1388.Holds P := fnA S autoOk Tryz.func110 o110 Tryz.call110 [] 924 [] (by kernel_rfl)
def c1389 : CT := ⟨253, [.one (.c (.ptr 0 0)), .one (.agg (W [57332, 0, 0, 0, 0, 0]))], [bx l34 253], .one (.agg (W [28666, 0, 0, 0, 0, 0])), [xx], [true]⟩
theorem hc1389 : c1389.Holds P := fnA S autoOk Tryz.func253 o253 Tryz.call253 [⟨c1388, hc1388, []⟩] 318 [] (by kernel_rfl)
def c1390 : CT := ⟨16, [.one (.agg (W [8189, 0, 0, 0, 0, 0])), .one (.agg (W [1, 0, 0, 0, 0, 0]))], [], .one (.c (i 1)), [], []⟩
theorem hc1390 : c1390.Holds P := fnA S autoOk Tryz.func16 o16 Tryz.call16 [] 556 [] (by kernel_rfl)
def c1391 : CT := ⟨16, [.one (.agg (W [28666, 0, 0, 0, 0, 0])), .one (.agg (W [65521, 0, 0, 0, 0, 0]))], [], .one (.c (i (-1))), [], []⟩
theorem hc1391 : c1391.Holds P := fnA S autoOk Tryz.func16 o16 Tryz.call16 [] 540 [] (by kernel_rfl)
def c1392 : CT := ⟨221, [.one (.c (.ptr 0 0)), .one (.agg (W [28666, 0, 0, 0, 0, 0]))], [bx l34 253], .one (.agg (W [28666, 0, 0, 0, 0, 0])), [xx], [true]⟩
theorem hc1392 : c1392.Holds P := fnA S autoOk Tryz.func221 o221 Tryz.call221 [⟨c1320, hc1320, [0]⟩, ⟨c1391, hc1391, []⟩] 326 [] (by kernel_rfl)
def c1393 : CT := ⟨220, [.one (.agg (W [18446744073709547522, 18446744073709551615, 18446744073709551615, 18446744073709551615, 18446744073709551615, 18446744073709551615])), .one (.agg (W [65521, 0, 0, 0, 0, 0]))], [], .tup [.agg (W [61427, 0, 0, 0, 0, 0]), .c tt], [], []⟩
theorem hc1393 : c1393.Holds P := fnA S autoOk Tryz.func220 o220 Tryz.call220 [] 566 [] (by kernel_rfl)
def c1394 : CT := ⟨241, [.one (.c (.ptr 0 0)), .one (.agg (W [28666, 0, 0, 0, 0, 0])), .one (.agg (W [32760, 0, 0, 0, 0, 0]))], [bx l34 253], .one (.agg (W [61427, 0, 0, 0, 0, 0])), [xx], [true]⟩
theorem hc1394 : c1394.Holds P := fnA S autoOk Tryz.func241 o241 Tryz.call241 [⟨c1320, hc1320, [0]⟩, ⟨c1392, hc1392, [0]⟩, ⟨c1368, hc1368, [0]⟩, ⟨c1393, hc1393, []⟩] 362 [] (by kernel_rfl)
def c1395 : CT := ⟨110, [.one (.agg (W [8188, 0, 0, 0, 0, 0])), .one (.c (i (-1)))], [], .one (.agg (W [4094, 0, 0, 0, 0, 0])), [], []⟩
theorem hc1395 : c1395.Holds P := fnA S autoOk Tryz.func110 o110 Tryz.call110 [] 924 [] (by kernel_rfl)
def c1396 : CT := ⟨220, [.one (.agg (W [61427, 0, 0, 0, 0, 0])), .one (.agg (W [65521, 0, 0, 0, 0, 0]))], [], .tup [.agg (W [126948, 0, 0, 0, 0, 0]), .c ff], [], []⟩
theorem hc1396 : c1396.Holds P := fnA S autoOk Tryz.func220 o220 Tryz.call220 [] 566 [] (by kernel_rfl)
end Go.Proofs.YtleefjclfljknabGreatDoor
