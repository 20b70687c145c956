/-
Contracts of calls that BlsKnown comes to, each by the kernel's own run; printed by a program of the session.
-/
import Derived.Test.YtleefjclfljknabGreatDoorP
namespace Go.Proofs.YtleefjclfljknabGreatDoor
open Go.Rx
def c20 : CT := ⟨218, [.one (.c (.ptr 1 0)), .one (.c (.slu 2 3 1 0 64))], [b1, bx l1 283, bo (Y [3, 0, 0, 0, 0, 1, 109, 128] ++ (rep (y 0) 55 ++ Y [56])) 5 3, ghostBlk], .tup [], [xx, bx (Z [2741751481, 1389217134, 2934482425, 1674585886, 126986865, 3483114939, 2082727437, 4007872036]) 283, xx, xx], [true, false, true, true]⟩
theorem hc20 : c20.Holds P := fnA S autoOk Tryz.func218 o218 Tryz.call218 [] 17748 [] (by kernel_rfl)
end Go.Proofs.YtleefjclfljknabGreatDoor
