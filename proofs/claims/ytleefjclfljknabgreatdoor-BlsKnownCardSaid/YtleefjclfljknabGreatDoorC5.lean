/-
Contracts of calls that BlsKnown comes to, each by the kernel's own run; printed by a program of the session.
-/
import Derived.Test.YtleefjclfljknabGreatDoorC4
import Derived.Test.YtleefjclfljknabGreatDoorP
namespace Go.Proofs.YtleefjclfljknabGreatDoor
open Go.Rx
def c35 : CT := ⟨105, [.one (.agg (W [786251, 0, 0, 0, 0, 0]))], [], .tup [.c (.ptr 0 0), .c (i 0)], [bx l10 253], []⟩
theorem hc35 : c35.Holds P := fnA S autoOk Tryz.func105 o105 Tryz.call105 [⟨c31, hc31, []⟩, ⟨c32, hc32, []⟩, ⟨c33, hc33, []⟩, ⟨c34, hc34, []⟩] 12812 [1] (by kernel_rfl)
def c36 : CT := ⟨178, [.one (.c (.ptr 0 0))], [bx l10 253], .one (.c ff), [xx], [true]⟩
theorem hc36 : c36.Holds P := fnA S autoOk Tryz.func178 o178 Tryz.call178 [] 322 [] (by kernel_rfl)
end Go.Proofs.YtleefjclfljknabGreatDoor
