/-
Contracts of calls that BlsKnown comes to, each by the kernel's own run; printed by a program of the session.
-/
import Derived.Test.YtleefjclfljknabGreatDoorP
namespace Go.Proofs.YtleefjclfljknabGreatDoor
open Go.Rx
def c37 : CT := ⟨180, [.one (.c (.ptr 0 0)), .one (.agg l8), .one (.agg (W [727978, 0, 0, 0, 0, 0]))], [bx l10 253], .one (.agg (W [654754, 0, 0, 0, 0, 0])), [xx], [true]⟩
theorem hc37 : c37.Holds P := fnA S autoOk Tryz.func180 o180 Tryz.call180 [] 7788 [] (by kernel_rfl)
def c38 : CT := ⟨16, [.one (.agg l9), .one (.agg (W [786251, 0, 0, 0, 0, 0]))], [], .one (.c (i 1)), [], []⟩
theorem hc38 : c38.Holds P := fnA S autoOk Tryz.func16 o16 Tryz.call16 [] 346 [] (by kernel_rfl)
def c39 : CT := ⟨180, [.one (.c (.ptr 0 0)), .one (.agg l9), .one (.agg (W [727978, 0, 0, 0, 0, 0]))], [bx l10 253], .one (.agg (W [320027, 0, 0, 0, 0, 0])), [xx], [true]⟩
theorem hc39 : c39.Holds P := fnA S autoOk Tryz.func180 o180 Tryz.call180 [] 7788 [] (by kernel_rfl)
end Go.Proofs.YtleefjclfljknabGreatDoor
