/-
Contracts of calls that BlsKnown comes to, each by the kernel's own run; printed by a program of the session.
-/
import Derived.Test.YtleefjclfljknabGreatDoorC0
import Derived.Test.YtleefjclfljknabGreatDoorC1
import Derived.Test.YtleefjclfljknabGreatDoorP
namespace Go.Proofs.YtleefjclfljknabGreatDoor
open Go.Rx
def c21 : CT := ⟨176, [.one (.c (.ptr 1 0))], [b1, bx l3 287], .one (.agg l4), [xx, xx], [true, true]⟩
theorem hc21 : c21.Holds P := fnA S autoOk Tryz.func176 o176 Tryz.call176 [⟨c19, hc19, [1]⟩, ⟨c20, hc20, [0, 4, 176, 177]⟩] 2042 [] (by kernel_rfl)
def c22 : CT := ⟨103, [.one (.c (.slu 1 2 1 0 7))], [b1, bo (Y [3, 0, 0, 0, 0, 1, 109]) 5 2, ghostBlk], .one (.agg l4), [xx, xx, xx], [true, true, true]⟩
theorem hc22 : c22.Holds P := fnA S autoOk Tryz.func103 o103 Tryz.call103 [⟨c16, hc16, []⟩, ⟨c18, hc18, [0, 4, 1, 2]⟩, ⟨c21, hc21, [0, 4]⟩] 318 [] (by kernel_rfl)
def c23 : CT := ⟨175, [.one (.c (.ptr 1 0)), .one (.c (.slu 2 3 1 0 7))], [b1, bx l2 287, bo (Y [3, 1, 0, 0, 0, 1, 109]) 5 3, ghostBlk], .one (.c (i 0)), [xx, bx l5 287, xx, xx], [true, false, true, true]⟩
theorem hc23 : c23.Holds P := fnA S autoOk Tryz.func175 o175 Tryz.call175 [⟨c17, hc17, [1]⟩] 750 [] (by kernel_rfl)
def c24 : CT := ⟨217, [.one (.c (.ptr 0 0))], [bx l5 287], .one (.c ff), [xx], [true]⟩
theorem hc24 : c24.Holds P := fnA S autoOk Tryz.func217 o217 Tryz.call217 [] 322 [] (by kernel_rfl)
end Go.Proofs.YtleefjclfljknabGreatDoor
