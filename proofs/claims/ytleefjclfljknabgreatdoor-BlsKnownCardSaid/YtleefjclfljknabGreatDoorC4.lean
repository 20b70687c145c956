/-
Contracts of calls that BlsKnown comes to, each by the kernel's own run; printed by a program of the session.
-/
import Derived.Test.YtleefjclfljknabGreatDoorC0
import Derived.Test.YtleefjclfljknabGreatDoorC2
import Derived.Test.YtleefjclfljknabGreatDoorC3
import Derived.Test.YtleefjclfljknabGreatDoorP
namespace Go.Proofs.YtleefjclfljknabGreatDoor
open Go.Rx
def c26 : CT := ⟨176, [.one (.c (.ptr 1 0))], [b1, bx l5 287], .one (.agg l6), [xx, xx], [true, true]⟩
theorem hc26 : c26.Holds P := fnA S autoOk Tryz.func176 o176 Tryz.call176 [⟨c24, hc24, [1]⟩, ⟨c25, hc25, [0, 4, 176, 177]⟩] 2042 [] (by kernel_rfl)
def c27 : CT := ⟨103, [.one (.c (.slu 1 2 1 0 7))], [b1, bo (Y [3, 1, 0, 0, 0, 1, 109]) 5 2, ghostBlk], .one (.agg l6), [xx, xx, xx], [true, true, true]⟩
theorem hc27 : c27.Holds P := fnA S autoOk Tryz.func103 o103 Tryz.call103 [⟨c16, hc16, []⟩, ⟨c23, hc23, [0, 4, 1, 2]⟩, ⟨c26, hc26, [0, 4]⟩] 318 [] (by kernel_rfl)
def c28 : CT := ⟨104, [.one (.c (.slu 0 1 1 0 16))], [bo l7 5 1, ghostBlk], .tup [.agg l8, .c (i 0)], [xx, xx], [true, true]⟩
theorem hc28 : c28.Holds P := fnA S autoOk Tryz.func104 o104 Tryz.call104 [] 1190 [] (by kernel_rfl)
def c29 : CT := ⟨104, [.one (.c (.slu 0 1 1 16 48))], [bo l7 5 1, ghostBlk], .tup [.agg l9, .c (i 0)], [xx, xx], [true, true]⟩
theorem hc29 : c29.Holds P := fnA S autoOk Tryz.func104 o104 Tryz.call104 [] 2918 [] (by kernel_rfl)
def c30 : CT := ⟨99, [.one (.c (w 786251))], [], .one (.c (i 20)), [], []⟩
theorem hc30 : c30.Holds P := fnA S autoOk Tryz.func99 o99 Tryz.call99 [] 340 [] (by kernel_rfl)
def c31 : CT := ⟨135, [.one (.agg (W [786251, 0, 0, 0, 0, 0]))], [], .one (.c (i 20)), [], []⟩
theorem hc31 : c31.Holds P := fnA S autoOk Tryz.func135 o135 Tryz.call135 [⟨c30, hc30, []⟩] 424 [] (by kernel_rfl)
def c32 : CT := ⟨5, [.one (.c (w 3))], [], .one (.agg (W [3, 0, 0, 0, 0, 0])), [], []⟩
theorem hc32 : c32.Holds P := fnA S autoOk Tryz.func5 o5 Tryz.call5 [] 308 [] (by kernel_rfl)
def c33 : CT := ⟨16, [.one (.agg (W [786251, 0, 0, 0, 0, 0])), .one (.agg (W [3, 0, 0, 0, 0, 0]))], [], .one (.c (i 1)), [], []⟩
theorem hc33 : c33.Holds P := fnA S autoOk Tryz.func16 o16 Tryz.call16 [] 556 [] (by kernel_rfl)
def c34 : CT := ⟨5, [.one (.c (w 1))], [], .one (.agg (W [1, 0, 0, 0, 0, 0])), [], []⟩
theorem hc34 : c34.Holds P := fnA S autoOk Tryz.func5 o5 Tryz.call5 [] 308 [] (by kernel_rfl)
end Go.Proofs.YtleefjclfljknabGreatDoor
