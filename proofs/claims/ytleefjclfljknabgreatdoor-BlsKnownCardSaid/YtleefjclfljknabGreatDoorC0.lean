/-
Contracts of calls that BlsKnown comes to, each by the kernel's own run; printed by a program of the session.
-/
import Derived.Test.YtleefjclfljknabGreatDoorP
namespace Go.Proofs.YtleefjclfljknabGreatDoor
open Go.Rx
def c0 : CT := ⟨5, [.one (.c (w 5))], [], .one (.agg (W [5, 0, 0, 0, 0, 0])), [], []⟩
theorem hc0 : c0.Holds P := fnA S autoOk Tryz.func5 o5 Tryz.call5 [] 308 [] (by kernel_rfl)
def c1 : CT := ⟨6, [], [], .one (.c (.slc 0 0 1 1)), [bx [y 109] 5], []⟩
theorem hc1 : c1.Holds P := fnA S autoOk Tryz.func6 o6 Tryz.call6 [] 308 [0] (by kernel_rfl)
def c2 : CT := ⟨32, [.one (.c (i 1))], [], .one (.c tt), [], []⟩
theorem hc2 : c2.Holds P := fnA S autoOk Tryz.func32 o32 Tryz.call32 [] 320 [] (by kernel_rfl)
def c3 : CT := ⟨89, [.one (.c (i 1))], [], .tup [.agg l0, .c tt], [], []⟩
theorem hc3 : c3.Holds P := fnA S autoOk Tryz.func89 o89 Tryz.call89 [] 318 [] (by kernel_rfl)
def c4 : CT := ⟨59, [.one (.c (i 1))], [], .tup [.c (w 65521), .c (i 0)], [], []⟩
theorem hc4 : c4.Holds P := fnA S autoOk Tryz.func59 o59 Tryz.call59 [⟨c3, hc3, []⟩] 332 [] (by kernel_rfl)
def c5 : CT := ⟨5, [.one (.c (w 65521))], [], .one (.agg (W [65521, 0, 0, 0, 0, 0])), [], []⟩
theorem hc5 : c5.Holds P := fnA S autoOk Tryz.func5 o5 Tryz.call5 [] 308 [] (by kernel_rfl)
def c6 : CT := ⟨33, [.one (.c (i 1))], [], .one (.agg (W [65521, 0, 0, 0, 0, 0])), [], []⟩
theorem hc6 : c6.Holds P := fnA S autoOk Tryz.func33 o33 Tryz.call33 [⟨c4, hc4, []⟩, ⟨c5, hc5, []⟩] 326 [] (by kernel_rfl)
def c7 : CT := ⟨15, [.one (.c (i 1))], [], .tup [.agg (W [65521, 0, 0, 0, 0, 0]), .c (i 0)], [], []⟩
theorem hc7 : c7.Holds P := fnA S autoOk Tryz.func15 o15 Tryz.call15 [⟨c2, hc2, []⟩, ⟨c6, hc6, []⟩] 318 [] (by kernel_rfl)
def c8 : CT := ⟨16, [.one (.agg (W [5, 0, 0, 0, 0, 0])), .one (.agg (W [65521, 0, 0, 0, 0, 0]))], [], .one (.c (i (-1))), [], []⟩
theorem hc8 : c8.Holds P := fnA S autoOk Tryz.func16 o16 Tryz.call16 [] 540 [] (by kernel_rfl)
def c9 : CT := ⟨171, [.one (.c (i 1))], [], .one (.c (.slc 0 0 4 4)), [bx (Y [0, 0, 0, 1]) 5], []⟩
theorem hc9 : c9.Holds P := fnA S autoOk Tryz.func171 o171 Tryz.call171 [] 328 [0] (by kernel_rfl)
def c10 : CT := ⟨100, [.one (.c (.slc 0 0 1 1))], [bx [.slc 1 0 1 1] 38, bx [y 109] 5], .one (.c (.slu 2 3 1 0 5)), [xx, xx, b0, ghostBlk], [true, true]⟩
theorem hc10 : c10.Holds P := fnA S autoOk Tryz.func100 o100 Tryz.call100 [⟨c9, hc9, []⟩] 344 [5, 6] (by kernel_rfl)
def c11 : CT := ⟨63, [.one (.c (i 1)), .one (.c (.slc 0 0 1 1))], [bx [.slc 1 0 1 1] 38, bx [y 109] 5], .tup [.c (.slu 2 3 1 0 5), .c (i 0)], [xx, xx, b0, ghostBlk], [true, true]⟩
theorem hc11 : c11.Holds P := fnA S autoOk Tryz.func63 o63 Tryz.call63 [⟨c2, hc2, []⟩, ⟨c10, hc10, [0, 1]⟩] 356 [2, 3] (by kernel_rfl)
def c12 : CT := ⟨108, [.one (.c (i 1))], [], .tup [.c (w 786251), .c (i 0)], [], []⟩
theorem hc12 : c12.Holds P := fnA S autoOk Tryz.func108 o108 Tryz.call108 [⟨c3, hc3, []⟩] 332 [] (by kernel_rfl)
def c13 : CT := ⟨5, [.one (.c (w 786251))], [], .one (.agg (W [786251, 0, 0, 0, 0, 0])), [], []⟩
theorem hc13 : c13.Holds P := fnA S autoOk Tryz.func5 o5 Tryz.call5 [] 308 [] (by kernel_rfl)
def c14 : CT := ⟨66, [.one (.c (i 1))], [], .one (.agg (W [786251, 0, 0, 0, 0, 0])), [], []⟩
theorem hc14 : c14.Holds P := fnA S autoOk Tryz.func66 o66 Tryz.call66 [⟨c12, hc12, []⟩, ⟨c13, hc13, []⟩] 326 [] (by kernel_rfl)
def c15 : CT := ⟨216, [], [], .one (.agg l1), [], []⟩
theorem hc15 : c15.Holds P := fnA S autoOk Tryz.func216 o216 Tryz.call216 [] 306 [] (by kernel_rfl)
def c16 : CT := ⟨174, [], [], .one (.c (.ptr 0 0)), [bx l2 287], []⟩
theorem hc16 : c16.Holds P := fnA S autoOk Tryz.func174 o174 Tryz.call174 [⟨c15, hc15, []⟩] 310 [0] (by kernel_rfl)
def c17 : CT := ⟨217, [.one (.c (.ptr 0 0))], [bx l2 287], .one (.c ff), [xx], [true]⟩
theorem hc17 : c17.Holds P := fnA S autoOk Tryz.func217 o217 Tryz.call217 [] 322 [] (by kernel_rfl)
def c18 : CT := ⟨175, [.one (.c (.ptr 1 0)), .one (.c (.slu 2 3 1 0 7))], [b1, bx l2 287, bo (Y [3, 0, 0, 0, 0, 1, 109]) 5 3, ghostBlk], .one (.c (i 0)), [xx, bx l3 287, xx, xx], [true, false, true, true]⟩
theorem hc18 : c18.Holds P := fnA S autoOk Tryz.func175 o175 Tryz.call175 [⟨c17, hc17, [1]⟩] 750 [] (by kernel_rfl)
def c19 : CT := ⟨217, [.one (.c (.ptr 0 0))], [bx l3 287], .one (.c ff), [xx], [true]⟩
theorem hc19 : c19.Holds P := fnA S autoOk Tryz.func217 o217 Tryz.call217 [] 322 [] (by kernel_rfl)
end Go.Proofs.YtleefjclfljknabGreatDoor
