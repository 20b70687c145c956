/-
Contracts of leaf functions, by symbols: printed by a program of the session.
-/
import Derived.Test.YtleefjclfljknabGreatDoorNb
import Derived.Test.YtleefjclfljknabGreatDoorProg
namespace Go.Proofs.YtleefjclfljknabGreatDoor
open Go.Rx
noncomputable abbrev P : Program := Tryz.prog
theorem S : Seat P := ⟨by kernel_rfl⟩
theorem mul64 (x y : Nat)  : Con P 186 [.one (.c (w64 x)), .one (.c (w64 y))] [] (.tup [.c (w64 ((((((x / 2 ^ 32) * (y / 2 ^ 32) % 2 ^ 64) + (((((x / 2 ^ 32) * ((y % 2 ^ 64) &&& (4294967295 % 2 ^ 64)) % 2 ^ 64) + ((((x % 2 ^ 64) &&& (4294967295 % 2 ^ 64)) * ((y % 2 ^ 64) &&& (4294967295 % 2 ^ 64)) % 2 ^ 64) / 2 ^ 32)) % 2 ^ 64) / 2 ^ 32)) % 2 ^ 64) + (((((((((x / 2 ^ 32) * ((y % 2 ^ 64) &&& (4294967295 % 2 ^ 64)) % 2 ^ 64) + ((((x % 2 ^ 64) &&& (4294967295 % 2 ^ 64)) * ((y % 2 ^ 64) &&& (4294967295 % 2 ^ 64)) % 2 ^ 64) / 2 ^ 32)) % 2 ^ 64) % 2 ^ 64) &&& (4294967295 % 2 ^ 64)) + (((x % 2 ^ 64) &&& (4294967295 % 2 ^ 64)) * (y / 2 ^ 32) % 2 ^ 64)) % 2 ^ 64) / 2 ^ 32)) % 2 ^ 64)), .c (w64 (x * y % 2 ^ 64))]) [] :=
  fn0 S Tryz.func186 Tryz.call186 [] [] 500
    (show Good0 _ (.tup [.c (w64 ((((((x / 2 ^ 32) * (y / 2 ^ 32) % 2 ^ 64) + (((((x / 2 ^ 32) * ((y % 2 ^ 64) &&& (4294967295 % 2 ^ 64)) % 2 ^ 64) + ((((x % 2 ^ 64) &&& (4294967295 % 2 ^ 64)) * ((y % 2 ^ 64) &&& (4294967295 % 2 ^ 64)) % 2 ^ 64) / 2 ^ 32)) % 2 ^ 64) / 2 ^ 32)) % 2 ^ 64) + (((((((((x / 2 ^ 32) * ((y % 2 ^ 64) &&& (4294967295 % 2 ^ 64)) % 2 ^ 64) + ((((x % 2 ^ 64) &&& (4294967295 % 2 ^ 64)) * ((y % 2 ^ 64) &&& (4294967295 % 2 ^ 64)) % 2 ^ 64) / 2 ^ 32)) % 2 ^ 64) % 2 ^ 64) &&& (4294967295 % 2 ^ 64)) + (((x % 2 ^ 64) &&& (4294967295 % 2 ^ 64)) * (y / 2 ^ 32) % 2 ^ 64)) % 2 ^ 64) / 2 ^ 32)) % 2 ^ 64)), .c (w64 (x * y % 2 ^ 64))]) = (true = true ∧ (True) ∧ (.tup [.c (w64 ((((((x / 2 ^ 32) * (y / 2 ^ 32) % 2 ^ 64) + (((((x / 2 ^ 32) * ((y % 2 ^ 64) &&& (4294967295 % 2 ^ 64)) % 2 ^ 64) + ((((x % 2 ^ 64) &&& (4294967295 % 2 ^ 64)) * ((y % 2 ^ 64) &&& (4294967295 % 2 ^ 64)) % 2 ^ 64) / 2 ^ 32)) % 2 ^ 64) / 2 ^ 32)) % 2 ^ 64) + (((((((((x / 2 ^ 32) * ((y % 2 ^ 64) &&& (4294967295 % 2 ^ 64)) % 2 ^ 64) + ((((x % 2 ^ 64) &&& (4294967295 % 2 ^ 64)) * ((y % 2 ^ 64) &&& (4294967295 % 2 ^ 64)) % 2 ^ 64) / 2 ^ 32)) % 2 ^ 64) % 2 ^ 64) &&& (4294967295 % 2 ^ 64)) + (((x % 2 ^ 64) &&& (4294967295 % 2 ^ 64)) * (y / 2 ^ 32) % 2 ^ 64)) % 2 ^ 64) / 2 ^ 32)) % 2 ^ 64)), .c (w64 (x * y % 2 ^ 64))] : AV) = .tup [.c (w64 ((((((x / 2 ^ 32) * (y / 2 ^ 32) % 2 ^ 64) + (((((x / 2 ^ 32) * ((y % 2 ^ 64) &&& (4294967295 % 2 ^ 64)) % 2 ^ 64) + ((((x % 2 ^ 64) &&& (4294967295 % 2 ^ 64)) * ((y % 2 ^ 64) &&& (4294967295 % 2 ^ 64)) % 2 ^ 64) / 2 ^ 32)) % 2 ^ 64) / 2 ^ 32)) % 2 ^ 64) + (((((((((x / 2 ^ 32) * ((y % 2 ^ 64) &&& (4294967295 % 2 ^ 64)) % 2 ^ 64) + ((((x % 2 ^ 64) &&& (4294967295 % 2 ^ 64)) * ((y % 2 ^ 64) &&& (4294967295 % 2 ^ 64)) % 2 ^ 64) / 2 ^ 32)) % 2 ^ 64) % 2 ^ 64) &&& (4294967295 % 2 ^ 64)) + (((x % 2 ^ 64) &&& (4294967295 % 2 ^ 64)) * (y / 2 ^ 32) % 2 ^ 64)) % 2 ^ 64) / 2 ^ 32)) % 2 ^ 64)), .c (w64 (x * y % 2 ^ 64))]) by kernel_rfl)
    ⟨rfl, trivial, rfl⟩ (by kernel_rfl)
theorem EAdd64 : Ext P 188 Tryz.f188 "math/bits.Add64" := ⟨Tryz.func188, by kernel_rfl, by kernel_rfl, by kernel_rfl, by kernel_rfl⟩
theorem ESub64 : Ext P 190 Tryz.f190 "math/bits.Sub64" := ⟨Tryz.func190, by kernel_rfl, by kernel_rfl, by kernel_rfl, by kernel_rfl⟩
theorem wsub (a b : Nat)  : Con P 219 [aN a, aN b] [] (.tup [.agg (cN (sub6 a b)), .c (cB ((bw a b 6) == 1))]) [] :=
  fn0 S Tryz.func219 Tryz.call219 [[(8, { call := some { res := .tup [.c (w64 (wd (sub6 a b) 0)), .c (w64 (bw a b 1))] } })],
      [(8, { call := some { res := .tup [.c (w64 (wd (sub6 a b) 1)), .c (w64 (bw a b 2))] } })],
      [(8, { call := some { res := .tup [.c (w64 (wd (sub6 a b) 2)), .c (w64 (bw a b 3))] } })],
      [(8, { call := some { res := .tup [.c (w64 (wd (sub6 a b) 3)), .c (w64 (bw a b 4))] } })],
      [(8, { call := some { res := .tup [.c (w64 (wd (sub6 a b) 4)), .c (w64 (bw a b 5))] } })],
      [(8, { call := some { res := .tup [.c (w64 (wd (sub6 a b) 5)), .c (w64 (bw a b 6))] } })]] [true, true, true, true, true, true, false] 666
    (show Good0 _ (.tup [.agg (cN (sub6 a b)), .c (cB ((bw a b 6) == 1))]) = (true = true ∧ ((Con P 190 [.one (.c (w64 (wd a 0))), .one (.c (w64 (wd b 0))), .one (.c (w64 0))] [] (.tup [.c (w64 (wd (sub6 a b) 0)), .c (w64 (bw a b 1))]) []) ∧ (Con P 190 [.one (.c (w64 (wd a 1))), .one (.c (w64 (wd b 1))), .one (.c (w64 (bw a b 1)))] [] (.tup [.c (w64 (wd (sub6 a b) 1)), .c (w64 (bw a b 2))]) []) ∧ (Con P 190 [.one (.c (w64 (wd a 2))), .one (.c (w64 (wd b 2))), .one (.c (w64 (bw a b 2)))] [] (.tup [.c (w64 (wd (sub6 a b) 2)), .c (w64 (bw a b 3))]) []) ∧ (Con P 190 [.one (.c (w64 (wd a 3))), .one (.c (w64 (wd b 3))), .one (.c (w64 (bw a b 3)))] [] (.tup [.c (w64 (wd (sub6 a b) 3)), .c (w64 (bw a b 4))]) []) ∧ (Con P 190 [.one (.c (w64 (wd a 4))), .one (.c (w64 (wd b 4))), .one (.c (w64 (bw a b 4)))] [] (.tup [.c (w64 (wd (sub6 a b) 4)), .c (w64 (bw a b 5))]) []) ∧ (Con P 190 [.one (.c (w64 (wd a 5))), .one (.c (w64 (wd b 5))), .one (.c (w64 (bw a b 5)))] [] (.tup [.c (w64 (wd (sub6 a b) 5)), .c (w64 (bw a b 6))]) []) ∧ True) ∧ (.tup [.agg (cN (sub6 a b)), .c (cB ((bw a b 6) == 1))] : AV) = .tup [.agg (cN (sub6 a b)), .c (cB ((bw a b 6) == 1))]) by kernel_rfl)
    ⟨rfl, ⟨sub64_wd0 ESub64 a b, sub64_wd ESub64 a b 1 (by decide), sub64_wd ESub64 a b 2 (by decide), sub64_wd ESub64 a b 3 (by decide), sub64_wd ESub64 a b 4 (by decide), sub64_wd ESub64 a b 5 (by decide), trivial⟩, rfl⟩ (by kernel_rfl)
theorem less_ge (a n l v ty : Nat) (hc1 : ((!(bw a n 6 == 1)) == true) = true) : Con P 177 [.one (.c (.ptr 0 0)), aN a] [⟨cN n ++ ([w64 l] ++ cN v), ty, false, .exact, none⟩] (aN (sub6 a n)) [⟨cN n ++ ([w64 l] ++ cN v), ty, false, .exact, none⟩] :=
  fnM S Tryz.func177 Tryz.call177 [[(5, { call := some { res := .tup [.agg (cN (sub6 a n)), .c (cB (bw a n 6 == 1))] } })]] [true] 436 []
    (show GoodM _ _ _ _ _ = (((((!(bw a n 6 == 1)) == true) && true) && true) = true ∧ ((Con P 219 [aN a, aN n] [] (.tup [.agg (cN (sub6 a n)), .c (cB (bw a n 6 == 1))]) []) ∧ True) ∧ (aN (sub6 a n) : AV) = aN (sub6 a n) ∧ ([⟨cN n ++ ([w64 l] ++ cN v), ty, false, .exact, none⟩].map some : List (Option Blk)) = [⟨cN n ++ ([w64 l] ++ cN v), ty, false, .exact, none⟩].map some) by kernel_rfl)
    ⟨(band (band hc1 rfl) rfl), ⟨wsub a n, trivial⟩, rfl, rfl⟩ (by kernel_rfl)
theorem less_lt (a n l v ty : Nat) (hc1 : ((!(bw a n 6 == 1)) == false) = true) : Con P 177 [.one (.c (.ptr 0 0)), aN a] [⟨cN n ++ ([w64 l] ++ cN v), ty, false, .exact, none⟩] (aN a) [⟨cN n ++ ([w64 l] ++ cN v), ty, false, .exact, none⟩] :=
  fnM S Tryz.func177 Tryz.call177 [[(5, { call := some { res := .tup [.agg (cN (sub6 a n)), .c (cB (bw a n 6 == 1))] } })]] [false] 436 []
    (show GoodM _ _ _ _ _ = ((((((!(bw a n 6 == 1)) == false) && true) && true) && true) = true ∧ ((Con P 219 [aN a, aN n] [] (.tup [.agg (cN (sub6 a n)), .c (cB (bw a n 6 == 1))]) []) ∧ True) ∧ (aN a : AV) = aN a ∧ ([⟨cN n ++ ([w64 l] ++ cN v), ty, false, .exact, none⟩].map some : List (Option Blk)) = [⟨cN n ++ ([w64 l] ++ cN v), ty, false, .exact, none⟩].map some) by kernel_rfl)
    ⟨(band (band (band hc1 rfl) rfl) rfl), ⟨wsub a n, trivial⟩, rfl, rfl⟩ (by kernel_rfl)
theorem shift1 (a : Nat)  : Con P 110 [aN a, .one (.c (cI 1))] [] (.one (.agg ([w64 ((wd a 0) * 2 ^ 1 % 2 ^ 64), w64 ((((wd a 1) * 2 ^ 1 % 2 ^ 64) % 2 ^ 64) ||| (((wd a 0) / 2 ^ 63) % 2 ^ 64)), w64 ((((wd a 2) * 2 ^ 1 % 2 ^ 64) % 2 ^ 64) ||| (((wd a 1) / 2 ^ 63) % 2 ^ 64)), w64 ((((wd a 3) * 2 ^ 1 % 2 ^ 64) % 2 ^ 64) ||| (((wd a 2) / 2 ^ 63) % 2 ^ 64)), w64 ((((wd a 4) * 2 ^ 1 % 2 ^ 64) % 2 ^ 64) ||| (((wd a 3) / 2 ^ 63) % 2 ^ 64)), w64 ((((wd a 5) * 2 ^ 1 % 2 ^ 64) % 2 ^ 64) ||| (((wd a 4) / 2 ^ 63) % 2 ^ 64))]))) [] :=
  fn0 S Tryz.func110 Tryz.call110 [[(5, { dir := false })],
      [],
      [(7, { run := false }), (8, { run := false }), (9, { dir := false })],
      [],
      [],
      [],
      [],
      [],
      [],
      [],
      [],
      [],
      []] [false, true, true, false, true, true, true, true, true, true, true, true, true, true, true, true, true, true, true, false] 1016
    (show Good0 _ (.one (.agg ([w64 ((wd a 0) * 2 ^ 1 % 2 ^ 64), w64 ((((wd a 1) * 2 ^ 1 % 2 ^ 64) % 2 ^ 64) ||| (((wd a 0) / 2 ^ 63) % 2 ^ 64)), w64 ((((wd a 2) * 2 ^ 1 % 2 ^ 64) % 2 ^ 64) ||| (((wd a 1) / 2 ^ 63) % 2 ^ 64)), w64 ((((wd a 3) * 2 ^ 1 % 2 ^ 64) % 2 ^ 64) ||| (((wd a 2) / 2 ^ 63) % 2 ^ 64)), w64 ((((wd a 4) * 2 ^ 1 % 2 ^ 64) % 2 ^ 64) ||| (((wd a 3) / 2 ^ 63) % 2 ^ 64)), w64 ((((wd a 5) * 2 ^ 1 % 2 ^ 64) % 2 ^ 64) ||| (((wd a 4) / 2 ^ 63) % 2 ^ 64))]))) = (true = true ∧ (True) ∧ (.one (.agg ([w64 ((wd a 0) * 2 ^ 1 % 2 ^ 64), w64 ((((wd a 1) * 2 ^ 1 % 2 ^ 64) % 2 ^ 64) ||| (((wd a 0) / 2 ^ 63) % 2 ^ 64)), w64 ((((wd a 2) * 2 ^ 1 % 2 ^ 64) % 2 ^ 64) ||| (((wd a 1) / 2 ^ 63) % 2 ^ 64)), w64 ((((wd a 3) * 2 ^ 1 % 2 ^ 64) % 2 ^ 64) ||| (((wd a 2) / 2 ^ 63) % 2 ^ 64)), w64 ((((wd a 4) * 2 ^ 1 % 2 ^ 64) % 2 ^ 64) ||| (((wd a 3) / 2 ^ 63) % 2 ^ 64)), w64 ((((wd a 5) * 2 ^ 1 % 2 ^ 64) % 2 ^ 64) ||| (((wd a 4) / 2 ^ 63) % 2 ^ 64))])) : AV) = .one (.agg ([w64 ((wd a 0) * 2 ^ 1 % 2 ^ 64), w64 ((((wd a 1) * 2 ^ 1 % 2 ^ 64) % 2 ^ 64) ||| (((wd a 0) / 2 ^ 63) % 2 ^ 64)), w64 ((((wd a 2) * 2 ^ 1 % 2 ^ 64) % 2 ^ 64) ||| (((wd a 1) / 2 ^ 63) % 2 ^ 64)), w64 ((((wd a 3) * 2 ^ 1 % 2 ^ 64) % 2 ^ 64) ||| (((wd a 2) / 2 ^ 63) % 2 ^ 64)), w64 ((((wd a 4) * 2 ^ 1 % 2 ^ 64) % 2 ^ 64) ||| (((wd a 3) / 2 ^ 63) % 2 ^ 64)), w64 ((((wd a 5) * 2 ^ 1 % 2 ^ 64) % 2 ^ 64) ||| (((wd a 4) / 2 ^ 63) % 2 ^ 64))]))) by kernel_rfl)
    ⟨rfl, trivial, rfl⟩ (by kernel_rfl)
theorem rot2 (x : Nat)  : Con P 254 [.one (.c (wK .u32 x)), .one (.c (cI (-2)))] [] (.one (.c (wK .u32 (((x * 2 ^ 30 % 2 ^ 32) % 2 ^ 32) ||| ((x / 2 ^ 2) % 2 ^ 32))))) [] :=
  fn0 S Tryz.func254 Tryz.call254 [] [] 428
    (show Good0 _ (.one (.c (wK .u32 (((x * 2 ^ 30 % 2 ^ 32) % 2 ^ 32) ||| ((x / 2 ^ 2) % 2 ^ 32))))) = (true = true ∧ (True) ∧ (.one (.c (wK .u32 (((x * 2 ^ 30 % 2 ^ 32) % 2 ^ 32) ||| ((x / 2 ^ 2) % 2 ^ 32)))) : AV) = .one (.c (wK .u32 (((x * 2 ^ 30 % 2 ^ 32) % 2 ^ 32) ||| ((x / 2 ^ 2) % 2 ^ 32))))) by kernel_rfl)
    ⟨rfl, trivial, rfl⟩ (by kernel_rfl)
theorem right2 (x : Nat)  : Con P 244 [.one (.c (wK .u32 x)), .one (.c (cI 2))] [] (.one (.c (wK .u32 (((x * 2 ^ 30 % 2 ^ 32) % 2 ^ 32) ||| ((x / 2 ^ 2) % 2 ^ 32))))) [] :=
  fn0 S Tryz.func244 Tryz.call244 [[(3, { call := some { res := .one (.c (wK .u32 (((x * 2 ^ 30 % 2 ^ 32) % 2 ^ 32) ||| ((x / 2 ^ 2) % 2 ^ 32)))) } })]] [] 412
    (show Good0 _ (.one (.c (wK .u32 (((x * 2 ^ 30 % 2 ^ 32) % 2 ^ 32) ||| ((x / 2 ^ 2) % 2 ^ 32))))) = (true = true ∧ ((Con P 254 [.one (.c (wK .u32 x)), .one (.c (cI (-2)))] [] (.one (.c (wK .u32 (((x * 2 ^ 30 % 2 ^ 32) % 2 ^ 32) ||| ((x / 2 ^ 2) % 2 ^ 32))))) []) ∧ True) ∧ (.one (.c (wK .u32 (((x * 2 ^ 30 % 2 ^ 32) % 2 ^ 32) ||| ((x / 2 ^ 2) % 2 ^ 32)))) : AV) = .one (.c (wK .u32 (((x * 2 ^ 30 % 2 ^ 32) % 2 ^ 32) ||| ((x / 2 ^ 2) % 2 ^ 32))))) by kernel_rfl)
    ⟨rfl, ⟨rot2 x, trivial⟩, rfl⟩ (by kernel_rfl)
theorem rot3 (x : Nat)  : Con P 254 [.one (.c (wK .u32 x)), .one (.c (cI (-3)))] [] (.one (.c (wK .u32 (((x * 2 ^ 29 % 2 ^ 32) % 2 ^ 32) ||| ((x / 2 ^ 3) % 2 ^ 32))))) [] :=
  fn0 S Tryz.func254 Tryz.call254 [] [] 428
    (show Good0 _ (.one (.c (wK .u32 (((x * 2 ^ 29 % 2 ^ 32) % 2 ^ 32) ||| ((x / 2 ^ 3) % 2 ^ 32))))) = (true = true ∧ (True) ∧ (.one (.c (wK .u32 (((x * 2 ^ 29 % 2 ^ 32) % 2 ^ 32) ||| ((x / 2 ^ 3) % 2 ^ 32)))) : AV) = .one (.c (wK .u32 (((x * 2 ^ 29 % 2 ^ 32) % 2 ^ 32) ||| ((x / 2 ^ 3) % 2 ^ 32))))) by kernel_rfl)
    ⟨rfl, trivial, rfl⟩ (by kernel_rfl)
theorem right3 (x : Nat)  : Con P 244 [.one (.c (wK .u32 x)), .one (.c (cI 3))] [] (.one (.c (wK .u32 (((x * 2 ^ 29 % 2 ^ 32) % 2 ^ 32) ||| ((x / 2 ^ 3) % 2 ^ 32))))) [] :=
  fn0 S Tryz.func244 Tryz.call244 [[(3, { call := some { res := .one (.c (wK .u32 (((x * 2 ^ 29 % 2 ^ 32) % 2 ^ 32) ||| ((x / 2 ^ 3) % 2 ^ 32)))) } })]] [] 412
    (show Good0 _ (.one (.c (wK .u32 (((x * 2 ^ 29 % 2 ^ 32) % 2 ^ 32) ||| ((x / 2 ^ 3) % 2 ^ 32))))) = (true = true ∧ ((Con P 254 [.one (.c (wK .u32 x)), .one (.c (cI (-3)))] [] (.one (.c (wK .u32 (((x * 2 ^ 29 % 2 ^ 32) % 2 ^ 32) ||| ((x / 2 ^ 3) % 2 ^ 32))))) []) ∧ True) ∧ (.one (.c (wK .u32 (((x * 2 ^ 29 % 2 ^ 32) % 2 ^ 32) ||| ((x / 2 ^ 3) % 2 ^ 32)))) : AV) = .one (.c (wK .u32 (((x * 2 ^ 29 % 2 ^ 32) % 2 ^ 32) ||| ((x / 2 ^ 3) % 2 ^ 32))))) by kernel_rfl)
    ⟨rfl, ⟨rot3 x, trivial⟩, rfl⟩ (by kernel_rfl)
theorem rot6 (x : Nat)  : Con P 254 [.one (.c (wK .u32 x)), .one (.c (cI (-6)))] [] (.one (.c (wK .u32 (((x * 2 ^ 26 % 2 ^ 32) % 2 ^ 32) ||| ((x / 2 ^ 6) % 2 ^ 32))))) [] :=
  fn0 S Tryz.func254 Tryz.call254 [] [] 428
    (show Good0 _ (.one (.c (wK .u32 (((x * 2 ^ 26 % 2 ^ 32) % 2 ^ 32) ||| ((x / 2 ^ 6) % 2 ^ 32))))) = (true = true ∧ (True) ∧ (.one (.c (wK .u32 (((x * 2 ^ 26 % 2 ^ 32) % 2 ^ 32) ||| ((x / 2 ^ 6) % 2 ^ 32)))) : AV) = .one (.c (wK .u32 (((x * 2 ^ 26 % 2 ^ 32) % 2 ^ 32) ||| ((x / 2 ^ 6) % 2 ^ 32))))) by kernel_rfl)
    ⟨rfl, trivial, rfl⟩ (by kernel_rfl)
theorem right6 (x : Nat)  : Con P 244 [.one (.c (wK .u32 x)), .one (.c (cI 6))] [] (.one (.c (wK .u32 (((x * 2 ^ 26 % 2 ^ 32) % 2 ^ 32) ||| ((x / 2 ^ 6) % 2 ^ 32))))) [] :=
  fn0 S Tryz.func244 Tryz.call244 [[(3, { call := some { res := .one (.c (wK .u32 (((x * 2 ^ 26 % 2 ^ 32) % 2 ^ 32) ||| ((x / 2 ^ 6) % 2 ^ 32)))) } })]] [] 412
    (show Good0 _ (.one (.c (wK .u32 (((x * 2 ^ 26 % 2 ^ 32) % 2 ^ 32) ||| ((x / 2 ^ 6) % 2 ^ 32))))) = (true = true ∧ ((Con P 254 [.one (.c (wK .u32 x)), .one (.c (cI (-6)))] [] (.one (.c (wK .u32 (((x * 2 ^ 26 % 2 ^ 32) % 2 ^ 32) ||| ((x / 2 ^ 6) % 2 ^ 32))))) []) ∧ True) ∧ (.one (.c (wK .u32 (((x * 2 ^ 26 % 2 ^ 32) % 2 ^ 32) ||| ((x / 2 ^ 6) % 2 ^ 32)))) : AV) = .one (.c (wK .u32 (((x * 2 ^ 26 % 2 ^ 32) % 2 ^ 32) ||| ((x / 2 ^ 6) % 2 ^ 32))))) by kernel_rfl)
    ⟨rfl, ⟨rot6 x, trivial⟩, rfl⟩ (by kernel_rfl)
theorem rot7 (x : Nat)  : Con P 254 [.one (.c (wK .u32 x)), .one (.c (cI (-7)))] [] (.one (.c (wK .u32 (((x * 2 ^ 25 % 2 ^ 32) % 2 ^ 32) ||| ((x / 2 ^ 7) % 2 ^ 32))))) [] :=
  fn0 S Tryz.func254 Tryz.call254 [] [] 428
    (show Good0 _ (.one (.c (wK .u32 (((x * 2 ^ 25 % 2 ^ 32) % 2 ^ 32) ||| ((x / 2 ^ 7) % 2 ^ 32))))) = (true = true ∧ (True) ∧ (.one (.c (wK .u32 (((x * 2 ^ 25 % 2 ^ 32) % 2 ^ 32) ||| ((x / 2 ^ 7) % 2 ^ 32)))) : AV) = .one (.c (wK .u32 (((x * 2 ^ 25 % 2 ^ 32) % 2 ^ 32) ||| ((x / 2 ^ 7) % 2 ^ 32))))) by kernel_rfl)
    ⟨rfl, trivial, rfl⟩ (by kernel_rfl)
theorem right7 (x : Nat)  : Con P 244 [.one (.c (wK .u32 x)), .one (.c (cI 7))] [] (.one (.c (wK .u32 (((x * 2 ^ 25 % 2 ^ 32) % 2 ^ 32) ||| ((x / 2 ^ 7) % 2 ^ 32))))) [] :=
  fn0 S Tryz.func244 Tryz.call244 [[(3, { call := some { res := .one (.c (wK .u32 (((x * 2 ^ 25 % 2 ^ 32) % 2 ^ 32) ||| ((x / 2 ^ 7) % 2 ^ 32)))) } })]] [] 412
    (show Good0 _ (.one (.c (wK .u32 (((x * 2 ^ 25 % 2 ^ 32) % 2 ^ 32) ||| ((x / 2 ^ 7) % 2 ^ 32))))) = (true = true ∧ ((Con P 254 [.one (.c (wK .u32 x)), .one (.c (cI (-7)))] [] (.one (.c (wK .u32 (((x * 2 ^ 25 % 2 ^ 32) % 2 ^ 32) ||| ((x / 2 ^ 7) % 2 ^ 32))))) []) ∧ True) ∧ (.one (.c (wK .u32 (((x * 2 ^ 25 % 2 ^ 32) % 2 ^ 32) ||| ((x / 2 ^ 7) % 2 ^ 32)))) : AV) = .one (.c (wK .u32 (((x * 2 ^ 25 % 2 ^ 32) % 2 ^ 32) ||| ((x / 2 ^ 7) % 2 ^ 32))))) by kernel_rfl)
    ⟨rfl, ⟨rot7 x, trivial⟩, rfl⟩ (by kernel_rfl)
theorem rot10 (x : Nat)  : Con P 254 [.one (.c (wK .u32 x)), .one (.c (cI (-10)))] [] (.one (.c (wK .u32 (((x * 2 ^ 22 % 2 ^ 32) % 2 ^ 32) ||| ((x / 2 ^ 10) % 2 ^ 32))))) [] :=
  fn0 S Tryz.func254 Tryz.call254 [] [] 428
    (show Good0 _ (.one (.c (wK .u32 (((x * 2 ^ 22 % 2 ^ 32) % 2 ^ 32) ||| ((x / 2 ^ 10) % 2 ^ 32))))) = (true = true ∧ (True) ∧ (.one (.c (wK .u32 (((x * 2 ^ 22 % 2 ^ 32) % 2 ^ 32) ||| ((x / 2 ^ 10) % 2 ^ 32)))) : AV) = .one (.c (wK .u32 (((x * 2 ^ 22 % 2 ^ 32) % 2 ^ 32) ||| ((x / 2 ^ 10) % 2 ^ 32))))) by kernel_rfl)
    ⟨rfl, trivial, rfl⟩ (by kernel_rfl)
theorem right10 (x : Nat)  : Con P 244 [.one (.c (wK .u32 x)), .one (.c (cI 10))] [] (.one (.c (wK .u32 (((x * 2 ^ 22 % 2 ^ 32) % 2 ^ 32) ||| ((x / 2 ^ 10) % 2 ^ 32))))) [] :=
  fn0 S Tryz.func244 Tryz.call244 [[(3, { call := some { res := .one (.c (wK .u32 (((x * 2 ^ 22 % 2 ^ 32) % 2 ^ 32) ||| ((x / 2 ^ 10) % 2 ^ 32)))) } })]] [] 412
    (show Good0 _ (.one (.c (wK .u32 (((x * 2 ^ 22 % 2 ^ 32) % 2 ^ 32) ||| ((x / 2 ^ 10) % 2 ^ 32))))) = (true = true ∧ ((Con P 254 [.one (.c (wK .u32 x)), .one (.c (cI (-10)))] [] (.one (.c (wK .u32 (((x * 2 ^ 22 % 2 ^ 32) % 2 ^ 32) ||| ((x / 2 ^ 10) % 2 ^ 32))))) []) ∧ True) ∧ (.one (.c (wK .u32 (((x * 2 ^ 22 % 2 ^ 32) % 2 ^ 32) ||| ((x / 2 ^ 10) % 2 ^ 32)))) : AV) = .one (.c (wK .u32 (((x * 2 ^ 22 % 2 ^ 32) % 2 ^ 32) ||| ((x / 2 ^ 10) % 2 ^ 32))))) by kernel_rfl)
    ⟨rfl, ⟨rot10 x, trivial⟩, rfl⟩ (by kernel_rfl)
theorem rot11 (x : Nat)  : Con P 254 [.one (.c (wK .u32 x)), .one (.c (cI (-11)))] [] (.one (.c (wK .u32 (((x * 2 ^ 21 % 2 ^ 32) % 2 ^ 32) ||| ((x / 2 ^ 11) % 2 ^ 32))))) [] :=
  fn0 S Tryz.func254 Tryz.call254 [] [] 428
    (show Good0 _ (.one (.c (wK .u32 (((x * 2 ^ 21 % 2 ^ 32) % 2 ^ 32) ||| ((x / 2 ^ 11) % 2 ^ 32))))) = (true = true ∧ (True) ∧ (.one (.c (wK .u32 (((x * 2 ^ 21 % 2 ^ 32) % 2 ^ 32) ||| ((x / 2 ^ 11) % 2 ^ 32)))) : AV) = .one (.c (wK .u32 (((x * 2 ^ 21 % 2 ^ 32) % 2 ^ 32) ||| ((x / 2 ^ 11) % 2 ^ 32))))) by kernel_rfl)
    ⟨rfl, trivial, rfl⟩ (by kernel_rfl)
theorem right11 (x : Nat)  : Con P 244 [.one (.c (wK .u32 x)), .one (.c (cI 11))] [] (.one (.c (wK .u32 (((x * 2 ^ 21 % 2 ^ 32) % 2 ^ 32) ||| ((x / 2 ^ 11) % 2 ^ 32))))) [] :=
  fn0 S Tryz.func244 Tryz.call244 [[(3, { call := some { res := .one (.c (wK .u32 (((x * 2 ^ 21 % 2 ^ 32) % 2 ^ 32) ||| ((x / 2 ^ 11) % 2 ^ 32)))) } })]] [] 412
    (show Good0 _ (.one (.c (wK .u32 (((x * 2 ^ 21 % 2 ^ 32) % 2 ^ 32) ||| ((x / 2 ^ 11) % 2 ^ 32))))) = (true = true ∧ ((Con P 254 [.one (.c (wK .u32 x)), .one (.c (cI (-11)))] [] (.one (.c (wK .u32 (((x * 2 ^ 21 % 2 ^ 32) % 2 ^ 32) ||| ((x / 2 ^ 11) % 2 ^ 32))))) []) ∧ True) ∧ (.one (.c (wK .u32 (((x * 2 ^ 21 % 2 ^ 32) % 2 ^ 32) ||| ((x / 2 ^ 11) % 2 ^ 32)))) : AV) = .one (.c (wK .u32 (((x * 2 ^ 21 % 2 ^ 32) % 2 ^ 32) ||| ((x / 2 ^ 11) % 2 ^ 32))))) by kernel_rfl)
    ⟨rfl, ⟨rot11 x, trivial⟩, rfl⟩ (by kernel_rfl)
theorem rot13 (x : Nat)  : Con P 254 [.one (.c (wK .u32 x)), .one (.c (cI (-13)))] [] (.one (.c (wK .u32 (((x * 2 ^ 19 % 2 ^ 32) % 2 ^ 32) ||| ((x / 2 ^ 13) % 2 ^ 32))))) [] :=
  fn0 S Tryz.func254 Tryz.call254 [] [] 428
    (show Good0 _ (.one (.c (wK .u32 (((x * 2 ^ 19 % 2 ^ 32) % 2 ^ 32) ||| ((x / 2 ^ 13) % 2 ^ 32))))) = (true = true ∧ (True) ∧ (.one (.c (wK .u32 (((x * 2 ^ 19 % 2 ^ 32) % 2 ^ 32) ||| ((x / 2 ^ 13) % 2 ^ 32)))) : AV) = .one (.c (wK .u32 (((x * 2 ^ 19 % 2 ^ 32) % 2 ^ 32) ||| ((x / 2 ^ 13) % 2 ^ 32))))) by kernel_rfl)
    ⟨rfl, trivial, rfl⟩ (by kernel_rfl)
theorem right13 (x : Nat)  : Con P 244 [.one (.c (wK .u32 x)), .one (.c (cI 13))] [] (.one (.c (wK .u32 (((x * 2 ^ 19 % 2 ^ 32) % 2 ^ 32) ||| ((x / 2 ^ 13) % 2 ^ 32))))) [] :=
  fn0 S Tryz.func244 Tryz.call244 [[(3, { call := some { res := .one (.c (wK .u32 (((x * 2 ^ 19 % 2 ^ 32) % 2 ^ 32) ||| ((x / 2 ^ 13) % 2 ^ 32)))) } })]] [] 412
    (show Good0 _ (.one (.c (wK .u32 (((x * 2 ^ 19 % 2 ^ 32) % 2 ^ 32) ||| ((x / 2 ^ 13) % 2 ^ 32))))) = (true = true ∧ ((Con P 254 [.one (.c (wK .u32 x)), .one (.c (cI (-13)))] [] (.one (.c (wK .u32 (((x * 2 ^ 19 % 2 ^ 32) % 2 ^ 32) ||| ((x / 2 ^ 13) % 2 ^ 32))))) []) ∧ True) ∧ (.one (.c (wK .u32 (((x * 2 ^ 19 % 2 ^ 32) % 2 ^ 32) ||| ((x / 2 ^ 13) % 2 ^ 32)))) : AV) = .one (.c (wK .u32 (((x * 2 ^ 19 % 2 ^ 32) % 2 ^ 32) ||| ((x / 2 ^ 13) % 2 ^ 32))))) by kernel_rfl)
    ⟨rfl, ⟨rot13 x, trivial⟩, rfl⟩ (by kernel_rfl)
theorem rot17 (x : Nat)  : Con P 254 [.one (.c (wK .u32 x)), .one (.c (cI (-17)))] [] (.one (.c (wK .u32 (((x * 2 ^ 15 % 2 ^ 32) % 2 ^ 32) ||| ((x / 2 ^ 17) % 2 ^ 32))))) [] :=
  fn0 S Tryz.func254 Tryz.call254 [] [] 428
    (show Good0 _ (.one (.c (wK .u32 (((x * 2 ^ 15 % 2 ^ 32) % 2 ^ 32) ||| ((x / 2 ^ 17) % 2 ^ 32))))) = (true = true ∧ (True) ∧ (.one (.c (wK .u32 (((x * 2 ^ 15 % 2 ^ 32) % 2 ^ 32) ||| ((x / 2 ^ 17) % 2 ^ 32)))) : AV) = .one (.c (wK .u32 (((x * 2 ^ 15 % 2 ^ 32) % 2 ^ 32) ||| ((x / 2 ^ 17) % 2 ^ 32))))) by kernel_rfl)
    ⟨rfl, trivial, rfl⟩ (by kernel_rfl)
theorem right17 (x : Nat)  : Con P 244 [.one (.c (wK .u32 x)), .one (.c (cI 17))] [] (.one (.c (wK .u32 (((x * 2 ^ 15 % 2 ^ 32) % 2 ^ 32) ||| ((x / 2 ^ 17) % 2 ^ 32))))) [] :=
  fn0 S Tryz.func244 Tryz.call244 [[(3, { call := some { res := .one (.c (wK .u32 (((x * 2 ^ 15 % 2 ^ 32) % 2 ^ 32) ||| ((x / 2 ^ 17) % 2 ^ 32)))) } })]] [] 412
    (show Good0 _ (.one (.c (wK .u32 (((x * 2 ^ 15 % 2 ^ 32) % 2 ^ 32) ||| ((x / 2 ^ 17) % 2 ^ 32))))) = (true = true ∧ ((Con P 254 [.one (.c (wK .u32 x)), .one (.c (cI (-17)))] [] (.one (.c (wK .u32 (((x * 2 ^ 15 % 2 ^ 32) % 2 ^ 32) ||| ((x / 2 ^ 17) % 2 ^ 32))))) []) ∧ True) ∧ (.one (.c (wK .u32 (((x * 2 ^ 15 % 2 ^ 32) % 2 ^ 32) ||| ((x / 2 ^ 17) % 2 ^ 32)))) : AV) = .one (.c (wK .u32 (((x * 2 ^ 15 % 2 ^ 32) % 2 ^ 32) ||| ((x / 2 ^ 17) % 2 ^ 32))))) by kernel_rfl)
    ⟨rfl, ⟨rot17 x, trivial⟩, rfl⟩ (by kernel_rfl)
theorem rot18 (x : Nat)  : Con P 254 [.one (.c (wK .u32 x)), .one (.c (cI (-18)))] [] (.one (.c (wK .u32 (((x * 2 ^ 14 % 2 ^ 32) % 2 ^ 32) ||| ((x / 2 ^ 18) % 2 ^ 32))))) [] :=
  fn0 S Tryz.func254 Tryz.call254 [] [] 428
    (show Good0 _ (.one (.c (wK .u32 (((x * 2 ^ 14 % 2 ^ 32) % 2 ^ 32) ||| ((x / 2 ^ 18) % 2 ^ 32))))) = (true = true ∧ (True) ∧ (.one (.c (wK .u32 (((x * 2 ^ 14 % 2 ^ 32) % 2 ^ 32) ||| ((x / 2 ^ 18) % 2 ^ 32)))) : AV) = .one (.c (wK .u32 (((x * 2 ^ 14 % 2 ^ 32) % 2 ^ 32) ||| ((x / 2 ^ 18) % 2 ^ 32))))) by kernel_rfl)
    ⟨rfl, trivial, rfl⟩ (by kernel_rfl)
theorem right18 (x : Nat)  : Con P 244 [.one (.c (wK .u32 x)), .one (.c (cI 18))] [] (.one (.c (wK .u32 (((x * 2 ^ 14 % 2 ^ 32) % 2 ^ 32) ||| ((x / 2 ^ 18) % 2 ^ 32))))) [] :=
  fn0 S Tryz.func244 Tryz.call244 [[(3, { call := some { res := .one (.c (wK .u32 (((x * 2 ^ 14 % 2 ^ 32) % 2 ^ 32) ||| ((x / 2 ^ 18) % 2 ^ 32)))) } })]] [] 412
    (show Good0 _ (.one (.c (wK .u32 (((x * 2 ^ 14 % 2 ^ 32) % 2 ^ 32) ||| ((x / 2 ^ 18) % 2 ^ 32))))) = (true = true ∧ ((Con P 254 [.one (.c (wK .u32 x)), .one (.c (cI (-18)))] [] (.one (.c (wK .u32 (((x * 2 ^ 14 % 2 ^ 32) % 2 ^ 32) ||| ((x / 2 ^ 18) % 2 ^ 32))))) []) ∧ True) ∧ (.one (.c (wK .u32 (((x * 2 ^ 14 % 2 ^ 32) % 2 ^ 32) ||| ((x / 2 ^ 18) % 2 ^ 32)))) : AV) = .one (.c (wK .u32 (((x * 2 ^ 14 % 2 ^ 32) % 2 ^ 32) ||| ((x / 2 ^ 18) % 2 ^ 32))))) by kernel_rfl)
    ⟨rfl, ⟨rot18 x, trivial⟩, rfl⟩ (by kernel_rfl)
theorem rot19 (x : Nat)  : Con P 254 [.one (.c (wK .u32 x)), .one (.c (cI (-19)))] [] (.one (.c (wK .u32 (((x * 2 ^ 13 % 2 ^ 32) % 2 ^ 32) ||| ((x / 2 ^ 19) % 2 ^ 32))))) [] :=
  fn0 S Tryz.func254 Tryz.call254 [] [] 428
    (show Good0 _ (.one (.c (wK .u32 (((x * 2 ^ 13 % 2 ^ 32) % 2 ^ 32) ||| ((x / 2 ^ 19) % 2 ^ 32))))) = (true = true ∧ (True) ∧ (.one (.c (wK .u32 (((x * 2 ^ 13 % 2 ^ 32) % 2 ^ 32) ||| ((x / 2 ^ 19) % 2 ^ 32)))) : AV) = .one (.c (wK .u32 (((x * 2 ^ 13 % 2 ^ 32) % 2 ^ 32) ||| ((x / 2 ^ 19) % 2 ^ 32))))) by kernel_rfl)
    ⟨rfl, trivial, rfl⟩ (by kernel_rfl)
theorem right19 (x : Nat)  : Con P 244 [.one (.c (wK .u32 x)), .one (.c (cI 19))] [] (.one (.c (wK .u32 (((x * 2 ^ 13 % 2 ^ 32) % 2 ^ 32) ||| ((x / 2 ^ 19) % 2 ^ 32))))) [] :=
  fn0 S Tryz.func244 Tryz.call244 [[(3, { call := some { res := .one (.c (wK .u32 (((x * 2 ^ 13 % 2 ^ 32) % 2 ^ 32) ||| ((x / 2 ^ 19) % 2 ^ 32)))) } })]] [] 412
    (show Good0 _ (.one (.c (wK .u32 (((x * 2 ^ 13 % 2 ^ 32) % 2 ^ 32) ||| ((x / 2 ^ 19) % 2 ^ 32))))) = (true = true ∧ ((Con P 254 [.one (.c (wK .u32 x)), .one (.c (cI (-19)))] [] (.one (.c (wK .u32 (((x * 2 ^ 13 % 2 ^ 32) % 2 ^ 32) ||| ((x / 2 ^ 19) % 2 ^ 32))))) []) ∧ True) ∧ (.one (.c (wK .u32 (((x * 2 ^ 13 % 2 ^ 32) % 2 ^ 32) ||| ((x / 2 ^ 19) % 2 ^ 32)))) : AV) = .one (.c (wK .u32 (((x * 2 ^ 13 % 2 ^ 32) % 2 ^ 32) ||| ((x / 2 ^ 19) % 2 ^ 32))))) by kernel_rfl)
    ⟨rfl, ⟨rot19 x, trivial⟩, rfl⟩ (by kernel_rfl)
theorem rot22 (x : Nat)  : Con P 254 [.one (.c (wK .u32 x)), .one (.c (cI (-22)))] [] (.one (.c (wK .u32 (((x * 2 ^ 10 % 2 ^ 32) % 2 ^ 32) ||| ((x / 2 ^ 22) % 2 ^ 32))))) [] :=
  fn0 S Tryz.func254 Tryz.call254 [] [] 428
    (show Good0 _ (.one (.c (wK .u32 (((x * 2 ^ 10 % 2 ^ 32) % 2 ^ 32) ||| ((x / 2 ^ 22) % 2 ^ 32))))) = (true = true ∧ (True) ∧ (.one (.c (wK .u32 (((x * 2 ^ 10 % 2 ^ 32) % 2 ^ 32) ||| ((x / 2 ^ 22) % 2 ^ 32)))) : AV) = .one (.c (wK .u32 (((x * 2 ^ 10 % 2 ^ 32) % 2 ^ 32) ||| ((x / 2 ^ 22) % 2 ^ 32))))) by kernel_rfl)
    ⟨rfl, trivial, rfl⟩ (by kernel_rfl)
theorem right22 (x : Nat)  : Con P 244 [.one (.c (wK .u32 x)), .one (.c (cI 22))] [] (.one (.c (wK .u32 (((x * 2 ^ 10 % 2 ^ 32) % 2 ^ 32) ||| ((x / 2 ^ 22) % 2 ^ 32))))) [] :=
  fn0 S Tryz.func244 Tryz.call244 [[(3, { call := some { res := .one (.c (wK .u32 (((x * 2 ^ 10 % 2 ^ 32) % 2 ^ 32) ||| ((x / 2 ^ 22) % 2 ^ 32)))) } })]] [] 412
    (show Good0 _ (.one (.c (wK .u32 (((x * 2 ^ 10 % 2 ^ 32) % 2 ^ 32) ||| ((x / 2 ^ 22) % 2 ^ 32))))) = (true = true ∧ ((Con P 254 [.one (.c (wK .u32 x)), .one (.c (cI (-22)))] [] (.one (.c (wK .u32 (((x * 2 ^ 10 % 2 ^ 32) % 2 ^ 32) ||| ((x / 2 ^ 22) % 2 ^ 32))))) []) ∧ True) ∧ (.one (.c (wK .u32 (((x * 2 ^ 10 % 2 ^ 32) % 2 ^ 32) ||| ((x / 2 ^ 22) % 2 ^ 32)))) : AV) = .one (.c (wK .u32 (((x * 2 ^ 10 % 2 ^ 32) % 2 ^ 32) ||| ((x / 2 ^ 22) % 2 ^ 32))))) by kernel_rfl)
    ⟨rfl, ⟨rot22 x, trivial⟩, rfl⟩ (by kernel_rfl)
theorem rot25 (x : Nat)  : Con P 254 [.one (.c (wK .u32 x)), .one (.c (cI (-25)))] [] (.one (.c (wK .u32 (((x * 2 ^ 7 % 2 ^ 32) % 2 ^ 32) ||| ((x / 2 ^ 25) % 2 ^ 32))))) [] :=
  fn0 S Tryz.func254 Tryz.call254 [] [] 428
    (show Good0 _ (.one (.c (wK .u32 (((x * 2 ^ 7 % 2 ^ 32) % 2 ^ 32) ||| ((x / 2 ^ 25) % 2 ^ 32))))) = (true = true ∧ (True) ∧ (.one (.c (wK .u32 (((x * 2 ^ 7 % 2 ^ 32) % 2 ^ 32) ||| ((x / 2 ^ 25) % 2 ^ 32)))) : AV) = .one (.c (wK .u32 (((x * 2 ^ 7 % 2 ^ 32) % 2 ^ 32) ||| ((x / 2 ^ 25) % 2 ^ 32))))) by kernel_rfl)
    ⟨rfl, trivial, rfl⟩ (by kernel_rfl)
theorem right25 (x : Nat)  : Con P 244 [.one (.c (wK .u32 x)), .one (.c (cI 25))] [] (.one (.c (wK .u32 (((x * 2 ^ 7 % 2 ^ 32) % 2 ^ 32) ||| ((x / 2 ^ 25) % 2 ^ 32))))) [] :=
  fn0 S Tryz.func244 Tryz.call244 [[(3, { call := some { res := .one (.c (wK .u32 (((x * 2 ^ 7 % 2 ^ 32) % 2 ^ 32) ||| ((x / 2 ^ 25) % 2 ^ 32)))) } })]] [] 412
    (show Good0 _ (.one (.c (wK .u32 (((x * 2 ^ 7 % 2 ^ 32) % 2 ^ 32) ||| ((x / 2 ^ 25) % 2 ^ 32))))) = (true = true ∧ ((Con P 254 [.one (.c (wK .u32 x)), .one (.c (cI (-25)))] [] (.one (.c (wK .u32 (((x * 2 ^ 7 % 2 ^ 32) % 2 ^ 32) ||| ((x / 2 ^ 25) % 2 ^ 32))))) []) ∧ True) ∧ (.one (.c (wK .u32 (((x * 2 ^ 7 % 2 ^ 32) % 2 ^ 32) ||| ((x / 2 ^ 25) % 2 ^ 32)))) : AV) = .one (.c (wK .u32 (((x * 2 ^ 7 % 2 ^ 32) % 2 ^ 32) ||| ((x / 2 ^ 25) % 2 ^ 32))))) by kernel_rfl)
    ⟨rfl, ⟨rot25 x, trivial⟩, rfl⟩ (by kernel_rfl)
theorem div64_p (l : Nat)  : Con P 223 [.one (.c (w64 0)), .one (.c (w64 l)), .one (.c (w64 786251))] [] (.tup [.c (w64 (l / 786251 % 2 ^ 64)), .c (w64 (l % 786251))]) [] :=
  fn0 S Tryz.func223 Tryz.call223 [] [false, false, true] 434
    (show Good0 _ (.tup [.c (w64 (l / 786251 % 2 ^ 64)), .c (w64 (l % 786251))]) = (true = true ∧ (True) ∧ (.tup [.c (w64 (l / 786251 % 2 ^ 64)), .c (w64 (l % 786251))] : AV) = .tup [.c (w64 (l / 786251 % 2 ^ 64)), .c (w64 (l % 786251))]) by kernel_rfl)
    ⟨rfl, trivial, rfl⟩ (by kernel_rfl)
theorem rem64_p (l : Nat)  : Con P 187 [.one (.c (w64 0)), .one (.c (w64 l)), .one (.c (w64 786251))] [] (.one (.c (w64 (l % 786251)))) [] :=
  fn0 S Tryz.func187 Tryz.call187 [[(5, { call := some { res := .tup [.c (w64 (l / 786251 % 2 ^ 64)), .c (w64 (l % 786251))] } })]] [] 428
    (show Good0 _ (.one (.c (w64 (l % 786251)))) = (true = true ∧ ((Con P 223 [.one (.c (w64 0)), .one (.c (w64 l)), .one (.c (w64 786251))] [] (.tup [.c (w64 (l / 786251 % 2 ^ 64)), .c (w64 (l % 786251))]) []) ∧ True) ∧ (.one (.c (w64 (l % 786251))) : AV) = .one (.c (w64 (l % 786251)))) by kernel_rfl)
    ⟨rfl, ⟨div64_p l, trivial⟩, rfl⟩ (by kernel_rfl)
def cur : AV := .one (.agg ([w64 786251, w64 65521, w64 12, w64 9723, w64 164643, cB false]))
end Go.Proofs.YtleefjclfljknabGreatDoor
