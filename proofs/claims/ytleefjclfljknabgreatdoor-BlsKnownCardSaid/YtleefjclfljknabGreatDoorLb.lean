/-
Contracts of leaf functions: what they come to, told by numbers; the table of them.
-/
import Derived.Test.YtleefjclfljknabGreatDoorLa
import Derived.Test.YtleefjclfljknabGreatDoorRx13
namespace Go.Proofs.YtleefjclfljknabGreatDoor
open Go.Rx

theorem m32 : (4294967295 % 2 ^ 64 : Nat) = 2 ^ 32 - 1 := by decide

theorem mask32' (x : Nat) (h : x < 2 ^ 64) : ((x % 2 ^ 64) &&& (4294967295 % 2 ^ 64)) = x % 2 ^ 32 := by
  rw [Nat.mod_eq_of_lt h, m32, Nat.and_two_pow_sub_one_eq_mod]

/-- The four partial products. -/
theorem mul_parts (x1 x0 y1 y0 : Nat) (h1 : x1 < 2 ^ 32) (h2 : x0 < 2 ^ 32) (h3 : y1 < 2 ^ 32) (h4 : y0 < 2 ^ 32) :
    (((x1 * y1 % 2 ^ 64 + (((x1 * y0 % 2 ^ 64 + (x0 * y0 % 2 ^ 64) / 2 ^ 32) % 2 ^ 64) / 2 ^ 32)) % 2 ^ 64) + ((((((x1 * y0 % 2 ^ 64 + (x0 * y0 % 2 ^ 64) / 2 ^ 32) % 2 ^ 64) % 2 ^ 32) + (x0 * y1 % 2 ^ 64)) % 2 ^ 64) / 2 ^ 32)) % 2 ^ 64 =
      (x1 * 2 ^ 32 + x0) * (y1 * 2 ^ 32 + y0) / 2 ^ 64 := by
  have b : ∀ u v : Nat, u < 2 ^ 32 → v < 2 ^ 32 → u * v ≤ (2 ^ 32 - 1) * (2 ^ 32 - 1) := fun u v hu hv => Nat.mul_le_mul (by omega) (by omega)
  have e : (x1 * 2 ^ 32 + x0) * (y1 * 2 ^ 32 + y0) = x1 * y1 * 2 ^ 64 + (x1 * y0 + x0 * y1) * 2 ^ 32 + x0 * y0 := by
    have h64 : (2 : Nat) ^ 64 = 2 ^ 32 * 2 ^ 32 := rfl
    rw [h64]
    generalize (2 : Nat) ^ 32 = B
    grind
  rw [e]
  have b1 := b x1 y1 h1 h3
  have b2 := b x1 y0 h1 h4
  have b3 := b x0 y1 h2 h3
  have b4 := b x0 y0 h2 h4
  generalize x1 * y1 = p at *
  generalize x1 * y0 = q at *
  generalize x0 * y1 = r at *
  generalize x0 * y0 = s at *
  omega

theorem mul64_full (x y : Nat) (hx : x < 2 ^ 64) (hy : y < 2 ^ 64) : Con P 186 [.one (.c (w64 x)), .one (.c (w64 y))] [] (.tup [.c (w64 (x * y / 2 ^ 64)), .c (w64 (x * y % 2 ^ 64))]) [] := by
  have h := mul64 x y
  rw [mask32' x hx, mask32' y hy] at h
  have hx1 : x / 2 ^ 32 < 2 ^ 32 := Nat.div_lt_of_lt_mul (by omega)
  have hy1 : y / 2 ^ 32 < 2 ^ 32 := Nat.div_lt_of_lt_mul (by omega)
  have hx0 : x % 2 ^ 32 < 2 ^ 32 := Nat.mod_lt _ (by decide)
  have hy0 : y % 2 ^ 32 < 2 ^ 32 := Nat.mod_lt _ (by decide)
  have hm : ∀ t : Nat, ((t % 2 ^ 64) % 2 ^ 64) &&& (4294967295 % 2 ^ 64) = (t % 2 ^ 64) % 2 ^ 32 := fun t => mask32' (t % 2 ^ 64) (Nat.mod_lt _ (by decide))
  rw [hm, mul_parts _ _ _ _ hx1 hx0 hy1 hy0, Nat.mul_comm (x / 2 ^ 32), Nat.div_add_mod, Nat.mul_comm (y / 2 ^ 32), Nat.div_add_mod] at h
  exact h

theorem mul64_small (x y : Nat) (hx : x < 2 ^ 32) (hy : y < 2 ^ 32) : Con P 186 [.one (.c (w64 x)), .one (.c (w64 y))] [] (.tup [.c (w64 0), .c (w64 (x * y))]) [] := by
  have h := mul64_full x y (by omega) (by omega)
  have hxy : x * y < 2 ^ 32 * 2 ^ 32 := Nat.mul_lt_mul'' hx hy
  rw [Nat.div_eq_of_lt (by omega), Nat.mod_eq_of_lt (by omega)] at h
  exact h

theorem lmul (a b : Nat) (ha : a < 2 ^ 32) (hb : b < 2 ^ 32)  : Con P 118 [cur, .one (.c (w64 a)), .one (.c (w64 b))] [] (.one (.c (w64 ((a * b) % 786251)))) [] :=
  fn0 S Tryz.func118 Tryz.call118 [[(2, { call := some { res := .tup [.c (w64 0), .c (w64 (a * b))] } })],
      [(4, { call := some { res := .one (.c (w64 ((a * b) % 786251))) } })]] [] 432
    (show Good0 _ (.one (.c (w64 ((a * b) % 786251)))) = (true = true ∧ ((Con P 186 [.one (.c (w64 a)), .one (.c (w64 b))] [] (.tup [.c (w64 0), .c (w64 (a * b))]) []) ∧ (Con P 187 [.one (.c (w64 0)), .one (.c (w64 (a * b))), .one (.c (w64 786251))] [] (.one (.c (w64 ((a * b) % 786251)))) []) ∧ True) ∧ (.one (.c (w64 ((a * b) % 786251))) : AV) = .one (.c (w64 ((a * b) % 786251)))) by kernel_rfl)
    ⟨rfl, ⟨mul64_small a b ha hb, rem64_p (a * b), trivial⟩, rfl⟩ (by kernel_rfl)
theorem ladd (a b : Nat)  : Con P 147 [cur, .one (.c (w64 a)), .one (.c (w64 b))] [] (.one (.c (w64 (((a + b) % 2 ^ 64) % 786251)))) [] :=
  fn0 S Tryz.func147 Tryz.call147 [] [] 418
    (show Good0 _ (.one (.c (w64 (((a + b) % 2 ^ 64) % 786251)))) = (true = true ∧ (True) ∧ (.one (.c (w64 (((a + b) % 2 ^ 64) % 786251))) : AV) = .one (.c (w64 (((a + b) % 2 ^ 64) % 786251)))) by kernel_rfl)
    ⟨rfl, trivial, rfl⟩ (by kernel_rfl)
theorem lsub (a b : Nat)  : Con P 117 [cur, .one (.c (w64 a)), .one (.c (w64 b))] [] (.one (.c (w64 (((((a + 786251) % 2 ^ 64) + (2 ^ 64 - b % 2 ^ 64)) % 2 ^ 64) % 786251)))) [] :=
  fn0 S Tryz.func117 Tryz.call117 [] [] 424
    (show Good0 _ (.one (.c (w64 (((((a + 786251) % 2 ^ 64) + (2 ^ 64 - b % 2 ^ 64)) % 2 ^ 64) % 786251)))) = (true = true ∧ (True) ∧ (.one (.c (w64 (((((a + 786251) % 2 ^ 64) + (2 ^ 64 - b % 2 ^ 64)) % 2 ^ 64) % 786251))) : AV) = .one (.c (w64 (((((a + 786251) % 2 ^ 64) + (2 ^ 64 - b % 2 ^ 64)) % 2 ^ 64) % 786251)))) by kernel_rfl)
    ⟨rfl, trivial, rfl⟩ (by kernel_rfl)
theorem len_lpowi : Con P 99 [.one (.c (w64 786249))] [] (.one (.c (cI 20))) [] :=
  (fnA (A := fun _ _ _ => none) S (fun _ _ _ _ _ h => by simp at h) (c := ⟨99, [.one (.c (w64 786249))], [], .one (.c (cI 20)), [], []⟩) Tryz.func99 (by kernel_rfl) Tryz.call99 [] 400 [] (by kernel_rfl) : CT.Holds P _)
def lpowi_1 (_a : Nat) : Nat := 1 * 1 % 786251
def lpowi_2 (a : Nat) : Nat := (lpowi_1 a) * a % 786251
def lpowi_3 (a : Nat) : Nat := (lpowi_2 a) ^ 2 % 786251
def lpowi_4 (a : Nat) : Nat := (lpowi_3 a) ^ 2 % 786251
def lpowi_5 (a : Nat) : Nat := (lpowi_4 a) * a % 786251
def lpowi_6 (a : Nat) : Nat := (lpowi_5 a) ^ 2 % 786251
def lpowi_7 (a : Nat) : Nat := (lpowi_6 a) * a % 786251
def lpowi_8 (a : Nat) : Nat := (lpowi_7 a) ^ 2 % 786251
def lpowi_9 (a : Nat) : Nat := (lpowi_8 a) * a % 786251
def lpowi_10 (a : Nat) : Nat := (lpowi_9 a) ^ 2 % 786251
def lpowi_11 (a : Nat) : Nat := (lpowi_10 a) * a % 786251
def lpowi_12 (a : Nat) : Nat := (lpowi_11 a) ^ 2 % 786251
def lpowi_13 (a : Nat) : Nat := (lpowi_12 a) * a % 786251
def lpowi_14 (a : Nat) : Nat := (lpowi_13 a) ^ 2 % 786251
def lpowi_15 (a : Nat) : Nat := (lpowi_14 a) * a % 786251
def lpowi_16 (a : Nat) : Nat := (lpowi_15 a) ^ 2 % 786251
def lpowi_17 (a : Nat) : Nat := (lpowi_16 a) * a % 786251
def lpowi_18 (a : Nat) : Nat := (lpowi_17 a) ^ 2 % 786251
def lpowi_19 (a : Nat) : Nat := (lpowi_18 a) * a % 786251
def lpowi_20 (a : Nat) : Nat := (lpowi_19 a) ^ 2 % 786251
def lpowi_21 (a : Nat) : Nat := (lpowi_20 a) * a % 786251
def lpowi_22 (a : Nat) : Nat := (lpowi_21 a) ^ 2 % 786251
def lpowi_23 (a : Nat) : Nat := (lpowi_22 a) * a % 786251
def lpowi_24 (a : Nat) : Nat := (lpowi_23 a) ^ 2 % 786251
def lpowi_25 (a : Nat) : Nat := (lpowi_24 a) ^ 2 % 786251
def lpowi_26 (a : Nat) : Nat := (lpowi_25 a) * a % 786251
def lpowi_27 (a : Nat) : Nat := (lpowi_26 a) ^ 2 % 786251
def lpowi_28 (a : Nat) : Nat := (lpowi_27 a) ^ 2 % 786251
def lpowi_29 (a : Nat) : Nat := (lpowi_28 a) ^ 2 % 786251
def lpowi_30 (a : Nat) : Nat := (lpowi_29 a) * a % 786251
def lpowi_31 (a : Nat) : Nat := (lpowi_30 a) ^ 2 % 786251
def lpowi_32 (a : Nat) : Nat := (lpowi_31 a) ^ 2 % 786251
def lpowi_33 (a : Nat) : Nat := (lpowi_32 a) ^ 2 % 786251
def lpowi_34 (a : Nat) : Nat := (lpowi_33 a) * a % 786251
theorem lpowi (a : Nat) (ha : a < 2 ^ 32)  : Con P 181 [cur, .one (.c (w64 a)), .one (.c (w64 786249))] [] (.one (.c (w64 (lpowi_34 a)))) [] :=
  fn0 S Tryz.func181 Tryz.call181 [[(1, { call := some { res := .one (.c (cI 20)) } })],
      [(3, { call := some { res := .one (.c (w64 (lpowi_1 a))) } })],
      [(3, { call := some { res := .one (.c (w64 (lpowi_2 a))) } })],
      [(3, { call := some { res := .one (.c (w64 (lpowi_3 a))) } })],
      [(3, { call := some { res := .one (.c (w64 (lpowi_4 a))) } })],
      [(3, { call := some { res := .one (.c (w64 (lpowi_5 a))) } })],
      [(3, { call := some { res := .one (.c (w64 (lpowi_6 a))) } })],
      [(3, { call := some { res := .one (.c (w64 (lpowi_7 a))) } })],
      [(3, { call := some { res := .one (.c (w64 (lpowi_8 a))) } })],
      [(3, { call := some { res := .one (.c (w64 (lpowi_9 a))) } })],
      [(3, { call := some { res := .one (.c (w64 (lpowi_10 a))) } })],
      [(3, { call := some { res := .one (.c (w64 (lpowi_11 a))) } })],
      [(3, { call := some { res := .one (.c (w64 (lpowi_12 a))) } })],
      [(3, { call := some { res := .one (.c (w64 (lpowi_13 a))) } })],
      [(3, { call := some { res := .one (.c (w64 (lpowi_14 a))) } })],
      [(3, { call := some { res := .one (.c (w64 (lpowi_15 a))) } })],
      [(3, { call := some { res := .one (.c (w64 (lpowi_16 a))) } })],
      [(3, { call := some { res := .one (.c (w64 (lpowi_17 a))) } })],
      [(3, { call := some { res := .one (.c (w64 (lpowi_18 a))) } })],
      [(3, { call := some { res := .one (.c (w64 (lpowi_19 a))) } })],
      [(3, { call := some { res := .one (.c (w64 (lpowi_20 a))) } })],
      [(3, { call := some { res := .one (.c (w64 (lpowi_21 a))) } })],
      [(3, { call := some { res := .one (.c (w64 (lpowi_22 a))) } })],
      [(3, { call := some { res := .one (.c (w64 (lpowi_23 a))) } })],
      [(3, { call := some { res := .one (.c (w64 (lpowi_24 a))) } })],
      [(3, { call := some { res := .one (.c (w64 (lpowi_25 a))) } })],
      [(3, { call := some { res := .one (.c (w64 (lpowi_26 a))) } })],
      [(3, { call := some { res := .one (.c (w64 (lpowi_27 a))) } })],
      [(3, { call := some { res := .one (.c (w64 (lpowi_28 a))) } })],
      [(3, { call := some { res := .one (.c (w64 (lpowi_29 a))) } })],
      [(3, { call := some { res := .one (.c (w64 (lpowi_30 a))) } })],
      [(3, { call := some { res := .one (.c (w64 (lpowi_31 a))) } })],
      [(3, { call := some { res := .one (.c (w64 (lpowi_32 a))) } })],
      [(3, { call := some { res := .one (.c (w64 (lpowi_33 a))) } })],
      [(3, { call := some { res := .one (.c (w64 (lpowi_34 a))) } })]] [true, true, true, false, true, true, true, true, true, true, true, true, true, true, true, true, true, true, true, true, true, true, true, true, true, false, true, true, true, false, true, false, true, true, true, false, true, false, true, true, false] 1162
    (show Good0 _ (.one (.c (w64 (lpowi_34 a)))) = (true = true ∧ ((Con P 99 [.one (.c (w64 786249))] [] (.one (.c (cI 20))) []) ∧ (Con P 118 [.one (.agg ([w64 786251, w64 65521, w64 12, w64 9723, w64 164643, cB false])), .one (.c (w64 1)), .one (.c (w64 1))] [] (.one (.c (w64 (lpowi_1 a)))) []) ∧ (Con P 118 [.one (.agg ([w64 786251, w64 65521, w64 12, w64 9723, w64 164643, cB false])), .one (.c (w64 (lpowi_1 a))), .one (.c (w64 a))] [] (.one (.c (w64 (lpowi_2 a)))) []) ∧ (Con P 118 [.one (.agg ([w64 786251, w64 65521, w64 12, w64 9723, w64 164643, cB false])), .one (.c (w64 (lpowi_2 a))), .one (.c (w64 (lpowi_2 a)))] [] (.one (.c (w64 (lpowi_3 a)))) []) ∧ (Con P 118 [.one (.agg ([w64 786251, w64 65521, w64 12, w64 9723, w64 164643, cB false])), .one (.c (w64 (lpowi_3 a))), .one (.c (w64 (lpowi_3 a)))] [] (.one (.c (w64 (lpowi_4 a)))) []) ∧ (Con P 118 [.one (.agg ([w64 786251, w64 65521, w64 12, w64 9723, w64 164643, cB false])), .one (.c (w64 (lpowi_4 a))), .one (.c (w64 a))] [] (.one (.c (w64 (lpowi_5 a)))) []) ∧ (Con P 118 [.one (.agg ([w64 786251, w64 65521, w64 12, w64 9723, w64 164643, cB false])), .one (.c (w64 (lpowi_5 a))), .one (.c (w64 (lpowi_5 a)))] [] (.one (.c (w64 (lpowi_6 a)))) []) ∧ (Con P 118 [.one (.agg ([w64 786251, w64 65521, w64 12, w64 9723, w64 164643, cB false])), .one (.c (w64 (lpowi_6 a))), .one (.c (w64 a))] [] (.one (.c (w64 (lpowi_7 a)))) []) ∧ (Con P 118 [.one (.agg ([w64 786251, w64 65521, w64 12, w64 9723, w64 164643, cB false])), .one (.c (w64 (lpowi_7 a))), .one (.c (w64 (lpowi_7 a)))] [] (.one (.c (w64 (lpowi_8 a)))) []) ∧ (Con P 118 [.one (.agg ([w64 786251, w64 65521, w64 12, w64 9723, w64 164643, cB false])), .one (.c (w64 (lpowi_8 a))), .one (.c (w64 a))] [] (.one (.c (w64 (lpowi_9 a)))) []) ∧ (Con P 118 [.one (.agg ([w64 786251, w64 65521, w64 12, w64 9723, w64 164643, cB false])), .one (.c (w64 (lpowi_9 a))), .one (.c (w64 (lpowi_9 a)))] [] (.one (.c (w64 (lpowi_10 a)))) []) ∧ (Con P 118 [.one (.agg ([w64 786251, w64 65521, w64 12, w64 9723, w64 164643, cB false])), .one (.c (w64 (lpowi_10 a))), .one (.c (w64 a))] [] (.one (.c (w64 (lpowi_11 a)))) []) ∧ (Con P 118 [.one (.agg ([w64 786251, w64 65521, w64 12, w64 9723, w64 164643, cB false])), .one (.c (w64 (lpowi_11 a))), .one (.c (w64 (lpowi_11 a)))] [] (.one (.c (w64 (lpowi_12 a)))) []) ∧ (Con P 118 [.one (.agg ([w64 786251, w64 65521, w64 12, w64 9723, w64 164643, cB false])), .one (.c (w64 (lpowi_12 a))), .one (.c (w64 a))] [] (.one (.c (w64 (lpowi_13 a)))) []) ∧ (Con P 118 [.one (.agg ([w64 786251, w64 65521, w64 12, w64 9723, w64 164643, cB false])), .one (.c (w64 (lpowi_13 a))), .one (.c (w64 (lpowi_13 a)))] [] (.one (.c (w64 (lpowi_14 a)))) []) ∧ (Con P 118 [.one (.agg ([w64 786251, w64 65521, w64 12, w64 9723, w64 164643, cB false])), .one (.c (w64 (lpowi_14 a))), .one (.c (w64 a))] [] (.one (.c (w64 (lpowi_15 a)))) []) ∧ (Con P 118 [.one (.agg ([w64 786251, w64 65521, w64 12, w64 9723, w64 164643, cB false])), .one (.c (w64 (lpowi_15 a))), .one (.c (w64 (lpowi_15 a)))] [] (.one (.c (w64 (lpowi_16 a)))) []) ∧ (Con P 118 [.one (.agg ([w64 786251, w64 65521, w64 12, w64 9723, w64 164643, cB false])), .one (.c (w64 (lpowi_16 a))), .one (.c (w64 a))] [] (.one (.c (w64 (lpowi_17 a)))) []) ∧ (Con P 118 [.one (.agg ([w64 786251, w64 65521, w64 12, w64 9723, w64 164643, cB false])), .one (.c (w64 (lpowi_17 a))), .one (.c (w64 (lpowi_17 a)))] [] (.one (.c (w64 (lpowi_18 a)))) []) ∧ (Con P 118 [.one (.agg ([w64 786251, w64 65521, w64 12, w64 9723, w64 164643, cB false])), .one (.c (w64 (lpowi_18 a))), .one (.c (w64 a))] [] (.one (.c (w64 (lpowi_19 a)))) []) ∧ (Con P 118 [.one (.agg ([w64 786251, w64 65521, w64 12, w64 9723, w64 164643, cB false])), .one (.c (w64 (lpowi_19 a))), .one (.c (w64 (lpowi_19 a)))] [] (.one (.c (w64 (lpowi_20 a)))) []) ∧ (Con P 118 [.one (.agg ([w64 786251, w64 65521, w64 12, w64 9723, w64 164643, cB false])), .one (.c (w64 (lpowi_20 a))), .one (.c (w64 a))] [] (.one (.c (w64 (lpowi_21 a)))) []) ∧ (Con P 118 [.one (.agg ([w64 786251, w64 65521, w64 12, w64 9723, w64 164643, cB false])), .one (.c (w64 (lpowi_21 a))), .one (.c (w64 (lpowi_21 a)))] [] (.one (.c (w64 (lpowi_22 a)))) []) ∧ (Con P 118 [.one (.agg ([w64 786251, w64 65521, w64 12, w64 9723, w64 164643, cB false])), .one (.c (w64 (lpowi_22 a))), .one (.c (w64 a))] [] (.one (.c (w64 (lpowi_23 a)))) []) ∧ (Con P 118 [.one (.agg ([w64 786251, w64 65521, w64 12, w64 9723, w64 164643, cB false])), .one (.c (w64 (lpowi_23 a))), .one (.c (w64 (lpowi_23 a)))] [] (.one (.c (w64 (lpowi_24 a)))) []) ∧ (Con P 118 [.one (.agg ([w64 786251, w64 65521, w64 12, w64 9723, w64 164643, cB false])), .one (.c (w64 (lpowi_24 a))), .one (.c (w64 (lpowi_24 a)))] [] (.one (.c (w64 (lpowi_25 a)))) []) ∧ (Con P 118 [.one (.agg ([w64 786251, w64 65521, w64 12, w64 9723, w64 164643, cB false])), .one (.c (w64 (lpowi_25 a))), .one (.c (w64 a))] [] (.one (.c (w64 (lpowi_26 a)))) []) ∧ (Con P 118 [.one (.agg ([w64 786251, w64 65521, w64 12, w64 9723, w64 164643, cB false])), .one (.c (w64 (lpowi_26 a))), .one (.c (w64 (lpowi_26 a)))] [] (.one (.c (w64 (lpowi_27 a)))) []) ∧ (Con P 118 [.one (.agg ([w64 786251, w64 65521, w64 12, w64 9723, w64 164643, cB false])), .one (.c (w64 (lpowi_27 a))), .one (.c (w64 (lpowi_27 a)))] [] (.one (.c (w64 (lpowi_28 a)))) []) ∧ (Con P 118 [.one (.agg ([w64 786251, w64 65521, w64 12, w64 9723, w64 164643, cB false])), .one (.c (w64 (lpowi_28 a))), .one (.c (w64 (lpowi_28 a)))] [] (.one (.c (w64 (lpowi_29 a)))) []) ∧ (Con P 118 [.one (.agg ([w64 786251, w64 65521, w64 12, w64 9723, w64 164643, cB false])), .one (.c (w64 (lpowi_29 a))), .one (.c (w64 a))] [] (.one (.c (w64 (lpowi_30 a)))) []) ∧ (Con P 118 [.one (.agg ([w64 786251, w64 65521, w64 12, w64 9723, w64 164643, cB false])), .one (.c (w64 (lpowi_30 a))), .one (.c (w64 (lpowi_30 a)))] [] (.one (.c (w64 (lpowi_31 a)))) []) ∧ (Con P 118 [.one (.agg ([w64 786251, w64 65521, w64 12, w64 9723, w64 164643, cB false])), .one (.c (w64 (lpowi_31 a))), .one (.c (w64 (lpowi_31 a)))] [] (.one (.c (w64 (lpowi_32 a)))) []) ∧ (Con P 118 [.one (.agg ([w64 786251, w64 65521, w64 12, w64 9723, w64 164643, cB false])), .one (.c (w64 (lpowi_32 a))), .one (.c (w64 (lpowi_32 a)))] [] (.one (.c (w64 (lpowi_33 a)))) []) ∧ (Con P 118 [.one (.agg ([w64 786251, w64 65521, w64 12, w64 9723, w64 164643, cB false])), .one (.c (w64 (lpowi_33 a))), .one (.c (w64 a))] [] (.one (.c (w64 (lpowi_34 a)))) []) ∧ True) ∧ (.one (.c (w64 (lpowi_34 a))) : AV) = .one (.c (w64 (lpowi_34 a)))) by kernel_rfl)
    ⟨rfl, ⟨len_lpowi, lmul 1 1 (by decide) (by decide), lmul (lpowi_1 a) a (Nat.lt_trans (Nat.mod_lt _ (by decide)) (by decide)) ha, (by have h := lmul (lpowi_2 a) (lpowi_2 a) (Nat.lt_trans (Nat.mod_lt _ (by decide)) (by decide)) (Nat.lt_trans (Nat.mod_lt _ (by decide)) (by decide)); rw [← Nat.pow_two] at h; exact h), (by have h := lmul (lpowi_3 a) (lpowi_3 a) (Nat.lt_trans (Nat.mod_lt _ (by decide)) (by decide)) (Nat.lt_trans (Nat.mod_lt _ (by decide)) (by decide)); rw [← Nat.pow_two] at h; exact h), lmul (lpowi_4 a) a (Nat.lt_trans (Nat.mod_lt _ (by decide)) (by decide)) ha, (by have h := lmul (lpowi_5 a) (lpowi_5 a) (Nat.lt_trans (Nat.mod_lt _ (by decide)) (by decide)) (Nat.lt_trans (Nat.mod_lt _ (by decide)) (by decide)); rw [← Nat.pow_two] at h; exact h), lmul (lpowi_6 a) a (Nat.lt_trans (Nat.mod_lt _ (by decide)) (by decide)) ha, (by have h := lmul (lpowi_7 a) (lpowi_7 a) (Nat.lt_trans (Nat.mod_lt _ (by decide)) (by decide)) (Nat.lt_trans (Nat.mod_lt _ (by decide)) (by decide)); rw [← Nat.pow_two] at h; exact h), lmul (lpowi_8 a) a (Nat.lt_trans (Nat.mod_lt _ (by decide)) (by decide)) ha, (by have h := lmul (lpowi_9 a) (lpowi_9 a) (Nat.lt_trans (Nat.mod_lt _ (by decide)) (by decide)) (Nat.lt_trans (Nat.mod_lt _ (by decide)) (by decide)); rw [← Nat.pow_two] at h; exact h), lmul (lpowi_10 a) a (Nat.lt_trans (Nat.mod_lt _ (by decide)) (by decide)) ha, (by have h := lmul (lpowi_11 a) (lpowi_11 a) (Nat.lt_trans (Nat.mod_lt _ (by decide)) (by decide)) (Nat.lt_trans (Nat.mod_lt _ (by decide)) (by decide)); rw [← Nat.pow_two] at h; exact h), lmul (lpowi_12 a) a (Nat.lt_trans (Nat.mod_lt _ (by decide)) (by decide)) ha, (by have h := lmul (lpowi_13 a) (lpowi_13 a) (Nat.lt_trans (Nat.mod_lt _ (by decide)) (by decide)) (Nat.lt_trans (Nat.mod_lt _ (by decide)) (by decide)); rw [← Nat.pow_two] at h; exact h), lmul (lpowi_14 a) a (Nat.lt_trans (Nat.mod_lt _ (by decide)) (by decide)) ha, (by have h := lmul (lpowi_15 a) (lpowi_15 a) (Nat.lt_trans (Nat.mod_lt _ (by decide)) (by decide)) (Nat.lt_trans (Nat.mod_lt _ (by decide)) (by decide)); rw [← Nat.pow_two] at h; exact h), lmul (lpowi_16 a) a (Nat.lt_trans (Nat.mod_lt _ (by decide)) (by decide)) ha, (by have h := lmul (lpowi_17 a) (lpowi_17 a) (Nat.lt_trans (Nat.mod_lt _ (by decide)) (by decide)) (Nat.lt_trans (Nat.mod_lt _ (by decide)) (by decide)); rw [← Nat.pow_two] at h; exact h), lmul (lpowi_18 a) a (Nat.lt_trans (Nat.mod_lt _ (by decide)) (by decide)) ha, (by have h := lmul (lpowi_19 a) (lpowi_19 a) (Nat.lt_trans (Nat.mod_lt _ (by decide)) (by decide)) (Nat.lt_trans (Nat.mod_lt _ (by decide)) (by decide)); rw [← Nat.pow_two] at h; exact h), lmul (lpowi_20 a) a (Nat.lt_trans (Nat.mod_lt _ (by decide)) (by decide)) ha, (by have h := lmul (lpowi_21 a) (lpowi_21 a) (Nat.lt_trans (Nat.mod_lt _ (by decide)) (by decide)) (Nat.lt_trans (Nat.mod_lt _ (by decide)) (by decide)); rw [← Nat.pow_two] at h; exact h), lmul (lpowi_22 a) a (Nat.lt_trans (Nat.mod_lt _ (by decide)) (by decide)) ha, (by have h := lmul (lpowi_23 a) (lpowi_23 a) (Nat.lt_trans (Nat.mod_lt _ (by decide)) (by decide)) (Nat.lt_trans (Nat.mod_lt _ (by decide)) (by decide)); rw [← Nat.pow_two] at h; exact h), (by have h := lmul (lpowi_24 a) (lpowi_24 a) (Nat.lt_trans (Nat.mod_lt _ (by decide)) (by decide)) (Nat.lt_trans (Nat.mod_lt _ (by decide)) (by decide)); rw [← Nat.pow_two] at h; exact h), lmul (lpowi_25 a) a (Nat.lt_trans (Nat.mod_lt _ (by decide)) (by decide)) ha, (by have h := lmul (lpowi_26 a) (lpowi_26 a) (Nat.lt_trans (Nat.mod_lt _ (by decide)) (by decide)) (Nat.lt_trans (Nat.mod_lt _ (by decide)) (by decide)); rw [← Nat.pow_two] at h; exact h), (by have h := lmul (lpowi_27 a) (lpowi_27 a) (Nat.lt_trans (Nat.mod_lt _ (by decide)) (by decide)) (Nat.lt_trans (Nat.mod_lt _ (by decide)) (by decide)); rw [← Nat.pow_two] at h; exact h), (by have h := lmul (lpowi_28 a) (lpowi_28 a) (Nat.lt_trans (Nat.mod_lt _ (by decide)) (by decide)) (Nat.lt_trans (Nat.mod_lt _ (by decide)) (by decide)); rw [← Nat.pow_two] at h; exact h), lmul (lpowi_29 a) a (Nat.lt_trans (Nat.mod_lt _ (by decide)) (by decide)) ha, (by have h := lmul (lpowi_30 a) (lpowi_30 a) (Nat.lt_trans (Nat.mod_lt _ (by decide)) (by decide)) (Nat.lt_trans (Nat.mod_lt _ (by decide)) (by decide)); rw [← Nat.pow_two] at h; exact h), (by have h := lmul (lpowi_31 a) (lpowi_31 a) (Nat.lt_trans (Nat.mod_lt _ (by decide)) (by decide)) (Nat.lt_trans (Nat.mod_lt _ (by decide)) (by decide)); rw [← Nat.pow_two] at h; exact h), (by have h := lmul (lpowi_32 a) (lpowi_32 a) (Nat.lt_trans (Nat.mod_lt _ (by decide)) (by decide)) (Nat.lt_trans (Nat.mod_lt _ (by decide)) (by decide)); rw [← Nat.pow_two] at h; exact h), lmul (lpowi_33 a) a (Nat.lt_trans (Nat.mod_lt _ (by decide)) (by decide)) ha, trivial⟩, rfl⟩ (by kernel_rfl)
theorem len_lpowr : Con P 99 [.one (.c (w64 196563))] [] (.one (.c (cI 18))) [] :=
  (fnA (A := fun _ _ _ => none) S (fun _ _ _ _ _ h => by simp at h) (c := ⟨99, [.one (.c (w64 196563))], [], .one (.c (cI 18)), [], []⟩) Tryz.func99 (by kernel_rfl) Tryz.call99 [] 400 [] (by kernel_rfl) : CT.Holds P _)
def lpowr_1 (_a : Nat) : Nat := 1 * 1 % 786251
def lpowr_2 (a : Nat) : Nat := (lpowr_1 a) * a % 786251
def lpowr_3 (a : Nat) : Nat := (lpowr_2 a) ^ 2 % 786251
def lpowr_4 (a : Nat) : Nat := (lpowr_3 a) ^ 2 % 786251
def lpowr_5 (a : Nat) : Nat := (lpowr_4 a) * a % 786251
def lpowr_6 (a : Nat) : Nat := (lpowr_5 a) ^ 2 % 786251
def lpowr_7 (a : Nat) : Nat := (lpowr_6 a) * a % 786251
def lpowr_8 (a : Nat) : Nat := (lpowr_7 a) ^ 2 % 786251
def lpowr_9 (a : Nat) : Nat := (lpowr_8 a) * a % 786251
def lpowr_10 (a : Nat) : Nat := (lpowr_9 a) ^ 2 % 786251
def lpowr_11 (a : Nat) : Nat := (lpowr_10 a) * a % 786251
def lpowr_12 (a : Nat) : Nat := (lpowr_11 a) ^ 2 % 786251
def lpowr_13 (a : Nat) : Nat := (lpowr_12 a) * a % 786251
def lpowr_14 (a : Nat) : Nat := (lpowr_13 a) ^ 2 % 786251
def lpowr_15 (a : Nat) : Nat := (lpowr_14 a) * a % 786251
def lpowr_16 (a : Nat) : Nat := (lpowr_15 a) ^ 2 % 786251
def lpowr_17 (a : Nat) : Nat := (lpowr_16 a) * a % 786251
def lpowr_18 (a : Nat) : Nat := (lpowr_17 a) ^ 2 % 786251
def lpowr_19 (a : Nat) : Nat := (lpowr_18 a) * a % 786251
def lpowr_20 (a : Nat) : Nat := (lpowr_19 a) ^ 2 % 786251
def lpowr_21 (a : Nat) : Nat := (lpowr_20 a) * a % 786251
def lpowr_22 (a : Nat) : Nat := (lpowr_21 a) ^ 2 % 786251
def lpowr_23 (a : Nat) : Nat := (lpowr_22 a) * a % 786251
def lpowr_24 (a : Nat) : Nat := (lpowr_23 a) ^ 2 % 786251
def lpowr_25 (a : Nat) : Nat := (lpowr_24 a) ^ 2 % 786251
def lpowr_26 (a : Nat) : Nat := (lpowr_25 a) * a % 786251
def lpowr_27 (a : Nat) : Nat := (lpowr_26 a) ^ 2 % 786251
def lpowr_28 (a : Nat) : Nat := (lpowr_27 a) ^ 2 % 786251
def lpowr_29 (a : Nat) : Nat := (lpowr_28 a) ^ 2 % 786251
def lpowr_30 (a : Nat) : Nat := (lpowr_29 a) * a % 786251
def lpowr_31 (a : Nat) : Nat := (lpowr_30 a) ^ 2 % 786251
def lpowr_32 (a : Nat) : Nat := (lpowr_31 a) * a % 786251
theorem lpowr (a : Nat) (ha : a < 2 ^ 32)  : Con P 181 [cur, .one (.c (w64 a)), .one (.c (w64 196563))] [] (.one (.c (w64 (lpowr_32 a)))) [] :=
  fn0 S Tryz.func181 Tryz.call181 [[(1, { call := some { res := .one (.c (cI 18)) } })],
      [(3, { call := some { res := .one (.c (w64 (lpowr_1 a))) } })],
      [(3, { call := some { res := .one (.c (w64 (lpowr_2 a))) } })],
      [(3, { call := some { res := .one (.c (w64 (lpowr_3 a))) } })],
      [(3, { call := some { res := .one (.c (w64 (lpowr_4 a))) } })],
      [(3, { call := some { res := .one (.c (w64 (lpowr_5 a))) } })],
      [(3, { call := some { res := .one (.c (w64 (lpowr_6 a))) } })],
      [(3, { call := some { res := .one (.c (w64 (lpowr_7 a))) } })],
      [(3, { call := some { res := .one (.c (w64 (lpowr_8 a))) } })],
      [(3, { call := some { res := .one (.c (w64 (lpowr_9 a))) } })],
      [(3, { call := some { res := .one (.c (w64 (lpowr_10 a))) } })],
      [(3, { call := some { res := .one (.c (w64 (lpowr_11 a))) } })],
      [(3, { call := some { res := .one (.c (w64 (lpowr_12 a))) } })],
      [(3, { call := some { res := .one (.c (w64 (lpowr_13 a))) } })],
      [(3, { call := some { res := .one (.c (w64 (lpowr_14 a))) } })],
      [(3, { call := some { res := .one (.c (w64 (lpowr_15 a))) } })],
      [(3, { call := some { res := .one (.c (w64 (lpowr_16 a))) } })],
      [(3, { call := some { res := .one (.c (w64 (lpowr_17 a))) } })],
      [(3, { call := some { res := .one (.c (w64 (lpowr_18 a))) } })],
      [(3, { call := some { res := .one (.c (w64 (lpowr_19 a))) } })],
      [(3, { call := some { res := .one (.c (w64 (lpowr_20 a))) } })],
      [(3, { call := some { res := .one (.c (w64 (lpowr_21 a))) } })],
      [(3, { call := some { res := .one (.c (w64 (lpowr_22 a))) } })],
      [(3, { call := some { res := .one (.c (w64 (lpowr_23 a))) } })],
      [(3, { call := some { res := .one (.c (w64 (lpowr_24 a))) } })],
      [(3, { call := some { res := .one (.c (w64 (lpowr_25 a))) } })],
      [(3, { call := some { res := .one (.c (w64 (lpowr_26 a))) } })],
      [(3, { call := some { res := .one (.c (w64 (lpowr_27 a))) } })],
      [(3, { call := some { res := .one (.c (w64 (lpowr_28 a))) } })],
      [(3, { call := some { res := .one (.c (w64 (lpowr_29 a))) } })],
      [(3, { call := some { res := .one (.c (w64 (lpowr_30 a))) } })],
      [(3, { call := some { res := .one (.c (w64 (lpowr_31 a))) } })],
      [(3, { call := some { res := .one (.c (w64 (lpowr_32 a))) } })]] [true, true, true, false, true, true, true, true, true, true, true, true, true, true, true, true, true, true, true, true, true, true, true, true, true, false, true, true, true, false, true, false, true, true, true, true, false] 1102
    (show Good0 _ (.one (.c (w64 (lpowr_32 a)))) = (true = true ∧ ((Con P 99 [.one (.c (w64 196563))] [] (.one (.c (cI 18))) []) ∧ (Con P 118 [.one (.agg ([w64 786251, w64 65521, w64 12, w64 9723, w64 164643, cB false])), .one (.c (w64 1)), .one (.c (w64 1))] [] (.one (.c (w64 (lpowr_1 a)))) []) ∧ (Con P 118 [.one (.agg ([w64 786251, w64 65521, w64 12, w64 9723, w64 164643, cB false])), .one (.c (w64 (lpowr_1 a))), .one (.c (w64 a))] [] (.one (.c (w64 (lpowr_2 a)))) []) ∧ (Con P 118 [.one (.agg ([w64 786251, w64 65521, w64 12, w64 9723, w64 164643, cB false])), .one (.c (w64 (lpowr_2 a))), .one (.c (w64 (lpowr_2 a)))] [] (.one (.c (w64 (lpowr_3 a)))) []) ∧ (Con P 118 [.one (.agg ([w64 786251, w64 65521, w64 12, w64 9723, w64 164643, cB false])), .one (.c (w64 (lpowr_3 a))), .one (.c (w64 (lpowr_3 a)))] [] (.one (.c (w64 (lpowr_4 a)))) []) ∧ (Con P 118 [.one (.agg ([w64 786251, w64 65521, w64 12, w64 9723, w64 164643, cB false])), .one (.c (w64 (lpowr_4 a))), .one (.c (w64 a))] [] (.one (.c (w64 (lpowr_5 a)))) []) ∧ (Con P 118 [.one (.agg ([w64 786251, w64 65521, w64 12, w64 9723, w64 164643, cB false])), .one (.c (w64 (lpowr_5 a))), .one (.c (w64 (lpowr_5 a)))] [] (.one (.c (w64 (lpowr_6 a)))) []) ∧ (Con P 118 [.one (.agg ([w64 786251, w64 65521, w64 12, w64 9723, w64 164643, cB false])), .one (.c (w64 (lpowr_6 a))), .one (.c (w64 a))] [] (.one (.c (w64 (lpowr_7 a)))) []) ∧ (Con P 118 [.one (.agg ([w64 786251, w64 65521, w64 12, w64 9723, w64 164643, cB false])), .one (.c (w64 (lpowr_7 a))), .one (.c (w64 (lpowr_7 a)))] [] (.one (.c (w64 (lpowr_8 a)))) []) ∧ (Con P 118 [.one (.agg ([w64 786251, w64 65521, w64 12, w64 9723, w64 164643, cB false])), .one (.c (w64 (lpowr_8 a))), .one (.c (w64 a))] [] (.one (.c (w64 (lpowr_9 a)))) []) ∧ (Con P 118 [.one (.agg ([w64 786251, w64 65521, w64 12, w64 9723, w64 164643, cB false])), .one (.c (w64 (lpowr_9 a))), .one (.c (w64 (lpowr_9 a)))] [] (.one (.c (w64 (lpowr_10 a)))) []) ∧ (Con P 118 [.one (.agg ([w64 786251, w64 65521, w64 12, w64 9723, w64 164643, cB false])), .one (.c (w64 (lpowr_10 a))), .one (.c (w64 a))] [] (.one (.c (w64 (lpowr_11 a)))) []) ∧ (Con P 118 [.one (.agg ([w64 786251, w64 65521, w64 12, w64 9723, w64 164643, cB false])), .one (.c (w64 (lpowr_11 a))), .one (.c (w64 (lpowr_11 a)))] [] (.one (.c (w64 (lpowr_12 a)))) []) ∧ (Con P 118 [.one (.agg ([w64 786251, w64 65521, w64 12, w64 9723, w64 164643, cB false])), .one (.c (w64 (lpowr_12 a))), .one (.c (w64 a))] [] (.one (.c (w64 (lpowr_13 a)))) []) ∧ (Con P 118 [.one (.agg ([w64 786251, w64 65521, w64 12, w64 9723, w64 164643, cB false])), .one (.c (w64 (lpowr_13 a))), .one (.c (w64 (lpowr_13 a)))] [] (.one (.c (w64 (lpowr_14 a)))) []) ∧ (Con P 118 [.one (.agg ([w64 786251, w64 65521, w64 12, w64 9723, w64 164643, cB false])), .one (.c (w64 (lpowr_14 a))), .one (.c (w64 a))] [] (.one (.c (w64 (lpowr_15 a)))) []) ∧ (Con P 118 [.one (.agg ([w64 786251, w64 65521, w64 12, w64 9723, w64 164643, cB false])), .one (.c (w64 (lpowr_15 a))), .one (.c (w64 (lpowr_15 a)))] [] (.one (.c (w64 (lpowr_16 a)))) []) ∧ (Con P 118 [.one (.agg ([w64 786251, w64 65521, w64 12, w64 9723, w64 164643, cB false])), .one (.c (w64 (lpowr_16 a))), .one (.c (w64 a))] [] (.one (.c (w64 (lpowr_17 a)))) []) ∧ (Con P 118 [.one (.agg ([w64 786251, w64 65521, w64 12, w64 9723, w64 164643, cB false])), .one (.c (w64 (lpowr_17 a))), .one (.c (w64 (lpowr_17 a)))] [] (.one (.c (w64 (lpowr_18 a)))) []) ∧ (Con P 118 [.one (.agg ([w64 786251, w64 65521, w64 12, w64 9723, w64 164643, cB false])), .one (.c (w64 (lpowr_18 a))), .one (.c (w64 a))] [] (.one (.c (w64 (lpowr_19 a)))) []) ∧ (Con P 118 [.one (.agg ([w64 786251, w64 65521, w64 12, w64 9723, w64 164643, cB false])), .one (.c (w64 (lpowr_19 a))), .one (.c (w64 (lpowr_19 a)))] [] (.one (.c (w64 (lpowr_20 a)))) []) ∧ (Con P 118 [.one (.agg ([w64 786251, w64 65521, w64 12, w64 9723, w64 164643, cB false])), .one (.c (w64 (lpowr_20 a))), .one (.c (w64 a))] [] (.one (.c (w64 (lpowr_21 a)))) []) ∧ (Con P 118 [.one (.agg ([w64 786251, w64 65521, w64 12, w64 9723, w64 164643, cB false])), .one (.c (w64 (lpowr_21 a))), .one (.c (w64 (lpowr_21 a)))] [] (.one (.c (w64 (lpowr_22 a)))) []) ∧ (Con P 118 [.one (.agg ([w64 786251, w64 65521, w64 12, w64 9723, w64 164643, cB false])), .one (.c (w64 (lpowr_22 a))), .one (.c (w64 a))] [] (.one (.c (w64 (lpowr_23 a)))) []) ∧ (Con P 118 [.one (.agg ([w64 786251, w64 65521, w64 12, w64 9723, w64 164643, cB false])), .one (.c (w64 (lpowr_23 a))), .one (.c (w64 (lpowr_23 a)))] [] (.one (.c (w64 (lpowr_24 a)))) []) ∧ (Con P 118 [.one (.agg ([w64 786251, w64 65521, w64 12, w64 9723, w64 164643, cB false])), .one (.c (w64 (lpowr_24 a))), .one (.c (w64 (lpowr_24 a)))] [] (.one (.c (w64 (lpowr_25 a)))) []) ∧ (Con P 118 [.one (.agg ([w64 786251, w64 65521, w64 12, w64 9723, w64 164643, cB false])), .one (.c (w64 (lpowr_25 a))), .one (.c (w64 a))] [] (.one (.c (w64 (lpowr_26 a)))) []) ∧ (Con P 118 [.one (.agg ([w64 786251, w64 65521, w64 12, w64 9723, w64 164643, cB false])), .one (.c (w64 (lpowr_26 a))), .one (.c (w64 (lpowr_26 a)))] [] (.one (.c (w64 (lpowr_27 a)))) []) ∧ (Con P 118 [.one (.agg ([w64 786251, w64 65521, w64 12, w64 9723, w64 164643, cB false])), .one (.c (w64 (lpowr_27 a))), .one (.c (w64 (lpowr_27 a)))] [] (.one (.c (w64 (lpowr_28 a)))) []) ∧ (Con P 118 [.one (.agg ([w64 786251, w64 65521, w64 12, w64 9723, w64 164643, cB false])), .one (.c (w64 (lpowr_28 a))), .one (.c (w64 (lpowr_28 a)))] [] (.one (.c (w64 (lpowr_29 a)))) []) ∧ (Con P 118 [.one (.agg ([w64 786251, w64 65521, w64 12, w64 9723, w64 164643, cB false])), .one (.c (w64 (lpowr_29 a))), .one (.c (w64 a))] [] (.one (.c (w64 (lpowr_30 a)))) []) ∧ (Con P 118 [.one (.agg ([w64 786251, w64 65521, w64 12, w64 9723, w64 164643, cB false])), .one (.c (w64 (lpowr_30 a))), .one (.c (w64 (lpowr_30 a)))] [] (.one (.c (w64 (lpowr_31 a)))) []) ∧ (Con P 118 [.one (.agg ([w64 786251, w64 65521, w64 12, w64 9723, w64 164643, cB false])), .one (.c (w64 (lpowr_31 a))), .one (.c (w64 a))] [] (.one (.c (w64 (lpowr_32 a)))) []) ∧ True) ∧ (.one (.c (w64 (lpowr_32 a))) : AV) = .one (.c (w64 (lpowr_32 a)))) by kernel_rfl)
    ⟨rfl, ⟨len_lpowr, lmul 1 1 (by decide) (by decide), lmul (lpowr_1 a) a (Nat.lt_trans (Nat.mod_lt _ (by decide)) (by decide)) ha, (by have h := lmul (lpowr_2 a) (lpowr_2 a) (Nat.lt_trans (Nat.mod_lt _ (by decide)) (by decide)) (Nat.lt_trans (Nat.mod_lt _ (by decide)) (by decide)); rw [← Nat.pow_two] at h; exact h), (by have h := lmul (lpowr_3 a) (lpowr_3 a) (Nat.lt_trans (Nat.mod_lt _ (by decide)) (by decide)) (Nat.lt_trans (Nat.mod_lt _ (by decide)) (by decide)); rw [← Nat.pow_two] at h; exact h), lmul (lpowr_4 a) a (Nat.lt_trans (Nat.mod_lt _ (by decide)) (by decide)) ha, (by have h := lmul (lpowr_5 a) (lpowr_5 a) (Nat.lt_trans (Nat.mod_lt _ (by decide)) (by decide)) (Nat.lt_trans (Nat.mod_lt _ (by decide)) (by decide)); rw [← Nat.pow_two] at h; exact h), lmul (lpowr_6 a) a (Nat.lt_trans (Nat.mod_lt _ (by decide)) (by decide)) ha, (by have h := lmul (lpowr_7 a) (lpowr_7 a) (Nat.lt_trans (Nat.mod_lt _ (by decide)) (by decide)) (Nat.lt_trans (Nat.mod_lt _ (by decide)) (by decide)); rw [← Nat.pow_two] at h; exact h), lmul (lpowr_8 a) a (Nat.lt_trans (Nat.mod_lt _ (by decide)) (by decide)) ha, (by have h := lmul (lpowr_9 a) (lpowr_9 a) (Nat.lt_trans (Nat.mod_lt _ (by decide)) (by decide)) (Nat.lt_trans (Nat.mod_lt _ (by decide)) (by decide)); rw [← Nat.pow_two] at h; exact h), lmul (lpowr_10 a) a (Nat.lt_trans (Nat.mod_lt _ (by decide)) (by decide)) ha, (by have h := lmul (lpowr_11 a) (lpowr_11 a) (Nat.lt_trans (Nat.mod_lt _ (by decide)) (by decide)) (Nat.lt_trans (Nat.mod_lt _ (by decide)) (by decide)); rw [← Nat.pow_two] at h; exact h), lmul (lpowr_12 a) a (Nat.lt_trans (Nat.mod_lt _ (by decide)) (by decide)) ha, (by have h := lmul (lpowr_13 a) (lpowr_13 a) (Nat.lt_trans (Nat.mod_lt _ (by decide)) (by decide)) (Nat.lt_trans (Nat.mod_lt _ (by decide)) (by decide)); rw [← Nat.pow_two] at h; exact h), lmul (lpowr_14 a) a (Nat.lt_trans (Nat.mod_lt _ (by decide)) (by decide)) ha, (by have h := lmul (lpowr_15 a) (lpowr_15 a) (Nat.lt_trans (Nat.mod_lt _ (by decide)) (by decide)) (Nat.lt_trans (Nat.mod_lt _ (by decide)) (by decide)); rw [← Nat.pow_two] at h; exact h), lmul (lpowr_16 a) a (Nat.lt_trans (Nat.mod_lt _ (by decide)) (by decide)) ha, (by have h := lmul (lpowr_17 a) (lpowr_17 a) (Nat.lt_trans (Nat.mod_lt _ (by decide)) (by decide)) (Nat.lt_trans (Nat.mod_lt _ (by decide)) (by decide)); rw [← Nat.pow_two] at h; exact h), lmul (lpowr_18 a) a (Nat.lt_trans (Nat.mod_lt _ (by decide)) (by decide)) ha, (by have h := lmul (lpowr_19 a) (lpowr_19 a) (Nat.lt_trans (Nat.mod_lt _ (by decide)) (by decide)) (Nat.lt_trans (Nat.mod_lt _ (by decide)) (by decide)); rw [← Nat.pow_two] at h; exact h), lmul (lpowr_20 a) a (Nat.lt_trans (Nat.mod_lt _ (by decide)) (by decide)) ha, (by have h := lmul (lpowr_21 a) (lpowr_21 a) (Nat.lt_trans (Nat.mod_lt _ (by decide)) (by decide)) (Nat.lt_trans (Nat.mod_lt _ (by decide)) (by decide)); rw [← Nat.pow_two] at h; exact h), lmul (lpowr_22 a) a (Nat.lt_trans (Nat.mod_lt _ (by decide)) (by decide)) ha, (by have h := lmul (lpowr_23 a) (lpowr_23 a) (Nat.lt_trans (Nat.mod_lt _ (by decide)) (by decide)) (Nat.lt_trans (Nat.mod_lt _ (by decide)) (by decide)); rw [← Nat.pow_two] at h; exact h), (by have h := lmul (lpowr_24 a) (lpowr_24 a) (Nat.lt_trans (Nat.mod_lt _ (by decide)) (by decide)) (Nat.lt_trans (Nat.mod_lt _ (by decide)) (by decide)); rw [← Nat.pow_two] at h; exact h), lmul (lpowr_25 a) a (Nat.lt_trans (Nat.mod_lt _ (by decide)) (by decide)) ha, (by have h := lmul (lpowr_26 a) (lpowr_26 a) (Nat.lt_trans (Nat.mod_lt _ (by decide)) (by decide)) (Nat.lt_trans (Nat.mod_lt _ (by decide)) (by decide)); rw [← Nat.pow_two] at h; exact h), (by have h := lmul (lpowr_27 a) (lpowr_27 a) (Nat.lt_trans (Nat.mod_lt _ (by decide)) (by decide)) (Nat.lt_trans (Nat.mod_lt _ (by decide)) (by decide)); rw [← Nat.pow_two] at h; exact h), (by have h := lmul (lpowr_28 a) (lpowr_28 a) (Nat.lt_trans (Nat.mod_lt _ (by decide)) (by decide)) (Nat.lt_trans (Nat.mod_lt _ (by decide)) (by decide)); rw [← Nat.pow_two] at h; exact h), lmul (lpowr_29 a) a (Nat.lt_trans (Nat.mod_lt _ (by decide)) (by decide)) ha, (by have h := lmul (lpowr_30 a) (lpowr_30 a) (Nat.lt_trans (Nat.mod_lt _ (by decide)) (by decide)) (Nat.lt_trans (Nat.mod_lt _ (by decide)) (by decide)); rw [← Nat.pow_two] at h; exact h), lmul (lpowr_31 a) a (Nat.lt_trans (Nat.mod_lt _ (by decide)) (by decide)) ha, trivial⟩, rfl⟩ (by kernel_rfl)
theorem linv (a : Nat) (ha : a < 2 ^ 32)  : Con P 185 [cur, .one (.c (w64 a))] [] (.one (.c (w64 (lpowi_34 a)))) [] :=
  fn0 S Tryz.func185 Tryz.call185 [[(5, { call := some { res := .one (.c (w64 (lpowi_34 a))) } })]] [] 418
    (show Good0 _ (.one (.c (w64 (lpowi_34 a)))) = (true = true ∧ ((Con P 181 [.one (.agg ([w64 786251, w64 65521, w64 12, w64 9723, w64 164643, cB false])), .one (.c (w64 a)), .one (.c (w64 786249))] [] (.one (.c (w64 (lpowi_34 a)))) []) ∧ True) ∧ (.one (.c (w64 (lpowi_34 a))) : AV) = .one (.c (w64 (lpowi_34 a)))) by kernel_rfl)
    ⟨rfl, ⟨lpowi a ha, trivial⟩, rfl⟩ (by kernel_rfl)
theorem ltimes2 (a0 a1 b0 b1 : Nat) (ha0 : a0 < 2 ^ 32) (ha1 : a1 < 2 ^ 32) (hb0 : b0 < 2 ^ 32) (hb1 : b1 < 2 ^ 32)  : Con P 146 [cur, .one (.agg ([w64 a0, w64 a1])), .one (.agg ([w64 b0, w64 b1]))] [] (.one (.agg ([w64 (((((((a0 * b0) % 786251) + 786251) % 2 ^ 64) + (2 ^ 64 - ((a1 * b1) % 786251) % 2 ^ 64)) % 2 ^ 64) % 786251), w64 (((((a0 * b1) % 786251) + ((a1 * b0) % 786251)) % 2 ^ 64) % 786251)]))) [] :=
  fn0 S Tryz.func146 Tryz.call146 [[(6, { call := some { res := .one (.c (w64 ((a0 * b0) % 786251))) } }), (12, { call := some { res := .one (.c (w64 ((a1 * b1) % 786251))) } }), (13, { call := some { res := .one (.c (w64 (((((((a0 * b0) % 786251) + 786251) % 2 ^ 64) + (2 ^ 64 - ((a1 * b1) % 786251) % 2 ^ 64)) % 2 ^ 64) % 786251))) } }), (20, { call := some { res := .one (.c (w64 ((a0 * b1) % 786251))) } }), (26, { call := some { res := .one (.c (w64 ((a1 * b0) % 786251))) } }), (27, { call := some { res := .one (.c (w64 (((((a0 * b1) % 786251) + ((a1 * b0) % 786251)) % 2 ^ 64) % 786251))) } })]] [] 468
    (show Good0 _ (.one (.agg ([w64 (((((((a0 * b0) % 786251) + 786251) % 2 ^ 64) + (2 ^ 64 - ((a1 * b1) % 786251) % 2 ^ 64)) % 2 ^ 64) % 786251), w64 (((((a0 * b1) % 786251) + ((a1 * b0) % 786251)) % 2 ^ 64) % 786251)]))) = (true = true ∧ ((Con P 118 [.one (.agg ([w64 786251, w64 65521, w64 12, w64 9723, w64 164643, cB false])), .one (.c (w64 a0)), .one (.c (w64 b0))] [] (.one (.c (w64 ((a0 * b0) % 786251)))) []) ∧ (Con P 118 [.one (.agg ([w64 786251, w64 65521, w64 12, w64 9723, w64 164643, cB false])), .one (.c (w64 a1)), .one (.c (w64 b1))] [] (.one (.c (w64 ((a1 * b1) % 786251)))) []) ∧ (Con P 117 [.one (.agg ([w64 786251, w64 65521, w64 12, w64 9723, w64 164643, cB false])), .one (.c (w64 ((a0 * b0) % 786251))), .one (.c (w64 ((a1 * b1) % 786251)))] [] (.one (.c (w64 (((((((a0 * b0) % 786251) + 786251) % 2 ^ 64) + (2 ^ 64 - ((a1 * b1) % 786251) % 2 ^ 64)) % 2 ^ 64) % 786251)))) []) ∧ (Con P 118 [.one (.agg ([w64 786251, w64 65521, w64 12, w64 9723, w64 164643, cB false])), .one (.c (w64 a0)), .one (.c (w64 b1))] [] (.one (.c (w64 ((a0 * b1) % 786251)))) []) ∧ (Con P 118 [.one (.agg ([w64 786251, w64 65521, w64 12, w64 9723, w64 164643, cB false])), .one (.c (w64 a1)), .one (.c (w64 b0))] [] (.one (.c (w64 ((a1 * b0) % 786251)))) []) ∧ (Con P 147 [.one (.agg ([w64 786251, w64 65521, w64 12, w64 9723, w64 164643, cB false])), .one (.c (w64 ((a0 * b1) % 786251))), .one (.c (w64 ((a1 * b0) % 786251)))] [] (.one (.c (w64 (((((a0 * b1) % 786251) + ((a1 * b0) % 786251)) % 2 ^ 64) % 786251)))) []) ∧ True) ∧ (.one (.agg ([w64 (((((((a0 * b0) % 786251) + 786251) % 2 ^ 64) + (2 ^ 64 - ((a1 * b1) % 786251) % 2 ^ 64)) % 2 ^ 64) % 786251), w64 (((((a0 * b1) % 786251) + ((a1 * b0) % 786251)) % 2 ^ 64) % 786251)])) : AV) = .one (.agg ([w64 (((((((a0 * b0) % 786251) + 786251) % 2 ^ 64) + (2 ^ 64 - ((a1 * b1) % 786251) % 2 ^ 64)) % 2 ^ 64) % 786251), w64 (((((a0 * b1) % 786251) + ((a1 * b0) % 786251)) % 2 ^ 64) % 786251)]))) by kernel_rfl)
    ⟨rfl, ⟨lmul a0 b0 ha0 hb0, lmul a1 b1 ha1 hb1, lsub ((a0 * b0) % 786251) ((a1 * b1) % 786251), lmul a0 b1 ha0 hb1, lmul a1 b0 ha1 hb0, ladd ((a0 * b1) % 786251) ((a1 * b0) % 786251), trivial⟩, rfl⟩ (by kernel_rfl)

/-! ### The table -/

def u64of : Cell → Nat
  | .sc (.int .u64 (.ofNat n)) => n
  | _ => 18446744073709551616

theorem u64of_spec {c : Cell} (h : u64of c < 2 ^ 64) : c = w64 (u64of c) := by
  unfold u64of at h ⊢
  split
  · rfl
  · simp at h

/-- A word handed in. -/
def a64 : AV → Nat
  | .one (.c c) => u64of c
  | _ => 18446744073709551616

theorem a64_spec {a : AV} (h : a64 a < 2 ^ 64) : a = .one (.c (w64 (a64 a))) := by
  unfold a64 at h ⊢
  split at h
  · rw [← u64of_spec h]
  · simp at h

/-- Six words as a number. -/
def num6 : AV → Option Nat
  | .one (.agg [c0, c1, c2, c3, c4, c5]) =>
    match Nat.blt (u64of c0) 18446744073709551616 && (Nat.blt (u64of c1) 18446744073709551616 && (Nat.blt (u64of c2) 18446744073709551616 && (Nat.blt (u64of c3) 18446744073709551616 && (Nat.blt (u64of c4) 18446744073709551616 && Nat.blt (u64of c5) 18446744073709551616)))) with
    | true => some (u64of c0 + 2 ^ 64 * (u64of c1 + 2 ^ 64 * (u64of c2 + 2 ^ 64 * (u64of c3 + 2 ^ 64 * (u64of c4 + 2 ^ 64 * u64of c5)))))
    | false => none
  | _ => none

theorem wd_zero (x y : Nat) (h : x < 2 ^ 64) : wd (x + 2 ^ 64 * y) 0 = x := by
  simp only [wd, Nat.mul_zero, Nat.pow_zero, Nat.div_one]
  omega

theorem wd_succ (x y i : Nat) (h : x < 2 ^ 64) : wd (x + 2 ^ 64 * y) (i + 1) = wd y i := by
  unfold wd
  rw [Nat.mul_add, Nat.mul_one, Nat.add_comm (64 * i), Nat.pow_add, ← Nat.div_div_eq_div_mul]
  have : (x + 2 ^ 64 * y) / 2 ^ 64 = y := by omega
  rw [this]

theorem num6_spec {a : AV} {n : Nat} (h : num6 a = some n) : a = aN n := by
  unfold num6 at h
  split at h
  · rename_i c0 c1 c2 c3 c4 c5
    split at h
    · rename_i hb
      simp only [Bool.and_eq_true, Nat.blt_eq] at hb
      obtain ⟨h0, h1, h2, h3, h4, h5⟩ := hb
      simp only [Option.some.injEq] at h
      subst h
      have e0 := u64of_spec h0
      have e1 := u64of_spec h1
      have e2 := u64of_spec h2
      have e3 := u64of_spec h3
      have e4 := u64of_spec h4
      have e5 := u64of_spec h5
      unfold aN cN
      rw [wd_zero _ _ h0, wd_succ _ _ _ h0, wd_zero _ _ h1, wd_succ _ _ _ h0, wd_succ _ _ _ h1, wd_zero _ _ h2, wd_succ _ _ _ h0, wd_succ _ _ _ h1, wd_succ _ _ _ h2, wd_zero _ _ h3,
        wd_succ _ _ _ h0, wd_succ _ _ _ h1, wd_succ _ _ _ h2, wd_succ _ _ _ h3, wd_zero _ _ h4, wd_succ _ _ _ h0, wd_succ _ _ _ h1, wd_succ _ _ _ h2, wd_succ _ _ _ h3, wd_succ _ _ _ h4]
      have : wd (u64of c5) 0 = u64of c5 := by
        simp only [wd, Nat.mul_zero, Nat.pow_zero, Nat.div_one]
        exact Nat.mod_eq_of_lt h5
      rw [this, ← e0, ← e1, ← e2, ← e3, ← e4, ← e5]
    · simp at h
  · simp at h

def bit01 : AV → Option Nat
  | .one (.c (.sc (.int .u64 (.ofNat 0)))) => some 0
  | .one (.c (.sc (.int .u64 (.ofNat 1)))) => some 1
  | _ => none

theorem bit01_spec {a : AV} {n : Nat} (h : bit01 a = some n) : a = .one (.c (w64 n)) ∧ n ≤ 1 := by
  unfold bit01 at h
  split at h <;> simp only [Option.some.injEq, reduceCtorEq] at h <;> subst h <;> exact ⟨rfl, by decide⟩

def res (r : AV) : Option CallH := some { res := r }

/-- What the row's own arithmetic is asked of: the little curve's numbers. -/
def isCur : AV → Bool
  | .one (.agg [.sc (.int .u64 (.ofNat p)), .sc (.int .u64 (.ofNat r)), .sc (.int .u64 (.ofNat c)), .sc (.int .u64 (.ofNat x)), .sc (.int .u64 (.ofNat y)), .sc (.bool false)]) =>
    Nat.beq p 786251 && (Nat.beq r 65521 && (Nat.beq c 12 && (Nat.beq x 9723 && Nat.beq y 164643)))
  | _ => false

theorem isCur_spec {a : AV} (h : isCur a = true) : a = cur := by
  unfold isCur at h
  split at h
  · simp only [Bool.and_eq_true, Nat.beq_eq] at h
    obtain ⟨rfl, rfl, rfl, rfl, rfl⟩ := h
    rfl
  · simp at h

def lt64 (n : Nat) : Bool := Nat.blt n 18446744073709551616
def lt32 (n : Nat) : Bool := Nat.blt n 4294967296
theorem lt64_spec {n : Nat} (h : lt64 n = true) : n < 2 ^ 64 := by simpa [lt64, Nat.blt_eq] using h
theorem lt32_spec {n : Nat} (h : lt32 n = true) : n < 2 ^ 32 := by simpa [lt32, Nat.blt_eq] using h

def aMul64 : List AV → Option CallH
  | [x, y] => match lt64 (a64 x) && lt64 (a64 y) with
    | true => res (.tup [.c (w64 (a64 x * a64 y / 2 ^ 64)), .c (w64 (a64 x * a64 y % 2 ^ 64))])
    | false => none
  | _ => none
def aAdd64 : List AV → Option CallH
  | [x, y, c] => match lt64 (a64 x) && lt64 (a64 y), bit01 c with
    | true, some n => res (.tup [.c (w64 ((a64 x + a64 y + n) % 2 ^ 64)), .c (w64 ((a64 x + a64 y + n) / 2 ^ 64))])
    | _, _ => none
  | _ => none
def aSub64 : List AV → Option CallH
  | [x, y, c] => match lt64 (a64 x) && lt64 (a64 y), bit01 c with
    | true, some n => res (.tup [.c (w64 ((a64 x + 2 ^ 64 - a64 y - n) % 2 ^ 64)), .c (w64 (if a64 x < a64 y + n then 1 else 0))])
    | _, _ => none
  | _ => none
def aLMul : List AV → Option CallH
  | [c, x, y] => match isCur c && (lt32 (a64 x) && lt32 (a64 y)) with
    | true => res (.one (.c (w64 (a64 x * a64 y % 786251))))
    | false => none
  | _ => none
def aLAdd : List AV → Option CallH
  | [c, x, y] => match isCur c && (lt32 (a64 x) && lt32 (a64 y)) with
    | true => res (.one (.c (w64 ((a64 x + a64 y) % 2 ^ 64 % 786251))))
    | false => none
  | _ => none
def aLSub : List AV → Option CallH
  | [c, x, y] => match isCur c && (lt32 (a64 x) && lt32 (a64 y)) with
    | true => res (.one (.c (w64 ((((a64 x + 786251) % 2 ^ 64) + (2 ^ 64 - a64 y % 2 ^ 64)) % 2 ^ 64 % 786251))))
    | false => none
  | _ => none
def aLPow : List AV → Option CallH
  | [c, x, y] => match isCur c && lt32 (a64 x) with
    | true => match y with
      | .one (.c (.sc (.int .u64 (.ofNat n)))) =>
        match Nat.beq n 786249, Nat.beq n 196563 with
        | true, _ => res (.one (.c (w64 ((lpowi_34 (a64 x))))))
        | false, true => res (.one (.c (w64 ((lpowr_32 (a64 x))))))
        | false, false => none
      | _ => none
    | false => none
  | _ => none
def aLInv : List AV → Option CallH
  | [c, x] => match isCur c && lt32 (a64 x) with
    | true => res (.one (.c (w64 ((lpowi_34 (a64 x))))))
    | false => none
  | _ => none
def aLTimes2 : List AV → Option CallH
  | [c, .one (.agg [a0, a1]), .one (.agg [b0, b1])] => match isCur c && (lt32 (u64of a0) && (lt32 (u64of a1) && (lt32 (u64of b0) && lt32 (u64of b1)))) with
    | true => res ((.one (.agg ([w64 ((((((((u64of a0) * (u64of b0)) % 786251) + 786251) % 2 ^ 64) + (2 ^ 64 - (((u64of a1) * (u64of b1)) % 786251) % 2 ^ 64)) % 2 ^ 64) % 786251), w64 ((((((u64of a0) * (u64of b1)) % 786251) + (((u64of a1) * (u64of b0)) % 786251)) % 2 ^ 64) % 786251)]))))
    | false => none
  | _ => none
def aWSub : List AV → Option CallH
  | [x, y] => match num6 x, num6 y with
    | some a, some b => res (.tup [.agg (cN (sub6 a b)), .c (cB (bw a b 6 == 1))])
    | _, _ => none
  | _ => none
def aShift : List AV → Option CallH
  | [x, .one (.c (.sc (.int .i64 (.ofNat 1))))] => match num6 x with
    | some a => res ((.one (.agg ([w64 ((wd a 0) * 2 ^ 1 % 2 ^ 64), w64 ((((wd a 1) * 2 ^ 1 % 2 ^ 64) % 2 ^ 64) ||| (((wd a 0) / 2 ^ 63) % 2 ^ 64)), w64 ((((wd a 2) * 2 ^ 1 % 2 ^ 64) % 2 ^ 64) ||| (((wd a 1) / 2 ^ 63) % 2 ^ 64)), w64 ((((wd a 3) * 2 ^ 1 % 2 ^ 64) % 2 ^ 64) ||| (((wd a 2) / 2 ^ 63) % 2 ^ 64)), w64 ((((wd a 4) * 2 ^ 1 % 2 ^ 64) % 2 ^ 64) ||| (((wd a 3) / 2 ^ 63) % 2 ^ 64)), w64 ((((wd a 5) * 2 ^ 1 % 2 ^ 64) % 2 ^ 64) ||| (((wd a 4) / 2 ^ 63) % 2 ^ 64))]))))
    | none => none
  | _ => none
def rot (x n m : Nat) : AV := .one (.c (wK .u32 (((x * 2 ^ m % 2 ^ 32) % 2 ^ 32) ||| ((x / 2 ^ n) % 2 ^ 32))))
def aRight : List AV → Option CallH
  | [.one (.c (.sc (.int .u32 (.ofNat x)))), .one (.c (.sc (.int .i64 (.ofNat n))))] =>
    match n with
    | 2 => res (rot x 2 30)
    | 3 => res (rot x 3 29)
    | 6 => res (rot x 6 26)
    | 7 => res (rot x 7 25)
    | 10 => res (rot x 10 22)
    | 11 => res (rot x 11 21)
    | 13 => res (rot x 13 19)
    | 17 => res (rot x 17 15)
    | 18 => res (rot x 18 14)
    | 19 => res (rot x 19 13)
    | 22 => res (rot x 22 10)
    | 25 => res (rot x 25 7)
    | _ => none
  | _ => none
def aLess (m : Mem) : List AV → Option CallH
  | [.one (.c (.ptr b 0)), x] => match num6 x, m[b]? with
    | some a, some (some blk) =>
      match blk with
      | ⟨c0 :: c1 :: c2 :: c3 :: c4 :: c5 :: l :: v, _ty, false, .exact, none⟩ =>
        match num6 (.one (.agg [c0, c1, c2, c3, c4, c5])), num6 (.one (.agg v)), lt64 (u64of l) with
        | some n, some _, true => some { res := .one (.agg (bif bw a n 6 == 1 then cN a else cN (sub6 a n))), foot := [b], mem := [blk], keep := [true] }
        | _, _, _ => none
      | _ => none
    | _, _ => none
  | _ => none

noncomputable def auto : Auto := fun k args m =>
  bif Nat.beq k 244 then aRight args else
  bif Nat.beq k 118 then aLMul args else
  bif Nat.beq k 186 then aMul64 args else
  bif Nat.beq k 188 then aAdd64 args else
  bif Nat.beq k 117 then aLSub args else
  bif Nat.beq k 147 then aLAdd args else
  bif Nat.beq k 177 then aLess m args else
  bif Nat.beq k 146 then aLTimes2 args else
  bif Nat.beq k 185 then aLInv args else
  bif Nat.beq k 110 then aShift args else
  bif Nat.beq k 190 then aSub64 args else
  bif Nat.beq k 219 then aWSub args else
  bif Nat.beq k 181 then aLPow args else none

def OkL (k : FuncId) (f : List AV → Option CallH) : Prop := ∀ args c, f args = some c → c.foot = [] ∧ c.mem = [] ∧ Con P k args [] c.res []

theorem fillK_nil (ks : List Bool) (bs : List Blk) : fillK ks bs [] = [] := by
  have := fillK_length ks bs []
  simpa using this

theorem OkL.ok {k : FuncId} {f : List AV → Option CallH} (h : OkL k f) (args : List AV) (m : Mem) (c : CallH) (bs : List Blk) (e : f args = some c) (hb : lookB m c.foot = some bs) (ha : args.all (AV.inB c.foot) = true) :
    Con P k (args.map (AV.ren (posIn c.foot))) (bs.map (Blk.ren (posIn c.foot))) c.res (fillK c.keep (bs.map (Blk.ren (posIn c.foot))) c.mem) := by
  obtain ⟨h1, h2, h3⟩ := h args c e
  rw [h1] at hb ha
  simp only [lookB, Option.some.injEq] at hb
  subst hb
  rw [h2, avs_no ha, fillK_nil]
  exact h3

theorem okMul64 : OkL 186 aMul64 := by
  intro args c h
  unfold aMul64 res at h
  split at h <;> try (simp only [reduceCtorEq] at h; done)
  rename_i x y
  split at h <;> try (simp only [reduceCtorEq] at h; done)
  rename_i hb
  simp only [Bool.and_eq_true] at hb
  simp only [Option.some.injEq] at h
  subst h
  have h1 := lt64_spec hb.1
  have h2 := lt64_spec hb.2
  refine ⟨rfl, rfl, ?_⟩
  have := mul64_full _ _ h1 h2
  rw [← a64_spec h1, ← a64_spec h2] at this
  exact this

theorem okAdd64 : OkL 188 aAdd64 := by
  intro args c h
  unfold aAdd64 res at h
  split at h <;> try (simp only [reduceCtorEq] at h; done)
  rename_i x y z
  split at h <;> try (simp only [reduceCtorEq] at h; done)
  rename_i n hb hn
  simp only [Bool.and_eq_true] at hb
  simp only [Option.some.injEq] at h
  subst h
  have h1 := lt64_spec hb.1
  have h2 := lt64_spec hb.2
  obtain ⟨rfl, h3⟩ := bit01_spec hn
  refine ⟨rfl, rfl, ?_⟩
  have := add64_raw EAdd64 (a64 x) (a64 y) n h3
  unfold natAV at this
  rw [← a64_spec h1, ← a64_spec h2] at this
  exact this

theorem okSub64 : OkL 190 aSub64 := by
  intro args c h
  unfold aSub64 res at h
  split at h <;> try (simp only [reduceCtorEq] at h; done)
  rename_i x y z
  split at h <;> try (simp only [reduceCtorEq] at h; done)
  rename_i n hb hn
  simp only [Bool.and_eq_true] at hb
  simp only [Option.some.injEq] at h
  subst h
  have h1 := lt64_spec hb.1
  have h2 := lt64_spec hb.2
  obtain ⟨rfl, h3⟩ := bit01_spec hn
  refine ⟨rfl, rfl, ?_⟩
  have := sub64_raw ESub64 (a64 x) (a64 y) n h3
  unfold natAV at this
  rw [← a64_spec h1, ← a64_spec h2] at this
  exact this

theorem okLMul : OkL 118 aLMul := by
  intro args c h
  unfold aLMul res at h
  split at h <;> try (simp only [reduceCtorEq] at h; done)
  rename_i d x y
  split at h <;> try (simp only [reduceCtorEq] at h; done)
  rename_i hb
  simp only [Bool.and_eq_true] at hb
  simp only [Option.some.injEq] at h
  subst h
  have h1 := lt32_spec hb.2.1
  have h2 := lt32_spec hb.2.2
  refine ⟨rfl, rfl, ?_⟩
  have := lmul _ _ h1 h2
  rw [← a64_spec (show a64 x < 2 ^ 64 by omega), ← a64_spec (show a64 y < 2 ^ 64 by omega), ← isCur_spec hb.1] at this
  exact this

theorem okLAdd : OkL 147 aLAdd := by
  intro args c h
  unfold aLAdd res at h
  split at h <;> try (simp only [reduceCtorEq] at h; done)
  rename_i d x y
  split at h <;> try (simp only [reduceCtorEq] at h; done)
  rename_i hb
  simp only [Bool.and_eq_true] at hb
  simp only [Option.some.injEq] at h
  subst h
  have h1 := lt32_spec hb.2.1
  have h2 := lt32_spec hb.2.2
  refine ⟨rfl, rfl, ?_⟩
  have := ladd (a64 x) (a64 y)
  rw [← a64_spec (show a64 x < 2 ^ 64 by omega), ← a64_spec (show a64 y < 2 ^ 64 by omega), ← isCur_spec hb.1] at this
  exact this

theorem okLSub : OkL 117 aLSub := by
  intro args c h
  unfold aLSub res at h
  split at h <;> try (simp only [reduceCtorEq] at h; done)
  rename_i d x y
  split at h <;> try (simp only [reduceCtorEq] at h; done)
  rename_i hb
  simp only [Bool.and_eq_true] at hb
  simp only [Option.some.injEq] at h
  subst h
  have h1 := lt32_spec hb.2.1
  have h2 := lt32_spec hb.2.2
  refine ⟨rfl, rfl, ?_⟩
  have := lsub (a64 x) (a64 y)
  rw [← a64_spec (show a64 x < 2 ^ 64 by omega), ← a64_spec (show a64 y < 2 ^ 64 by omega), ← isCur_spec hb.1] at this
  exact this

theorem okLPow : OkL 181 aLPow := by
  intro args c h
  unfold aLPow res at h
  split at h <;> try (simp only [reduceCtorEq] at h; done)
  rename_i d x y
  split at h <;> try (simp only [reduceCtorEq] at h; done)
  rename_i hb
  simp only [Bool.and_eq_true] at hb
  have h1 := lt32_spec hb.2
  split at h <;> try (simp only [reduceCtorEq] at h; done)
  rename_i n
  split at h
  · rename_i hn
    rw [Nat.beq_eq] at hn
    subst hn
    simp only [Option.some.injEq] at h
    subst h
    refine ⟨rfl, rfl, ?_⟩
    have := lpowi _ h1
    rw [← a64_spec (show a64 x < 2 ^ 64 by omega), ← isCur_spec hb.1] at this
    exact this
  · rename_i hn
    rw [Nat.beq_eq] at hn
    subst hn
    simp only [Option.some.injEq] at h
    subst h
    refine ⟨rfl, rfl, ?_⟩
    have := lpowr _ h1
    rw [← a64_spec (show a64 x < 2 ^ 64 by omega), ← isCur_spec hb.1] at this
    exact this
  · simp only [reduceCtorEq] at h

theorem okLInv : OkL 185 aLInv := by
  intro args c h
  unfold aLInv res at h
  split at h <;> try (simp only [reduceCtorEq] at h; done)
  rename_i d x
  split at h <;> try (simp only [reduceCtorEq] at h; done)
  rename_i hb
  simp only [Bool.and_eq_true] at hb
  have h1 := lt32_spec hb.2
  simp only [Option.some.injEq] at h
  subst h
  refine ⟨rfl, rfl, ?_⟩
  have := linv _ h1
  rw [← a64_spec (show a64 x < 2 ^ 64 by omega), ← isCur_spec hb.1] at this
  exact this

theorem okLTimes2 : OkL 146 aLTimes2 := by
  intro args c h
  unfold aLTimes2 res at h
  split at h <;> try (simp only [reduceCtorEq] at h; done)
  rename_i d a0 a1 b0 b1
  split at h <;> try (simp only [reduceCtorEq] at h; done)
  rename_i hb
  simp only [Bool.and_eq_true] at hb
  have h1 := lt32_spec hb.2.1
  have h2 := lt32_spec hb.2.2.1
  have h3 := lt32_spec hb.2.2.2.1
  have h4 := lt32_spec hb.2.2.2.2
  simp only [Option.some.injEq] at h
  subst h
  refine ⟨rfl, rfl, ?_⟩
  have := ltimes2 _ _ _ _ h1 h2 h3 h4
  rw [← u64of_spec (show u64of a0 < 2 ^ 64 by omega), ← u64of_spec (show u64of a1 < 2 ^ 64 by omega), ← u64of_spec (show u64of b0 < 2 ^ 64 by omega), ← u64of_spec (show u64of b1 < 2 ^ 64 by omega), ← isCur_spec hb.1] at this
  exact this

theorem okWSub : OkL 219 aWSub := by
  intro args c h
  unfold aWSub res at h
  split at h <;> try (simp only [reduceCtorEq] at h; done)
  split at h <;> try (simp only [reduceCtorEq] at h; done)
  rename_i a b ha hb
  simp only [Option.some.injEq] at h
  subst h
  refine ⟨rfl, rfl, ?_⟩
  rw [num6_spec ha, num6_spec hb]
  exact wsub a b

theorem okShift : OkL 110 aShift := by
  intro args c h
  unfold aShift res at h
  split at h <;> try (simp only [reduceCtorEq] at h; done)
  split at h <;> try (simp only [reduceCtorEq] at h; done)
  rename_i a ha
  simp only [Option.some.injEq] at h
  subst h
  refine ⟨rfl, rfl, ?_⟩
  rw [num6_spec ha]
  exact shift1 a

theorem okRight : OkL 244 aRight := by
  intro args c h
  unfold aRight res at h
  split at h <;> try (simp only [reduceCtorEq] at h; done)
  rename_i x n
  split at h <;> simp only [Option.some.injEq, reduceCtorEq] at h <;> subst h
  · exact ⟨rfl, rfl, right2 x⟩
  · exact ⟨rfl, rfl, right3 x⟩
  · exact ⟨rfl, rfl, right6 x⟩
  · exact ⟨rfl, rfl, right7 x⟩
  · exact ⟨rfl, rfl, right10 x⟩
  · exact ⟨rfl, rfl, right11 x⟩
  · exact ⟨rfl, rfl, right13 x⟩
  · exact ⟨rfl, rfl, right17 x⟩
  · exact ⟨rfl, rfl, right18 x⟩
  · exact ⟨rfl, rfl, right19 x⟩
  · exact ⟨rfl, rfl, right22 x⟩
  · exact ⟨rfl, rfl, right25 x⟩

theorem okLess (m : Mem) (args : List AV) (c : CallH) (bs : List Blk) (h : aLess m args = some c) (hb : lookB m c.foot = some bs) :
    Con P 177 (args.map (AV.ren (posIn c.foot))) (bs.map (Blk.ren (posIn c.foot))) c.res (fillK c.keep (bs.map (Blk.ren (posIn c.foot))) c.mem) := by
  unfold aLess at h
  split at h <;> try (simp only [reduceCtorEq] at h; done)
  rename_i b x
  split at h <;> try (simp only [reduceCtorEq] at h; done)
  rename_i a blk hx hblk
  split at h <;> try (simp only [reduceCtorEq] at h; done)
  rename_i c0 c1 c2 c3 c4 c5 l v ty
  split at h <;> try (simp only [reduceCtorEq] at h; done)
  rename_i n v' hn hv hl
  simp only [Option.some.injEq] at h
  subst h
  simp only [lookB, hblk, Option.some.injEq] at hb
  subst hb
  have e1 := num6_spec hx
  have e2 := num6_spec hn
  have e3 := num6_spec hv
  have e4 := u64of_spec (lt64_spec hl)
  have f2 : [c0, c1, c2, c3, c4, c5] = cN n := by simpa [aN] using e2
  have f3 : v = cN v' := by simpa [aN] using e3
  have f : c0 :: c1 :: c2 :: c3 :: c4 :: c5 :: l :: v = cN n ++ ([w64 (u64of l)] ++ cN v') := by
    rw [← f2, ← f3, ← e4]
    rfl
  rw [f, e1]
  have hp : posIn [b] b = 0 := by simp [posIn]
  have hmem : ∀ g, Blk.ren g ⟨cN n ++ ([w64 (u64of l)] ++ cN v'), ty, false, .exact, none⟩ = ⟨cN n ++ ([w64 (u64of l)] ++ cN v'), ty, false, .exact, none⟩ := by
    intro g
    rfl
  simp only [List.map_cons, List.map_nil, hmem, fillK]
  have ha : ∀ g, AV.ren g (aN a) = aN a := fun g => rfl
  have hptr : AV.ren (posIn [b]) (.one (.c (.ptr b 0))) = .one (.c (.ptr 0 0)) := by simp [AV.ren, V0.ren, Cell.ren, hp]
  rw [ha, hptr]
  cases hbw : (bw a n 6 == 1) with
  | true =>
    simp only [cond_true]
    exact less_lt a n (u64of l) v' ty (by rw [hbw]; rfl)
  | false =>
    simp only [cond_false]
    exact less_ge a n (u64of l) v' ty (by rw [hbw]; rfl)

theorem autoOk : AutoOk P auto := by
  intro k args m c bs h hb ha
  unfold auto at h
  cases hk244 : Nat.beq k 244 with
  | true =>
    rw [hk244, cond_true] at h
    rw [Nat.beq_eq] at hk244
    subst hk244
    exact okRight.ok args m c bs h hb ha
  | false =>
    rw [hk244, cond_false] at h
    cases hk118 : Nat.beq k 118 with
    | true =>
      rw [hk118, cond_true] at h
      rw [Nat.beq_eq] at hk118
      subst hk118
      exact okLMul.ok args m c bs h hb ha
    | false =>
      rw [hk118, cond_false] at h
      cases hk186 : Nat.beq k 186 with
      | true =>
        rw [hk186, cond_true] at h
        rw [Nat.beq_eq] at hk186
        subst hk186
        exact okMul64.ok args m c bs h hb ha
      | false =>
        rw [hk186, cond_false] at h
        cases hk188 : Nat.beq k 188 with
        | true =>
          rw [hk188, cond_true] at h
          rw [Nat.beq_eq] at hk188
          subst hk188
          exact okAdd64.ok args m c bs h hb ha
        | false =>
          rw [hk188, cond_false] at h
          cases hk117 : Nat.beq k 117 with
          | true =>
            rw [hk117, cond_true] at h
            rw [Nat.beq_eq] at hk117
            subst hk117
            exact okLSub.ok args m c bs h hb ha
          | false =>
            rw [hk117, cond_false] at h
            cases hk147 : Nat.beq k 147 with
            | true =>
              rw [hk147, cond_true] at h
              rw [Nat.beq_eq] at hk147
              subst hk147
              exact okLAdd.ok args m c bs h hb ha
            | false =>
              rw [hk147, cond_false] at h
              cases hk177 : Nat.beq k 177 with
              | true =>
                rw [hk177, cond_true] at h
                rw [Nat.beq_eq] at hk177
                subst hk177
                exact okLess m args c bs h hb
              | false =>
                rw [hk177, cond_false] at h
                cases hk146 : Nat.beq k 146 with
                | true =>
                  rw [hk146, cond_true] at h
                  rw [Nat.beq_eq] at hk146
                  subst hk146
                  exact okLTimes2.ok args m c bs h hb ha
                | false =>
                  rw [hk146, cond_false] at h
                  cases hk185 : Nat.beq k 185 with
                  | true =>
                    rw [hk185, cond_true] at h
                    rw [Nat.beq_eq] at hk185
                    subst hk185
                    exact okLInv.ok args m c bs h hb ha
                  | false =>
                    rw [hk185, cond_false] at h
                    cases hk110 : Nat.beq k 110 with
                    | true =>
                      rw [hk110, cond_true] at h
                      rw [Nat.beq_eq] at hk110
                      subst hk110
                      exact okShift.ok args m c bs h hb ha
                    | false =>
                      rw [hk110, cond_false] at h
                      cases hk190 : Nat.beq k 190 with
                      | true =>
                        rw [hk190, cond_true] at h
                        rw [Nat.beq_eq] at hk190
                        subst hk190
                        exact okSub64.ok args m c bs h hb ha
                      | false =>
                        rw [hk190, cond_false] at h
                        cases hk219 : Nat.beq k 219 with
                        | true =>
                          rw [hk219, cond_true] at h
                          rw [Nat.beq_eq] at hk219
                          subst hk219
                          exact okWSub.ok args m c bs h hb ha
                        | false =>
                          rw [hk219, cond_false] at h
                          cases hk181 : Nat.beq k 181 with
                          | true =>
                            rw [hk181, cond_true] at h
                            rw [Nat.beq_eq] at hk181
                            subst hk181
                            exact okLPow.ok args m c bs h hb ha
                          | false =>
                            rw [hk181, cond_false] at h
                            simp at h

end Go.Proofs.YtleefjclfljknabGreatDoor
