/-
Numbers as rows of words of 64 bits: sums with their carries, differences with their borrows.
-/
import Derived.Test.YtleefjclfljknabGreatDoorRx12
namespace Go.Rx

/-- A word of a number. -/
def wd (n i : Nat) : Nat := n / 2 ^ (64 * i) % 2 ^ 64

abbrev w64 (n : Nat) : Cell := .sc (.int .u64 (Int.ofNat n))
abbrev wK (k : IntKind) (n : Nat) : Cell := .sc (.int k (Int.ofNat n))
abbrev cI (n : Int) : Cell := .sc (.int .i64 n)
abbrev cB (b : Bool) : Cell := .sc (.bool b)
abbrev cF (f : Nat) : Cell := .sc (.func (.func f) #[] #[])

/-- Six words. -/
def cN (n : Nat) : List Cell := [w64 (wd n 0), w64 (wd n 1), w64 (wd n 2), w64 (wd n 3), w64 (wd n 4), w64 (wd n 5)]
def aN (n : Nat) : AV := .one (.agg (cN n))

theorem band {a b : Bool} (h : a = true) (k : b = true) : (a && b) = true := by rw [h, k]; rfl

/-- The carry into word i of a + b; the borrow of a - b. -/
def ca (a b i : Nat) : Nat := (a % 2 ^ (64 * i) + b % 2 ^ (64 * i)) / 2 ^ (64 * i)
def bw (a b i : Nat) : Nat := if a % 2 ^ (64 * i) < b % 2 ^ (64 * i) then 1 else 0
/-- 2^384. -/
def q6 : Nat := 39402006196394479212279040100143613805079739270465446667948293404245721771497210611414266254884915640806627990306816
theorem q6_pow : q6 = 2 ^ (64 * 6) := Eq.trans (of_decide_eq_true (by kernel_rfl) : q6 = (2 ^ 64) ^ 6) (Nat.pow_mul 2 64 6).symm
/-- What is left of a - b by 2^384. -/
def sub6 (a b : Nat) : Nat := a + (q6 - b % q6)

theorem q6_pos : 0 < q6 := of_decide_eq_true (by kernel_rfl)

theorem wd_lt (n i : Nat) : wd n i < 2 ^ 64 := Nat.mod_lt _ (by decide)

theorem pow_step (i : Nat) : 2 ^ (64 * (i + 1)) = 2 ^ 64 * 2 ^ (64 * i) := by
  rw [Nat.mul_add, Nat.mul_one, Nat.add_comm, Nat.pow_add]

/-- The first i + 1 words: the word, and the words below. -/
theorem mod_step (n i : Nat) : n % 2 ^ (64 * (i + 1)) = 2 ^ (64 * i) * wd n i + n % 2 ^ (64 * i) := by
  unfold wd
  rw [pow_step, Nat.mul_comm (2 ^ 64), Nat.mod_mul]
  omega

theorem ca_zero (a b : Nat) : ca a b 0 = 0 := by simp [ca, Nat.mod_one]

theorem ca_le (a b i : Nat) : ca a b i ≤ 1 := by
  unfold ca
  have hp : 0 < 2 ^ (64 * i) := Nat.two_pow_pos _
  have h1 := Nat.mod_lt a hp
  have h2 := Nat.mod_lt b hp
  have : (a % 2 ^ (64 * i) + b % 2 ^ (64 * i)) / 2 ^ (64 * i) < 2 := by
    rw [Nat.div_lt_iff_lt_mul hp]
    omega
  omega

theorem ca_low (a b i : Nat) : a % 2 ^ (64 * i) + b % 2 ^ (64 * i) = 2 ^ (64 * i) * ca a b i + (a + b) % 2 ^ (64 * i) := by
  unfold ca
  rw [Nat.add_mod a b]
  exact (Nat.div_add_mod _ _).symm

/-- The words of a sum. -/
theorem add_wd (a b i : Nat) : wd a i + wd b i + ca a b i = 2 ^ 64 * ca a b (i + 1) + wd (a + b) i := by
  have h1 := ca_low a b (i + 1)
  have h2 := ca_low a b i
  rw [mod_step a i, mod_step b i, mod_step (a + b) i, pow_step] at h1
  have hp : 0 < 2 ^ (64 * i) := Nat.two_pow_pos _
  generalize 2 ^ (64 * i) = p at *
  have h3 : p * (wd a i + wd b i + ca a b i) = p * (2 ^ 64 * ca a b (i + 1) + wd (a + b) i) := by
    rw [Nat.mul_add, Nat.mul_add, Nat.mul_add]
    have : p * (2 ^ 64 * ca a b (i + 1)) = 2 ^ 64 * p * ca a b (i + 1) := by rw [← Nat.mul_assoc, Nat.mul_comm p]
    omega
  exact Nat.eq_of_mul_eq_mul_left hp h3

theorem add_wd1 (a b i : Nat) : (wd a i + wd b i + ca a b i) % 2 ^ 64 = wd (a + b) i ∧ (wd a i + wd b i + ca a b i) / 2 ^ 64 = ca a b (i + 1) := by
  have h := add_wd a b i
  have h2 := wd_lt (a + b) i
  generalize ca a b (i + 1) = c at *
  omega

theorem bw_zero (a b : Nat) : bw a b 0 = 0 := by simp [bw, Nat.mod_one]
theorem bw_le (a b i : Nat) : bw a b i ≤ 1 := by unfold bw; split <;> omega

theorem mod_of_sub6 {a b i : Nat} (hi : i ≤ 6) : sub6 a b % 2 ^ (64 * i) + b % 2 ^ (64 * i) = a % 2 ^ (64 * i) + 2 ^ (64 * i) * bw a b i := by
  have hp : 0 < 2 ^ (64 * i) := Nat.two_pow_pos _
  have hd : q6 = 2 ^ (64 * i) * 2 ^ (64 * (6 - i)) := by
    rw [q6_pow, ← Nat.pow_add, ← Nat.mul_add, Nat.add_sub_cancel' hi]
  have h1 : (sub6 a b + b) % 2 ^ (64 * i) = a % 2 ^ (64 * i) := by
    unfold sub6
    have e := Nat.div_add_mod b q6
    have hlt : b % q6 < q6 := Nat.mod_lt _ q6_pos
    have : a + (q6 - b % q6) + b = a + q6 * (1 + b / q6) := by
      rw [Nat.mul_add]
      omega
    rw [this, hd, Nat.mul_assoc, Nat.add_mul_mod_self_left]
  have h2 := Nat.mod_lt (sub6 a b) hp
  have h3 := Nat.mod_lt b hp
  have h4 := Nat.mod_lt a hp
  rw [Nat.add_mod] at h1
  unfold bw
  generalize sub6 a b % 2 ^ (64 * i) = x at *
  generalize b % 2 ^ (64 * i) = y at *
  generalize a % 2 ^ (64 * i) = z at *
  generalize 2 ^ (64 * i) = p at *
  rcases Nat.lt_or_ge (x + y) p with h5 | h5
  · rw [Nat.mod_eq_of_lt h5] at h1
    rw [if_neg (by omega)]
    omega
  · rw [Nat.mod_eq_sub_mod h5, Nat.mod_eq_of_lt (by omega)] at h1
    rw [if_pos (by omega)]
    omega

/-- The words of a difference. -/
theorem sub_wd {a b i : Nat} (hi : i < 6) : wd (sub6 a b) i + wd b i + bw a b i = wd a i + 2 ^ 64 * bw a b (i + 1) := by
  have h1 := mod_of_sub6 (a := a) (b := b) (i := i + 1) (by omega)
  have h2 := mod_of_sub6 (a := a) (b := b) (i := i) (by omega)
  rw [mod_step a i, mod_step b i, mod_step (sub6 a b) i, pow_step] at h1
  have hp : 0 < 2 ^ (64 * i) := Nat.two_pow_pos _
  generalize 2 ^ (64 * i) = p at *
  have h3 : p * (wd (sub6 a b) i + wd b i + bw a b i) = p * (wd a i + 2 ^ 64 * bw a b (i + 1)) := by
    rw [Nat.mul_add, Nat.mul_add, Nat.mul_add]
    have : p * (2 ^ 64 * bw a b (i + 1)) = 2 ^ 64 * p * bw a b (i + 1) := by rw [← Nat.mul_assoc, Nat.mul_comm p]
    omega
  exact Nat.eq_of_mul_eq_mul_left hp h3

theorem sub_wd1 {a b i : Nat} (hi : i < 6) : (wd a i + 2 ^ 64 - wd b i - bw a b i) % 2 ^ 64 = wd (sub6 a b) i ∧ (if wd a i < wd b i + bw a b i then 1 else 0) = bw a b (i + 1) := by
  have h := sub_wd (a := a) (b := b) hi
  have h1 := wd_lt (sub6 a b) i
  have h2 := wd_lt a i
  have h3 := wd_lt b i
  have h4 := bw_le a b i
  have h5 := bw_le a b (i + 1)
  generalize bw a b (i + 1) = c at *
  generalize bw a b i = d at *
  refine ⟨by omega, ?_⟩
  split <;> omega

/-! ### Functions that the model stands in for -/

theorem ext_call {P : Program} {k : FuncId} {fn : Func} {e : Array Value → Sem Value} (hf : P.funcs[k]? = some fn) (hn : (fn.name == "runtime.NumGoroutine") = false) (hb : fn.body.isNone = true)
    (h1 : (Extern.findNext fn).isNone = true) (h2 : Extern.find fn = some e) {vs : Array Value} {w : World} {x : Value} (he : (e vs).run P w = .ok x w) : (callFunc k vs).run P w = .ok (.value x) w := by
  have h1' : Extern.findNext fn = none := by simpa using h1
  simp only [callFunc, program, Sem.run_bind, Sem.run, Result.andThen_ok, hf, hn, Bool.false_eq_true, if_false, hb, if_true, mark, h1', h2, he, Sem.run_pure]

theorem run_asInt {P : Program} {w : World} {k : IntKind} {n : Int} : (asInt (.int k n)).run P w = .ok n w := by
  simp only [asInt, asIntOf, Sem.run_bind, Sem.run_pure, Result.andThen_ok]

/-- What is known of Add64's and Sub64's places in a program. -/
structure Ext (P : Program) (k : FuncId) (fn : Func) (name : String) : Prop where
  isf : P.funcs[k]? = some fn
  nogo : (fn.name == "runtime.NumGoroutine") = false
  nobody : fn.body.isNone = true
  nonext : (Extern.findNext fn).isNone = true
  found : Extern.find fn = Extern.MathBitsCarry.rows.lookup name

theorem args3 {ν : NV} {x y c : Nat} {vs : Array Value} (h : DenAL ν [natAV .u64 x, natAV .u64 y, natAV .u64 c] vs.toList) : vs = #[.int .u64 (Int.ofNat x), .int .u64 (Int.ofNat y), .int .u64 (Int.ofNat c)] := by
  apply Array.ext'
  match hv : vs.toList, h with
  | [a, b, d], h =>
    obtain ⟨h1, h2, h3, _⟩ := h
    rw [sc_den h1, sc_den h2, sc_den h3]

theorem rep_nil {w : World} {ν : NV} (h : Rep w 0 ν [] w) (x : Value) (r : AV) (hd : r.Den ν x) : ∃ ν', NV.le ν ν' ∧ r.Den ν' x ∧ Rep w 0 ν' ([].map some) w := ⟨ν, NV.le_refl _, hd, h⟩

theorem add64_raw {P : Program} {k : FuncId} {fn : Func} (E : Ext P k fn "math/bits.Add64") (x y c : Nat) (hc : c ≤ 1) :
    Con P k [natAV .u64 x, natAV .u64 y, natAV .u64 c] [] (.tup [.c (w64 ((x + y + c) % 2 ^ 64)), .c (w64 ((x + y + c) / 2 ^ 64))]) [] := by
  intro w ν vs hr hvs
  have := args3 hvs
  subst this
  refine .inr ⟨_, ext_call E.isf E.nogo E.nobody E.nonext (E.found.trans rfl) (x := Extern.MathBitsCarry.pair ((x + y + c) % 2 ^ 64) ((x + y + c) / 2 ^ 64)) ?_, ?_⟩
  · have : c = 0 ∨ c = 1 := by omega
    rcases this with rfl | rfl <;> rfl
  · exact rep_nil hr _ _ ⟨_, rfl, ⟨rfl, trivial⟩, ⟨rfl, trivial⟩, trivial⟩

theorem sub64_raw {P : Program} {k : FuncId} {fn : Func} (E : Ext P k fn "math/bits.Sub64") (x y c : Nat) (hc : c ≤ 1) :
    Con P k [natAV .u64 x, natAV .u64 y, natAV .u64 c] [] (.tup [.c (w64 ((x + 2 ^ 64 - y - c) % 2 ^ 64)), .c (w64 (if x < y + c then 1 else 0))]) [] := by
  intro w ν vs hr hvs
  have := args3 hvs
  subst this
  refine .inr ⟨_, ext_call E.isf E.nogo E.nobody E.nonext (E.found.trans rfl) (x := Extern.MathBitsCarry.pair ((x + 2 ^ 64 - y - c) % 2 ^ 64) (if x < y + c then 1 else 0)) ?_, ?_⟩
  · have : c = 0 ∨ c = 1 := by omega
    rcases this with rfl | rfl <;> rfl
  · exact rep_nil hr _ _ ⟨_, rfl, ⟨rfl, trivial⟩, ⟨rfl, trivial⟩, trivial⟩

theorem add64_wd {P : Program} {k : FuncId} {fn : Func} (E : Ext P k fn "math/bits.Add64") (a b i : Nat) :
    Con P k [natAV .u64 (wd a i), natAV .u64 (wd b i), natAV .u64 (ca a b i)] [] (.tup [.c (w64 (wd (a + b) i)), .c (w64 (ca a b (i + 1)))]) [] := by
  have h := add64_raw E (wd a i) (wd b i) (ca a b i) (ca_le a b i)
  rw [(add_wd1 a b i).1, (add_wd1 a b i).2] at h
  exact h

theorem add64_wd0 {P : Program} {k : FuncId} {fn : Func} (E : Ext P k fn "math/bits.Add64") (a b : Nat) :
    Con P k [natAV .u64 (wd a 0), natAV .u64 (wd b 0), natAV .u64 0] [] (.tup [.c (w64 (wd (a + b) 0)), .c (w64 (ca a b 1))]) [] := by
  have h := add64_wd E a b 0
  rw [ca_zero] at h
  exact h

theorem sub64_wd {P : Program} {k : FuncId} {fn : Func} (E : Ext P k fn "math/bits.Sub64") (a b i : Nat) (hi : i < 6) :
    Con P k [natAV .u64 (wd a i), natAV .u64 (wd b i), natAV .u64 (bw a b i)] [] (.tup [.c (w64 (wd (sub6 a b) i)), .c (w64 (bw a b (i + 1)))]) [] := by
  have h := sub64_raw E (wd a i) (wd b i) (bw a b i) (bw_le a b i)
  rw [(sub_wd1 hi).1, (sub_wd1 hi).2] at h
  exact h

theorem sub64_wd0 {P : Program} {k : FuncId} {fn : Func} (E : Ext P k fn "math/bits.Sub64") (a b : Nat) :
    Con P k [natAV .u64 (wd a 0), natAV .u64 (wd b 0), natAV .u64 0] [] (.tup [.c (w64 (wd (sub6 a b) 0)), .c (w64 (bw a b 1))]) [] := by
  have h := sub64_wd E a b 0 (by omega)
  rw [bw_zero] at h
  exact h

end Go.Rx
