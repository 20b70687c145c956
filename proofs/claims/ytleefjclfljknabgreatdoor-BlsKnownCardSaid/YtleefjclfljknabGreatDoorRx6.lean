/-
Reflective execution, part 6: numbers, comparisons, function values; every operation but a call, in one theorem.
-/
import Derived.Test.YtleefjclfljknabGreatDoorRxM
namespace Go.Rx
section
variable {P : Program} {Γ : Tab} {w0 w : World} {np : Nat} {ν : NV} {m : Mem} {ρ' : Operand → Option AV} {ρ : Operand → Value}

theorem guard_int {op : BinOp} {t : TypeId} {x y : Operand} {k k' : IntKind} {a b : Int} : (eqGuard op t x y (.int k a) (.int k' b)).run P w = .ok () w := by
  cases op <;> rfl
theorem guard_bool {op : BinOp} {t : TypeId} {x y : Operand} {a b : Bool} : (eqGuard op t x y (.bool a) (.bool b)).run P w = .ok () w := by
  cases op <;> rfl
theorem guard_agg {op : BinOp} {t : TypeId} {x y : Operand} {a b : Array Value} (h : P.eqGuardType P.depth t = false) : (eqGuard op t x y (.agg a) (.agg b)).run P w = .ok () w := by
  cases op <;> simp [eqGuard, program, Sem.run, h]

theorem equal_bool {t : TypeId} (h : P.underlying t = some .bool) (a b : Bool) : (Op.equal t (.bool a) (.bool b)).run P w = .ok (a == b) w := by
  show (Op.equalIn (9999 + 1) t (.bool a) (.bool b)).run P w = _
  unfold Op.equalIn
  simp only [Sem.run_bind, run_underlying h, Result.andThen_ok]
  rfl

theorem v_bin {op : BinOp} {t : TypeId} {x y : Operand} {a b r : Value} (hg : (eqGuard op t x y a b).run P w = .ok () w) (hb : (binOp op t a b).run P w = .ok r w) :
    (do pure (Next.value (← (do eqGuard op t x y a b; binOp op t a b))) : Sem Next).run P w = .ok (.value r) w := by
  refine v_run ?_
  simp only [Sem.run_bind, hg, Result.andThen_ok, hb]

theorem arith_sound {op : BinOp} {k : IntKind} {a b : Int} {t : TypeId} {r : AV} (h : arith op k a b = some r) :
    ∃ x, (binOp op t (.int k a) (.int k b)).run P w = .ok x w ∧ r.Den ν x := by
  cases op <;> simp only [arith, Option.some.injEq, reduceCtorEq] at h <;> subst h <;>
    exact ⟨_, by simp [binOp, Op.intArith, Op.intBits, Op.intCmp], rfl, trivial⟩

theorem uBits_some {k : IntKind} {n : Nat} (h : uBits k = some n) : k.bits = n ∧ k.signed = false := by
  cases k <;> simp [uBits] at h <;> subst h <;> exact ⟨rfl, rfl⟩

theorem wrap_u {k : IntKind} {n : Nat} (h : uBits k = some n) (z : Int) : k.wrap z = z % 2 ^ n := by
  obtain ⟨h1, h2⟩ := uBits_some h
  simp [IntKind.wrap, h1, h2]

theorem pow_cast (n : Nat) : ((2 : Int) ^ n) = ((2 ^ n : Nat) : Int) := by simp

theorem wrap_nat {k : IntKind} {n : Nat} (h : uBits k = some n) (x : Nat) : k.wrap (x : Int) = ((x % 2 ^ n : Nat) : Int) := by
  rw [wrap_u h, pow_cast]
  omega

theorem wrap_sub {k : IntKind} {n : Nat} (h : uBits k = some n) (x y : Nat) : k.wrap ((x : Int) - (y : Int)) = (((x + (2 ^ n - y % 2 ^ n)) % 2 ^ n : Nat) : Int) := by
  rw [wrap_u h, pow_cast]
  generalize hB : (2 ^ n : Nat) = B
  have hpos : 0 < B := by rw [← hB]; exact Nat.two_pow_pos n
  have h1 : y % B < B := Nat.mod_lt _ hpos
  have h2 : ((x + (B - y % B) : Nat) : Int) = (x : Int) - (y : Int) + (B : Int) * ((y / B : Nat) + 1 : Int) := by
    have h3 := Nat.div_add_mod y B
    have h4 : ((x + (B - y % B) : Nat) : Int) = (x : Int) + ((B : Int) - ((y % B : Nat) : Int)) := by omega
    have h5 : ((B * (y / B) : Nat) : Int) + ((y % B : Nat) : Int) = (y : Int) := by omega
    rw [h4]
    rw [Int.natCast_mul] at h5
    rw [Int.mul_add]
    omega
  rw [Int.natCast_emod, h2, Int.add_mul_emod_self_left]

theorem bits_nat {n : Nat} (x y : Nat) : (BitVec.ofInt n (x : Int) &&& BitVec.ofInt n (y : Int)).toNat = (x % 2 ^ n) &&& (y % 2 ^ n) ∧
    (BitVec.ofInt n (x : Int) ||| BitVec.ofInt n (y : Int)).toNat = (x % 2 ^ n) ||| (y % 2 ^ n) ∧ (BitVec.ofInt n (x : Int) ^^^ BitVec.ofInt n (y : Int)).toNat = (x % 2 ^ n) ^^^ (y % 2 ^ n) := by
  have e : ∀ z : Nat, (BitVec.ofInt n (z : Int)).toNat = z % 2 ^ n := fun z => by
    rw [BitVec.toNat_ofInt]; omega
  refine ⟨?_, ?_, ?_⟩
  · rw [BitVec.toNat_and, e, e]
  · rw [BitVec.toNat_or, e, e]
  · rw [BitVec.toNat_xor, e, e]

theorem natBin_sound {op : BinOp} {k : IntKind} {n x y : Nat} {t : TypeId} {r : AV} (hk : uBits k = some n) (h : natBin op k n x y = some r) :
    ∃ z, (binOp op t (.int k (Int.ofNat x)) (.int k (Int.ofNat y))).run P w = .ok z w ∧ r.Den ν z := by
  obtain ⟨hb, hs⟩ := uBits_some hk
  subst hb
  obtain ⟨b1, b2, b3⟩ := bits_nat (n := k.bits) x y
  have hpos : 0 < 2 ^ k.bits := Nat.two_pow_pos k.bits
  have l1 : (x % 2 ^ k.bits) &&& (y % 2 ^ k.bits) < 2 ^ k.bits := Nat.lt_of_le_of_lt Nat.and_le_left (Nat.mod_lt _ hpos)
  have l2 : (x % 2 ^ k.bits) ||| (y % 2 ^ k.bits) < 2 ^ k.bits := Nat.or_lt_two_pow (Nat.mod_lt _ hpos) (Nat.mod_lt _ hpos)
  have l3 : (x % 2 ^ k.bits) ^^^ (y % 2 ^ k.bits) < 2 ^ k.bits := Nat.xor_lt_two_pow (Nat.mod_lt _ hpos) (Nat.mod_lt _ hpos)
  cases op <;> simp only [natBin, Option.some.injEq, reduceCtorEq] at h <;> subst h
  case add =>
    refine ⟨.int k (((x + y) % 2 ^ k.bits : Nat) : Int), ?_, rfl, trivial⟩
    simp only [binOp, ne_eq, not_true_eq_false, if_false]
    show Result.ok (Value.int k (k.wrap ((x : Int) + (y : Int)))) w = _
    rw [show (x : Int) + (y : Int) = ((x + y : Nat) : Int) by simp, wrap_nat hk]
  case sub =>
    refine ⟨.int k (((x + (2 ^ k.bits - y % 2 ^ k.bits)) % 2 ^ k.bits : Nat) : Int), ?_, rfl, trivial⟩
    simp only [binOp, ne_eq, not_true_eq_false, if_false]
    show Result.ok (Value.int k (k.wrap ((x : Int) - (y : Int)))) w = _
    rw [wrap_sub hk]
  case mul =>
    refine ⟨.int k ((x * y % 2 ^ k.bits : Nat) : Int), ?_, rfl, trivial⟩
    simp only [binOp, ne_eq, not_true_eq_false, if_false]
    show Result.ok (Value.int k (k.wrap ((x : Int) * (y : Int)))) w = _
    rw [show (x : Int) * (y : Int) = ((x * y : Nat) : Int) by simp, wrap_nat hk]
  case and =>
    refine ⟨.int k ((x % 2 ^ k.bits &&& y % 2 ^ k.bits : Nat) : Int), ?_, rfl, trivial⟩
    simp only [binOp, ne_eq, not_true_eq_false, if_false]
    show Result.ok (Value.int k (k.wrap (((BitVec.ofInt k.bits (x : Int) &&& BitVec.ofInt k.bits (y : Int)).toNat : Nat) : Int))) w = _
    rw [b1, wrap_nat hk, Nat.mod_eq_of_lt l1]
  case or =>
    refine ⟨.int k ((x % 2 ^ k.bits ||| y % 2 ^ k.bits : Nat) : Int), ?_, rfl, trivial⟩
    simp only [binOp, ne_eq, not_true_eq_false, if_false]
    show Result.ok (Value.int k (k.wrap (((BitVec.ofInt k.bits (x : Int) ||| BitVec.ofInt k.bits (y : Int)).toNat : Nat) : Int))) w = _
    rw [b2, wrap_nat hk, Nat.mod_eq_of_lt l2]
  case xor =>
    refine ⟨.int k ((x % 2 ^ k.bits ^^^ y % 2 ^ k.bits : Nat) : Int), ?_, rfl, trivial⟩
    simp only [binOp, ne_eq, not_true_eq_false, if_false]
    show Result.ok (Value.int k (k.wrap (((BitVec.ofInt k.bits (x : Int) ^^^ BitVec.ofInt k.bits (y : Int)).toNat : Nat) : Int))) w = _
    rw [b3, wrap_nat hk, Nat.mod_eq_of_lt l3]
  case eql =>
    have e : ((x : Int) == (y : Int)) = (x == y) := by rw [Bool.eq_iff_iff]; simp; omega
    refine ⟨.bool (x == y), ?_, rfl, trivial⟩
    rw [← e]
    simp only [binOp, Op.intCmp, ne_eq, not_true_eq_false, if_false]
    rfl
  case neq =>
    have e : ((x : Int) != (y : Int)) = (x != y) := by rw [Bool.eq_iff_iff]; simp; omega
    refine ⟨.bool (x != y), ?_, rfl, trivial⟩
    rw [← e]
    simp only [binOp, Op.intCmp, ne_eq, not_true_eq_false, if_false]
    rfl
  case lss => exact ⟨.bool (decide (x < y)), by simp [binOp, Op.intCmp], rfl, trivial⟩
  case leq => exact ⟨.bool (decide (x ≤ y)), by simp [binOp, Op.intCmp], rfl, trivial⟩
  case gtr => exact ⟨.bool (decide (x > y)), by simp [binOp, Op.intCmp], rfl, trivial⟩
  case geq => exact ⟨.bool (decide (x ≥ y)), by simp [binOp, Op.intCmp], rfl, trivial⟩

theorem intBin_sound {op : BinOp} {k : IntKind} {a b : Int} {t : TypeId} {r : AV} (h : intBin op k a b = some r) :
    ∃ x, (binOp op t (.int k a) (.int k b)).run P w = .ok x w ∧ r.Den ν x := by
  unfold intBin at h
  split at h
  · rename_i n hn
    split at h
    · exact natBin_sound hn h
    · simp at h
  · exact arith_sound h

theorem sound_bin (hΓ : Γ.Ok P) (hr : Rep w0 np ν m w) {op : BinOp} {t : TypeId} {a b : AV} {x y : Operand} {xv yv : Value} {out : Out} (h : coreBin Γ op t a b = some out) (hok : out.ok = true) (hd : a.Den ν xv) (hdy : b.Den ν yv) :
    Good P w0 np ν m w (do pure (Next.value (← (do eqGuard op t x y xv yv; binOp op t xv yv)))) out := by
  unfold coreBin at h
  split at h
  · rename_i k a k' b
    have e1 := sc_den hd
    have e2 := sc_den hdy
    subst e1
    subst e2
    have hg : (eqGuard op t x y (.int k a) (.int k' b)).run P w = .ok () w := guard_int
    split at h
    · split at h
      · rename_i r hrr
        simp only [Option.some.injEq] at h
        subst h
        have hb : ¬ b < 0 := by simp at hok; omega
        have hrun : (binOp .shl t (.int k a) (.int k' b)).run P w = .ok (.int k (k.wrap (a * 2 ^ (min b.toNat k.bits)))) w := by simp [binOp, Op.shift, hb]
        refine good_val' hr rfl (v_bin hg hrun) ?_
        unfold shlAV at hrr
        split at hrr
        · rename_i n hn
          split at hrr
          · rename_i x'
            simp only [Option.some.injEq] at hrr
            subst hrr
            refine ⟨?_, trivial⟩
            have : (Int.ofNat x' * 2 ^ (min b.toNat k.bits) : Int) = ((x' * 2 ^ (min b.toNat k.bits) : Nat) : Int) := by simp
            rw [this, wrap_nat hn]
            rfl
          · simp at hrr
        · simp only [Option.some.injEq] at hrr
          subst hrr
          exact ⟨rfl, trivial⟩
      · simp at h
    · split at h
      · rename_i r hrr
        simp only [Option.some.injEq] at h
        subst h
        have hb : ¬ b < 0 := by simp at hok; omega
        have hrun : (binOp .shr t (.int k a) (.int k' b)).run P w = .ok (.int k (a.fdiv (2 ^ (min b.toNat k.bits)))) w := by simp [binOp, Op.shift, hb]
        refine good_val' hr rfl (v_bin hg hrun) ?_
        unfold shrAV at hrr
        split at hrr
        · rename_i n hn
          split at hrr
          · rename_i x'
            simp only [Option.some.injEq] at hrr
            subst hrr
            refine ⟨?_, trivial⟩
            rw [pow_cast, Int.fdiv_eq_ediv_of_nonneg _ (Int.natCast_nonneg _)]
            rfl
          · simp at hrr
        · simp only [Option.some.injEq] at hrr
          subst hrr
          exact ⟨rfl, trivial⟩
      · simp at h
    · split at h
      · rename_i hk
        subst hk
        split at h
        · rename_i r hrr
          simp only [Option.some.injEq] at h
          subst h
          have hb : ¬ b = 0 := by simpa using hok
          have hrun : (binOp .quo t (.int k a) (.int k b)).run P w = .ok (.int k (k.wrap (a.tdiv b))) w := by simp [binOp, Op.intDiv, hb]
          refine good_val' hr rfl (v_bin hg hrun) ?_
          unfold quoAV at hrr
          split at hrr
          · rename_i n hn
            split at hrr
            · rename_i x' y'
              simp only [Option.some.injEq] at hrr
              subst hrr
              refine ⟨?_, trivial⟩
              show Value.int k (k.wrap ((x' / y' : Nat) : Int)) = _
              rw [wrap_nat hn]
              rfl
            · simp at hrr
          · simp only [Option.some.injEq] at hrr
            subst hrr
            exact ⟨rfl, trivial⟩
        · simp at h
      · simp at h
    · split at h
      · rename_i hk
        subst hk
        split at h
        · rename_i r hrr
          simp only [Option.some.injEq] at h
          subst h
          have hb : ¬ b = 0 := by simpa using hok
          have hrun : (binOp .rem t (.int k a) (.int k b)).run P w = .ok (.int k (a.tmod b)) w := by simp [binOp, Op.intDiv, hb]
          refine good_val' hr rfl (v_bin hg hrun) ?_
          unfold remAV at hrr
          split at hrr
          · split at hrr
            · simp only [Option.some.injEq] at hrr
              subst hrr
              exact ⟨rfl, trivial⟩
            · simp at hrr
          · simp only [Option.some.injEq] at hrr
            subst hrr
            exact ⟨rfl, trivial⟩
        · simp at h
      · simp at h
    · split at h
      · rename_i hk
        subst hk
        split at h
        · rename_i r hr'
          simp only [val, Option.some.injEq] at h
          subst h
          obtain ⟨z, hz, hzd⟩ := intBin_sound (P := P) (w := w) (ν := ν) (t := t) hr'
          exact good_val' hr rfl (v_bin hg hz) hzd
        · simp at h
      · simp at h
  · rename_i a b
    have e1 := sc_den hd
    have e2 := sc_den hdy
    subst e1
    subst e2
    have hg : (eqGuard op t x y (.bool a) (.bool b)).run P w = .ok () w := guard_bool
    split at h
    · rename_i ti hti
      split at h
      · rename_i hdesc
        simp only [val, Option.some.injEq] at h
        subst h
        refine good_val' hr rfl (v_bin hg ?_) ⟨rfl, trivial⟩
        simp [binOp, equal_bool (hdesc ▸ (hΓ _ _ hti).und)]
      · rename_i hdesc
        simp only [val, Option.some.injEq] at h
        subst h
        refine good_val' hr rfl (v_bin hg ?_) ⟨rfl, trivial⟩
        simp [binOp, equal_bool (hdesc ▸ (hΓ _ _ hti).und)]
      · simp at h
    · simp at h
  · rename_i xs ys
    split at h
    · rename_i ti hti
      obtain ⟨xv, rfl, hx⟩ := hd
      obtain ⟨yv, rfl, hy⟩ := hdy
      have main : ∀ ks, ti.eqk = some ks → (ksOk ks xs && ksOk ks ys) = true →
          (∀ op, (eqGuard op t x y (.agg xv) (.agg yv)).run P w = .ok () w) ∧ (Op.equal t (.agg xv) (.agg yv)).run P w = .ok (eqCells xs ys) w := by
        intro ks hks hkk
        simp only [Bool.and_eq_true] at hkk
        obtain ⟨hgt, heq⟩ := (hΓ _ _ hti).eq ks hks
        obtain ⟨b, hb, hrun⟩ := heq xv yv w (ksOk_den hkk.1 hx) (ksOk_den hkk.2 hy)
        refine ⟨fun op => guard_agg hgt, ?_⟩
        · have : b = eqCells xs ys := by
            rw [Bool.eq_iff_iff, hb, eqCells_den hkk.1 hkk.2 hx hy]
          rw [hrun, this]
      split at h
      · rename_i ks hks
        simp only [Option.some.injEq] at h
        subst h
        obtain ⟨hg, he⟩ := main ks hks hok
        exact good_val' hr rfl (v_bin (hg _) (by simp [binOp, he])) ⟨rfl, trivial⟩
      · rename_i ks hks
        simp only [Option.some.injEq] at h
        subst h
        obtain ⟨hg, he⟩ := main ks hks hok
        exact good_val' hr rfl (v_bin (hg _) (by simp [binOp, he])) ⟨rfl, trivial⟩
      · simp at h
    · simp at h
  · simp at h

theorem sound_un (hr : Rep w0 np ν m w) {op : UnOp} {a : AV} {x : Value} {out : Out} (h : coreUn op a = some out) (hd : a.Den ν x) :
    Good P w0 np ν m w (do pure (Next.value (← Op.unary op x))) out := by
  unfold coreUn at h
  split at h <;> try (simp at h; done)
  all_goals
    have e := sc_den hd
    subst e
    simp only [val, Option.some.injEq] at h
    subst h
    exact good_val' hr rfl (v_run (by simp [Op.unary, Op.intArith, Op.intBits])) ⟨rfl, trivial⟩

theorem sound_conv (hΓ : Γ.Ok P) (hr : Rep w0 np ν m w) {s t : TypeId} {a : AV} {x : Value} {out : Out} (h : coreConv Γ s t a = some out) (hd : a.Den ν x) :
    Good P w0 np ν m w (do pure (Next.value (← convert s t x))) out := by
  unfold coreConv at h
  split at h
  · rename_i k n ts ti hs ht
    have e := sc_den hd
    subst e
    split at h
    · rename_i k1 k2 h1 h2
      split at h
      case h_2 => simp at h
      rename_i r hrr
      simp only [val, Option.some.injEq] at h
      subst h
      refine good_val' hr rfl (v_run (x := .int k2 (k2.wrap n)) ?_) ?_
      rotate_left
      · unfold convAV at hrr
        split at hrr
        · rename_i b hb
          split at hrr
          · rename_i x'
            simp only [Option.some.injEq] at hrr
            subst hrr
            refine ⟨?_, trivial⟩
            show Value.int k2 (k2.wrap ((x' : Nat) : Int)) = _
            rw [wrap_nat hb]
            rfl
          · simp only [Option.some.injEq] at hrr
            subst hrr
            exact ⟨rfl, trivial⟩
        · simp only [Option.some.injEq] at hrr
          subst hrr
          exact ⟨rfl, trivial⟩
      simp only [convert, Sem.run_bind, run_underlying (h1 ▸ (hΓ _ _ hs).und), run_underlying (h2 ▸ (hΓ _ _ ht).und), Result.andThen_ok, Conv.intToInt, Sem.run_pure]
    · simp at h
  · simp at h

theorem func_empty {first caps : Array Value} (h : (first.toList.isEmpty && caps.toList.isEmpty) = true) : first = #[] ∧ caps = #[] := by
  simp only [Bool.and_eq_true, List.isEmpty_iff] at h
  exact ⟨Array.ext' (by simpa using h.1), Array.ext' (by simpa using h.2)⟩

theorem sound_nil (hr : Rep w0 np ν m w) {o : Oper} {z : Operand} (ho : o.op = .nilCheck z) {a : AV} {out : Out} (h : coreNil a = some out) (hd : a.Den ν (ρ z)) :
    Good P w0 np ν m w (execOp ρ o) out := by
  unfold execOp
  rw [ho]
  simp only
  unfold coreNil at h
  split at h
  · simp only [val, Option.some.injEq] at h
    subst h
    obtain ⟨n, hn, e⟩ := hd
    rw [e]
    exact good_val' hr rfl rfl ⟨n, hn, rfl⟩
  · rename_i k first caps
    split at h
    · simp only [val, Option.some.injEq] at h
      subst h
      have e := sc_den hd
      rw [e]
      exact good_val' hr rfl rfl ⟨rfl, trivial⟩
    · simp at h
  · simp only [val, Option.some.injEq] at h
    subst h
    obtain ⟨vs, e, hv⟩ := hd
    rw [e]
    exact good_val' hr rfl rfl ⟨vs, rfl, hv⟩
  · simp at h

theorem sound_extract (hr : Rep w0 np ν m w) {i : Nat} {a : AV} {x : Value} {out : Out} (h : coreExtract a i = some out) (hd : a.Den ν x) :
    Good P w0 np ν m w (do pure (Next.value (← Instr.extract x i))) out := by
  unfold coreExtract at h
  split at h
  · rename_i l
    split at h
    · rename_i v hv
      simp only [val, Option.some.injEq] at h
      subst h
      obtain ⟨vs, rfl, hvs⟩ := hd
      obtain ⟨y, hy, hyd⟩ := hvs.get i v hv
      refine good_val' hr rfl (v_run (x := y) ?_) hyd
      have : vs[i]? = some y := by simpa using hy
      simp only [Instr.extract, this]
      rfl
    · simp at h
  · simp at h

theorem rhoAll_den (hρ : RhoDen ν ρ' ρ) : ∀ {l : List Operand} {r : List AV}, rhoAll ρ' l = some r → DenAL ν r (l.map ρ)
  | [], r, h => by simp [rhoAll] at h; subst h; trivial
  | x :: l, r, h => by
    unfold rhoAll at h
    split at h
    · rename_i v l' hx hl
      simp only [Option.some.injEq] at h
      subst h
      exact ⟨hρ _ _ hx, rhoAll_den hρ hl⟩
    · simp at h

theorem toV0s_den : ∀ {l : List AV} {r : List V0} {vs : List Value}, toV0s l = some r → DenAL ν l vs → DenVL ν r vs
  | [], r, [], h, _ => by simp [toV0s] at h; subst h; trivial
  | [], r, _ :: _, _, hd => hd.elim
  | .one v :: l, r, [], _, hd => hd.elim
  | .one v :: l, r, x :: vs, h, hd => by
    simp only [toV0s] at h
    split at h
    · rename_i l' hl
      simp only [Option.some.injEq] at h
      subst h
      exact ⟨hd.1, toV0s_den hl hd.2⟩
    · simp at h
  | .tup _ :: _, r, _, h, _ => by simp [toV0s] at h
  | .clo _ _ :: _, r, _, h, _ => by simp [toV0s] at h

theorem sound_len (hΓ : Γ.Ok P) (hr : Rep w0 np ν m w) {t t' : TypeId} {a : AV} {x : Value} {out : Out} (h : coreLen Γ t a = some out) (hd : a.Den ν x) :
    Good P w0 np ν m w (do pure (Next.value (← Builtin.len_ #[t] t' #[x]))) out := by
  unfold coreLen at h
  split at h
  · rename_i ti hti
    have ht := hΓ _ _ hti
    split at h
    · rename_i e b s z off n hdesc
      simp only [val, Option.some.injEq] at h
      subst h
      obtain ⟨k, c, j, _, _, rfl, _⟩ := hd
      refine good_val' hr rfl (v_run ?_) ⟨rfl, trivial⟩
      simp only [Builtin.len_, Array.getElem?_eq_getElem, List.size_toArray, List.length_cons, List.length_nil, Nat.zero_add, Nat.lt_add_one, List.getElem_toArray, List.getElem_cons_zero, Sem.run_bind, run_underlying (hdesc ▸ ht.und), Result.andThen_ok]
      rfl
    · rename_i e hdesc
      simp only [val, Option.some.injEq] at h
      subst h
      obtain ⟨k, c, rfl⟩ := hd
      refine good_val' hr rfl (v_run ?_) ⟨rfl, trivial⟩
      simp only [Builtin.len_, Array.getElem?_eq_getElem, List.size_toArray, List.length_cons, List.length_nil, Nat.zero_add, Nat.lt_add_one, List.getElem_toArray, List.getElem_cons_zero, Sem.run_bind, run_underlying (hdesc ▸ ht.und), Result.andThen_ok]
      rfl
    · rename_i e n c hdesc
      simp only [val, Option.some.injEq] at h
      subst h
      have e := sc_den hd
      subst e
      refine good_val' hr rfl (v_run ?_) ⟨rfl, trivial⟩
      simp only [Builtin.len_, Array.getElem?_eq_getElem, List.size_toArray, List.length_cons, List.length_nil, Nat.zero_add, Nat.lt_add_one, List.getElem_toArray, List.getElem_cons_zero, Sem.run_bind, run_underlying (hdesc ▸ ht.und), Result.andThen_ok]
      rfl
    · rename_i s hdesc
      simp only [val, Option.some.injEq] at h
      subst h
      have e := sc_den hd
      subst e
      refine good_val' hr rfl (v_run ?_) ⟨rfl, trivial⟩
      simp only [Builtin.len_, Array.getElem?_eq_getElem, List.size_toArray, List.length_cons, List.length_nil, Nat.zero_add, Nat.lt_add_one, List.getElem_toArray, List.getElem_cons_zero, Sem.run_bind, run_underlying (hdesc ▸ ht.und), Result.andThen_ok]
      rfl
    · rename_i e b off n cap hdesc
      simp only [val, Option.some.injEq] at h
      subst h
      obtain ⟨k, hk, rfl⟩ := hd
      refine good_val' hr rfl (v_run ?_) ⟨rfl, trivial⟩
      simp only [Builtin.len_, Array.getElem?_eq_getElem, List.size_toArray, List.length_cons, List.length_nil, Nat.zero_add, Nat.lt_add_one, List.getElem_toArray, List.getElem_cons_zero, Sem.run_bind, run_underlying (hdesc ▸ ht.und), Result.andThen_ok]
      rfl
    · rename_i n e hdesc
      simp only [val, Option.some.injEq] at h
      subst h
      refine good_val' hr rfl (v_run ?_) ⟨rfl, trivial⟩
      simp only [Builtin.len_, Array.getElem?_eq_getElem, List.size_toArray, List.length_cons, List.length_nil, Nat.zero_add, Nat.lt_add_one, List.getElem_toArray, List.getElem_cons_zero, Sem.run_bind, run_underlying (hdesc ▸ ht.und), Result.andThen_ok]
      rfl
    · simp at h
  · simp at h

/-- Is it a call of a Go function? -/
def isCall (o : Oper) : Bool :=
  match o.op with
  | .call c => (match c.callee with | .value _ => true | _ => false)
  | _ => false

theorem core_sound (hΓ : Γ.Ok P) (hr : Rep w0 np ν m w) (hρ : RhoDen ν ρ' ρ) {o : Oper} {id : Nat} {hint : Hint} {out : Out} (h : core P Γ o id hint ρ' m = some out) (hok : out.ok = true) (hc : isCall o = false) :
    Good P w0 np ν m w (execOp ρ o) out := by
  obtain ⟨dst, op, type, pos, after, guard⟩ := o
  cases op <;> simp only [core, cVal, cPick, cBox, cBuild, cBuildSlice, cLoad, cStore, cFieldAddr, cField, cIndexAddr, cIndex, cBin, cUn, cConv, cLookup, cMapPush, cArrayAt, cSlice, cNil, cExtract, cMakeFunc, cCallVal, cLen, cAppend, cMin, cMax, cCall] at h <;> try (simp at h; done)
  case move x =>
    split at h
    · rename_i a hx
      simp only [val, Option.some.injEq] at h
      subst h
      exact good_val' hr rfl rfl (hρ _ _ hx)
    · simp at h
  case assign x =>
    split at h
    · rename_i a hx
      simp only [val, Option.some.injEq] at h
      subst h
      exact good_val' hr rfl rfl (hρ _ _ hx)
    · simp at h
  case pick c a b =>
    split at h
    · rename_i t r hcnd hrr
      simp only [Option.some.injEq] at h
      subst h
      have e := sc_den (hρ _ _ hcnd)
      have ht : t = hint.dir := by simpa using hok
      refine good_val' hr rfl (x := ρ (if hint.dir then a else b)) ?_ (hρ _ _ hrr)
      simp only [execOp, e, asBool, Sem.run_bind, Sem.run_pure, Result.andThen_ok, ht]
      cases hint.dir <;> rfl
    · simp at h
  case alloc t => exact sound_alloc hΓ hr h
  case box t x =>
    split at h
    · rename_i a hx; exact sound_box hr h (hρ _ _ hx)
    · simp at h
  case build t ps =>
    split at h
    · rename_i l hl
      refine sound_build hΓ hr h ?_
      have := rhoParts_den hρ hl
      simpa using this
    · simp at h
  case buildSlice t n ps =>
    split at h
    · rename_i l hl
      refine sound_buildSlice hΓ hr h ?_
      have := rhoParts_den hρ hl
      simpa using this
    · simp at h
  case load t a =>
    split at h
    · rename_i a hx; exact sound_load hΓ hr h hok (hρ _ _ hx)
    · simp at h
  case store t a x =>
    split at h
    · rename_i a x ha hx; exact sound_store hΓ hr h hok (hρ _ _ ha) (hρ _ _ hx)
    · simp at h
  case nilCheck x =>
    split at h
    · rename_i a hx; exact sound_nil hr rfl h (hρ _ _ hx)
    · simp at h
  case binOp op t x y t' =>
    split at h
    · rename_i a b ha hb
      split at h
      · rename_i o ho
        simp only [Option.some.injEq] at h
        subst h
        exact sound_bin hΓ hr ho hok (hρ _ _ ha) (hρ _ _ hb)
      · exact sound_nilEq hΓ hr h (hρ _ _ ha) (hρ _ _ hb)
    · simp at h
  case unOp op t x =>
    split at h
    · rename_i a hx; exact sound_un hr h (hρ _ _ hx)
    · simp at h
  case convert s d x =>
    split at h
    · rename_i a hx
      split at h
      · rename_i o ho
        simp only [Option.some.injEq] at h
        subst h
        exact sound_conv hΓ hr ho (hρ _ _ hx)
      · split at h
        · rename_i o ho
          simp only [Option.some.injEq] at h
          subst h
          exact sound_strBytes hΓ hr ho (hρ _ _ hx)
        · exact sound_convSame hΓ hr h hok (hρ _ _ hx)
    · simp at h
  case makeMap t r =>
    exact sound_makeMap hr h fun e => by rw [e]; rfl
  case lookup t x i ok =>
    split at h
    · rename_i a b ha hb; exact sound_lookup hΓ hr h hok (hρ _ _ ha) (hρ _ _ hb)
    · simp at h
  case mapUpdate t x i v =>
    split at h
    · rename_i a b c ha hb hc; exact sound_mapPush hΓ hr h (hρ _ _ ha) (hρ _ _ hb) (hρ _ _ hc)
    · simp at h
  case sliceToArrayPointer t x =>
    split at h
    · rename_i a hx; exact sound_arrayAt hΓ hr h hok (hρ _ _ hx)
    · simp at h
  case slice t x lo hi mx =>
    have ho : ∀ {o : Option Operand} {a : Option AV}, rhoOpt ρ' o = some a → ODen ν a (o.map ρ) := by
      intro o a h
      cases o with
      | none => simp [rhoOpt] at h; subst h; trivial
      | some y =>
        simp only [rhoOpt] at h
        split at h
        · rename_i b hb
          simp only [Option.some.injEq] at h
          subst h
          exact hρ _ _ hb
        · simp at h
    split at h
    · rename_i a l1 h1 m1 hx hl hh hm
      exact sound_slice hΓ hr h hok (hρ _ _ hx) (ho hl) (ho hh) (ho hm)
    · simp at h
  case makeFunc fn first caps =>
    split at h
    · rename_i f
      split at h
      · rename_i hf
        split at h
        · rename_i l hl
          split at h
          · rename_i vs hvs
            simp only [val, Option.some.injEq] at h
            subst h
            have hd := toV0s_den hvs (rhoAll_den hρ hl)
            have he : first = #[] := Array.ext' (by simpa using hf)
            refine good_val' hr rfl (v_run (x := .func (.func f) #[] (caps.map ρ)) ?_) ⟨caps.map ρ, rfl, by simpa using hd⟩
            simp [Instr.makeFunc, he]
          · simp at h
        · simp at h
      · simp at h
    · simp at h
  case fieldAddr s x f =>
    split at h
    · rename_i a hx; exact sound_fieldAddr hΓ hr h (hρ _ _ hx)
    · simp at h
  case field s x f =>
    split at h
    · rename_i a hx; exact sound_field hΓ hr h hok (hρ _ _ hx)
    · simp at h
  case indexAddr t x i =>
    split at h
    · rename_i a b ha hb; exact sound_indexAddr hΓ hr h hok (hρ _ _ ha) (hρ _ _ hb)
    · simp at h
  case index t x i =>
    split at h
    · rename_i a b ha hb
      split at h
      · rename_i o ho
        simp only [Option.some.injEq] at h
        subst h
        exact sound_index hΓ hr ho hok (hρ _ _ ha) (hρ _ _ hb)
      · exact sound_indexStr hΓ hr h hok (hρ _ _ ha) (hρ _ _ hb)
    · simp at h
  case extract t i =>
    split at h
    · rename_i a hx; exact sound_extract hr h (hρ _ _ hx)
    · simp at h
  case call c =>
    obtain ⟨callee, args, argTypes⟩ := c
    simp only at h
    split at h
    · simp [isCall] at hc
    · split at h
      · rename_i x t hargs htypes
        split at h
        · rename_i a hx
          have e1 : args = #[x] := Array.ext' (by simpa using hargs)
          have e2 : argTypes = #[t] := Array.ext' (by simpa using htypes)
          subst e1
          subst e2
          have := sound_len (t' := type) hΓ hr h (hρ _ _ hx)
          have hm : #[x].map ρ = #[ρ x] := by simp
          simp only [execOp, resolve, pure_bind, invoke, builtin, hm]
          exact this
        · simp at h
      · simp at h
    · split at h
      · rename_i x y t u hargs htypes
        split at h
        · rename_i a b hx hy
          have e1 : args = #[x, y] := Array.ext' (by simpa using hargs)
          have e2 : argTypes = #[t, u] := Array.ext' (by simpa using htypes)
          subst e1
          subst e2
          have := sound_append (ty := type) hΓ hr h hok (hρ _ _ hx) (hρ _ _ hy)
          have hm : #[x, y].map ρ = #[ρ x, ρ y] := by simp
          simp only [execOp, resolve, pure_bind, invoke, builtin, hm]
          exact this
        · simp at h
      · simp at h
    · split at h
      · rename_i x y t u hargs htypes
        split at h
        · rename_i a b hx hy
          have e1 : args = #[x, y] := Array.ext' (by simpa using hargs)
          have e2 : argTypes = #[t, u] := Array.ext' (by simpa using htypes)
          subst e1
          subst e2
          have := sound_min (P := P) (t1 := t) (t2 := u) (t' := type) hr h (hρ _ _ hx) (hρ _ _ hy)
          have hm : #[x, y].map ρ = #[ρ x, ρ y] := by simp
          simp only [execOp, resolve, pure_bind, invoke, builtin, hm]
          exact this
        · simp at h
      · simp at h
    · split at h
      · rename_i x y t u hargs htypes
        split at h
        · rename_i a b hx hy
          have e1 : args = #[x, y] := Array.ext' (by simpa using hargs)
          have e2 : argTypes = #[t, u] := Array.ext' (by simpa using htypes)
          subst e1
          subst e2
          have := sound_max (P := P) (t1 := t) (t2 := u) (t' := type) hr h (hρ _ _ hx) (hρ _ _ hy)
          have hm : #[x, y].map ρ = #[ρ x, ρ y] := by simp
          simp only [execOp, resolve, pure_bind, invoke, builtin, hm]
          exact this
        · simp at h
      · simp at h
    · simp at h

end
end Go.Rx
