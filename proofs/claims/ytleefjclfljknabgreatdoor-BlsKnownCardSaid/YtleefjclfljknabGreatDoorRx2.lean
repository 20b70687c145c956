/-
Reflective execution, part 2: what one operation does to symbolic values and memory.
-/
import Derived.Test.YtleefjclfljknabGreatDoorRx1
namespace Go.Rx

/-- What is known of a type: its underlying form, how many cells, its zero, and, if it can be compared cell by cell, its cells' kinds. -/
inductive K where
  | int (k : IntKind)
  | bool
  deriving DecidableEq, Inhabited

structure TI where
  desc : TypeDesc
  size : Nat
  bytes : Nat
  zero : Option Value
  eqk : Option (List K)

abbrev Tab := TypeId → Option TI

def K.Is : K → Value → Prop
  | .int k, v => ∃ n, v = .int k n
  | .bool, v => ∃ b, v = .bool b

def KsIs : List K → List Value → Prop
  | [], [] => True
  | k :: ks, v :: vs => k.Is v ∧ KsIs ks vs
  | _, _ => False

/-- Values of this type are compared cell by cell. -/
def EqOk (P : Program) (t : TypeId) (ks : List K) : Prop :=
  P.eqGuardType P.depth t = false ∧
  ∀ (xs ys : Array Value) (w : World), KsIs ks xs.toList → KsIs ks ys.toList →
    ∃ b : Bool, (b = true ↔ xs.toList = ys.toList) ∧ (Op.equal t (.agg xs) (.agg ys)).run P w = .ok b w

structure TI.Ok (P : Program) (t : TypeId) (ti : TI) : Prop where
  und : P.underlying t = some ti.desc
  info : ∃ i, P.info? t = some i ∧ i.size = ti.size ∧ i.zero = ti.zero ∧ i.bytes = ti.bytes
  eq : ∀ ks, ti.eqk = some ks → EqOk P t ks

def Tab.Ok (P : Program) (Γ : Tab) : Prop := ∀ t ti, Γ t = some ti → ti.Ok P t

/-- A call's premise: what the call comes to, in the callee's own small memory: the blocks handed in, and behind the call these and new ones. -/
def Invk (P : Program) (k : FuncId) (vs : Array Value) (w : World) (R : Value → World → Prop) : Prop :=
  (∃ j, (callFunc k vs).run P w = .ok (.enter j vs) w ∧ Calls P j vs w (fun e w' => ∃ x, e = .returned x ∧ R x w')) ∨
  (∃ x, (callFunc k vs).run P w = .ok (.value x) w ∧ R x w)

def Con (P : Program) (k : FuncId) (args : List AV) (m : List Blk) (r : AV) (m' : List Blk) : Prop :=
  ∀ (w : World) (ν : NV) (vs : Array Value), Rep w m.length ν (m.map some) w → DenAL ν args vs.toList →
    Invk P k vs w fun x w' => ∃ ν', NV.le ν ν' ∧ r.Den ν' x ∧ Rep w m.length ν' (m'.map some) w'

/-- What a call is said to come to: which blocks are handed by pointer, the result (over the callee's numbers), their contents behind it and the new blocks. -/
structure CallH where
  res : AV
  foot : List Nat := []
  mem : List Blk := []
  /-- which blocks handed in are as they were (what 'mem' says of these is not looked at) -/
  keep : List Bool := []

structure Hint where
  run : Bool := true
  dir : Bool := true
  call : Option CallH := none
  cast : Option AV := none

structure Out where
  av : AV
  rd : List Nat := []
  up : List (Nat × Blk) := []
  ok : Bool := true
  pre : List Prop := []

def Mem.app (m : Mem) : List (Nat × Blk) → Mem
  | [] => m
  | (i, b) :: r => Mem.app (m.set i (some b)) r

abbrev i64 (n : Int) : AV := .one (.c (.sc (.int .i64 n)))
abbrev u64 (n : Int) : AV := .one (.c (.sc (.int .u64 n)))
abbrev bool (b : Bool) : AV := .one (.c (.sc (.bool b)))

def ofVal : Value → V0
  | .agg cs => .agg (cs.toList.map .sc)
  | v => .c (.sc v)

/-- A constant is a plain value, or an aggregate of plain ones. -/
def constOk : Value → Bool
  | .agg cs => cs.toList.all plainB
  | .tuple _ => false
  | _ => true

def undefAV : AV := .tup []

def constAV (v : Value) : Option AV :=
  match v with
  | .tuple vs => if vs.toList.isEmpty then some undefAV else none
  | .agg cs => if cs.toList.all plainB then some (.one (.agg (cs.toList.map .sc))) else none
  | v => some (.one (.c (.sc v)))

/-- A frame's temporaries: a tree by the digits of their numbers. -/
inductive TT where
  | e
  | n (v : Option AV) (l r : TT)

noncomputable def TT.get (t : TT) : Nat → Option AV :=
  @TT.rec (fun _ => Nat → Option AV) (fun _ => none) (fun v _ _ gl gr k => @Bool.rec (fun _ => Option AV) (@Bool.rec (fun _ => Option AV) (gr ((k - 1) / 2)) (gl ((k - 1) / 2)) (Nat.beq (k % 2) 1)) v (Nat.beq k 0)) t

noncomputable def TT.put (x : AV) (t : TT) : Nat → TT :=
  @TT.rec (fun _ => Nat → TT) (fun _ => .e) (fun v l r pl pr k => @Bool.rec (fun _ => TT) (@Bool.rec (fun _ => TT) (.n v l (pr ((k - 1) / 2))) (.n v (pl ((k - 1) / 2)) r) (Nat.beq (k % 2) 1)) (.n (some x) l r) (Nat.beq k 0)) t

theorem nbeq (a b : Nat) : Nat.beq a b = (a == b) := by
  rw [Bool.eq_iff_iff, Nat.beq_eq, beq_iff_eq]

theorem brec {α : Type} (b : Bool) (x y : α) : @Bool.rec (fun _ => α) y x b = bif b then x else y := by
  cases b <;> rfl

theorem TT.get_e (k : Nat) : TT.get .e k = none := rfl
theorem TT.get_n (v : Option AV) (l r : TT) (k : Nat) : TT.get (.n v l r) k = bif k == 0 then v else bif k % 2 == 1 then l.get ((k - 1) / 2) else r.get ((k - 1) / 2) := by
  rw [← nbeq k 0, ← nbeq (k % 2) 1]
  show @Bool.rec (fun _ => Option AV) (@Bool.rec (fun _ => Option AV) (r.get ((k - 1) / 2)) (l.get ((k - 1) / 2)) (Nat.beq (k % 2) 1)) v (Nat.beq k 0) = _
  rw [brec, brec]
theorem TT.put_e (x : AV) (k : Nat) : TT.put x .e k = .e := rfl
theorem TT.put_n (x : AV) (v : Option AV) (l r : TT) (k : Nat) : TT.put x (.n v l r) k = bif k == 0 then .n (some x) l r else bif k % 2 == 1 then .n v (l.put x ((k - 1) / 2)) r else .n v l (r.put x ((k - 1) / 2)) := by
  rw [← nbeq k 0, ← nbeq (k % 2) 1]
  show @Bool.rec (fun _ => TT) (@Bool.rec (fun _ => TT) (.n v l (r.put x ((k - 1) / 2))) (.n v (l.put x ((k - 1) / 2)) r) (Nat.beq (k % 2) 1)) (.n (some x) l r) (Nat.beq k 0) = _
  rw [brec, brec]

def TT.full (x : AV) : Nat → TT
  | 0 => .e
  | d + 1 => .n (some x) (TT.full x d) (TT.full x d)

theorem TT.get_put_ne (x : AV) : ∀ (t : TT) (a b : Nat), a ≠ b → (t.put x a).get b = t.get b
  | .e, _, _, _ => rfl
  | .n v l r, a, b, h => by
    rw [TT.put_n]
    cases ha : (a == 0) with
    | true =>
      have hb : (b == 0) = false := by simp at ha ⊢; omega
      simp only [cond_true, cond_false, TT.get_n, hb]
    | false =>
      cases ha2 : (a % 2 == 1) with
      | true =>
        simp only [cond_true, cond_false, TT.get_n]
        cases hb : (b == 0) with
        | true => rfl
        | false =>
          cases hb2 : (b % 2 == 1) with
          | true =>
            simp only [cond_true, cond_false]
            exact TT.get_put_ne x l _ _ (by simp at ha ha2 hb hb2; omega)
          | false => rfl
      | false =>
        simp only [cond_false, TT.get_n]
        cases hb : (b == 0) with
        | true => rfl
        | false =>
          cases hb2 : (b % 2 == 1) with
          | true => rfl
          | false =>
            simp only [cond_false]
            exact TT.get_put_ne x r _ _ (by simp at ha ha2 hb hb2; omega)

theorem TT.get_put_eq (x : AV) : ∀ (t : TT) (a : Nat) (y : AV), (t.put x a).get a = some y → y = x
  | .e, _, _, h => by simp [TT.put_e, TT.get_e] at h
  | .n v l r, a, y, h => by
    rw [TT.put_n] at h
    cases ha : (a == 0) with
    | true => simp [TT.get_n, ha] at h; exact h.symm
    | false =>
      cases ha2 : (a % 2 == 1) with
      | true =>
        simp only [ha, ha2, cond_true, cond_false, TT.get_n] at h
        exact TT.get_put_eq x l _ _ h
      | false =>
        simp only [ha, ha2, cond_false, TT.get_n] at h
        exact TT.get_put_eq x r _ _ h

theorem TT.put_comm (x y : AV) : ∀ (t : TT) (a b : Nat), a ≠ b → (t.put x a).put y b = (t.put y b).put x a
  | .e, _, _, _ => rfl
  | .n v l r, a, b, h => by
    cases ha : (a == 0) with
    | true =>
      have hb : (b == 0) = false := by simp at ha ⊢; omega
      cases hb2 : (b % 2 == 1) <;> simp only [TT.put_n, ha, hb, hb2, cond_true, cond_false]
    | false =>
      cases hb : (b == 0) with
      | true => cases ha2 : (a % 2 == 1) <;> simp only [TT.put_n, ha, hb, ha2, cond_true, cond_false]
      | false =>
        cases ha2 : (a % 2 == 1) with
        | true =>
          cases hb2 : (b % 2 == 1) with
          | true =>
            simp only [TT.put_n, ha, hb, ha2, hb2, cond_true, cond_false]
            rw [TT.put_comm x y l _ _ (by simp at ha ha2 hb hb2; omega)]
          | false => simp only [TT.put_n, ha, hb, ha2, hb2, cond_true, cond_false]
        | false =>
          cases hb2 : (b % 2 == 1) with
          | true => simp only [TT.put_n, ha, hb, ha2, hb2, cond_true, cond_false]
          | false =>
            simp only [TT.put_n, ha, hb, ha2, hb2, cond_false]
            rw [TT.put_comm x y r _ _ (by simp at ha ha2 hb hb2; omega)]

theorem TT.full_get (x : AV) : ∀ (d k : Nat) (y : AV), (TT.full x d).get k = some y → y = x
  | 0, _, _, h => by simp [TT.full, TT.get_e] at h
  | d + 1, k, y, h => by
    simp only [TT.full, TT.get_n] at h
    cases hk : (k == 0) with
    | true => simp [hk] at h; exact h.symm
    | false =>
      simp only [hk, cond_false, Bool.cond_self] at h
      exact TT.full_get x d _ _ h

structure Tmps where
  nt : Nat
  t : TT

noncomputable def rho (T : Tmps) : Operand → Option AV
  | .tmp t => T.t.get t
  | .const v => constAV v
  | .global g => some (.one (.c (.sc (.pointer (some ⟨g, 0, none⟩)))))
  | .func f => some (.one (.c (.sc (.func (.func f) #[] #[]))))

def cInt : Option Cell → Int
  | some (.sc (.int _ n)) => n
  | _ => 0
def cIsInt (k : IntKind) : Option Cell → Bool
  | some (.sc (.int k' _)) => decide (k' = k)
  | _ => false
def cBool : Option Cell → Bool
  | some (.sc (.bool b)) => b
  | _ => false
def cIsBool : Option Cell → Bool
  | some (.sc (.bool _)) => true
  | _ => false

def val (a : AV) : Option Out := some { av := a }

/-- A value of one type out of a row of cells. -/
def takeV (ti : TI) (cs : List Cell) (off : Nat) : Option (V0 × Bool) :=
  match ti.desc with
  | .struct _ => some (.agg ((cs.drop off).take ti.size), decide (off + ti.size ≤ cs.length))
  | .array _ _ => some (.agg ((cs.drop off).take ti.size), decide (off + ti.size ≤ cs.length))
  | .int k => some (.c (.sc (.int k (cInt cs[off]?))), cIsInt k cs[off]?)
  | .bool => some (.c (.sc (.bool (cBool cs[off]?))), cIsBool cs[off]?)
  | _ =>
    match cs[off]? with
    | some c => some (.c c, true)
    | none => none

/-- Is it a row of cells? -/
def Blk.row (b : Blk) : Bool := match b.kind with | .exact => true | .opened _ => true | _ => false

/-- Where a pointer points: a block, a place in it, the variable whose block it must be (then the block is number 0). -/
def place : AV → Option (Nat × Nat × Option Nat)
  | .one (.c (.ptr b off)) => some (b, off, none)
  | .one (.c (.sc (.pointer (some ⟨g, off, none⟩)))) => some (0, off, some g)
  | _ => none

def globOk (g : Option Nat) (b : Blk) : Bool :=
  match g with
  | none => true
  | some g => match b.glob with | some g' => g' == g | none => false

def coreLoad (Γ : Tab) (t : TypeId) (a : AV) (m : Mem) : Option Out :=
  match place a, Γ t with
  | some (b, off, g), some ti =>
    match m[b]? with
    | some (some blk) =>
      match takeV ti blk.cells off with
      | some (v, ok) => some { av := .one v, rd := [b], ok := globOk g blk && (blk.row && ok) }
      | none => none
    | _ => none
  | _, _ => none

def setCells : List Cell → Nat → List Cell → List Cell
  | l, _, [] => l
  | l, i, c :: r => setCells (l.set i c) (i + 1) r

def coreStore (Γ : Tab) (t : TypeId) (a x : AV) (m : Mem) : Option Out :=
  match a, x, Γ t with
  | .one (.c (.ptr b off)), .one v, some ti =>
    match m[b]? with
    | some (some blk) =>
      match blk.ro with
      | true => none
      | false => some { av := undefAV, rd := [b], up := [(b, { blk with cells := setCells blk.cells off v.cells })], ok := blk.row && (decide (v.cells.length = ti.size) && decide (off + v.cells.length ≤ blk.cells.length)) }
    | _ => none
  | _, _, _ => none

def newBlk (m : Mem) (id : Nat) (blk : Blk) (a : AV) : Option Out :=
  match m[id]? with
  | some none => some { av := a, rd := [id], up := [(id, blk)] }
  | _ => none

def ptrTo (id : Nat) : AV := .one (.c (.ptr id 0))

def coreAlloc (Γ : Tab) (t : TypeId) (id : Nat) (m : Mem) : Option Out :=
  match Γ t with
  | some ti =>
    match ti.zero with
    | some z => if constOk z then newBlk m id { cells := (ofVal z).cells, ty := t } (ptrTo id) else none
    | none => none
  | none => none

def coreBox (t : TypeId) (x : AV) (id : Nat) (m : Mem) : Option Out :=
  match x with
  | .one v => newBlk m id { cells := v.cells, ty := t } (ptrTo id)
  | _ => none

def fieldOf (Γ : Tab) (s : TypeId) (f : Nat) : Option (Field × TI) :=
  match Γ s with
  | some ti =>
    match ti.desc with
    | .struct fs =>
      match fs.toList[f]? with
      | some fd =>
        match Γ fd.type with
        | some tf => some (fd, tf)
        | none => none
      | none => none
    | _ => none
  | none => none

def coreFieldAddr (Γ : Tab) (s : TypeId) (x : AV) (f : Nat) : Option Out :=
  match x, fieldOf Γ s f with
  | .one (.c (.ptr b off)), some (fd, tf) => if tf.size = 0 then none else val (.one (.c (.ptr b (off + fd.offset))))
  | _, _ => none

def coreField (Γ : Tab) (s : TypeId) (x : AV) (f : Nat) : Option Out :=
  match x, fieldOf Γ s f with
  | .one (.agg cs), some (fd, tf) =>
    match takeV tf cs fd.offset with
    | some (v, ok) => some { av := .one v, ok }
    | none => none
  | _, _ => none

def inB (i : Int) (n : Nat) : Bool := decide (0 ≤ i) && decide (i < n)

def coreIndexAddr (Γ : Tab) (t : TypeId) (x ix : AV) : Option Out :=
  match Γ t, ix with
  | some ti, .one (.c (.sc (.int _ i))) =>
    match ti.desc, x with
    | .array len e, .one (.c (.ptr b off)) =>
      match Γ e with
      | some te => some { av := .one (.c (.ptr b (off + i.toNat * te.size))), ok := inB i len }
      | none => none
    | .slice e, .one (.c (.slc b off len _)) =>
      match Γ e with
      | some te => some { av := .one (.c (.ptr b (off + i.toNat * te.size))), ok := inB i len }
      | none => none
    | .slice e, .one (.c (.slu b _ _ off len)) =>
      match Γ e with
      | some te => some { av := .one (.c (.ptr b (off + i.toNat * te.size))), ok := inB i len }
      | none => none
    | .array len e, .one (.c (.sc (.pointer (some ⟨g, off, none⟩)))) =>
      match Γ e with
      | some te => some { av := .one (.c (.sc (.pointer (some ⟨g, off + i.toNat * te.size, none⟩)))), ok := inB i len }
      | none => none
    | _, _ => none
  | _, _ => none

def coreIndex (Γ : Tab) (t : TypeId) (x ix : AV) : Option Out :=
  match Γ t, ix with
  | some ti, .one (.c (.sc (.int _ i))) =>
    match ti.desc, x with
    | .array len e, .one (.agg cs) =>
      match Γ e with
      | some te =>
        match takeV te cs (i.toNat * te.size) with
        | some (v, ok) => some { av := .one v, ok := inB i len && ok }
        | none => none
      | none => none
    | _, _ => none
  | _, _ => none

/-- Laying parts into a row of cells. -/
def fillCells (place : Nat → Option (Nat × Nat)) (cells : List Cell) : List (Nat × V0) → Option (List Cell)
  | [] => some cells
  | (i, v) :: rest =>
    match place i with
    | none => none
    | some (off, size) =>
      if v.cells.length ≠ size || off + v.cells.length > cells.length then none
      else fillCells place (setCells cells off v.cells) rest

def rhoParts (ρ : Operand → Option AV) : List (Nat × Operand) → Option (List (Nat × V0))
  | [] => some []
  | (i, x) :: r =>
    match ρ x, rhoParts ρ r with
    | some (.one v), some l => some ((i, v) :: l)
    | _, _ => none

def fieldPlaces (Γ : Tab) : List Field → Option (List (Nat × Nat))
  | [] => some []
  | f :: r =>
    match Γ f.type, fieldPlaces Γ r with
    | some tf, some l => some ((f.offset, tf.size) :: l)
    | _, _ => none

def zeroCells (ti : TI) : Option (List Cell) :=
  match ti.zero with
  | some z => if constOk z then some (ofVal z).cells else none
  | none => none

def coreBuild (Γ : Tab) (t : TypeId) (parts : List (Nat × V0)) : Option Out :=
  match Γ t with
  | some ti =>
    match zeroCells ti, ti.desc with
    | some z, .struct fs =>
      match fieldPlaces Γ fs.toList with
      | some pl =>
        match fillCells (pl[·]?) z parts with
        | some cs => val (.one (.agg cs))
        | none => none
      | none => none
    | some z, .array _ e =>
      match Γ e with
      | some te =>
        match fillCells (fun i => some (i * te.size, te.size)) z parts with
        | some cs => val (.one (.agg cs))
        | none => none
      | none => none
    | _, _ => none
  | none => none

/-- n copies of a row. -/
def copies (z : List Cell) : Nat → List Cell
  | 0 => []
  | n + 1 => z ++ copies z n

def coreBuildSlice (Γ : Tab) (t : TypeId) (len : Nat) (parts : List (Nat × V0)) (id : Nat) (m : Mem) : Option Out :=
  match Γ t with
  | some ti =>
    match ti.desc with
    | .slice e =>
      match Γ e with
      | some te =>
        if len = 0 && parts.isEmpty then newBlk m id { cells := [], ty := e } (.one (.c (.slc id 0 0 0))) else
        match zeroCells te with
        | some z =>
          if z.length ≠ te.size || te.size = 0 || len = 0 || len * te.size > 16777216 then none else
          match fillCells (fun i => some (i * te.size, te.size)) (copies z len) parts with
          | some cs => newBlk m id { cells := cs, ty := e } (.one (.c (.slc id 0 len len)))
          | none => none
        | none => none
      | none => none
    | _ => none
  | none => none

def arith (op : BinOp) (k : IntKind) (a b : Int) : Option AV :=
  match op with
  | .add => some (.one (.c (.sc (.int k (k.wrap (a + b))))))
  | .sub => some (.one (.c (.sc (.int k (k.wrap (a - b))))))
  | .mul => some (.one (.c (.sc (.int k (k.wrap (a * b))))))
  | .and => some (.one (.c (.sc (.int k (k.wrap ((BitVec.ofInt k.bits a &&& BitVec.ofInt k.bits b).toNat))))))
  | .or => some (.one (.c (.sc (.int k (k.wrap ((BitVec.ofInt k.bits a ||| BitVec.ofInt k.bits b).toNat))))))
  | .xor => some (.one (.c (.sc (.int k (k.wrap ((BitVec.ofInt k.bits a ^^^ BitVec.ofInt k.bits b).toNat))))))
  | .andNot => some (.one (.c (.sc (.int k (k.wrap ((BitVec.ofInt k.bits a &&& ~~~ BitVec.ofInt k.bits b).toNat))))))
  | .eql => some (bool (a == b))
  | .neq => some (bool (a != b))
  | .lss => some (bool (decide (a < b)))
  | .leq => some (bool (decide (a ≤ b)))
  | .gtr => some (bool (decide (a > b)))
  | .geq => some (bool (decide (a ≥ b)))
  | _ => none

def uBits : IntKind → Option Nat
  | .u8 => some 8
  | .u16 => some 16
  | .u32 => some 32
  | .u64 => some 64
  | _ => none

abbrev natAV (k : IntKind) (n : Nat) : AV := .one (.c (.sc (.int k (Int.ofNat n))))

/-- Numbers without a sign, as natural numbers. -/
def natBin (op : BinOp) (k : IntKind) (n x y : Nat) : Option AV :=
  match op with
  | .add => some (natAV k ((x + y) % 2 ^ n))
  | .sub => some (natAV k ((x + (2 ^ n - y % 2 ^ n)) % 2 ^ n))
  | .mul => some (natAV k (x * y % 2 ^ n))
  | .and => some (natAV k ((x % 2 ^ n) &&& (y % 2 ^ n)))
  | .or => some (natAV k ((x % 2 ^ n) ||| (y % 2 ^ n)))
  | .xor => some (natAV k ((x % 2 ^ n) ^^^ (y % 2 ^ n)))
  | .eql => some (bool (x == y))
  | .neq => some (bool (x != y))
  | .lss => some (bool (decide (x < y)))
  | .leq => some (bool (decide (x ≤ y)))
  | .gtr => some (bool (decide (x > y)))
  | .geq => some (bool (decide (x ≥ y)))
  | _ => none

/-- A binary operation on two numbers of one kind, neither a shift nor a division. -/
def intBin (op : BinOp) (k : IntKind) (a b : Int) : Option AV :=
  match uBits k with
  | some n =>
    match a, b with
    | .ofNat x, .ofNat y => natBin op k n x y
    | _, _ => none
  | none => arith op k a b

def quoAV (k : IntKind) (a b : Int) : Option AV :=
  match uBits k with
  | some n =>
    match a, b with
    | .ofNat x, .ofNat y => some (natAV k (x / y % 2 ^ n))
    | _, _ => none
  | none => some (.one (.c (.sc (.int k (k.wrap (a.tdiv b))))))

def remAV (k : IntKind) (a b : Int) : Option AV :=
  match uBits k with
  | some _ =>
    match a, b with
    | .ofNat x, .ofNat y => some (natAV k (x % y))
    | _, _ => none
  | none => some (.one (.c (.sc (.int k (a.tmod b)))))

def shlAV (k : IntKind) (a b : Int) : Option AV :=
  match uBits k with
  | some n =>
    match a with
    | .ofNat x => some (natAV k (x * 2 ^ (min b.toNat k.bits) % 2 ^ n))
    | _ => none
  | none => some (.one (.c (.sc (.int k (k.wrap (a * 2 ^ (min b.toNat k.bits)))))))

def shrAV (k : IntKind) (a b : Int) : Option AV :=
  match uBits k with
  | some _ =>
    match a with
    | .ofNat x => some (natAV k (x / 2 ^ (min b.toNat k.bits)))
    | _ => none
  | none => some (.one (.c (.sc (.int k (a.fdiv (2 ^ (min b.toNat k.bits)))))))

def convAV (k : IntKind) (a : Int) : Option AV :=
  match uBits k with
  | some n =>
    match a with
    | .ofNat x => some (natAV k (x % 2 ^ n))
    | _ => some (.one (.c (.sc (.int k (k.wrap a)))))
  | none => some (.one (.c (.sc (.int k (k.wrap a)))))

def ksOk : List K → List Cell → Bool
  | [], [] => true
  | .int k :: ks, c :: cs => cIsInt k (some c) && ksOk ks cs
  | .bool :: ks, c :: cs => cIsBool (some c) && ksOk ks cs
  | _, _ => false

/-- Whether two rows of numbers and bools are the same. -/
def eqCells : List Cell → List Cell → Bool
  | [], [] => true
  | c :: cs, d :: ds => (cInt (some c) == cInt (some d)) && (cBool (some c) == cBool (some d)) && eqCells cs ds
  | _, _ => false

def coreBin (Γ : Tab) (op : BinOp) (t : TypeId) (x y : AV) : Option Out :=
  match x, y with
  | .one (.c (.sc (.int k a))), .one (.c (.sc (.int k' b))) =>
    match op with
    | .shl => match shlAV k a b with | some r => some { av := r, ok := decide (0 ≤ b) } | none => none
    | .shr => match shrAV k a b with | some r => some { av := r, ok := decide (0 ≤ b) } | none => none
    | .quo => if k = k' then (match quoAV k a b with | some r => some { av := r, ok := !decide (b = 0) } | none => none) else none
    | .rem => if k = k' then (match remAV k a b with | some r => some { av := r, ok := !decide (b = 0) } | none => none) else none
    | op => if k = k' then (match intBin op k a b with | some r => val r | none => none) else none
  | .one (.c (.sc (.bool a))), .one (.c (.sc (.bool b))) =>
    match Γ t with
    | some ti =>
      match ti.desc, op with
      | .bool, .eql => val (bool (a == b))
      | .bool, .neq => val (bool (!(a == b)))
      | _, _ => none
    | none => none
  | .one (.agg xs), .one (.agg ys) =>
    match Γ t with
    | some ti =>
      match ti.eqk, op with
      | some ks, .eql => some { av := bool (eqCells xs ys), ok := ksOk ks xs && ksOk ks ys }
      | some ks, .neq => some { av := bool (!(eqCells xs ys)), ok := ksOk ks xs && ksOk ks ys }
      | _, _ => none
    | none => none
  | _, _ => none

def coreUn (op : UnOp) (x : AV) : Option Out :=
  match op, x with
  | .neg, .one (.c (.sc (.int k n))) => val (.one (.c (.sc (.int k (k.wrap (0 - n))))))
  | .xor, .one (.c (.sc (.int k n))) => val (.one (.c (.sc (.int k (k.wrap ((BitVec.ofInt k.bits (if k.signed then -1 else k.max) ^^^ BitVec.ofInt k.bits n).toNat))))))
  | .not, .one (.c (.sc (.bool b))) => val (bool (!b))
  | _, _ => none

def coreConv (Γ : Tab) (src dst : TypeId) (x : AV) : Option Out :=
  match x, Γ src, Γ dst with
  | .one (.c (.sc (.int _ n))), some ts, some ti =>
    match ts.desc, ti.desc with
    | .int _, .int k => (match convAV k n with | some r => val r | none => none)
    | _, _ => none
  | _, _, _ => none

def coreNil (x : AV) : Option Out :=
  match x with
  | .one (.c (.ptr b o)) => val (.one (.c (.ptr b o)))
  | .one (.c (.sc (.func (.func _k) first caps))) => if first.toList.isEmpty && caps.toList.isEmpty then val x else none
  | .clo f l => val (.clo f l)
  | _ => none

def coreExtract (x : AV) (i : Nat) : Option Out :=
  match x with
  | .tup l =>
    match l[i]? with
    | some v => val (.one v)
    | none => none
  | _ => none

def rhoAll (ρ : Operand → Option AV) : List Operand → Option (List AV)
  | [] => some []
  | x :: r =>
    match ρ x, rhoAll ρ r with
    | some a, some l => some (a :: l)
    | _, _ => none

def toV0s : List AV → Option (List V0)
  | [] => some []
  | .one v :: r =>
    match toV0s r with
    | some l => some (v :: l)
    | none => none
  | _ :: _ => none

def lookB (m : Mem) : List Nat → Option (List Blk)
  | [] => some []
  | i :: r =>
    match m[i]?, lookB m r with
    | some (some b), some l => some (b :: l)
    | _, _ => none

/-- The caller's number of a small one: those handed in, then new ones from 'id' on. -/
def bigId (foot : List Nat) (id : Nat) (i : Nat) : Nat := (foot[i]?).getD (id + (i - foot.length))

def Cell.ren (f : Nat → Nat) : Cell → Cell
  | .ptr b o => .ptr (f b) o
  | .slc b o l c => .slc (f b) o l c
  | .slu b s z o l => .slu (f b) (f s) z o l
  | .mp b => .mp (f b)
  | c => c
def V0.ren (f : Nat → Nat) : V0 → V0
  | .c x => .c (x.ren f)
  | .agg l => .agg (l.map (Cell.ren f))
def AV.ren (f : Nat → Nat) : AV → AV
  | .one x => .one (x.ren f)
  | .tup l => .tup (l.map (V0.ren f))
  | .clo k l => .clo k (l.map (V0.ren f))
def BK.ren (f : Nat → Nat) : BK → BK
  | .opened s => .opened (f s)
  | .map es k => .map (es.map fun e => (e.1, e.2.1.ren f, e.2.2)) k
  | k => k
def Blk.ren (f : Nat → Nat) (b : Blk) : Blk := { b with cells := b.cells.map (Cell.ren f), kind := b.kind.ren f }

def ups (foot : List Nat) (id : Nat) : Nat → List Blk → List (Nat × Blk)
  | _, [] => []
  | j, b :: r => (bigId foot id j, b.ren (bigId foot id)) :: ups foot id (j + 1) r

/-- Blocks behind a call: those kept are as they were. -/
def fillK : List Bool → List Blk → List Blk → List Blk
  | true :: ks, b :: bs, _ :: ms => b :: fillK ks bs ms
  | false :: ks, _ :: bs, m :: ms => m :: fillK ks bs ms
  | _, _, ms => ms

def upsK (foot : List Nat) (id : Nat) : List Bool → Nat → List Blk → List Blk → List (Nat × Blk)
  | true :: ks, j, _ :: bs, _ :: ms => upsK foot id ks (j + 1) bs ms
  | false :: ks, j, _ :: bs, b :: ms => (bigId foot id j, b.ren (bigId foot id)) :: upsK foot id ks (j + 1) bs ms
  | _, j, _, ms => ups foot id j ms

def nodupB : List Nat → Bool
  | [] => true
  | x :: r => !r.contains x && nodupB r

/-- New numbers are free. -/
def freeIds (m : Mem) (id : Nat) : Nat → Bool
  | 0 => true
  | n + 1 => (match m[id]? with | some none => true | _ => false) && freeIds m (id + 1) n

def idsFrom (id : Nat) : Nat → List Nat
  | 0 => []
  | n + 1 => id :: idsFrom (id + 1) n

/-- The function that a value names, and what it captured. -/
def callee : AV → Option (FuncId × List V0)
  | .clo k caps => some (k, caps)
  | .one (.c (.sc (.func (.func k) first caps))) => if first.toList.isEmpty && caps.toList.isEmpty then some (k, []) else none
  | _ => none

/-- The caller's number of a block handed in; another number is nobody's. -/
def bigIn (foot : List Nat) (top : Nat) (i : Nat) : Nat := (foot[i]?).getD top

/-- Where a number stands in a row. -/
def posIn : List Nat → Nat → Nat
  | [], _ => 0
  | x :: r, y => if x = y then 0 else posIn r y + 1

def Cell.inB (F : List Nat) : Cell → Bool
  | .ptr b _ => F.contains b
  | .slc b _ _ _ => F.contains b
  | .slu b s _ _ _ => F.contains b && F.contains s
  | .mp b => F.contains b
  | _ => true
def V0.inB (F : List Nat) : V0 → Bool
  | .c x => x.inB F
  | .agg l => l.all (Cell.inB F)
def AV.inB (F : List Nat) : AV → Bool
  | .one x => x.inB F
  | .tup l => l.all (V0.inB F)
  | .clo _ l => l.all (V0.inB F)

def BK.inB (F : List Nat) : BK → Bool
  | .opened s => F.contains s
  | .map es _ => es.all fun e => e.2.1.inB F
  | _ => true
def Blk.inB (F : List Nat) (b : Blk) : Bool := b.cells.all (Cell.inB F) && b.kind.inB F

def roSame : List Blk → List Blk → Bool
  | [], _ => true
  | b :: r, b' :: r' => (b.ro == b'.ro && b.ghost == b'.ghost && (!b'.live || b.live)) && roSame r r'
  | _ :: _, [] => false

def coreCall (P : Program) (f : AV) (args : List AV) (h : Hint) (id : Nat) (m : Mem) : Option Out :=
  match callee f, h.call with
  | some (k, caps), some c =>
    match lookB m c.foot with
    | some bs =>
      if nodupB c.foot && freeIds m id (c.mem.length - c.foot.length) && roSame bs (fillK c.keep (bs.map (Blk.ren (posIn c.foot))) c.mem) && args.all (AV.inB c.foot) && caps.all (V0.inB c.foot) && bs.all (Blk.inB c.foot) && bs.all (fun b => b.ro || b.live) && (fillK c.keep (bs.map (Blk.ren (posIn c.foot))) c.mem).all (fun b => b.ro || !b.ghost) then
        some {
          av := c.res.ren (bigId c.foot id)
          rd := c.foot ++ idsFrom id (c.mem.length - c.foot.length)
          up := upsK c.foot id c.keep 0 (bs.map (Blk.ren (posIn c.foot))) c.mem
          pre := [Con P k ((args ++ caps.map AV.one).map (AV.ren (posIn c.foot))) (bs.map (Blk.ren (posIn c.foot))) c.res (fillK c.keep (bs.map (Blk.ren (posIn c.foot))) c.mem)] }
      else none
    | none => none
  | _, _ => none

/-! ### Slices -/

def bnd : Option AV → Option (Option Int)
  | none => some none
  | some (.one (.c (.sc (.int _ i)))) => some (some i)
  | _ => none

structure Bounds where
  l : Nat
  h : Nat
  m : Nat
  ok : Bool

def inTo (i : Int) (n : Nat) : Bool := decide (0 ≤ i) && decide (i ≤ n)

/-- The bounds of a slice expression; 'top' is what a high bound may be at most. -/
def boundsOf (len cap top : Nat) (lo hi mx : Option Int) : Option Bounds :=
  match mx, hi with
  | some x, some h => some ⟨(lo.getD 0).toNat, h.toNat, x.toNat, inTo x top && inTo h x.toNat && inTo (lo.getD 0) h.toNat⟩
  | some _, none => none
  | none, some h => some ⟨(lo.getD 0).toNat, h.toNat, cap, inTo h top && inTo (lo.getD 0) h.toNat⟩
  | none, none => some ⟨(lo.getD 0).toNat, len, cap, inTo (lo.getD 0) len⟩

def coreSlice (Γ : Tab) (t : TypeId) (x : AV) (lo hi mx : Option AV) : Option Out :=
  match Γ t, bnd lo, bnd hi, bnd mx with
  | some ti, some lo, some hi, some mx =>
    match ti.desc, x with
    | .array n e, .one (.c (.ptr b off)) =>
      match Γ e, boundsOf n n n lo hi mx with
      | some te, some r => some { av := .one (.c (.slc b (if r.m = r.l then off else off + r.l * te.size) (r.h - r.l) (r.m - r.l))), ok := r.ok }
      | _, _ => none
    | .slice e, .one (.c (.slc b off len cap)) =>
      match Γ e, boundsOf len cap cap lo hi mx with
      | some te, some r => some { av := .one (.c (.slc b (if r.m = r.l then off else off + r.l * te.size) (r.h - r.l) (r.m - r.l))), ok := r.ok }
      | _, _ => none
    | .slice e, .one (.c (.slu b s z off len)) =>
      match Γ e with
      | some te =>
        match mx with
        | some mx =>
          match boundsOf len len len lo hi (some mx) with
          | some r => some { av := .one (.c (.slc b (if r.m = r.l then off else off + r.l * te.size) (r.h - r.l) (r.m - r.l))), ok := r.ok }
          | none => none
        | none =>
          match boundsOf len len len lo hi none with
          | some r =>
            match decide (r.l < len) with
            | true => some { av := .one (.c (.slu b s z (off + r.l * te.size) (r.h - r.l))), ok := r.ok && decide (te.size = z) }
            | false => some { av := .one (.c .sl0), ok := r.ok }
          | none => none
      | none => none
    | .slice e, .one (.c (.sc (.slice none n c))) =>
      match Γ e, boundsOf n c c lo hi mx with
      | some _, some r => some { av := .one (.c (.sc (.slice none (r.h - r.l) (r.m - r.l)))), ok := r.ok }
      | _, _ => none
    | _, _ => none
  | _, _, _, _ => none

/-- What an append takes its elements from: how many, the cells, the blocks looked at, whether it is so. -/
structure SrcR where
  n : Nat
  cells : List Cell
  rd : List Nat
  ok : Bool

def byteCells (s : ByteArray) : List Cell := s.data.toList.map fun b => .sc (.int .u8 b.toNat)

def srcOf (m : Mem) (size : Nat) (x : AV) : Option SrcR :=
  match x with
  | .one (.c (.slc b off n _)) =>
    match m[b]? with
    | some (some blk) => some ⟨n, (blk.cells.drop off).take (n * size), [b], blk.row && decide (off + n * size ≤ blk.cells.length)⟩
    | _ => none
  | .one (.c (.slu b _ _ off n)) =>
    match m[b]? with
    | some (some blk) => some ⟨n, (blk.cells.drop off).take (n * size), [b], blk.row && decide (off + n * size ≤ blk.cells.length)⟩
    | _ => none
  | .one (.c (.sc (.slice none 0 _))) => some ⟨0, [], [], true⟩
  | .one (.c .sl0) => some ⟨0, [], [], true⟩
  | .one (.c (.sc (.string s))) => some ⟨s.size, byteCells s, [], true⟩
  | _ => none

def notInt (d : TypeDesc) : Bool := match d with | .int _ => false | _ => true

def free2 (m : Mem) (id : Nat) : Bool :=
  match m[id]?, m[id + 1]? with
  | some none, some none => true
  | _, _ => false

def ghostBlk : Blk := { cells := [], ty := 0, ro := true, kind := .ghost }
def deadBlk : Blk := { cells := [], ty := 0, kind := .dead }

/-- A new row of which the beginning is known. -/
def grown (e : TypeId) (te : TI) (id : Nat) (rd : List Nat) (n : Nat) (cells : List Cell) (ok : Bool) : Option Out :=
  match zeroCells te with
  | some z => some { av := .one (.c (.slu id (id + 1) te.size 0 n)), rd := rd ++ [id, id + 1], up := [(id + 1, ghostBlk), (id, { cells := cells, ty := e, kind := .opened (id + 1) })],
                     ok := ok && (decide (z.length = te.size) && decide (0 < te.size) && decide (0 < te.bytes) && decide ((2 * n + 192) * te.bytes ≤ 2 ^ 48) && decide (cells.length = n * te.size)) }
  | none => none

def coreAppend (Γ : Tab) (t tx : TypeId) (s x : AV) (id : Nat) (m : Mem) : Option Out :=
  match Γ t, Γ tx, free2 m id with
  | some ti, some tix, true =>
    match ti.desc, notInt tix.desc with
    | .slice e, true =>
      match Γ e with
      | some te =>
        match srcOf m te.size x with
        | some src =>
          match s with
          | .one (.c (.sc (.slice none 0 0))) =>
            match src.n with
            | 0 => some { av := s, rd := src.rd ++ [id, id + 1], ok := src.ok }
            | _ => grown e te id src.rd src.n src.cells (src.ok && decide (0 < src.n))
          | .one (.c (.slc b off len cap)) =>
            match m[b]? with
            | some (some blk) =>
              match decide (len + src.n ≤ cap) with
              | true =>
                match blk.ro with
                | true => none
                | false => some { av := .one (.c (.slc b off (len + src.n) cap)), rd := b :: src.rd ++ [id, id + 1], up := [(b, { blk with cells := setCells blk.cells (off + len * te.size) src.cells })],
                                  ok := src.ok && blk.row && decide (off + len * te.size + src.cells.length ≤ blk.cells.length) }
              | false => grown e te id (b :: src.rd) (len + src.n) ((blk.cells.drop off).take (len * te.size) ++ src.cells) (src.ok && blk.row && decide (off + len * te.size ≤ blk.cells.length) && decide (cap < len + src.n) && decide (cap ≤ len))
            | _ => none
          | .one (.c (.slu b g z off len)) =>
            match src.n with
            | 0 => some { av := s, rd := src.rd ++ [id, id + 1], ok := src.ok }
            | _ =>
              match m[b]? with
              | some (some blk) =>
                match blk.kind, blk.ro, blk.glob with
                | .opened g', false, none =>
                  match grown e te id (b :: src.rd) (len + src.n) (blk.cells ++ src.cells) (src.ok && decide (g' = g) && decide (off = 0) && decide (z = te.size) && decide (blk.cells.length = len * te.size) && decide (blk.ty = e) && decide (0 < src.n)) with
                  | some out => some { out with up := (b, deadBlk) :: out.up }
                  | none => none
                | _, _, _ => none
              | _ => none
          | _ => none
        | none => none
      | none => none
    | _, _ => none
  | _, _, _ => none

def coreStrBytes (Γ : Tab) (src dst : TypeId) (x : AV) (id : Nat) (m : Mem) : Option Out :=
  match x, Γ src, Γ dst, free2 m id with
  | .one (.c (.sc (.string s))), some ts, some td, true =>
    match ts.desc, td.desc with
    | .string, .slice e =>
      match Γ e with
      | some te =>
        match te.desc with
        | .int .u8 => some { av := .one (.c (.slu id (id + 1) 1 0 s.size)), rd := [id, id + 1], up := [(id + 1, ghostBlk), (id, { cells := byteCells s, ty := e, kind := .opened (id + 1) })] }
        | _ => none
      | none => none
    | _, _ => none
  | _, _, _, _ => none

def coreArrayAt (Γ : Tab) (arr : TypeId) (x : AV) : Option Out :=
  match Γ arr, x with
  | some ti, .one (.c (.slc b off len _)) => (match ti.desc with | .array n _ => some { av := .one (.c (.ptr b off)), ok := decide (n ≤ len) } | _ => none)
  | some ti, .one (.c (.slu b _ _ off len)) => (match ti.desc with | .array n _ => some { av := .one (.c (.ptr b off)), ok := decide (n ≤ len) } | _ => none)
  | _, _ => none

/-- Is it nil? Told of pointers, maps and slices. -/
def nilOf (d : TypeDesc) (x : AV) : Option Bool :=
  match d, x with
  | .pointer _, .one (.c (.ptr _ _)) => some false
  | .pointer _, .one (.c (.sc (.pointer none))) => some true
  | .map _ _, .one (.c (.mp _)) => some false
  | .map _ _, .one (.c (.sc (.map none))) => some true
  | .slice _, .one (.c (.slc _ _ _ _)) => some false
  | .slice _, .one (.c (.slu _ _ _ _ _)) => some false
  | .slice _, .one (.c (.sc (.slice none _ _))) => some true
  | _, _ => none

/-- A comparison with nil, on the right. -/
def coreNilEq (Γ : Tab) (op : BinOp) (t : TypeId) (x y : AV) : Option Out :=
  match Γ t with
  | some ti =>
    match nilOf ti.desc x, nilOf ti.desc y, op with
    | some b, some true, .eql => val (bool b)
    | some b, some true, .neq => val (bool (!b))
    | _, _, _ => none
  | none => none

def coreIndexStr (Γ : Tab) (t : TypeId) (x ix : AV) : Option Out :=
  match Γ t, x, ix with
  | some ti, .one (.c (.sc (.string s))), .one (.c (.sc (.int _ i))) =>
    match ti.desc with
    | .string => some { av := .one (.c (.sc (.int .u8 (Int.ofNat ((s.data.toList[i.toNat]?).getD 0).toNat)))), ok := inB i s.size }
    | _ => none
  | _, _, _ => none

def coreMin (x y : AV) : Option Out :=
  match x, y with
  | .one (.c (.sc (.int k (.ofNat a)))), .one (.c (.sc (.int _ (.ofNat b)))) => val (natAV k (min a b))
  | _, _ => none

def coreMax (x y : AV) : Option Out :=
  match x, y with
  | .one (.c (.sc (.int k a))), .one (.c (.sc (.int _ b))) => val (.one (.c (.sc (.int k (if a < b then b else a)))))
  | _, _ => none

/-- A row of bytes turned into its own type: the place behind its block's end is marked. -/
def coreConvSame (Γ : Tab) (src dst : TypeId) (x : AV) (m : Mem) : Option Out :=
  match x, Γ dst with
  | .one (.c (.slc b _ _ _)), some td =>
    match td.desc with
    | .slice e =>
      match Γ e with
      | some te =>
        match te.desc, m[b]? with
        | .int .u8, some (some blk) =>
          match blk.ro with
          | true => none
          | false => some { av := x, rd := [b], up := [(b, blk)], ok := blk.row && decide (src = dst) }
        | _, _ => none
      | none => none
    | _ => none
  | _, _ => none

/-! ### Maps whose keys are numbers -/

def coreMakeMap (r : Option Operand) (id : Nat) (m : Mem) : Option Out :=
  match r with
  | none => newBlk m id { cells := [], ty := 0, kind := .map [] 0 } (.one (.c (.mp id)))
  | some _ => none

/-- Looking a number up among entries: none where a key is no number of that kind. -/
def findE (k : IntKind) (i : Int) : List (Value × V0 × Nat) → Option (Option V0)
  | [] => some none
  | (.int k' j, v, _) :: r => if k = k' then (if i == j then some (some v) else findE k i r) else none
  | _ :: _ => none

def isIntD : TypeDesc → Bool
  | .int _ => true
  | _ => false

def coreLookup (Γ : Tab) (t : TypeId) (x ix : AV) (commaOk : Bool) (m : Mem) : Option Out :=
  match Γ t, x, ix with
  | some ti, .one (.c (.mp b)), .one (.c (.sc (.int k i))) =>
    match ti.desc, m[b]? with
    | .map kt et, some (some blk) =>
      match blk.kind, Γ kt, Γ et with
      | .map es _, some tk, some te =>
        match isIntD tk.desc, findE k i es, te.zero with
        | true, some (some v), _ => some { av := if commaOk then .tup [v, .c (.sc (.bool true))] else .one v, rd := [b] }
        | true, some none, some z => some { av := if commaOk then .tup [ofVal z, .c (.sc (.bool false))] else .one (ofVal z), rd := [b], ok := constOk z }
        | _, _, _ => none
      | _, _, _ => none
    | _, _ => none
  | _, _, _ => none

def coreMapPush (Γ : Tab) (t : TypeId) (x ix : AV) (v : AV) (m : Mem) : Option Out :=
  match Γ t, x, ix, v with
  | some ti, .one (.c (.mp b)), .one (.c (.sc (.int k i))), .one v =>
    match ti.desc, m[b]? with
    | .map kt _, some (some blk) =>
      match blk.kind, Γ kt, blk.ro with
      | .map es clock, some tk, false =>
        match isIntD tk.desc, findE k i es with
        | true, some none => some { av := undefAV, rd := [b], up := [(b, { blk with kind := .map (es ++ [(.int k i, v, clock)]) (clock + 1) })] }
        | _, _ => none
      | _, _, _ => none
    | _, _ => none
  | _, _, _, _ => none

def strToSlice (Γ : Tab) (s d : TypeId) : Bool :=
  match Γ s, Γ d with
  | some ts, some td => (match ts.desc, td.desc with | .string, .slice _ => true | _, _ => false)
  | _, _ => false

/-- How many numbers an operation takes for new blocks. -/
def allocs (Γ : Tab) (o : Oper) (h : Hint) : Nat :=
  match o.op with
  | .alloc _ | .box _ _ | .buildSlice _ _ _ | .makeMap _ _ => 1
  | .call c =>
    match c.callee with
    | .builtin .append => 2
    | _ => (match h.call with | some c => c.mem.length - c.foot.length | none => 0)
  | .convert s d _ => if strToSlice Γ s d then 2 else 0
  | _ => 0

def coreLen (Γ : Tab) (t : TypeId) (x : AV) : Option Out :=
  match Γ t, x with
  | some ti, x =>
    match ti.desc, x with
    | .slice _, .one (.c (.slu _ _ _ _ n)) => val (i64 n)
    | .slice _, .one (.c .sl0) => val (i64 0)
    | .slice _, .one (.c (.sc (.slice none n _))) => val (i64 n)
    | .string, .one (.c (.sc (.string s))) => val (i64 s.size)
    | .slice _, .one (.c (.slc _ _ n _)) => val (i64 n)
    | .array n _, _ => val (i64 n)
    | _, _ => none
  | none, _ => none

def rhoOpt (ρ : Operand → Option AV) : Option Operand → Option (Option AV)
  | none => some none
  | some x => match ρ x with | some a => some (some a) | none => none

def cVal (ρ : Operand → Option AV) (x : Operand) : Option Out := match ρ x with | some a => val a | none => none
def cPick (h : Hint) (ρ : Operand → Option AV) (c a b : Operand) : Option Out :=
  match ρ c, ρ (if h.dir then a else b) with
  | some (.one (.c (.sc (.bool t)))), some r => some { av := r, ok := t == h.dir }
  | _, _ => none
def cBox (t : TypeId) (ρ : Operand → Option AV) (x : Operand) (id : Nat) (m : Mem) : Option Out := match ρ x with | some a => coreBox t a id m | none => none
def cBuild (Γ : Tab) (t : TypeId) (ρ : Operand → Option AV) (ps : Array (Nat × Operand)) : Option Out := match rhoParts ρ ps.toList with | some l => coreBuild Γ t l | none => none
def cBuildSlice (Γ : Tab) (t : TypeId) (n : Nat) (ρ : Operand → Option AV) (ps : Array (Nat × Operand)) (id : Nat) (m : Mem) : Option Out := match rhoParts ρ ps.toList with | some l => coreBuildSlice Γ t n l id m | none => none
def cLoad (Γ : Tab) (t : TypeId) (ρ : Operand → Option AV) (a : Operand) (m : Mem) : Option Out := match ρ a with | some a => coreLoad Γ t a m | none => none
def cStore (Γ : Tab) (t : TypeId) (ρ : Operand → Option AV) (a x : Operand) (m : Mem) : Option Out := match ρ a, ρ x with | some a, some x => coreStore Γ t a x m | _, _ => none
def cFieldAddr (Γ : Tab) (s : TypeId) (ρ : Operand → Option AV) (x : Operand) (f : Nat) : Option Out := match ρ x with | some x => coreFieldAddr Γ s x f | none => none
def cField (Γ : Tab) (s : TypeId) (ρ : Operand → Option AV) (x : Operand) (f : Nat) : Option Out := match ρ x with | some x => coreField Γ s x f | none => none
def cIndexAddr (Γ : Tab) (t : TypeId) (ρ : Operand → Option AV) (x i : Operand) : Option Out := match ρ x, ρ i with | some x, some i => coreIndexAddr Γ t x i | _, _ => none
def cIndex (Γ : Tab) (t : TypeId) (ρ : Operand → Option AV) (x i : Operand) : Option Out :=
  match ρ x, ρ i with | some x, some i => (match coreIndex Γ t x i with | some o => some o | none => coreIndexStr Γ t x i) | _, _ => none
def cBin (Γ : Tab) (op : BinOp) (t : TypeId) (ρ : Operand → Option AV) (x y : Operand) : Option Out :=
  match ρ x, ρ y with | some x, some y => (match coreBin Γ op t x y with | some o => some o | none => coreNilEq Γ op t x y) | _, _ => none
def cUn (op : UnOp) (ρ : Operand → Option AV) (x : Operand) : Option Out := match ρ x with | some x => coreUn op x | none => none
def cConv (Γ : Tab) (s d : TypeId) (ρ : Operand → Option AV) (x : Operand) (id : Nat) (m : Mem) : Option Out :=
  match ρ x with | some x => (match coreConv Γ s d x with | some o => some o | none => (match coreStrBytes Γ s d x id m with | some o => some o | none => coreConvSame Γ s d x m)) | none => none
def cLookup (Γ : Tab) (t : TypeId) (ρ : Operand → Option AV) (x i : Operand) (ok : Bool) (m : Mem) : Option Out := match ρ x, ρ i with | some x, some i => coreLookup Γ t x i ok m | _, _ => none
def cMapPush (Γ : Tab) (t : TypeId) (ρ : Operand → Option AV) (x i v : Operand) (m : Mem) : Option Out := match ρ x, ρ i, ρ v with | some x, some i, some v => coreMapPush Γ t x i v m | _, _, _ => none
def cArrayAt (Γ : Tab) (t : TypeId) (ρ : Operand → Option AV) (x : Operand) : Option Out := match ρ x with | some x => coreArrayAt Γ t x | none => none
def cSlice (Γ : Tab) (t : TypeId) (ρ : Operand → Option AV) (x : Operand) (lo hi mx : Option Operand) : Option Out :=
  match ρ x, rhoOpt ρ lo, rhoOpt ρ hi, rhoOpt ρ mx with
  | some x, some lo, some hi, some mx => coreSlice Γ t x lo hi mx
  | _, _, _, _ => none
def cNil (ρ : Operand → Option AV) (x : Operand) : Option Out := match ρ x with | some x => coreNil x | none => none
def cExtract (ρ : Operand → Option AV) (t : Operand) (i : Nat) : Option Out := match ρ t with | some t => coreExtract t i | none => none
def cMakeFunc (ρ : Operand → Option AV) (fn : Fn) (first caps : Array Operand) : Option Out :=
  match fn with
  | .func f =>
    if first.toList.isEmpty then
      match rhoAll ρ caps.toList with
      | some l => (match toV0s l with | some vs => val (.clo f vs) | none => none)
      | none => none
    else none
  | _ => none
def cCallVal (P : Program) (ρ : Operand → Option AV) (f : Operand) (args : Array Operand) (h : Hint) (id : Nat) (m : Mem) : Option Out :=
  match ρ f, rhoAll ρ args.toList with
  | some f, some args => coreCall P f args h id m
  | _, _ => none
def cLen (Γ : Tab) (ρ : Operand → Option AV) (args : Array Operand) (ts : Array TypeId) : Option Out :=
  match args.toList, ts.toList with
  | [x], [t] => (match ρ x with | some x => coreLen Γ t x | none => none)
  | _, _ => none
def cAppend (Γ : Tab) (ρ : Operand → Option AV) (args : Array Operand) (ts : Array TypeId) (id : Nat) (m : Mem) : Option Out :=
  match args.toList, ts.toList with
  | [x, y], [t, u] => (match ρ x, ρ y with | some x, some y => coreAppend Γ t u x y id m | _, _ => none)
  | _, _ => none
def cMin (ρ : Operand → Option AV) (args : Array Operand) (ts : Array TypeId) : Option Out :=
  match args.toList, ts.toList with
  | [x, y], [_, _] => (match ρ x, ρ y with | some x, some y => coreMin x y | _, _ => none)
  | _, _ => none
def cMax (ρ : Operand → Option AV) (args : Array Operand) (ts : Array TypeId) : Option Out :=
  match args.toList, ts.toList with
  | [x, y], [_, _] => (match ρ x, ρ y with | some x, some y => coreMax x y | _, _ => none)
  | _, _ => none
def cCall (P : Program) (Γ : Tab) (ρ : Operand → Option AV) (c : Call) (h : Hint) (id : Nat) (m : Mem) : Option Out :=
  match c.callee with
  | .value f => cCallVal P ρ f c.args h id m
  | .builtin .len => cLen Γ ρ c.args c.argTypes
  | .builtin .append => cAppend Γ ρ c.args c.argTypes id m
  | .builtin .min => cMin ρ c.args c.argTypes
  | .builtin .max => cMax ρ c.args c.argTypes
  | _ => none

def core (P : Program) (Γ : Tab) (o : Oper) (id : Nat) (h : Hint) (ρ : Operand → Option AV) (m : Mem) : Option Out :=
  match o.op with
  | .move x => cVal ρ x
  | .assign x => cVal ρ x
  | .pick c a b => cPick h ρ c a b
  | .alloc t => coreAlloc Γ t id m
  | .box t x => cBox t ρ x id m
  | .build t ps => cBuild Γ t ρ ps
  | .buildSlice t n ps => cBuildSlice Γ t n ρ ps id m
  | .load t a => cLoad Γ t ρ a m
  | .store t a x => cStore Γ t ρ a x m
  | .fieldAddr s x f => cFieldAddr Γ s ρ x f
  | .field s x f => cField Γ s ρ x f
  | .indexAddr t x i => cIndexAddr Γ t ρ x i
  | .index t x i => cIndex Γ t ρ x i
  | .binOp op t x y _ => cBin Γ op t ρ x y
  | .unOp op _ x => cUn op ρ x
  | .convert s d x => cConv Γ s d ρ x id m
  | .makeMap _ r => coreMakeMap r id m
  | .lookup t x i ok => cLookup Γ t ρ x i ok m
  | .mapUpdate t x i v => cMapPush Γ t ρ x i v m
  | .sliceToArrayPointer t x => cArrayAt Γ t ρ x
  | .slice t x lo hi mx => cSlice Γ t ρ x lo hi mx
  | .nilCheck x => cNil ρ x
  | .extract t i => cExtract ρ t i
  | .makeFunc fn first caps => cMakeFunc ρ fn first caps
  | .call c => cCall P Γ ρ c h id m
  | _ => none

end Go.Rx
