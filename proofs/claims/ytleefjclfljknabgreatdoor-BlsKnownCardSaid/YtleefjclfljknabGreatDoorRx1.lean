/-
Reflective execution, part 1: symbolic values, what they stand for, symbolic memory and how a world holds it.
-/
import Derived.Orders
import Derived.LoopN
import Derived.Below
import Derived.Laws.World
import Derived.Laws.Sem
namespace Go.Rx

/-- Symbolic cells: any plain value; a known value; a pointer to a symbolic block; a slice over one. -/
inductive Cell where
  | any
  | sc (v : Value)
  | ptr (b off : Nat)
  | slc (b off len cap : Nat)
  /-- a slice whose capacity is not known: up to the end of its block, whose size is the number that 's' stands for -/
  | slu (b s esz off len : Nat)
  /-- an empty slice, anywhere -/
  | sl0
  /-- a map -/
  | mp (b : Nat)
  deriving Inhabited

inductive V0 where
  | c (x : Cell)
  | agg (l : List Cell)
  deriving Inhabited

inductive AV where
  | one (x : V0)
  | tup (l : List V0)
  | clo (f : FuncId) (caps : List V0)
  deriving Inhabited

/-- Where symbolic blocks lie. -/
abbrev NV := Nat → Option Nat

def NV.le (ν ν' : NV) : Prop := ∀ i n, ν i = some n → ν' i = some n

theorem NV.le_refl (ν : NV) : NV.le ν ν := fun _ _ h => h
theorem NV.le_trans {a b c : NV} (h : NV.le a b) (k : NV.le b c) : NV.le a c := fun i n e => k i n (h i n e)

def Plain : Value → Prop
  | .agg _ => False
  | .tuple _ => False
  | _ => True

def plainB : Value → Bool
  | .agg _ => false
  | .tuple _ => false
  | _ => true

theorem plain_of_b {v : Value} (h : plainB v = true) : Plain v := by
  cases v <;> simp_all [plainB, Plain]

theorem Plain.cells {v : Value} (h : Plain v) : v.cells = #[v] := by
  cases v <;> simp_all [Plain, Value.cells]

def Cell.Den (ν : NV) : Cell → Value → Prop
  | .any, x => Plain x
  | .sc v, x => x = v ∧ Plain v
  | .ptr b o, x => ∃ n, ν b = some n ∧ x = .pointer (some ⟨n, o, none⟩)
  | .slc b o l c, x => ∃ n, ν b = some n ∧ x = .slice (some ⟨n, o, none⟩) l c
  | .slu b s z o l, x => ∃ n c k, ν b = some n ∧ ν s = some k ∧ x = .slice (some ⟨n, o, none⟩) l c ∧ l ≤ c ∧ o + c * z = k
  | .sl0, x => ∃ a c, x = .slice a 0 c
  | .mp b, x => ∃ n, ν b = some n ∧ x = .map (some n)

theorem Cell.Den.plain {ν : NV} {c : Cell} {x : Value} (h : c.Den ν x) : Plain x := by
  cases c with
  | any => exact h
  | sc v => obtain ⟨rfl, h⟩ := h; exact h
  | ptr b o => obtain ⟨n, _, rfl⟩ := h; trivial
  | slc b o l k => obtain ⟨n, _, rfl⟩ := h; trivial
  | slu b s z o l => obtain ⟨n, c, k, _, _, rfl, _⟩ := h; trivial
  | sl0 => obtain ⟨a, c, rfl⟩ := h; trivial
  | mp b => obtain ⟨n, _, rfl⟩ := h; trivial

theorem Cell.Den.mono {ν ν' : NV} (hn : NV.le ν ν') {c : Cell} {x : Value} (h : c.Den ν x) : c.Den ν' x := by
  cases c with
  | any => exact h
  | sc v => exact h
  | ptr b o => obtain ⟨n, e, rfl⟩ := h; exact ⟨n, hn _ _ e, rfl⟩
  | slc b o l k => obtain ⟨n, e, rfl⟩ := h; exact ⟨n, hn _ _ e, rfl⟩
  | slu b s z o l => obtain ⟨n, c, k, e1, e2, e3⟩ := h; exact ⟨n, c, k, hn _ _ e1, hn _ _ e2, e3⟩
  | sl0 => exact h
  | mp b => obtain ⟨n, e, rfl⟩ := h; exact ⟨n, hn _ _ e, rfl⟩

/-- Cells, one by one. -/
def DenL (ν : NV) : List Cell → List Value → Prop
  | [], [] => True
  | c :: cs, v :: vs => c.Den ν v ∧ DenL ν cs vs
  | _, _ => False

theorem DenL.mono {ν ν' : NV} (hn : NV.le ν ν') : ∀ {l : List Cell} {vs : List Value}, DenL ν l vs → DenL ν' l vs
  | [], [], _ => trivial
  | _ :: _, _ :: _, h => ⟨h.1.mono hn, DenL.mono hn h.2⟩
  | [], _ :: _, h => h.elim
  | _ :: _, [], h => h.elim

theorem DenL.length {ν : NV} : ∀ {l : List Cell} {vs : List Value}, DenL ν l vs → l.length = vs.length
  | [], [], _ => rfl
  | _ :: _, _ :: _, h => by simp [DenL.length h.2]
  | [], _ :: _, h => h.elim
  | _ :: _, [], h => h.elim

theorem DenL.get {ν : NV} : ∀ {l : List Cell} {vs : List Value} (_ : DenL ν l vs) (i : Nat) (c : Cell), l[i]? = some c → ∃ v, vs[i]? = some v ∧ c.Den ν v
  | [], [], _, i, c, e => by simp at e
  | c :: cs, v :: vs, h, 0, d, e => by
    simp at e; subst e; exact ⟨v, rfl, h.1⟩
  | c :: cs, v :: vs, h, i + 1, d, e => by
    simp at e
    simpa using DenL.get h.2 i d e
  | [], _ :: _, h, _, _, _ => h.elim
  | _ :: _, [], h, _, _, _ => h.elim

theorem DenL.set {ν : NV} : ∀ {l : List Cell} {vs : List Value} (_ : DenL ν l vs) (i : Nat) {c : Cell} {v : Value}, c.Den ν v → DenL ν (l.set i c) (vs.set i v)
  | [], [], _, i, _, _, _ => by simp [DenL]
  | _ :: _, _ :: _, h, 0, _, _, d => ⟨d, h.2⟩
  | _ :: _, _ :: _, h, i + 1, _, _, d => ⟨h.1, DenL.set h.2 i d⟩
  | [], _ :: _, h, _, _, _, _ => h.elim
  | _ :: _, [], h, _, _, _, _ => h.elim

theorem DenL.append {ν : NV} : ∀ {l l' : List Cell} {vs vs' : List Value}, DenL ν l vs → DenL ν l' vs' → DenL ν (l ++ l') (vs ++ vs')
  | [], _, [], _, _, k => by simpa using k
  | _ :: _, _, _ :: _, _, h, k => ⟨h.1, DenL.append h.2 k⟩
  | [], _, _ :: _, _, h, _ => h.elim
  | _ :: _, _, [], _, h, _ => h.elim

theorem DenL.drop {ν : NV} : ∀ {l : List Cell} {vs : List Value} (_ : DenL ν l vs) (n : Nat), DenL ν (l.drop n) (vs.drop n)
  | [], [], _, n => by simp [DenL]
  | _ :: _, _ :: _, h, 0 => h
  | _ :: _, _ :: _, h, n + 1 => by simpa using DenL.drop h.2 n
  | [], _ :: _, h, _ => h.elim
  | _ :: _, [], h, _ => h.elim

theorem DenL.take {ν : NV} : ∀ {l : List Cell} {vs : List Value} (_ : DenL ν l vs) (n : Nat), DenL ν (l.take n) (vs.take n)
  | [], [], _, n => by simp [DenL]
  | _ :: _, _ :: _, _, 0 => by simp [DenL]
  | _ :: _, _ :: _, h, n + 1 => by simpa using ⟨h.1, DenL.take h.2 n⟩
  | [], _ :: _, h, _ => h.elim
  | _ :: _, [], h, _ => h.elim

def V0.Den (ν : NV) : V0 → Value → Prop
  | .c x, v => x.Den ν v
  | .agg l, v => ∃ vs : Array Value, v = .agg vs ∧ DenL ν l vs.toList

def V0.cells : V0 → List Cell
  | .c x => [x]
  | .agg l => l

theorem V0.Den.mono {ν ν' : NV} (hn : NV.le ν ν') {x : V0} {v : Value} (h : x.Den ν v) : x.Den ν' v := by
  cases x with
  | c x => exact Cell.Den.mono hn h
  | agg l => obtain ⟨vs, rfl, h⟩ := h; exact ⟨vs, rfl, h.mono hn⟩

theorem V0.Den.cells {ν : NV} {x : V0} {v : Value} (h : x.Den ν v) : DenL ν x.cells v.cells.toList := by
  cases x with
  | c x =>
    have hp := Cell.Den.plain h
    rw [hp.cells]
    exact ⟨h, trivial⟩
  | agg l => obtain ⟨vs, rfl, h⟩ := h; exact h

def DenVL (ν : NV) : List V0 → List Value → Prop
  | [], [] => True
  | c :: cs, v :: vs => c.Den ν v ∧ DenVL ν cs vs
  | _, _ => False

theorem DenVL.mono {ν ν' : NV} (hn : NV.le ν ν') : ∀ {l : List V0} {vs : List Value}, DenVL ν l vs → DenVL ν' l vs
  | [], [], _ => trivial
  | _ :: _, _ :: _, h => ⟨h.1.mono hn, DenVL.mono hn h.2⟩
  | [], _ :: _, h => h.elim
  | _ :: _, [], h => h.elim

theorem DenVL.get {ν : NV} : ∀ {l : List V0} {vs : List Value} (_ : DenVL ν l vs) (i : Nat) (c : V0), l[i]? = some c → ∃ v, vs[i]? = some v ∧ c.Den ν v
  | [], [], _, i, c, e => by simp at e
  | c :: cs, v :: vs, h, 0, d, e => by
    simp at e; subst e; exact ⟨v, rfl, h.1⟩
  | c :: cs, v :: vs, h, i + 1, d, e => by
    simp at e
    simpa using DenVL.get h.2 i d e
  | [], _ :: _, h, _, _, _ => h.elim
  | _ :: _, [], h, _, _, _ => h.elim

def AV.Den (ν : NV) : AV → Value → Prop
  | .one x, v => x.Den ν v
  | .tup l, v => ∃ vs : Array Value, v = .tuple vs ∧ DenVL ν l vs.toList
  | .clo f caps, v => ∃ vs : Array Value, v = .func (.func f) #[] vs ∧ DenVL ν caps vs.toList

theorem AV.Den.mono {ν ν' : NV} (hn : NV.le ν ν') {x : AV} {v : Value} (h : x.Den ν v) : x.Den ν' v := by
  cases x with
  | one x => exact V0.Den.mono hn h
  | tup l => obtain ⟨vs, rfl, h⟩ := h; exact ⟨vs, rfl, h.mono hn⟩
  | clo f l => obtain ⟨vs, rfl, h⟩ := h; exact ⟨vs, rfl, h.mono hn⟩

def DenAL (ν : NV) : List AV → List Value → Prop
  | [], [] => True
  | c :: cs, v :: vs => c.Den ν v ∧ DenAL ν cs vs
  | _, _ => False

theorem DenAL.mono {ν ν' : NV} (hn : NV.le ν ν') : ∀ {l : List AV} {vs : List Value}, DenAL ν l vs → DenAL ν' l vs
  | [], [], _ => trivial
  | _ :: _, _ :: _, h => ⟨h.1.mono hn, DenAL.mono hn h.2⟩
  | [], _ :: _, h => h.elim
  | _ :: _, [], h => h.elim

theorem DenAL.length {ν : NV} : ∀ {l : List AV} {vs : List Value}, DenAL ν l vs → l.length = vs.length
  | [], [], _ => rfl
  | _ :: _, _ :: _, h => by simp [DenAL.length h.2]
  | [], _ :: _, h => h.elim
  | _ :: _, [], h => h.elim

theorem DenAL.get {ν : NV} : ∀ {l : List AV} {vs : List Value} (_ : DenAL ν l vs) (i : Nat) (c : AV), l[i]? = some c → ∃ v, vs[i]? = some v ∧ c.Den ν v
  | [], [], _, i, c, e => by simp at e
  | c :: cs, v :: vs, h, 0, d, e => by
    simp at e; subst e; exact ⟨v, rfl, h.1⟩
  | c :: cs, v :: vs, h, i + 1, d, e => by
    simp at e
    simpa using DenAL.get h.2 i d e
  | [], _ :: _, h, _, _, _ => h.elim
  | _ :: _, [], h, _, _, _ => h.elim

/-- What a symbolic block is: a row of cells that is known whole; one of which the beginning is known (its size is the number that 's' stands for); one that is given up; a number; a map. -/
inductive BK where
  | exact
  | opened (s : Nat)
  | dead
  | ghost
  | map (es : List (Value × V0 × Nat)) (clock : Nat)
  deriving Inhabited

/-- A symbolic block: its cells, its element type, whether it is only read, what it is, where it lies if that is fixed. -/
structure Blk where
  cells : List Cell
  ty : TypeId
  ro : Bool := false
  kind : BK := .exact
  glob : Option Nat := none
  deriving Inhabited

def Blk.live (b : Blk) : Bool := match b.kind with | .dead => false | .ghost => false | _ => true
def Blk.ghost (b : Blk) : Bool := match b.kind with | .ghost => true | _ => false
def Blk.dead (b : Blk) : Bool := match b.kind with | .dead => true | _ => false

abbrev Mem := List (Option Blk)

def Mem.at (m : Mem) (i : Nat) : Option Blk := (m[i]?).getD none

/-- A map's entries, one by one. -/
def DenE (ν : NV) : List (Value × V0 × Nat) → List MapEntry → Prop
  | [], [] => True
  | (k, v, n) :: es, e :: fs => (e.key = k ∧ v.Den ν e.val ∧ e.born = n) ∧ DenE ν es fs
  | _, _ => False

theorem DenE.mono {ν ν' : NV} (hn : NV.le ν ν') : ∀ {l : List (Value × V0 × Nat)} {vs : List MapEntry}, DenE ν l vs → DenE ν' l vs
  | [], [], _ => trivial
  | (_, _, _) :: _, _ :: _, h => ⟨⟨h.1.1, h.1.2.1.mono hn, h.1.2.2⟩, DenE.mono hn h.2⟩
  | [], _ :: _, h => h.elim
  | (_, _, _) :: _, [], h => h.elim

/-- No cell of the row is frozen. -/
def FzOk (fz : Nat × Nat) (n : Nat) : Prop := fz = (0, 0) ∨ fz = (n, n + 1)

/-- A row of cells of which the beginning is 'cells'. -/
def Row (ν : NV) (cells : List Cell) (ty : TypeId) (ro : Bool) (sz : List Value → Nat → Prop) (w : World) (n : Nat) : Prop :=
  ∃ c fz pre rest, w.heap[n]? = some (.cells c ty fz) ∧ c.toList = pre ++ rest ∧ DenL ν cells pre ∧ (ro = false → FzOk fz c.size) ∧ sz rest c.size

/-- How one block lies in a world. -/
def Blk.Lies (ν : NV) (b : Blk) (w : World) (n : Nat) : Prop :=
  (∀ g, b.glob = some g → n = g) ∧
  match b.kind with
  | .exact => Row ν b.cells b.ty b.ro (fun rest _ => rest = []) w n
  | .opened s => Row ν b.cells b.ty b.ro (fun _ k => ν s = some k) w n
  | .dead => n < w.heap.size
  | .ghost => True
  | .map es clock => ∃ fs, w.heap[n]? = some (.map fs clock) ∧ DenE ν es fs.toList

theorem lt_of_get {w : World} {n : Nat} {o : Obj} (e : w.heap[n]? = some o) : n < w.heap.size := by
  rcases Nat.lt_or_ge n w.heap.size with h' | h'
  · exact h'
  · simp [Array.getElem?_eq_none h'] at e

theorem Blk.Lies.lt {ν : NV} {b : Blk} {w : World} {n : Nat} (h : b.Lies ν w n) (hg : b.ghost = false) : n < w.heap.size := by
  obtain ⟨_, h⟩ := h
  unfold Blk.ghost at hg
  cases hk : b.kind <;> simp only [hk] at h hg
  · obtain ⟨c, fz, pre, rest, e, _⟩ := h; exact lt_of_get e
  · obtain ⟨c, fz, pre, rest, e, _⟩ := h; exact lt_of_get e
  · exact h
  · simp at hg
  · obtain ⟨fs, e, _⟩ := h; exact lt_of_get e

theorem Row.mono {ν ν' : NV} (hn : NV.le ν ν') {cells : List Cell} {ty : TypeId} {ro : Bool} {sz sz' : List Value → Nat → Prop} (hs : ∀ r k, sz r k → sz' r k) {w : World} {n : Nat}
    (h : Row ν cells ty ro sz w n) : Row ν' cells ty ro sz' w n := by
  obtain ⟨c, fz, pre, rest, e, e2, d, z, y⟩ := h
  exact ⟨c, fz, pre, rest, e, e2, d.mono hn, z, hs _ _ y⟩

theorem Row.world {ν : NV} {cells : List Cell} {ty : TypeId} {ro : Bool} {sz : List Value → Nat → Prop} {w w' : World} {n : Nat}
    (h : Row ν cells ty ro sz w n) (e : w'.heap[n]? = w.heap[n]?) : Row ν cells ty ro sz w' n := by
  obtain ⟨c, fz, pre, rest, e', r⟩ := h
  exact ⟨c, fz, pre, rest, by rw [e]; exact e', r⟩

theorem Blk.Lies.mono {ν ν' : NV} (hn : NV.le ν ν') {b : Blk} {w : World} {n : Nat} (h : b.Lies ν w n) : b.Lies ν' w n := by
  obtain ⟨h1, h⟩ := h
  refine ⟨h1, ?_⟩
  cases hk : b.kind <;> simp only [hk] at h ⊢
  · exact h.mono hn fun _ _ y => y
  · exact h.mono hn fun _ _ y => hn _ _ y
  · exact h
  · obtain ⟨fs, e, d⟩ := h; exact ⟨fs, e, d.mono hn⟩

theorem Blk.Lies.world {ν : NV} {b : Blk} {w w' : World} {n : Nat} (h : b.Lies ν w n) (hs : w.heap.size ≤ w'.heap.size) (e : b.live = true → w'.heap[n]? = w.heap[n]?) : b.Lies ν w' n := by
  obtain ⟨h1, h⟩ := h
  refine ⟨h1, ?_⟩
  unfold Blk.live at e
  cases hk : b.kind <;> simp only [hk] at h e ⊢
  · exact h.world (e trivial)
  · exact h.world (e trivial)
  · omega
  · obtain ⟨fs, e', d⟩ := h; exact ⟨fs, by rw [e trivial]; exact e', d⟩

/-- THE MEMORY 'm' LIES IN THE WORLD 'w', which began as 'w0'; the first 'np' blocks may be older than w0's end. -/
structure Rep (w0 : World) (np : Nat) (ν : NV) (m : Mem) (w : World) : Prop where
  os : w.os = w0.os
  tape : w.tape = w0.tape
  output : w.output = w0.output
  size : w0.heap.size ≤ w.heap.size
  blk : ∀ i b, m.at i = some b → ∃ n, ν i = some n ∧ b.Lies ν w n
  new : ∀ i b n, m.at i = some b → b.ghost = false → np ≤ i → ν i = some n → w0.heap.size ≤ n ∨ ∃ j bj, j < np ∧ m.at j = some bj ∧ bj.ro = false ∧ ν j = some n
  gro : ∀ i b, m.at i = some b → np ≤ i → b.ghost = true → b.ro = true
  dom : ∀ i, m.at i = none → ν i = none
  sep : ∀ i j bi bj n, m.at i = some bi → m.at j = some bj → i ≠ j → bi.ro = false → bi.live = true → bj.live = true → ν i = some n → ν j ≠ some n
  keep : ∀ n, n < w0.heap.size → (∀ i b, m.at i = some b → b.ro = false → ν i ≠ some n) → w.heap[n]? = w0.heap[n]?

theorem Rep.drew {w0 w : World} {np : Nat} {ν : NV} {m : Mem} (h : Rep w0 np ν m w) (k : Nat) : Rep w0 np ν m { w with drawn := k } :=
  ⟨h.os, h.tape, h.output, h.size, fun i b e => let ⟨n, a, c⟩ := h.blk i b e; ⟨n, a, c.world (Nat.le_refl _) fun _ => rfl⟩, h.new, h.gro, h.dom, h.sep, h.keep⟩

end Go.Rx
