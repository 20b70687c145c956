/-
Reflective execution, part 3: the steps on memory are sound.
-/
import Derived.Test.YtleefjclfljknabGreatDoorRx2
namespace Go.Rx

theorem addr_add (n o i : Nat) : (⟨n, o, none⟩ : Addr).add i = ⟨n, o + i, none⟩ := by
  unfold Addr.add
  split
  · rename_i h; subst h; rfl
  · rfl

theorem cell_at {w : World} {n : Nat} {c : Array Value} {ty : TypeId} {fz : Nat × Nat} (h : w.heap[n]? = some (.cells c ty fz)) (o : Nat) :
    w.cell? ⟨n, o, none⟩ = c[o]? := by
  simp [World.cell?, h]

theorem run_load_cell {P : Program} {w : World} {a : Addr} {v : Value} (h : w.cell? a = some v) : (load a).run P w = .ok v w := by
  simp only [load, Sem.run, h]

theorem run_typeInfo {P : Program} {t : TypeId} {i : TypeInfo} (h : P.info? t = some i) (w : World) : (typeInfo t).run P w = .ok i w := by
  simp only [typeInfo, program, Sem.run_bind, Sem.run, Result.andThen_ok, h]
  rfl

theorem run_underlying {P : Program} {t : TypeId} {d : TypeDesc} (h : P.underlying t = some d) (w : World) : (underlying t).run P w = .ok d w := by
  simp only [underlying, program, Sem.run_bind, Sem.run, Result.andThen_ok, h]
  rfl

theorem TI.Ok.sizeOf {P : Program} {t : TypeId} {ti : TI} (h : ti.Ok P t) (w : World) : (sizeOf t).run P w = .ok ti.size w := by
  obtain ⟨i, hi, hs, _⟩ := h.info
  simp only [Go.sizeOf, Sem.run_bind, run_typeInfo hi, Result.andThen_ok, Sem.run_pure, hs]

theorem TI.Ok.zeroValue {P : Program} {t : TypeId} {ti : TI} (h : ti.Ok P t) {z : Value} (hz : ti.zero = some z) (w : World) : (zeroValue t).run P w = .ok z w := by
  obtain ⟨i, hi, _, he, _⟩ := h.info
  simp only [Go.zeroValue, Sem.run_bind, run_typeInfo hi, Result.andThen_ok, he, hz]
  rfl

def aggB : TypeDesc → Bool
  | .struct _ => true
  | .array _ _ => true
  | _ => false

theorem TI.Ok.isAgg {P : Program} {t : TypeId} {ti : TI} (h : ti.Ok P t) (w : World) : (isAgg t).run P w = .ok (aggB ti.desc) w := by
  simp only [Go.isAgg, Sem.run_bind, run_underlying h.und, Result.andThen_ok]
  cases ti.desc <;> rfl

theorem run_loadCells {P : Program} {w : World} {n : Nat} {c : Array Value} {ty : TypeId} {fz : Nat × Nat} (h : w.heap[n]? = some (.cells c ty fz)) (o : Nat) :
    ∀ (k i : Nat) (acc : Array Value), o + i + k ≤ c.size →
      (loadCellsFrom ⟨n, o, none⟩ i k acc).run P w = .ok (acc ++ ((c.toList.drop (o + i)).take k).toArray) w := by
  intro k
  induction k with
  | zero => intro i acc _; simp [loadCellsFrom]
  | succ k ih =>
    intro i acc hb
    have hlt : o + i < c.size := by omega
    have hc : w.cell? ⟨n, o + i, none⟩ = some c[o + i] := by rw [cell_at h]; simp [hlt]
    rw [loadCellsFrom, addr_add, Sem.run_bind, run_load_cell hc, Result.andThen_ok, ih (i + 1) _ (by omega)]
    congr 1
    have : c.toList.drop (o + i) = c[o + i] :: c.toList.drop (o + (i + 1)) := by
      rw [List.drop_eq_getElem_cons (by simpa using hlt)]
      simp [Nat.add_assoc]
    rw [this, List.take_succ_cons]
    apply Array.ext'
    simp

/-- Values laid one behind the other. -/
def setVals : List Value → Nat → List Value → List Value
  | l, _, [] => l
  | l, i, c :: r => setVals (l.set i c) (i + 1) r

theorem setVals_length : ∀ (r l : List Value) (i : Nat), (setVals l i r).length = l.length
  | [], _, _ => rfl
  | c :: r, l, i => by rw [setVals, setVals_length r]; simp

theorem setCells_length : ∀ (r l : List Cell) (i : Nat), (setCells l i r).length = l.length
  | [], _, _ => rfl
  | c :: r, l, i => by rw [setCells, setCells_length r]; simp

theorem DenL.setCells {ν : NV} : ∀ {r : List Cell} {rv : List Value} {l : List Cell} {lv : List Value} (i : Nat), DenL ν r rv → DenL ν l lv →
    DenL ν (setCells l i r) (setVals lv i rv)
  | [], [], _, _, _, _, h => h
  | _ :: _, _ :: _, _, _, i, k, h => DenL.setCells (i + 1) k.2 (h.set i k.1)
  | [], _ :: _, _, _, _, k, _ => k.elim
  | _ :: _, [], _, _, _, k, _ => k.elim

theorem run_store_cell {P : Program} {w : World} {n : Nat} {c : Array Value} {ty : TypeId} {fz : Nat × Nat} (hfz : FzOk fz c.size) (h : w.heap[n]? = some (.cells c ty fz)) (o : Nat) (ho : o < c.size) {v : Value} (hv : Plain v) :
    (store ⟨n, o, none⟩ v).run P w = .ok () (w.setCell ⟨n, o, none⟩ v) := by
  have hc : w.cell? ⟨n, o, none⟩ = some c[o] := by rw [cell_at h]; simp [ho]
  have hf : w.frozen? ⟨n, o, none⟩ = false := by
    rcases hfz with rfl | rfl
    · simp [World.frozen?, h]
    · simp [World.frozen?, h]; omega
  unfold store
  cases v <;> first | exact hv.elim | simp [Sem.run, hc, hf]

/-- What a row of stores leaves. -/
structure Laid (w w' : World) (n : Nat) (c : List Value) (ty : TypeId) (fz : Nat × Nat) : Prop where
  os : w'.os = w.os
  tape : w'.tape = w.tape
  output : w'.output = w.output
  size : w'.heap.size = w.heap.size
  here : w'.heap[n]? = some (.cells c.toArray ty fz)
  other : ∀ i, i ≠ n → w'.heap[i]? = w.heap[i]?

theorem run_storeCells {P : Program} {n o : Nat} {ty : TypeId} {fz : Nat × Nat} : ∀ (vs : List Value) (i : Nat) (w : World) (c : Array Value), FzOk fz c.size → w.heap[n]? = some (.cells c ty fz) →
    (∀ v ∈ vs, Plain v) → o + i + vs.length ≤ c.size →
    ∃ w', (storeCells ⟨n, o, none⟩ vs i).run P w = .ok () w' ∧ Laid w w' n (setVals c.toList (o + i) vs) ty fz
  | [], i, w, c, _, h, _, _ => ⟨w, by simp [storeCells], rfl, rfl, rfl, rfl, by simpa [setVals] using h, fun _ _ => rfl⟩
  | v :: vs, i, w, c, hfz, h, hp, hb => by
    simp only [List.length_cons] at hb
    have hlt : o + i < c.size := by omega
    have h1 : (w.setCell ⟨n, o + i, none⟩ v).heap[n]? = some (.cells (c.setIfInBounds (o + i) v) ty fz) := by
      simp [World.setCell, Array.getElem?_modify, h]
    obtain ⟨w', hr, hl⟩ := run_storeCells (P := P) (o := o) vs (i + 1) (w.setCell ⟨n, o + i, none⟩ v) _ (by simpa using hfz) h1 (fun x hx => hp x (List.mem_cons_of_mem _ hx)) (by simp; omega)
    refine ⟨w', ?_, hl.os, hl.tape, hl.output, by rw [hl.size]; simp, ?_, fun j hj => ?_⟩
    · rw [storeCells, addr_add, Sem.run_bind, run_store_cell hfz h _ hlt (hp v (List.mem_cons_self ..)), Result.andThen_ok]
      exact hr
    · rw [hl.here]
      simp [setVals, Nat.add_assoc]
    · rw [hl.other j hj]
      simp only [World.setCell, Array.getElem?_modify]
      rw [if_neg (fun e => hj e.symm)]

theorem DenL.plain {ν : NV} : ∀ {l : List Cell} {vs : List Value}, DenL ν l vs → ∀ v ∈ vs, Plain v
  | [], [], _, v, hv => by simp at hv
  | _ :: _, _ :: _, h, v, hv => by
    simp at hv
    rcases hv with rfl | hv
    · exact h.1.plain
    · exact DenL.plain h.2 v hv
  | [], _ :: _, h, _, _ => h.elim
  | _ :: _, [], h, _, _ => h.elim

theorem run_storeVar {P : Program} {w : World} {n o : Nat} {ty t : TypeId} {ti : TI} {c : Array Value} {v : Value} {fz : Nat × Nat} (ht : ti.Ok P t) (hfz : FzOk fz c.size) (h : w.heap[n]? = some (.cells c ty fz))
    (hp : ∀ x ∈ v.cells.toList, Plain x) (hs : v.cells.size = ti.size) (hb : o + v.cells.size ≤ c.size) :
    ∃ w', (storeVar t ⟨n, o, none⟩ v).run P w = .ok () w' ∧ Laid w w' n (setVals c.toList o v.cells.toList) ty fz := by
  obtain ⟨w', hr, hl⟩ := run_storeCells (P := P) (o := o) v.cells.toList 0 w c hfz h hp (by simpa using hb)
  refine ⟨w', ?_, hl⟩
  simp only [storeVar, Sem.run_bind, ht.sizeOf, Result.andThen_ok]
  rw [if_neg (by simpa using hs)]
  exact hr

theorem run_loadVar {P : Program} {w : World} {n o : Nat} {ty t : TypeId} {ti : TI} {c : Array Value} {fz : Nat × Nat} (ht : ti.Ok P t) (h : w.heap[n]? = some (.cells c ty fz)) :
    (aggB ti.desc = true → o + ti.size ≤ c.size → (loadVar t ⟨n, o, none⟩).run P w = .ok (.agg ((c.toList.drop o).take ti.size).toArray) w) ∧
    (aggB ti.desc = false → ∀ x, c[o]? = some x → (loadVar t ⟨n, o, none⟩).run P w = .ok x w) := by
  constructor
  · intro ha hb
    simp only [loadVar, Sem.run_bind, ht.isAgg, Result.andThen_ok, ha, if_true, ht.sizeOf, loadCells]
    rw [run_loadCells h o _ 0 _ (by simpa using hb)]
    simp
  · intro ha x hx
    simp only [loadVar, Sem.run_bind, ht.isAgg, Result.andThen_ok, ha, Bool.false_eq_true, if_false]
    exact run_load_cell (by rw [cell_at h]; exact hx)

/-- A value taken out of a row of cells. -/
theorem cInt_den {ν : NV} {k : IntKind} {cs : List Cell} {vs : List Value} {off : Nat} (hd : DenL ν cs vs) (h : cIsInt k cs[off]? = true) :
    vs[off]? = some (.int k (cInt cs[off]?)) := by
  cases hc : cs[off]? with
  | none => rw [hc] at h; simp [cIsInt] at h
  | some c =>
    rw [hc] at h
    obtain ⟨v, hv, hden⟩ := hd.get off c hc
    cases c with
    | sc x =>
      obtain ⟨rfl, _⟩ := hden
      cases v <;> simp [cIsInt] at h
      subst h
      simpa [cInt] using hv
    | _ => simp [cIsInt] at h

theorem cBool_den {ν : NV} {cs : List Cell} {vs : List Value} {off : Nat} (hd : DenL ν cs vs) (h : cIsBool cs[off]? = true) :
    vs[off]? = some (.bool (cBool cs[off]?)) := by
  cases hc : cs[off]? with
  | none => rw [hc] at h; simp [cIsBool] at h
  | some c =>
    rw [hc] at h
    obtain ⟨v, hv, hden⟩ := hd.get off c hc
    cases c with
    | sc x =>
      obtain ⟨rfl, _⟩ := hden
      cases v <;> simp [cIsBool] at h
      simpa [cBool] using hv
    | _ => simp [cIsBool] at h

theorem takeV_sound {ν : NV} {ti : TI} {cs : List Cell} {vs : List Value} {off : Nat} {v : V0} {ok : Bool} (h : takeV ti cs off = some (v, ok)) (hok : ok = true) (hd : DenL ν cs vs) :
    (aggB ti.desc = true ∧ off + ti.size ≤ vs.length ∧ v.Den ν (.agg ((vs.drop off).take ti.size).toArray)) ∨
    (aggB ti.desc = false ∧ ∃ x, vs[off]? = some x ∧ v.Den ν x) := by
  unfold takeV at h
  have hl := hd.length
  split at h
  · rename_i fs hdesc
    simp only [Option.some.injEq, Prod.mk.injEq] at h
    obtain ⟨rfl, rfl⟩ := h
    exact .inl ⟨by rw [hdesc]; rfl, by simpa [hl] using hok, _, rfl, by simpa using (hd.drop off).take ti.size⟩
  · rename_i n e hdesc
    simp only [Option.some.injEq, Prod.mk.injEq] at h
    obtain ⟨rfl, rfl⟩ := h
    exact .inl ⟨by rw [hdesc]; rfl, by simpa [hl] using hok, _, rfl, by simpa using (hd.drop off).take ti.size⟩
  · rename_i k hdesc
    simp only [Option.some.injEq, Prod.mk.injEq] at h
    obtain ⟨rfl, rfl⟩ := h
    exact .inr ⟨by rw [hdesc]; rfl, _, cInt_den hd hok, rfl, trivial⟩
  · rename_i hdesc
    simp only [Option.some.injEq, Prod.mk.injEq] at h
    obtain ⟨rfl, rfl⟩ := h
    exact .inr ⟨by rw [hdesc]; rfl, _, cBool_den hd hok, rfl, trivial⟩
  · rename_i h1 h2 h3 h4
    split at h
    · rename_i c hc
      simp only [Option.some.injEq, Prod.mk.injEq] at h
      obtain ⟨rfl, rfl⟩ := h
      obtain ⟨x, hx, hden⟩ := hd.get off c hc
      refine .inr ⟨?_, x, hx, hden⟩
      cases hdd : ti.desc <;> first | rfl | exact absurd hdd (h1 _) | exact absurd hdd (h2 _ _)
    · simp at h

theorem drop_take_pre {pre rest : List Value} {off n : Nat} (h : off + n ≤ pre.length) : ((pre ++ rest).drop off).take n = (pre.drop off).take n := by
  rw [List.drop_append_of_le_length (by omega), List.take_append_of_le_length (by simp; omega)]

theorem setVals_pre : ∀ (r pre rest : List Value) (i : Nat), i + r.length ≤ pre.length → setVals (pre ++ rest) i r = setVals pre i r ++ rest
  | [], _, _, _, _ => rfl
  | c :: r, pre, rest, i, h => by
    simp only [List.length_cons] at h
    simp only [setVals]
    rw [List.set_append_left _ _ (by omega), setVals_pre r _ _ _ (by simp; omega)]

/-- A row of cells, whichever kind. -/
theorem Blk.Lies.row {ν : NV} {b : Blk} {w : World} {n : Nat} (h : b.Lies ν w n) (hr : b.row = true) :
    ∃ c fz pre rest, w.heap[n]? = some (.cells c b.ty fz) ∧ c.toList = pre ++ rest ∧ DenL ν b.cells pre ∧ (b.ro = false → FzOk fz c.size) ∧
      ∀ (cs' : List Cell) (pre' : List Value) (w' : World) (c' : Array Value) (fz' : Nat × Nat), w'.heap[n]? = some (.cells c' b.ty fz') → FzOk fz' c'.size → c'.toList = pre' ++ rest → pre'.length = pre.length → DenL ν cs' pre' → ({ b with cells := cs' } : Blk).Lies ν w' n := by
  obtain ⟨h1, h⟩ := h
  unfold Blk.row at hr
  unfold Blk.Lies
  cases hk : b.kind <;> simp only [hk] at h hr <;> try (simp at hr; done)
  · obtain ⟨c, fz, pre, rest, e, e2, d, z, y⟩ := h
    refine ⟨c, fz, pre, rest, e, e2, d, z, fun cs' pre' w' c' fz' e' hz' e2' _ d' => ⟨h1, c', fz', pre', rest, e', e2', d', fun _ => hz', y⟩⟩
  · obtain ⟨c, fz, pre, rest, e, e2, d, z, y⟩ := h
    refine ⟨c, fz, pre, rest, e, e2, d, z, fun cs' pre' w' c' fz' e' hz' e2' hl d' => ⟨h1, c', fz', pre', rest, e', e2', d', fun _ => hz', ?_⟩⟩
    have a1 := congrArg List.length e2
    have a2 := congrArg List.length e2'
    simp at a1 a2
    rw [y]
    congr 1
    omega

end Go.Rx
