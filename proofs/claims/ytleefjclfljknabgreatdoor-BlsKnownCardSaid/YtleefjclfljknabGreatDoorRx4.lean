/-
Reflective execution, part 4: each operation but calls is sound.
-/
import Derived.Test.YtleefjclfljknabGreatDoorRx3
namespace Go.Rx

def nextVal : Next → Option Value
  | .value v => some v
  | .skip => some undef
  | _ => none

/-- What carrying out an operation leaves. -/
def Good (P : Program) (w0 : World) (np : Nat) (ν : NV) (m : Mem) (w : World) (s : Sem Next) (out : Out) : Prop :=
  ∃ ν' w' nx x, NV.le ν ν' ∧ s.run P w = .ok nx w' ∧ nextVal nx = some x ∧ out.av.Den ν' x ∧ Rep w0 np ν' (m.app out.up) w'

def RhoDen (ν : NV) (ρ' : Operand → Option AV) (ρ : Operand → Value) : Prop := ∀ x a, ρ' x = some a → a.Den ν (ρ x)

section
variable {P : Program} {Γ : Tab} {w0 w : World} {np : Nat} {ν : NV} {m : Mem} {ρ' : Operand → Option AV} {ρ : Operand → Value}

theorem sc_den {v x : Value} (h : (AV.one (.c (.sc v))).Den ν x) : x = v := h.1

theorem good_val {s : Sem Next} {a : AV} {x : Value} (hr : Rep w0 np ν m w) (hs : s.run P w = .ok (.value x) w) (hd : a.Den ν x) :
    Good P w0 np ν m w s { av := a } :=
  ⟨ν, w, _, x, NV.le_refl _, hs, rfl, hd, hr⟩

theorem good_val' {s : Sem Next} {out : Out} {x : Value} (hr : Rep w0 np ν m w) (hu : out.up = []) (hs : s.run P w = .ok (.value x) w) (hd : out.av.Den ν x) :
    Good P w0 np ν m w s out :=
  ⟨ν, w, _, x, NV.le_refl _, hs, rfl, hd, by rw [hu]; exact hr⟩

theorem v_run {s : Sem Value} {x : Value} {w w' : World} (h : s.run P w = .ok x w') : (do pure (Next.value (← s)) : Sem Next).run P w = .ok (.value x) w' := by
  simp only [Sem.run_bind, h, Result.andThen_ok, Sem.run_pure]

theorem at_of_get {m : Mem} {i : Nat} {b : Option Blk} (h : m[i]? = some b) : m.at i = b := by simp [Mem.at, h]

theorem at_set {m : Mem} {i j : Nat} {b : Option Blk} (hi : i < m.length) : Mem.at (m.set i b) j = if i = j then b else m.at j := by
  unfold Mem.at
  rw [List.getElem?_set]
  split
  · rename_i e; subst e; simp []
  · rfl

theorem get_lt {m : Mem} {i : Nat} {b : Option Blk} (h : m[i]? = some b) : i < m.length := by
  rcases Nat.lt_or_ge i m.length with h' | h'
  · exact h'
  · simp [List.getElem?_eq_none h'] at h

/-- Where a known block lies. -/
theorem Rep.get (hr : Rep w0 np ν m w) {b : Nat} {blk : Blk} (h : m[b]? = some (some blk)) : ∃ n, ν b = some n ∧ blk.Lies ν w n :=
  hr.blk b blk (at_of_get h)

theorem ptr_den {b off : Nat} {x : Value} {n : Nat} (h : (AV.one (.c (.ptr b off))).Den ν x) (hn : ν b = some n) : x = .pointer (some ⟨n, off, none⟩) := by
  obtain ⟨n', h1, h2⟩ := h
  rw [hn] at h1
  simp only [Option.some.injEq] at h1
  subst h1
  exact h2

theorem place_den {a : AV} {x : Value} {b off : Nat} {g : Option Nat} {blk : Blk} {n : Nat} (h : place a = some (b, off, g)) (hd : a.Den ν x) (hn : ν b = some n) (hg : globOk g blk = true) (hl : ∀ k, blk.glob = some k → n = k) :
    x = .pointer (some ⟨n, off, none⟩) := by
  unfold place at h
  split at h
  · simp only [Option.some.injEq, Prod.mk.injEq] at h
    obtain ⟨rfl, rfl, rfl⟩ := h
    exact ptr_den hd hn
  · rename_i k o
    simp only [Option.some.injEq, Prod.mk.injEq] at h
    obtain ⟨rfl, rfl, rfl⟩ := h
    have e : x = .pointer (some ⟨k, o, none⟩) := hd.1
    unfold globOk at hg
    simp only at hg
    split at hg
    · rename_i k' hk'
      have := hl k' hk'
      simp only [beq_iff_eq] at hg
      rw [e, this, hg]
    · simp at hg
  · simp at h

theorem load_run (hΓ : Γ.Ok P) (hr : Rep w0 np ν m w) {t : TypeId} {a : AV} {x : Value} {out : Out} (h : coreLoad Γ t a m = some out) (hok : out.ok = true) (hd : a.Den ν x) :
    ∃ ad y, x = .pointer (some ad) ∧ (loadVar t ad).run P w = .ok y w ∧ out.av.Den ν y ∧ out.up = [] := by
  unfold coreLoad at h
  split at h
  · rename_i b off g ti hpl hΓt
    split at h
    · rename_i blk hb
      split at h
      · rename_i v ok ht
        simp only [Option.some.injEq] at h
        subst h
        simp only [Bool.and_eq_true] at hok
        obtain ⟨n, hn, hlies⟩ := hr.get hb
        obtain ⟨c, fz, pre, rest, hh, hc, hcs, _, _⟩ := hlies.row hok.2.1
        have hx := place_den hpl hd hn hok.1 hlies.1
        subst hx
        have hti := hΓ _ _ hΓt
        have hl := run_loadVar (P := P) (o := off) hti hh
        have hsz : c.size = pre.length + rest.length := by have := congrArg List.length hc; simpa using this
        rcases takeV_sound ht hok.2.2 hcs with ⟨ha, hb', hv⟩ | ⟨ha, y, hy, hv⟩
        · refine ⟨_, .agg ((pre.drop off).take ti.size).toArray, rfl, ?_, hv, rfl⟩
          have := hl.1 ha (by omega)
          rw [hc, drop_take_pre hb'] at this
          exact this
        · refine ⟨_, y, rfl, hl.2 ha y ?_, hv, rfl⟩
          have hlt : off < pre.length := by
            rcases Nat.lt_or_ge off pre.length with h' | h'
            · exact h'
            · simp [List.getElem?_eq_none h'] at hy
          rw [← Array.getElem?_toList, hc, List.getElem?_append_left hlt, hy]
      · simp at h
    · simp at h
  · simp at h

theorem sound_load (hΓ : Γ.Ok P) (hr : Rep w0 np ν m w) {t : TypeId} {a : AV} {x : Value} {out : Out} (h : coreLoad Γ t a m = some out) (hok : out.ok = true) (hd : a.Den ν x) :
    Good P w0 np ν m w (do pure (Next.value (← Instr.loadAt t x))) out := by
  obtain ⟨ad, y, rfl, h1, h2, h3⟩ := load_run hΓ hr h hok hd
  refine good_val' hr h3 (v_run (x := y) ?_) h2
  simp only [Instr.loadAt, Instr.sureAddr, Sem.run_bind, Sem.run_pure, Result.andThen_ok]
  exact h1

theorem row_live {b : Blk} (h : b.row = true) : b.live = true := by
  unfold Blk.row at h
  unfold Blk.live
  cases hk : b.kind <;> simp only [hk] at h ⊢ <;> simp at h

theorem live_ghost {b : Blk} (h : b.live = true) : b.ghost = false := by
  unfold Blk.live at h
  unfold Blk.ghost
  cases hk : b.kind <;> simp only [hk] at h ⊢ <;> simp at h

/-- A block that is put in another's place, at the same address. -/
theorem Rep.write (hr : Rep w0 np ν m w) {b : Nat} {blk blk' : Blk} {n : Nat} {w' : World} (hb : m[b]? = some (some blk)) (hro : blk.ro = false) (hlv : blk.live = true) (hro' : blk'.ro = false) (hg' : blk'.ghost = false) (hn : ν b = some n)
    (hos : w'.os = w.os) (htape : w'.tape = w.tape) (hout : w'.output = w.output) (hsize : w'.heap.size = w.heap.size) (hother : ∀ i, i ≠ n → w'.heap[i]? = w.heap[i]?)
    (hl : blk'.Lies ν w' n) : Rep w0 np ν (m.set b (some blk')) w' := by
  have hlt := get_lt hb
  have hat := at_of_get hb
  have hg : blk.ghost = false := by
    unfold Blk.live at hlv
    unfold Blk.ghost
    cases hk : blk.kind <;> simp only [hk] at hlv ⊢ <;> simp at hlv
  refine ⟨hos.trans hr.os, htape.trans hr.tape, hout.trans hr.output, by rw [hsize]; exact hr.size, ?_, ?_, ?_, ?_, ?_, ?_⟩
  · intro i bi hi
    rw [at_set hlt] at hi
    by_cases e : b = i
    · subst e
      simp only [if_true, Option.some.injEq] at hi
      subst hi
      exact ⟨n, hn, hl⟩
    · rw [if_neg e] at hi
      obtain ⟨k, h1, h2⟩ := hr.blk i bi hi
      refine ⟨k, h1, h2.world (by omega) fun hlive => hother k fun e' => ?_⟩
      exact hr.sep b i blk bi n hat hi e hro hlv hlive hn (e' ▸ h1)
  · intro i bi k hi hgi hnp hk
    rw [at_set hlt] at hi
    have hold : w0.heap.size ≤ k ∨ ∃ j bj, j < np ∧ m.at j = some bj ∧ bj.ro = false ∧ ν j = some k := by
      by_cases e : b = i
      · subst e
        exact hr.new b blk k hat hg hnp hk
      · rw [if_neg e] at hi
        exact hr.new i bi k hi hgi hnp hk
    rcases hold with h | ⟨j, bj, h1, h2, h3, h4⟩
    · exact .inl h
    · refine .inr ?_
      by_cases e : b = j
      · exact ⟨j, blk', h1, by rw [at_set hlt, if_pos e], hro', h4⟩
      · exact ⟨j, bj, h1, by rw [at_set hlt, if_neg e]; exact h2, h3, h4⟩
  · intro i bi hi hnp hgi
    rw [at_set hlt] at hi
    by_cases e : b = i
    · subst e
      simp only [if_true, Option.some.injEq] at hi
      subst hi
      rw [hg'] at hgi; simp at hgi
    · rw [if_neg e] at hi; exact hr.gro i bi hi hnp hgi
  · intro i hi
    rw [at_set hlt] at hi
    by_cases e : b = i
    · subst e; simp at hi
    · rw [if_neg e] at hi; exact hr.dom i hi
  · intro i j bi bj k hi hj hij hbro hli hlj hk
    rw [at_set hlt] at hi hj
    by_cases ei : b = i
    · subst ei
      rw [if_neg hij] at hj
      exact hr.sep b j blk bj k hat hj hij hro hlv hlj hk
    · rw [if_neg ei] at hi
      by_cases ej : b = j
      · subst ej
        exact hr.sep i b bi blk k hi hat hij hbro hli hlv hk
      · rw [if_neg ej] at hj
        exact hr.sep i j bi bj k hi hj hij hbro hli hlj hk
  · intro k hk hkeep
    have hne : k ≠ n := fun e => hkeep b blk' (by rw [at_set hlt, if_pos rfl]) hro' (e ▸ hn)
    rw [hother k hne]
    refine hr.keep k hk fun i bi hi hbro => ?_
    by_cases e : b = i
    · subst e; rw [hn]; exact fun e => hne (by simpa using e.symm)
    · exact hkeep i bi (by rw [at_set hlt, if_neg e]; exact hi) hbro

theorem sound_store (hΓ : Γ.Ok P) (hr : Rep w0 np ν m w) {t : TypeId} {a y : AV} {x xv : Value} {out : Out} (h : coreStore Γ t a y m = some out) (hok : out.ok = true) (hd : a.Den ν x) (hdy : y.Den ν xv) :
    Good P w0 np ν m w (do Instr.storeAt t x xv; pure Next.skip) out := by
  unfold coreStore at h
  split at h
  · rename_i b off v ti hΓt
    split at h
    · rename_i blk hb
      split at h
      · simp at h
      · rename_i hro
        simp only [Option.some.injEq] at h
        subst h
        simp only [Bool.and_eq_true, decide_eq_true_eq] at hok
        obtain ⟨hrow, hok⟩ := hok
        obtain ⟨n, hn, hlies⟩ := hr.get hb
        obtain ⟨c, fz, pre, rest, hh, hc, hcs, hfz, hback⟩ := hlies.row hrow
        have hx := ptr_den hd hn
        subst hx
        have hfo := hfz hro
        have hv := V0.Den.cells hdy
        have hsz : c.size = pre.length + rest.length := by have := congrArg List.length hc; simpa using this
        have hvl := hv.length
        have hpl := hcs.length
        simp only [Array.length_toList] at hvl
        obtain ⟨w', hrun, hl⟩ := run_storeVar (P := P) (o := off) (hΓ _ _ hΓt) hfo hh hv.plain (by omega) (by omega)
        refine ⟨ν, w', .skip, undef, NV.le_refl _, ?_, rfl, ⟨#[], rfl, trivial⟩, ?_⟩
        · simp only [Instr.storeAt, Instr.sureAddr, Sem.run_bind, Sem.run_pure, Result.andThen_ok, hrun]
        · refine hr.write hb hro (row_live hrow) hro (live_ghost (row_live hrow)) hn hl.os hl.tape hl.output hl.size hl.other ?_
          refine hback _ (setVals pre off xv.cells.toList) w' _ fz hl.here (by simpa [setVals_length] using hfo) ?_ (setVals_length _ _ _) (DenL.setCells off hv hcs)
          rw [List.toList_toArray, hc, setVals_pre _ _ _ _ (by simp; omega)]
    · simp at h
  · simp at h

theorem set_dom {ν : NV} {id n : Nat} : NV.le ν (fun i => if i = id then some n else ν i) ∨ ν id ≠ none := by
  by_cases h : ν id = none
  · refine .inl fun i k hk => ?_
    by_cases e : i = id
    · subst e; rw [h] at hk; simp at hk
    · simp [e, hk]
  · exact .inr h

/-- A new block, wherever it lies: at the heap's end, or at an address that only a given-up block has; or a number. -/
theorem Rep.fresh (hr : Rep w0 np ν m w) {id n : Nat} (hid : m[id]? = some none) {blk : Blk} {w' : World} (hos : w'.os = w.os) (htape : w'.tape = w.tape) (hout : w'.output = w.output)
    (hsize : w.heap.size ≤ w'.heap.size) (hold : ∀ k, k < w.heap.size → k ≠ n → w'.heap[k]? = w.heap[k]?) (hgr : blk.ghost = true → blk.ro = true)
    (hplace : blk.ghost = true ∧ (∀ k, k < w.heap.size → w'.heap[k]? = w.heap[k]?) ∨ w.heap.size ≤ n ∨ (∀ i b, m.at i = some b → b.live = true → ν i ≠ some n) ∧ ∃ j bj, m.at j = some bj ∧ bj.dead = true ∧ bj.ro = false ∧ ν j = some n)
    (hl : ∀ ν' : NV, NV.le ν ν' → blk.Lies ν' w' n) :
    NV.le ν (fun i => if i = id then some n else ν i) ∧ Rep w0 np (fun i => if i = id then some n else ν i) (m.set id (some blk)) w' := by
  have hlt := get_lt hid
  have hνid : ν id = none := hr.dom id (at_of_get hid)
  have hle : NV.le ν (fun i => if i = id then some n else ν i) := by
    intro i k hk
    by_cases e : i = id
    · subst e; rw [hνid] at hk; simp at hk
    · simp [e, hk]
  have hidne : ∀ i b, m.at i = some b → i ≠ id := by
    intro i b h e
    subst e
    rw [at_of_get hid] at h
    simp at h
  have hst : ∀ i b k, m.at i = some b → b.live = true → ν i = some k → w'.heap[k]? = w.heap[k]? := by
    intro i b k hi hlive hk
    obtain ⟨k', h1, h2⟩ := hr.blk i b hi
    rw [hk] at h1; simp only [Option.some.injEq] at h1; subst h1
    have hklt := h2.lt (live_ghost hlive)
    rcases hplace with ⟨_, h⟩ | h | ⟨h, _⟩
    · exact h k hklt
    · exact hold k hklt (by omega)
    · exact hold k hklt fun e => h i b hi hlive (e ▸ hk)
  refine ⟨hle, hos.trans hr.os, htape.trans hr.tape, hout.trans hr.output, Nat.le_trans hr.size hsize, ?_, ?_, ?_, ?_, ?_, ?_⟩
  · intro i bi hi
    rw [at_set hlt] at hi
    by_cases e : id = i
    · subst e
      simp only [if_true, Option.some.injEq] at hi
      subst hi
      exact ⟨n, by simp, hl _ hle⟩
    · rw [if_neg e] at hi
      obtain ⟨k, h1, h2⟩ := hr.blk i bi hi
      exact ⟨k, by simp [h1, Ne.symm e], (h2.mono hle).world hsize fun hlive => hst i bi k hi hlive h1⟩
  · intro i bi k hi hg hnp hk
    rw [at_set hlt] at hi
    have hup : (∃ j bj, j < np ∧ m.at j = some bj ∧ bj.ro = false ∧ ν j = some k) → ∃ j bj, j < np ∧ Mem.at (m.set id (some blk)) j = some bj ∧ bj.ro = false ∧ (if j = id then some n else ν j) = some k := by
      rintro ⟨j, bj, h1, h2, h3, h4⟩
      have hj := hidne j bj h2
      exact ⟨j, bj, h1, by rw [at_set hlt, if_neg (Ne.symm hj)]; exact h2, h3, by simp [hj, h4]⟩
    by_cases e : id = i
    · subst e
      simp only [if_true, Option.some.injEq] at hi hk
      subst hi
      subst hk
      rcases hplace with ⟨h, _⟩ | h | ⟨_, j, bj, h2, h3, h4, h5⟩
      · rw [hg] at h; simp at h
      · exact .inl (Nat.le_trans hr.size h)
      · by_cases hj : j < np
        · exact .inr (hup ⟨j, bj, hj, h2, h4, h5⟩)
        · have hgj : bj.ghost = false := by
            unfold Blk.dead at h3
            unfold Blk.ghost
            cases hk : bj.kind <;> simp only [hk] at h3 ⊢ <;> simp at h3
          rcases hr.new j bj n h2 hgj (by omega) h5 with h | h
          · exact .inl h
          · exact .inr (hup h)
    · rw [if_neg e] at hi
      simp only [if_neg (Ne.symm e)] at hk
      rcases hr.new i bi k hi hg hnp hk with h | h
      · exact .inl h
      · exact .inr (hup h)
  · intro i bi hi hnp hgi
    rw [at_set hlt] at hi
    by_cases e : id = i
    · subst e
      simp only [if_true, Option.some.injEq] at hi
      subst hi
      exact hgr hgi
    · rw [if_neg e] at hi; exact hr.gro i bi hi hnp hgi
  · intro i hi
    rw [at_set hlt] at hi
    by_cases e : id = i
    · subst e; simp at hi
    · rw [if_neg e] at hi; simp [Ne.symm e, hr.dom i hi]
  · intro i j bi bj k hi hj hij hbro hli hlj hk
    rw [at_set hlt] at hi hj
    have hfar : ∀ j bj, m.at j = some bj → bj.live = true → blk.live = true → ν j ≠ some n := by
      intro j bj hj hlj hlb hc
      obtain ⟨k', h1, h2⟩ := hr.blk j bj hj
      rw [hc] at h1; simp only [Option.some.injEq] at h1; subst h1
      have := h2.lt (live_ghost hlj)
      rcases hplace with ⟨h, _⟩ | h | ⟨h, _⟩
      · rw [live_ghost hlb] at h; simp at h
      · omega
      · exact h j bj hj hlj hc
    by_cases ei : id = i
    · subst ei
      simp only [if_true, Option.some.injEq] at hk hi
      subst hk
      subst hi
      rw [if_neg hij] at hj
      simp only [if_neg (Ne.symm hij)]
      exact hfar j bj hj hlj hli
    · rw [if_neg ei] at hi
      simp only [if_neg (Ne.symm ei)] at hk
      by_cases ej : id = j
      · subst ej
        simp only [if_true, ne_eq, Option.some.injEq] at hj ⊢
        subst hj
        intro e
        subst e
        exact hfar i bi hi hli hlj hk
      · rw [if_neg ej] at hj
        simp only [if_neg (Ne.symm ej)]
        exact hr.sep i j bi bj k hi hj hij hbro hli hlj hk
  · intro k hk hkeep
    have h1 := hr.size
    have hkp : ∀ i b, m.at i = some b → b.ro = false → ν i ≠ some k := fun i bi hi hbro => by
      have hne := hidne i bi hi
      have := hkeep i bi (by rw [at_set hlt, if_neg (Ne.symm hne)]; exact hi) hbro
      simpa [hne] using this
    have hh : w'.heap[k]? = w.heap[k]? := by
      rcases hplace with ⟨_, h⟩ | h | ⟨_, j, bj, h2, _, h4, h5⟩
      · exact h k (by omega)
      · exact hold k (by omega) (by omega)
      · exact hold k (by omega) fun e => hkp j bj h2 h4 (e ▸ h5)
    rw [hh]
    exact hr.keep k hk hkp

theorem Rep.new' (hr : Rep w0 np ν m w) {id : Nat} (hid : m[id]? = some none) {blk : Blk} {o : Obj} (hgr : blk.ghost = false)
    (hl : ∀ ν' : NV, NV.le ν ν' → blk.Lies ν' { w with heap := w.heap.push o } w.heap.size) :
    NV.le ν (fun i => if i = id then some w.heap.size else ν i) ∧ Rep w0 np (fun i => if i = id then some w.heap.size else ν i) (m.set id (some blk)) { w with heap := w.heap.push o } :=
  hr.fresh hid rfl rfl rfl (by simp) (fun k hk _ => by simp only; rw [Array.getElem?_push, if_neg (by omega)]) (fun h => by rw [hgr] at h; simp at h) (.inr (.inl (Nat.le_refl _))) hl

theorem run_newRow {t : TypeId} {c : Array Value} : (newRow t c).run P w = .ok ⟨w.heap.size, 0, none⟩ { w with heap := w.heap.push (.cells c t) } := by
  simp only [newRow, newObj, Sem.run_bind, Sem.run, Result.andThen_ok, Sem.run_pure]

theorem sound_new (hr : Rep w0 np ν m w) {id : Nat} {blk : Blk} {a : AV} {out : Out} {c : Array Value} {x : Value} {s : Sem Next} (h : newBlk m id blk a = some out)
    (_hro : blk.ro = false) (hkind : blk.kind = .exact) (hglob : blk.glob = none) (hd : DenL ν blk.cells c.toList) (ha : ∀ ν' : NV, ν' id = some w.heap.size → a.Den ν' x)
    (hs : s.run P w = .ok (.value x) { w with heap := w.heap.push (.cells c blk.ty) }) : Good P w0 np ν m w s out := by
  unfold newBlk at h
  split at h
  · rename_i hid
    simp only [Option.some.injEq] at h
    subst h
    obtain ⟨hle, hrep⟩ := hr.new' hid (blk := blk) (o := .cells c blk.ty) (by unfold Blk.ghost; rw [hkind]) fun ν' hle => by
      refine ⟨by rw [hglob]; intro g hg; simp at hg, ?_⟩
      simp only [hkind]
      exact ⟨c, (0, 0), c.toList, [], by simp, by simp, hd.mono hle, fun _ => .inl rfl, rfl⟩
    exact ⟨_, _, _, x, hle, hs, rfl, ha _ (by simp), hrep⟩
  · simp at h

theorem denL_sc {l : List Value} (h : ∀ v ∈ l, Plain v) : DenL ν (l.map .sc) l := by
  induction l with
  | nil => trivial
  | cons v l ih => exact ⟨⟨rfl, h v (List.mem_cons_self ..)⟩, ih fun x hx => h x (List.mem_cons_of_mem _ hx)⟩

theorem all_plain {l : List Value} (h : l.all plainB = true) : ∀ v ∈ l, Plain v := fun v hv => plain_of_b (by simpa using (List.all_eq_true.1 h) v hv)

theorem ofVal_cells {z : Value} (h : constOk z = true) : DenL ν (ofVal z).cells z.cells.toList := by
  cases z <;> first
    | exact ⟨⟨rfl, trivial⟩, trivial⟩
    | exact denL_sc (all_plain (by simpa [constOk] using h))
    | (simp [constOk] at h; done)

theorem constAV_den {v : Value} {a : AV} (h : constAV v = some a) : a.Den ν v := by
  cases v
  case agg cs =>
    simp only [constAV] at h
    split at h
    · rename_i hp
      simp only [Option.some.injEq] at h
      subst h
      exact ⟨cs, rfl, denL_sc (all_plain hp)⟩
    · simp at h
  case tuple vs =>
    simp only [constAV] at h
    split at h
    · rename_i hp
      simp only [Option.some.injEq] at h
      subst h
      have : vs = #[] := by
        have : vs.toList = [] := by simpa using hp
        exact Array.ext' (by simpa using this)
      subst this
      exact ⟨#[], rfl, trivial⟩
    · simp at h
  all_goals
    simp only [constAV, Option.some.injEq] at h
    subst h
    exact ⟨rfl, trivial⟩

theorem sound_alloc (hΓ : Γ.Ok P) (hr : Rep w0 np ν m w) {t : TypeId} {id : Nat} {out : Out} (h : coreAlloc Γ t id m = some out) :
    Good P w0 np ν m w (do pure (Next.value (← Instr.alloc t true (.tuple #[])))) out := by
  unfold coreAlloc at h
  split at h
  · rename_i ti hΓt
    split at h
    · rename_i z hz
      split at h
      · rename_i hc
        refine sound_new hr h rfl rfl rfl (ofVal_cells hc) (x := .pointer (some ⟨w.heap.size, 0, none⟩)) (fun ν' e => ⟨_, e, rfl⟩) ?_
        refine v_run ?_
        simp only [Instr.alloc, Sem.run_bind, (hΓ _ _ hΓt).zeroValue hz, Result.andThen_ok, newVar, run_newRow, Sem.run_pure]
      · simp at h
    · simp at h
  · simp at h

theorem sound_box (hr : Rep w0 np ν m w) {t : TypeId} {id : Nat} {a : AV} {x : Value} {out : Out} (h : coreBox t a id m = some out) (hd : a.Den ν x) :
    Good P w0 np ν m w (do pure (Next.value (← Instr.box t x))) out := by
  unfold coreBox at h
  split at h
  · rename_i v
    refine sound_new hr h rfl rfl rfl (V0.Den.cells hd) (x := .pointer (some ⟨w.heap.size, 0, none⟩)) (fun ν' e => ⟨_, e, rfl⟩) ?_
    refine v_run ?_
    simp only [Instr.box, newVar, Sem.run_bind, run_newRow, Result.andThen_ok, Sem.run_pure]
  · simp at h

theorem fieldOf_some {s : TypeId} {f : Nat} {fd : Field} {tf : TI} (hΓ : Γ.Ok P) (h : fieldOf Γ s f = some (fd, tf)) :
    ∃ fs, P.underlying s = some (.struct fs) ∧ fs[f]? = some fd ∧ tf.Ok P fd.type := by
  unfold fieldOf at h
  split at h
  · rename_i ti hti
    split at h
    · rename_i fs hfs
      split at h
      · rename_i fd' hfd
        split at h
        · rename_i tf' htf
          simp only [Option.some.injEq, Prod.mk.injEq] at h
          obtain ⟨rfl, rfl⟩ := h
          exact ⟨fs, by rw [(hΓ _ _ hti).und, hfs], by simpa using hfd, hΓ _ _ htf⟩
        · simp at h
      · simp at h
    · simp at h
  · simp at h

theorem sound_fieldAddr (hΓ : Γ.Ok P) (hr : Rep w0 np ν m w) {s : TypeId} {f : Nat} {a : AV} {x : Value} {out : Out} (h : coreFieldAddr Γ s a f = some out) (hd : a.Den ν x) :
    Good P w0 np ν m w (do pure (Next.value (← Instr.fieldAt s x f))) out := by
  unfold coreFieldAddr at h
  split at h
  · rename_i b off fd tf hf
    split at h
    · simp at h
    · rename_i hsz
      simp only [val, Option.some.injEq] at h
      subst h
      obtain ⟨fs, hu, hfd, htf⟩ := fieldOf_some hΓ hf
      obtain ⟨n, hn, rfl⟩ := hd
      refine good_val hr (v_run (x := .pointer (some ⟨n, off + fd.offset, none⟩)) ?_) ⟨n, hn, rfl⟩
      simp only [Instr.fieldAt, Sem.run_bind, run_underlying hu, Result.andThen_ok, hfd, Instr.sureAddr, Sem.run_pure, fieldPlace, htf.sizeOf, if_neg hsz, addr_add]
  · simp at h

theorem run_part {t : TypeId} {ti : TI} (ht : ti.Ok P t) {cs : List Cell} {c : Array Value} {off : Nat} {v : V0} {ok : Bool} (h : takeV ti cs off = some (v, ok)) (hok : ok = true) (hd : DenL ν cs c.toList) :
    ∃ x, (part t c off).run P w = .ok x w ∧ v.Den ν x := by
  rcases takeV_sound h hok hd with ⟨ha, hb, hv⟩ | ⟨ha, y, hy, hv⟩
  · refine ⟨_, ?_, hv⟩
    simp only [part, Sem.run_bind, ht.isAgg, Result.andThen_ok, ha, if_true, ht.sizeOf, Sem.run_pure]
    congr 2
    apply Array.ext'
    simp [List.take_drop]
  · refine ⟨y, ?_, hv⟩
    simp only [part, Sem.run_bind, ht.isAgg, Result.andThen_ok, ha, Bool.false_eq_true, if_false]
    have : c[off]? = some y := by simpa using hy
    rw [this]
    rfl

theorem sound_field (hΓ : Γ.Ok P) (hr : Rep w0 np ν m w) {s : TypeId} {f : Nat} {a : AV} {x : Value} {out : Out} (h : coreField Γ s a f = some out) (hok : out.ok = true) (hd : a.Den ν x) :
    Good P w0 np ν m w (do pure (Next.value (← Instr.field s x f))) out := by
  unfold coreField at h
  split at h
  · rename_i cs fd tf hf
    split at h
    · rename_i v ok ht
      simp only [Option.some.injEq] at h
      subst h
      obtain ⟨fs, hu, hfd, htf⟩ := fieldOf_some hΓ hf
      obtain ⟨c, rfl, hc⟩ := hd
      obtain ⟨y, hy, hv⟩ := run_part (P := P) (w := w) htf ht hok hc
      refine good_val' hr rfl (v_run (x := y) ?_) hv
      simp only [Instr.field, Sem.run_bind, run_underlying hu, Result.andThen_ok, hfd, asAgg, Sem.run_pure, hy]
    · simp at h
  · simp at h

theorem inB_spec {i : Int} {n : Nat} (h : inB i n = true) : 0 ≤ i ∧ i < n := by simpa [inB] using h

theorem sound_indexAddr (hΓ : Γ.Ok P) (hr : Rep w0 np ν m w) {t : TypeId} {a b : AV} {x y : Value} {out : Out} (h : coreIndexAddr Γ t a b = some out) (hok : out.ok = true) (hd : a.Den ν x) (hdy : b.Den ν y) :
    Good P w0 np ν m w (do pure (Next.value (← Instr.indexAt t x y))) out := by
  unfold coreIndexAddr at h
  split at h
  · rename_i ti k i hti
    obtain ⟨rfl, _⟩ := hdy
    have ht := hΓ _ _ hti
    split at h
    · rename_i len e b off hdesc
      split at h
      · rename_i te hte
        simp only [Option.some.injEq] at h
        subst h
        obtain ⟨n, hn, rfl⟩ := hd
        refine good_val' hr rfl (v_run (x := .pointer (some ⟨n, off + i.toNat * te.size, none⟩)) ?_) ⟨n, hn, rfl⟩
        have hin := inB_spec hok
        simp only [Instr.indexAt, asIntOf, Sem.run_bind, Sem.run_pure, Result.andThen_ok, run_underlying (hdesc ▸ ht.und), Instr.sureAddr, if_pos hin, (hΓ _ _ hte).sizeOf, addr_add]
      · simp at h
    · rename_i e b off len cap hdesc
      split at h
      · rename_i te hte
        simp only [Option.some.injEq] at h
        subst h
        obtain ⟨n, hn, rfl⟩ := hd
        refine good_val' hr rfl (v_run (x := .pointer (some ⟨n, off + i.toNat * te.size, none⟩)) ?_) ⟨n, hn, rfl⟩
        have hin := inB_spec hok
        simp only [Instr.indexAt, asIntOf, Sem.run_bind, Sem.run_pure, Result.andThen_ok, run_underlying (hdesc ▸ ht.und), if_pos hin, (hΓ _ _ hte).sizeOf, addr_add]
      · simp at h
    · rename_i e b s z off len hdesc
      split at h
      · rename_i te hte
        simp only [Option.some.injEq] at h
        subst h
        obtain ⟨n, c, k, hn, _, rfl, _⟩ := hd
        refine good_val' hr rfl (v_run (x := .pointer (some ⟨n, off + i.toNat * te.size, none⟩)) ?_) ⟨n, hn, rfl⟩
        have hin := inB_spec hok
        simp only [Instr.indexAt, asIntOf, Sem.run_bind, Sem.run_pure, Result.andThen_ok, run_underlying (hdesc ▸ ht.und), if_pos hin, (hΓ _ _ hte).sizeOf, addr_add]
      · simp at h
    · rename_i len e g off hdesc
      split at h
      · rename_i te hte
        simp only [Option.some.injEq] at h
        subst h
        obtain ⟨rfl, _⟩ := hd
        refine good_val' hr rfl (v_run (x := .pointer (some ⟨g, off + i.toNat * te.size, none⟩)) ?_) ⟨rfl, trivial⟩
        have hin := inB_spec hok
        simp only [Instr.indexAt, asIntOf, Sem.run_bind, Sem.run_pure, Result.andThen_ok, run_underlying (hdesc ▸ ht.und), Instr.sureAddr, if_pos hin, (hΓ _ _ hte).sizeOf, addr_add]
      · simp at h
    · simp at h
  · simp at h

theorem sound_index (hΓ : Γ.Ok P) (hr : Rep w0 np ν m w) {t : TypeId} {a b : AV} {x y : Value} {out : Out} (h : coreIndex Γ t a b = some out) (hok : out.ok = true) (hd : a.Den ν x) (hdy : b.Den ν y) :
    Good P w0 np ν m w (do pure (Next.value (← Instr.index t x y))) out := by
  unfold coreIndex at h
  split at h
  · rename_i ti k i hti
    obtain ⟨rfl, _⟩ := hdy
    have ht := hΓ _ _ hti
    split at h
    · rename_i len e cs hdesc
      split at h
      · rename_i te hte
        split at h
        · rename_i v ok htv
          simp only [Option.some.injEq] at h
          subst h
          simp only [Bool.and_eq_true] at hok
          obtain ⟨c, rfl, hc⟩ := hd
          obtain ⟨y, hy, hv⟩ := run_part (P := P) (w := w) (hΓ _ _ hte) htv hok.2 hc
          have hin := inB_spec hok.1
          refine good_val' hr rfl (v_run (x := y) ?_) hv
          simp only [Instr.index, asIntOf, Sem.run_bind, Sem.run_pure, Result.andThen_ok, run_underlying (hdesc ▸ ht.und), if_pos hin, (hΓ _ _ hte).sizeOf, hy]
        · simp at h
      · simp at h
    · simp at h
  · simp at h

end
end Go.Rx
