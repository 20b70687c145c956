/-
Reflective execution: append, bytes of a string.
-/
import Derived.Test.YtleefjclfljknabGreatDoorRxS
namespace Go.Rx
section
variable {P : Program} {Γ : Tab} {w0 w : World} {np : Nat} {ν : NV} {m : Mem}

theorem run_firstCells {k : Nat} {c : Array Value} {ty : TypeId} {fz : Nat × Nat} {off n size len cap : Nat} {pre rest : List Value} (hh : w.heap[k]? = some (.cells c ty fz)) (hc : c.toList = pre ++ rest) (hb : off + n * size ≤ pre.length) :
    (Builtin.firstCells size n (.slice (some ⟨k, off, none⟩) len cap)).run P w = .ok ((pre.drop off).take (n * size)).toArray w := by
  have hsz : c.size = pre.length + rest.length := by have := congrArg List.length hc; simpa using this
  simp only [Builtin.firstCells, loadCells]
  rw [run_loadCells hh off _ 0 _ (by omega)]
  simp only [Nat.add_zero, hc, drop_take_pre hb]
  simp

theorem denL_bytes {s : ByteArray} : DenL ν (byteCells s) (s.data.toList.map fun b => Value.int .u8 b.toNat) := by
  unfold byteCells
  generalize s.data.toList = l
  induction l with
  | nil => trivial
  | cons b l ih => exact ⟨⟨rfl, trivial⟩, ih⟩

theorem src_run (hr : Rep w0 np ν m w) {size : Nat} {a : AV} {x : Value} {src : SrcR} (h : srcOf m size a = some src) (hok : src.ok = true) (hd : a.Den ν x) :
    (Builtin.lenOf x).run P w = .ok src.n w ∧ (∃ vs : Array Value, (∀ w1 : World, w1.heap = w.heap → (Builtin.firstCells size src.n x).run P w1 = .ok vs w1) ∧ DenL ν src.cells vs.toList) ∧ (src.n = 0 → src.cells = []) := by
  unfold srcOf at h
  split at h
  · rename_i b off n cap
    split at h
    · rename_i blk hb
      simp only [Option.some.injEq] at h
      subst h
      simp only [Bool.and_eq_true, decide_eq_true_eq] at hok
      obtain ⟨k, hk, hlies⟩ := hr.get hb
      obtain ⟨c, fz, pre, rest, hh, hc, hcs, _, _⟩ := hlies.row hok.1
      obtain ⟨k', hk', rfl⟩ := hd
      rw [hk] at hk'
      simp only [Option.some.injEq] at hk'
      subst hk'
      have hl := hcs.length
      refine ⟨rfl, ⟨_, fun w1 e => run_firstCells (by rw [e]; exact hh) hc (by show off + n * size ≤ pre.length; omega), by simpa using (hcs.drop off).take (n * size)⟩, fun e => ?_⟩
      simp only at e
      subst e
      simp
    · simp at h
  · rename_i b s z off n
    split at h
    · rename_i blk hb
      simp only [Option.some.injEq] at h
      subst h
      simp only [Bool.and_eq_true, decide_eq_true_eq] at hok
      obtain ⟨k, hk, hlies⟩ := hr.get hb
      obtain ⟨c, fz, pre, rest, hh, hc, hcs, _, _⟩ := hlies.row hok.1
      obtain ⟨k', c', j, hk', _, rfl, _⟩ := hd
      rw [hk] at hk'
      simp only [Option.some.injEq] at hk'
      subst hk'
      have hl := hcs.length
      refine ⟨rfl, ⟨_, fun w1 e => run_firstCells (by rw [e]; exact hh) hc (by show off + n * size ≤ pre.length; omega), by simpa using (hcs.drop off).take (n * size)⟩, fun e => ?_⟩
      simp only at e
      subst e
      simp
    · simp at h
  · simp only [Option.some.injEq] at h
    subst h
    have e := sc_den hd
    subst e
    exact ⟨rfl, ⟨#[], fun w1 _ => rfl, trivial⟩, fun _ => rfl⟩
  · simp only [Option.some.injEq] at h
    subst h
    obtain ⟨a, c, rfl⟩ := hd
    refine ⟨rfl, ⟨#[], fun w1 _ => ?_, trivial⟩, fun _ => rfl⟩
    cases a with
    | none => rfl
    | some a => simp [Builtin.firstCells, loadCells, loadCellsFrom]
  · rename_i s
    simp only [Option.some.injEq] at h
    subst h
    have e := sc_den hd
    subst e
    refine ⟨rfl, ⟨s.data.map fun b => .int .u8 b.toNat, fun w1 _ => ?_, by simpa using denL_bytes⟩, fun e => ?_⟩
    · have : s.extract 0 s.size = s := by simp
      simp only [Builtin.firstCells, this]
      rfl
    · have : s.data = #[] := by
        have h2 : s.data.size = 0 := e
        exact Array.eq_empty_of_size_eq_zero h2
      simp [byteCells, this]
  · simp at h

theorem growBy_le (newLen : Nat) : ∀ (r c : Nat), Builtin.growBy newLen r c ≤ max c (newLen + (newLen + 768) / 4)
  | 0, c => by simp only [Builtin.growBy]; omega
  | r + 1, c => by
    simp only [Builtin.growBy]
    split
    · omega
    · have := growBy_le newLen r (c + (c + 768) / 4)
      omega

theorem nextslicecap_le {need cap : Nat} (h : cap < need) : Builtin.nextslicecap need cap ≤ 2 * need + 192 := by
  unfold Builtin.nextslicecap
  split
  · omega
  · split
    · omega
    · have := growBy_le need 4 cap
      omega

/-- What an append that grows comes to. -/
theorem run_grow {t tx ty e : TypeId} {te : TI} {d : TypeDesc} (ht : P.underlying t = some (.slice e)) (hte : te.Ok P e) (hx : P.underlying tx = some d) (hd : notInt d = true)
    {base : Option Addr} {sLen sCap n : Nat} {x : Value} {old new : Array Value} {z : Value} (hlen : (Builtin.lenOf x).run P w = .ok n w)
    (hold : ∀ w1 : World, w1.heap = w.heap → (Builtin.firstCells te.size sLen (.slice base sLen sCap)).run P w1 = .ok old w1)
    (hnew : ∀ w1 : World, w1.heap = w.heap → (Builtin.firstCells te.size n x).run P w1 = .ok new w1) (hz : te.zero = some z) (hg : sCap < sLen + n) (hb0 : 0 < te.bytes) (hfit : (2 * (sLen + n) + 192) * te.bytes ≤ 2 ^ 48) :
    ∃ (newCap : Nat) (rest : Array Value), sLen + n ≤ newCap ∧ rest.size = (newCap - (sLen + n)) * z.cells.size ∧
      (Builtin.append_ #[t, tx] ty #[.slice base sLen sCap, x]).run P w = .ok (.slice (some ⟨w.heap.size, 0, none⟩) (sLen + n) newCap) { w with drawn := w.drawn + 1, heap := w.heap.push (.cells (old ++ new ++ rest) e) } := by
  obtain ⟨i, hi, hsz, hzi, hby⟩ := hte.info
  have h1 : ¬ (sLen + n ≤ sCap) := by omega
  have hb1 : ¬ te.bytes = 0 := by omega
  have h2 : ¬ (Builtin.nextslicecap (sLen + n) sCap * te.bytes > 2 ^ 48) := by
    have := Nat.mul_le_mul_right te.bytes (nextslicecap_le hg)
    omega
  let q : Question := .appendCap (sLen + n) sCap e
  let newCap := q.cut (w.tape w.drawn q)
  have hcap : sLen + n ≤ newCap := by simp only [newCap, q, Question.cut]; omega
  let w1 : World := { w with drawn := w.drawn + 1 }
  refine ⟨newCap, Builtin.zeroCells z.cells (newCap - (sLen + n)), hcap, by simp [Builtin.zeroCells], ?_⟩
  have e1 := hold w1 rfl
  have e2 := hnew w1 rfl
  have hch : (choose (.appendCap (sLen + n) sCap e)).run P w = .ok newCap w1 := rfl
  have hask : ∀ (b : Nat) (w : World), (askRoom b).run P w = .ok () w := by
    intro b w
    unfold askRoom
    split <;> rfl
  have hzv := hte.zeroValue hz w1
  unfold Builtin.append_
  simp only [List.getElem?_toArray, List.getElem?_cons_zero, List.getElem?_cons_succ, Sem.run_bind, run_underlying ht, Result.andThen_ok, hte.sizeOf, run_underlying hx, Sem.run_pure]
  cases d
  case int k => simp [notInt] at hd
  all_goals
    simp only [Bool.false_eq_true, if_false, hlen, Result.andThen_ok, h1, run_typeInfo hi, hby, hb1, or_self, and_false, h2, Sem.run_bind, Sem.run_pure]
    simp only [hch, hask, Result.andThen_ok, e1, Bool.not_false, if_true, e2, hzv, run_newRow]
    rfl

/-- What an append that fits comes to. -/
theorem run_fit {t tx ty e : TypeId} {te : TI} {d : TypeDesc} (ht : P.underlying t = some (.slice e)) (hte : te.Ok P e) (hx : P.underlying tx = some d) (hd : notInt d = true)
    {base : Option Addr} {sLen sCap n : Nat} {x : Value} {new : Array Value} {w' : World} (hlen : (Builtin.lenOf x).run P w = .ok n w)
    (hnew : (Builtin.firstCells te.size n x).run P w = .ok new w) (hg : sLen + n ≤ sCap) (hst : ∀ a, base = some a → (storeCells (a.add (sLen * te.size)) new.toList).run P w = .ok () w') (hno : base = none → w' = w) :
    (Builtin.append_ #[t, tx] ty #[.slice base sLen sCap, x]).run P w = .ok (.slice base (sLen + n) sCap) w' := by
  unfold Builtin.append_
  simp only [List.getElem?_toArray, List.getElem?_cons_zero, List.getElem?_cons_succ, Sem.run_bind, run_underlying ht, Result.andThen_ok, hte.sizeOf, run_underlying hx, Sem.run_pure]
  cases d
  case int k => simp [notInt] at hd
  all_goals
    simp only [Bool.false_eq_true, if_false, hlen, Result.andThen_ok, hg, if_true, Bool.not_false, hnew, Sem.run_bind]
    cases base with
    | none => rw [hno rfl]; rfl
    | some a => simp only [hst a rfl, Sem.run_bind, Result.andThen_ok, Sem.run_pure]

theorem call_append {t tx ty : TypeId} {x y v : Value} {w' : World} (h : (Builtin.append_ #[t, tx] ty #[x, y]).run P w = .ok v w') : (do pure (Next.value (← Builtin.append_ #[t, tx] ty #[x, y])) : Sem Next).run P w = .ok (.value v) w' := v_run h

theorem free2_spec {id : Nat} (h : free2 m id = true) : m[id]? = some none ∧ m[id + 1]? = some none := by
  unfold free2 at h
  split at h
  · rename_i h1 h2; exact ⟨h1, h2⟩
  · simp at h

/-- A new open row, with its size. -/
theorem Rep.open2 (hr : Rep w0 np ν m w) {id : Nat} (hf : free2 m id = true) {e : TypeId} {ro : Bool} {cs : List Cell} {c : Array Value} {pre rest : List Value} {fz : Nat × Nat} {dr : Nat}
    (hc : c.toList = pre ++ rest) (hd : DenL ν cs pre) (hfz : ro = false → FzOk fz c.size) :
    ∃ ν', NV.le ν ν' ∧ ν' id = some w.heap.size ∧ ν' (id + 1) = some c.size ∧
      Rep w0 np ν' (m.app [(id + 1, ghostBlk), (id, { cells := cs, ty := e, ro := ro, kind := .opened (id + 1) })]) { w with drawn := dr, heap := w.heap.push (.cells c e fz) } := by
  obtain ⟨hf1, hf2⟩ := free2_spec hf
  have hr1 := hr.drew dr
  obtain ⟨hle1, hr2⟩ := hr1.fresh (id := id + 1) (n := c.size) (blk := ghostBlk) (w' := { w with drawn := dr }) hf2 rfl rfl rfl (Nat.le_refl _) (fun _ _ _ => rfl) (fun _ => rfl) (.inl ⟨rfl, fun _ _ => rfl⟩) (fun _ _ => ⟨fun g hg => by simp [ghostBlk] at hg, trivial⟩)
  have hid : (m.set (id + 1) (some ghostBlk))[id]? = some none := by
    rw [List.getElem?_set, if_neg (by omega)]
    exact hf1
  obtain ⟨hle2, hr3⟩ := hr2.new' (id := id) hid (blk := { cells := cs, ty := e, ro := ro, kind := .opened (id + 1) }) (o := .cells c e fz) rfl fun ν' hle => by
    refine ⟨fun g hg => by simp at hg, c, fz, pre, rest, by simp, hc, (hd.mono hle1).mono hle, hfz, ?_⟩
    exact hle (id + 1) c.size (by simp)
  exact ⟨_, NV.le_trans hle1 hle2, by simp, by simp, hr3⟩

theorem sound_append (hΓ : Γ.Ok P) (hr : Rep w0 np ν m w) {t tx ty : TypeId} {a b : AV} {x y : Value} {id : Nat} {out : Out} (h : coreAppend Γ t tx a b id m = some out) (hok : out.ok = true) (hd : a.Den ν x) (hdy : b.Den ν y) :
    Good P w0 np ν m w (do pure (Next.value (← Builtin.append_ #[t, tx] ty #[x, y]))) out := by
  unfold coreAppend at h
  split at h
  case h_2 => simp at h
  rename_i ti tix hti htix hfree
  have ht := hΓ _ _ hti
  have htx := hΓ _ _ htix
  split at h
  case h_2 => simp at h
  rename_i e hdesc hnot
  have hu := hdesc ▸ ht.und
  split at h
  case h_2 => simp at h
  rename_i te hte0
  have hte := hΓ _ _ hte0
  split at h
  case h_2 => simp at h
  rename_i src hsrc
  -- a row that grows
  have hgrow : ∀ (rd : List Nat) (len cap : Nat) (cells : List Cell) (ok : Bool) (base : Option Addr) (old : Array Value) (out : Out), grown e te id rd (len + src.n) cells ok = some out → out.ok = true → src.ok = true → cap < len + src.n →
      x = .slice base len cap → (∀ w1 : World, w1.heap = w.heap → (Builtin.firstCells te.size len (.slice base len cap)).run P w1 = .ok old w1) →
      (∀ new : Array Value, DenL ν src.cells new.toList → DenL ν cells (old ++ new).toList) →
      ∃ ν' w' v, NV.le ν ν' ∧ (Builtin.append_ #[t, tx] ty #[x, y]).run P w = .ok v w' ∧ out.av.Den ν' v ∧ Rep w0 np ν' (m.app out.up) w' := by
    intro rd len cap cells ok base old out hg hok hsok hcap hx hold hcells
    obtain ⟨hlen, ⟨new, hnew, hnewd⟩, _⟩ := src_run (P := P) hr hsrc hsok hdy
    unfold grown at hg
    split at hg
    case h_2 => simp at hg
    rename_i zc hzc
    simp only [Option.some.injEq] at hg
    subst hg
    simp only [Bool.and_eq_true, decide_eq_true_eq] at hok
    obtain ⟨_, ⟨⟨⟨hz1, hsz⟩, hby⟩, hfit⟩, hcl⟩ := hok
    unfold zeroCells at hzc
    split at hzc
    case h_2 => simp at hzc
    rename_i z hz
    split at hzc
    case isFalse => simp at hzc
    rename_i hzok
    simp only [Option.some.injEq] at hzc
    subst hzc
    have hzl := (ofVal_cells (ν := ν) hzok).length
    obtain ⟨newCap, rest, h1, h2, h3⟩ := run_grow (ty := ty) hu hte htx.und hnot hlen hold hnew hz hcap hby hfit
    have hcd := hcells new hnewd
    have hcd2 := hcd.length
    obtain ⟨ν', g1, g2, g3, g4⟩ := hr.open2 (e := e) (ro := false) (fz := (0, 0)) (dr := w.drawn + 1) hfree (c := old ++ new ++ rest) (pre := (old ++ new).toList) (rest := rest.toList) (by simp) hcd (fun _ => .inl rfl)
    subst hx
    refine ⟨ν', _, _, g1, h3, ⟨w.heap.size, newCap, _, g2, g3, rfl, h1, ?_⟩, g4⟩
    have e1 : z.cells.size = te.size := by simp at hzl; omega
    have e2 : (old ++ new).size = (len + src.n) * te.size := by
      have : (old ++ new).toList.length = (len + src.n) * te.size := by omega
      simpa using this
    rw [Array.size_append, e2, h2, e1, ← Nat.add_mul, Nat.zero_add]
    congr 1
    omega
  have fin : ∀ out : Out, (∃ ν' w' v, NV.le ν ν' ∧ (Builtin.append_ #[t, tx] ty #[x, y]).run P w = .ok v w' ∧ out.av.Den ν' v ∧ Rep w0 np ν' (m.app out.up) w') →
      Good P w0 np ν m w (do pure (Next.value (← Builtin.append_ #[t, tx] ty #[x, y]))) out := fun out ⟨ν', w', v, h1, h2, h3, h4⟩ => ⟨ν', w', _, v, h1, v_run h2, rfl, h3, h4⟩
  have hempty : ∀ new : Array Value, src.cells = [] → DenL ν src.cells new.toList → new = #[] := by
    intro new h1 h2
    have := h2.length
    rw [h1] at this
    exact Array.eq_empty_of_size_eq_zero (by simpa using this.symm)
  split at h
  · -- nil
    have ex := sc_den hd
    subst ex
    split at h
    · rename_i hn
      simp only [Option.some.injEq] at h
      subst h
      obtain ⟨hlen, ⟨new, hnew, hnewd⟩, h0⟩ := src_run (P := P) hr hsrc hok hdy
      refine fin _ ⟨ν, w, _, NV.le_refl _, run_fit hu hte htx.und hnot (hlen) (hnew w rfl) (by omega) (fun a h => by simp at h) (fun _ => rfl), ?_, hr⟩
      rw [hn]
      exact ⟨rfl, trivial⟩
    · have hok2 : src.ok = true ∧ 0 < src.n := by
        unfold grown at h
        split at h
        · simp only [Option.some.injEq] at h
          subst h
          simp only [Bool.and_eq_true, decide_eq_true_eq] at hok
          exact hok.1
        · simp at h
      refine fin _ (hgrow _ 0 0 _ _ none #[] out (by rw [Nat.zero_add]; exact h) hok hok2.1 (by omega) rfl (fun w1 _ => rfl) fun new hn => by simpa using hn)
  · -- a slice whose capacity is known
    rename_i bb off len cap
    split at h
    case h_2 => simp at h
    rename_i blk hb
    obtain ⟨k, hk, hlies⟩ := hr.get hb
    obtain ⟨k', hk', rfl⟩ := hd
    rw [hk] at hk'
    simp only [Option.some.injEq] at hk'
    subst hk'
    split at h
    · rename_i hfit
      simp only [decide_eq_true_eq] at hfit
      split at h
      · simp at h
      · rename_i hro
        simp only [Option.some.injEq] at h
        subst h
        simp only [Bool.and_eq_true, decide_eq_true_eq] at hok
        obtain ⟨⟨hsok, hrow⟩, hin⟩ := hok
        obtain ⟨hlen, ⟨new, hnew, hnewd⟩, h0⟩ := src_run (P := P) hr hsrc hsok hdy
        obtain ⟨c, fz, pre, rest, hh, hc, hcs, hfz, hback⟩ := hlies.row hrow
        have hfo := hfz hro
        have hsz : c.size = pre.length + rest.length := by have := congrArg List.length hc; simpa using this
        have hpl := hcs.length
        have hnl := hnewd.length
        obtain ⟨w', hrun, hl⟩ := run_storeCells (P := P) (o := off + len * te.size) new.toList 0 w c hfo hh hnewd.plain (by omega)
        simp only [Nat.add_zero] at hl
        refine fin _ ⟨ν, w', _, NV.le_refl _, run_fit hu hte htx.und hnot hlen (hnew w rfl) hfit (w' := w') (fun a h => ?_) (fun h => by simp at h), ⟨k, hk, rfl⟩, ?_⟩
        · simp only [Option.some.injEq] at h
          subst h
          rw [addr_add]
          exact hrun
        · refine hr.write hb hro (row_live hrow) hro (live_ghost (row_live hrow)) hk hl.os hl.tape hl.output hl.size hl.other ?_
          refine hback _ (setVals pre (off + len * te.size) new.toList) w' _ fz hl.here (by simpa [setVals_length] using hfo) ?_ (setVals_length _ _ _) (DenL.setCells _ hnewd hcs)
          rw [List.toList_toArray, hc, setVals_pre _ _ _ _ (by omega)]
    · have hok2 : ((src.ok = true ∧ blk.row = true) ∧ off + len * te.size ≤ blk.cells.length) ∧ cap < len + src.n := by
        unfold grown at h
        split at h
        · simp only [Option.some.injEq] at h
          subst h
          simp only [Bool.and_eq_true, decide_eq_true_eq] at hok
          exact hok.1.1
        · simp at h
      obtain ⟨⟨⟨hsok, hrow⟩, hin⟩, hcap⟩ := hok2
      obtain ⟨c, fz, pre, rest, hh, hc, hcs, _, _⟩ := hlies.row hrow
      have hpl := hcs.length
      refine fin _ (hgrow _ len cap _ _ (some ⟨k, off, none⟩) ((pre.drop off).take (len * te.size)).toArray out h hok hsok hcap rfl (fun w1 e1 => run_firstCells (by rw [e1]; exact hh) hc (by omega)) fun new hn => ?_)
      simpa using ((hcs.drop off).take (len * te.size)).append hn
  · -- a slice whose capacity is not known
    rename_i bb g z off len
    obtain ⟨k, c1, j, hk, hj, rfl, hlc, hcj⟩ := hd
    split at h
    · rename_i hn
      simp only [Option.some.injEq] at h
      subst h
      obtain ⟨hlen, ⟨new, hnew, hnewd⟩, h0⟩ := src_run (P := P) hr hsrc hok hdy
      have hne := hempty new (h0 hn) hnewd
      subst hne
      refine fin _ ⟨ν, w, _, NV.le_refl _, run_fit hu hte htx.und hnot hlen (hnew w rfl) (by omega) (w' := w) (fun a h => by simp [storeCells]) (fun _ => rfl), ?_, hr⟩
      rw [hn]
      exact ⟨k, c1, j, hk, hj, rfl, hlc, hcj⟩
    · split at h
      case h_2 => simp at h
      rename_i blk hb
      split at h
      case h_2 => simp at h
      rename_i g' hkind hro hglob
      split at h
      case h_2 => simp at h
      rename_i out1 hgr
      simp only [Option.some.injEq] at h
      subst h
      have hok2 : ((((((src.ok = true ∧ g' = g) ∧ off = 0) ∧ z = te.size) ∧ blk.cells.length = len * te.size) ∧ blk.ty = e) ∧ 0 < src.n) ∧ blk.cells.length + src.cells.length = (len + src.n) * te.size ∧ out1.up = [(id + 1, ghostBlk), (id, { cells := blk.cells ++ src.cells, ty := e, kind := .opened (id + 1) })] ∧ out1.av = .one (.c (.slu id (id + 1) te.size 0 (len + src.n))) := by
        unfold grown at hgr
        split at hgr
        · simp only [Option.some.injEq] at hgr
          subst hgr
          simp only [Bool.and_eq_true, decide_eq_true_eq, List.length_append] at hok
          exact ⟨hok.1, hok.2.2, rfl, rfl⟩
        · simp at hgr
      obtain ⟨⟨⟨⟨⟨⟨⟨hsok, rfl⟩, rfl⟩, rfl⟩, hbl⟩, hty⟩, hn0⟩, hcl, hup, hav⟩ := hok2
      obtain ⟨k', hk', hlies⟩ := hr.get hb
      rw [hk] at hk'
      simp only [Option.some.injEq] at hk'
      subst hk'
      have hrow : blk.row = true := by unfold Blk.row; rw [hkind]
      have hlive := row_live hrow
      obtain ⟨_, hl2⟩ := hlies
      simp only [hkind] at hl2
      obtain ⟨c, fz, pre, rest, hh, hc, hcs, hfz, hcsz⟩ := hl2
      have hfo := hfz hro
      have hsz : c.size = pre.length + rest.length := by have := congrArg List.length hc; simpa using this
      have hpl := hcs.length
      rw [hj] at hcsz
      simp only [Option.some.injEq] at hcsz
      have hlt : k < w.heap.size := lt_of_get hh
      obtain ⟨hlen, ⟨new, hnew, hnewd⟩, h0⟩ := src_run (P := P) hr hsrc hsok hdy
      have hnl := hnewd.length
      obtain ⟨hf1, hf2⟩ := free2_spec hfree
      have hbid : bb ≠ id ∧ bb ≠ id + 1 := by
        constructor
        · intro e'; subst e'; rw [hb] at hf1; simp at hf1
        · intro e'; rw [e'] at hb; rw [hb] at hf2; simp at hf2
      have hfree' : free2 (m.set bb (some deadBlk)) id = true := by
        unfold free2
        rw [List.getElem?_set, if_neg hbid.1, List.getElem?_set, if_neg hbid.2, hf1, hf2]
      by_cases hfit : len + src.n ≤ c1
      · -- in place
        have hmul : (len + src.n) * te.size ≤ c1 * te.size := Nat.mul_le_mul_right _ hfit
        obtain ⟨w', hrun, hl⟩ := run_storeCells (P := P) (o := len * te.size) new.toList 0 w c hfo (hty ▸ hh) hnewd.plain (by simp at hnl ⊢; omega)
        simp only [Nat.add_zero] at hl
        have hrw := hr.write hb hro hlive (blk' := deadBlk) rfl rfl hk hl.os hl.tape hl.output hl.size hl.other ⟨fun g hg => by simp [deadBlk] at hg, by simp only [deadBlk]; rw [hl.size]; exact hlt⟩
        obtain ⟨hf1', hf2'⟩ := free2_spec hfree'
        obtain ⟨hle1, hr2⟩ := hrw.fresh (id := id + 1) (n := j) (blk := ghostBlk) (w' := w') hf2' rfl rfl rfl (Nat.le_refl _) (fun _ _ _ => rfl) (fun _ => rfl) (.inl ⟨rfl, fun _ _ => rfl⟩) (fun _ _ => ⟨fun g hg => by simp [ghostBlk] at hg, trivial⟩)
        have hid : ((m.set bb (some deadBlk)).set (id + 1) (some ghostBlk))[id]? = some none := by
          rw [List.getElem?_set, if_neg (by omega)]
          exact hf1'
        have hblt := get_lt hb
        have hilt := get_lt hf2
        have hνb : (fun i => if i = id + 1 then some j else ν i) bb = some k := by simp [hbid.2, hk]
        obtain ⟨hle2, hr3⟩ := hr2.fresh (id := id) (n := k) (blk := { cells := blk.cells ++ src.cells, ty := e, kind := .opened (id + 1) }) (w' := w') hid rfl rfl rfl (Nat.le_refl _) (fun _ _ _ => rfl) (fun h => by simp [Blk.ghost] at h)
          (.inr (.inr ⟨fun i bi hi hli => by
              rw [at_set (by simpa using hilt), at_set hblt] at hi
              by_cases e1 : id + 1 = i
              · rw [if_pos e1] at hi
                simp only [Option.some.injEq] at hi
                subst hi
                simp [ghostBlk, Blk.live] at hli
              · rw [if_neg e1] at hi
                by_cases e2 : bb = i
                · rw [if_pos e2] at hi
                  simp only [Option.some.injEq] at hi
                  subst hi
                  simp [deadBlk, Blk.live] at hli
                · rw [if_neg e2] at hi
                  simp only [if_neg (Ne.symm e1)]
                  exact hr.sep bb i blk bi k (at_of_get hb) hi e2 hro hlive hli hk, bb, deadBlk, by rw [at_set (by simpa using hilt), if_neg (Ne.symm hbid.2), at_set hblt, if_pos rfl], rfl, rfl, hνb⟩))
          (fun ν' hle => by
            have hlow : pre.length = len * te.size := by omega
            have hrest : new.toList.length ≤ rest.length := by simp at hnl ⊢; omega
            refine ⟨fun g hg => by simp at hg, _, fz, pre ++ new.toList, rest.drop new.toList.length, hl.here, ?_, ((hcs.append hnewd).mono hle1).mono hle, fun _ => by simpa [setVals_length] using hfo, ?_⟩
            · have key : ∀ (r a b : List Value), r.length ≤ b.length → setVals (a ++ b) a.length r = a ++ (r ++ b.drop r.length) := by
                intro r
                induction r with
                | nil => intro a b _; simp [setVals]
                | cons x r ih =>
                  intro a b hb
                  cases b with
                  | nil => simp at hb
                  | cons y b =>
                    simp only [setVals]
                    have : (a ++ y :: b).set a.length x = (a ++ [x]) ++ b := by simp
                    rw [this]
                    have h2 := ih (a ++ [x]) b (by simpa using hb)
                    simp only [List.length_append, List.length_cons, List.length_nil, Nat.zero_add] at h2
                    rw [h2]
                    simp
              rw [List.toList_toArray, hc, ← hlow, key _ _ _ hrest]
              simp
            · have h5 : (setVals c.toList (len * te.size) new.toList).toArray.size = c.size := by simp [setVals_length]
              rw [h5, hcsz.symm]
              exact hle (id + 1) j (by simp))
        refine fin _ ⟨_, w', _, NV.le_trans hle1 hle2, run_fit hu hte htx.und hnot hlen (hnew w rfl) hfit (w' := w') (fun a h => ?_) (fun h => by simp at h), ?_, ?_⟩
        · simp only [Option.some.injEq] at h
          subst h
          rw [addr_add, Nat.zero_add]
          exact hrun
        · rw [hav]
          refine ⟨k, c1, j, by simp, by simp, rfl, hfit, hcj⟩
        · rw [hup]
          exact hr3
      · -- a new row
        have hrw := hr.write hb hro hlive (blk' := deadBlk) rfl rfl hk (w' := w) rfl rfl rfl rfl (fun _ _ => rfl) ⟨fun g hg => by simp [deadBlk] at hg, hlt⟩
        have hok1 : out1.ok = true := hok
        unfold grown at hgr
        split at hgr
        case h_2 => simp at hgr
        rename_i zc hzc
        simp only [Option.some.injEq] at hgr
        subst hgr
        simp only [Bool.and_eq_true, decide_eq_true_eq] at hok1
        obtain ⟨_, ⟨⟨⟨hz1, hsz0⟩, hby⟩, hfitb⟩, _⟩ := hok1
        unfold zeroCells at hzc
        split at hzc
        case h_2 => simp at hzc
        rename_i zv hz
        split at hzc
        case isFalse => simp at hzc
        rename_i hzok
        simp only [Option.some.injEq] at hzc
        subst hzc
        have hzl := (ofVal_cells (ν := ν) hzok).length
        obtain ⟨newCap, rest2, h1, h2, h3⟩ := run_grow (ty := ty) hu hte htx.und hnot (base := some ⟨k, 0, none⟩) (sLen := len) (sCap := c1) (old := ((pre.drop 0).take (len * te.size)).toArray) hlen
          (fun w1 e1 => run_firstCells (by rw [e1]; exact hh) hc (by omega)) hnew hz (by omega) hby hfitb
        have hcd : DenL ν (blk.cells ++ src.cells) (((pre.drop 0).take (len * te.size)).toArray ++ new).toList := by
          have : (pre.drop 0).take (len * te.size) = pre := by
            rw [List.drop_zero, List.take_of_length_le (by omega)]
          rw [this]
          simpa using hcs.append hnewd
        have hcd2 := hcd.length
        obtain ⟨ν', g1, g2, g3, g4⟩ := hrw.open2 (e := e) (ro := false) (fz := (0, 0)) (dr := w.drawn + 1) hfree' (c := ((pre.drop 0).take (len * te.size)).toArray ++ new ++ rest2) (pre := (((pre.drop 0).take (len * te.size)).toArray ++ new).toList) (rest := rest2.toList) (by simp) hcd (fun _ => .inl rfl)
        refine fin _ ⟨ν', _, _, g1, h3, ⟨w.heap.size, newCap, _, g2, g3, rfl, h1, ?_⟩, g4⟩
        have e1 : zv.cells.size = te.size := by simp at hzl; omega
        have e2 : (((pre.drop 0).take (len * te.size)).toArray ++ new).size = (len + src.n) * te.size := by
          have : (((pre.drop 0).take (len * te.size)).toArray ++ new).toList.length = (len + src.n) * te.size := by
            simp only [List.length_append] at hcd2
            omega
          simpa using this
        rw [Array.size_append, e2, h2, e1, ← Nat.add_mul, Nat.zero_add]
        congr 1
        omega
  · simp at h

theorem sound_strBytes (hΓ : Γ.Ok P) (hr : Rep w0 np ν m w) {t t' : TypeId} {a : AV} {x : Value} {id : Nat} {out : Out} (h : coreStrBytes Γ t t' a id m = some out) (hd : a.Den ν x) :
    Good P w0 np ν m w (do pure (Next.value (← convert t t' x))) out := by
  unfold coreStrBytes at h
  split at h
  case h_2 => simp at h
  rename_i s ts td hts htd hfree
  split at h
  case h_2 => simp at h
  rename_i e h1 h2
  split at h
  case h_2 => simp at h
  rename_i te hte
  split at h
  case h_2 => simp at h
  rename_i h3
  simp only [Option.some.injEq] at h
  subst h
  have ex := sc_den hd
  subst ex
  let q : Question := .appendCap s.size 0 e
  let cap := q.cut (w.tape w.drawn q)
  have hcap : s.size ≤ cap := by simp only [cap, q, Question.cut]; omega
  let cs : Array Value := s.data.map (fun b => Value.int .u8 b.toNat) ++ Array.replicate (cap - s.size) (.int .u8 0)
  have hcs : cs.size = cap := by
    have : s.data.size = s.size := rfl
    simp only [cs, Array.size_append, Array.size_map, Array.size_replicate, this]
    omega
  obtain ⟨ν', g1, g2, g3, g4⟩ := hr.open2 (e := e) (ro := false) (fz := (cs.size, cs.size + 1)) (dr := w.drawn + 1) hfree (c := cs) (pre := s.data.toList.map fun b => Value.int .u8 b.toNat) (rest := List.replicate (cap - s.size) (.int .u8 0)) (by simp [cs]) denL_bytes (fun _ => .inr rfl)
  refine ⟨ν', _, _, .slice (some ⟨w.heap.size, 0, none⟩) s.size cap, g1, v_run ?_, rfl, ⟨w.heap.size, cap, _, g2, g3, rfl, hcap, by omega⟩, g4⟩
  simp only [convert, Sem.run_bind, run_underlying (h1 ▸ (hΓ _ _ hts).und), run_underlying (h2 ▸ (hΓ _ _ htd).und), Result.andThen_ok, run_underlying (h3 ▸ (hΓ _ _ hte).und)]
  have hch : (choose (.appendCap s.size 0 e)).run P w = .ok cap { w with drawn := w.drawn + 1 } := rfl
  simp only [Conv.stringToBytes, Sem.run_bind, hch, Result.andThen_ok, run_newRow]
  have hsh : ∀ w1 : World, w1.heap = w.heap.push (.cells cs e) → (markStringish ⟨w.heap.size, 0, none⟩).run P w1 = .ok () { w1 with heap := w.heap.push (.cells cs e (cs.size, cs.size + 1)) } := by
    intro w1 hw1
    have hg : w1.heap[w.heap.size]? = some (.cells cs e (0, 0)) := by rw [hw1]; simp
    have hs : w1.shape? w.heap.size = some (e, cs.size) := by simp [World.shape?, hg]
    simp only [markStringish, shape, freeze, Sem.run_bind, Sem.run, Result.andThen_ok, hs, World.freeze, hw1]
    simp only [Nat.succ_ne_zero, if_false]
    congr 2
    apply Array.ext
    · simp
    · intro i hi1 hi2
      simp only [Array.getElem_modify, Array.getElem_push]
      by_cases e1 : w.heap.size = i
      · subst e1
        simp
      · have : i < w.heap.size := by simp at hi2; omega
        simp [e1, this]
  rw [hsh _ rfl]
  rfl

end
end Go.Rx
