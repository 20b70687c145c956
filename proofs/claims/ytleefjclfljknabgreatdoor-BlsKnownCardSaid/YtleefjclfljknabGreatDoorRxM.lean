/-
Reflective execution: maps whose keys are numbers; a row of bytes turned into its own type; max.
-/
import Derived.Test.YtleefjclfljknabGreatDoorRxA
namespace Go.Rx
section
variable {P : Program} {Γ : Tab} {w0 w : World} {np : Nat} {ν : NV} {m : Mem}

theorem sound_max (hr : Rep w0 np ν m w) {t1 t2 t' : TypeId} {a b : AV} {x y : Value} {out : Out} (h : coreMax a b = some out) (hd : a.Den ν x) (hdy : b.Den ν y) :
    Good P w0 np ν m w (do pure (Next.value (← Builtin.max_ #[t1, t2] t' #[x, y]))) out := by
  unfold coreMax at h
  split at h
  · rename_i k a k' b
    simp only [val, Option.some.injEq] at h
    subst h
    have e1 := sc_den hd
    have e2 := sc_den hdy
    subst e1
    subst e2
    exact good_val' hr rfl (v_run (x := .int k (if a < b then b else a)) rfl) ⟨rfl, trivial⟩
  · simp at h

theorem sound_convSame (hΓ : Γ.Ok P) (hr : Rep w0 np ν m w) {t t' : TypeId} {a : AV} {x : Value} {out : Out} (h : coreConvSame Γ t t' a m = some out) (hok : out.ok = true) (hd : a.Den ν x) :
    Good P w0 np ν m w (do pure (Next.value (← convert t t' x))) out := by
  unfold coreConvSame at h
  split at h
  case h_2 => simp at h
  rename_i b off len cap td htd
  split at h
  case h_2 => simp at h
  rename_i e h1
  split at h
  case h_2 => simp at h
  rename_i te hte
  split at h
  case h_2 => simp at h
  rename_i blk h2 hb
  split at h
  · simp at h
  rename_i hro
  simp only [Option.some.injEq] at h
  subst h
  simp only [Bool.and_eq_true, decide_eq_true_eq] at hok
  obtain ⟨hrow, rfl⟩ := hok
  obtain ⟨k, hk, hlies⟩ := hr.get hb
  obtain ⟨k', hk', rfl⟩ := hd
  rw [hk] at hk'
  simp only [Option.some.injEq] at hk'
  subst hk'
  obtain ⟨c, fz, pre, rest, hh, hc, hcs, hfz, hback⟩ := hlies.row hrow
  have hfo := hfz hro
  have hlt := lt_of_get hh
  let w' : World := w.freeze { block := k, off := c.size } 1
  have hheap : w'.heap[k]? = some (.cells c blk.ty (c.size, c.size + 1)) := by
    simp only [w', World.freeze, Nat.succ_ne_zero, if_false, Array.getElem?_modify, if_true, hh, Option.map_some]
    rcases hfo with rfl | rfl
    · simp
    · simp
  have hother : ∀ i, i ≠ k → w'.heap[i]? = w.heap[i]? := by
    intro i hi
    simp only [w', World.freeze, Nat.succ_ne_zero, if_false, Array.getElem?_modify, if_neg (Ne.symm hi)]
  have hrep : Rep w0 np ν (m.set b (some blk)) w' := hr.write hb hro (row_live hrow) hro (live_ghost (row_live hrow)) hk (by simp [w', World.freeze]) (by simp [w', World.freeze]) (by simp [w', World.freeze]) (by simp [w', World.freeze]) hother
    (hback blk.cells pre w' c _ hheap (.inr rfl) hc rfl hcs)
  refine ⟨ν, w', _, .slice (some ⟨k, off, none⟩) len cap, NV.le_refl _, v_run ?_, rfl, ⟨k, hk, rfl⟩, hrep⟩
  have hs : w.shape? k = some (blk.ty, c.size) := by simp [World.shape?, hh]
  simp only [convert, Sem.run_bind, run_underlying (h1 ▸ (hΓ _ _ htd).und), Result.andThen_ok, run_underlying (h2 ▸ (hΓ _ _ hte).und)]
  simp only [beq_self_eq_true, markStringish, shape, freeze, Sem.run_bind, Sem.run, Result.andThen_ok, hs]
  rfl

theorem run_getObj {r : Nat} {fs : Array MapEntry} {clock : Nat} (h : w.heap[r]? = some (.map fs clock)) : (getObj r).run P w = .ok (.map fs clock) w := by
  simp only [getObj, Sem.run, h]

theorem run_setObj {r : Nat} {fs : Array MapEntry} {clock : Nat} {o : Obj} (h : w.heap[r]? = some (.map fs clock)) : (setObj r o).run P w = .ok () { w with heap := w.heap.setIfInBounds r o } := by
  simp only [setObj, Sem.run, h]

theorem sound_makeMap (hr : Rep w0 np ν m w) {t : TypeId} {r : Option Operand} {r' : Option Value} {id : Nat} {out : Out} (h : coreMakeMap r id m = some out) (hr' : r = none → r' = none) :
    Good P w0 np ν m w (do pure (Next.value (← Instr.makeMap t r'))) out := by
  unfold coreMakeMap at h
  split at h
  · rw [hr' rfl]
    unfold newBlk at h
    split at h
    · rename_i hid
      simp only [Option.some.injEq] at h
      subst h
      obtain ⟨hle, hrep⟩ := hr.new' hid (blk := { cells := [], ty := 0, kind := .map [] 0 }) (o := .map #[] 0) rfl fun ν' hle => ⟨fun g hg => by simp at hg, #[], by simp, trivial⟩
      refine ⟨_, _, _, .map (some w.heap.size), hle, v_run ?_, rfl, ⟨w.heap.size, by simp, rfl⟩, hrep⟩
      simp only [Instr.makeMap, newObj, Sem.run_bind, Sem.run, Result.andThen_ok, Sem.run_pure]
    · simp at h
  · simp at h

theorem findE_den {k : IntKind} {i : Int} {d : TypeDesc} (hd : isIntD d = true) : ∀ {es : List (Value × V0 × Nat)} {fs : List MapEntry} {r : Option V0} (n : Nat), findE k i es = some r → DenE ν es fs →
    ∃ r' : Option (Nat × Value), Instr.findNow d (.int k i) fs n = some r' ∧ (match r, r' with | none, none => True | some v, some (_, x) => v.Den ν x | _, _ => False)
  | [], [], r, n, h, _ => by
    simp only [findE, Option.some.injEq] at h
    subst h
    exact ⟨none, rfl, trivial⟩
  | (key, v, b) :: es, f :: fs, r, n, h, hden => by
    obtain ⟨⟨h1, h2, h3⟩, h4⟩ := hden
    cases d <;> simp only [isIntD, Bool.false_eq_true] at hd
    cases key <;> simp only [findE, reduceCtorEq] at h
    rename_i k0 k' j
    split at h
    · rename_i hk
      subst hk
      split at h
      · rename_i he
        simp only [Option.some.injEq] at h
        subst h
        refine ⟨some (n, f.val), ?_, h2⟩
        simp only [Instr.findNow, h1, Instr.sameNow, if_true, he]
      · rename_i he
        obtain ⟨r', h5, h6⟩ := findE_den (d := .int k0) rfl (n + 1) h h4
        refine ⟨r', ?_, h6⟩
        simp only [Instr.findNow, h1, Instr.sameNow, if_true, he, h5]
    · simp at h
  | [], _ :: _, _, _, _, h => h.elim
  | (_, _, _) :: _, [], _, _, _, h => h.elim

theorem run_checkKey {empty : Bool} {t : TypeId} {d : TypeDesc} {k : IntKind} {i : Int} (h : P.underlying t = some d) (hd : isIntD d = true) : (Instr.checkKey empty 10000 t (.int k i)).run P w = .ok () w := by
  show (Instr.checkKey empty (9999 + 1) t (.int k i)).run P w = _
  unfold Instr.checkKey
  simp only [Sem.run_bind, run_underlying h, Result.andThen_ok]
  cases d <;> simp only [isIntD, Bool.false_eq_true] at hd
  rfl

theorem sound_lookup (hΓ : Γ.Ok P) (hr : Rep w0 np ν m w) {t : TypeId} {a b : AV} {x y : Value} {commaOk : Bool} {out : Out} (h : coreLookup Γ t a b commaOk m = some out) (hok : out.ok = true) (hd : a.Den ν x) (hdy : b.Den ν y) :
    Good P w0 np ν m w (do pure (Next.value (← Instr.lookup t x y commaOk))) out := by
  unfold coreLookup at h
  split at h
  case h_2 => simp at h
  rename_i ti b k i hti
  split at h
  case h_2 => simp at h
  rename_i kt et blk hdesc hb
  split at h
  case h_2 => simp at h
  rename_i es clock tk te hkind htk hte
  have ey := sc_den hdy
  subst ey
  obtain ⟨n, hn, hlies⟩ := hr.get hb
  obtain ⟨n', hn', rfl⟩ := hd
  rw [hn] at hn'
  simp only [Option.some.injEq] at hn'
  subst hn'
  obtain ⟨_, hl⟩ := hlies
  simp only [hkind] at hl
  obtain ⟨fs, hfs, hden⟩ := hl
  have hu := hdesc ▸ (hΓ _ _ hti).und
  have huk := (hΓ _ _ htk).und
  split at h
  · rename_i v _ hint hfind
    simp only [Option.some.injEq] at h
    subst h
    obtain ⟨r', h5, h6⟩ := findE_den (ν := ν) hint 0 hfind hden
    cases r' with
    | none => exact h6.elim
    | some p =>
      obtain ⟨j, xv⟩ := p
      refine good_val' hr rfl (v_run (x := if commaOk then .tuple #[xv, .bool true] else xv) ?_) ?_
      · simp only [Instr.lookup, Sem.run_bind, run_underlying hu, Result.andThen_ok, run_getObj hfs, Sem.run_pure, run_checkKey huk hint, Instr.findKey, run_underlying huk, h5]
      · cases commaOk
        · exact h6
        · exact ⟨_, rfl, h6, ⟨rfl, trivial⟩, trivial⟩
  · rename_i z hint hfind hz
    simp only [Option.some.injEq] at h
    subst h
    obtain ⟨r', h5, h6⟩ := findE_den (ν := ν) hint 0 hfind hden
    cases r' with
    | some p => exact h6.elim
    | none =>
      have hzd : (ofVal z).Den ν z := by
        cases z <;> first
          | exact ⟨rfl, trivial⟩
          | exact ⟨_, rfl, denL_sc (all_plain (by simpa [constOk] using hok))⟩
          | (simp [constOk] at hok; done)
      refine good_val' hr rfl (v_run (x := if commaOk then .tuple #[z, .bool false] else z) ?_) ?_
      · simp only [Instr.lookup, Sem.run_bind, run_underlying hu, Result.andThen_ok, run_getObj hfs, Sem.run_pure, run_checkKey huk hint, Instr.findKey, run_underlying huk, h5, (hΓ _ _ hte).zeroValue hz]
      · cases commaOk
        · exact hzd
        · exact ⟨_, rfl, hzd, ⟨rfl, trivial⟩, trivial⟩
  · simp at h

theorem DenE.push {es : List (Value × V0 × Nat)} {fs : List MapEntry} (h : DenE ν es fs) {k : Value} {v : V0} {n : Nat} {e : MapEntry} (h1 : e.key = k) (h2 : v.Den ν e.val) (h3 : e.born = n) : DenE ν (es ++ [(k, v, n)]) (fs ++ [e]) := by
  induction es generalizing fs with
  | nil =>
    cases fs with
    | nil => exact ⟨⟨h1, h2, h3⟩, trivial⟩
    | cons _ _ => exact h.elim
  | cons p es ih =>
    obtain ⟨a, b, c⟩ := p
    cases fs with
    | nil => exact h.elim
    | cons f fs => exact ⟨h.1, ih h.2⟩

theorem sound_mapPush (hΓ : Γ.Ok P) (hr : Rep w0 np ν m w) {t : TypeId} {a b v : AV} {x y z : Value} {out : Out} (h : coreMapPush Γ t a b v m = some out) (hd : a.Den ν x) (hdy : b.Den ν y) (hdv : v.Den ν z) :
    Good P w0 np ν m w (do Instr.mapUpdate t x y z; pure Next.skip) out := by
  unfold coreMapPush at h
  split at h
  case h_2 => simp at h
  rename_i ti b k i v hti
  split at h
  case h_2 => simp at h
  rename_i kt et blk hdesc hb
  split at h
  case h_2 => simp at h
  rename_i es clock tk hkind htk hro
  split at h
  case h_2 => simp at h
  rename_i hint hfind
  simp only [Option.some.injEq] at h
  subst h
  have ey := sc_den hdy
  subst ey
  obtain ⟨n, hn, hlies⟩ := hr.get hb
  obtain ⟨n', hn', rfl⟩ := hd
  rw [hn] at hn'
  simp only [Option.some.injEq] at hn'
  subst hn'
  obtain ⟨hgl, hl⟩ := hlies
  simp only [hkind] at hl
  obtain ⟨fs, hfs, hden⟩ := hl
  have hu := hdesc ▸ (hΓ _ _ hti).und
  have huk := (hΓ _ _ htk).und
  obtain ⟨r', h5, h6⟩ := findE_den (ν := ν) hint 0 hfind hden
  cases r' with
  | some p => exact h6.elim
  | none =>
    have hlt := lt_of_get hfs
    have hlive : blk.live = true := by unfold Blk.live; rw [hkind]
    let o : Obj := .map (fs.push { key := .int k i, val := z, born := clock }) (clock + 1)
    let w' : World := { w with heap := w.heap.setIfInBounds n o }
    have hrep : Rep w0 np ν (m.set b (some { blk with kind := .map (es ++ [(.int k i, v, clock)]) (clock + 1) })) w' :=
      hr.write hb hro hlive hro (by rfl) hn rfl rfl rfl (by simp [w']) (fun j hj => by simp only [w']; rw [Array.getElem?_setIfInBounds_ne (Ne.symm hj)])
        ⟨hgl, fs.push { key := .int k i, val := z, born := clock }, by simp [w', o, hlt], by simpa using hden.push (e := { key := .int k i, val := z, born := clock }) rfl (show v.Den ν z from hdv) rfl⟩
    refine ⟨ν, w', .skip, undef, NV.le_refl _, ?_, rfl, ⟨#[], rfl, trivial⟩, hrep⟩
    simp only [Instr.mapUpdate, Sem.run_bind, run_underlying hu, Result.andThen_ok, run_getObj hfs, run_checkKey huk hint, Instr.findKey, run_underlying huk, h5, Sem.run_pure, run_setObj hfs]
    rfl

end
end Go.Rx
