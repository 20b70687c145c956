/-
Which aggregates are compared cell by cell: a check over the program's types, and that it is right.
-/
import Derived.Test.YtleefjclfljknabGreatDoorRx11
import Derived.Laws.StructEq
namespace Go.Rx

def repK (ks : List K) : Nat → List K
  | 0 => []
  | n + 1 => ks ++ repK ks n

mutual
def eqKs (P : Program) : Nat → TypeId → Option (List K)
  | 0, _ => none
  | d + 1, t =>
    match P.underlying t with
    | some (.int k) => some [.int k]
    | some .bool => some [.bool]
    | some (.array n e) =>
      match eqKs P d e, P.info? e with
      | some ks, some i => if i.size = ks.length && !ks.isEmpty then some (repK ks n) else none
      | _, _ => none
    | some (.struct fs) => if P.stoodInHeld t then none else eqFs P d fs.toList 0
    | _ => none
def eqFs (P : Program) : Nat → List Field → Nat → Option (List K)
  | 0, _, _ => none
  | _ + 1, [], _ => some []
  | d + 1, f :: fs, off =>
    match eqKs P d f.type, P.info? f.type with
    | some ks, some i =>
      if i.size = ks.length && (f.offset = off && (f.name != "_" && !ks.isEmpty)) then
        match eqFs P d fs (off + ks.length) with
        | some r => some (ks ++ r)
        | none => none
      else none
    | _, _ => none
end

theorem KsIs.length : ∀ {ks : List K} {vs : List Value}, KsIs ks vs → ks.length = vs.length
  | [], [], _ => rfl
  | _ :: _, _ :: _, h => by simp [KsIs.length h.2]
  | [], _ :: _, h => h.elim
  | _ :: _, [], h => h.elim

theorem KsIs.split : ∀ {ks ks' : List K} {vs : List Value}, KsIs (ks ++ ks') vs → KsIs ks (vs.take ks.length) ∧ KsIs ks' (vs.drop ks.length)
  | [], _, vs, h => ⟨by simp [KsIs], by simpa using h⟩
  | k :: ks, ks', [], h => h.elim
  | k :: ks, ks', v :: vs, h => by
    obtain ⟨h1, h2⟩ := KsIs.split (ks := ks) h.2
    exact ⟨⟨h.1, by simpa using h1⟩, by simpa using h2⟩

/-- A value of a type, out of its cells. -/
def ofCells (P : Program) (t : TypeId) (vs : List Value) : Value :=
  match P.underlying t with
  | some (.struct _) => .agg vs.toArray
  | some (.array _ _) => .agg vs.toArray
  | _ => vs.headD undef

def EqAt (P : Program) (d : Nat) (t : TypeId) (ks : List K) : Prop :=
  ∀ (xs ys : List Value) (w : World), KsIs ks xs → KsIs ks ys →
    ∃ b : Bool, (b = true ↔ xs = ys) ∧ (Op.equalIn d t (ofCells P t xs) (ofCells P t ys)).run P w = .ok b w

theorem part_ofCells {P : Program} {t : TypeId} {i : TypeInfo} {d : TypeDesc} (hd : P.underlying t = some d) (hi : P.info? t = some i) (_hpos : 0 < i.size) (hscal : aggB d = false → i.size = 1)
    (xs : Array Value) (off : Nat) (hb : off + i.size ≤ xs.size) (w : World) :
    (part t xs off).run P w = .ok (ofCells P t ((xs.toList.drop off).take i.size)) w := by
  unfold part
  have hs : (sizeOf t).run P w = .ok i.size w := by simp only [sizeOf, Sem.run_bind, run_typeInfo hi, Result.andThen_ok, Sem.run_pure]
  have ha : (isAgg t).run P w = .ok (aggB d) w := by
    simp only [isAgg, Sem.run_bind, run_underlying hd, Result.andThen_ok]
    cases d <;> rfl
  simp only [Sem.run_bind, ha, Result.andThen_ok]
  unfold ofCells
  cases hab : aggB d with
  | true =>
    simp only [if_true, Sem.run_bind, hs, Result.andThen_ok, Sem.run_pure]
    cases d <;> simp [aggB] at hab <;> simp only [hd] <;> congr 2 <;> apply Array.ext' <;> simp [List.take_drop]
  | false =>
    simp only [Bool.false_eq_true, if_false]
    have h1 := hscal hab
    have hlt : off < xs.size := by omega
    have e : xs[off]? = some xs[off] := by simp [hlt]
    have e2 : (xs.toList.drop off).take i.size = [xs[off]] := by
      rw [h1, List.drop_eq_getElem_cons (by simpa using hlt)]
      simp
    rw [e, e2]
    cases d <;> simp [aggB] at hab <;> simp only [hd] <;> rfl

theorem scal_one {P : Program} : ∀ {d : Nat} {t : TypeId} {ks : List K}, eqKs P d t = some ks → ∀ dd, P.underlying t = some dd → aggB dd = false → ks.length = 1
  | 0, t, ks, h => by simp [eqKs] at h
  | d + 1, t, ks, h => by
    intro dd hdd ha
    simp only [eqKs, hdd] at h
    cases dd <;> simp [aggB] at ha <;> simp at h <;> subst h <;> rfl

theorem array_loop {P : Program} {d : Nat} {e : TypeId} {ks : List K} (hpos : 0 < ks.length) (hE : EqAt P d e ks) {i : TypeInfo} (hpart : ∀ (xs : Array Value) (off : Nat) (w : World), off + ks.length ≤ xs.size → (part e xs off).run P w = .ok (ofCells P e ((xs.toList.drop off).take ks.length)) w)
    (hi : i.size = ks.length) (xs ys : Array Value) (w : World) : ∀ (n k : Nat), KsIs (repK ks n) (xs.toList.drop (k * ks.length)) → KsIs (repK ks n) (ys.toList.drop (k * ks.length)) →
    ∃ b : Bool, (b = true ↔ xs.toList.drop (k * ks.length) = ys.toList.drop (k * ks.length)) ∧
      (forIn (m := Sem) (List.range' k n) (none, PUnit.unit) fun j (_ : Option Bool × PUnit) => do
        let a ← part e xs (j * i.size)
        let b ← part e ys (j * i.size)
        let r ← Op.equalIn d e a b
        if (!r) = true then pure (ForInStep.done (some false, PUnit.unit)) else pure (ForInStep.yield (none, PUnit.unit))).run P w = .ok (if b then none else some false, PUnit.unit) w := by
  intro n
  induction n with
  | zero =>
    intro k h1 h2
    refine ⟨true, ?_, ?_⟩
    · have e1 := h1.length
      have e2 := h2.length
      simp only [repK, List.length_nil] at e1 e2
      rw [List.eq_nil_of_length_eq_zero e1.symm, List.eq_nil_of_length_eq_zero e2.symm]
      simp
    · simp
  | succ n ih =>
    intro k h1 h2
    simp only [repK] at h1 h2
    obtain ⟨a1, a2⟩ := h1.split
    obtain ⟨b1, b2⟩ := h2.split
    have l1 := h1.length
    have l2 := h2.length
    simp only [List.length_append, List.length_drop, Array.length_toList] at l1 l2
    rw [List.drop_drop] at a2 b2
    have e : k * ks.length + ks.length = (k + 1) * ks.length := by rw [Nat.add_mul]; omega
    rw [e] at a2 b2
    obtain ⟨b, hb, hrun⟩ := hE _ _ w a1 b1
    obtain ⟨b', hb', hrun'⟩ := ih (k + 1) a2 b2
    refine ⟨b && b', ?_, ?_⟩
    · rw [Bool.and_eq_true, hb, hb']
      have dx : xs.toList.drop (k * ks.length) = (xs.toList.drop (k * ks.length)).take ks.length ++ xs.toList.drop ((k + 1) * ks.length) := by
        rw [← e, ← List.drop_drop, List.take_append_drop]
      have dy : ys.toList.drop (k * ks.length) = (ys.toList.drop (k * ks.length)).take ks.length ++ ys.toList.drop ((k + 1) * ks.length) := by
        rw [← e, ← List.drop_drop, List.take_append_drop]
      constructor
      · rintro ⟨h1, h2⟩; rw [dx, dy, h1, h2]
      · intro h
        refine ⟨by rw [h], ?_⟩
        rw [← e, ← List.drop_drop, ← List.drop_drop, h]
    · rw [List.range'_succ, List.forIn_cons]
      rw [hi]
      simp only [Sem.run_bind]
      rw [hpart xs (k * ks.length) w (by omega)]
      simp only [Result.andThen_ok]
      rw [hpart ys (k * ks.length) w (by omega)]
      simp only [Result.andThen_ok, hrun]
      cases b with
      | false => simp
      | true =>
        simp only [Bool.not_true, Bool.false_eq_true, if_false, Sem.run_pure, Result.andThen_ok, Bool.true_and]
        rw [hi] at hrun'
        exact hrun'

theorem eqKs_sound {P : Program} : ∀ (d : Nat), (∀ (t : TypeId) (ks : List K), eqKs P d t = some ks → ∀ D, d ≤ D → EqAt P D t ks) ∧
    (∀ (fs : List Field) (off : Nat) (ks : List K), eqFs P d fs off = some ks → ∀ D, d ≤ D → ∀ (xs ys : Array Value) (w : World), KsIs ks (xs.toList.drop off) → KsIs ks (ys.toList.drop off) →
      ∃ b : Bool, (b = true ↔ xs.toList.drop off = ys.toList.drop off) ∧ (Op.eqFields D xs ys fs).run P w = .ok b w) := by
  intro d
  induction d with
  | zero => exact ⟨fun t ks h => by simp [eqKs] at h, fun fs off ks h => by simp [eqFs] at h⟩
  | succ d ih =>
    obtain ⟨ih1, ih2⟩ := ih
    have hpt : ∀ {t : TypeId} {ks : List K} {i : TypeInfo}, eqKs P d t = some ks → P.info? t = some i → i.size = ks.length → ks.isEmpty = false →
        ∀ (xs : Array Value) (off : Nat) (w : World), off + ks.length ≤ xs.size → (part t xs off).run P w = .ok (ofCells P t ((xs.toList.drop off).take ks.length)) w := by
      intro t ks i hks hi hsz hne xs off w hb
      cases hd : P.underlying t with
      | none =>
        cases d with
        | zero => simp [eqKs] at hks
        | succ d => simp [eqKs, hd] at hks
      | some dd =>
        have hpos : 0 < ks.length := by
          cases ks with
          | nil => simp at hne
          | cons _ _ => simp
        have := part_ofCells hd hi (by omega) (fun ha => by rw [hsz]; exact scal_one hks dd hd ha) xs off (by omega) w
        rw [hsz] at this
        exact this
    refine ⟨fun t ks h D hD => ?_, fun fs off ks h D hD => ?_⟩
    · obtain ⟨D, rfl⟩ : ∃ k, D = k + 1 := ⟨D - 1, by omega⟩
      intro xs ys w hx hy
      simp only [eqKs] at h
      split at h
      · rename_i k hd
        simp only [Option.some.injEq] at h
        subst h
        match xs, ys, hx, hy with
        | [x], [y], hx, hy =>
          obtain ⟨a, rfl⟩ := hx.1
          obtain ⟨b, rfl⟩ := hy.1
          refine ⟨a == b, by simp, ?_⟩
          simp only [ofCells, hd, List.headD_cons]
          exact run_equalIn_int w D t k k a b hd
      · rename_i hd
        simp only [Option.some.injEq] at h
        subst h
        match xs, ys, hx, hy with
        | [x], [y], hx, hy =>
          obtain ⟨a, rfl⟩ := hx.1
          obtain ⟨b, rfl⟩ := hy.1
          refine ⟨a == b, by simp, ?_⟩
          simp only [ofCells, hd, List.headD_cons]
          exact run_equalIn_bool w D t a b hd
      · rename_i n e hd
        split at h
        · rename_i ks' i hks hi
          split at h
          · rename_i hc
            simp only [Option.some.injEq] at h
            subst h
            simp only [Bool.and_eq_true, decide_eq_true_eq, Bool.not_eq_true'] at hc
            have hpos : 0 < ks'.length := by
              cases ks' with
              | nil => simp at hc
              | cons _ _ => simp
            obtain ⟨b, hb, hrun⟩ := array_loop hpos (ih1 e ks' hks D (by omega)) (hpt hks hi hc.1 hc.2) hc.1 xs.toArray ys.toArray w n 0 (by simpa using hx) (by simpa using hy)
            refine ⟨b, by simpa using hb, ?_⟩
            simp only [ofCells, hd]
            have hs : (sizeOf e).run P w = .ok i.size w := by simp only [sizeOf, Sem.run_bind, run_typeInfo hi, Result.andThen_ok, Sem.run_pure]
            unfold Op.equalIn
            simp only [Sem.run_bind, run_underlying hd, Result.andThen_ok, hs]
            rw [Std.Legacy.Range.forIn_eq_forIn_range']
            simp only [Std.Legacy.Range.size, Nat.sub_zero, Nat.add_sub_cancel, Nat.div_one]
            rw [hrun]
            cases b <;> rfl
          · simp at h
        · simp at h
      · rename_i fs hd
        split at h
        · simp at h
        · rename_i hst
          obtain ⟨b, hb, hrun⟩ := ih2 fs.toList 0 ks h D (by omega) xs.toArray ys.toArray w (by simpa using hx) (by simpa using hy)
          refine ⟨b, by simpa using hb, ?_⟩
          have hfo : P.fieldsOf t = fs := by simp [Program.fieldsOf, hd]
          simp only [ofCells, hd]
          rw [run_equalIn_struct w D t _ _ (by rw [hfo]; exact hd) (by simpa using hst), hfo]
          exact hrun
      · simp at h
    · cases fs with
      | nil =>
        simp only [eqFs, Option.some.injEq] at h
        subst h
        intro xs ys w hx hy
        refine ⟨true, ?_, by simp [Op.eqFields]⟩
        have e1 := hx.length
        have e2 := hy.length
        simp only [List.length_nil] at e1 e2
        rw [List.eq_nil_of_length_eq_zero e1.symm, List.eq_nil_of_length_eq_zero e2.symm]
        simp
      | cons f fs =>
        simp only [eqFs] at h
        split at h
        · rename_i ks' i hks hi
          split at h
          · rename_i hc
            simp only [Bool.and_eq_true, decide_eq_true_eq, Bool.not_eq_true', bne_iff_ne, ne_eq] at hc
            split at h
            · rename_i r hr
              simp only [Option.some.injEq] at h
              subst h
              intro xs ys w hx hy
              obtain ⟨h1, h2, h3, h4⟩ := hc
              obtain ⟨a1, a2⟩ := hx.split
              obtain ⟨b1, b2⟩ := hy.split
              have l1 := hx.length
              have l2 := hy.length
              simp only [List.length_append, List.length_drop, Array.length_toList] at l1 l2
              have hpos : 0 < ks'.length := by
                cases ks' with
                | nil => simp at h4
                | cons _ _ => simp
              rw [List.drop_drop] at a2 b2
              obtain ⟨b, hb, hrun⟩ := ih1 f.type ks' hks D (by omega) _ _ w a1 b1
              obtain ⟨b', hb', hrun'⟩ := ih2 fs (off + ks'.length) r hr D (by omega) xs ys w a2 b2
              refine ⟨b && b', ?_, ?_⟩
              · rw [Bool.and_eq_true, hb, hb']
                have dx : xs.toList.drop off = (xs.toList.drop off).take ks'.length ++ xs.toList.drop (off + ks'.length) := by rw [← List.drop_drop, List.take_append_drop]
                have dy : ys.toList.drop off = (ys.toList.drop off).take ks'.length ++ ys.toList.drop (off + ks'.length) := by rw [← List.drop_drop, List.take_append_drop]
                constructor
                · rintro ⟨h1, h2⟩; rw [dx, dy, h1, h2]
                · intro h
                  exact ⟨by rw [h], by rw [← List.drop_drop, ← List.drop_drop, h]⟩
              · simp only [Op.eqFields]
                rw [if_pos (by simpa using h3)]
                simp only [Sem.run_bind]
                rw [h2, hpt hks hi h1 h4 xs off w (by omega)]
                simp only [Result.andThen_ok]
                rw [hpt hks hi h1 h4 ys off w (by omega)]
                simp only [Result.andThen_ok, hrun]
                cases b with
                | false => simp
                | true =>
                  simp only [Bool.not_true, Bool.false_eq_true, if_false, Bool.true_and]
                  exact hrun'
            · simp at h
          · simp at h
        · simp at h

theorem eqOk_of {P : Program} {t : TypeId} {ks : List K} {d : Nat} (h : eqKs P d t = some ks) (hd : d ≤ 10000) (hg : P.eqGuardType P.depth t = false)
    (ha : (match P.underlying t with | some dd => aggB dd | none => false) = true) : EqOk P t ks := by
  refine ⟨hg, fun xs ys w hx hy => ?_⟩
  obtain ⟨b, hb, hr⟩ := (eqKs_sound (P := P) d).1 t ks h 10000 hd xs.toList ys.toList w hx hy
  refine ⟨b, hb, ?_⟩
  cases hu : P.underlying t with
  | none => rw [hu] at ha; simp at ha
  | some dd =>
    rw [hu] at ha
    have e : ∀ zs : Array Value, ofCells P t zs.toList = .agg zs := by
      intro zs
      unfold ofCells
      cases dd <;> simp [aggB] at ha <;> simp [hu]
    rw [e, e] at hr
    exact hr

/-- The check, whole. -/
def eqB (P : Program) (t : TypeId) : Option (List K) :=
  match eqKs P 100 t, P.underlying t with
  | some ks, some dd => if !P.eqGuardType P.depth t && aggB dd then some ks else none
  | _, _ => none

theorem eqB_ok {P : Program} {t : TypeId} {ks : List K} (h : eqB P t = some ks) : EqOk P t ks := by
  unfold eqB at h
  split at h
  · rename_i ks' dd hk hu
    split at h
    · rename_i hc
      simp only [Option.some.injEq] at h
      subst h
      simp only [Bool.and_eq_true, Bool.not_eq_true'] at hc
      exact eqOk_of hk (by omega) hc.1 (by rw [hu]; exact hc.2)
    · simp at h
  · simp at h

end Go.Rx

