/-
Reflective execution, part 5: building, numbers, comparisons; any operation but a call.
-/
import Derived.Test.YtleefjclfljknabGreatDoorRx4
namespace Go.Rx
section
variable {P : Program} {Γ : Tab} {w0 w : World} {np : Nat} {ν : NV} {m : Mem} {ρ' : Operand → Option AV} {ρ : Operand → Value}

def DenPL (ν : NV) : List (Nat × V0) → List (Nat × Value) → Prop
  | [], [] => True
  | (i, a) :: cs, (j, v) :: vs => i = j ∧ a.Den ν v ∧ DenPL ν cs vs
  | _, _ => False

theorem rhoParts_den (hρ : RhoDen ν ρ' ρ) : ∀ {l : List (Nat × Operand)} {r : List (Nat × V0)}, rhoParts ρ' l = some r → DenPL ν r (l.map fun (i, x) => (i, ρ x))
  | [], r, h => by simp [rhoParts] at h; subst h; trivial
  | (i, x) :: l, r, h => by
    unfold rhoParts at h
    split at h
    · rename_i v l' hx hl
      simp only [Option.some.injEq] at h
      subst h
      exact ⟨rfl, hρ _ _ hx, rhoParts_den hρ hl⟩
    · simp at h

theorem foldl_setVals (off : Nat) : ∀ (l : List Value) (k : Nat) (cs : Array Value),
    ((l.zipIdx k).foldl (fun cs (p : Value × Nat) => cs.setIfInBounds (off + p.2) p.1) cs).toList = setVals cs.toList (off + k) l
  | [], k, cs => by simp [setVals]
  | v :: l, k, cs => by
    simp only [List.zipIdx_cons, List.foldl_cons]
    rw [foldl_setVals off l (k + 1)]
    simp [setVals, Nat.add_assoc]

theorem fill_sound {place : Nat → Option (Nat × Nat)} : ∀ {l : List (Nat × V0)} {lv : List (Nat × Value)} {z : List Cell} {c : Array Value} {r : List Cell}, DenPL ν l lv → DenL ν z c.toList →
    fillCells place z l = some r → ∃ c', Instr.fill place c lv = some c' ∧ DenL ν r c'.toList
  | [], [], z, c, r, _, hz, h => by
    simp only [fillCells, Option.some.injEq] at h
    subst h
    exact ⟨c, rfl, hz⟩
  | (i, a) :: l, (j, v) :: lv, z, c, r, hp, hz, h => by
    obtain ⟨rfl, ha, hp⟩ := hp
    unfold fillCells at h
    split at h
    · simp at h
    · rename_i off size hpl
      split at h
      · simp at h
      · rename_i hcond
        have hc := V0.Den.cells ha
        have e1 := hc.length
        have e2 := hz.length
        simp only [Bool.or_eq_true, decide_eq_true_eq, not_or, ne_eq, Decidable.not_not] at hcond
        have hd : DenL ν (setCells z off a.cells) ((v.cells.zipIdx.foldl (fun cs (p : Value × Nat) => cs.setIfInBounds (off + p.2) p.1) c)).toList := by
          have := foldl_setVals off v.cells.toList 0 c
          rw [← Array.foldl_toList, Array.toList_zipIdx, this]
          exact DenL.setCells off hc hz
        obtain ⟨c', h1, h2⟩ := fill_sound hp hd h
        refine ⟨c', ?_, h2⟩
        unfold Instr.fill
        simp only [hpl]
        rw [if_neg]
        · exact h1
        · simp at e1 e2
          simp only [Bool.or_eq_true, decide_eq_true_eq, ne_eq]
          omega
  | [], _ :: _, _, _, _, h, _, _ => h.elim
  | _ :: _, [], _, _, _, h, _, _ => h.elim

theorem run_places (hΓ : Γ.Ok P) : ∀ {fs : List Field} {pl : List (Nat × Nat)}, fieldPlaces Γ fs = some pl →
    (fs.mapM fun f => (do pure (f.offset, ← sizeOf f.type) : Sem (Nat × Nat))).run P w = .ok pl w
  | [], pl, h => by simp [fieldPlaces] at h; subst h; simp
  | f :: fs, pl, h => by
    unfold fieldPlaces at h
    split at h
    · rename_i tf l hf hl
      simp only [Option.some.injEq] at h
      subst h
      simp only [List.mapM_cons, Sem.run_bind, (hΓ _ _ hf).sizeOf, Result.andThen_ok, Sem.run_pure, run_places hΓ hl]
    · simp at h

theorem zeroCells_den {t : TypeId} {ti : TI} (ht : ti.Ok P t) {z : List Cell} (h : zeroCells ti = some z) : ∃ v, (zeroValue t).run P w = .ok v w ∧ DenL ν z v.cells.toList := by
  unfold zeroCells at h
  split at h
  · rename_i v hv
    split at h
    · rename_i hc
      simp only [Option.some.injEq] at h
      subst h
      exact ⟨v, ht.zeroValue hv w, ofVal_cells hc⟩
    · simp at h
  · simp at h

theorem sound_build (hΓ : Γ.Ok P) (hr : Rep w0 np ν m w) {t : TypeId} {l : List (Nat × V0)} {ps : Array (Nat × Value)} {out : Out} (h : coreBuild Γ t l = some out) (hd : DenPL ν l ps.toList) :
    Good P w0 np ν m w (do pure (Next.value (← Instr.build t ps))) out := by
  unfold coreBuild at h
  split at h
  · rename_i ti hti
    have ht := hΓ _ _ hti
    split at h
    · rename_i z fs hz hdesc
      obtain ⟨v, hv, hzd⟩ := zeroCells_den (w := w) (ν := ν) ht hz
      split at h
      · rename_i pl hpl
        split at h
        · rename_i cs hcs
          simp only [val, Option.some.injEq] at h
          subst h
          obtain ⟨c', h1, h2⟩ := fill_sound hd hzd hcs
          refine good_val' hr rfl (v_run (x := .agg c') ?_) ⟨c', rfl, h2⟩
          have hpl' : (fs.mapM fun f => (do pure (f.offset, ← sizeOf f.type) : Sem (Nat × Nat))).run P w = .ok pl.toArray w := by
            rw [Array.mapM_eq_mapM_toList, Sem.run_map, run_places hΓ hpl]
            rfl
          have e : (fun (i : Nat) => pl.toArray[i]?) = (fun (i : Nat) => pl[i]?) := by funext i; simp
          simp only [Instr.build, Sem.run_bind, hv, Result.andThen_ok, run_underlying (hdesc ▸ ht.und), hpl', e, h1, Sem.run_pure]
        · simp at h
      · simp at h
    · rename_i z n e hz hdesc
      obtain ⟨v, hv, hzd⟩ := zeroCells_den (w := w) (ν := ν) ht hz
      split at h
      · rename_i te hte
        split at h
        · rename_i cs hcs
          simp only [val, Option.some.injEq] at h
          subst h
          obtain ⟨c', h1, h2⟩ := fill_sound hd hzd hcs
          refine good_val' hr rfl (v_run (x := .agg c') ?_) ⟨c', rfl, h2⟩
          simp only [Instr.build, Sem.run_bind, hv, Result.andThen_ok, run_underlying (hdesc ▸ ht.und), (hΓ _ _ hte).sizeOf, h1, Sem.run_pure]
        · simp at h
      · simp at h
    · simp at h
  · simp at h

def copiesV (z : List Value) : Nat → List Value
  | 0 => []
  | n + 1 => z ++ copiesV z n

theorem copies_den {z : List Cell} {zv : List Value} (h : DenL ν z zv) : ∀ n, DenL ν (copies z n) (copiesV zv n)
  | 0 => trivial
  | n + 1 => h.append (copies_den h n)

theorem copiesV_eq (z : Array Value) (hz : 0 < z.size) : ∀ n, (List.range (n * z.size)).map (fun i => z[i % z.size]!) = copiesV z.toList n
  | 0 => by simp [copiesV]
  | n + 1 => by
    have e : (n + 1) * z.size = z.size + n * z.size := by rw [Nat.add_mul]; omega
    rw [e, List.range_add, List.map_append, List.map_map, copiesV, ← copiesV_eq z hz n]
    congr 1
    · apply List.ext_getElem
      · simp
      · intro i h1 h2
        simp at h1 h2
        simp [Nat.mod_eq_of_lt h2, h2]
    · apply List.map_congr_left
      intro i _
      simp

theorem sound_buildSlice (hΓ : Γ.Ok P) (hr : Rep w0 np ν m w) {t : TypeId} {n id : Nat} {l : List (Nat × V0)} {ps : Array (Nat × Value)} {out : Out} (h : coreBuildSlice Γ t n l id m = some out) (hd : DenPL ν l ps.toList) :
    Good P w0 np ν m w (do pure (Next.value (← Instr.buildSlice t n ps))) out := by
  unfold coreBuildSlice at h
  split at h
  · rename_i ti hti
    have ht := hΓ _ _ hti
    split at h
    · rename_i e hdesc
      split at h
      · rename_i te hte
        have hte' := hΓ _ _ hte
        split at h
        · rename_i h0
          simp only [Bool.and_eq_true, decide_eq_true_eq, List.isEmpty_iff] at h0
          obtain ⟨rfl, rfl⟩ := h0
          have hps : ps.toList = [] := by
            cases hp : ps.toList with
            | nil => rfl
            | cons p r => rw [hp] at hd; exact hd.elim
          refine sound_new hr h rfl rfl rfl (c := #[]) trivial (x := .slice (some ⟨w.heap.size, 0, none⟩) 0 0) (fun ν' e => ⟨_, e, rfl⟩) ?_
          refine v_run ?_
          have hbig : ¬ 0 * te.size > 2 ^ 24 := by omega
          have hpe : ps = #[] := Array.ext' (by simpa using hps)
          subst hpe
          simp only [Instr.buildSlice, Sem.run_bind, run_underlying (hdesc ▸ ht.und), Result.andThen_ok, hte'.sizeOf, if_neg hbig]
          simp [Instr.fill, run_newRow]
          rw [show Array.map (fun _ => (default : Value)) (Array.range 0) = #[] from Array.ext' (by simp)]
        split at h
        · rename_i z hz
          obtain ⟨v, hv, hzd⟩ := zeroCells_den (w := w) (ν := ν) hte' hz
          split at h
          · simp at h
          · rename_i hcond
            simp only [Bool.or_eq_true, decide_eq_true_eq, not_or, ne_eq, Decidable.not_not] at hcond
            obtain ⟨⟨⟨h1, h2⟩, h3⟩, h4⟩ := hcond
            have hlen := hzd.length
            simp only [Array.length_toList] at hlen
            split at h
            · rename_i cs hcs
              have hpos : 0 < v.cells.size := by omega
              have hcp := copiesV_eq v.cells hpos n
              have hdz : DenL ν (copies z n) ((Array.range (n * te.size)).map (v.cells[· % v.cells.size]!)).toList := by
                have : te.size = v.cells.size := by omega
                rw [this]
                simp only [Array.toList_map, Array.toList_range, hcp]
                exact copies_den hzd n
              obtain ⟨c', h5, h6⟩ := fill_sound hd hdz hcs
              refine sound_new hr h rfl rfl rfl h6 (x := .slice (some ⟨w.heap.size, 0, none⟩) n n) (fun ν' e => ⟨_, e, rfl⟩) ?_
              refine v_run ?_
              have hne : ¬ n * te.size = 0 := by
                intro h0
                rcases Nat.mul_eq_zero.1 h0 with h | h <;> contradiction
              have hbig : ¬ n * te.size > 2 ^ 24 := by omega
              simp only [Instr.buildSlice, Sem.run_bind, run_underlying (hdesc ▸ ht.und), Result.andThen_ok, hte'.sizeOf, if_neg hbig, if_neg hne, hv, Sem.run_pure, h5, run_newRow]
            · simp at h
        · simp at h
      · simp at h
    · simp at h
  · simp at h

theorem ksOk_den {ν : NV} : ∀ {ks : List K} {cs : List Cell} {vs : List Value}, ksOk ks cs = true → DenL ν cs vs → KsIs ks vs
  | [], [], [], _, _ => trivial
  | k :: ks, c :: cs, v :: vs, h, hd => by
    cases k with
    | int k =>
      simp only [ksOk, Bool.and_eq_true] at h
      refine ⟨?_, ksOk_den h.2 hd.2⟩
      have := cInt_den (ν := ν) (cs := [c]) (vs := [v]) (off := 0) ⟨hd.1, trivial⟩ h.1
      exact ⟨_, by simpa using this⟩
    | bool =>
      simp only [ksOk, Bool.and_eq_true] at h
      refine ⟨?_, ksOk_den h.2 hd.2⟩
      have := cBool_den (ν := ν) (cs := [c]) (vs := [v]) (off := 0) ⟨hd.1, trivial⟩ h.1
      exact ⟨_, by simpa using this⟩
  | [], _ :: _, _, h, _ => by simp [ksOk] at h
  | _ :: _, [], _, h, _ => by simp [ksOk] at h
  | [], [], _ :: _, _, hd => hd.elim
  | _ :: _, _ :: _, [], _, hd => hd.elim

theorem eqCells_den {ν : NV} : ∀ {ks : List K} {cs ds : List Cell} {vs us : List Value}, ksOk ks cs = true → ksOk ks ds = true → DenL ν cs vs → DenL ν ds us → (eqCells cs ds = true ↔ vs = us)
  | [], [], [], [], [], _, _, _, _ => by simp [eqCells]
  | k :: ks, c :: cs, d :: ds, v :: vs, u :: us, h1, h2, hd1, hd2 => by
    have hk : ∀ {c : Cell} {v : Value}, ksOk [k] [c] = true → c.Den ν v → (k.Is v ∧ (v = .int (match k with | .int k => k | .bool => .i64) (cInt (some c)) ∧ cBool (some c) = false ∨ v = .bool (cBool (some c)) ∧ cInt (some c) = 0)) := by
      intro c v h hd
      cases k with
      | int k =>
        simp only [ksOk, Bool.and_true] at h
        have := cInt_den (ν := ν) (cs := [c]) (vs := [v]) (off := 0) ⟨hd, trivial⟩ h
        simp at this
        cases c with
        | sc x => cases x <;> simp [cIsInt] at h; exact ⟨⟨_, this⟩, .inl ⟨this, rfl⟩⟩
        | _ => simp [cIsInt] at h
      | bool =>
        simp only [ksOk, Bool.and_true] at h
        have := cBool_den (ν := ν) (cs := [c]) (vs := [v]) (off := 0) ⟨hd, trivial⟩ h
        simp at this
        cases c with
        | sc x => cases x <;> simp [cIsBool] at h; exact ⟨⟨_, this⟩, .inr ⟨this, rfl⟩⟩
        | _ => simp [cIsBool] at h
    have a1 : ksOk [k] [c] = true ∧ ksOk ks cs = true := by cases k <;> simp only [ksOk, Bool.and_eq_true, Bool.and_true] at h1 ⊢ <;> exact h1
    have a2 : ksOk [k] [d] = true ∧ ksOk ks ds = true := by cases k <;> simp only [ksOk, Bool.and_eq_true, Bool.and_true] at h2 ⊢ <;> exact h2
    have ih := eqCells_den a1.2 a2.2 hd1.2 hd2.2
    have b1 := hk a1.1 hd1.1
    have b2 := hk a2.1 hd2.1
    simp only [eqCells, Bool.and_eq_true, ih, List.cons.injEq, beq_iff_eq]
    obtain ⟨i1, b1⟩ := b1
    obtain ⟨i2, b2⟩ := b2
    refine and_congr_left fun _ => ?_
    cases k with
    | int k =>
      obtain ⟨n1, rfl⟩ := i1
      obtain ⟨n2, rfl⟩ := i2
      rcases b1 with ⟨e1, f1⟩ | ⟨e1, _⟩
      · rcases b2 with ⟨e2, f2⟩ | ⟨e2, _⟩
        · simp only [Value.int.injEq, true_and] at e1 e2
          simp [e1, e2, f1, f2]
        · simp at e2
      · simp at e1
    | bool =>
      obtain ⟨n1, rfl⟩ := i1
      obtain ⟨n2, rfl⟩ := i2
      rcases b1 with ⟨e1, f1⟩ | ⟨e1, f1⟩
      · simp at e1
      · rcases b2 with ⟨e2, f2⟩ | ⟨e2, f2⟩
        · simp at e2
        · simp only [Value.bool.injEq] at e1 e2
          simp [← e1, ← e2, f1, f2]
  | [], [], _ :: _, _, _, _, h, _, _ => by simp [ksOk] at h
  | [], _ :: _, _, _, _, h, _, _, _ => by simp [ksOk] at h
  | _ :: _, [], _, _, _, h, _, _, _ => by simp [ksOk] at h
  | _ :: _, _ :: _, [], _, _, _, h, _, _ => by simp [ksOk] at h
  | [], [], [], _ :: _, _, _, _, h, _ => h.elim
  | [], [], [], [], _ :: _, _, _, _, h => h.elim
  | _ :: _, _ :: _, _ :: _, [], _, _, _, h, _ => h.elim
  | _ :: _, _ :: _, _ :: _, _ :: _, [], _, _, _, h => h.elim

end
end Go.Rx
