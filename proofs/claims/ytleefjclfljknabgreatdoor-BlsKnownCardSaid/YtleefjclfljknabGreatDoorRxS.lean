/-
Reflective execution: slices and strings.
-/
import Derived.Test.YtleefjclfljknabGreatDoorRx5
namespace Go.Rx
section
variable {P : Program} {Γ : Tab} {w0 w : World} {np : Nat} {ν : NV} {m : Mem}

def BD : Option Int → Option Value → Prop
  | none, none => True
  | some i, some x => ∃ k, x = .int k i
  | _, _ => False

def ODen (ν : NV) : Option AV → Option Value → Prop
  | none, none => True
  | some a, some x => a.Den ν x
  | _, _ => False

theorem bnd_den {a : Option AV} {v : Option Value} {i : Option Int} (h : bnd a = some i) (hd : ODen ν a v) : BD i v := by
  unfold bnd at h
  split at h
  · simp only [Option.some.injEq] at h
    subst h
    cases v with
    | none => trivial
    | some x => exact hd.elim
  · rename_i k i
    simp only [Option.some.injEq] at h
    subst h
    cases v with
    | none => exact hd.elim
    | some x => exact ⟨k, sc_den (ν := ν) hd⟩
  · simp at h

theorem run_sliceBound {k : IntKind} {i : Int} {y : Nat} {code : BoundsCode} (h : inTo i y = true) : (Instr.sliceBound (.int k i) y code).run P w = .ok i.toNat w := by
  simp only [inTo, Bool.and_eq_true, decide_eq_true_eq] at h
  simp only [Instr.sliceBound, asIntOf, Sem.run_bind, Sem.run_pure, Result.andThen_ok, if_pos h]

theorem inTo_mono {i : Int} {a b : Nat} (h : inTo i a = true) (hab : a ≤ b) : inTo i b = true := by
  simp only [inTo, Bool.and_eq_true, decide_eq_true_eq] at h ⊢
  omega

theorem inTo_nat {i : Int} {a : Nat} (h : inTo i a = true) : i.toNat ≤ a := by
  simp only [inTo, Bool.and_eq_true, decide_eq_true_eq] at h
  omega

theorem run_bounds {isS : Bool} {len cap cap' top : Nat} {lo hi mx : Option Int} {lo' hi' mx' : Option Value} {r : Bounds} (h : boundsOf len cap top lo hi mx = some r) (hok : r.ok = true)
    (ht : top ≤ cap') (hc : mx = none → cap = cap') (hl : BD lo lo') (hh : BD hi hi') (hm : BD mx mx') :
    (Instr.sliceBounds isS len cap' lo' hi' mx').run P w = .ok (r.l, r.h, r.m) w ∧ r.l ≤ r.h ∧ (r.h ≤ top ∨ (mx = none ∧ hi = none ∧ r.h = len)) ∧ (mx ≠ none → r.h ≤ r.m ∧ r.m ≤ top) ∧ (mx = none → r.m = cap) := by
  have hlo : (lo = none ∧ lo' = none) ∨ ∃ i k, lo = some i ∧ lo' = some (.int k i) := by
    cases lo with
    | none =>
      cases lo' with
      | none => exact .inl ⟨rfl, rfl⟩
      | some v => exact hl.elim
    | some i =>
      cases lo' with
      | none => exact hl.elim
      | some v => obtain ⟨k, rfl⟩ := hl; exact .inr ⟨i, k, rfl, rfl⟩
  unfold boundsOf at h
  cases mx with
  | some x =>
    cases mx' with
    | none => exact hm.elim
    | some mv =>
      obtain ⟨km, rfl⟩ := hm
      cases hi with
      | none => simp at h
      | some y =>
        cases hi' with
        | none => exact hh.elim
        | some hv =>
          obtain ⟨kh, rfl⟩ := hh
          simp only [Option.some.injEq] at h
          subst h
          simp only [Bool.and_eq_true] at hok
          obtain ⟨⟨h1, h2⟩, h3⟩ := hok
          refine ⟨?_, inTo_nat h3, .inl (Nat.le_trans (inTo_nat h2) (inTo_nat h1)), fun _ => ⟨inTo_nat h2, inTo_nat h1⟩, fun e => by simp at e⟩
          rcases hlo with ⟨rfl, rfl⟩ | ⟨i, k, rfl, rfl⟩
          · simp only [Instr.sliceBounds, Sem.run_bind, run_sliceBound (inTo_mono h1 ht), Result.andThen_ok, run_sliceBound h2, Sem.run_pure]
            rfl
          · simp only [Option.getD_some] at h3
            simp only [Instr.sliceBounds, Sem.run_bind, run_sliceBound (inTo_mono h1 ht), Result.andThen_ok, run_sliceBound h2, run_sliceBound h3, Sem.run_pure, Option.getD_some]
  | none =>
    cases mx' with
    | some _ => exact hm.elim
    | none =>
      have hcc := hc rfl
      subst hcc
      cases hi with
      | some y =>
        cases hi' with
        | none => exact hh.elim
        | some hv =>
          obtain ⟨kh, rfl⟩ := hh
          simp only [Option.some.injEq] at h
          subst h
          simp only [Bool.and_eq_true] at hok
          obtain ⟨h2, h3⟩ := hok
          refine ⟨?_, inTo_nat h3, .inl (inTo_nat h2), fun e => by simp at e, fun _ => rfl⟩
          rcases hlo with ⟨rfl, rfl⟩ | ⟨i, k, rfl, rfl⟩
          · simp only [Instr.sliceBounds, Sem.run_bind, Sem.run_pure, Result.andThen_ok, run_sliceBound (inTo_mono h2 ht)]
            rfl
          · simp only [Option.getD_some] at h3
            simp only [Instr.sliceBounds, Sem.run_bind, Sem.run_pure, Result.andThen_ok, run_sliceBound (inTo_mono h2 ht), run_sliceBound h3, Option.getD_some]
      | none =>
        cases hi' with
        | some _ => exact hh.elim
        | none =>
          simp only [Option.some.injEq] at h
          subst h
          refine ⟨?_, inTo_nat hok, .inr ⟨rfl, rfl, rfl⟩, fun e => by simp at e, fun _ => rfl⟩
          rcases hlo with ⟨rfl, rfl⟩ | ⟨i, k, rfl, rfl⟩
          · simp only [Instr.sliceBounds, Sem.run_bind, Sem.run_pure, Result.andThen_ok]
            rfl
          · have h3 : inTo i len = true := by simpa using hok
            simp only [Instr.sliceBounds, Sem.run_bind, Sem.run_pure, Result.andThen_ok, run_sliceBound h3, Option.getD_some]

theorem sound_slice (hΓ : Γ.Ok P) (hr : Rep w0 np ν m w) {t : TypeId} {a : AV} {x : Value} {lo hi mx : Option AV} {lo' hi' mx' : Option Value} {out : Out} (h : coreSlice Γ t a lo hi mx = some out) (hok : out.ok = true)
    (hd : a.Den ν x) (hl : ODen ν lo lo') (hh : ODen ν hi hi') (hm : ODen ν mx mx') : Good P w0 np ν m w (do pure (Next.value (← Instr.sliceAt t x lo' hi' mx'))) out := by
  unfold coreSlice at h
  split at h
  · rename_i ti lo2 hi2 mx2 hti h1 h2 h3
    have ht := hΓ _ _ hti
    have b1 := bnd_den h1 hl
    have b2 := bnd_den h2 hh
    have b3 := bnd_den h3 hm
    split at h
    · rename_i n e b off hdesc
      split at h
      · rename_i te r hte hb
        simp only [Option.some.injEq] at h
        subst h
        obtain ⟨k, hk, rfl⟩ := hd
        obtain ⟨hrun, _⟩ := run_bounds (P := P) (w := w) (isS := false) hb hok (Nat.le_refl _) (fun _ => rfl) b1 b2 b3
        refine good_val' hr rfl (v_run (x := .slice (some ⟨k, if r.m = r.l then off else off + r.l * te.size, none⟩) (r.h - r.l) (r.m - r.l)) ?_) ⟨k, hk, rfl⟩
        simp only [Instr.sliceAt, Sem.run_bind, run_underlying (hdesc ▸ ht.und), Result.andThen_ok, Instr.sureAddr, Sem.run_pure, hrun, (hΓ _ _ hte).sizeOf]
        by_cases e : r.m = r.l
        · simp [e]
        · simp only [if_neg e, addr_add]
      · simp at h
    · rename_i e b off len cap hdesc
      split at h
      · rename_i te r hte hb
        simp only [Option.some.injEq] at h
        subst h
        obtain ⟨k, hk, rfl⟩ := hd
        obtain ⟨hrun, _⟩ := run_bounds (P := P) (w := w) (isS := true) hb hok (Nat.le_refl _) (fun _ => rfl) b1 b2 b3
        refine good_val' hr rfl (v_run (x := .slice (some ⟨k, if r.m = r.l then off else off + r.l * te.size, none⟩) (r.h - r.l) (r.m - r.l)) ?_) ⟨k, hk, rfl⟩
        simp only [Instr.sliceAt, Sem.run_bind, run_underlying (hdesc ▸ ht.und), Result.andThen_ok, Instr.slice, Sem.run_pure, hrun, (hΓ _ _ hte).sizeOf]
        by_cases e : r.m = r.l
        · simp [e]
        · simp only [if_neg e, Option.map_some, addr_add]
      · simp at h
    · rename_i e b s z off len hdesc
      split at h
      · rename_i te hte
        obtain ⟨k, c, j, hk, hj, rfl, hlc, hcj⟩ := hd
        split at h
        · rename_i mxv
          split at h
          · rename_i r hb
            simp only [Option.some.injEq] at h
            subst h
            obtain ⟨hrun, _⟩ := run_bounds (P := P) (w := w) (isS := true) (cap' := c) hb hok hlc (fun e => by simp at e) b1 b2 b3
            refine good_val' hr rfl (v_run (x := .slice (some ⟨k, if r.m = r.l then off else off + r.l * te.size, none⟩) (r.h - r.l) (r.m - r.l)) ?_) ⟨k, hk, rfl⟩
            simp only [Instr.sliceAt, Sem.run_bind, run_underlying (hdesc ▸ ht.und), Result.andThen_ok, Instr.slice, Sem.run_pure, hrun, (hΓ _ _ hte).sizeOf]
            by_cases e : r.m = r.l
            · simp [e]
            · simp only [if_neg e, Option.map_some, addr_add]
          · simp at h
        · split at h
          · rename_i r hb
            have hb' : ∃ r' : Bounds, boundsOf len c len lo2 hi2 none = some r' ∧ r'.l = r.l ∧ r'.h = r.h ∧ r'.ok = r.ok ∧ r'.m = c := by
              unfold boundsOf at hb ⊢
              cases hi2 with
              | none => simp only [Option.some.injEq] at hb; subst hb; exact ⟨_, rfl, rfl, rfl, rfl, rfl⟩
              | some y => simp only [Option.some.injEq] at hb; subst hb; exact ⟨_, rfl, rfl, rfl, rfl, rfl⟩
            obtain ⟨r', hb', e1, e2, e3, e4⟩ := hb'
            split at h
            · rename_i hlt
              simp only [decide_eq_true_eq] at hlt
              simp only [Option.some.injEq] at h
              subst h
              simp only [Bool.and_eq_true, decide_eq_true_eq] at hok
              obtain ⟨hok, hz⟩ := hok
              obtain ⟨hrun, hlh, hhl, _⟩ := run_bounds (P := P) (w := w) (isS := true) hb' (e3.trans hok) hlc (fun _ => rfl) b1 b2 b3
              rw [e1, e2, e4] at hrun
              rw [e1, e2] at hlh
              rw [e2] at hhl
              have hle : r.h ≤ len := by rcases hhl with h' | ⟨_, _, h'⟩ <;> omega
              subst hz
              refine good_val' hr rfl (v_run (x := .slice (some ⟨k, off + r.l * te.size, none⟩) (r.h - r.l) (c - r.l)) ?_) ⟨k, c - r.l, j, hk, hj, rfl, by omega, ?_⟩
              · simp only [Instr.sliceAt, Sem.run_bind, run_underlying (hdesc ▸ ht.und), Result.andThen_ok, Instr.slice, Sem.run_pure, hrun, (hΓ _ _ hte).sizeOf]
                rw [if_neg (show ¬ c = r.l by omega)]
                simp only [Option.map_some, addr_add]
              · rw [← hcj, Nat.add_assoc, ← Nat.add_mul]
                congr 2
                omega
            · rename_i hlt
              simp only [decide_eq_false_iff_not] at hlt
              simp only [Option.some.injEq] at h
              subst h
              obtain ⟨hrun, hlh, hhl, _⟩ := run_bounds (P := P) (w := w) (isS := true) hb' (e3.trans hok) hlc (fun _ => rfl) b1 b2 b3
              rw [e1, e2, e4] at hrun
              rw [e1, e2] at hlh
              rw [e2] at hhl
              have hle : r.h ≤ len := by rcases hhl with h' | ⟨_, _, h'⟩ <;> omega
              have h0 : r.h - r.l = 0 := by omega
              refine good_val' hr rfl (v_run (x := .slice (if c = r.l then some ⟨k, off, none⟩ else (some ⟨k, off, none⟩ : Option Addr).map (·.add (r.l * te.size))) 0 (c - r.l)) ?_) ⟨_, c - r.l, rfl⟩
              simp only [Instr.sliceAt, Sem.run_bind, run_underlying (hdesc ▸ ht.und), Result.andThen_ok, Instr.slice, Sem.run_pure, hrun, (hΓ _ _ hte).sizeOf, h0]
          · simp at h
      · simp at h
    · rename_i e n c hdesc
      split at h
      · rename_i te r hte hb
        simp only [Option.some.injEq] at h
        subst h
        have e := sc_den hd
        subst e
        obtain ⟨hrun, _⟩ := run_bounds (P := P) (w := w) (isS := true) hb hok (Nat.le_refl _) (fun _ => rfl) b1 b2 b3
        refine good_val' hr rfl (v_run (x := .slice none (r.h - r.l) (r.m - r.l)) ?_) ⟨rfl, trivial⟩
        simp only [Instr.sliceAt, Sem.run_bind, run_underlying (hdesc ▸ ht.und), Result.andThen_ok, Instr.slice, Sem.run_pure, hrun, (hΓ _ _ hte).sizeOf, Option.map_none, ite_self]
      · simp at h
    · simp at h
  · simp at h

theorem sound_arrayAt (hΓ : Γ.Ok P) (hr : Rep w0 np ν m w) {t : TypeId} {a : AV} {x : Value} {out : Out} (h : coreArrayAt Γ t a = some out) (hok : out.ok = true) (hd : a.Den ν x) :
    Good P w0 np ν m w (do pure (Next.value (← Instr.arrayAt t x))) out := by
  unfold coreArrayAt at h
  split at h
  · rename_i ti b off len cap hti
    split at h
    · rename_i n e hdesc
      simp only [Option.some.injEq] at h
      subst h
      obtain ⟨k, hk, rfl⟩ := hd
      refine good_val' hr rfl (v_run (x := .pointer (some ⟨k, off, none⟩)) ?_) ⟨k, hk, rfl⟩
      simp only [decide_eq_true_eq] at hok
      simp only [Instr.arrayAt, Sem.run_bind, run_underlying (hdesc ▸ (hΓ _ _ hti).und), Result.andThen_ok]
      rw [if_neg (by omega)]
      rfl
    · simp at h
  · rename_i ti b s z off len hti
    split at h
    · rename_i n e hdesc
      simp only [Option.some.injEq] at h
      subst h
      obtain ⟨k, c, j, hk, _, rfl, _⟩ := hd
      refine good_val' hr rfl (v_run (x := .pointer (some ⟨k, off, none⟩)) ?_) ⟨k, hk, rfl⟩
      simp only [decide_eq_true_eq] at hok
      simp only [Instr.arrayAt, Sem.run_bind, run_underlying (hdesc ▸ (hΓ _ _ hti).und), Result.andThen_ok]
      rw [if_neg (by omega)]
      rfl
    · simp at h
  · simp at h

/-- A value that may be nil, and whether it is. -/
theorem nilOf_den {d : TypeDesc} {a : AV} {x : Value} {b : Bool} (h : nilOf d a = some b) (hd : a.Den ν x) :
    (∃ e p, d = .pointer e ∧ x = .pointer p ∧ p.isNone = b) ∨ (∃ e f p, d = .map e f ∧ x = .map p ∧ p.isNone = b) ∨ (∃ e p n c, d = .slice e ∧ x = .slice p n c ∧ p.isNone = b) := by
  unfold nilOf at h
  split at h <;> simp only [Option.some.injEq, reduceCtorEq] at h <;> subst h
  · obtain ⟨n, _, rfl⟩ := hd; exact .inl ⟨_, _, rfl, rfl, rfl⟩
  · have e := sc_den hd; subst e; exact .inl ⟨_, _, rfl, rfl, rfl⟩
  · obtain ⟨n, _, rfl⟩ := hd; exact .inr (.inl ⟨_, _, _, rfl, rfl, rfl⟩)
  · have e := sc_den hd; subst e; exact .inr (.inl ⟨_, _, _, rfl, rfl, rfl⟩)
  · obtain ⟨n, _, rfl⟩ := hd; exact .inr (.inr ⟨_, _, _, _, rfl, rfl, rfl⟩)
  · obtain ⟨n, c, k, _, _, rfl, _⟩ := hd; exact .inr (.inr ⟨_, _, _, _, rfl, rfl, rfl⟩)
  · have e := sc_den hd; subst e; exact .inr (.inr ⟨_, _, _, _, rfl, rfl, rfl⟩)

theorem sound_nilEq (hΓ : Γ.Ok P) (hr : Rep w0 np ν m w) {op : BinOp} {t : TypeId} {a b : AV} {x y : Operand} {xv yv : Value} {out : Out} (h : coreNilEq Γ op t a b = some out) (hd : a.Den ν xv) (hdy : b.Den ν yv) :
    Good P w0 np ν m w (do pure (Next.value (← (do eqGuard op t x y xv yv; binOp op t xv yv)))) out := by
  unfold coreNilEq at h
  split at h
  · rename_i ti hti
    have hu := (hΓ _ _ hti).und
    have main : ∀ b1, nilOf ti.desc a = some b1 → nilOf ti.desc b = some true → (∀ op, (eqGuard op t x y xv yv).run P w = .ok () w) ∧ (binOp .eql t xv yv).run P w = .ok (.bool b1) w ∧ (binOp .neq t xv yv).run P w = .ok (.bool (!b1)) w := by
      intro b1 h1 h2
      have fin : ∀ u v : Value, (Op.equal t u v).run P w = .ok b1 w → ((Value.bool <$> Op.equal t u v : Sem Value)).run P w = .ok (.bool b1) w ∧ ((fun a => Value.bool !a) <$> Op.equal t u v : Sem Value).run P w = .ok (.bool (!b1)) w := by
        intro u v h
        constructor <;> simp [h]
      rcases nilOf_den h1 hd with ⟨e, p, hdesc, rfl, hp⟩ | ⟨e, f, p, hdesc, rfl, hp⟩ | ⟨e, p, n, c, hdesc, rfl, hp⟩
      · rcases nilOf_den h2 hdy with ⟨e', p', hdesc', rfl, hp'⟩ | ⟨e', f', p', hdesc', rfl, hp'⟩ | ⟨e', p', n', c', hdesc', rfl, hp'⟩
        · cases p' with
          | some _ => simp at hp'
          | none =>
            refine ⟨fun op => by cases op <;> rfl, fin _ _ ?_⟩
            show (Op.equalIn (9999 + 1) t _ _).run P w = _
            unfold Op.equalIn
            simp only [Sem.run_bind, run_underlying (hdesc ▸ hu), Result.andThen_ok]
            cases p <;> simp at hp <;> subst hp <;> rfl
        · rw [hdesc] at hdesc'; simp at hdesc'
        · rw [hdesc] at hdesc'; simp at hdesc'
      · rcases nilOf_den h2 hdy with ⟨e', p', hdesc', rfl, hp'⟩ | ⟨e', f', p', hdesc', rfl, hp'⟩ | ⟨e', p', n', c', hdesc', rfl, hp'⟩
        · rw [hdesc] at hdesc'; simp at hdesc'
        · cases p' with
          | some _ => simp at hp'
          | none =>
            refine ⟨fun op => by cases op <;> rfl, fin _ _ ?_⟩
            show (Op.equalIn (9999 + 1) t _ _).run P w = _
            unfold Op.equalIn
            simp only [Sem.run_bind, run_underlying (hdesc ▸ hu), Result.andThen_ok]
            cases p <;> simp at hp <;> subst hp <;> rfl
        · rw [hdesc] at hdesc'; simp at hdesc'
      · rcases nilOf_den h2 hdy with ⟨e', p', hdesc', rfl, hp'⟩ | ⟨e', f', p', hdesc', rfl, hp'⟩ | ⟨e', p', n', c', hdesc', rfl, hp'⟩
        · rw [hdesc] at hdesc'; simp at hdesc'
        · rw [hdesc] at hdesc'; simp at hdesc'
        · cases p' with
          | some _ => simp at hp'
          | none =>
            refine ⟨fun op => by cases op <;> rfl, fin _ _ ?_⟩
            show (Op.equalIn (9999 + 1) t _ _).run P w = _
            unfold Op.equalIn
            simp only [Sem.run_bind, run_underlying (hdesc ▸ hu), Result.andThen_ok]
            cases p <;> simp at hp <;> subst hp <;> rfl
    split at h
    · rename_i b1 h1 h2
      simp only [val, Option.some.injEq] at h
      subst h
      obtain ⟨hg, he, _⟩ := main b1 h1 h2
      exact good_val' hr rfl (v_run (by simp only [Sem.run_bind, hg, Result.andThen_ok]; exact he)) ⟨rfl, trivial⟩
    · rename_i b1 h1 h2
      simp only [val, Option.some.injEq] at h
      subst h
      obtain ⟨hg, _, he⟩ := main b1 h1 h2
      exact good_val' hr rfl (v_run (by simp only [Sem.run_bind, hg, Result.andThen_ok]; exact he)) ⟨rfl, trivial⟩
    · simp at h
  · simp at h

theorem sound_indexStr (hΓ : Γ.Ok P) (hr : Rep w0 np ν m w) {t : TypeId} {a b : AV} {x y : Value} {out : Out} (h : coreIndexStr Γ t a b = some out) (hok : out.ok = true) (hd : a.Den ν x) (hdy : b.Den ν y) :
    Good P w0 np ν m w (do pure (Next.value (← Instr.index t x y))) out := by
  unfold coreIndexStr at h
  split at h
  · rename_i ti s k i hti
    split at h
    · rename_i hdesc
      simp only [Option.some.injEq] at h
      subst h
      have e1 := sc_den hd
      have e2 := sc_den hdy
      subst e1
      subst e2
      have hin := inB_spec hok
      have hlt : i.toNat < s.size := by omega
      have hs : s[i.toNat]? = some s[i.toNat] := by simp [hlt]
      have hl : (s.data.toList[i.toNat]?).getD 0 = s[i.toNat] := by
        have h2 : i.toNat < s.data.size := hlt
        rw [Array.getElem?_toList, Array.getElem?_eq_getElem h2]
        rfl
      refine good_val' hr rfl (v_run (x := .int .u8 (s[i.toNat]).toNat) ?_) ?_
      · simp only [Instr.index, asIntOf, Sem.run_bind, Sem.run_pure, Result.andThen_ok, run_underlying (hdesc ▸ (hΓ _ _ hti).und), if_pos hin.1, hs]
      · refine ⟨?_, trivial⟩
        rw [hl]
        rfl
    · simp at h
  · simp at h

theorem sound_min (hr : Rep w0 np ν m w) {t1 t2 t' : TypeId} {a b : AV} {x y : Value} {out : Out} (h : coreMin a b = some out) (hd : a.Den ν x) (hdy : b.Den ν y) :
    Good P w0 np ν m w (do pure (Next.value (← Builtin.min_ #[t1, t2] t' #[x, y]))) out := by
  unfold coreMin at h
  split at h
  · rename_i k a k' b
    simp only [val, Option.some.injEq] at h
    subst h
    have e1 := sc_den hd
    have e2 := sc_den hdy
    subst e1
    subst e2
    refine good_val' hr rfl (v_run (x := .int k (if Int.ofNat b < Int.ofNat a then Int.ofNat b else Int.ofNat a)) rfl) ⟨?_, trivial⟩
    congr 1
    show (if (b : Int) < (a : Int) then (b : Int) else (a : Int)) = ((min a b : Nat) : Int)
    split <;> omega
  · simp at h

end
end Go.Rx
