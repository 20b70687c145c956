/-
Reflective execution, part 11: a function's contract out of the run of its body.
-/
import Derived.Test.YtleefjclfljknabGreatDoorRx10
namespace Go.Rx

/-- The results, one by one. -/
noncomputable def resVals (Γ : Tab) (s : St) : List ResultVar → Option (List V0 × Bool)
  | [] => some ([], true)
  | .tmp t :: r =>
    match s.T.t.get t, resVals Γ s r with
    | some (.one v), some (l, ok) => some (v :: l, ok)
    | _, _ => none
  | .cell a t :: r =>
    match s.T.t.get a with
    | some av =>
      match coreLoad Γ t av s.m, resVals Γ s r with
      | some out, some (l, ok) =>
        match out.av with
        | .one v => some (v :: l, out.ok && ok)
        | _ => none
      | _, _ => none
    | none => none

def resAV : List V0 → AV
  | [v] => .one v
  | l => .tup l

structure FR where
  r : AV
  s : St
  ok : Bool
  pre : List Prop

noncomputable def putArgs : List AV → Nat → TT → TT
  | [], _, t => t
  | a :: r, k, t => putArgs r (k + 1) (t.put a k)

/-- A frame's temporaries when it begins: so many, room for 1023, the arguments first. -/
noncomputable def startT (nt : Nat) (args : List AV) : Tmps := ⟨max nt args.length, putArgs args 0 (TT.full undefAV 10)⟩

theorem putArgs_get : ∀ (args : List AV) (k : Nat) (t : TT) (j : Nat) (av : AV), (putArgs args k t).get j = some av → (k ≤ j ∧ args[j - k]? = some av) ∨ (¬ (k ≤ j ∧ j < k + args.length) ∧ t.get j = some av)
  | [], k, _, j, _, h => .inr ⟨by simp only [List.length_nil]; omega, h⟩
  | a :: r, k, t, j, av, h => by
    rcases putArgs_get r (k + 1) (t.put a k) j av h with ⟨h1, h2⟩ | ⟨h1, h2⟩
    · refine .inl ⟨by omega, ?_⟩
      have : j - k = (j - (k + 1)) + 1 := by omega
      rw [this]
      simpa using h2
    · by_cases e : k = j
      · subst e
        have := TT.get_put_eq _ _ _ _ h2
        subst this
        exact .inl ⟨Nat.le_refl _, by simp⟩
      · rw [TT.get_put_ne _ _ _ _ e] at h2
        exact .inr ⟨by simp only [List.length_cons]; omega, h2⟩

noncomputable def execFn (P : Program) (Γ : Tab) (fn : Func) (args : List AV) (m : List Blk) (rh : List RH) (dirs : List Bool) (fuel : Nat) : Option FR :=
  match fn.body with
  | some c =>
    match exec P Γ fuel c ⟨⟨startT fn.ntmps args, m.map some⟩, rh, dirs⟩ with
    | some r =>
      match r.e with
      | .exit _ => none
      | _ =>
        match resVals Γ r.c.s fn.results.toList with
        | some (l, ok) => some ⟨resAV l, r.c.s, r.ok && ok, r.pre⟩
        | none => none
    | none => none
  | none => none

section
variable {P : Program} {Γ : Tab} {w0 : World} {np : Nat}

theorem sound_loadVar {ν : NV} {m : Mem} {w : World} (hΓ : Γ.Ok P) (hr : Rep w0 np ν m w) {t : TypeId} {a : AV} {x : Value} {out : Out} (h : coreLoad Γ t a m = some out) (hok : out.ok = true) (hd : a.Den ν x) :
    ∃ y, (do loadVar t (← asAddr x) : Sem Value).run P w = .ok y w ∧ out.av.Den ν y := by
  obtain ⟨ad, y, rfl, h1, h2, _⟩ := load_run hΓ hr h hok hd
  refine ⟨y, ?_, h2⟩
  simp only [asAddr, Sem.run_bind, Sem.run_pure, Result.andThen_ok]
  exact h1

def resOf (tmps : Array Value) : ResultVar → Sem Value
  | .tmp t => pure (tmps.getD t undef)
  | .cell a t => do loadVar t (← asAddr (tmps.getD a undef))

theorem ARel.getD {ν : NV} {T : Tmps} {a : Act} (h : ARel ν T a) {t : Nat} {av : AV} (ht : T.t.get t = some av) : av.Den ν (a.tmps.getD t undef) := by
  have := h.rho (.tmp t) av ht
  exact this

theorem resVals_sound {ν : NV} {s : St} {a : Act} {w : World} (hΓ : Γ.Ok P) (ha : ARel ν s.T a) (hr : Rep w0 np ν s.m w) : ∀ {rs : List ResultVar} {l : List V0} {ok : Bool}, resVals Γ s rs = some (l, ok) → ok = true →
    ∃ vs : List Value, (rs.mapM (resOf a.tmps)).run P w = .ok vs w ∧ DenVL ν l vs
  | [], l, ok, h, _ => by
    simp only [resVals, Option.some.injEq, Prod.mk.injEq] at h
    obtain ⟨rfl, _⟩ := h
    exact ⟨[], by simp, trivial⟩
  | .tmp t :: rs, l, ok, h, hok => by
    simp only [resVals] at h
    split at h
    · rename_i v l' ok' ht hrs
      simp only [Option.some.injEq, Prod.mk.injEq] at h
      obtain ⟨rfl, rfl⟩ := h
      obtain ⟨vs, h1, h2⟩ := resVals_sound hΓ ha hr hrs hok
      refine ⟨a.tmps.getD t undef :: vs, ?_, ha.getD ht, h2⟩
      simp only [List.mapM_cons, resOf, Sem.run_bind, Sem.run_pure, Result.andThen_ok, h1]
    · simp at h
  | .cell b t :: rs, l, ok, h, hok => by
    simp only [resVals] at h
    split at h
    · rename_i av hav
      split at h
      · rename_i out l' ok' hld hrs
        split at h
        · rename_i v hv
          simp only [Option.some.injEq, Prod.mk.injEq] at h
          obtain ⟨rfl, rfl⟩ := h
          simp only [Bool.and_eq_true] at hok
          obtain ⟨vs, h1, h2⟩ := resVals_sound hΓ ha hr hrs hok.2
          obtain ⟨y, h3, h4⟩ := sound_loadVar hΓ hr hld hok.1 (ha.getD hav)
          rw [hv] at h4
          refine ⟨y :: vs, ?_, h4, h2⟩
          simp only [Sem.run_bind] at h3
          simp only [List.mapM_cons, resOf, Sem.run_bind, Sem.run_pure]
          rw [h3]
          simp only [Result.andThen_ok, h1]
        · simp at h
      · simp at h
    · simp at h

theorem DenVL.length {ν : NV} : ∀ {l : List V0} {vs : List Value}, DenVL ν l vs → l.length = vs.length
  | [], [], _ => rfl
  | _ :: _, _ :: _, h => by simp [DenVL.length h.2]
  | [], _ :: _, h => h.elim
  | _ :: _, [], h => h.elim

theorem results_sound {ν : NV} {s : St} {a : Act} {w : World} (hΓ : Γ.Ok P) (ha : ARel ν s.T a) (hr : Rep w0 np ν s.m w) {fn : Func} {l : List V0} {ok : Bool} (h : resVals Γ s fn.results.toList = some (l, ok)) (hok : ok = true) :
    ∃ v, (results fn a.tmps).run P w = .ok v w ∧ (resAV l).Den ν v := by
  obtain ⟨vs, h1, h2⟩ := resVals_sound hΓ ha hr h hok
  have hm : (fn.results.mapM (resOf a.tmps)).run P w = .ok vs.toArray w := by
    rw [Array.mapM_eq_mapM_toList, Sem.run_map, h1]
    rfl
  have e : results fn a.tmps = (do let vs ← fn.results.mapM (resOf a.tmps); pure (if h : vs.size = 1 then vs[0] else .tuple vs)) := by
    unfold results
    congr 1
  rw [e]
  simp only [Sem.run_bind, hm, Result.andThen_ok, Sem.run_pure]
  refine ⟨_, rfl, ?_⟩
  match l, vs, h2 with
  | [], [], _ => exact ⟨#[], rfl, trivial⟩
  | [v], [x], h2 => exact h2.1
  | v :: v' :: l, x :: x' :: vs, h2 => exact ⟨_, rfl, h2⟩

/-- The numbers of what a function hands back: its own blocks first, then those named. -/
def expId (np top : Nat) (ex : List Nat) (i : Nat) : Nat := if i < np then i else (ex[i - np]?).getD top

theorem rep_export {w : World} {ν : NV} {m : Mem} {w' : World} (hr : Rep w np ν m w') {ex : List Nat} {m' : List Blk}
    (hn : nodupB (List.range np ++ ex) = true) (hlen : m'.length = np + ex.length) (hb2 : ∀ i, i < m'.length → m.at (expId np m.length ex i) = (m'[i]?).map (Blk.ren (expId np m.length ex))) :
    let νs : NV := fun i => if i < m'.length then ν (expId np m.length ex i) else none
    (∀ b n, ν (expId np m.length ex b) = some n → νs b = some n) ∧ Rep w np νs (m'.map some) w' := by
  intro νs
  have htop : ν m.length = none := hr.dom _ (by simp [Mem.at])
  have hun : ∀ b n, ν (expId np m.length ex b) = some n → νs b = some n := by
    intro b n h
    by_cases hlt : b < m'.length
    · simp only [νs, if_pos hlt, h]
    · have : expId np m.length ex b = m.length := by
        unfold expId
        rw [if_neg (by omega), List.getElem?_eq_none (by omega)]
        rfl
      rw [this, htop] at h
      simp at h
  have hbig : ∀ i, i < m'.length → (List.range np ++ ex)[i]? = some (expId np m.length ex i) := by
    intro i hi
    unfold expId
    by_cases h : i < np
    · rw [if_pos h, List.getElem?_append_left (by simpa using h)]; simp [h]
    · rw [if_neg h, List.getElem?_append_right (by simp; omega)]
      simp
      have : i - np < ex.length := by omega
      simp [this]
  have hblk : ∀ (i : Nat) (b : Blk), m'[i]? = some b → i < m'.length ∧ m.at (expId np m.length ex i) = some (b.ren (expId np m.length ex)) := by
    intro i b hi
    have hlt : i < m'.length := by
      rcases Nat.lt_or_ge i m'.length with h' | h'
      · exact h'
      · simp [List.getElem?_eq_none h'] at hi
    exact ⟨hlt, by rw [hb2 i hlt, hi]; rfl⟩
  have hold : ∀ i b, i < m'.length → np ≤ i → m.at (expId np m.length ex i) = some b → np ≤ expId np m.length ex i := by
    intro i b hlt hi hat
    rcases Nat.lt_or_ge (expId np m.length ex i) np with h | h
    · exfalso
      have h6 := hbig i hlt
      have h7 := hbig (expId np m.length ex i) (by omega)
      have h8 : expId np m.length ex (expId np m.length ex i) = expId np m.length ex i := by
        generalize expId np m.length ex i = k at h ⊢
        unfold expId
        rw [if_pos (by omega)]
      rw [h8] at h7
      have := (List.getElem?_inj (by simp; omega) (nodupB_spec hn)).1 (h6.trans h7.symm)
      omega
    · exact h
  have hle : ∀ j, j < np → j < m'.length := fun j h => by omega
  have hfirst : ∀ j b n, j < np → m.at j = some b → b.ro = false → ν j = some n → ∃ b', Mem.at (m'.map some) j = some b' ∧ b'.ro = false ∧ νs j = some n := by
    intro j b n hj hb hro hn'
    have he : expId np m.length ex j = j := by unfold expId; rw [if_pos hj]
    have hbj := hb2 j (hle j hj)
    rw [he, hb] at hbj
    cases hm : m'[j]? with
    | none => rw [hm] at hbj; simp at hbj
    | some b' =>
      rw [hm] at hbj
      simp only [Option.map_some, Option.some.injEq] at hbj
      exact ⟨b', at_map_some.2 hm, by subst hbj; exact hro, by simp only [νs, if_pos (hle j hj), he, hn']⟩
  refine ⟨hun, hr.os, hr.tape, hr.output, hr.size, ?_, ?_, ?_, ?_, ?_, ?_⟩
  · intro i b hi
    rw [at_map_some] at hi
    obtain ⟨hlt, hat⟩ := hblk i b hi
    obtain ⟨n, h1, h2⟩ := hr.blk _ _ hat
    exact ⟨n, by simp only [νs, if_pos hlt, h1], Lies.unren hun h2⟩
  · intro i b n hi hg hnp hν
    rw [at_map_some] at hi
    obtain ⟨hlt, hat⟩ := hblk i b hi
    simp only [νs, if_pos hlt] at hν
    rcases hr.new _ _ n hat (by rw [ren_ghost]; exact hg) (hold i _ hlt hnp hat) hν with h | ⟨j, bj, h1, h2, h3, h4⟩
    · exact .inl h
    · obtain ⟨b', k1, k2, k3⟩ := hfirst j bj n h1 h2 h3 h4
      exact .inr ⟨j, b', h1, k1, k2, k3⟩
  · intro i b hi hnp hg
    rw [at_map_some] at hi
    obtain ⟨hlt, hat⟩ := hblk i b hi
    have := hr.gro _ _ hat (hold i _ hlt hnp hat) (by rw [ren_ghost]; exact hg)
    exact this
  · intro i hi
    rw [at_map_none] at hi
    simp only [νs, if_neg (show ¬ i < m'.length by omega)]
  · intro i j bi bj n hi hj hij hro hli hlj hν
    rw [at_map_some] at hi hj
    obtain ⟨h1, h2⟩ := hblk i bi hi
    obtain ⟨h3, h4⟩ := hblk j bj hj
    simp only [νs, if_pos h1] at hν
    simp only [νs, if_pos h3]
    refine hr.sep _ _ _ _ n h2 h4 (fun e => hij ?_) hro (by rw [ren_live]; exact hli) (by rw [ren_live]; exact hlj) hν
    have h5 := hbig i h1
    have h6 := hbig j h3
    rw [e] at h5
    exact (List.getElem?_inj (by simp; omega) (nodupB_spec hn)).1 (h5.trans h6.symm)
  · intro n hnn hk
    refine hr.keep n hnn fun i b hi hro hν => ?_
    have hfin : ∀ j bj, j < np → m.at j = some bj → bj.ro = false → ν j = some n → False := by
      intro j bj h1 h2 h3 h4
      obtain ⟨b', k1, k2, k3⟩ := hfirst j bj n h1 h2 h3 h4
      exact hk j b' k1 k2 k3
    by_cases hge : np ≤ i
    · by_cases hg : b.ghost = true
      · have := hr.gro i b hi hge hg
        rw [hro] at this
        simp at this
      · rcases hr.new i b n hi (by simpa using hg) hge hν with h | ⟨j, bj, h1, h2, h3, h4⟩
        · omega
        · exact hfin j bj h1 h2 h3 h4
    · exact hfin i b (by omega) hi hro hν

/-- THE CONTRACT OF A FUNCTION OUT OF ITS RUN. -/
theorem Fn_of_exec (hm : P.follows .mixedOrders = true) (hΓ : Γ.Ok P) {k : FuncId} {fn : Func} (hf : P.funcs[k]? = some fn)
    (hcall : ∀ (vs : Array Value) (w : World), (callFunc k vs).run P w = .ok (.enter k vs) w)
    {args : List AV} {m m' : List Blk} {rh : List RH} {dirs : List Bool} {fuel : Nat} {f : FR} {r : AV} {ex : List Nat}
    (h : execFn P Γ fn args m rh dirs fuel = some f) (hok : f.ok = true) (hpre : ∀ p ∈ f.pre, p)
    (hn : nodupB (List.range m.length ++ ex) = true) (hlen : m'.length = m.length + ex.length)
    (hr : f.r = r.ren (expId m.length f.s.m.length ex)) (hb : ∀ i, i < m'.length → f.s.m.at (expId m.length f.s.m.length ex i) = (m'[i]?).map (Blk.ren (expId m.length f.s.m.length ex))) :
    Con P k args m r m' := by
  intro w ν vs hrep hvs
  refine .inl ⟨k, hcall vs w, ?_⟩
  unfold execFn at h
  split at h
  · rename_i c hc
    split at h
    · rename_i res hres
      have hcase : (∀ id, res.e ≠ .exit id) ∧ ∃ l ok, resVals Γ res.c.s fn.results.toList = some (l, ok) ∧ f = ⟨resAV l, res.c.s, res.ok && ok, res.pre⟩ := by
        split at h
        · simp at h
        · rename_i he
          split at h
          · rename_i l ok hl
            simp only [Option.some.injEq] at h
            exact ⟨he, l, ok, hl, h.symm⟩
          · simp at h
      obtain ⟨he, l, ok, hl, rfl⟩ := hcase
      simp only [Bool.and_eq_true] at hok
      simp only at hr hb
      refine calls_of_wp hf hc ?_
      have hargs : ARel ν (startT fn.ntmps args) { tmps := vs ++ Array.replicate (fn.ntmps - vs.size) undef, defers := [] } := by
        have hl := hvs.length
        simp only [Array.length_toList] at hl
        refine ⟨rfl, by simp [startT, hl]; omega, fun t av e => ?_⟩
        simp only [Array.getD_eq_getD_getElem?]
        rcases putArgs_get _ _ _ _ _ e with ⟨_, h2⟩ | ⟨h1, h2⟩
        · obtain ⟨x, hx, hd⟩ := hvs.get t av (by simpa using h2)
          have hlt : t < vs.size := by
            rcases Nat.lt_or_ge t vs.size with h' | h'
            · exact h'
            · simp [List.getElem?_eq_none (show vs.toList.length ≤ t by simpa using h')] at hx
          rw [Array.getElem?_append_left hlt]
          have : vs[t]? = some x := by simpa using hx
          rw [this]
          exact hd
        · have := TT.full_get _ _ _ _ h2
          subst this
          rcases Nat.lt_or_ge t vs.size with hlt | hge
          · omega
          · rw [Array.getElem?_append_right hge]
            by_cases h3 : t - vs.size < fn.ntmps - vs.size
            · simp [h3]; exact ⟨#[], rfl, trivial⟩
            · rw [Array.getElem?_eq_none (by simpa using h3)]
              exact ⟨#[], rfl, trivial⟩
      refine (exec_sound (w0 := w) (np := m.length) hm hΓ fuel).1 c _ res hres hok.1 hpre ν ν _ _ _ (NV.le_refl _) hargs hrep fun ν' a' w' hle ha' hr' => ?_
      have hpost : a'.defers = [] ∧ ∃ v, (results fn a'.tmps).run P w' = .ok v w' ∧ ∃ x, Ending.returned v = .returned x ∧ ∃ ν'', NV.le ν ν'' ∧ r.Den ν'' x ∧ Rep w m.length ν'' (m'.map some) w' := by
        refine ⟨ha'.defers, ?_⟩
        obtain ⟨v, h1, h2⟩ := results_sound hΓ ha' hr' hl hok.2
        obtain ⟨hun, hrs⟩ := rep_export hr' hn hlen hb
        refine ⟨v, h1, v, rfl, _, ?_, (hr ▸ h2).unren hun, hrs⟩
        intro i n hi
        have hilt : i < m.length := by
          rcases Nat.lt_or_ge i m.length with h' | h'
          · exact h'
          · have := hrep.dom i (at_map_none.2 h')
            rw [hi] at this
            simp at this
        exact hun i n (by unfold expId; rw [if_pos hilt]; exact hle i n hi)
      cases hre : res.e with
      | normal => exact hpost
      | exit id => exact absurd hre (he id)
      | ret => exact hpost
    · simp at h
  · simp at h

/-- The plain case: nothing is handed in by pointer, nothing comes back. -/
theorem Fn_of_exec0 (hm : P.follows .mixedOrders = true) (hΓ : Γ.Ok P) {k : FuncId} {fn : Func} (hf : P.funcs[k]? = some fn)
    (hcall : ∀ (vs : Array Value) (w : World), (callFunc k vs).run P w = .ok (.enter k vs) w)
    {args : List AV} {rh : List RH} {dirs : List Bool} {fuel : Nat} {f : FR} {r : AV}
    (h : execFn P Γ fn args [] rh dirs fuel = some f) (hok : f.ok = true) (hpre : ∀ p ∈ f.pre, p) (hr : f.r = r) (hno : ∀ g : Nat → Nat, r.ren g = r) : Con P k args [] r [] :=
  Fn_of_exec (ex := []) hm hΓ hf hcall h hok hpre rfl rfl (by rw [hno]; exact hr) (fun i hi => by simp at hi)

end
end Go.Rx
