/-
Reflective execution, part 8: one operation in a frame; what it looks at; two operations that may change places.
-/
import Derived.Test.YtleefjclfljknabGreatDoorRx7
namespace Go.Rx

structure St where
  T : Tmps
  m : Mem

/-- The frame holds what is known of its temporaries. -/
structure ARel (ν : NV) (T : Tmps) (a : Act) : Prop where
  defers : a.defers = []
  size : T.nt = a.tmps.size
  den : ∀ (t : Nat) (av : AV), T.t.get t = some av → av.Den ν (a.tmps.getD t undef)

theorem ARel.mono {ν ν' : NV} (hn : NV.le ν ν') {T : Tmps} {a : Act} (h : ARel ν T a) : ARel ν' T a :=
  ⟨h.defers, h.size, fun t av e => (h.den t av e).mono hn⟩

noncomputable def putT (dst : Option Tmp) (av : AV) (T : Tmps) : Tmps :=
  match dst, T with
  | some d, ⟨nt, t⟩ => bif Nat.blt d nt then ⟨nt, t.put av d⟩ else ⟨nt, t⟩
  | none, T => T

theorem ARel.put {ν : NV} {T : Tmps} {a : Act} (h : ARel ν T a) (dst : Option Tmp) {av : AV} {x : Value} (hd : av.Den ν x) : ARel ν (putT dst av T) (a.put dst x) := by
  cases dst with
  | none => exact h
  | some d =>
    simp only [putT, Act.put]
    cases hb : Nat.blt d T.nt with
    | false =>
      simp only [cond_false]
      have hge : ¬ d < a.tmps.size := by
        intro hlt
        rw [← h.size] at hlt
        rw [show Nat.blt d T.nt = true by rw [Nat.blt_eq]; exact hlt] at hb
        simp at hb
      refine ⟨h.defers, by simp [h.size], fun t av' e => ?_⟩
      have : a.tmps.setIfInBounds d x = a.tmps := Array.setIfInBounds_eq_of_size_le (Nat.le_of_not_lt hge)
      simp only [this]
      exact h.den t av' e
    | true =>
      simp only [cond_true]
      have hlt : d < a.tmps.size := by rw [← h.size]; rw [Nat.blt_eq] at hb; exact hb
      refine ⟨h.defers, by simp [h.size], fun t av' e => ?_⟩
      by_cases hdt : d = t
      · subst hdt
        have := TT.get_put_eq _ _ _ _ e
        subst this
        simpa [Array.getD, hlt] using hd
      · rw [TT.get_put_ne _ _ _ _ hdt] at e
        have := h.den t av' e
        simp only [Array.getD_eq_getD_getElem?] at this ⊢
        rw [Array.getElem?_setIfInBounds_ne hdt]
        exact this

theorem ARel.rho {ν : NV} {T : Tmps} {a : Act} (h : ARel ν T a) : RhoDen ν (rho T) a.eval := by
  intro x av hx
  cases x with
  | tmp t =>
    have := h.den t av hx
    have e : a.eval (.tmp t) = a.tmps.getD t undef := rfl
    rw [e]
    exact this
  | const v => exact constAV_den hx
  | global g =>
    simp only [Rx.rho, Option.some.injEq] at hx
    subst hx
    exact ⟨rfl, trivial⟩
  | func f =>
    simp only [Rx.rho, Option.some.injEq] at hx
    subst hx
    exact ⟨rfl, trivial⟩

/-- Does the guard say what the hint says? -/
noncomputable def guardOk (ops : Array Oper) (T : Tmps) (o : Oper) (run : Bool) : Bool :=
  match o.guard with
  | none => run
  | some (j, want) =>
    match (ops.toList[j]?).bind (·.dst) with
    | some d =>
      match T.t.get d with
      | some (.one (.c (.sc (.bool b)))) => (b == want) == run
      | _ => false
    | none => false

noncomputable def stepI (P : Program) (Γ : Tab) (ops : Array Oper) (o : Oper) (id : Nat) (h : Hint) (s : St) : Option Out :=
  match h.run with
  | true =>
    match core P Γ o id h (rho s.T) s.m with
    | some out =>
      match h.cast with
      | none => some { out with ok := out.ok && guardOk ops s.T o true }
      | some r => some { out with av := r, ok := out.ok && guardOk ops s.T o true, pre := (out.av = r) :: out.pre }
    | none => none
  | false => some { av := undefAV, ok := guardOk ops s.T o false }

noncomputable def St.upd (s : St) (o : Oper) (out : Out) : St := { T := putT o.dst out.av s.T, m := s.m.app out.up }

section
variable {P : Program} {Γ : Tab} {ops : Array Oper} {w0 w : World} {np : Nat} {ν : NV} {s : St} {a : Act}

theorem guard_sound (ha : ARel ν s.T a) {o : Oper} {run : Bool} (h : guardOk ops s.T o run = true) : Region.wanted o (yielded ops a.tmps) = run := by
  unfold guardOk at h
  unfold Region.wanted
  split at h
  · rename_i hg; simp [hg, h]
  · rename_i j want hg
    simp only [hg]
    split at h
    · rename_i d hd
      split at h
      · rename_i b hb
        have hxd := ha.den d _ hb
        have hx : a.tmps[d]? = some (.bool b) := by
          have e := sc_den hxd
          simp only [Array.getD_eq_getD_getElem?] at e
          cases hx : a.tmps[d]? with
          | none => rw [hx] at e; simp [undef] at e
          | some y => rw [hx] at e; simp at e; rw [e]
        have hd' : (ops[j]?).bind (·.dst) = some d := by simpa using hd
        have : yielded ops a.tmps j = some b := by
          simp only [yielded, hd', Option.bind_some, hx]
        rw [this]
        simp only [beq_iff_eq] at h
        rw [← h]
        cases b <;> cases want <;> rfl
      · simp at h
    · simp at h

theorem run_call_eq {ρ : Operand → Value} {f : Operand} {args : Array Operand} {argTypes : Array TypeId} {dst : Option Tmp} {type : TypeId} {pos : String} {after : Array Edge} {g : Option (Nat × Bool)} {k : FuncId} {caps : Array Value}
    (hf : ρ f = .func (.func k) #[] caps) :
    execOp ρ ⟨dst, .call ⟨.value f, args, argTypes⟩, type, pos, after, g⟩ = callFunc k (args.map ρ ++ caps) := by
  simp [execOp, resolve, hf, Deferred.ofValue, invoke]

theorem callee_den {f : AV} {k : FuncId} {caps : List V0} {x : Value} (h : callee f = some (k, caps)) (hd : f.Den ν x) :
    ∃ cs : Array Value, x = .func (.func k) #[] cs ∧ DenVL ν caps cs.toList := by
  unfold callee at h
  split at h
  · simp only [Option.some.injEq, Prod.mk.injEq] at h
    obtain ⟨rfl, rfl⟩ := h
    obtain ⟨vs, rfl, hv⟩ := hd
    exact ⟨vs, rfl, hv⟩
  · rename_i k' first cs
    split at h
    · rename_i he
      simp only [Option.some.injEq, Prod.mk.injEq] at h
      obtain ⟨rfl, rfl⟩ := h
      have := sc_den hd
      subst this
      obtain ⟨rfl, rfl⟩ := func_empty he
      exact ⟨#[], rfl, trivial⟩
    · simp at h
  · simp at h

/-- ONE OPERATION IN A FRAME. -/
theorem step_sound (hΓ : Γ.Ok P) (hr : Rep w0 np ν s.m w) (ha : ARel ν s.T a) {o : Oper} {id : Nat} {h : Hint} {out : Out} (hs : stepI P Γ ops o id h s = some out)
    (hok : out.ok = true) (hpre : ∀ p ∈ out.pre, p) {K : Act → World → Prop} {Q : Exit → Act → World → Prop}
    (hK : ∀ ν' a' w', NV.le ν ν' → ARel ν' (s.upd o out).T a' → Rep w0 np ν' (s.upd o out).m w' → K a' w') :
    if Region.wanted o (yielded ops a.tmps) then o.wp P a w K Q ∨ (o.asks P a w ∧ LetsOut Q) else K (a.put o.dst undef) w := by
  unfold stepI at hs
  split at hs
  · split at hs
    · rename_i out0 hcore
      have hs' : some { out0 with ok := out0.ok && guardOk ops s.T o true } = some { out with pre := out0.pre } ∧ ∀ p ∈ out0.pre, p := by
        split at hs
        · simp only [Option.some.injEq] at hs
          subst hs
          exact ⟨rfl, hpre⟩
        · rename_i r hr'
          simp only [Option.some.injEq] at hs
          subst hs
          have e : out0.av = r := hpre _ (by simp)
          subst e
          exact ⟨rfl, fun p hp => hpre p (by simp [hp])⟩
      obtain ⟨hs', hpre0⟩ := hs'
      clear hpre
      have hpre := hpre0
      clear hpre0
      replace hK : ∀ ν' a' w', NV.le ν ν' → ARel ν' (s.upd o { out0 with ok := out0.ok && guardOk ops s.T o true }).T a' → Rep w0 np ν' (s.upd o { out0 with ok := out0.ok && guardOk ops s.T o true }).m w' → K a' w' := by
        simp only [Option.some.injEq] at hs'
        intro ν' a' w' h1 h2 h3
        have e1 : out.av = out0.av := by have := congrArg Out.av hs'; exact this.symm
        have e2 : out.up = out0.up := by have := congrArg Out.up hs'; exact this.symm
        exact hK ν' a' w' h1 (by simpa only [St.upd, e1] using h2) (by simpa only [St.upd, e2] using h3)
      replace hok : (out0.ok && guardOk ops s.T o true) = true := by
        simp only [Option.some.injEq] at hs'
        have := congrArg Out.ok hs'
        exact this.trans hok
      clear hs hs'
      simp only [Bool.and_eq_true] at hok
      obtain ⟨hok, hg⟩ := hok
      rw [guard_sound ha hg, if_pos rfl]
      refine .inl ?_
      by_cases hc : isCall o = true
      · obtain ⟨dst, op, type, pos, after, guard⟩ := o
        cases op <;> simp only [isCall, Bool.false_eq_true] at hc
        rename_i c
        obtain ⟨cal, args, argTypes⟩ := c
        cases cal <;> simp only [Bool.false_eq_true] at hc
        rename_i f
        simp only [core, cCallVal, cCall] at hcore
        split at hcore
        · rename_i fav argav hf hargs
          unfold coreCall at hcore
          split at hcore
          · rename_i k caps c hcal hcall
            split at hcore
            · rename_i bs hbs
              split at hcore
              · rename_i hcond
                simp only [Option.some.injEq] at hcore
                subst hcore
                simp only [Bool.and_eq_true] at hcond
                obtain ⟨⟨⟨⟨⟨⟨⟨h1, h2⟩, h3⟩, h6⟩, h7⟩, h8⟩, h9⟩, h10⟩ := hcond
                obtain ⟨cs, hfe, hcs⟩ := callee_den hcal (ha.rho _ _ hf)
                have hvs : DenAL ν (argav ++ caps.map .one) (args.map a.eval ++ cs).toList := by
                  have := (rhoAll_den ha.rho hargs).append hcs.ones
                  simpa using this
                have hinv := frame_call (P := P) hr hbs h1 (by rw [fillK_length]; exact h2) h3 (avs_back (top := s.m.length) (by rw [List.all_append, h6, ones_in h7]; rfl)).symm (blks_back h8).symm h9 h10 (hpre _ (List.mem_cons_self ..)) hvs
                rw [app_keep_call hbs h1 h8] at hinv
                simp only [Oper.wp, run_call_eq hfe]
                rcases hinv with ⟨j, h4, h5⟩ | ⟨x, h4, h5⟩
                · rw [h4]
                  simp only [Oper.upon]
                  refine h5.mono fun e w' ⟨x, he, ν', hle, hd, hrep⟩ => ?_
                  subst he
                  exact hK ν' _ w' hle ((ha.mono hle).put _ hd) hrep
                · obtain ⟨ν', hle, hd, hrep⟩ := h5
                  rw [h4]
                  simp only [Oper.upon]
                  exact hK ν' _ w hle ((ha.mono hle).put _ hd) hrep
              · simp at hcore
            · simp at hcore
          · simp at hcore
        · simp at hcore
      · have hc : isCall o = false := by simpa using hc
        obtain ⟨ν', w', nx, x, hle, hrun, hnx, hd, hrep⟩ := core_sound hΓ hr ha.rho hcore hok hc
        simp only [Oper.wp, hrun]
        cases nx <;> simp only [nextVal, Option.some.injEq, reduceCtorEq] at hnx
        · subst hnx
          exact hK ν' _ w' hle ((ha.mono hle).put _ hd) hrep
        · subst hnx
          exact hK ν' _ w' hle ((ha.mono hle).put _ hd) hrep
    · simp at hs
  · simp only [Option.some.injEq] at hs
    subst hs
    rw [guard_sound ha hok]
    simp only [Bool.false_eq_true, if_false]
    exact hK ν _ w (NV.le_refl _) (ha.put _ ⟨#[], rfl, trivial⟩) hr

/-! ### What a step looks at -/

theorem rhoParts_congr {ρ1 ρ2 : Operand → Option AV} : ∀ {l : List (Nat × Operand)}, (∀ x ∈ l.map (·.2), ρ1 x = ρ2 x) → rhoParts ρ1 l = rhoParts ρ2 l
  | [], _ => rfl
  | (i, x) :: l, h => by
    unfold rhoParts
    rw [h x (by simp), rhoParts_congr (l := l) fun y hy => h y (by simp at hy ⊢; exact .inr hy)]

theorem rhoAll_congr {ρ1 ρ2 : Operand → Option AV} : ∀ {l : List Operand}, (∀ x ∈ l, ρ1 x = ρ2 x) → rhoAll ρ1 l = rhoAll ρ2 l
  | [], _ => rfl
  | x :: l, h => by
    unfold rhoAll
    rw [h x (by simp), rhoAll_congr (l := l) fun y hy => h y (by simp [hy])]

theorem core_congr {ρ1 ρ2 : Operand → Option AV} {o : Oper} {id : Nat} {h : Hint} {m : Mem} (hρ : ∀ x ∈ o.op.operands, ρ1 x = ρ2 x) : core P Γ o id h ρ1 m = core P Γ o id h ρ2 m := by
  obtain ⟨dst, op, type, pos, after, guard⟩ := o
  cases op <;> simp only [Op.operands] at hρ <;> simp only [core, cVal, cPick, cBox, cBuild, cBuildSlice, cLoad, cStore, cFieldAddr, cField, cIndexAddr, cIndex, cBin, cUn, cConv, cLookup, cMapPush, cArrayAt, cSlice, cNil, cExtract, cMakeFunc, cCallVal, cLen, cAppend, cMin, cMax, cCall]
  case pick c a b =>
    rw [hρ c (by simp), hρ (if h.dir = true then a else b) (by cases h.dir <;> simp)]
  case build t ps => rw [rhoParts_congr (by simpa using hρ)]
  case buildSlice t n ps => rw [rhoParts_congr (by simpa using hρ)]
  case makeFunc fn first caps =>
    have : rhoAll ρ1 caps.toList = rhoAll ρ2 caps.toList := rhoAll_congr fun x hx => hρ x (by simp at hx; simp [hx])
    rw [this]
  case call c =>
    obtain ⟨cal, args, types⟩ := c
    have hargs : rhoAll ρ1 args.toList = rhoAll ρ2 args.toList := rhoAll_congr fun x hx => hρ x (by simp at hx; simp [Call.operands, hx])
    cases cal with
    | value f =>
      have hf : ρ1 f = ρ2 f := hρ f (by simp [Call.operands])
      simp only [hargs, hf]
    | invoke r n => rfl
    | builtin b =>
      have : ∀ x ∈ args.toList, ρ1 x = ρ2 x := fun x hx => hρ x (by simp at hx; simp [Call.operands, hx])
      cases b <;> simp only
      case len =>
        split
        · rename_i x t hx ht
          rw [this x (by simp [hx])]
        · rfl
      all_goals
        split
        · rename_i x y t u hx ht
          rw [this x (by simp [hx]), this y (by simp [hx])]
        · rfl
  case slice t x lo hi mx =>
    have ho : ∀ o : Option Operand, (∀ y, o = some y → ρ1 y = ρ2 y) → rhoOpt ρ1 o = rhoOpt ρ2 o := by
      intro o h
      cases o with
      | none => rfl
      | some y => simp only [rhoOpt, h y rfl]
    rw [hρ x (by simp), ho lo fun y hy => hρ y (by simp [hy]), ho hi fun y hy => hρ y (by simp [hy]), ho mx fun y hy => hρ y (by simp [hy])]
  all_goals
    first
      | rfl
      | (simp only [List.mem_toArray, List.mem_cons, List.not_mem_nil, or_false, forall_eq_or_imp, forall_eq] at hρ; simp only [hρ])

theorem lookB_congr {m m2 : Mem} : ∀ {F : List Nat}, (∀ i ∈ F, m2[i]? = m[i]?) → lookB m2 F = lookB m F
  | [], _ => rfl
  | x :: F, h => by
    unfold lookB
    rw [h x (by simp), lookB_congr (F := F) fun i hi => h i (by simp [hi])]

theorem idsFrom_mem : ∀ {n id i : Nat}, i ∈ idsFrom id n ↔ id ≤ i ∧ i < id + n
  | 0, id, i => by simp [idsFrom]
  | n + 1, id, i => by simp only [idsFrom, List.mem_cons, idsFrom_mem]; omega

theorem freeIds_congr {m m2 : Mem} : ∀ {n id : Nat}, (∀ i ∈ idsFrom id n, m2[i]? = m[i]?) → freeIds m2 id n = freeIds m id n
  | 0, id, _ => rfl
  | n + 1, id, h => by
    simp only [freeIds]
    rw [h id (by simp [idsFrom]), freeIds_congr (n := n) fun i hi => h i (by simp [idsFrom, hi])]

theorem newBlk_local {m m2 : Mem} {id : Nat} {b : Blk} {a : AV} {out : Out} (h : newBlk m id b a = some out) (hm : ∀ i ∈ out.rd, m2[i]? = m[i]?) : newBlk m2 id b a = some out := by
  unfold newBlk at h ⊢
  split at h
  · rename_i hid
    simp only [Option.some.injEq] at h
    subst h
    rw [hm id (by simp), hid]
  · simp at h

theorem srcOf_local {m m2 : Mem} {size : Nat} {x : AV} {src : SrcR} (h : srcOf m size x = some src) (hm : ∀ i ∈ src.rd, m2[i]? = m[i]?) : srcOf m2 size x = some src := by
  unfold srcOf at h ⊢
  split at h
  · split at h
    · rename_i blk hb
      simp only [Option.some.injEq] at h
      subst h
      simp only [hm _ (List.mem_cons_self ..), hb]
    · simp at h
  · split at h
    · rename_i blk hb
      simp only [Option.some.injEq] at h
      subst h
      simp only [hm _ (List.mem_cons_self ..), hb]
    · simp at h
  all_goals first | exact h | (simp at h; done)

theorem free2_congr {m m2 : Mem} {id : Nat} (h1 : m2[id]? = m[id]?) (h2 : m2[id + 1]? = m[id + 1]?) : free2 m2 id = free2 m id := by
  unfold free2
  rw [h1, h2]

theorem grown_rd {e : TypeId} {te : TI} {id : Nat} {rd : List Nat} {n : Nat} {cells : List Cell} {ok : Bool} {out : Out} (h : grown e te id rd n cells ok = some out) : out.rd = rd ++ [id, id + 1] := by
  unfold grown at h
  split at h
  · simp only [Option.some.injEq] at h; subst h; rfl
  · simp at h

theorem append_local {t u : TypeId} {x y : AV} {id : Nat} {m m2 : Mem} {out : Out} (h : coreAppend Γ t u x y id m = some out) (hm : ∀ i ∈ out.rd, m2[i]? = m[i]?) : coreAppend Γ t u x y id m2 = some out := by
  have key : ∀ e te src, (∀ i ∈ src.rd, m2[i]? = m[i]?) → m2[id]? = m[id]? → m2[id + 1]? = m[id + 1]? → srcOf m (te : TI).size y = some src → srcOf m2 te.size y = some src ∧ free2 m2 id = free2 m id ∧ (e : TypeId) = e :=
    fun e te src h1 h2 h3 h4 => ⟨srcOf_local h4 h1, free2_congr h2 h3, rfl⟩
  unfold coreAppend at h ⊢
  split at h
  case h_2 => simp at h
  rename_i ti tix hti htix hfree
  split at h
  case h_2 => simp at h
  rename_i e hdesc hnot
  split at h
  case h_2 => simp at h
  rename_i te hte0
  split at h
  case h_2 => simp at h
  rename_i src hsrc
  have main : (∀ i ∈ src.rd ++ [id, id + 1], i ∈ out.rd) → srcOf m2 te.size y = some src ∧ free2 m2 id = true := by
    intro hsub
    obtain ⟨a, b, _⟩ := key e te src (fun i hi => hm i (hsub i (by simp [hi]))) (hm id (hsub id (by simp))) (hm (id + 1) (hsub (id + 1) (by simp))) hsrc
    exact ⟨a, by rw [b, hfree]⟩
  split at h
  · split at h
    · rename_i hn
      simp only [Option.some.injEq] at h
      subst h
      obtain ⟨a, b⟩ := main (fun i hi => hi)
      simp only [hti, htix, b, hdesc, hnot, hte0, a, hn]
    · rename_i n hn
      have hrd := grown_rd h
      obtain ⟨a, b⟩ := main (fun i hi => by rw [hrd]; exact hi)
      simp only [hti, htix, b, hdesc, hnot, hte0, a]
      first
        | exact h
        | (split
           · rename_i h0; exact absurd h0 (by simpa using hn)
           · exact h)
  · rename_i bb off len cap
    split at h
    case h_2 => simp at h
    rename_i blk hb
    split at h
    · rename_i hfit
      split at h
      · simp at h
      · rename_i hro
        simp only [Option.some.injEq] at h
        subst h
        obtain ⟨a, b⟩ := main (fun i hi => List.mem_cons_of_mem _ (by simpa using hi))
        have hbb := hm bb (List.mem_cons_self ..)
        simp only [hti, htix, b, hdesc, hnot, hte0, a, hbb, hb, hfit, hro]
    · rename_i hfit
      have hrd := grown_rd h
      obtain ⟨a, b⟩ := main (fun i hi => by rw [hrd]; exact List.mem_cons_of_mem _ (by simpa using hi))
      have hbb := hm bb (by rw [hrd]; simp)
      simp only [hti, htix, b, hdesc, hnot, hte0, a, hbb, hb, hfit]
      exact h
  · rename_i bb g z off len
    split at h
    · rename_i hn
      simp only [Option.some.injEq] at h
      subst h
      obtain ⟨a, b⟩ := main (fun i hi => hi)
      simp only [hti, htix, b, hdesc, hnot, hte0, a, hn]
    · rename_i n hn
      split at h
      case h_2 => simp at h
      rename_i blk hb
      split at h
      case h_2 => simp at h
      rename_i g' hkind hro hglob
      split at h
      case h_2 => simp at h
      rename_i out1 hgr
      simp only [Option.some.injEq] at h
      have hrd := grown_rd hgr
      have hrd2 : out.rd = out1.rd := by rw [← h]
      obtain ⟨a, b⟩ := main (fun i hi => by rw [hrd2, hrd]; exact List.mem_cons_of_mem _ (by simpa using hi))
      have hbb := hm bb (by rw [hrd2, hrd]; simp)
      simp only [hti, htix, b, hdesc, hnot, hte0, a]
      first
        | (simp only [hbb, hb, hkind, hro, hglob, hgr, h]; done)
        | (split
           · rename_i h0; exact absurd h0 (by simpa using hn)
           · simp only [hbb, hb, hkind, hro, hglob, hgr, h])
  · simp at h

theorem core_local {ρ : Operand → Option AV} {o : Oper} {id : Nat} {h : Hint} {m m2 : Mem} {out : Out} (hc : core P Γ o id h ρ m = some out) (hm : ∀ i ∈ out.rd, m2[i]? = m[i]?) (_hl : m2.length = m.length) :
    core P Γ o id h ρ m2 = some out := by
  obtain ⟨dst, op, type, pos, after, guard⟩ := o
  cases op <;> simp only [core, cVal, cPick, cBox, cBuild, cBuildSlice, cLoad, cStore, cFieldAddr, cField, cIndexAddr, cIndex, cBin, cUn, cConv, cLookup, cMapPush, cArrayAt, cSlice, cNil, cExtract, cMakeFunc, cCallVal, cLen, cAppend, cMin, cMax, cCall] at hc ⊢ <;> try exact hc
  case alloc t =>
    unfold coreAlloc at hc ⊢
    split at hc
    · split at hc
      · split at hc
        · rename_i hz
          rw [if_pos hz]
          exact newBlk_local hc hm
        · simp at hc
      · simp at hc
    · simp at hc
  case box t x =>
    split at hc
    · unfold coreBox at hc ⊢
      split at hc
      · exact newBlk_local hc hm
      · simp at hc
    · simp at hc
  case buildSlice t n ps =>
    split at hc
    · unfold coreBuildSlice at hc ⊢
      split at hc
      · split at hc
        · split at hc
          · split at hc
            · rename_i h0
              rw [if_pos h0]
              exact newBlk_local hc hm
            rename_i h0
            rw [if_neg h0]
            split at hc
            · split at hc
              · simp at hc
              · rename_i hcond
                rw [if_neg hcond]
                split at hc
                · exact newBlk_local hc hm
                · simp at hc
            · simp at hc
          · simp at hc
        · simp at hc
      · simp at hc
    · simp at hc
  case load t a =>
    cases hra : ρ a with
    | none => rw [hra] at hc; simp at hc
    | some av =>
      simp only [hra] at hc ⊢
      unfold coreLoad at hc ⊢
      split at hc
      · rename_i b off g ti hpl hti
        split at hc
        · rename_i blk hb
          split at hc
          · rename_i v ok htv
            simp only [Option.some.injEq] at hc
            subst hc
            have := hm b (by simp)
            simp only [this, hb, htv]
          · simp at hc
        · simp at hc
      · simp at hc
  case store t a x =>
    cases hra : ρ a with
    | none => rw [hra] at hc; simp at hc
    | some av =>
      cases hrx : ρ x with
      | none => rw [hra, hrx] at hc; simp at hc
      | some xv =>
        simp only [hra, hrx] at hc ⊢
        unfold coreStore at hc ⊢
        split at hc
        · rename_i b off v ti hti
          split at hc
          · rename_i blk hb
            split at hc
            · simp at hc
            · rename_i hro
              simp only [Option.some.injEq] at hc
              subst hc
              have := hm b (by simp)
              simp only [this, hb, hro]
          · simp at hc
        · simp at hc
  case call c =>
    split at hc
    · split at hc
      · unfold coreCall at hc ⊢
        split at hc
        · rename_i k caps c hcal hcall
          split at hc
          · rename_i bs hbs
            split at hc
            · rename_i hcond
              simp only [Option.some.injEq] at hc
              subst hc
              simp only at hm
              have e1 : lookB m2 c.foot = lookB m c.foot := lookB_congr fun i hi => hm i (by simp [hi])
              have e2 : freeIds m2 id (c.mem.length - c.foot.length) = freeIds m id (c.mem.length - c.foot.length) := freeIds_congr fun i hi => hm i (by simp [hi])
              simp only [e1, hbs, e2, hcond, if_true]
            · simp at hc
          · simp at hc
        · simp at hc
      · simp at hc
    · exact hc
    · split at hc
      · split at hc
        · exact append_local hc hm
        · simp at hc
      · simp at hc
    · exact hc
    · exact hc
    · simp at hc
  case makeMap t r =>
    unfold coreMakeMap at hc ⊢
    split at hc
    · exact newBlk_local hc hm
    · simp at hc
  case lookup t x i ok =>
    cases hrx : ρ x with
    | none => rw [hrx] at hc; simp at hc
    | some xv =>
      cases hri : ρ i with
      | none => rw [hrx, hri] at hc; simp at hc
      | some iv =>
        simp only [hrx, hri] at hc ⊢
        unfold coreLookup at hc ⊢
        split at hc
        case h_2 => simp at hc
        rename_i ti b k i hti
        split at hc
        case h_2 => simp at hc
        rename_i kt et blk hdesc hb
        split at hc
        case h_2 => simp at hc
        rename_i es clock tk te hkind htk hte
        have hrd : out.rd = [b] := by
          split at hc <;> first | (simp only [Option.some.injEq] at hc; subst hc; rfl) | (simp at hc; done)
        have hbb := hm b (by rw [hrd]; simp)
        simp only [hdesc, hbb, hb, hkind, htk, hte]
        exact hc
  case mapUpdate t x i v =>
    cases hrx : ρ x with
    | none => rw [hrx] at hc; simp at hc
    | some xv =>
      cases hri : ρ i with
      | none => rw [hrx, hri] at hc; simp at hc
      | some iv =>
        cases hrv : ρ v with
        | none => rw [hrx, hri, hrv] at hc; simp at hc
        | some vv =>
          simp only [hrx, hri, hrv] at hc ⊢
          unfold coreMapPush at hc ⊢
          split at hc
          case h_2 => simp at hc
          rename_i ti b k i v hti
          split at hc
          case h_2 => simp at hc
          rename_i kt et blk hdesc hb
          split at hc
          case h_2 => simp at hc
          rename_i es clock tk hkind htk hro
          split at hc
          case h_2 => simp at hc
          rename_i hint hfind
          simp only [Option.some.injEq] at hc
          subst hc
          have hbb := hm b (by simp)
          simp only [hdesc, hbb, hb, hkind, htk, hro, hint, hfind]
  case convert s d x =>
    cases hrx : ρ x with
    | none => rw [hrx] at hc; simp at hc
    | some xv =>
      simp only [hrx] at hc ⊢
      cases hcv : coreConv Γ s d xv with
      | some o => simp only [hcv] at hc ⊢; exact hc
      | none =>
        simp only [hcv] at hc ⊢
        cases xv with
        | one xx =>
          cases xx with
          | c cell =>
            cases cell with
            | sc sv =>
              have hno : ∀ m, coreConvSame Γ s d (.one (.c (.sc sv))) m = none := fun m => by simp [coreConvSame]
              cases hsb : coreStrBytes Γ s d (.one (.c (.sc sv))) id m with
              | none => simp only [hsb, hno] at hc; simp at hc
              | some o =>
                simp only [hsb, Option.some.injEq] at hc
                subst hc
                have key : coreStrBytes Γ s d (.one (.c (.sc sv))) id m2 = some o := by
                  unfold coreStrBytes at hsb ⊢
                  split at hsb
                  case h_2 => simp at hsb
                  rename_i str ts td hx hts htd hfree
                  simp only [AV.one.injEq, V0.c.injEq, Cell.sc.injEq] at hx
                  subst hx
                  split at hsb
                  case h_2 => simp at hsb
                  rename_i e h1 h2
                  split at hsb
                  case h_2 => simp at hsb
                  rename_i te hte
                  split at hsb
                  case h_2 => simp at hsb
                  rename_i h3
                  simp only [Option.some.injEq] at hsb
                  subst hsb
                  have hf := free2_congr (hm id (by simp)) (hm (id + 1) (by simp))
                  rw [hfree] at hf
                  simp only [hts, htd, hf, h1, h2, hte, h3]
                simp only [key]
            | slc b off len cap =>
              have hno : ∀ m, coreStrBytes Γ s d (.one (.c (.slc b off len cap))) id m = none := fun m => by simp [coreStrBytes]
              simp only [hno] at hc ⊢
              unfold coreConvSame at hc ⊢
              split at hc
              case h_2 => simp at hc
              rename_i td hx htd
              simp only [AV.one.injEq, V0.c.injEq, Cell.slc.injEq] at hx
              split at hc
              case h_2 => simp at hc
              rename_i e h1
              split at hc
              case h_2 => simp at hc
              rename_i te hte
              split at hc
              case h_2 => simp at hc
              rename_i blk h2 hb
              split at hc
              · simp at hc
              rename_i hro
              simp only [Option.some.injEq] at hc
              subst hc
              have hbb := hm _ (List.mem_cons_self ..)
              simp only [h2, hbb, hb, hro]
            | _ => simp [coreStrBytes, coreConvSame] at hc
          | agg _ => simp [coreStrBytes, coreConvSame] at hc
        | tup _ => simp [coreStrBytes, coreConvSame] at hc
        | clo _ _ => simp [coreStrBytes, coreConvSame] at hc

end
end Go.Rx
