/-
Reflective execution, part 12: contracts stated so that the kernel reckons what they ask.
-/
import Derived.Test.YtleefjclfljknabGreatDoorRxEq
import Derived.Test.YtleefjclfljknabGreatDoorTab
import Derived.KernelRfl
namespace Go.Rx

noncomputable def std (P : Program) : Tab := tabOf P (eqB P)

theorem std_ok (P : Program) : (std P).Ok P := tabOf_ok fun _ _ h => eqB_ok h

def allP : List Prop → Prop
  | [] => True
  | p :: r => p ∧ allP r

theorem allP_spec : ∀ {l : List Prop}, allP l → ∀ p ∈ l, p
  | [], _, p, hp => by simp at hp
  | q :: r, h, p, hp => by
    rcases List.mem_cons.1 hp with rfl | hp
    · exact h.1
    · exact allP_spec h.2 p hp

/-- The plain case: no pointer in, none out. -/
def Good0 (o : Option FR) (r : AV) : Prop :=
  match o with
  | some f => f.ok = true ∧ allP f.pre ∧ f.r = r
  | none => False

theorem AV.ren_of_no {r : AV} (h : r.inB [] = true) (g : Nat → Nat) : r.ren g = r := by
  have hc : ∀ c : Cell, c.inB [] = true → c.ren g = c := by
    intro c h
    cases c <;> simp [Cell.inB] at h <;> rfl
  have hl : ∀ l : List Cell, l.all (Cell.inB []) = true → l.map (Cell.ren g) = l := by
    intro l h
    induction l with
    | nil => rfl
    | cons c l ih =>
      simp only [List.all_cons, Bool.and_eq_true] at h
      rw [List.map_cons, hc c h.1, ih h.2]
  have hv : ∀ v : V0, v.inB [] = true → v.ren g = v := by
    intro v h
    cases v with
    | c x => simp only [V0.ren]; rw [hc x h]
    | agg l => simp only [V0.ren]; rw [hl l h]
  have hvl : ∀ l : List V0, l.all (V0.inB []) = true → l.map (V0.ren g) = l := by
    intro l h
    induction l with
    | nil => rfl
    | cons c l ih =>
      simp only [List.all_cons, Bool.and_eq_true] at h
      rw [List.map_cons, hv c h.1, ih h.2]
  cases r with
  | one x => simp only [AV.ren]; rw [hv x h]
  | tup l => simp only [AV.ren]; rw [hvl l h]
  | clo k l => simp only [AV.ren]; rw [hvl l h]

/-- What is the same for a whole program. -/
structure Seat (P : Program) : Prop where
  mixed : P.follows .mixedOrders = true

theorem fn0 {P : Program} (S : Seat P) {k : FuncId} {fn : Func} (hf : P.funcs[k]? = some fn) (hcall : ∀ (vs : Array Value) (w : World), (callFunc k vs).run P w = .ok (.enter k vs) w)
    {args : List AV} (rh : List RH) (dirs : List Bool) (fuel : Nat) {r : AV} {G : Prop} (h : Good0 (execFn P (std P) fn args [] rh dirs fuel) r = G) (hG : G) (hno : r.inB [] = true) : Con P k args [] r [] := by
  subst h
  unfold Good0 at hG
  split at hG
  · rename_i f hfr
    exact Fn_of_exec0 S.mixed (std_ok P) hf hcall hfr hG.1 (allP_spec hG.2.1) hG.2.2 (AV.ren_of_no hno)
  · exact hG.elim

/-- What memory is handed back. -/
def outMem (f : FR) (np : Nat) (ex : List Nat) : List (Option Blk) := (List.range np ++ ex).map f.s.m.at

def GoodM (o : Option FR) (np : Nat) (ex : List Nat) (r : AV) (m' : List Blk) : Prop :=
  match o with
  | some f => f.ok = true ∧ allP f.pre ∧ f.r = r.ren (expId np f.s.m.length ex) ∧ outMem f np ex = m'.map (fun b => some (b.ren (expId np f.s.m.length ex)))
  | none => False

theorem fnM {P : Program} (S : Seat P) {k : FuncId} {fn : Func} (hf : P.funcs[k]? = some fn) (hcall : ∀ (vs : Array Value) (w : World), (callFunc k vs).run P w = .ok (.enter k vs) w)
    {args : List AV} {m m' : List Blk} (rh : List RH) (dirs : List Bool) (fuel : Nat) (ex : List Nat) {r : AV} {G : Prop} (h : GoodM (execFn P (std P) fn args m rh dirs fuel) m.length ex r m' = G) (hG : G)
    (hn : nodupB (List.range m.length ++ ex) = true) : Con P k args m r m' := by
  subst h
  unfold GoodM at hG
  split at hG
  · rename_i f hfr
    obtain ⟨h1, h2, h3, h4⟩ := hG
    have hlen : m'.length = m.length + ex.length := by
      have := congrArg List.length h4
      simpa [outMem] using this.symm
    refine Fn_of_exec S.mixed (std_ok P) hf hcall hfr h1 (allP_spec h2) hn hlen h3 fun i hi => ?_
    have hi' : i < (List.range m.length ++ ex).length := by simp; omega
    have e := congrArg (fun l : List (Option Blk) => l[i]?) h4
    simp only [outMem, List.getElem?_map] at e
    rw [List.getElem?_eq_getElem hi, List.getElem?_eq_getElem hi'] at e
    simp only [Option.map_some, Option.some.injEq] at e
    have hx : (List.range m.length ++ ex)[i] = expId m.length f.s.m.length ex i := by
      unfold expId
      by_cases h : i < m.length
      · rw [if_pos h, List.getElem_append_left (by simpa using h)]; simp
      · rw [if_neg h, List.getElem_append_right (by simp; omega)]
        have : i - m.length < ex.length := by simp at hi'; omega
        simp [this]
    rw [← hx, e, List.getElem?_eq_getElem hi]
    rfl
  · exact hG.elim

end Go.Rx
