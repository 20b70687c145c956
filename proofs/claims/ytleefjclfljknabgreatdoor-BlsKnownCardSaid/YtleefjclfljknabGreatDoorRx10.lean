/-
Reflective execution, part 10: a whole body, by its text; a function's contract out of it.
-/
import Derived.Test.YtleefjclfljknabGreatDoorRx9
namespace Go.Rx

abbrev RH := List (Nat × Hint)

def hintAt : RH → Nat → Hint
  | [], _ => {}
  | (i, h) :: r, k => if i = k then h else hintAt r k

/-- The first number that an operation may take. -/
def idAt (Γ : Tab) (hf : Nat → Hint) : List Oper → Nat → Nat → Nat → Nat
  | [], _, n, _ => n
  | _ :: _, _, n, 0 => n
  | o :: r, j, n, k + 1 => idAt Γ hf r (j + 1) (n + allocs Γ o (hf j)) k

noncomputable def runOps (P : Program) (Γ : Tab) (ops : Array Oper) (idf : Nat → Nat) (hf : Nat → Hint) : List Oper → Nat → St → Option (List (Nat × Oper × Out) × St)
  | [], _, s => some ([], s)
  | o :: r, k, s =>
    match stepI P Γ ops o (idf k) (hf k) s with
    | some out =>
      match runOps P Γ ops idf hf r (k + 1) (s.upd o out) with
      | some (U, s') => some ((k, o, out) :: U, s')
      | none => none
    | none => none

def okAll : List (Nat × Oper × Out) → Bool
  | [] => true
  | u :: r => u.2.2.ok && okAll r

def preAll : List (Nat × Oper × Out) → List Prop
  | [] => []
  | u :: r => u.2.2.pre ++ preAll r

def disj (a b : List Nat) : Bool := a.all fun x => !b.contains x

def freeB (ops : Array Oper) (oi : Oper) (ui : Out) (oj : Oper) (uj : Out) : Bool :=
  oi.apart ops oj && disj (upIds ui.up) (upIds uj.up) && disj (upIds ui.up) uj.rd && disj (upIds uj.up) ui.rd

def orderedB (ops : Array Oper) : List (Nat × Oper × Out) → Bool
  | [] => true
  | p :: r => (r.all fun q => decide (p.1 < q.1) && (waits q.2.1 p.1 || freeB ops p.2.1 p.2.2 q.2.1 q.2.2)) && orderedB ops r

def downB : List Oper → Nat → Bool
  | [], _ => true
  | o :: r, k => (o.after.toList.all fun e => !Region.binds .any e || decide (e.on < k)) && downB r (k + 1)

structure RR where
  s : St
  ok : Bool
  pre : List Prop

noncomputable def execRegion (P : Program) (Γ : Tab) (ops : Array Oper) (draw : Bool) (hs : RH) (s : St) : Option RR :=
  let hf := hintAt hs
  let idf := idAt Γ hf ops.toList 0 s.m.length
  match runOps P Γ ops idf hf ops.toList 0 { s with m := s.m ++ List.replicate (idAt Γ hf ops.toList 0 0 ops.toList.length) none } with
  | some (U, s') =>
    match draw with
    | true => if orderedB ops U && downB ops.toList 0 then some ⟨s', okAll U, preAll U⟩ else none
    | false => some ⟨s', okAll U, preAll U⟩
  | none => none

theorem closed_nil {ops : Array Oper} (n : Nat) : Closed ops (Array.replicate n false) := by
  intro j i o _ hj _
  exfalso
  simp only [Array.getElem?_replicate] at hj
  split at hj <;> simp at hj

theorem disj_spec {a b : List Nat} (h : disj a b = true) : ∀ x ∈ a, x ∉ b := by
  intro x hx hb
  have := List.all_eq_true.1 h x hx
  simp [hb] at this

theorem freeB_spec {ops : Array Oper} {oi oj : Oper} {ui uj : Out} (h : freeB ops oi ui oj uj = true) : Free ops oi ui oj uj := by
  simp only [freeB, Bool.and_eq_true] at h
  exact ⟨h.1.1.1, disj_spec h.1.1.2, disj_spec h.1.2, disj_spec h.2⟩

theorem orderedB_spec {ops : Array Oper} : ∀ {U : List (Nat × Oper × Out)}, orderedB ops U = true → Ordered ops U
  | [], _ => List.Pairwise.nil
  | p :: r, h => by
    simp only [orderedB, Bool.and_eq_true] at h
    refine List.pairwise_cons.2 ⟨fun q hq => ?_, orderedB_spec h.2⟩
    have := List.all_eq_true.1 h.1 q hq
    simp only [Bool.and_eq_true, decide_eq_true_eq, Bool.or_eq_true] at this
    exact ⟨this.1, this.2.imp id fun h => .inr (freeB_spec h)⟩

theorem downB_spec : ∀ {l : List Oper} {k : Nat}, downB l k = true → ∀ (i : Nat) (o : Oper), l[i]? = some o → ∀ e ∈ o.after, Region.binds .any e = true → e.on < k + i
  | [], k, _, i, o, h, _, _, _ => by simp at h
  | x :: l, k, h, i, o, ho, e, he, hb => by
    simp only [downB, Bool.and_eq_true] at h
    cases i with
    | zero =>
      simp at ho
      subst ho
      have := List.all_eq_true.1 h.1 e (by simpa using he)
      simp [hb] at this
      omega
    | succ i =>
      have := downB_spec h.2 i o (by simpa using ho) e he hb
      omega

section
variable {P : Program} {Γ : Tab} {w0 : World} {np : Nat}

theorem runOps_spec {ops : Array Oper} {idf : Nat → Nat} {hf : Nat → Hint} : ∀ {l : List Oper} {k : Nat} {s s' : St} {U : List (Nat × Oper × Out)}, runOps P Γ ops idf hf l k s = some (U, s') →
    (∀ i, l[i]? = ops[k + i]?) → okAll U = true → (∀ p ∈ preAll U, p) → Run P Γ ops idf hf U s s' ∧ U.map (·.1) = List.range' k l.length
  | [], k, s, s', U, h, _, _, _ => by
    simp only [runOps, Option.some.injEq, Prod.mk.injEq] at h
    obtain ⟨rfl, rfl⟩ := h
    exact ⟨.nil _, rfl⟩
  | o :: l, k, s, s', U, h, hl, hok, hpre => by
    unfold runOps at h
    split at h
    · rename_i out hout
      split at h
      · rename_i U' s'' hr
        simp only [Option.some.injEq, Prod.mk.injEq] at h
        obtain ⟨rfl, rfl⟩ := h
        simp only [okAll, Bool.and_eq_true] at hok
        obtain ⟨h1, h2⟩ := runOps_spec hr (fun i => by have := hl (i + 1); simpa [Nat.add_assoc, Nat.add_comm 1 i] using this) hok.2 (fun p hp => hpre p (by simp [preAll, hp]))
        refine ⟨.cons ⟨by have := hl 0; simpa using this.symm, hout, hok.1, fun p hp => hpre p (by simp [preAll, hp])⟩ h1, ?_⟩
        simp [h2, List.range'_succ]
      · simp at h
    · simp at h

theorem Rep.extend {ν : NV} {m : Mem} {w : World} (hr : Rep w0 np ν m w) (n : Nat) : Rep w0 np ν (m ++ List.replicate n none) w := by
  have hat : ∀ i, Mem.at (m ++ List.replicate n none) i = m.at i := by
    intro i
    unfold Mem.at
    rcases Nat.lt_or_ge i m.length with h | h
    · rw [List.getElem?_append_left h]
    · rw [List.getElem?_append_right h, List.getElem?_eq_none h]
      cases hx : (List.replicate n (none : Option Blk))[i - m.length]? with
      | none => rfl
      | some x =>
        have := List.mem_of_getElem? hx
        rw [List.mem_replicate] at this
        simp [this.2]
  exact ⟨hr.os, hr.tape, hr.output, hr.size, fun i b h => hr.blk i b (hat i ▸ h), fun i b n h hg hi hn => (hr.new i b n (hat i ▸ h) hg hi hn).imp id fun ⟨j, bj, h1, h2, h3⟩ => ⟨j, bj, h1, by rw [hat]; exact h2, h3⟩, fun i b h => hr.gro i b (hat i ▸ h), fun i h => hr.dom i (hat i ▸ h), fun i j bi bj n hi hj => hr.sep i j bi bj n (hat i ▸ hi) (hat j ▸ hj), fun n hn hk => hr.keep n hn fun i b hi => hk i b (by rw [hat]; exact hi)⟩

theorem region_sound {ν0 : NV} (hm : P.follows .mixedOrders = true) (hΓ : Γ.Ok P) {id : Nat} {ops : Array Oper} {draw : Bool} {hs : RH} {s : St} {r : RR} (h : execRegion P Γ ops draw hs s = some r) (hok : r.ok = true) (hpre : ∀ p ∈ r.pre, p)
    {ν : NV} {a : Act} {w : World} (hle : NV.le ν0 ν) (ha : ARel ν s.T a) (hr : Rep w0 np ν s.m w) {Q : Exit → Act → World → Prop} (hQ : ∀ ν a w, NV.le ν0 ν → ARel ν r.s.T a → Rep w0 np ν r.s.m w → Q .normal a w) :
    (Code.region id ops draw).wp P Q a w := by
  unfold execRegion at h
  simp only at h
  split at h
  · rename_i U s' hrun
    have main : okAll U = true → (∀ p ∈ preAll U, p) → (∀ ν a w, NV.le ν0 ν → ARel ν s'.T a → Rep w0 np ν s'.m w → Q .normal a w) → (draw = true → (orderedB ops U && downB ops.toList 0) = true) → (Code.region id ops draw).wp P Q a w := by
      intro hok hpre hQ hd
      obtain ⟨h1, h2⟩ := runOps_spec hrun (fun i => by simp) hok hpre
      have hr' := hr.extend (idAt Γ (hintAt hs) ops.toList 0 0 ops.toList.length)
      cases draw with
      | false =>
        refine wp_region ?_
        have := in_order (Q := Q) hΓ hQ h1 hle ha hr'
        rw [h2] at this
        rw [List.range_eq_range']
        simpa using this
      | true =>
        have hd' := hd rfl
        simp only [Bool.and_eq_true] at hd'
        refine wp_region_any hm ?_
        have hlen : U.length = ops.size := by
          have := congrArg List.length h2
          simpa using this
        refine any_order hΓ (fun i o ho e he hb => by have := downB_spec hd'.2 i o (by simpa using ho) e he hb; omega) hQ _ U _ _ ν a _ hlen h1 (orderedB_spec hd'.1) (by simp) (closed_nil _) (fun i hi => ?_) hle ha (hr'.drew _)
        have hmem : i ∈ U.map (·.1) := by rw [h2]; simp [List.mem_range']; omega
        obtain ⟨p, hp, hpi⟩ := List.mem_map.1 hmem
        constructor
        · intro _; simp [hi]
        · intro _; exact ⟨p, hp, hpi⟩
    split at h
    · split at h
      · rename_i hc
        simp only [Option.some.injEq] at h
        subst h
        exact main hok hpre hQ fun _ => hc
      · simp at h
    · simp only [Option.some.injEq] at h
      subst h
      exact main hok hpre hQ fun hh => by simp at hh
  · simp at h

end

inductive Ex where
  | normal
  | exit (id : Nat)
  | ret
  deriving DecidableEq

def Ex.to : Ex → Exit
  | .normal => .normal
  | .exit id => .exit id
  | .ret => .ret

structure Cfg where
  s : St
  rh : List RH
  dirs : List Bool

structure Res where
  e : Ex
  c : Cfg
  ok : Bool
  pre : List Prop

def hintful (o : Oper) : Bool :=
  (match o.op with
   | .pick _ _ _ => true
   | .call c => (match c.callee with | .value _ => true | _ => false)
   | _ => false) || o.guard.isSome

noncomputable def exec (P : Program) (Γ : Tab) : Nat → Code → Cfg → Option Res
  | 0, _, _ => none
  | _ + 1, .skip, c => some ⟨.normal, c, true, []⟩
  | _ + 1, .ret, c => some ⟨.ret, c, true, []⟩
  | _ + 1, .exit id, c => some ⟨.exit id, c, true, []⟩
  | _ + 1, .region _ ops draw, c =>
    match ops.toList.any hintful with
    | true =>
      match c.rh with
      | h :: rest =>
        match execRegion P Γ ops draw h c.s with
        | some r => some ⟨.normal, ⟨r.s, rest, c.dirs⟩, r.ok, r.pre⟩
        | none => none
      | [] => none
    | false =>
      match execRegion P Γ ops draw [] c.s with
      | some r => some ⟨.normal, ⟨r.s, c.rh, c.dirs⟩, r.ok, r.pre⟩
      | none => none
  | n + 1, .seq x y, c =>
    match exec P Γ n x c with
    | some r =>
      match r.e with
      | .normal =>
        match exec P Γ n y r.c with
        | some r' => some ⟨r'.e, r'.c, r.ok && r'.ok, r.pre ++ r'.pre⟩
        | none => none
      | _ => some r
    | none => none
  | n + 1, .cond b x y, c =>
    match rho c.s.T b, c.dirs with
    | some (.one (.c (.sc (.bool t)))), d :: rest =>
      match exec P Γ n (if d then x else y) ⟨c.s, c.rh, rest⟩ with
      | some r => some ⟨r.e, r.c, (t == d) && r.ok, r.pre⟩
      | none => none
    | _, _ => none
  | n + 1, .block id x, c =>
    match exec P Γ n x c with
    | some r =>
      match r.e with
      | .exit id' => if id' = id then some ⟨.normal, r.c, r.ok, r.pre⟩ else some r
      | _ => some r
    | none => none
  | n + 1, .loop x, c =>
    match exec P Γ n x c with
    | some r =>
      match r.e with
      | .normal =>
        match exec P Γ n (.loop x) r.c with
        | some r' => some ⟨r'.e, r'.c, r.ok && r'.ok, r.pre ++ r'.pre⟩
        | none => none
      | _ => some r
    | none => none
  | _ + 1, _, _ => none

section
variable {P : Program} {Γ : Tab} {w0 : World} {np : Nat}

/-- Where a body is said to come to. -/
def Goal (w0 : World) (np : Nat) (ν0 : NV) (r : Res) (Q : Exit → Act → World → Prop) : Prop :=
  ∀ ν a w, NV.le ν0 ν → ARel ν r.c.s.T a → Rep w0 np ν r.c.s.m w → Q r.e.to a w

theorem exec_sound (hm : P.follows .mixedOrders = true) (hΓ : Γ.Ok P) : ∀ n : Nat,
    (∀ (c : Code) (k : Cfg) (r : Res), exec P Γ n c k = some r → r.ok = true → (∀ p ∈ r.pre, p) →
      ∀ (ν0 ν : NV) (a : Act) (w : World) (Q : Exit → Act → World → Prop), NV.le ν0 ν → ARel ν k.s.T a → Rep w0 np ν k.s.m w → Goal w0 np ν0 r Q → c.wp P Q a w) ∧
    (∀ (c : Code) (k : Cfg) (r : Res), exec P Γ n (.loop c) k = some r → r.ok = true → (∀ p ∈ r.pre, p) →
      ∀ (ν0 ν : NV) (a : Act) (w : World) (Q : Exit → Act → World → Prop), NV.le ν0 ν → ARel ν k.s.T a → Rep w0 np ν k.s.m w → Goal w0 np ν0 r Q → Code.rounds P c Q n a w) := by
  intro n
  induction n with
  | zero => exact ⟨fun c k r h => by simp [exec] at h, fun c k r h => by simp [exec] at h⟩
  | succ n ih =>
    obtain ⟨ih1, ih2⟩ := ih
    have hloop : ∀ (c : Code) (k : Cfg) (r : Res), exec P Γ (n + 1) (.loop c) k = some r → r.ok = true → (∀ p ∈ r.pre, p) →
        ∀ (ν0 ν : NV) (a : Act) (w : World) (Q : Exit → Act → World → Prop), NV.le ν0 ν → ARel ν k.s.T a → Rep w0 np ν k.s.m w → Goal w0 np ν0 r Q → Code.rounds P c Q (n + 1) a w := by
      intro c k r h hok hpre ν0 ν a w Q hle ha hr hQ
      simp only [exec] at h
      rw [rounds_succ]
      split at h
      · rename_i r1 h1
        split at h
        · rename_i he
          split at h
          · rename_i r2 h2
            simp only [Option.some.injEq] at h
            subst h
            simp only [Bool.and_eq_true] at hok
            refine ih1 c k r1 h1 hok.1 (fun p hp => hpre p (by simp [hp])) ν0 ν a w _ hle ha hr fun ν' a' w' hle' ha' hr' => ?_
            rw [he]
            exact ih2 c r1.c r2 h2 hok.2 (fun p hp => hpre p (by simp [hp])) ν0 ν' a' w' Q hle' ha' hr' hQ
          · simp at h
        · rename_i he
          simp only [Option.some.injEq] at h
          subst h
          refine ih1 c k r1 h1 hok hpre ν0 ν a w _ hle ha hr fun ν' a' w' hle' ha' hr' => ?_
          have := hQ ν' a' w' hle' ha' hr'
          cases hre : r1.e with
          | normal => exact absurd hre he
          | exit id => rw [hre] at this; exact this
          | ret => rw [hre] at this; exact this
      · simp at h
    refine ⟨?_, hloop⟩
    intro c k r h hok hpre ν0 ν a w Q hle ha hr hQ
    cases c <;> simp only [exec] at h <;> try (simp at h; done)
    case skip =>
      simp only [Option.some.injEq] at h
      subst h
      exact wp_skip (hQ ν a w hle ha hr)
    case ret =>
      simp only [Option.some.injEq] at h
      subst h
      exact wp_ret (hQ ν a w hle ha hr)
    case exit id =>
      simp only [Option.some.injEq] at h
      subst h
      exact wp_exit (hQ ν a w hle ha hr)
    case region id ops draw =>
      split at h
      · split at h
        · split at h
          · rename_i r' hr'
            simp only [Option.some.injEq] at h
            subst h
            exact region_sound hm hΓ hr' hok hpre hle ha hr hQ
          · simp at h
        · simp at h
      · split at h
        · rename_i r' hr'
          simp only [Option.some.injEq] at h
          subst h
          exact region_sound hm hΓ hr' hok hpre hle ha hr hQ
        · simp at h
    case seq x y =>
      refine wp_seq ?_
      split at h
      · rename_i r1 h1
        split at h
        · rename_i he
          split at h
          · rename_i r2 h2
            simp only [Option.some.injEq] at h
            subst h
            simp only [Bool.and_eq_true] at hok
            refine ih1 x k r1 h1 hok.1 (fun p hp => hpre p (by simp [hp])) ν0 ν a w _ hle ha hr fun ν' a' w' hle' ha' hr' => ?_
            rw [he]
            exact ih1 y r1.c r2 h2 hok.2 (fun p hp => hpre p (by simp [hp])) ν0 ν' a' w' Q hle' ha' hr' hQ
          · simp at h
        · rename_i he
          simp only [Option.some.injEq] at h
          subst h
          refine ih1 x k r1 h1 hok hpre ν0 ν a w _ hle ha hr fun ν' a' w' hle' ha' hr' => ?_
          have := hQ ν' a' w' hle' ha' hr'
          cases hre : r1.e with
          | normal => exact absurd hre he
          | exit id => rw [hre] at this; exact this
          | ret => rw [hre] at this; exact this
      · simp at h
    case cond b x y =>
      split at h
      · rename_i t d rest hb hd
        split at h
        · rename_i r1 h1
          simp only [Option.some.injEq] at h
          subst h
          simp only [Bool.and_eq_true, beq_iff_eq] at hok
          have hbe := sc_den (ha.rho _ _ hb)
          refine wp_cond hbe ?_
          rw [hok.1]
          exact ih1 _ _ r1 h1 hok.2 hpre ν0 ν a w Q hle ha hr hQ
        · simp at h
      · simp at h
    case block id x =>
      refine wp_block ?_
      split at h
      · rename_i r1 h1
        split at h
        · rename_i id' he
          split at h
          · rename_i hid
            simp only [Option.some.injEq] at h
            subst h
            refine ih1 x k r1 h1 hok hpre ν0 ν a w _ hle ha hr fun ν' a' w' hle' ha' hr' => ?_
            rw [he]
            simp only [Ex.to, Exit.inBlock, hid, if_true]
            exact hQ ν' a' w' hle' ha' hr'
          · rename_i hid
            simp only [Option.some.injEq] at h
            subst h
            refine ih1 x k r1 h1 hok hpre ν0 ν a w _ hle ha hr fun ν' a' w' hle' ha' hr' => ?_
            have := hQ ν' a' w' hle' ha' hr'
            rw [he] at this ⊢
            simp only [Ex.to, Exit.inBlock, hid, if_false]
            exact this
        · rename_i he
          simp only [Option.some.injEq] at h
          subst h
          refine ih1 x k r1 h1 hok hpre ν0 ν a w _ hle ha hr fun ν' a' w' hle' ha' hr' => ?_
          have := hQ ν' a' w' hle' ha' hr'
          cases hre : r1.e with
          | normal => rw [hre] at this; exact this
          | exit id => exact absurd hre (he id)
          | ret => rw [hre] at this; exact this
      · simp at h
    case loop x => exact wp_loop_rounds (n + 1) (hloop x k r (by simpa only [exec] using h) hok hpre ν0 ν a w Q hle ha hr hQ)

end
end Go.Rx
