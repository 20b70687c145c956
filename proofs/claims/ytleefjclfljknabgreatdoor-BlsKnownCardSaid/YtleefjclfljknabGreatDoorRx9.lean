/-
Reflective execution, part 9: a region, whatever order of its operations is drawn.
-/
import Derived.Test.YtleefjclfljknabGreatDoorRx8
namespace Go.Rx

def upIds (u : List (Nat × Blk)) : List Nat := u.map (·.1)

theorem app_length : ∀ {u : List (Nat × Blk)} {m : Mem}, (m.app u).length = m.length
  | [], _ => rfl
  | (i, b) :: u, m => by
    show (Mem.app (m.set i (some b)) u).length = m.length
    rw [app_length (u := u)]
    simp

/-- What a row of writes says of one number. -/
def lastUp : List (Nat × Blk) → Nat → Option Blk
  | [], _ => none
  | (i, b) :: u, x => match lastUp u x with | some c => some c | none => if i = x then some b else none

theorem app_get : ∀ {u : List (Nat × Blk)} {m : Mem} {x : Nat}, (m.app u)[x]? = match lastUp u x with | some b => (if x < m.length then some (some b) else none) | none => m[x]?
  | [], m, x => rfl
  | (i, b) :: u, m, x => by
    show (Mem.app (m.set i (some b)) u)[x]? = _
    rw [app_get (u := u)]
    simp only [lastUp]
    cases hl : lastUp u x with
    | some c => simp
    | none =>
      simp only []
      rw [List.getElem?_set]
      by_cases e : i = x
      · subst e
        simp
      · simp [e]

theorem lastUp_none {u : List (Nat × Blk)} {x : Nat} (h : x ∉ upIds u) : lastUp u x = none := by
  induction u with
  | nil => rfl
  | cons p u ih =>
    obtain ⟨i, b⟩ := p
    simp only [upIds, List.map_cons, List.mem_cons, not_or] at h
    simp only [lastUp, ih h.2, if_neg (Ne.symm h.1)]

theorem app_get_out {u : List (Nat × Blk)} {m : Mem} {x : Nat} (h : x ∉ upIds u) : (m.app u)[x]? = m[x]? := by
  rw [app_get, lastUp_none h]

theorem app_comm {u v : List (Nat × Blk)} {m : Mem} (h : ∀ x ∈ upIds u, x ∉ upIds v) : (m.app u).app v = (m.app v).app u := by
  apply List.ext_getElem?
  intro x
  simp only [app_get, app_length]
  by_cases hx : x ∈ upIds u
  · rw [lastUp_none (h x hx)]
  · rw [lastUp_none hx]

section
variable {P : Program} {Γ : Tab} {ops : Array Oper} {w0 : World} {np : Nat} {idf : Nat → Nat} {hf : Nat → Hint}

theorem rho_congr {T1 T2 : Tmps} {x : Operand} (h : ∀ t, x = .tmp t → T2.t.get t = T1.t.get t) : rho T2 x = rho T1 x := by
  cases x with
  | tmp t => simp only [rho, h t rfl]
  | _ => rfl

theorem stepI_local {o : Oper} {id : Nat} {h : Hint} {s s2 : St} {out : Out} (hs : stepI P Γ ops o id h s = some out)
    (hT : ∀ t ∈ o.looksAt ops, s2.T.t.get t = s.T.t.get t) (hm : ∀ i ∈ out.rd, s2.m[i]? = s.m[i]?) (hl : s2.m.length = s.m.length) : stepI P Γ ops o id h s2 = some out := by
  have hg : ∀ run, guardOk ops s2.T o run = guardOk ops s.T o run := by
    intro run
    unfold guardOk
    cases hgd : o.guard with
    | none => rfl
    | some p =>
      obtain ⟨j, want⟩ := p
      simp only []
      cases hd : (ops.toList[j]?).bind (·.dst) with
      | none => rfl
      | some d =>
        simp only []
        rw [hT d]
        unfold Oper.looksAt
        simp only [hgd, List.mem_append]
        refine .inr ?_
        have : (ops[j]?).bind (·.dst) = some d := by simpa using hd
        simp [this]
  have hρ : ∀ x ∈ o.op.operands, rho s2.T x = rho s.T x := fun x hx => rho_congr fun t ht => hT t (by
    unfold Oper.looksAt
    refine List.mem_append.2 (.inl ?_)
    subst ht
    exact List.mem_filterMap.2 ⟨.tmp t, by simpa using hx, rfl⟩)
  unfold stepI at hs ⊢
  split at hs
  · split at hs
    · rename_i out0 hc
      have hm0 : ∀ i ∈ out0.rd, s2.m[i]? = s.m[i]? := by
        split at hs <;> (simp only [Option.some.injEq] at hs; subst hs; exact hm)
      rw [core_congr hρ, core_local hc hm0 hl]
      simp only [hg]
      exact hs
    · simp at hs
  · rw [hg]; exact hs

/-- One operation, by its number, with all that it asks granted. -/
structure Step (P : Program) (Γ : Tab) (ops : Array Oper) (idf : Nat → Nat) (hf : Nat → Hint) (i : Nat) (o : Oper) (out : Out) (s : St) : Prop where
  op : ops[i]? = some o
  step : stepI P Γ ops o (idf i) (hf i) s = some out
  ok : out.ok = true
  pre : ∀ p ∈ out.pre, p

inductive Run (P : Program) (Γ : Tab) (ops : Array Oper) (idf : Nat → Nat) (hf : Nat → Hint) : List (Nat × Oper × Out) → St → St → Prop
  | nil (s : St) : Run P Γ ops idf hf [] s s
  | cons {i : Nat} {o : Oper} {out : Out} {U : List (Nat × Oper × Out)} {s s' : St} : Step P Γ ops idf hf i o out s → Run P Γ ops idf hf U (s.upd o out) s' → Run P Γ ops idf hf ((i, o, out) :: U) s s'

/-- Two operations that do not look at what the other leaves. -/
structure Free (ops : Array Oper) (oi : Oper) (ui : Out) (oj : Oper) (uj : Out) : Prop where
  tmps : oi.apart ops oj = true
  ww : ∀ x ∈ upIds ui.up, x ∉ upIds uj.up
  wr : ∀ x ∈ upIds ui.up, x ∉ uj.rd
  rw : ∀ x ∈ upIds uj.up, x ∉ ui.rd

theorem putT_get {dst : Option Tmp} {av : AV} {T : Tmps} {t : Tmp} (h : ∀ d, dst = some d → d ≠ t) : (putT dst av T).t.get t = T.t.get t := by
  cases dst with
  | none => rfl
  | some d =>
    simp only [putT]
    cases Nat.blt d T.nt with
    | true => exact TT.get_put_ne _ _ _ _ (h d rfl)
    | false => rfl

theorem putT_comm {d e : Option Tmp} {a b : AV} {T : Tmps} (h : ∀ x, d = some x → e ≠ some x) : putT e b (putT d a T) = putT d a (putT e b T) := by
  cases d with
  | none => rfl
  | some d =>
    cases e with
    | none => rfl
    | some e =>
      have hne : d ≠ e := fun h' => h d rfl (h' ▸ rfl)
      simp only [putT]
      cases h1 : Nat.blt d T.nt <;> cases h2 : Nat.blt e T.nt <;> simp only [h1, h2, cond_true, cond_false]
      rw [TT.put_comm _ _ _ _ _ hne]

theorem swap {i j : Nat} {oi oj : Oper} {ui uj : Out} {s : St} (hi : Step P Γ ops idf hf i oi ui s) (hj : Step P Γ ops idf hf j oj uj (s.upd oi ui)) (hfree : Free ops oi ui oj uj) :
    Step P Γ ops idf hf j oj uj s ∧ Step P Γ ops idf hf i oi ui (s.upd oj uj) ∧ (s.upd oi ui).upd oj uj = (s.upd oj uj).upd oi ui := by
  obtain ⟨a1, a2, a3⟩ := Oper.apart_spec hfree.tmps
  refine ⟨⟨hj.op, ?_, hj.ok, hj.pre⟩, ⟨hi.op, ?_, hi.ok, hi.pre⟩, ?_⟩
  · refine stepI_local hj.step (fun t ht => ?_) (fun x hx => ?_) ?_
    · simp only [St.upd]
      exact (putT_get fun d hd e => a1 d hd (e ▸ ht)).symm
    · simp only [St.upd]
      rw [app_get_out fun hx' => hfree.wr x hx' hx]
    · simp [St.upd, app_length]
  · refine stepI_local hi.step (fun t ht => ?_) (fun x hx => ?_) ?_
    · simp only [St.upd]
      exact putT_get fun d hd e => a3 d hd (e ▸ ht)
    · simp only [St.upd]
      exact app_get_out fun hx' => hfree.rw x hx' hx
    · simp [St.upd, app_length]
  · simp only [St.upd]
    rw [putT_comm a2, app_comm hfree.ww]

theorem front {j : Nat} {oj : Oper} {uj : Out} {U2 : List (Nat × Oper × Out)} : ∀ {U1 : List (Nat × Oper × Out)} {s s' : St}, Run P Γ ops idf hf (U1 ++ (j, oj, uj) :: U2) s s' →
    (∀ p ∈ U1, Free ops p.2.1 p.2.2 oj uj) → Step P Γ ops idf hf j oj uj s ∧ Run P Γ ops idf hf (U1 ++ U2) (s.upd oj uj) s'
  | [], s, s', h, _ => by
    cases h with
    | cons h1 h2 => exact ⟨h1, h2⟩
  | (i, oi, ui) :: U1, s, s', h, hf' => by
    cases h with
    | cons h1 h2 =>
      obtain ⟨h3, h4⟩ := front h2 fun p hp => hf' p (List.mem_cons_of_mem _ hp)
      obtain ⟨h5, h6, h7⟩ := swap h1 h3 (hf' (i, oi, ui) (List.mem_cons_self ..))
      exact ⟨h5, .cons h6 (h7 ▸ h4)⟩

/-- Operation j waits for i. -/
def waits (oj : Oper) (i : Nat) : Bool := oj.after.toList.any fun e => Region.binds .any e && e.on == i

/-- What is asked of a row of operations whose order is drawn. -/
inductive Reach (ops : Array Oper) : Nat → Nat → Prop
  | one {j i : Nat} {o : Oper} : ops[j]? = some o → waits o i = true → Reach ops j i
  | step {j k i : Nat} {o : Oper} : ops[j]? = some o → waits o k = true → Reach ops k i → Reach ops j i

def Ordered (ops : Array Oper) (U : List (Nat × Oper × Out)) : Prop :=
  U.Pairwise fun p q => p.1 < q.1 ∧ (waits q.2.1 p.1 = true ∨ Reach ops q.1 p.1 ∨ Free ops p.2.1 p.2.2 q.2.1 q.2.2)

/-- What is listed is closed: what a listed one waits for is listed. -/
def Closed (ops : Array Oper) (listed : Array Bool) : Prop := ∀ (j i : Nat) (o : Oper), ops[j]? = some o → listed[j]? = some true → waits o i = true → listed[i]? = some true

theorem Closed.reach {ops : Array Oper} {listed : Array Bool} (hc : Closed ops listed) {j i : Nat} (h : Reach ops j i) (hj : listed[j]? = some true) : listed[i]? = some true := by
  induction h with
  | one h1 h2 => exact hc _ _ _ h1 hj h2
  | step h1 h2 _ ih => exact ih (hc _ _ _ h1 hj h2)

theorem run_ops {U : List (Nat × Oper × Out)} {s s' : St} (h : Run P Γ ops idf hf U s s') : ∀ p ∈ U, ops[p.1]? = some p.2.1 := by
  induction h with
  | nil s => simp
  | cons h1 _ ih =>
    intro p hp
    rcases List.mem_cons.1 hp with rfl | hp
    · exact h1.op
    · exact ih p hp

theorem any_order {ν0 : NV} (hΓ : Γ.Ok P) (hdown : ∀ (i : Nat) (o : Oper), ops[i]? = some o → ∀ e ∈ o.after, Region.binds .any e = true → e.on < i) {sf : St} {Q : Exit → Act → World → Prop}
    (hQ : ∀ ν a w, NV.le ν0 ν → ARel ν sf.T a → Rep w0 np ν sf.m w → Q .normal a w) :
    ∀ (n : Nat) (U : List (Nat × Oper × Out)) (listed : Array Bool) (s : St) (ν : NV) (a : Act) (w : World), U.length = n →
      Run P Γ ops idf hf U s sf → Ordered ops U → listed.size = ops.size → Closed ops listed → (∀ i, i < ops.size → ((∃ p ∈ U, p.1 = i) ↔ listed.getD i true = false)) →
      NV.le ν0 ν → ARel ν s.T a → Rep w0 np ν s.m w → wpAny P .any ops Q n listed a w := by
  intro n
  induction n with
  | zero =>
    intro U listed s ν a w hU hrun _ hsz _ hlist hle0 ha hr
    have hU0 : U = [] := List.length_eq_zero_iff.1 hU
    subst hU0
    cases hrun
    refine ⟨?_, hQ ν a w hle0 ha hr⟩
    cases hrd : Region.ready .any ops listed with
    | nil => rfl
    | cons j l =>
      have hj : j ∈ Region.ready .any ops listed := by rw [hrd]; exact List.mem_cons_self ..
      obtain ⟨h1, oj, h2, _⟩ := mem_ready.1 hj
      have hjlt : j < ops.size := by
        rcases Nat.lt_or_ge j ops.size with h' | h'
        · exact h'
        · simp [Array.getElem?_eq_none h'] at h2
      have := (hlist j hjlt).2 h1
      simp at this
  | succ n ih =>
    intro U listed s ν a w hU hrun hord hsz hcl hlist hle0 ha hr
    refine ⟨fun hnil => ?_, fun j hj => ?_⟩
    · -- the first one is ready
      exfalso
      cases hrun with
      | nil => simp at hU
      | cons h1 h2 =>
        rename_i i o out U
        have hilt : i < ops.size := by
          rcases Nat.lt_or_ge i ops.size with h' | h'
          · exact h'
          · have := h1.op; simp [Array.getElem?_eq_none h'] at this
        have hi : i ∈ Region.ready .any ops listed := by
          refine mem_ready.2 ⟨(hlist i hilt).1 ⟨_, List.mem_cons_self .., rfl⟩, o, h1.op, fun e he hb => ?_⟩
          have hlt := hdown i o h1.op e he hb
          have hne : ¬ ∃ p ∈ (i, o, out) :: U, p.1 = e.on := by
            rintro ⟨p, hp, hpe⟩
            rcases List.mem_cons.1 hp with rfl | hp
            · simp only at hpe; omega
            · have := ((List.pairwise_cons.1 hord).1 p hp).1
              simp only at this
              omega
          have h3 : ¬ listed.getD e.on true = false := fun h => hne ((hlist e.on (by omega)).2 h)
          have h4 : e.on < listed.size := by omega
          simp only [Array.getD_eq_getD_getElem?, h4, getElem?_pos, Option.getD_some] at h3 ⊢
          simpa using h3
        rw [hnil] at hi
        simp at hi
    · obtain ⟨hjun, oj, hoj, hall⟩ := mem_ready.1 hj
      have hjlt : j < ops.size := by
        rcases Nat.lt_or_ge j ops.size with h' | h'
        · exact h'
        · simp [Array.getElem?_eq_none h'] at hoj
      obtain ⟨⟨j', oj', uj⟩, hp, hpj⟩ := (hlist j hjlt).2 hjun
      simp only at hpj
      subst hpj
      have : oj' = oj := by have := run_ops hrun _ hp; simp only at this; rw [hoj] at this; simpa using this.symm
      subst this
      obtain ⟨U1, U2, rfl⟩ := List.append_of_mem hp
      have hpw := List.pairwise_append.1 hord
      have hfree : ∀ p ∈ U1, Free ops p.2.1 p.2.2 oj' uj := by
        intro p hp1
        have hpq := hpw.2.2 p hp1 (j', oj', uj) (List.mem_cons_self ..)
        have hready : ∀ i, waits oj' i = true → listed[i]? = some true := by
          intro i hwait
          simp only [waits, List.any_eq_true, Bool.and_eq_true, beq_iff_eq] at hwait
          obtain ⟨e, he, hb, hon⟩ := hwait
          have h1 := hall e (by simpa using he) hb
          rw [hon] at h1
          have hilt : i < listed.size := by have := hdown j' oj' hoj e (by simpa using he) hb; omega
          simp only [Array.getD_eq_getD_getElem?, hilt, getElem?_pos, Option.getD_some] at h1
          rw [getElem?_pos listed i hilt, h1]
        have hno : listed[p.1]? = some true → False := by
          intro h1
          have hplt : p.1 < ops.size := by have := hpq.1; simp only at this; omega
          have h2 := (hlist p.1 hplt).1 ⟨p, List.mem_append.2 (.inl hp1), rfl⟩
          simp only [Array.getD_eq_getD_getElem?, h1, Option.getD_some] at h2
          simp at h2
        rcases hpq.2 with hwait | hreach | hfr
        · exact (hno (hready _ hwait)).elim
        · exfalso
          cases hreach with
          | one h1 h2 =>
            simp only at h1
            rw [hoj] at h1
            simp only [Option.some.injEq] at h1
            subst h1
            exact hno (hready _ h2)
          | step h1 h2 h3 =>
            simp only at h1
            rw [hoj] at h1
            simp only [Option.some.injEq] at h1
            subst h1
            exact hno (hcl.reach h3 (hready _ h2))
        · exact hfr
      obtain ⟨hstep, hrun'⟩ := front hrun hfree
      have hord' : Ordered ops (U1 ++ U2) := by
        refine List.pairwise_append.2 ⟨hpw.1, (List.pairwise_cons.1 hpw.2.1).2, fun p hp1 q hq => hpw.2.2 p hp1 q (List.mem_cons_of_mem _ hq)⟩
      have hcl' : Closed ops (listed.setIfInBounds j' true) := by
        intro j i o ho hj hw
        have hmono : ∀ x : Nat, listed[x]? = some true → (listed.setIfInBounds j' true)[x]? = some true := by
          intro x hx
          by_cases e : j' = x
          · subst e
            have : j' < listed.size := by omega
            simp [this]
          · rw [Array.getElem?_setIfInBounds_ne e]; exact hx
        by_cases e : j' = j
        · subst e
          rw [hoj] at ho
          simp only [Option.some.injEq] at ho
          subst ho
          apply hmono
          simp only [waits, List.any_eq_true, Bool.and_eq_true, beq_iff_eq] at hw
          obtain ⟨e, he, hb, hon⟩ := hw
          have h1 := hall e (by simpa using he) hb
          rw [hon] at h1
          have hilt : i < listed.size := by have := hdown j' oj' hoj e (by simpa using he) hb; omega
          simp only [Array.getD_eq_getD_getElem?, hilt, getElem?_pos, Option.getD_some] at h1
          rw [getElem?_pos listed i hilt, h1]
        · rw [Array.getElem?_setIfInBounds_ne e] at hj
          exact hmono _ (hcl j i o ho hj hw)
      have hlist' : ∀ i, i < ops.size → ((∃ p ∈ U1 ++ U2, p.1 = i) ↔ (listed.setIfInBounds j' true).getD i true = false) := by
        intro i hi
        have hj'lt : j' < listed.size := by omega
        by_cases e : i = j'
        · subst e
          constructor
          · rintro ⟨p, hp', hpe⟩
            exfalso
            rcases List.mem_append.1 hp' with hp' | hp'
            · have := (hpw.2.2 p hp' (i, oj', uj) (List.mem_cons_self ..)).1
              simp only at this; omega
            · have := ((List.pairwise_cons.1 hpw.2.1).1 p hp').1
              simp only at this; omega
          · intro h
            simp [hj'lt] at h
        · have hset : (listed.setIfInBounds j' true).getD i true = listed.getD i true := by
            simp only [Array.getD_eq_getD_getElem?]
            rw [Array.getElem?_setIfInBounds_ne (Ne.symm e)]
          rw [hset, ← hlist i hi]
          constructor
          · rintro ⟨p, hp', hpe⟩
            exact ⟨p, by rcases List.mem_append.1 hp' with h | h <;> simp [h], hpe⟩
          · rintro ⟨p, hp', hpe⟩
            refine ⟨p, ?_, hpe⟩
            rcases List.mem_append.1 hp' with h | h
            · simp [h]
            · rcases List.mem_cons.1 h with h | h
              · exfalso; subst h; exact e hpe.symm
              · simp [h]
      unfold wpOp
      rw [hoj]
      simp only []
      refine step_sound hΓ hr ha hstep.step hstep.ok hstep.pre fun ν' a' w' hle ha' hr' => ?_
      exact ih (U1 ++ U2) _ _ ν' a' w' (by simp at hU ⊢; omega) hrun' hord' (by simpa using hsz) hcl' hlist' (NV.le_trans hle0 hle) ha' hr'

/-- In the order of the text. -/
theorem in_order {ν0 : NV} (hΓ : Γ.Ok P) {sf : St} {Q : Exit → Act → World → Prop} (hQ : ∀ ν a w, NV.le ν0 ν → ARel ν sf.T a → Rep w0 np ν sf.m w → Q .normal a w) :
    ∀ {U : List (Nat × Oper × Out)} {s : St} {ν : NV} {a : Act} {w : World}, Run P Γ ops idf hf U s sf → NV.le ν0 ν → ARel ν s.T a → Rep w0 np ν s.m w → wpOps P ops Q (U.map (·.1)) a w := by
  intro U
  induction U with
  | nil =>
    intro s ν a w hrun hle ha hr
    cases hrun
    exact hQ ν a w hle ha hr
  | cons p U ih =>
    intro s ν a w hrun hle0 ha hr
    cases hrun with
    | cons h1 h2 =>
      rename_i i o out
      simp only [List.map_cons]
      rw [wpOps_cons]
      unfold wpOp
      rw [h1.op]
      simp only []
      refine step_sound hΓ hr ha h1.step h1.ok h1.pre fun ν' a' w' hle ha' hr' => ih h2 (NV.le_trans hle0 hle) ha' hr'

end
end Go.Rx
