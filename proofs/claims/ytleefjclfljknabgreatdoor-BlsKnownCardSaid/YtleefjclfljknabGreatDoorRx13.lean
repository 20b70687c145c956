/-
Reflective execution, part 13: a run that finds its own way: guards, picks and branches by the values themselves, leaf functions by a table of what they come to, other calls by contracts told in the order in which they come.
-/
import Derived.Test.YtleefjclfljknabGreatDoorRx12
namespace Go.Rx

/-! ### Values reckoned at once: what is handed on is told by its last form -/

section
variable {α : Type}

noncomputable def fNat (n : Nat) (k : Nat → α) : α := @Nat.rec (fun _ => α) (k 0) (fun m _ => k (Nat.succ m)) n
noncomputable def fBool (b : Bool) (k : Bool → α) : α := @Bool.rec (fun _ => α) (k false) (k true) b
noncomputable def fInt (n : Int) (k : Int → α) : α := @Int.rec (fun _ => α) (fun a => fNat a fun a => k (.ofNat a)) (fun a => fNat a fun a => k (.negSucc a)) n
noncomputable def fKind (t : IntKind) (k : IntKind → α) : α := @IntKind.casesOn (fun _ => α) t (k .i8) (k .i16) (k .i32) (k .i64) (k .u8) (k .u16) (k .u32) (k .u64)
noncomputable def fVal (v : Value) (k : Value → α) : α :=
  match v with
  | .int t n => fKind t fun t => fInt n fun n => k (.int t n)
  | .bool b => fBool b fun b => k (.bool b)
  | v => k v
noncomputable def fCell (c : Cell) (k : Cell → α) : α :=
  match c with
  | .any => k .any
  | .sc v => fVal v fun v => k (.sc v)
  | .ptr b o => fNat b fun b => fNat o fun o => k (.ptr b o)
  | .slc b o l c => fNat b fun b => fNat o fun o => fNat l fun l => fNat c fun c => k (.slc b o l c)
  | .slu b s z o l => fNat b fun b => fNat s fun s => fNat z fun z => fNat o fun o => fNat l fun l => k (.slu b s z o l)
  | .sl0 => k .sl0
  | .mp b => fNat b fun b => k (.mp b)
noncomputable def fCells (l : List Cell) (k : List Cell → α) : α :=
  @List.rec Cell (fun _ => (List Cell → α) → α) (fun k => k []) (fun c _ ih k => fCell c fun c => ih fun l => k (c :: l)) l k
noncomputable def fV0 (v : V0) (k : V0 → α) : α :=
  match v with
  | .c x => fCell x fun x => k (.c x)
  | .agg l => fCells l fun l => k (.agg l)
noncomputable def fV0s (l : List V0) (k : List V0 → α) : α :=
  @List.rec V0 (fun _ => (List V0 → α) → α) (fun k => k []) (fun c _ ih k => fV0 c fun c => ih fun l => k (c :: l)) l k
noncomputable def fAV (a : AV) (k : AV → α) : α :=
  match a with
  | .one v => fV0 v fun v => k (.one v)
  | .tup l => fV0s l fun l => k (.tup l)
  | .clo f l => fNat f fun f => fV0s l fun l => k (.clo f l)
noncomputable def fSpine {β : Type} (l : List β) (k : List β → α) : α :=
  @List.rec β (fun _ => (List β → α) → α) (fun k => k []) (fun c _ ih k => ih fun l => k (c :: l)) l k
noncomputable def fBK (b : BK) (k : BK → α) : α :=
  match b with
  | .exact => k .exact
  | .opened s => fNat s fun s => k (.opened s)
  | .dead => k .dead
  | .ghost => k .ghost
  | .map es clock => fSpine es fun es => fNat clock fun clock => k (.map es clock)
noncomputable def fOpt (o : Option Nat) (k : Option Nat → α) : α :=
  match o with
  | none => k none
  | some n => fNat n fun n => k (some n)
noncomputable def fBlk (b : Blk) (k : Blk → α) : α :=
  match b with
  | ⟨cells, ty, ro, kind, glob⟩ => fSpine cells fun cells => fNat ty fun ty => fBool ro fun ro => fBK kind fun kind => fOpt glob fun glob => k ⟨cells, ty, ro, kind, glob⟩
/-- A memory with its new blocks laid in. -/
noncomputable def fApp (u : List (Nat × Blk)) (m : Mem) (k : Mem → α) : α :=
  @List.rec (Nat × Blk) (fun _ => Mem → (Mem → α) → α) (fun m k => k m) (fun p _ ih m k => fNat p.1 fun i => fBlk p.2 fun b => fSpine (m.set i (some b)) fun m => ih m k) u m k
/-- A tree with one place set. -/
noncomputable def fPut (x : AV) (t : TT) (n : Nat) (k : TT → α) : α :=
  @TT.rec (fun _ => Nat → (TT → α) → α) (fun _ k => k .e)
    (fun v l r pl pr n k => @Bool.rec (fun _ => α) (@Bool.rec (fun _ => α) (pr ((n - 1) / 2) fun r => k (.n v l r)) (pl ((n - 1) / 2) fun l => k (.n v l r)) (Nat.beq (n % 2) 1)) (k (.n (some x) l r)) (Nat.beq n 0)) t n k

theorem fNat_eq (n : Nat) (k : Nat → α) : fNat n k = k n := by cases n <;> rfl
theorem fBool_eq (b : Bool) (k : Bool → α) : fBool b k = k b := by cases b <;> rfl
theorem fInt_eq (n : Int) (k : Int → α) : fInt n k = k n := by
  cases n with
  | ofNat a => exact fNat_eq a fun a => k (.ofNat a)
  | negSucc a => exact fNat_eq a fun a => k (.negSucc a)
theorem fKind_eq (t : IntKind) (k : IntKind → α) : fKind t k = k t := by cases t <;> rfl
theorem fVal_eq (v : Value) (k : Value → α) : fVal v k = k v := by
  cases v <;> simp only [fVal, fKind_eq, fInt_eq, fBool_eq]
theorem fCell_eq (c : Cell) (k : Cell → α) : fCell c k = k c := by
  cases c <;> simp only [fCell, fVal_eq, fNat_eq]
theorem fCells_eq (l : List Cell) (k : List Cell → α) : fCells l k = k l := by
  induction l generalizing k with
  | nil => rfl
  | cons c l ih =>
    show fCell c (fun c => fCells l fun l => k (c :: l)) = _
    rw [fCell_eq, ih]
theorem fV0_eq (v : V0) (k : V0 → α) : fV0 v k = k v := by
  cases v <;> simp only [fV0, fCell_eq, fCells_eq]
theorem fV0s_eq (l : List V0) (k : List V0 → α) : fV0s l k = k l := by
  induction l generalizing k with
  | nil => rfl
  | cons c l ih =>
    show fV0 c (fun c => fV0s l fun l => k (c :: l)) = _
    rw [fV0_eq, ih]
theorem fAV_eq (a : AV) (k : AV → α) : fAV a k = k a := by
  cases a <;> simp only [fAV, fV0_eq, fV0s_eq, fNat_eq]
theorem fSpine_eq {β : Type} (l : List β) (k : List β → α) : fSpine l k = k l := by
  induction l generalizing k with
  | nil => rfl
  | cons c l ih => exact ih _
theorem fBK_eq (b : BK) (k : BK → α) : fBK b k = k b := by
  cases b <;> simp only [fBK, fNat_eq, fSpine_eq]
theorem fOpt_eq (o : Option Nat) (k : Option Nat → α) : fOpt o k = k o := by
  cases o <;> simp only [fOpt, fNat_eq]
theorem fBlk_eq (b : Blk) (k : Blk → α) : fBlk b k = k b := by
  obtain ⟨cells, ty, ro, kind, glob⟩ := b
  simp only [fBlk, fSpine_eq, fNat_eq, fBool_eq, fBK_eq, fOpt_eq]
theorem fApp_eq (u : List (Nat × Blk)) (m : Mem) (k : Mem → α) : fApp u m k = k (m.app u) := by
  induction u generalizing m k with
  | nil => rfl
  | cons p u ih =>
    obtain ⟨i, b⟩ := p
    show fNat i (fun i => fBlk b fun b => fSpine (m.set i (some b)) fun m => fApp u m k) = _
    rw [fNat_eq, fBlk_eq, fSpine_eq, ih]
    rfl
theorem fPut_eq (x : AV) (t : TT) (n : Nat) (k : TT → α) : fPut x t n k = k (t.put x n) := by
  induction t generalizing n k with
  | e => rfl
  | n v l r il ir =>
    rw [TT.put_n]
    show @Bool.rec (fun _ => α) (@Bool.rec (fun _ => α) (fPut x r ((n - 1) / 2) fun r => k (.n v l r)) (fPut x l ((n - 1) / 2) fun l => k (.n v l r)) (Nat.beq (n % 2) 1)) (k (.n (some x) l r)) (Nat.beq n 0) = _
    rw [brec, brec, il, ir, nbeq, nbeq]
    cases n == 0 <;> cases n % 2 == 1 <;> rfl

noncomputable def fUpd (s : St) (o : Oper) (out : Out) (k : St → α) : α :=
  match s, o.dst with
  | ⟨⟨nt, t⟩, m⟩, some d =>
    match Nat.blt d nt with
    | true => fPut out.av t d fun t => fApp out.up m fun m => k ⟨⟨nt, t⟩, m⟩
    | false => fApp out.up m fun m => k ⟨⟨nt, t⟩, m⟩
  | ⟨T, m⟩, none => fApp out.up m fun m => k ⟨T, m⟩

theorem fUpd_eq (s : St) (o : Oper) (out : Out) (k : St → α) : fUpd s o out k = k (s.upd o out) := by
  obtain ⟨⟨nt, t⟩, m⟩ := s
  unfold fUpd St.upd putT
  cases hd : o.dst with
  | none => simp only [fApp_eq]
  | some d =>
    simp only
    cases hb : Nat.blt d nt with
    | true => simp only [fPut_eq, fApp_eq, cond_true]
    | false => simp only [fApp_eq, cond_false]

/-- What a step comes to, reckoned: none if a check fails. -/
noncomputable def fOut (out : Out) (k : Out → Option α) : Option α :=
  match out with
  | ⟨av, rd, up, ok, pre⟩ =>
    match ok with
    | true => fAV av fun av => k ⟨av, rd, up, true, pre⟩
    | false => none

theorem fOut_eq {out : Out} {k : Out → Option α} {x : α} (h : fOut out k = some x) : out.ok = true ∧ k out = some x := by
  obtain ⟨av, rd, up, ok, pre⟩ := out
  unfold fOut at h
  cases ok with
  | true => simp only [fAV_eq] at h; exact ⟨rfl, h⟩
  | false => simp at h

end

/-- What functions come to, by their arguments and the memory. -/
abbrev Auto := FuncId → List AV → Mem → Option CallH

def AutoOk (P : Program) (A : Auto) : Prop := ∀ k args m c bs, A k args m = some c → lookB m c.foot = some bs → args.all (AV.inB c.foot) = true →
  Con P k (args.map (AV.ren (posIn c.foot))) (bs.map (Blk.ren (posIn c.foot))) c.res (fillK c.keep (bs.map (Blk.ren (posIn c.foot))) c.mem)

noncomputable def runA (ops : Array Oper) (T : Tmps) (o : Oper) : Bool :=
  match o.guard with
  | none => true
  | some (j, want) =>
    match (ops.toList[j]?).bind (·.dst) with
    | some d =>
      match T.t.get d with
      | some (.one (.c (.sc (.bool b)))) => b == want
      | _ => true
    | none => true

noncomputable def dirA (T : Tmps) (o : Oper) : Bool :=
  match o.op with
  | .pick c _ _ =>
    match rho T c with
    | some (.one (.c (.sc (.bool t)))) => t
    | _ => true
  | _ => true

def isVal (o : Oper) : Bool :=
  match o.op with
  | .call c => (match c.callee with | .value _ => true | _ => false)
  | _ => false

noncomputable def autoA (A : Auto) (T : Tmps) (m : Mem) (o : Oper) : Option CallH :=
  match o.op with
  | .call c =>
    match c.callee with
    | .value f =>
      match rho T f, rhoAll (rho T) c.args.toList with
      | some f, some args =>
        match callee f with
        | some (k, caps) => A k (args ++ caps.map .one) m
        | none => none
      | _, _ => none
    | _ => none
  | _ => none

/-- What a step brings: its hint, what it comes to, what it asks, the calls still to come. -/
structure SA where
  h : Hint
  out : Out
  pre : List Prop
  cs : List CallH

noncomputable def stepA (P : Program) (Γ : Tab) (A : Auto) (ops : Array Oper) (o : Oper) (id : Nat) (s : St) (cs : List CallH) : Option SA :=
  match runA ops s.T o with
  | false => some ⟨{ run := false }, { av := undefAV, ok := guardOk ops s.T o false }, [], cs⟩
  | true =>
    match isVal o with
    | true =>
      match autoA A s.T s.m o with
      | some c =>
        match stepI P Γ ops o id { call := some c } s with
        | some out => fOut out fun out => some ⟨{ call := some c }, out, [], cs⟩
        | none => none
      | none =>
        match cs with
        | c :: rest =>
          match stepI P Γ ops o id { call := some c } s with
          | some out => fOut out fun out => some ⟨{ call := some c }, out, out.pre, rest⟩
          | none => none
        | [] => none
    | false =>
      match dirA s.T o with
      | true =>
        match stepI P Γ ops o id {} s with
        | some out => fOut out fun out => some ⟨{}, out, out.pre, cs⟩
        | none => none
      | false =>
        match stepI P Γ ops o id { dir := false } s with
        | some out => fOut out fun out => some ⟨{ dir := false }, out, out.pre, cs⟩
        | none => none

structure RA where
  U : List (Nat × Oper × Out)
  ih : List (Nat × Hint)
  pre : List Prop
  s : St
  cs : List CallH

noncomputable def runOpsA (P : Program) (Γ : Tab) (A : Auto) (ops : Array Oper) : List Oper → Nat → Nat → St → List CallH → Option RA
  | [], _, _, s, cs => some ⟨[], [], [], s, cs⟩
  | o :: r, k, id, s, cs =>
    match stepA P Γ A ops o id s cs with
    | some a =>
      fUpd s o a.out fun s' => fNat (id + allocs Γ o a.h) fun id' =>
      match runOpsA P Γ A ops r (k + 1) id' s' a.cs with
      | some x => some ⟨(k, o, a.out) :: x.U, (id, a.h) :: x.ih, a.pre ++ x.pre, x.s, x.cs⟩
      | none => none
    | none => none

/-- Room for new blocks: for the operations themselves, and for the calls that may come. -/
def roomOps (Γ : Tab) : List Oper → Nat
  | [] => 0
  | o :: r => allocs Γ o {} + roomOps Γ r
def roomCalls : List Oper → List CallH → Nat
  | [], _ => 0
  | _, [] => 0
  | o :: r, c :: cs =>
    match isVal o with
    | true => (c.mem.length - c.foot.length) + roomCalls r cs
    | false => roomCalls r (c :: cs)

structure RRA where
  s : St
  ok : Bool
  pre : List Prop
  cs : List CallH

/-- The order of a region's operations, by its text alone. -/
def sRest (ops : Array Oper) (o : Oper) (k : Nat) (r : List Oper) : Bool := r.all fun q => waits q k || o.apart ops q
def sPairs (ops : Array Oper) : List Oper → Nat → Bool
  | [], _ => true
  | o :: r, k => sRest ops o k r && sPairs ops r (k + 1)
def sOrd (ops : Array Oper) : Bool := downB ops.toList 0 && sPairs ops ops.toList 0

/-- All regions of a text. -/
def codeOrd : Code → Bool
  | .region _ ops draw => !draw || sOrd ops
  | .seq x y => codeOrd x && codeOrd y
  | .cond _ x y => codeOrd x && codeOrd y
  | .block _ x => codeOrd x
  | .loop x => codeOrd x
  | _ => true
def fnOrd (fn : Func) : Bool := match fn.body with | some c => codeOrd c | none => false

/-- What operations do to memory. -/
def hasMem (p : Nat × Oper × Out) : Bool := match p.2.2.up, p.2.2.rd with | [], [] => false | _, _ => true
/-- Does j wait, through others, for i? -/
def reachB (ops : Array Oper) : Nat → Nat → Nat → Bool
  | 0, _, _ => false
  | n + 1, j, i =>
    match ops.toList[j]? with
    | some o => o.after.toList.any fun e => Region.binds .any e && (Nat.beq e.on i || (Nat.blt i e.on && reachB ops n e.on i))
    | none => false
def dOne (ops : Array Oper) (p q : Nat × Oper × Out) : Bool :=
  match p.2.2.up, q.2.2.up with
  | [], [] => true
  | _, _ => waits q.2.1 p.1 || ((disj (upIds p.2.2.up) (upIds q.2.2.up) && (disj (upIds p.2.2.up) q.2.2.rd && disj (upIds q.2.2.up) p.2.2.rd)) || reachB ops 16 q.1 p.1)
def dPairs (ops : Array Oper) : List (Nat × Oper × Out) → Bool
  | [] => true
  | p :: r => r.all (dOne ops p) && dPairs ops r
def dOrd (ops : Array Oper) (U : List (Nat × Oper × Out)) : Bool := dPairs ops (U.filter hasMem)

theorem reachB_spec {ops : Array Oper} : ∀ {n j i : Nat}, reachB ops n j i = true → Reach ops j i
  | 0, _, _, h => by simp [reachB] at h
  | n + 1, j, i, h => by
    unfold reachB at h
    split at h
    · rename_i o ho
      have ho' : ops[j]? = some o := by simpa using ho
      simp only [List.any_eq_true, Bool.and_eq_true, Bool.or_eq_true, Nat.beq_eq] at h
      obtain ⟨e, he, hb, h1 | ⟨_, h2⟩⟩ := h
      · exact .one ho' (by simp only [waits, List.any_eq_true, Bool.and_eq_true, beq_iff_eq]; exact ⟨e, he, hb, h1⟩)
      · exact .step ho' (by simp only [waits, List.any_eq_true, Bool.and_eq_true, beq_iff_eq]; exact ⟨e, he, hb, rfl⟩) (reachB_spec h2)
    · simp at h

noncomputable def execRegionA (P : Program) (Γ : Tab) (A : Auto) (ops : Array Oper) (draw : Bool) (s : St) (cs : List CallH) : Option RRA :=
  match runOpsA P Γ A ops ops.toList 0 s.m.length { s with m := s.m ++ List.replicate (roomOps Γ ops.toList + roomCalls ops.toList cs) none } cs with
  | some x =>
    match draw with
    | true => match dOrd ops x.U with | true => some ⟨x.s, okAll x.U, x.pre, x.cs⟩ | false => none
    | false => some ⟨x.s, okAll x.U, x.pre, x.cs⟩
  | none => none

theorem dOne_of_none {p q : Nat × Oper × Out} (h : hasMem p = false ∨ hasMem q = false) : disj (upIds p.2.2.up) (upIds q.2.2.up) = true ∧ disj (upIds p.2.2.up) q.2.2.rd = true ∧ disj (upIds q.2.2.up) p.2.2.rd = true := by
  have hn : ∀ a : List Nat, disj a [] = true := fun a => by simp [disj]
  have hz : ∀ a : List Nat, disj [] a = true := fun a => by simp [disj]
  have key : ∀ x : Nat × Oper × Out, hasMem x = false → x.2.2.up = [] ∧ x.2.2.rd = [] := by
    intro x hx
    unfold hasMem at hx
    split at hx
    · rename_i h1 h2; exact ⟨h1, h2⟩
    · simp at hx
  rcases h with h | h
  · obtain ⟨h1, h2⟩ := key p h
    rw [h1, h2]
    exact ⟨hz _, hz _, hn _⟩
  · obtain ⟨h1, h2⟩ := key q h
    rw [h1, h2]
    exact ⟨hn _, hn _, hz _⟩

theorem dOne_spec {ops : Array Oper} {p q : Nat × Oper × Out} (h : dOne ops p q = true) : waits q.2.1 p.1 = true ∨ Reach ops q.1 p.1 ∨ (disj (upIds p.2.2.up) (upIds q.2.2.up) = true ∧ disj (upIds p.2.2.up) q.2.2.rd = true ∧ disj (upIds q.2.2.up) p.2.2.rd = true) := by
  unfold dOne at h
  split at h
  · rename_i h1 h2
    rw [h1, h2]
    exact .inr (.inr ⟨rfl, rfl, rfl⟩)
  · simp only [Bool.or_eq_true, Bool.and_eq_true] at h
    rcases h with h | h | h
    · exact .inl h
    · exact .inr (.inr h)
    · exact .inr (.inl (reachB_spec h))

theorem dOrd_spec {ops : Array Oper} : ∀ {U : List (Nat × Oper × Out)}, dOrd ops U = true → U.Pairwise fun p q => waits q.2.1 p.1 = true ∨ Reach ops q.1 p.1 ∨ (disj (upIds p.2.2.up) (upIds q.2.2.up) = true ∧ disj (upIds p.2.2.up) q.2.2.rd = true ∧ disj (upIds q.2.2.up) p.2.2.rd = true)
  | [], _ => List.Pairwise.nil
  | p :: r, h => by
    unfold dOrd at h
    cases hp : hasMem p with
    | false =>
      rw [List.filter_cons_of_neg (by simp [hp])] at h
      exact List.pairwise_cons.2 ⟨fun q _ => .inr (.inr (dOne_of_none (.inl hp))), dOrd_spec h⟩
    | true =>
      rw [List.filter_cons_of_pos hp] at h
      simp only [dPairs, Bool.and_eq_true] at h
      refine List.pairwise_cons.2 ⟨fun q hq => ?_, dOrd_spec h.2⟩
      cases hm : hasMem q with
      | false => exact .inr (.inr (dOne_of_none (.inr hm)))
      | true => exact dOne_spec (List.all_eq_true.1 h.1 q (List.mem_filter.2 ⟨hq, hm⟩))

theorem sPairs_spec {ops : Array Oper} : ∀ {l : List Oper} {k : Nat}, sPairs ops l k = true → ∀ (i j : Nat) (a b : Oper), i < j → l[i]? = some a → l[j]? = some b → (waits b (k + i) || a.apart ops b) = true
  | [], k, _, i, j, a, b, _, ha, _ => by simp at ha
  | o :: r, k, h, i, j, a, b, hij, ha, hb => by
    simp only [sPairs, Bool.and_eq_true] at h
    cases j with
    | zero => omega
    | succ j =>
      have hb' : r[j]? = some b := by simpa using hb
      cases i with
      | zero =>
        simp at ha
        subst ha
        exact List.all_eq_true.1 h.1 b (List.mem_of_getElem? hb')
      | succ i =>
        have := sPairs_spec h.2 i j a b (by omega) (by simpa using ha) hb'
        simpa [Nat.add_assoc, Nat.add_comm 1 i] using this

/-- Both together. -/
theorem ordered_of {ops : Array Oper} (hs : sOrd ops = true) : ∀ {U : List (Nat × Oper × Out)} {k : Nat}, (U.map (·.1)) = List.range' k U.length → (∀ p ∈ U, ops[p.1]? = some p.2.1) →
    (U.Pairwise fun p q => waits q.2.1 p.1 = true ∨ Reach ops q.1 p.1 ∨ (disj (upIds p.2.2.up) (upIds q.2.2.up) = true ∧ disj (upIds p.2.2.up) q.2.2.rd = true ∧ disj (upIds q.2.2.up) p.2.2.rd = true)) → Ordered ops U
  | [], _, _, _, _ => List.Pairwise.nil
  | p :: r, k, hr, ho, hd => by
    simp only [List.map_cons, List.length_cons, List.range'_succ, List.cons.injEq] at hr
    obtain ⟨hr1, hr2⟩ := hr
    obtain ⟨hd1, hd2⟩ := List.pairwise_cons.1 hd
    refine List.pairwise_cons.2 ⟨fun q hq => ?_, ordered_of hs hr2 (fun x hx => ho x (List.mem_cons_of_mem _ hx)) hd2⟩
    have hlt : p.1 < q.1 := by
      have : q.1 ∈ r.map (·.1) := List.mem_map_of_mem hq
      rw [hr2, List.mem_range'] at this
      omega
    refine ⟨hlt, ?_⟩
    rcases hd1 q hq with h | h | ⟨h1, h2, h3⟩
    · exact .inl h
    · exact .inr (.inl h)
    · unfold sOrd at hs
      simp only [Bool.and_eq_true] at hs
      have hp := ho p (List.mem_cons_self ..)
      have hq' := ho q (List.mem_cons_of_mem _ hq)
      have := sPairs_spec hs.2 p.1 q.1 p.2.1 q.2.1 hlt (by simpa using hp) (by simpa using hq')
      simp only [Nat.zero_add, Bool.or_eq_true] at this
      rcases this with h | h
      · exact .inl h
      · exact .inr (.inr ⟨h, disj_spec h1, disj_spec h2, disj_spec h3⟩)

theorem v0s_no {l : List V0} (h : l.all (V0.inB []) = true) (g : Nat → Nat) : l.map (V0.ren g) = l := by
  have := AV.ren_of_no (r := .tup l) h g
  simpa [AV.ren] using this

theorem avs_no {l : List AV} (h : l.all (AV.inB []) = true) (g : Nat → Nat) : l.map (AV.ren g) = l := by
  induction l with
  | nil => rfl
  | cons a l ih =>
    simp only [List.all_cons, Bool.and_eq_true] at h
    rw [List.map_cons, AV.ren_of_no h.1, ih h.2]

section
variable {P : Program} {Γ : Tab} {A : Auto} {w0 : World} {np : Nat}

theorem auto_pre (hA : AutoOk P A) {ops : Array Oper} {o : Oper} {id : Nat} {s : St} {c : CallH} {out : Out} (ha : autoA A s.T s.m o = some c) (h : stepI P Γ ops o id { call := some c } s = some out) :
    ∀ p ∈ out.pre, p := by
  unfold autoA at ha
  split at ha
  case h_2 => simp at ha
  rename_i cl hop
  split at ha
  case h_2 => simp at ha
  rename_i f hcal
  split at ha
  case h_2 => simp at ha
  rename_i fv args hf hargs
  split at ha
  case h_2 => simp at ha
  rename_i k caps hk
  unfold stepI at h
  simp only at h
  have e : core P Γ o id { call := some c } (rho s.T) s.m = coreCall P fv args { call := some c } id s.m := by
    simp only [core, hop, cCall, hcal, cCallVal, hf, hargs]
  rw [e] at h
  unfold coreCall at h
  rw [hk] at h
  simp only at h
  cases hb : lookB s.m c.foot with
  | none => rw [hb] at h; simp at h
  | some bs =>
    rw [hb] at h
    simp only at h
    split at h
    · rename_i out0 h0
      split at h0
      · rename_i hc
        simp only [Option.some.injEq] at h h0
        subst h
        subst h0
        intro p hp
        simp only [List.mem_cons, List.not_mem_nil, or_false] at hp
        subst hp
        simp only [Bool.and_eq_true] at hc
        obtain ⟨⟨⟨⟨⟨⟨_, _⟩, h1⟩, h2⟩, _⟩, _⟩, _⟩ := hc
        have hall : (args ++ caps.map AV.one).all (AV.inB c.foot) = true := by
          simp only [List.all_append, Bool.and_eq_true, List.all_map]
          exact ⟨h1, h2⟩
        exact hA _ _ _ _ _ ha hb hall
      · simp at h0
    · simp at h

theorem stepA_spec (hA : AutoOk P A) {ops : Array Oper} {o : Oper} {id : Nat} {s : St} {cs : List CallH} {a : SA} (h : stepA P Γ A ops o id s cs = some a) (hpre : ∀ p ∈ a.pre, p) :
    stepI P Γ ops o id a.h s = some a.out ∧ ∀ p ∈ a.out.pre, p := by
  unfold stepA at h
  split at h
  · simp only [Option.some.injEq] at h
    subst h
    exact ⟨rfl, by simp⟩
  · split at h
    · split at h
      · rename_i r hr
        split at h
        · rename_i out hout
          have h := (fOut_eq h).2
          simp only [Option.some.injEq] at h
          subst h
          exact ⟨hout, auto_pre hA hr hout⟩
        · simp at h
      · split at h
        · split at h
          · rename_i out hout
            have h := (fOut_eq h).2
            simp only [Option.some.injEq] at h
            subst h
            exact ⟨hout, hpre⟩
          · simp at h
        · simp at h
    · split at h
      · split at h
        · rename_i out hout
          have h := (fOut_eq h).2
          simp only [Option.some.injEq] at h
          subst h
          exact ⟨hout, hpre⟩
        · simp at h
      · split at h
        · rename_i out hout
          have h := (fOut_eq h).2
          simp only [Option.some.injEq] at h
          subst h
          exact ⟨hout, hpre⟩
        · simp at h

theorem runOpsA_spec (hA : AutoOk P A) {ops : Array Oper} : ∀ {l : List Oper} {k id : Nat} {s : St} {cs : List CallH} {x : RA}, runOpsA P Γ A ops l k id s cs = some x →
    (∀ i, l[i]? = ops[k + i]?) → okAll x.U = true → (∀ p ∈ x.pre, p) → ∀ (idf : Nat → Nat) (hf : Nat → Hint), (∀ i p, x.ih[i]? = some p → idf (k + i) = p.1 ∧ hf (k + i) = p.2) →
    Run P Γ ops idf hf x.U s x.s ∧ x.U.map (·.1) = List.range' k l.length
  | [], k, id, s, cs, x, h, _, _, _, _, _, _ => by
    simp only [runOpsA, Option.some.injEq] at h
    subst h
    exact ⟨.nil _, rfl⟩
  | o :: l, k, id, s, cs, x, h, hl, hok, hpre, idf, hf, hh => by
    unfold runOpsA at h
    split at h
    · rename_i a ha
      rw [fUpd_eq, fNat_eq] at h
      split at h
      · rename_i y hy
        simp only [Option.some.injEq] at h
        subst h
        simp only [okAll, Bool.and_eq_true] at hok
        obtain ⟨hs, hp⟩ := stepA_spec hA ha fun p hp => hpre p (List.mem_append.2 (.inl hp))
        obtain ⟨e1, e2⟩ := hh 0 (id, a.h) rfl
        obtain ⟨h1, h2⟩ := runOpsA_spec hA hy (fun i => by have := hl (i + 1); simpa [Nat.add_assoc, Nat.add_comm 1 i] using this) hok.2 (fun p hp => hpre p (List.mem_append.2 (.inr hp))) idf hf
          (fun i p hi => by have := hh (i + 1) p (by simpa using hi); simpa [Nat.add_assoc, Nat.add_comm 1 i] using this)
        simp only [Nat.add_zero] at e1 e2
        refine ⟨.cons ⟨by have := hl 0; simpa using this.symm, by rw [e1, e2]; exact hs, hok.1, hp⟩ h1, ?_⟩
        simp [h2, List.range'_succ]
      · simp at h
    · simp at h

theorem regionA_sound {ν0 : NV} (hm : P.follows .mixedOrders = true) (hΓ : Γ.Ok P) (hA : AutoOk P A) {id : Nat} {ops : Array Oper} {draw : Bool} (hs : (!draw || sOrd ops) = true) {s : St} {cs : List CallH} {r : RRA} (h : execRegionA P Γ A ops draw s cs = some r) (hok : r.ok = true) (hpre : ∀ p ∈ r.pre, p)
    {ν : NV} {a : Act} {w : World} (hle : NV.le ν0 ν) (ha : ARel ν s.T a) (hr : Rep w0 np ν s.m w) {Q : Exit → Act → World → Prop} (hQ : ∀ ν a w, NV.le ν0 ν → ARel ν r.s.T a → Rep w0 np ν r.s.m w → Q .normal a w) :
    (Code.region id ops draw).wp P Q a w := by
  unfold execRegionA at h
  split at h
  · rename_i x hrun
    have main : okAll x.U = true → (∀ p ∈ x.pre, p) → (∀ ν a w, NV.le ν0 ν → ARel ν x.s.T a → Rep w0 np ν x.s.m w → Q .normal a w) → (draw = true → dOrd ops x.U = true) → (Code.region id ops draw).wp P Q a w := by
      intro hok hpre hQ hd
      obtain ⟨h1, h2⟩ := runOpsA_spec hA hrun (fun i => by simp) hok hpre (fun k => ((x.ih[k]?).getD (0, {})).1) (fun k => ((x.ih[k]?).getD (0, {})).2) (fun i p hi => by simp [hi])
      have hr' := hr.extend (roomOps Γ ops.toList + roomCalls ops.toList cs)
      cases draw with
      | false =>
        refine wp_region ?_
        have := in_order (Q := Q) hΓ hQ h1 hle ha hr'
        rw [h2] at this
        rw [List.range_eq_range']
        simpa using this
      | true =>
        have hd' := dOrd_spec (hd rfl)
        simp only [Bool.not_true, Bool.false_or] at hs
        have hdown : downB ops.toList 0 = true := by
          unfold sOrd at hs
          simp only [Bool.and_eq_true] at hs
          exact hs.1
        refine wp_region_any hm ?_
        have hlen : x.U.length = ops.size := by
          have := congrArg List.length h2
          simpa using this
        refine any_order hΓ (fun i o ho e he hb => by have := downB_spec hdown i o (by simpa using ho) e he hb; omega) hQ _ x.U _ _ ν a _ hlen h1 (ordered_of hs (k := 0) (by rw [h2, hlen]; simp) (run_ops h1) hd') (by simp) (closed_nil _) (fun i hi => ?_) hle ha (hr'.drew _)
        have hmem : i ∈ x.U.map (·.1) := by rw [h2]; simp [List.mem_range']; omega
        obtain ⟨p, hp, hpi⟩ := List.mem_map.1 hmem
        constructor
        · intro _; simp [hi]
        · intro _; exact ⟨p, hp, hpi⟩
    split at h
    · split at h
      · rename_i hc
        simp only [Option.some.injEq] at h
        subst h
        exact main hok hpre hQ fun _ => hc
      · simp at h
    · simp only [Option.some.injEq] at h
      subst h
      exact main hok hpre hQ fun hh => by simp at hh
  · simp at h

end

structure CfgA where
  s : St
  cs : List CallH

structure ResA where
  e : Ex
  c : CfgA
  ok : Bool
  pre : List Prop

noncomputable def execA (P : Program) (Γ : Tab) (A : Auto) : Nat → Code → CfgA → Option ResA
  | 0, _, _ => none
  | _ + 1, .skip, c => some ⟨.normal, c, true, []⟩
  | _ + 1, .ret, c => some ⟨.ret, c, true, []⟩
  | _ + 1, .exit id, c => some ⟨.exit id, c, true, []⟩
  | _ + 1, .region _ ops draw, c =>
    match execRegionA P Γ A ops draw c.s c.cs with
    | some r => some ⟨.normal, ⟨r.s, r.cs⟩, r.ok, r.pre⟩
    | none => none
  | n + 1, .seq x y, c =>
    match execA P Γ A n x c with
    | some r =>
      match r.e with
      | .normal =>
        match execA P Γ A n y r.c with
        | some r' => some ⟨r'.e, r'.c, r.ok && r'.ok, r.pre ++ r'.pre⟩
        | none => none
      | _ => some r
    | none => none
  | n + 1, .cond b x y, c =>
    match rho c.s.T b with
    | some (.one (.c (.sc (.bool t)))) =>
      match t with
      | true => execA P Γ A n x c
      | false => execA P Γ A n y c
    | _ => none
  | n + 1, .block id x, c =>
    match execA P Γ A n x c with
    | some r =>
      match r.e with
      | .exit id' => if id' = id then some ⟨.normal, r.c, r.ok, r.pre⟩ else some r
      | _ => some r
    | none => none
  | n + 1, .loop x, c =>
    match execA P Γ A n x c with
    | some r =>
      match r.e with
      | .normal =>
        match execA P Γ A n (.loop x) r.c with
        | some r' => some ⟨r'.e, r'.c, r.ok && r'.ok, r.pre ++ r'.pre⟩
        | none => none
      | _ => some r
    | none => none
  | _ + 1, _, _ => none

section
variable {P : Program} {Γ : Tab} {A : Auto} {w0 : World} {np : Nat}

def GoalA (w0 : World) (np : Nat) (ν0 : NV) (r : ResA) (Q : Exit → Act → World → Prop) : Prop :=
  ∀ ν a w, NV.le ν0 ν → ARel ν r.c.s.T a → Rep w0 np ν r.c.s.m w → Q r.e.to a w

theorem execA_sound (hm : P.follows .mixedOrders = true) (hΓ : Γ.Ok P) (hA : AutoOk P A) : ∀ n : Nat,
    (∀ (c : Code) (_ : codeOrd c = true) (k : CfgA) (r : ResA), execA P Γ A n c k = some r → r.ok = true → (∀ p ∈ r.pre, p) →
      ∀ (ν0 ν : NV) (a : Act) (w : World) (Q : Exit → Act → World → Prop), NV.le ν0 ν → ARel ν k.s.T a → Rep w0 np ν k.s.m w → GoalA w0 np ν0 r Q → c.wp P Q a w) ∧
    (∀ (c : Code) (_ : codeOrd c = true) (k : CfgA) (r : ResA), execA P Γ A n (.loop c) k = some r → r.ok = true → (∀ p ∈ r.pre, p) →
      ∀ (ν0 ν : NV) (a : Act) (w : World) (Q : Exit → Act → World → Prop), NV.le ν0 ν → ARel ν k.s.T a → Rep w0 np ν k.s.m w → GoalA w0 np ν0 r Q → Code.rounds P c Q n a w) := by
  intro n
  induction n with
  | zero => exact ⟨fun c _ k r h => by simp [execA] at h, fun c _ k r h => by simp [execA] at h⟩
  | succ n ih =>
    obtain ⟨ih1, ih2⟩ := ih
    have hloop : ∀ (c : Code) (_ : codeOrd c = true) (k : CfgA) (r : ResA), execA P Γ A (n + 1) (.loop c) k = some r → r.ok = true → (∀ p ∈ r.pre, p) →
        ∀ (ν0 ν : NV) (a : Act) (w : World) (Q : Exit → Act → World → Prop), NV.le ν0 ν → ARel ν k.s.T a → Rep w0 np ν k.s.m w → GoalA w0 np ν0 r Q → Code.rounds P c Q (n + 1) a w := by
      intro c hord k r h hok hpre ν0 ν a w Q hle ha hr hQ
      simp only [execA] at h
      rw [rounds_succ]
      split at h
      · rename_i r1 h1
        split at h
        · rename_i he
          split at h
          · rename_i r2 h2
            simp only [Option.some.injEq] at h
            subst h
            simp only [Bool.and_eq_true] at hok
            refine ih1 c hord k r1 h1 hok.1 (fun p hp => hpre p (by simp [hp])) ν0 ν a w _ hle ha hr fun ν' a' w' hle' ha' hr' => ?_
            rw [he]
            exact ih2 c hord r1.c r2 h2 hok.2 (fun p hp => hpre p (by simp [hp])) ν0 ν' a' w' Q hle' ha' hr' hQ
          · simp at h
        · rename_i he
          simp only [Option.some.injEq] at h
          subst h
          refine ih1 c hord k r1 h1 hok hpre ν0 ν a w _ hle ha hr fun ν' a' w' hle' ha' hr' => ?_
          have := hQ ν' a' w' hle' ha' hr'
          cases hre : r1.e with
          | normal => exact absurd hre he
          | exit id => rw [hre] at this; exact this
          | ret => rw [hre] at this; exact this
      · simp at h
    refine ⟨?_, hloop⟩
    intro c hord k r h hok hpre ν0 ν a w Q hle ha hr hQ
    cases c <;> simp only [execA] at h <;> try (simp at h; done)
    case skip =>
      simp only [Option.some.injEq] at h
      subst h
      exact wp_skip (hQ ν a w hle ha hr)
    case ret =>
      simp only [Option.some.injEq] at h
      subst h
      exact wp_ret (hQ ν a w hle ha hr)
    case exit id =>
      simp only [Option.some.injEq] at h
      subst h
      exact wp_exit (hQ ν a w hle ha hr)
    case region id ops draw =>
      split at h
      · rename_i r' hr'
        simp only [Option.some.injEq] at h
        subst h
        exact regionA_sound hm hΓ hA hord hr' hok hpre hle ha hr hQ
      · simp at h
    case seq x y =>
      simp only [codeOrd, Bool.and_eq_true] at hord
      refine wp_seq ?_
      split at h
      · rename_i r1 h1
        split at h
        · rename_i he
          split at h
          · rename_i r2 h2
            simp only [Option.some.injEq] at h
            subst h
            simp only [Bool.and_eq_true] at hok
            refine ih1 x hord.1 k r1 h1 hok.1 (fun p hp => hpre p (by simp [hp])) ν0 ν a w _ hle ha hr fun ν' a' w' hle' ha' hr' => ?_
            rw [he]
            exact ih1 y hord.2 r1.c r2 h2 hok.2 (fun p hp => hpre p (by simp [hp])) ν0 ν' a' w' Q hle' ha' hr' hQ
          · simp at h
        · rename_i he
          simp only [Option.some.injEq] at h
          subst h
          refine ih1 x hord.1 k r1 h1 hok hpre ν0 ν a w _ hle ha hr fun ν' a' w' hle' ha' hr' => ?_
          have := hQ ν' a' w' hle' ha' hr'
          cases hre : r1.e with
          | normal => exact absurd hre he
          | exit id => rw [hre] at this; exact this
          | ret => rw [hre] at this; exact this
      · simp at h
    case cond b x y =>
      simp only [codeOrd, Bool.and_eq_true] at hord
      split at h
      · rename_i t hb
        have hbe := sc_den (ha.rho _ _ hb)
        refine wp_cond hbe ?_
        cases t with
        | true => exact ih1 _ hord.1 _ r h hok hpre ν0 ν a w Q hle ha hr hQ
        | false => exact ih1 _ hord.2 _ r h hok hpre ν0 ν a w Q hle ha hr hQ
      · simp at h
    case block id x =>
      refine wp_block ?_
      split at h
      · rename_i r1 h1
        split at h
        · rename_i id' he
          split at h
          · rename_i hid
            simp only [Option.some.injEq] at h
            subst h
            refine ih1 x hord k r1 h1 hok hpre ν0 ν a w _ hle ha hr fun ν' a' w' hle' ha' hr' => ?_
            rw [he]
            simp only [Ex.to, Exit.inBlock, hid, if_true]
            exact hQ ν' a' w' hle' ha' hr'
          · rename_i hid
            simp only [Option.some.injEq] at h
            subst h
            refine ih1 x hord k r1 h1 hok hpre ν0 ν a w _ hle ha hr fun ν' a' w' hle' ha' hr' => ?_
            have := hQ ν' a' w' hle' ha' hr'
            rw [he] at this ⊢
            simp only [Ex.to, Exit.inBlock, hid, if_false]
            exact this
        · rename_i he
          simp only [Option.some.injEq] at h
          subst h
          refine ih1 x hord k r1 h1 hok hpre ν0 ν a w _ hle ha hr fun ν' a' w' hle' ha' hr' => ?_
          have := hQ ν' a' w' hle' ha' hr'
          cases hre : r1.e with
          | normal => rw [hre] at this; exact this
          | exit id => exact absurd hre (he id)
          | ret => rw [hre] at this; exact this
      · simp at h
    case loop x => exact wp_loop_rounds (n + 1) (hloop x hord k r (by simpa only [execA] using h) hok hpre ν0 ν a w Q hle ha hr hQ)


end

noncomputable def execFnA (P : Program) (Γ : Tab) (A : Auto) (fn : Func) (args : List AV) (m : List Blk) (cs : List CallH) (fuel : Nat) : Option FR :=
  match fn.body with
  | some c =>
    match execA P Γ A fuel c ⟨⟨startT fn.ntmps args, m.map some⟩, cs⟩ with
    | some r =>
      match r.e with
      | .exit _ => none
      | _ =>
        match resVals Γ r.c.s fn.results.toList with
        | some (l, ok) => some ⟨resAV l, r.c.s, r.ok && ok, r.pre⟩
        | none => none
    | none => none
  | none => none

section
variable {P : Program} {Γ : Tab} {A : Auto} {w0 : World} {np : Nat}

/-- THE CONTRACT OF A FUNCTION OUT OF ITS RUN. -/
theorem FnA_of_exec (hm : P.follows .mixedOrders = true) (hΓ : Γ.Ok P) (hA : AutoOk P A) {k : FuncId} {fn : Func} (hf : P.funcs[k]? = some fn) (hord : fnOrd fn = true)
    (hcall : ∀ (vs : Array Value) (w : World), (callFunc k vs).run P w = .ok (.enter k vs) w)
    {args : List AV} {m m' : List Blk} {cs : List CallH} {fuel : Nat} {f : FR} {r : AV} {ex : List Nat}
    (h : execFnA P Γ A fn args m cs fuel = some f) (hok : f.ok = true) (hpre : ∀ p ∈ f.pre, p)
    (hn : nodupB (List.range m.length ++ ex) = true) (hlen : m'.length = m.length + ex.length)
    (hr : f.r = r.ren (expId m.length f.s.m.length ex)) (hb : ∀ i, i < m'.length → f.s.m.at (expId m.length f.s.m.length ex i) = (m'[i]?).map (Blk.ren (expId m.length f.s.m.length ex))) :
    Con P k args m r m' := by
  intro w ν vs hrep hvs
  refine .inl ⟨k, hcall vs w, ?_⟩
  unfold execFnA at h
  split at h
  · rename_i c hc
    split at h
    · rename_i res hres
      have hcase : (∀ id, res.e ≠ .exit id) ∧ ∃ l ok, resVals Γ res.c.s fn.results.toList = some (l, ok) ∧ f = ⟨resAV l, res.c.s, res.ok && ok, res.pre⟩ := by
        split at h
        · simp at h
        · rename_i he
          split at h
          · rename_i l ok hl
            simp only [Option.some.injEq] at h
            exact ⟨he, l, ok, hl, h.symm⟩
          · simp at h
      obtain ⟨he, l, ok, hl, rfl⟩ := hcase
      simp only [Bool.and_eq_true] at hok
      simp only at hr hb
      refine calls_of_wp hf hc ?_
      have hargs : ARel ν (startT fn.ntmps args) { tmps := vs ++ Array.replicate (fn.ntmps - vs.size) undef, defers := [] } := by
        have hl := hvs.length
        simp only [Array.length_toList] at hl
        refine ⟨rfl, by simp [startT, hl]; omega, fun t av e => ?_⟩
        simp only [Array.getD_eq_getD_getElem?]
        rcases putArgs_get _ _ _ _ _ e with ⟨_, h2⟩ | ⟨h1, h2⟩
        · obtain ⟨x, hx, hd⟩ := hvs.get t av (by simpa using h2)
          have hlt : t < vs.size := by
            rcases Nat.lt_or_ge t vs.size with h' | h'
            · exact h'
            · simp [List.getElem?_eq_none (show vs.toList.length ≤ t by simpa using h')] at hx
          rw [Array.getElem?_append_left hlt]
          have : vs[t]? = some x := by simpa using hx
          rw [this]
          exact hd
        · have := TT.full_get _ _ _ _ h2
          subst this
          rcases Nat.lt_or_ge t vs.size with hlt | hge
          · omega
          · rw [Array.getElem?_append_right hge]
            by_cases h3 : t - vs.size < fn.ntmps - vs.size
            · simp [h3]; exact ⟨#[], rfl, trivial⟩
            · rw [Array.getElem?_eq_none (by simpa using h3)]
              exact ⟨#[], rfl, trivial⟩
      refine (execA_sound (w0 := w) (np := m.length) hm hΓ hA fuel).1 c (by simpa only [fnOrd, hc] using hord) _ res hres hok.1 hpre ν ν _ _ _ (NV.le_refl _) hargs hrep fun ν' a' w' hle ha' hr' => ?_
      have hpost : a'.defers = [] ∧ ∃ v, (results fn a'.tmps).run P w' = .ok v w' ∧ ∃ x, Ending.returned v = .returned x ∧ ∃ ν'', NV.le ν ν'' ∧ r.Den ν'' x ∧ Rep w m.length ν'' (m'.map some) w' := by
        refine ⟨ha'.defers, ?_⟩
        obtain ⟨v, h1, h2⟩ := results_sound hΓ ha' hr' hl hok.2
        obtain ⟨hun, hrs⟩ := rep_export hr' hn hlen hb
        refine ⟨v, h1, v, rfl, _, ?_, (hr ▸ h2).unren hun, hrs⟩
        intro i n hi
        have hilt : i < m.length := by
          rcases Nat.lt_or_ge i m.length with h' | h'
          · exact h'
          · have := hrep.dom i (at_map_none.2 h')
            rw [hi] at this
            simp at this
        exact hun i n (by unfold expId; rw [if_pos hilt]; exact hle i n hi)
      cases hre : res.e with
      | normal => exact hpost
      | exit id => exact absurd hre (he id)
      | ret => exact hpost
    · simp at h
  · simp at h

end

/-- A contract's data. -/
structure CT where
  k : FuncId
  args : List AV
  m : List Blk := []
  r : AV
  m' : List Blk := []
  keep : List Bool := []

/-- The memory behind it. -/
def CT.out (c : CT) : List Blk := fillK c.keep c.m c.m'

def CT.Holds (P : Program) (c : CT) : Prop := Con P c.k c.args c.m c.r c.out

/-- A call that is told: its contract, the blocks handed in. -/
structure CallP (P : Program) where
  c : CT
  h : c.Holds P
  foot : List Nat := []

def CallP.hint {P : Program} (x : CallP P) : CallH := ⟨x.c.r, x.foot, x.c.m', x.c.keep⟩

theorem callP_pre {P : Program} : ∀ {l : List (CallP P)}, ∀ p ∈ l.map (fun x => x.c.Holds P), p
  | [], p, hp => by simp at hp
  | x :: l, p, hp => by
    simp only [List.map_cons, List.mem_cons] at hp
    rcases hp with rfl | hp
    · exact x.h
    · exact callP_pre p hp

def optIn (F : List Nat) : Option Blk → Bool
  | some b => b.inB F
  | none => false

noncomputable def memOut (m : Mem) (F : List Nat) : List (Option Blk) := F.map fun i => m.at i

/-- What is looked at behind a run. -/
noncomputable def viewA (F : List Nat) (f : FR) : Bool × List Prop × AV × List (Option Blk) :=
  (f.ok && (nodupB F && (f.r.inB F && (memOut f.s.m F).all (optIn F))), f.pre, f.r.ren (posIn F), (memOut f.s.m F).map fun o => o.map (Blk.ren (posIn F)))

theorem Blk.back {F : List Nat} {top : Nat} {b : Blk} (h : b.inB F = true) : (b.ren (posIn F)).ren (bigIn F top) = b := by
  have := blks_back (F := F) (top := top) (l := [b]) (by simpa using h)
  simpa using this

theorem fnA {P : Program} {A : Auto} (S : Seat P) (hA : AutoOk P A) {c : CT} {fn : Func} (hf : P.funcs[c.k]? = some fn) (hord : fnOrd fn = true) (hcall : ∀ (vs : Array Value) (w : World), (callFunc c.k vs).run P w = .ok (.enter c.k vs) w)
    (calls : List (CallP P)) (fuel : Nat) (ex : List Nat)
    (h : (execFnA P (std P) A fn c.args c.m (calls.map CallP.hint) fuel).map (viewA (List.range c.m.length ++ ex)) = some (true, calls.map (fun x => x.c.Holds P), c.r, c.out.map some)) : c.Holds P := by
  cases hx : execFnA P (std P) A fn c.args c.m (calls.map CallP.hint) fuel with
  | none => rw [hx] at h; simp at h
  | some f =>
    rw [hx] at h
    simp only [Option.map_some, Option.some.injEq, viewA, Prod.mk.injEq, Bool.and_eq_true] at h
    obtain ⟨⟨h1, h2, h3, h4⟩, h5, h6, h7⟩ := h
    have hlen : c.out.length = c.m.length + ex.length := by
      have := congrArg List.length h7
      simpa [memOut] using this.symm
    have hbig : ∀ i, bigIn (List.range c.m.length ++ ex) f.s.m.length i = expId c.m.length f.s.m.length ex i := by
      intro i
      unfold bigIn expId
      by_cases h : i < c.m.length
      · rw [if_pos h, List.getElem?_append_left (by simpa using h)]; simp [h]
      · rw [if_neg h, List.getElem?_append_right (by simp; omega)]; simp
    have hfun : bigIn (List.range c.m.length ++ ex) f.s.m.length = expId c.m.length f.s.m.length ex := funext hbig
    refine FnA_of_exec S.mixed (std_ok P) hA hf hord hcall hx h1 (h5 ▸ callP_pre) h2 hlen ?_ fun i hi => ?_
    · rw [← h6, ← hfun, AV.back h3]
    · have hi' : i < (List.range c.m.length ++ ex).length := by simp; omega
      have e := congrArg (fun l : List (Option Blk) => l[i]?) h7
      simp only [memOut, List.getElem?_map] at e
      rw [List.getElem?_eq_getElem hi, List.getElem?_eq_getElem hi'] at e
      simp only [Option.map_some, Option.some.injEq] at e
      have hx : (List.range c.m.length ++ ex)[i] = expId c.m.length f.s.m.length ex i := by
        rw [← hbig i]
        unfold bigIn
        rw [List.getElem?_eq_getElem hi']
        rfl
      have h4' := List.all_eq_true.1 h4 (f.s.m.at ((List.range c.m.length ++ ex)[i])) (by unfold memOut; exact List.mem_map.2 ⟨_, List.getElem_mem hi', rfl⟩)
      rw [List.getElem?_eq_getElem hi, ← hx]
      cases hb : f.s.m.at ((List.range c.m.length ++ ex)[i]) with
      | none => rw [hb] at h4'; simp [optIn] at h4'
      | some b =>
        rw [hb] at h4' e
        simp only [optIn] at h4'
        simp only [Option.map_some, Option.some.injEq] at e
        rw [Option.map_some, ← e, ← hfun, Blk.back h4']

end Go.Rx
