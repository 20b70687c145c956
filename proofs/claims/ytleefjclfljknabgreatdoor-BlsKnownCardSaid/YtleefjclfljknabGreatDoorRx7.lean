/-
Reflective execution, part 7: a call of a Go function by its contract, whose small memory is a part of the caller's.
-/
import Derived.Test.YtleefjclfljknabGreatDoorRx6
namespace Go.Rx

theorem Cell.Den.unren {ν νs : NV} {f : Nat → Nat} (hf : ∀ b n, ν (f b) = some n → νs b = some n) {c : Cell} {x : Value} (h : (c.ren f).Den ν x) : c.Den νs x := by
  cases c with
  | any => exact h
  | sc v => exact h
  | ptr b o => obtain ⟨n, e, rfl⟩ := h; exact ⟨n, hf _ _ e, rfl⟩
  | slc b o l k => obtain ⟨n, e, rfl⟩ := h; exact ⟨n, hf _ _ e, rfl⟩
  | slu b s z o l => obtain ⟨n, c, k, e1, e2, e3⟩ := h; exact ⟨n, c, k, hf _ _ e1, hf _ _ e2, e3⟩
  | sl0 => exact h
  | mp b => obtain ⟨n, e, rfl⟩ := h; exact ⟨n, hf _ _ e, rfl⟩

theorem Cell.Den.ren {ν νs : NV} {f : Nat → Nat} (hf : ∀ b n, νs b = some n → ν (f b) = some n) {c : Cell} {x : Value} (h : c.Den νs x) : (c.ren f).Den ν x := by
  cases c with
  | any => exact h
  | sc v => exact h
  | ptr b o => obtain ⟨n, e, rfl⟩ := h; exact ⟨n, hf _ _ e, rfl⟩
  | slc b o l k => obtain ⟨n, e, rfl⟩ := h; exact ⟨n, hf _ _ e, rfl⟩
  | slu b s z o l => obtain ⟨n, c, k, e1, e2, e3⟩ := h; exact ⟨n, c, k, hf _ _ e1, hf _ _ e2, e3⟩
  | sl0 => exact h
  | mp b => obtain ⟨n, e, rfl⟩ := h; exact ⟨n, hf _ _ e, rfl⟩

theorem DenL.unren {ν νs : NV} {f : Nat → Nat} (hf : ∀ b n, ν (f b) = some n → νs b = some n) : ∀ {l : List Cell} {vs : List Value}, DenL ν (l.map (Cell.ren f)) vs → DenL νs l vs
  | [], [], _ => trivial
  | _ :: _, _ :: _, h => ⟨h.1.unren hf, DenL.unren hf h.2⟩
  | [], _ :: _, h => h.elim
  | _ :: _, [], h => h.elim

theorem DenL.ren {ν νs : NV} {f : Nat → Nat} (hf : ∀ b n, νs b = some n → ν (f b) = some n) : ∀ {l : List Cell} {vs : List Value}, DenL νs l vs → DenL ν (l.map (Cell.ren f)) vs
  | [], [], _ => trivial
  | _ :: _, _ :: _, h => ⟨h.1.ren hf, DenL.ren hf h.2⟩
  | [], _ :: _, h => h.elim
  | _ :: _, [], h => h.elim

theorem V0.Den.unren {ν νs : NV} {f : Nat → Nat} (hf : ∀ b n, ν (f b) = some n → νs b = some n) {c : V0} {x : Value} (h : (c.ren f).Den ν x) : c.Den νs x := by
  cases c with
  | c c => exact Cell.Den.unren hf h
  | agg l => obtain ⟨vs, rfl, h⟩ := h; exact ⟨vs, rfl, h.unren hf⟩

theorem V0.Den.ren {ν νs : NV} {f : Nat → Nat} (hf : ∀ b n, νs b = some n → ν (f b) = some n) {c : V0} {x : Value} (h : c.Den νs x) : (c.ren f).Den ν x := by
  cases c with
  | c c => exact Cell.Den.ren hf h
  | agg l => obtain ⟨vs, rfl, h⟩ := h; exact ⟨vs, rfl, h.ren hf⟩

theorem DenVL.unren {ν νs : NV} {f : Nat → Nat} (hf : ∀ b n, ν (f b) = some n → νs b = some n) : ∀ {l : List V0} {vs : List Value}, DenVL ν (l.map (V0.ren f)) vs → DenVL νs l vs
  | [], [], _ => trivial
  | _ :: _, _ :: _, h => ⟨h.1.unren hf, DenVL.unren hf h.2⟩
  | [], _ :: _, h => h.elim
  | _ :: _, [], h => h.elim

theorem DenVL.ren {ν νs : NV} {f : Nat → Nat} (hf : ∀ b n, νs b = some n → ν (f b) = some n) : ∀ {l : List V0} {vs : List Value}, DenVL νs l vs → DenVL ν (l.map (V0.ren f)) vs
  | [], [], _ => trivial
  | _ :: _, _ :: _, h => ⟨h.1.ren hf, DenVL.ren hf h.2⟩
  | [], _ :: _, h => h.elim
  | _ :: _, [], h => h.elim

theorem DenE.unren {ν νs : NV} {f : Nat → Nat} (hf : ∀ b n, ν (f b) = some n → νs b = some n) : ∀ {l : List (Value × V0 × Nat)} {vs : List MapEntry}, DenE ν (l.map fun e => (e.1, e.2.1.ren f, e.2.2)) vs → DenE νs l vs
  | [], [], _ => trivial
  | (_, _, _) :: _, _ :: _, h => ⟨⟨h.1.1, h.1.2.1.unren hf, h.1.2.2⟩, DenE.unren hf h.2⟩
  | [], _ :: _, h => h.elim
  | (_, _, _) :: _, [], h => h.elim

theorem DenE.ren {ν νs : NV} {f : Nat → Nat} (hf : ∀ b n, νs b = some n → ν (f b) = some n) : ∀ {l : List (Value × V0 × Nat)} {vs : List MapEntry}, DenE νs l vs → DenE ν (l.map fun e => (e.1, e.2.1.ren f, e.2.2)) vs
  | [], [], _ => trivial
  | (_, _, _) :: _, _ :: _, h => ⟨⟨h.1.1, h.1.2.1.ren hf, h.1.2.2⟩, DenE.ren hf h.2⟩
  | [], _ :: _, h => h.elim
  | (_, _, _) :: _, [], h => h.elim

theorem Lies.unren {ν νs : NV} {f : Nat → Nat} (hf : ∀ b n, ν (f b) = some n → νs b = some n) {b : Blk} {w : World} {n : Nat} (h : (b.ren f).Lies ν w n) : b.Lies νs w n := by
  obtain ⟨h1, h⟩ := h
  refine ⟨h1, ?_⟩
  obtain ⟨cells, ty, ro, kind, glob⟩ := b
  cases kind <;> simp only [Blk.ren, BK.ren] at h ⊢
  · obtain ⟨c, fz, pre, rest, e, e2, d, z, y⟩ := h; exact ⟨c, fz, pre, rest, e, e2, d.unren hf, z, y⟩
  · obtain ⟨c, fz, pre, rest, e, e2, d, z, y⟩ := h; exact ⟨c, fz, pre, rest, e, e2, d.unren hf, z, hf _ _ y⟩
  · exact h
  · obtain ⟨fs, e, d⟩ := h; exact ⟨fs, e, d.unren hf⟩

theorem Lies.ren {ν νs : NV} {f : Nat → Nat} (hf : ∀ b n, νs b = some n → ν (f b) = some n) {b : Blk} {w : World} {n : Nat} (h : b.Lies νs w n) : (b.ren f).Lies ν w n := by
  obtain ⟨h1, h⟩ := h
  refine ⟨h1, ?_⟩
  obtain ⟨cells, ty, ro, kind, glob⟩ := b
  cases kind <;> simp only [Blk.ren, BK.ren] at h ⊢
  · obtain ⟨c, fz, pre, rest, e, e2, d, z, y⟩ := h; exact ⟨c, fz, pre, rest, e, e2, d.ren hf, z, y⟩
  · obtain ⟨c, fz, pre, rest, e, e2, d, z, y⟩ := h; exact ⟨c, fz, pre, rest, e, e2, d.ren hf, z, hf _ _ y⟩
  · exact h
  · obtain ⟨fs, e, d⟩ := h; exact ⟨fs, e, d.ren hf⟩

theorem ren_live {b : Blk} {f : Nat → Nat} : (b.ren f).live = b.live := by
  obtain ⟨cells, ty, ro, kind, glob⟩ := b
  cases kind <;> rfl

theorem ren_ghost {b : Blk} {f : Nat → Nat} : (b.ren f).ghost = b.ghost := by
  obtain ⟨cells, ty, ro, kind, glob⟩ := b
  cases kind <;> rfl

theorem AV.Den.unren {ν νs : NV} {f : Nat → Nat} (hf : ∀ b n, ν (f b) = some n → νs b = some n) {c : AV} {x : Value} (h : (c.ren f).Den ν x) : c.Den νs x := by
  cases c with
  | one c => exact V0.Den.unren hf h
  | tup l => obtain ⟨vs, rfl, h⟩ := h; exact ⟨vs, rfl, h.unren hf⟩
  | clo k l => obtain ⟨vs, rfl, h⟩ := h; exact ⟨vs, rfl, h.unren hf⟩

theorem AV.Den.ren {ν νs : NV} {f : Nat → Nat} (hf : ∀ b n, νs b = some n → ν (f b) = some n) {c : AV} {x : Value} (h : c.Den νs x) : (c.ren f).Den ν x := by
  cases c with
  | one c => exact V0.Den.ren hf h
  | tup l => obtain ⟨vs, rfl, h⟩ := h; exact ⟨vs, rfl, h.ren hf⟩
  | clo k l => obtain ⟨vs, rfl, h⟩ := h; exact ⟨vs, rfl, h.ren hf⟩

theorem DenAL.unren {ν νs : NV} {f : Nat → Nat} (hf : ∀ b n, ν (f b) = some n → νs b = some n) : ∀ {l : List AV} {vs : List Value}, DenAL ν (l.map (AV.ren f)) vs → DenAL νs l vs
  | [], [], _ => trivial
  | _ :: _, _ :: _, h => ⟨h.1.unren hf, DenAL.unren hf h.2⟩
  | [], _ :: _, h => h.elim
  | _ :: _, [], h => h.elim

theorem DenAL.append {ν : NV} : ∀ {l l' : List AV} {vs vs' : List Value}, DenAL ν l vs → DenAL ν l' vs' → DenAL ν (l ++ l') (vs ++ vs')
  | [], _, [], _, _, k => by simpa using k
  | _ :: _, _, _ :: _, _, h, k => ⟨h.1, DenAL.append h.2 k⟩
  | [], _, _ :: _, _, h, _ => h.elim
  | _ :: _, _, [], _, h, _ => h.elim

theorem DenVL.ones {ν : NV} : ∀ {l : List V0} {vs : List Value}, DenVL ν l vs → DenAL ν (l.map .one) vs
  | [], [], _ => trivial
  | _ :: _, _ :: _, h => ⟨h.1, DenVL.ones h.2⟩
  | [], _ :: _, h => h.elim
  | _ :: _, [], h => h.elim

theorem nodupB_spec : ∀ {l : List Nat}, nodupB l = true → l.Nodup
  | [], _ => List.nodup_nil
  | x :: r, h => by
    simp only [nodupB, Bool.and_eq_true, Bool.not_eq_true', List.contains_eq_mem, decide_eq_false_iff_not] at h
    exact List.nodup_cons.2 ⟨h.1, nodupB_spec h.2⟩

theorem lookB_spec {m : Mem} : ∀ {F : List Nat} {bs : List Blk}, lookB m F = some bs → bs.length = F.length ∧ ∀ (i j : Nat), F[i]? = some j → ∃ b, bs[i]? = some b ∧ m[j]? = some (some b)
  | [], bs, h => by simp [lookB] at h; subst h; simp
  | x :: F, bs, h => by
    unfold lookB at h
    split at h
    · rename_i b l hb hl
      simp only [Option.some.injEq] at h
      subst h
      obtain ⟨h1, h2⟩ := lookB_spec hl
      refine ⟨by simp [h1], fun i j hj => ?_⟩
      cases i with
      | zero => simp at hj; subst hj; exact ⟨b, rfl, hb⟩
      | succ i => simp at hj; simpa using h2 i j hj
    · simp at h

theorem freeIds_spec {m : Mem} : ∀ {n id : Nat}, freeIds m id n = true → ∀ i, id ≤ i → i < id + n → m[i]? = some none
  | 0, id, _, i, h1, h2 => by omega
  | n + 1, id, h, i, h1, h2 => by
    simp only [freeIds, Bool.and_eq_true] at h
    by_cases e : i = id
    · subst e
      revert h
      split
      · intro _; assumption
      · intro h; simp at h
    · exact freeIds_spec h.2 i (by omega) (by omega)

theorem roSame_spec : ∀ {bs bs' : List Blk}, roSame bs bs' = true → bs.length ≤ bs'.length ∧ ∀ (i : Nat) b b', bs[i]? = some b → bs'[i]? = some b' → b.ro = b'.ro ∧ b.ghost = b'.ghost ∧ (b'.live = true → b.live = true)
  | [], _, _ => ⟨by simp, fun i b b' h => by simp at h⟩
  | b :: r, [], h => by simp [roSame] at h
  | b :: r, b' :: r', h => by
    simp only [roSame, Bool.and_eq_true, beq_iff_eq, Bool.or_eq_true, Bool.not_eq_true'] at h
    obtain ⟨h1, h2⟩ := roSame_spec h.2
    refine ⟨by simpa using h1, fun i x x' hx hx' => ?_⟩
    cases i with
    | zero =>
      simp at hx hx'
      subst hx
      subst hx'
      refine ⟨h.1.1.1, h.1.1.2, fun hl => ?_⟩
      rcases h.1.2 with h' | h'
      · rw [hl] at h'; simp at h'
      · exact h'
    | succ i => simp at hx hx'; exact h2 i x x' hx hx'

theorem bigId_lt {F : List Nat} {id i : Nat} (h : i < F.length) : bigId F id i = F[i] := by simp [bigId, h]
theorem bigId_ge {F : List Nat} {id i : Nat} (h : F.length ≤ i) : bigId F id i = id + (i - F.length) := by simp [bigId, h]

/-- What laying the callee's blocks back makes of the caller's memory. -/
theorem app_ups (F : List Nat) (id : Nat) : ∀ (l : List Blk) (k : Nat) (m : Mem),
    (∀ i, i < l.length → bigId F id (k + i) < m.length) →
    (∀ i j, i < l.length → j < l.length → bigId F id (k + i) = bigId F id (k + j) → i = j) →
    (∀ i (h : i < l.length), (m.app (ups F id k l)).at (bigId F id (k + i)) = some (l[i].ren (bigId F id))) ∧
    (∀ x, (∀ i, i < l.length → bigId F id (k + i) ≠ x) → (m.app (ups F id k l)).at x = m.at x)
  | [], k, m, _, _ => ⟨fun i h => by simp at h, fun x _ => rfl⟩
  | b :: l, k, m, hl, hinj => by
    have ih := app_ups F id l (k + 1) (m.set (bigId F id k) (some (b.ren (bigId F id))))
      (fun i hi => by have := hl (i + 1) (by simpa using hi); simpa [Nat.add_assoc, Nat.add_comm 1 i] using this)
      (fun i j hi hj e => by
        have := hinj (i + 1) (j + 1) (by simpa using hi) (by simpa using hj) (by simpa [Nat.add_assoc, Nat.add_comm 1 i, Nat.add_comm 1 j] using e)
        omega)
    simp only [ups, Mem.app]
    constructor
    · intro i hi
      cases i with
      | zero =>
        rw [ih.2 (bigId F id (k + 0))]
        · have h0 := hl 0 (by simp)
          rw [Nat.add_zero] at h0 ⊢
          rw [at_set h0, if_pos rfl]; rfl
        · intro j hj e
          have := hinj (j + 1) 0 (by simpa using hj) (by simp) (by simpa [Nat.add_assoc, Nat.add_comm 1 j] using e)
          omega
      | succ i =>
        have := ih.1 i (by simpa using hi)
        simpa [Nat.add_assoc, Nat.add_comm 1 i] using this
    · intro x hx
      rw [ih.2 x (fun i hi => by have := hx (i + 1) (by simpa using hi); simpa [Nat.add_assoc, Nat.add_comm 1 i] using this)]
      have h0 := hl 0 (by simp)
      rw [Nat.add_zero] at h0
      rw [at_set h0, if_neg]
      have := hx 0 (by simp)
      simpa using this

theorem at_map_some {l : List Blk} {i : Nat} {b : Blk} : Mem.at (l.map some) i = some b ↔ l[i]? = some b := by
  unfold Mem.at
  rw [List.getElem?_map]
  cases l[i]? <;> simp

theorem at_map_none {l : List Blk} {i : Nat} : Mem.at (l.map some) i = none ↔ l.length ≤ i := by
  unfold Mem.at
  rw [List.getElem?_map]
  rw [← List.getElem?_eq_none_iff]
  cases l[i]? <;> simp

section
variable {P : Program} {Γ : Tab} {w0 w : World} {np : Nat} {ν : NV} {m : Mem} {ρ' : Operand → Option AV} {ρ : Operand → Value}

theorem at_lt {m : Mem} {i : Nat} {b : Blk} (h : m.at i = some b) : i < m.length := by
  rcases Nat.lt_or_ge i m.length with h' | h'
  · exact h'
  · simp [Mem.at, List.getElem?_eq_none h'] at h

theorem posIn_spec : ∀ {F : List Nat} {x : Nat}, x ∈ F → F[posIn F x]? = some x
  | [], x, h => by simp at h
  | y :: F, x, h => by
    unfold posIn
    by_cases e : y = x
    · subst e; simp
    · rw [if_neg e]
      simpa using posIn_spec (F := F) (by simpa [Ne.symm e] using h)

theorem big_pos {F : List Nat} {x top : Nat} (h : x ∈ F) : bigIn F top (posIn F x) = x := by
  unfold bigIn
  rw [posIn_spec h]
  rfl

theorem Cell.back {F : List Nat} {top : Nat} {c : Cell} (h : c.inB F = true) : (c.ren (posIn F)).ren (bigIn F top) = c := by
  cases c <;> simp only [Cell.inB, List.contains_eq_mem, decide_eq_true_eq, Bool.and_eq_true] at h <;> simp only [Cell.ren]
  · rw [big_pos h]
  · rw [big_pos h]
  · rw [big_pos h.1, big_pos h.2]
  · rw [big_pos h]

theorem cells_back {F : List Nat} {top : Nat} {l : List Cell} (h : l.all (Cell.inB F) = true) : (l.map (Cell.ren (posIn F))).map (Cell.ren (bigIn F top)) = l := by
  induction l with
  | nil => rfl
  | cons c l ih =>
    simp only [List.all_cons, Bool.and_eq_true] at h
    simp only [List.map_cons]
    rw [Cell.back h.1, ih h.2]

theorem V0.back {F : List Nat} {top : Nat} {c : V0} (h : c.inB F = true) : (c.ren (posIn F)).ren (bigIn F top) = c := by
  cases c with
  | c x => simp only [V0.ren]; rw [Cell.back h]
  | agg l => simp only [V0.ren]; rw [cells_back h]

theorem v0s_back {F : List Nat} {top : Nat} {l : List V0} (h : l.all (V0.inB F) = true) : (l.map (V0.ren (posIn F))).map (V0.ren (bigIn F top)) = l := by
  induction l with
  | nil => rfl
  | cons c l ih =>
    simp only [List.all_cons, Bool.and_eq_true] at h
    simp only [List.map_cons]
    rw [V0.back h.1, ih h.2]

theorem AV.back {F : List Nat} {top : Nat} {c : AV} (h : c.inB F = true) : (c.ren (posIn F)).ren (bigIn F top) = c := by
  cases c with
  | one x => simp only [AV.ren]; rw [V0.back h]
  | tup l => simp only [AV.ren]; rw [v0s_back h]
  | clo k l => simp only [AV.ren]; rw [v0s_back h]

theorem avs_back {F : List Nat} {top : Nat} {l : List AV} (h : l.all (AV.inB F) = true) : (l.map (AV.ren (posIn F))).map (AV.ren (bigIn F top)) = l := by
  induction l with
  | nil => rfl
  | cons c l ih =>
    simp only [List.all_cons, Bool.and_eq_true] at h
    simp only [List.map_cons]
    rw [AV.back h.1, ih h.2]

theorem ones_in {F : List Nat} {l : List V0} (h : l.all (V0.inB F) = true) : (l.map AV.one).all (AV.inB F) = true := by
  induction l with
  | nil => rfl
  | cons c l ih =>
    simp only [List.all_cons, Bool.and_eq_true] at h
    simp only [List.map_cons, List.all_cons, Bool.and_eq_true]
    exact ⟨h.1, ih h.2⟩

theorem BK.back {F : List Nat} {top : Nat} {k : BK} (h : k.inB F = true) : (k.ren (posIn F)).ren (bigIn F top) = k := by
  cases k with
  | opened s =>
    simp only [BK.inB, List.contains_eq_mem, decide_eq_true_eq] at h
    simp only [BK.ren, big_pos h]
  | map es c =>
    simp only [BK.inB, List.all_eq_true] at h
    simp only [BK.ren, List.map_map]
    congr 1
    conv => rhs; rw [← List.map_id es]
    apply List.map_congr_left
    intro e he
    obtain ⟨a, b, c⟩ := e
    simp only [Function.comp, id, V0.back (h _ he)]
  | _ => rfl

theorem blks_back {F : List Nat} {top : Nat} {l : List Blk} (h : l.all (Blk.inB F) = true) : (l.map (Blk.ren (posIn F))).map (Blk.ren (bigIn F top)) = l := by
  induction l with
  | nil => rfl
  | cons c l ih =>
    simp only [List.all_cons, Bool.and_eq_true, Blk.inB] at h
    simp only [List.map_cons]
    rw [ih (by simpa [Blk.inB] using h.2)]
    congr 1
    simp only [Blk.ren, cells_back h.1.1, BK.back h.1.2]

theorem fillK_length : ∀ (ks : List Bool) (bs ms : List Blk), (fillK ks bs ms).length = ms.length
  | true :: ks, b :: bs, m :: ms => by simp [fillK, fillK_length ks bs ms]
  | false :: ks, b :: bs, m :: ms => by simp [fillK, fillK_length ks bs ms]
  | [], _, _ => by simp [fillK]
  | _ :: _, [], _ => by simp [fillK]
  | true :: _, _ :: _, [] => by simp [fillK]
  | false :: _, _ :: _, [] => by simp [fillK]

theorem bigId_in {F : List Nat} {id top i : Nat} (h : i < F.length) : bigId F id i = bigIn F top i := by
  unfold bigId bigIn
  rw [List.getElem?_eq_getElem h]
  rfl

/-- What is kept may be laid again. -/
theorem app_keep (F : List Nat) (id : Nat) (hnd : F.Nodup) : ∀ (ks : List Bool) (bs ms : List Blk) (j : Nat) (m : Mem), (∀ i b, bs[i]? = some b → j + i < F.length ∧ m[bigId F id (j + i)]? = some (some (b.ren (bigId F id)))) →
    m.app (ups F id j (fillK ks bs ms)) = m.app (upsK F id ks j bs ms)
  | true :: ks, b :: bs, x :: ms, j, m, h => by
    simp only [fillK, upsK, ups, Mem.app]
    have h0 := h 0 b rfl
    simp only [Nat.add_zero] at h0
    have : m.set (bigId F id j) (some (b.ren (bigId F id))) = m := by
      apply List.ext_getElem?
      intro i
      rw [List.getElem?_set]
      split
      · rename_i e
        subst e
        split
        · exact h0.2.symm
        · rename_i hlt
          rw [List.getElem?_eq_none (by omega)]
      · rfl
    rw [this]
    exact app_keep F id hnd ks bs ms (j + 1) m fun i b' hb => by
      have := h (i + 1) b' (by simpa using hb)
      simpa [Nat.add_assoc, Nat.add_comm 1 i] using this
  | false :: ks, b :: bs, x :: ms, j, m, h => by
    simp only [fillK, upsK, ups, Mem.app]
    refine app_keep F id hnd ks bs ms (j + 1) _ fun i b' hb => ?_
    have h1 := h (i + 1) b' (by simpa using hb)
    have h0 := h 0 b rfl
    have e : j + (i + 1) = j + 1 + i := by omega
    rw [e] at h1
    refine ⟨h1.1, ?_⟩
    rw [List.getElem?_set_ne, h1.2]
    intro he
    have a1 : j < F.length := by have := h0.1; omega
    have a2 := h1.1
    rw [bigId_in (top := 0) a1, bigId_in (top := 0) a2] at he
    unfold bigIn at he
    rw [List.getElem?_eq_getElem a1, List.getElem?_eq_getElem a2] at he
    simp only [Option.getD_some] at he
    have := (List.getElem_inj hnd).1 he
    omega
  | [], _, _, _, _, _ => by simp [fillK, upsK]
  | _ :: _, [], _, _, _, _ => by simp [fillK, upsK]
  | true :: _, _ :: _, [], _, _, _ => by simp [fillK, upsK]
  | false :: _, _ :: _, [], _, _, _ => by simp [fillK, upsK]

theorem Blk.back' {F : List Nat} {i0 : Nat} {b : Blk} (h : b.inB F = true) : (b.ren (posIn F)).ren (bigId F i0) = b := by
  have hl : ∀ x, x ∈ F → bigId F i0 (posIn F x) = x := by
    intro x hx
    unfold bigId
    rw [posIn_spec hx]
    rfl
  have hc : ∀ c : Cell, c.inB F = true → (c.ren (posIn F)).ren (bigId F i0) = c := by
    intro c h
    cases c <;> simp only [Cell.inB, List.contains_eq_mem, decide_eq_true_eq, Bool.and_eq_true] at h <;> simp only [Cell.ren]
    · rw [hl _ h]
    · rw [hl _ h]
    · rw [hl _ h.1, hl _ h.2]
    · rw [hl _ h]
  have hcs : ∀ l : List Cell, l.all (Cell.inB F) = true → (l.map (Cell.ren (posIn F))).map (Cell.ren (bigId F i0)) = l := by
    intro l h
    induction l with
    | nil => rfl
    | cons c l ih =>
      simp only [List.all_cons, Bool.and_eq_true] at h
      simp only [List.map_cons]
      rw [hc _ h.1, ih h.2]
  have hv : ∀ v : V0, v.inB F = true → (v.ren (posIn F)).ren (bigId F i0) = v := by
    intro v h
    cases v with
    | c x => simp only [V0.ren]; rw [hc _ h]
    | agg l => simp only [V0.ren]; rw [hcs _ h]
  have hk : (b.kind.ren (posIn F)).ren (bigId F i0) = b.kind := by
    simp only [Blk.inB, Bool.and_eq_true] at h
    have h := h.2
    cases hkd : b.kind with
    | opened s =>
      rw [hkd] at h
      simp only [BK.inB, List.contains_eq_mem, decide_eq_true_eq] at h
      simp only [BK.ren, hl _ h]
    | map es c =>
      rw [hkd] at h
      simp only [BK.inB, List.all_eq_true] at h
      simp only [BK.ren, List.map_map]
      congr 1
      conv => rhs; rw [← List.map_id es]
      apply List.map_congr_left
      intro e he
      obtain ⟨a, b, c⟩ := e
      simp only [Function.comp, id, hv _ (h _ he)]
    | _ => rfl
  simp only [Blk.inB, Bool.and_eq_true] at h
  obtain ⟨cells, ty, ro, kind, glob⟩ := b
  simp only [Blk.ren] at hk ⊢
  rw [hcs _ h.1, hk]

/-- So it is with a call's blocks. -/
theorem app_keep_call {m : Mem} {F : List Nat} {id : Nat} {bs ms : List Blk} {ks : List Bool} (hlook : lookB m F = some bs) (hnd : nodupB F = true) (hin : bs.all (Blk.inB F) = true) :
    m.app (ups F id 0 (fillK ks (bs.map (Blk.ren (posIn F))) ms)) = m.app (upsK F id ks 0 (bs.map (Blk.ren (posIn F))) ms) := by
  obtain ⟨hlen, hF⟩ := lookB_spec hlook
  refine app_keep F id (nodupB_spec hnd) ks _ ms 0 m fun i b hb => ?_
  rw [List.getElem?_map] at hb
  cases hbi : bs[i]? with
  | none => rw [hbi] at hb; simp at hb
  | some b0 =>
    rw [hbi] at hb
    simp only [Option.map_some, Option.some.injEq] at hb
    subst hb
    have hi : i < F.length := by
      rcases Nat.lt_or_ge i F.length with h' | h'
      · exact h'
      · rw [← hlen] at h'; simp [List.getElem?_eq_none h'] at hbi
    rw [Nat.zero_add]
    refine ⟨hi, ?_⟩
    obtain ⟨b', h1, h2⟩ := hF i F[i] (by simp [hi])
    rw [hbi] at h1
    simp only [Option.some.injEq] at h1
    subst h1
    rw [Blk.back' (List.all_eq_true.1 hin _ (List.mem_of_getElem? hbi)), bigId_in (top := 0) hi]
    unfold bigIn
    rw [List.getElem?_eq_getElem hi]
    exact h2

theorem frame_call (hr : Rep w0 np ν m w) {F : List Nat} {cargs : List AV} {mem0 : List Blk} {res : AV} {mem : List Blk} {id : Nat} {bs : List Blk} {args : List AV} {k : FuncId} {vs : Array Value}
    (hlook : lookB m F = some bs) (hnd : nodupB F = true) (hfree : freeIds m id (mem.length - F.length) = true) (hro : roSame bs mem = true)
    (hargs : args = cargs.map (AV.ren (bigIn F m.length))) (hbs : bs = mem0.map (Blk.ren (bigIn F m.length)))
    (hlv : bs.all (fun b => b.ro || b.live) = true) (hgh : mem.all (fun b => b.ro || !b.ghost) = true) (hfn : Con P k cargs mem0 res mem) (hvs : DenAL ν args vs.toList) :
    Invk P k vs w fun x w' => ∃ ν', NV.le ν ν' ∧ (res.ren (bigId F id)).Den ν' x ∧ Rep w0 np ν' (m.app (ups F id 0 mem)) w' := by
  have hnodup := nodupB_spec hnd
  obtain ⟨hlen, hF⟩ := lookB_spec hlook
  have hfr := freeIds_spec hfree
  obtain ⟨hle', hros⟩ := roSame_spec hro
  have hl0 : mem0.length = F.length := by rw [← hlen, hbs]; simp
  -- the small valuation
  let νs : NV := fun i => (F[i]?).bind ν
  have hνtop : ν m.length = none := hr.dom _ (by simp [Mem.at])
  have hin : ∀ b n, ν (bigIn F m.length b) = some n → νs b = some n := by
    intro b n h
    simp only [bigIn] at h
    cases hb : F[b]? with
    | none => rw [hb] at h; simp [hνtop] at h
    | some j => rw [hb] at h; simp at h; simp [νs, hb, h]
  have hblk0 : ∀ (i : Nat) (b : Blk), mem0[i]? = some b → ∃ j n, F[i]? = some j ∧ m[j]? = some (some (b.ren (bigIn F m.length))) ∧ ν j = some n ∧ b.Lies νs w n ∧ b.ro = (b.ren (bigIn F m.length)).ro ∧ (b.ro = false → b.live = true) := by
    intro i b hb
    have hi : i < F.length := by
      have : i < mem0.length := by
        rcases Nat.lt_or_ge i mem0.length with h' | h'
        · exact h'
        · simp [List.getElem?_eq_none h'] at hb
      omega
    obtain ⟨b', h1, h2⟩ := hF i F[i] (by simp [hi])
    rw [hbs] at h1
    rw [List.getElem?_map, hb] at h1
    simp only [Option.map_some, Option.some.injEq] at h1
    subst h1
    obtain ⟨n, h3, h4⟩ := hr.blk _ _ (at_of_get h2)
    refine ⟨F[i], n, by simp [hi], h2, h3, Lies.unren hin h4, rfl, fun hbro => ?_⟩
    have hmem : b.ren (bigIn F m.length) ∈ bs := by rw [hbs]; exact List.mem_map.2 ⟨b, List.mem_of_getElem? hb, rfl⟩
    have := List.all_eq_true.1 hlv _ hmem
    rw [ren_live] at this
    have hro2 : (b.ren (bigIn F m.length)).ro = false := hbro
    simpa [hro2] using this
  have hrs : Rep w mem0.length νs (mem0.map some) w := by
    refine ⟨rfl, rfl, rfl, Nat.le_refl _, ?_, ?_, ?_, ?_, ?_, fun _ _ _ => rfl⟩
    · intro i b hb
      rw [at_map_some] at hb
      obtain ⟨j, n, h1, h2, h3, h4, _, _⟩ := hblk0 i b hb
      exact ⟨n, by simp [νs, h1, h3], h4⟩
    · intro i b n hb _ hi _
      rw [at_map_some] at hb
      exfalso
      rcases Nat.lt_or_ge i mem0.length with h' | h'
      · omega
      · simp [List.getElem?_eq_none h'] at hb
    · intro i b hb hi _
      rw [at_map_some] at hb
      exfalso
      rcases Nat.lt_or_ge i mem0.length with h' | h'
      · omega
      · simp [List.getElem?_eq_none h'] at hb
    · intro i hi
      rw [at_map_none] at hi
      simp [νs, List.getElem?_eq_none (show F.length ≤ i by omega)]
    · intro i j bi bj n hi hj hij hbro hli hlj hn
      rw [at_map_some] at hi hj
      obtain ⟨x, nx, h1, h2, h3, _, h5, _⟩ := hblk0 i bi hi
      obtain ⟨y, ny, k1, k2, k3, _, _, _⟩ := hblk0 j bj hj
      simp only [νs, h1, Option.bind_some, h3, Option.some.injEq] at hn
      subst hn
      simp only [νs, k1, Option.bind_some]
      refine hr.sep x y _ _ nx (at_of_get h2) (at_of_get k2) ?_ (h5 ▸ hbro) (by rw [ren_live]; exact hli) (by rw [ren_live]; exact hlj) h3
      intro e
      subst e
      apply hij
      have hi' : i < F.length := by
        rcases Nat.lt_or_ge i F.length with h' | h'
        · exact h'
        · simp [List.getElem?_eq_none h'] at h1
      exact (List.getElem?_inj hi' hnodup).1 (h1.trans k1.symm)
  have hargs' : DenAL νs cargs vs.toList := (hargs ▸ hvs).unren hin
  have hcall := hfn w νs vs hrs hargs'
  -- what follows behind the call
  have main : ∀ x w', (∃ ν', NV.le νs ν' ∧ res.Den ν' x ∧ Rep w mem0.length ν' (mem.map some) w') →
      ∃ ν', NV.le ν ν' ∧ (res.ren (bigId F id)).Den ν' x ∧ Rep w0 np ν' (m.app (ups F id 0 mem)) w' := by
    intro x w' ⟨νs', hle, hres, hrep⟩
    let N := mem.length - F.length
    let ν' : NV := fun i => if id ≤ i ∧ i < id + N then νs' (F.length + (i - id)) else ν i
    have hnew : ∀ i, id ≤ i → i < id + N → ν i = none := fun i h1 h2 => hr.dom i (at_of_get (hfr i h1 h2))
    have hleν : NV.le ν ν' := by
      intro i n h
      by_cases hi : id ≤ i ∧ i < id + N
      · rw [hnew i hi.1 hi.2] at h; simp at h
      · simp only [ν', if_neg hi]; exact h
    have hlm : F.length ≤ mem.length := by omega
    have hFold : ∀ i (h : i < F.length), ¬ (id ≤ F[i] ∧ F[i] < id + N) := by
      intro i h hh
      obtain ⟨b, _, hb⟩ := hF i F[i] (by simp [h])
      have := hfr F[i] hh.1 hh.2
      rw [hb] at this
      simp at this
    have hsm : ∀ i (h : i < F.length), ∃ n, ν F[i] = some n ∧ νs' i = some n := by
      intro i h
      have hm : i < mem0.length := by omega
      obtain ⟨j, n, h1, _, h3, _⟩ := hblk0 i mem0[i] (by simp [hm])
      have : F[i] = j := by simpa [h] using h1
      rw [this]
      exact ⟨n, h3, hle i n (by simp [νs, h1, h3])⟩
    have hbig : ∀ i, i < mem.length → ν' (bigId F id i) = νs' i := by
      intro i hi
      by_cases h : i < F.length
      · rw [bigId_lt h]
        obtain ⟨n, h1, h2⟩ := hsm i h
        simp only [ν', if_neg (hFold i h), h1, h2]
      · have h : F.length ≤ i := by omega
        rw [bigId_ge h]
        have : id ≤ id + (i - F.length) ∧ id + (i - F.length) < id + N := ⟨by omega, by omega⟩
        simp only [ν', if_pos this]
        congr 1
        omega
    have hdomS : ∀ i n, νs' i = some n → i < mem.length := by
      intro i n h
      rcases Nat.lt_or_ge i mem.length with h' | h'
      · exact h'
      · have := hrep.dom i (at_map_none.2 h')
        rw [h] at this
        simp at this
    have hren : ∀ b n, νs' b = some n → ν' (bigId F id b) = some n := fun b n h => by rw [hbig b (hdomS b n h), h]
    have hbl : ∀ i, i < mem.length → bigId F id i < m.length := by
      intro i hi
      by_cases h : i < F.length
      · rw [bigId_lt h]
        obtain ⟨b, _, hb⟩ := hF i F[i] (by simp [h])
        exact get_lt hb
      · have h : F.length ≤ i := by omega
        rw [bigId_ge h]
        exact get_lt (hfr _ (by omega) (by omega))
    have hinj : ∀ i j, i < mem.length → j < mem.length → bigId F id i = bigId F id j → i = j := by
      intro i j hi hj e
      by_cases h : i < F.length
      · by_cases h' : j < F.length
        · rw [bigId_lt h, bigId_lt h'] at e
          exact (List.getElem?_inj h hnodup).1 (by simp [h, h', e])
        · have h' : F.length ≤ j := by omega
          rw [bigId_lt h, bigId_ge h'] at e
          exact (hFold i h ⟨by omega, by omega⟩).elim
      · have h : F.length ≤ i := by omega
        by_cases h' : j < F.length
        · rw [bigId_ge h, bigId_lt h'] at e
          exact (hFold j h' ⟨by omega, by omega⟩).elim
        · have h' : F.length ≤ j := by omega
          rw [bigId_ge h, bigId_ge h'] at e
          omega
    obtain ⟨hat, hatn⟩ := app_ups F id mem 0 m (by simpa using hbl) (by simpa using hinj)
    simp only [Nat.zero_add] at hat hatn
    -- every block of the new memory
    have hcase : ∀ j b, (m.app (ups F id 0 mem)).at j = some b →
        (∃ i, ∃ h : i < mem.length, bigId F id i = j ∧ b = mem[i].ren (bigId F id)) ∨ ((∀ i, i < mem.length → bigId F id i ≠ j) ∧ m.at j = some b) := by
      intro j b hj
      by_cases h : ∃ i, i < mem.length ∧ bigId F id i = j
      · obtain ⟨i, hi, rfl⟩ := h
        rw [hat i hi] at hj
        simp only [Option.some.injEq] at hj
        exact .inl ⟨i, hi, rfl, hj.symm⟩
      · have h' : ∀ i, i < mem.length → bigId F id i ≠ j := fun i hi e => h ⟨i, hi, e⟩
        rw [hatn j h'] at hj
        exact .inr ⟨h', hj⟩
    have hout : ∀ j, (∀ i, i < mem.length → bigId F id i ≠ j) → ν' j = ν j := by
      intro j hj
      by_cases hi : id ≤ j ∧ j < id + N
      · exact (hj (F.length + (j - id)) (by omega) (by rw [bigId_ge (by omega)]; omega)).elim
      · simp only [ν', if_neg hi]
    have hlies : ∀ i (h : i < mem.length), ∃ n, νs' i = some n ∧ mem[i].Lies νs' w' n := fun i h =>
      hrep.blk i mem[i] (at_map_some.2 (by simp [h]))
    -- what is known of a block handed in that is written
    have hfoot : ∀ i n (h : i < F.length) (hi : i < mem.length), mem[i].ro = false → νs' i = some n → ∃ bb, m[F[i]]? = some (some bb) ∧ bb.ro = false ∧ bb.live = true ∧ ν F[i] = some n := by
      intro i n h hil hbro hc
      have hm : i < mem0.length := by omega
      obtain ⟨x, nx, k1, k2, k3, _, k5, k6⟩ := hblk0 i mem0[i] (by simp [hm])
      obtain ⟨n2, e1, e2⟩ := hsm i h
      rw [hc] at e2
      simp only [Option.some.injEq] at e2
      subst e2
      have hx : F[i] = x := by simpa [h] using k1
      have hbsi : bs[i]? = some (mem0[i].ren (bigIn F m.length)) := by rw [hbs]; simp [hm]
      have := (hros i _ mem[i] hbsi (by simp [hil])).1
      have hro2 : (mem0[i].ren (bigIn F m.length)).ro = false := by rw [this]; exact hbro
      exact ⟨_, by rw [hx]; exact k2, hro2, by rw [ren_live]; exact k6 hro2, e1⟩
    have hghost : ∀ i (h : i < mem.length), mem[i].ghost = true → mem[i].ro = false → False := by
      intro i h h1 h2
      have := List.all_eq_true.1 hgh mem[i] (List.getElem_mem h)
      simp [h1, h2] at this
    have hpair : ∀ i (h : i < F.length) (hi : i < mem.length) (hm : i < mem0.length), mem0[i].ghost = mem[i].ghost ∧ (mem[i].live = true → mem0[i].live = true) := by
      intro i h hi hm
      have hbsi : bs[i]? = some (mem0[i].ren (bigIn F m.length)) := by rw [hbs]; simp [hm]
      have := (hros i _ mem[i] hbsi (by simp [hi])).2
      rwa [ren_ghost, ren_live] at this
    have hgfoot : ∀ i (h : i < F.length) (hi : i < mem.length) (hm : i < mem0.length), mem0[i].ghost = true → mem[i].ghost = false → False := by
      intro i h hi hm h1 h2
      rw [(hpair i h hi hm).1, h2] at h1
      simp at h1
    have hlfoot : ∀ i (h : i < F.length) (hi : i < mem.length) (hm : i < mem0.length), mem[i].live = true → mem0[i].live = true := fun i h hi hm => (hpair i h hi hm).2
    -- where the callee's own blocks lie
    have hnewS : ∀ i n (_ : F.length ≤ i) (hi : i < mem.length), mem[i].ghost = false → νs' i = some n → w.heap.size ≤ n ∨ ∃ j, ∃ h : j < F.length, ∃ bb, m[F[j]]? = some (some bb) ∧ bb.ro = false ∧ bb.live = true ∧ ν F[j] = some n := by
      intro i n hge hi hg hc
      rcases hrep.new i mem[i] n (at_map_some.2 (by simp [hi])) hg (by omega) hc with h | ⟨j, bj, h1, h2, h3, h4⟩
      · exact .inl h
      · rw [at_map_some] at h2
        have hj : j < mem.length := by omega
        have hbj : bj = mem[j] := by simpa [hj] using h2.symm
        subst hbj
        exact .inr ⟨j, by omega, hfoot j n (by omega) hj h3 h4⟩
    -- an old block that is not handed in stays
    have hapart : ∀ j b n i, (∀ i, i < mem.length → bigId F id i ≠ j) → m.at j = some b → b.live = true → ν j = some n → (hi : i < mem.length) → mem[i].ro = false → mem[i].ghost = false → νs' i ≠ some n := by
      intro j b n i hj hb hlive hn hil hbro hg hc
      obtain ⟨n', h1, h2⟩ := hr.blk j b hb
      rw [hn] at h1
      simp only [Option.some.injEq] at h1
      subst h1
      have hlt := h2.lt (live_ghost hlive)
      have hF2 : ∀ i (h : i < F.length) bb, m[F[i]]? = some (some bb) → bb.ro = false → bb.live = true → ν F[i] = some n → False := by
        intro i h bb k2 k3 k4 k5
        refine hr.sep F[i] j bb b n (at_of_get k2) hb ?_ k3 k4 hlive k5 hn
        intro e
        exact hj i (by omega) (by rw [bigId_lt h, e])
      by_cases h : i < F.length
      · obtain ⟨bb, k2, k3, k4, k5⟩ := hfoot i n h hil hbro hc
        exact hF2 i h bb k2 k3 k4 k5
      · rcases hnewS i n (by omega) hil hg hc with h' | ⟨j', h', bb, k2, k3, k4, k5⟩
        · omega
        · exact hF2 j' h' bb k2 k3 k4 k5
    have hstay : ∀ j b n, (∀ i, i < mem.length → bigId F id i ≠ j) → m.at j = some b → b.live = true → ν j = some n → w'.heap[n]? = w.heap[n]? := by
      intro j b n hj hb hlive hn
      obtain ⟨n', h1, h2⟩ := hr.blk j b hb
      rw [hn] at h1
      simp only [Option.some.injEq] at h1
      subst h1
      refine hrep.keep n (h2.lt (live_ghost hlive)) fun i bi hi hbro hc => ?_
      rw [at_map_some] at hi
      have hil : i < mem.length := hdomS i n hc
      have hbi : bi = mem[i] := by simpa [hil] using hi.symm
      subst hbi
      by_cases h : i < F.length
      · obtain ⟨bb, k2, k3, k4, k5⟩ := hfoot i n h hil hbro hc
        refine hr.sep F[i] j bb b n (at_of_get k2) hb ?_ k3 k4 hlive k5 hn
        intro e
        exact hj i hil (by rw [bigId_lt h, e])
      · by_cases hg : mem[i].ghost = true
        · exact hghost i hil hg hbro
        · exact hapart j b n i hj hb hlive hn hil hbro (by simpa using hg) hc
    refine ⟨ν', hleν, hres.ren hren, hrep.os.trans hr.os, hrep.tape.trans hr.tape, hrep.output.trans hr.output, Nat.le_trans hr.size hrep.size, ?_, ?_, ?_, ?_, ?_, ?_⟩
    · intro j b hj
      rcases hcase j b hj with ⟨i, hi, rfl, rfl⟩ | ⟨hj', hb⟩
      · obtain ⟨n, h1, h2⟩ := hlies i hi
        exact ⟨n, by rw [hbig i hi, h1], Lies.ren hren h2⟩
      · obtain ⟨n, h1, h2⟩ := hr.blk j b hb
        exact ⟨n, by rw [hout j hj', h1], (h2.mono hleν).world hrep.size fun hlive => hstay j b n hj' hb hlive h1⟩
    · intro j b n hj hg hnp hn
      -- an old writable argument of the caller's keeps its place
      have hup : (∃ x bx, x < np ∧ m.at x = some bx ∧ bx.ro = false ∧ ν x = some n) → ∃ x bx, x < np ∧ (m.app (ups F id 0 mem)).at x = some bx ∧ bx.ro = false ∧ ν' x = some n := by
        rintro ⟨x, bx, h1, h2, h3, h4⟩
        by_cases h : ∃ i, i < mem.length ∧ bigId F id i = x
        · obtain ⟨i, hi, rfl⟩ := h
          have hiF : i < F.length := by
            rcases Nat.lt_or_ge i F.length with h' | h'
            · exact h'
            · rw [bigId_ge h'] at h2 h4
              rw [hnew _ (by omega) (by omega)] at h4
              simp at h4
          refine ⟨_, _, h1, hat i hi, ?_, hleν _ _ h4⟩
          have hm : i < mem0.length := by omega
          obtain ⟨x, nx, k1, k2, k3, _, k5, _⟩ := hblk0 i mem0[i] (by simp [hm])
          have hx : F[i] = x := by simpa [hiF] using k1
          have hbsi : bs[i]? = some (mem0[i].ren (bigIn F m.length)) := by rw [hbs]; simp [hm]
          have hr2 := (hros i _ mem[i] hbsi (by simp [hi])).1
          rw [bigId_lt hiF, hx, at_of_get k2] at h2
          simp only [Option.some.injEq] at h2
          subst h2
          show mem[i].ro = false
          rw [← hr2]; exact h3
        · have h' : ∀ i, i < mem.length → bigId F id i ≠ x := fun i hi e => h ⟨i, hi, e⟩
          exact ⟨x, bx, h1, by rw [hatn x h']; exact h2, h3, by rw [hout x h']; exact h4⟩
      rcases hcase j b hj with ⟨i, hi, rfl, rfl⟩ | ⟨hj', hb⟩
      · rw [hbig i hi] at hn
        rw [ren_ghost] at hg
        by_cases h : i < F.length
        · have hm : i < mem0.length := by omega
          obtain ⟨x, nx, k1, k2, k3, k4, _, _⟩ := hblk0 i mem0[i] (by simp [hm])
          have hx : F[i] = x := by simpa [h] using k1
          obtain ⟨n2, e1, e2⟩ := hsm i h
          rw [hn] at e2
          simp only [Option.some.injEq] at e2
          subst e2
          rw [bigId_lt h, hx] at hnp
          by_cases hgo : (mem0[i].ren (bigIn F m.length)).ghost = true
          · exact (hgfoot i h hi hm (by rw [ren_ghost] at hgo; exact hgo) hg).elim
          · rcases hr.new x _ n (at_of_get k2) (by simpa using hgo) hnp (hx ▸ e1) with h' | h'
            · exact .inl h'
            · exact .inr (hup h')
        · rcases hnewS i n (by omega) hi hg hn with h' | ⟨j', h', bb, k2, k3, k4, k5⟩
          · exact .inl (Nat.le_trans hr.size h')
          · by_cases hj' : F[j'] < np
            · exact .inr (hup ⟨F[j'], bb, hj', at_of_get k2, k3, k5⟩)
            · rcases hr.new F[j'] bb n (at_of_get k2) (live_ghost k4) (by omega) k5 with h'' | h''
              · exact .inl h''
              · exact .inr (hup h'')
      · rw [hout j hj'] at hn
        rcases hr.new j b n hb hg hnp hn with h' | h'
        · exact .inl h'
        · exact .inr (hup h')
    · intro j b hj hnp hg
      rcases hcase j b hj with ⟨i, hi, rfl, rfl⟩ | ⟨hj', hb⟩
      · rw [ren_ghost] at hg
        have := List.all_eq_true.1 hgh mem[i] (List.getElem_mem hi)
        show mem[i].ro = true
        simpa [hg] using this
      · exact hr.gro j b hb hnp hg
    · intro j hj
      by_cases h : ∃ i, i < mem.length ∧ bigId F id i = j
      · obtain ⟨i, hi, rfl⟩ := h
        rw [hat i hi] at hj
        simp at hj
      · have h' : ∀ i, i < mem.length → bigId F id i ≠ j := fun i hi e => h ⟨i, hi, e⟩
        rw [hatn j h'] at hj
        rw [hout j h']
        exact hr.dom j hj
    · intro j1 j2 b1 b2 n h1 h2 hne hbro hl1 hl2 hn
      rcases hcase j1 b1 h1 with ⟨i1, hi1, rfl, rfl⟩ | ⟨hj1, hb1⟩
      · rw [ren_live] at hl1
        rcases hcase j2 b2 h2 with ⟨i2, hi2, rfl, rfl⟩ | ⟨hj2, hb2⟩
        · rw [hbig i1 hi1] at hn
          rw [hbig i2 hi2]
          rw [ren_live] at hl2
          exact hrep.sep i1 i2 mem[i1] mem[i2] n (at_map_some.2 (by simp [hi1])) (at_map_some.2 (by simp [hi2])) (fun e => hne (by rw [e])) hbro hl1 hl2 hn
        · rw [hbig i1 hi1] at hn
          rw [hout j2 hj2]
          intro hc
          exact hapart j2 b2 n i1 hj2 hb2 hl2 hc hi1 hbro (live_ghost hl1) hn
      · rcases hcase j2 b2 h2 with ⟨i2, hi2, rfl, rfl⟩ | ⟨hj2, hb2⟩
        · rw [ren_live] at hl2
          rw [hout j1 hj1] at hn
          rw [hbig i2 hi2]
          intro hc
          by_cases h : i2 < F.length
          · have hm : i2 < mem0.length := by omega
            obtain ⟨x, nx, k1, k2, k3, _, _, _⟩ := hblk0 i2 mem0[i2] (by simp [hm])
            have hx : F[i2] = x := by simpa [h] using k1
            obtain ⟨n2, f1, f2⟩ := hsm i2 h
            rw [hc] at f2
            simp only [Option.some.injEq] at f2
            subst f2
            rw [hx] at f1
            exact hr.sep j1 x b1 _ n hb1 (at_of_get k2) (fun e => hj1 i2 hi2 (by rw [bigId_lt h, hx, e])) hbro hl1 (by rw [ren_live]; exact hlfoot i2 h hi2 hm hl2) hn f1
          · rcases hnewS i2 n (by omega) hi2 (live_ghost hl2) hc with h' | ⟨j', h', bb, k2, k3, k4, k5⟩
            · obtain ⟨n', e1, e2⟩ := hr.blk j1 b1 hb1
              rw [hn] at e1
              simp only [Option.some.injEq] at e1
              subst e1
              have := e2.lt (live_ghost hl1)
              omega
            · exact hr.sep j1 F[j'] b1 bb n hb1 (at_of_get k2) (fun e => hj1 j' (by omega) (by rw [bigId_lt h', e])) hbro hl1 k4 hn k5
        · rw [hout j1 hj1] at hn
          rw [hout j2 hj2]
          exact hr.sep j1 j2 b1 b2 n hb1 hb2 hne hbro hl1 hl2 hn
    · intro n hn hkeep
      have e1 : w'.heap[n]? = w.heap[n]? := by
        refine hrep.keep n (Nat.lt_of_lt_of_le hn hr.size) fun i bi hi hbro hc => ?_
        have hil : i < mem.length := hdomS i n hc
        rw [at_map_some] at hi
        have hbi : bi = mem[i] := by simpa [hil] using hi.symm
        subst hbi
        exact hkeep (bigId F id i) _ (hat i hil) hbro (by rw [hbig i hil, hc])
      rw [e1]
      refine hr.keep n hn fun j b hb hbro hc => ?_
      by_cases h : ∃ i, i < mem.length ∧ bigId F id i = j
      · obtain ⟨i, hi, rfl⟩ := h
        have hiF : i < F.length := by
          rcases Nat.lt_or_ge i F.length with h' | h'
          · exact h'
          · rw [bigId_ge h'] at hb hc
            rw [hnew _ (by omega) (by omega)] at hc
            simp at hc
        have hm : i < mem0.length := by omega
        obtain ⟨x, nx, k1, k2, k3, _, k5, _⟩ := hblk0 i mem0[i] (by simp [hm])
        have hx : F[i] = x := by simpa [hiF] using k1
        have hbsi : bs[i]? = some (mem0[i].ren (bigIn F m.length)) := by rw [hbs]; simp [hm]
        have hr2 := (hros i _ mem[i] hbsi (by simp [hi])).1
        rw [bigId_lt hiF, hx, at_of_get k2] at hb
        simp only [Option.some.injEq] at hb
        subst hb
        refine hkeep (bigId F id i) _ (hat i hi) (by show mem[i].ro = false; rw [← hr2]; exact hbro) ?_
        exact hleν _ _ hc
      · have h' : ∀ i, i < mem.length → bigId F id i ≠ j := fun i hi e => h ⟨i, hi, e⟩
        exact hkeep j b (by rw [hatn j h']; exact hb) hbro (by rw [hout j h', hc])
  rcases hcall with ⟨j, h1, h2⟩ | ⟨x, h1, h2⟩
  · exact .inl ⟨j, h1, h2.mono fun e w' ⟨x, he, hx⟩ => ⟨x, he, main x w' hx⟩⟩
  · exact .inr ⟨x, h1, main x w h2⟩

end
end Go.Rx
