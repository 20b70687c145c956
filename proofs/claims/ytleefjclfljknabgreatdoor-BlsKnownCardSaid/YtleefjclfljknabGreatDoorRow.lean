/-
'BlsKnown' answers true: the row's statement out of the root's contract, and its tied card.
-/
import Derived.Test.YtleefjclfljknabGreatDoorC23
import Derived.Test.YtleefjclfljknabGreatDoorRows
import Derived.Test.YtleefjclfljknabGreatDoorTie
import Derived.Test.YtleefjclfljknabGreatDoorCards
import Derived.ChangeSame
import Derived.ChangeVars
import Derived.JoinedOf
import Derived.RowKit
import Derived.RowKitTokens
import Derived.LaidLaws
import Derived.SevenTiedAt
import Derived.LaidHandle
import Derived.Stop.Joined
namespace Go.Proofs.YtleefjclfljknabGreatDoor
open Go.ChangeShapes Go.WideShapes Go.RowKit Go.Rx

def K : List Nat := [1116352408, 1899447441, 3049323471, 3921009573, 961987163, 1508970993, 2453635748, 2870763221, 3624381080, 310598401, 607225278, 1426881987, 1925078388, 2162078206, 2614888103, 3248222580, 3835390401, 4022224774, 264347078, 604807628, 770255983, 1249150122, 1555081692, 1996064986, 2554220882, 2821834349, 2952996808, 3210313671, 3336571891, 3584528711, 113926993, 338241895, 666307205, 773529912, 1294757372, 1396182291, 1695183700, 1986661051, 2177026350, 2456956037, 2730485921, 2820302411, 3259730800, 3345764771, 3516065817, 3600352804, 4094571909, 275423344, 430227734, 506948616, 659060556, 883997877, 958139571, 1322822218, 1537002063, 1747873779, 1955562222, 2024104815, 2227730452, 2361852424, 2428436474, 2756734187, 3204031479, 3329325298]
def kVal (n : Nat) : Value := .int .u32 (.ofNat n)
def kLit {H : Type} (n : Nat) : DataW H := .lit (.int .u32 (.ofNat n))
def kCells : Array Value := (K.map kVal).toArray

theorem den_Z {ν : NV} : ∀ l : List Nat, DenL ν (Z l) (l.map kVal)
  | [] => trivial
  | _ :: l => ⟨⟨rfl, trivial⟩, den_Z l⟩

theorem root_m : c1919.m = [⟨Z K, 308, true, .exact, some 0⟩] := by kernel_rfl
theorem root_out : c1919.out = [⟨Z K, 308, true, .exact, some 0⟩] := by kernel_rfl
theorem root_r : c1919.r = .one (.c tt) := by kernel_rfl
theorem root_k : c1919.k = 3 := by kernel_rfl
theorem root_args : c1919.args = [] := by kernel_rfl

/-- The walk. -/
theorem known_calls (W : World) {fz : Nat × Nat} (hk : W.heap[0]? = some (.cells kCells 308 fz)) :
    Calls P 3 #[] W fun e w' => e = .returned (.bool true) ∧ W.keptBut w' (fun _ => False) := by
  have h : Con P c1919.k c1919.args c1919.m c1919.r c1919.out := hc1919
  rw [root_k, root_args, root_m, root_r, root_out] at h
  have hrep : Rep W 1 (fun i => if i = 0 then some 0 else none) ([(⟨Z K, 308, true, .exact, some 0⟩ : Blk)].map some) W := by
    have hat : ∀ (i : Nat) (b : Blk), Mem.at ([(⟨Z K, 308, true, .exact, some 0⟩ : Blk)].map some) i = some b → i = 0 ∧ b = ⟨Z K, 308, true, .exact, some 0⟩ := by
      intro i b h
      cases i with
      | zero => simp [Mem.at] at h; exact ⟨rfl, h.symm⟩
      | succ i => simp [Mem.at] at h
    refine ⟨rfl, rfl, rfl, Nat.le_refl _, ?_, ?_, ?_, ?_, ?_, fun _ _ _ => rfl⟩
    · intro i b hb
      obtain ⟨rfl, rfl⟩ := hat i b hb
      refine ⟨0, rfl, fun g hg => by simpa using hg, ?_⟩
      exact ⟨kCells, fz, K.map kVal, [], hk, by simp [kCells], den_Z K, fun h => by simp at h, rfl⟩
    · intro i b n hb _ hi
      obtain ⟨rfl, _⟩ := hat i b hb
      omega
    · intro i b hb hi
      obtain ⟨rfl, _⟩ := hat i b hb
      omega
    · intro i hi
      cases i with
      | zero => simp [Mem.at] at hi
      | succ i => rfl
    · intro i j bi bj n hi hj hij
      obtain ⟨rfl, _⟩ := hat i bi hi
      obtain ⟨rfl, _⟩ := hat j bj hj
      exact absurd rfl hij
  have hfin : ∀ x w', (∃ ν', NV.le (fun i => if i = 0 then some 0 else none) ν' ∧ (AV.one (.c tt)).Den ν' x ∧ Rep W 1 ν' ([(⟨Z K, 308, true, .exact, some 0⟩ : Blk)].map some) w') → x = .bool true ∧ W.keptBut w' (fun _ => False) := by
    intro x w' ⟨ν', _, hd, hr⟩
    refine ⟨hd.1, hr.os, hr.output, fun i hi => ?_⟩
    have e := hr.keep i hi fun j b hb hro => by
      cases j with
      | zero => simp [Mem.at] at hb; subst hb; simp at hro
      | succ j => simp [Mem.at] at hb
    rw [e]
    exact (World.keptBut_refl W (fun _ => False)).2.2 i hi
  rcases h W _ #[] hrep trivial with ⟨j, h1, h2⟩ | ⟨x, h1, _⟩
  · have := (Tryz.call3 #[] W).symm.trans h1
    simp only [Result.ok.injEq, Next.enter.injEq] at this
    obtain ⟨⟨rfl, _⟩, _⟩ := this
    refine h2.mono fun e w' ⟨x, he, hx⟩ => ?_
    obtain ⟨rfl, h3⟩ := hfin x w' hx
    exact ⟨he, h3⟩
  · have := (Tryz.call3 #[] W).symm.trans h1
    simp at this

theorem int_of_trod {H : Type} {enc : TypeId × Value → H} {P : Program} {w : World} {base : Nat} {sp : Nat → Bool} {held : Bool} {fuel : Nat} {t : TypeId} {k : IntKind} {cs : List Value} {y : DataW H × List MemPlace}
    (ht : P.underlying t = some (.int k)) (h : DataW.trod enc P w base sp held fuel t cs = some y) : ∃ n, cs = [.int k n] ∧ y = (.lit (.int k n), []) := by
  cases fuel with
  | zero => simp [DataW.trod] at h
  | succ fuel =>
    unfold DataW.trod at h
    rw [ht] at h
    match cs, h with
    | [.int k' n], h =>
      simp only [Option.ite_none_right_eq_some, Option.some.injEq] at h
      obtain ⟨⟨rfl, _⟩, rfl⟩ := h
      exact ⟨n, rfl, rfl⟩

theorem mapM_some {α β : Type} {f : α → Option β} : ∀ {l : List α} {xs : List β}, l.mapM f = some xs → xs.length = l.length ∧ ∀ (i : Nat) (a : α), l[i]? = some a → ∃ x, xs[i]? = some x ∧ f a = some x
  | [], xs, h => by simp at h; subst h; simp
  | a :: l, xs, h => by
    simp only [List.mapM_cons, Option.bind_eq_bind, Option.bind_eq_some_iff, Option.pure_def, Option.some.injEq] at h
    obtain ⟨x, hx, ys, hy, rfl⟩ := h
    obtain ⟨h1, h2⟩ := mapM_some hy
    refine ⟨by simp [h1], fun i b hb => ?_⟩
    cases i with
    | zero => simp at hb; subst hb; exact ⟨x, rfl, hx⟩
    | succ i => simpa using h2 i b (by simpa using hb)

/-- What a row of numbers reads as tells its cells. -/
theorem cells_of_ints {H : Type} {enc : TypeId × Value → H} {P : Program} {w : World} {base : Nat} {sp : Nat → Bool} {held : Bool} {fuel : Nat} {t e : TypeId} {k : IntKind} {cs : List Value} {n : Nat} {ds : List Int} {p : List MemPlace}
    (ht : P.underlying t = some (.array n e)) (he : P.underlying e = some (.int k)) (hc : P.cellsOf e = 1) (hn : P.cellsOf t = n) (hd : ds.length = n)
    (h : DataW.trod enc P w base sp held fuel t cs = some (.agg (ds.map fun d => .lit (.int k d)), p)) : cs = ds.map (.int k) := by
  cases fuel with
  | zero => simp [DataW.trod] at h
  | succ fuel =>
    unfold DataW.trod at h
    rw [ht] at h
    simp only [hc, hn, Nat.mul_one, Option.ite_none_right_eq_some, Option.map_eq_some_iff, Prod.mk.injEq, DataW.agg.injEq] at h
    obtain ⟨hl, xs, hxs, hx, _⟩ := h
    obtain ⟨h1, h2⟩ := mapM_some hxs
    simp only [List.length_range] at h1
    apply List.ext_getElem?
    intro i
    rcases Nat.lt_or_ge i n with hi | hi
    · obtain ⟨x, hx1, hx2⟩ := h2 i i (by simp [hi])
      obtain ⟨m, e1, e2⟩ := int_of_trod he hx2
      have e3 := congrArg (fun l : List (DataW H) => l[i]?) hx
      simp only [List.getElem?_map, hx1, Option.map_some, e2] at e3
      have hi2 : i < ds.length := by omega
      have hi3 : i < cs.length := by omega
      rw [List.getElem?_eq_getElem hi2] at e3
      simp only [Option.map_some, Option.some.injEq, DataW.lit.injEq, Lit.int.injEq, true_and] at e3
      rw [List.drop_eq_getElem_cons hi3] at e1
      simp only [List.take_succ_cons, List.take_zero, List.cons.injEq, and_true] at e1
      rw [List.getElem?_map, List.getElem?_eq_getElem hi2, List.getElem?_eq_getElem hi3, e1, e3]
      rfl
    · rw [List.getElem?_eq_none (by omega), List.getElem?_eq_none (by simp; omega)]

theorem k_named : P.globalNamed "reliquary/digest.k" = some 0 := by kernel_rfl
theorem k_type : (P.globals[0]?).map (·.type) = some 308 := by kernel_rfl
theorem k_arr : P.underlying 308 = some (.array 64 281) := by kernel_rfl
theorem k_elt : P.underlying 281 = some (.int .u32) := by kernel_rfl
theorem k_one : P.cellsOf 281 = 1 := by kernel_rfl
theorem k_all : P.cellsOf 308 = 64 := by kernel_rfl

theorem k_zero : ((begin P (fun _ _ => 0) default).world.heap[0]?).bind Obj.row? = some ((Array.replicate 64 (.int .u32 0)), 308) := by kernel_rfl

abbrev laid : List (String × DataW Unit) := [("reliquary/digest.k", Rows.laid_reliquary_digest_k)]

theorem laid_lits {H : Type} : (Rows.laid_reliquary_digest_k : DataW H) = .agg ((K.map Int.ofNat).map fun d => .lit (.int .u32 d)) := by kernel_rfl

/-- What the condition gives the walk: the table's row. -/
theorem row_of_laid {W : World} (hty : W.ShapedOpen P) (h : laidMetH P laid W) : ∃ fz, W.heap[0]? = some (.cells kCells 308 fz) := by
  have h' : laidMet P laid W := h
  obtain ⟨ps, ⟨g, t, cs, fuel, p, q, hg, ht, hvar, hd, _, hps⟩, _, hcell⟩ := h'
  obtain rfl := Option.some.inj (k_named.symm.trans hg)
  obtain rfl := Option.some.inj (k_type.symm.trans ht)
  rw [laid_lits] at hd
  have hcs := cells_of_ints k_arr k_elt k_one k_all (by kernel_rfl) hd
  have hcs' : cs = kCells := by
    apply Array.ext'
    rw [hcs]
    simp only [kCells, List.map_map]
    rfl
  subst hcs'
  have hmem : MemPlace.cell 0 0 ∈ ps := by
    rw [hps]
    have : MemPlace.cell 0 0 ∈ MemPlace.row ⟨0, 0, none⟩ kCells.size := of_decide_eq_true (by kernel_rfl)
    simp [this]
  obtain ⟨⟨c, t, hc⟩, _⟩ := hcell 0 0 hmem
  obtain ⟨c', hc', _⟩ := hty.1 0 _ 308 (of_decide_eq_true (by kernel_rfl)) k_zero
  rw [hc'] at hc
  simp only [Option.some.injEq, Obj.cells.injEq] at hc
  obtain ⟨rfl, rfl, _⟩ := hc
  have hc := hc'
  refine ⟨(0, 0), ?_⟩
  rw [hc]
  have : W.var? P "reliquary/digest.k" = some c' := by
    simp only [World.var?, k_named, hc, Option.bind_some]
  rw [this] at hvar
  rw [← Option.some.inj hvar]


theorem own : ownKnob P.godebug = none := by kernel_rfl

/-- A world that meets the condition. -/
noncomputable def laidWorld (os : Os) : World :=
  { World.holding P os ⟨#[], #[], []⟩ with heap := (World.holding P os ⟨#[], #[], []⟩).heap.modify 0 fun
      | .cells _ t frozen => .cells kCells t frozen
      | o => o }

theorem laidWorld_met (os : Os) : laidMetH P laid ((laidWorld os).forCall (fun _ _ => 0) ⟨#[], #[], []⟩).memory :=
  show laidMet P laid _ from laidMet_of_run' 8 (by kernel_rfl) (by kernel_rfl)

theorem known_lifted (os : Os) (started : os.Started) (H : Type) (enc : TypeId × Value → H) :
    ReturnsInHanded {} Tryz.checked os 3 .any (fun w args => (Rows.blsKnownSpec.pre enc P Tryz.f3 [] false w args ∧ laidMetH P laid w) ∧ sizedMet enc P Tryz.f3 (OpenSpec.ofChange Rows.blsKnownSpec) false w args)
      (Rows.blsKnownSpec.post enc P Tryz.f3 false true false false) := by
  refine returnsInHanded_of_calls (C := Tryz.checked) own started (by kernel_rfl)
    (ChangeSpec.witness_at (enc := enc) (C := Tryz.checked) (os := os) (X := fun w _ => laidMetH P laid w) false (laidWorld os) #[] 8 rfl (by kernel_rfl) (by kernel_rfl) (by kernel_rfl) (by kernel_rfl) (by kernel_rfl) (laidWorld_met os)) ?_
  intro w tape i _ hshape _ hok hpre _
  obtain ⟨⟨⟨ds, gs, before, hw, hc⟩, hx⟩, hz⟩ := hpre
  have hw' := DataW.Whole.of_heap (w' := w.forCall tape i) (by rfl) hw
  have hx' : laidMetH P laid (w.forCall tape i) := laidMetH.of_heap (by rfl) hx
  obtain ⟨fz, hk⟩ := row_of_laid hshape hx'
  obtain ⟨p, q, hA, hV, rfl, hfz, hnd⟩ := hw'
  rw [Tryz.params3] at hA
  have hargs : i.args = #[] := by
    cases hl : i.args.toList with
    | nil => exact Array.ext' (by simpa using hl)
    | cons v vs => rw [hl] at hA; cases ds <;> exact hA.elim
  rw [hargs] at hA ⊢
  obtain ⟨rfl, rfl⟩ : ds = [] ∧ p = [] := by
    cases ds with
    | nil => exact ⟨rfl, hA⟩
    | cons d ds => exact hA.elim
  obtain ⟨rfl, rfl⟩ : gs = [] ∧ q = [] := by
    cases gs with
    | nil => exact ⟨rfl, hV⟩
    | cons g r => exact hV.elim
  refine (known_calls _ hk).mono fun e W' ⟨he, hkept⟩ => ?_
  subst he
  refine ChangeSpec.post_blind ⟨[], [], [], [], [], [], ⟨[], [], by rw [Tryz.params3]; rfl, rfl, rfl, hfz, hnd⟩, ?_, ?_, rfl, ?_, fun h => by cases h⟩
  · exact trodAll_mk1 (shut_bool Tryz.underlying4 true)
  · rw [Tryz.params3]; rfl
  · exact World.keptBut_mono (fun _ h => h.elim) hkept

theorem said : Rows.BlsKnownSaid :=
  OpenClaim.holds_of_wide 3 Tryz.f3 rfl rfl rfl rfl rfl rfl rfl ⟨rfl, rfl, rfl, rfl, rfl⟩ rfl rfl rfl rfl rfl (by kernel_rfl) Tryz.func3 (by kernel_rfl)
    (of_decide_eq_true (by kernel_rfl)) (by unfold Func.isWrapper; rw [if_neg (of_decide_eq_false (by kernel_rfl))]; exact ⟨rfl, rfl⟩)
    (fun os started H enc _ => known_lifted os started H enc)

theorem card_holds : Rows.BlsKnownCardSaid :=
  Claim7.holds_tied_plain_at .later [] [.data] true (true, "5f7b4ccfa22fa9ea71cb34da08694fe3efe745febdfa17e217581e39da3fd345") false
    said (fun _ h => by cases h) (by kernel_rfl) (fun _ h => by cases h) blsKnown_row_tie rfl ⟨rfl, rfl⟩ (by kernel_rfl) rfl
    (fun f fn hf hfn => by
      obtain rfl : f = 3 := Option.some.inj ((show P.funcNamed "reliquary/reliquarylaw25.BlsKnown" = some 3 by kernel_rfl).symm.trans hf) |>.symm
      obtain rfl : fn = Tryz.f3 := (Option.some.inj (Tryz.func3.symm.trans hfn)).symm
      exact ⟨by kernel_rfl, fun j t ht => by rw [Tryz.params3] at ht; simp at ht⟩)
    (by kernel_rfl)
end Go.Proofs.YtleefjclfljknabGreatDoor
