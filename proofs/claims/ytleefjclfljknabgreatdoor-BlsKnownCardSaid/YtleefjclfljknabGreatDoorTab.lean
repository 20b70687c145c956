/-
The seat's types as a table.
-/
import Derived.Test.YtleefjclfljknabGreatDoorRx11
namespace Go.Rx

def tabOf (P : Program) (eqs : TypeId → Option (List K)) : Tab := fun t =>
  match P.underlying t, P.info? t with
  | some d, some i => some ⟨d, i.size, i.bytes, i.zero, eqs t⟩
  | _, _ => none

theorem tabOf_ok {P : Program} {eqs : TypeId → Option (List K)} (h : ∀ t ks, eqs t = some ks → EqOk P t ks) : (tabOf P eqs).Ok P := by
  intro t ti ht
  unfold tabOf at ht
  split at ht
  · rename_i d i hd hi
    simp only [Option.some.injEq] at ht
    subst ht
    exact ⟨hd, ⟨i, hi, rfl, rfl, rfl⟩, fun ks hk => h t ks hk⟩
  · simp at ht

end Go.Rx
