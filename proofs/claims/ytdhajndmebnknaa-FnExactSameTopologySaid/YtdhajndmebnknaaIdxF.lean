/- slices.IndexFunc and slices.ContainsFunc, at whatever function value that makes memory of its own alone. -/
import Derived.Test.YtdhajndmebnknaaEq
import Derived.Test.YtdhajndmebnknaaPicL
namespace Go.Proofs.Ytdhajndmebnknaa
open Go.RowKit

/-- The first of n places at which b holds; -1. -/
def IdxF (b : Nat → Bool) (n : Nat) (r : Int) : Prop := (∃ k : Nat, r = k ∧ k < n ∧ b k = true ∧ ∀ j, j < k → b j = false) ∨ (r = -1 ∧ ∀ j, j < n → b j = false)
theorem IdxF.any {b : Nat → Bool} {n : Nat} {r : Int} (h : IdxF b n r) : decide (0 ≤ r) = (List.range n).any b := by
  rcases h with ⟨k, rfl, hk, hb, _⟩ | ⟨rfl, hb⟩
  · have : (List.range n).any b = true := List.any_eq_true.2 ⟨k, by simpa using hk, hb⟩
    rw [this]; simp
  · have : (List.range n).any b = false := by
      rw [List.any_eq_false]
      intro x hx
      rw [hb x (by simpa using hx)]; simp
    rw [this]; decide

end Go.Proofs.Ytdhajndmebnknaa
