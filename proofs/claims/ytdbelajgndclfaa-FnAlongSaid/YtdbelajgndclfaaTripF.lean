/- Runs filled in along a curve: what stands at each spot behind it. -/
import Derived.Test.YtdbelajgndclfaaTripM
namespace Go.Proofs.Ytdbelajgndclfaa
open Go.RowKit

def PosOk (vis : List (Int × Int)) (s N : Nat) : Prop :=
  (∀ i, i < N → posV s (vis.getD i (0, 0)) < s * s) ∧ ∀ i j, i < N → j < N → posV s (vis.getD i (0, 0)) = posV s (vis.getD j (0, 0)) → i = j
theorem fillN_get {vis : List (Int × Int)} {s N : Nat} (hp : PosOk vis s N) (L : List Bool) (hL : L.length = s * s) (a : Nat) (b : Bool) :
    ∀ k, a + k ≤ N → ∀ i, i < N → (fillN vis s L a b k).getD (posV s (vis.getD i (0, 0))) false = if a ≤ i ∧ i < a + k then b else L.getD (posV s (vis.getD i (0, 0))) false := by
  intro k
  induction k with
  | zero => intro _ i _; rw [fillN, if_neg (by omega)]
  | succ k ih =>
    intro h i hi
    have h1 := ih (by omega) i hi
    have hlt := hp.1 i hi
    rw [fillN]
    by_cases e : i = a + k
    · subst e
      rw [if_pos (by omega), List.getD_eq_getElem?_getD, List.getElem?_set_self (by rw [fillN_length, hL]; exact hlt)]
      rfl
    · have ne : posV s (vis.getD (a + k) (0, 0)) ≠ posV s (vis.getD i (0, 0)) := fun h2 => e (hp.2 _ _ (by omega) hi h2).symm
      rw [List.getD_eq_getElem?_getD, List.getElem?_set_ne ne, ← List.getD_eq_getElem?_getD, h1]
      by_cases h3 : a ≤ i ∧ i < a + k
      · rw [if_pos h3, if_pos (by omega)]
      · rw [if_neg h3, if_neg (by omega)]

end Go.Proofs.Ytdbelajgndclfaa
