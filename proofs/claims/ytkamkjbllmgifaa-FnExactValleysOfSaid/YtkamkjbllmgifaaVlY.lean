/- Valleys that last: how large the list is. -/
import Derived.Test.YtkamkjbllmgifaaVlX
import Derived.Test.YtkamkjbllmgifaaShp
namespace Go.Proofs.Ytkamkjbllmgifaa
open Go.RowKit

theorem lastR_row (st : Vl.VS) (k : Nat) : ∀ r ∈ lastR st k, r.length = 3 := by
  intro r hr
  obtain ⟨v, _, e⟩ := List.mem_filterMap.1 hr
  split at e
  · cases e
  · cases e; rfl
theorem tot_three {R : List (List Int)} (h : ∀ r ∈ R, r.length = 3) : ∀ k, k ≤ R.length → tot R k = 3 * k := by
  intro k
  induction k with
  | zero => intro _; rfl
  | succ k ih =>
    intro hk
    have e : tot R (k + 1) = tot R k + (R[k]'(by omega)).length := tot_succ (by omega)
    rw [e, ih (by omega), h _ (List.getElem_mem _)]
    omega
theorem valR_small (gr : List (List Int)) : (valR gr).length ≤ 1048576 ∧ tot (valR gr) (valR gr).length ≤ 1048576 ∧ ∀ i (h : i < (valR gr).length), (valR gr)[i].length ≤ 1048576 := by
  have key : ∀ R : List (List Int), R.length ≤ 256 → (∀ r ∈ R, r.length = 3) → R.length ≤ 1048576 ∧ tot R R.length ≤ 1048576 ∧ ∀ i (h : i < R.length), R[i].length ≤ 1048576 := by
    intro R h1 h2
    exact ⟨by omega, by rw [tot_three h2 _ (Nat.le_refl _)]; omega, fun i hi => by rw [h2 _ (List.getElem_mem hi)]; decide⟩
  unfold valR
  by_cases hp : greyOk gr = true
  · rw [if_pos hp]
    exact key _ (Nat.le_trans (lastR_len _ _) (vSt_n hp)) (lastR_row _ _)
  · rw [if_neg hp]
    exact key _ (by simp) (by simp)
end Go.Proofs.Ytkamkjbllmgifaa
