/- A picture of water levels is small. -/
import Derived.Test.YtajepoopicoodaaLev
namespace Go.Proofs.Ytajepoopicoodaa
open Go.RowKit

theorem LevRes.o {w w' : World} {R : List (List Int)} {ok : Bool} {e : Ending} (h : LevRes w R ok e w') : ∃ A c vs, e = .returned (.tuple #[.agg #[.slice A R.length c], .bool ok]) ∧ MatAt w' w.heap.size w'.heap.size A c vs R ∧ Below w.heap.size w w' := h
theorem tot_gO (O : Nat → Int) (W H : Nat) : ∀ k, k ≤ H → tot (gO O W H) k = k * W := by
  intro k
  induction k with
  | zero => intro _; simp [tot_zero]
  | succ k ih => intro h; rw [tot_succ (by rw [gO_length]; omega), ih (by omega), gO_w, Nat.succ_mul]
theorem gO_small (O : Nat → Int) (W H : Nat) (hW : W ≤ 16) (hH : H ≤ 16) : (gO O W H).length ≤ 1048576 ∧ tot (gO O W H) (gO O W H).length ≤ 1048576 ∧ ∀ i (h : i < (gO O W H).length), (gO O W H)[i].length ≤ 1048576 := by
  refine ⟨by rw [gO_length]; omega, ?_, fun i hi => by rw [gO_w]; omega⟩
  rw [gO_length, tot_gO O W H H (Nat.le_refl _)]
  exact Nat.le_trans (Nat.mul_le_mul hH hW) (by decide)
theorem levR_small (gr : List (List Int)) : (levR gr).length ≤ 1048576 ∧ tot (levR gr) (levR gr).length ≤ 1048576 ∧ ∀ i (h : i < (levR gr).length), (levR gr)[i].length ≤ 1048576 := by
  by_cases hp : greyOk gr = true
  · have s := tab_sizes hp
    have key : ∀ R, R = gO (spillF gr) (tabW gr) gr.length → R.length ≤ 1048576 ∧ tot R R.length ≤ 1048576 ∧ ∀ i (h : i < R.length), R[i].length ≤ 1048576 := by
      intro R e
      subst e
      exact gO_small _ _ _ (by omega) (by omega)
    exact key _ (by rw [levR, if_pos hp])
  · have key : ∀ R : List (List Int), R = [] → R.length ≤ 1048576 ∧ tot R R.length ≤ 1048576 ∧ ∀ i (h : i < R.length), R[i].length ≤ 1048576 := by
      intro R e
      subst e
      simp [tot]
    exact key _ (by rw [levR, if_neg hp])
end Go.Proofs.Ytajepoopicoodaa
