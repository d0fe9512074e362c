/- The reference's list of a grey picture's numbers; places; least heights between places and to the edge. The reference's places of spots; least heights between places and to the edge. -/
import Derived.Test.YtdhajndmebnknaaPasW
import Derived.Test.YtdhajndmebnknaaHeiW
import Derived.Test.YtdhajndmebnknaaSpi
namespace Go.Proofs.Ytdhajndmebnknaa
open Go.RowKit

theorem flat_len {rows : List (List Int)} {W : Nat} (hr : ∀ y (h : y < rows.length), rows[y].length = W) : ∀ k, k ≤ rows.length → ((rows.take k).flatten).length = k * W := by
  intro k
  induction k with
  | zero => intro _; simp
  | succ k ih =>
    intro h
    rw [List.take_succ_eq_append_getElem (by omega), List.flatten_append, List.length_append, ih (by omega), Nat.succ_mul]
    simp [hr k (by omega)]
theorem flat_succ {rows : List (List Int)} {k : Nat} (h : k < rows.length) : (rows.take (k + 1)).flatten = (rows.take k).flatten ++ rows[k] := by
  rw [List.take_succ_eq_append_getElem h, List.flatten_append]; simp
theorem flat_get {rows : List (List Int)} {W : Nat} (hr : ∀ y (h : y < rows.length), rows[y].length = W) {x y : Nat} (hy : y < rows.length) (hx : x < W) : ∀ k, y < k → k ≤ rows.length → ((rows.take k).flatten).getD (y * W + x) 0 = gF rows W (y * W + x) := by
  intro k
  induction k with
  | zero => intro h; omega
  | succ k ih =>
    intro h1 h2
    have hl := flat_len hr k (by omega)
    rw [flat_succ (by omega), List.getD_eq_getElem?_getD]
    by_cases e : y = k
    · subst e
      rw [List.getElem?_append_right (by omega), hl, Nat.add_sub_cancel_left, gF_at hx hy (by rw [hr y hy]; exact hx), List.getElem?_eq_getElem (by rw [hr y hy]; exact hx)]
      rfl
    · have : y * W + x < k * W := by
        have := Nat.mul_le_mul_right W (show y + 1 ≤ k by omega)
        rw [Nat.succ_mul] at this
        omega
      rw [List.getElem?_append_left (by omega), ← List.getD_eq_getElem?_getD]
      exact ih (by omega) (by omega)

end Go.Proofs.Ytdhajndmebnknaa

namespace Go.Proofs.Ytdhajndmebnknaa
open Go.RowKit

/-- The place of a spot; 0. -/
def plcO (W H : Nat) (x y : Int) : Int := if inG W H (x, y) then ((plc W (x, y) : Nat) : Int) else 0
end Go.Proofs.Ytdhajndmebnknaa
