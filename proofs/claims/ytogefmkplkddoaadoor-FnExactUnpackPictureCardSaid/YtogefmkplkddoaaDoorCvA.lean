/- Curves: the smallest functions. -/
import Derived.Test.YtogefmkplkddoaaDoorBase
namespace Go.Proofs.YtogefmkplkddoaaDoor
open Go.RowKit

def curveOkB (c o : Int) : Bool := inB c 0 3 && inB o 0 4
/-- The side of an order. -/
def side (o : Int) : Int := 2 ^ o.toNat
theorem side_cases {o : Int} (h0 : 0 ≤ o) (h4 : o ≤ 4) : (o = 0 ∨ o = 1 ∨ o = 2 ∨ o = 3 ∨ o = 4) := by omega
theorem side_pos {o : Int} (h0 : 0 ≤ o) (h4 : o ≤ 4) : 1 ≤ side o := by
  rcases side_cases h0 h4 with rfl | rfl | rfl | rfl | rfl <;> decide
theorem side_le {o : Int} (h0 : 0 ≤ o) (h4 : o ≤ 4) : side o ≤ 16 := by
  rcases side_cases h0 h4 with rfl | rfl | rfl | rfl | rfl <;> decide
theorem side_wrap {o : Int} (h0 : 0 ≤ o) (h4 : o ≤ 4) : wrap64 (2 ^ o.toNat) = side o := by
  rcases side_cases h0 h4 with rfl | rfl | rfl | rfl | rfl <;> decide +kernel


/-- The index of a spot on the curve by turns. -/
def turnsI : Nat → Int → Int → Int
  | 0, _, _ => 0
  | k + 1, x, y =>
    if x < 2 ^ k then
      if y < 2 ^ k then turnsI k y x else 2 ^ k * 2 ^ k + turnsI k x (y - 2 ^ k)
    else if 2 ^ k ≤ y then 2 * (2 ^ k * 2 ^ k) + turnsI k (x - 2 ^ k) (y - 2 ^ k)
    else 3 * (2 ^ k * 2 ^ k) + turnsI k (2 ^ k - 1 - y) (2 ^ k - 1 - (x - 2 ^ k))

theorem two_pow_bd {k : Nat} (h : k ≤ 4) : (1 : Int) ≤ 2 ^ k ∧ (2 : Int) ^ k ≤ 16 ∧ wrap64 (2 ^ k) = 2 ^ k ∧ (2 : Int) ^ k * 2 ^ k ≤ 256 ∧ (1 : Int) ≤ 2 ^ k * 2 ^ k := by
  have : k = 0 ∨ k = 1 ∨ k = 2 ∨ k = 3 ∨ k = 4 := by omega
  rcases this with rfl | rfl | rfl | rfl | rfl <;> decide +kernel
theorem turnsI_bd : ∀ (k : Nat) (x y : Int), k ≤ 4 → 0 ≤ x → x < 2 ^ k → 0 ≤ y → y < 2 ^ k → 0 ≤ turnsI k x y ∧ turnsI k x y < 2 ^ k * 2 ^ k := by
  intro k
  induction k with
  | zero => intro x y _ _ _ _ _; exact ⟨by simp [turnsI], by simp [turnsI]⟩
  | succ k ih =>
    intro x y hk hx0 hx hy0 hy
    have e : (2 : Int) ^ (k + 1) = 2 * 2 ^ k := by rw [Int.pow_succ]; omega
    rw [e] at hx hy ⊢
    have e2 : (2 * 2 ^ k * (2 * 2 ^ k) : Int) = 4 * (2 ^ k * 2 ^ k) := by
      rw [Int.mul_assoc, Int.mul_left_comm (2 ^ k) 2 (2 ^ k), ← Int.mul_assoc]; omega
    rw [e2]
    obtain ⟨h1, h2, _, h3, h4⟩ := two_pow_bd (k := k) (by omega)
    unfold turnsI
    generalize hA : (2 : Int) ^ k * 2 ^ k = A at *
    generalize hH : (2 : Int) ^ k = H at *
    split
    · split
      · have := ih y x (by omega) hy0 (by omega) hx0 (by omega); omega
      · have := ih x (y - H) (by omega) hx0 (by omega) (by omega) (by omega); omega
    · split
      · have := ih (x - H) (y - H) (by omega) (by omega) (by omega) (by omega) (by omega); omega
      · have := ih (H - 1 - y) (H - 1 - (x - H)) (by omega) (by omega) (by omega) (by omega) (by omega); omega

end Go.Proofs.YtogefmkplkddoaaDoor
