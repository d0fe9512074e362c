/- The index of a spot on a curve. -/
import Derived.Test.YtogefmkplkddoaaDoorCvA
namespace Go.Proofs.YtogefmkplkddoaaDoor
open Go.RowKit

def bitsI : Nat → Int → Int → Int
  | 0, _, _ => 0
  | k + 1, x, y => bitsI k x y + x / 2 ^ k % 2 * 2 ^ (2 * k) + y / 2 ^ k % 2 * 2 ^ (2 * k + 1)
def idxI (c o x y : Int) : Int :=
  if c = 0 then y * side o + x
  else if c = 1 then (if y % 2 = 1 then y * side o + side o - 1 - x else y * side o + x)
  else if c = 2 then bitsI o.toNat x y
  else turnsI o.toNat x y

theorem and_one (a : Int) (h0 : 0 ≤ a) (h : a < 16) : bits BinOp.and IntKind.i64 a 1 = a % 2 := by
  have : ∀ n : Fin 16, bits BinOp.and IntKind.i64 (n.val : Int) 1 = (n.val : Int) % 2 := by decide +kernel
  obtain ⟨n, rfl⟩ := Int.eq_ofNat_of_zero_le h0
  exact this ⟨n, by omega⟩
theorem bitsI_bd : ∀ (k : Nat) (x y : Int), k ≤ 4 → 0 ≤ bitsI k x y ∧ bitsI k x y < 4 ^ k := by
  intro k x y hk
  induction k with
  | zero => exact ⟨by simp [bitsI], by simp [bitsI]⟩
  | succ k ih =>
    have := ih (by omega)
    have a1 : x / 2 ^ k % 2 = 0 ∨ x / 2 ^ k % 2 = 1 := by omega
    have a2 : y / 2 ^ k % 2 = 0 ∨ y / 2 ^ k % 2 = 1 := by omega
    have hk' : k = 0 ∨ k = 1 ∨ k = 2 ∨ k = 3 := by omega
    unfold bitsI
    generalize x / 2 ^ k % 2 = a at *
    generalize y / 2 ^ k % 2 = b at *
    rcases hk' with rfl | rfl | rfl | rfl <;> rcases a1 with rfl | rfl <;> rcases a2 with rfl | rfl <;> simp at * <;> omega
theorem bits_step (k : Nat) (x y : Int) (hk : k < 4) (hx0 : 0 ≤ x) (hx : x < 16) (hy0 : 0 ≤ y) (hy : y < 16) :
    wrap64 (wrap64 (bitsI k x y + wrap64 (bits BinOp.and IntKind.i64 (x / 2 ^ k) 1 * 2 ^ (2 * k))) + wrap64 (bits BinOp.and IntKind.i64 (y / 2 ^ k) 1 * 2 ^ (2 * k + 1))) = bitsI (k + 1) x y := by
  have hp : (1 : Int) ≤ 2 ^ k := by have := two_pow_bd (k := k) (by omega); omega
  have e1 : 0 ≤ x / 2 ^ k ∧ x / 2 ^ k < 16 := ⟨Int.ediv_nonneg hx0 (by omega), by
    have := Int.ediv_le_self (b := 2 ^ k) hx0; omega⟩
  have e2 : 0 ≤ y / 2 ^ k ∧ y / 2 ^ k < 16 := ⟨Int.ediv_nonneg hy0 (by omega), by
    have := Int.ediv_le_self (b := 2 ^ k) hy0; omega⟩
  rw [and_one _ e1.1 e1.2, and_one _ e2.1 e2.2]
  have B := bitsI_bd k x y (by omega)
  have a1 : x / 2 ^ k % 2 = 0 ∨ x / 2 ^ k % 2 = 1 := by omega
  have a2 : y / 2 ^ k % 2 = 0 ∨ y / 2 ^ k % 2 = 1 := by omega
  have hk' : k = 0 ∨ k = 1 ∨ k = 2 ∨ k = 3 := by omega
  show _ = bitsI k x y + x / 2 ^ k % 2 * 2 ^ (2 * k) + y / 2 ^ k % 2 * 2 ^ (2 * k + 1)
  generalize bitsI k x y = n at *
  generalize x / 2 ^ k % 2 = a at *
  generalize y / 2 ^ k % 2 = b at *
  simp only [wrap64]
  rcases hk' with rfl | rfl | rfl | rfl <;> rcases a1 with rfl | rfl <;> rcases a2 with rfl | rfl <;> simp at * <;> omega

end Go.Proofs.YtogefmkplkddoaaDoor
