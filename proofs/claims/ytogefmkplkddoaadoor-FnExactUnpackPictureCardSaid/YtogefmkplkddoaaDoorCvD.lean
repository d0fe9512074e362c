/- The reference's curves. -/
import Derived.Test.YtogefmkplkddoaaDoorCvC
namespace Go.Proofs.YtogefmkplkddoaaDoor
open Go.RowKit

theorem or_check : ∀ (k : Fin 4) (n : Fin 64) (a b : Fin 2), n.val < 4 ^ k.val → bits BinOp.or IntKind.i64 (n.val : Int) (bits BinOp.or IntKind.i64 ((a.val * 2 ^ (2 * k.val) : Nat) : Int) ((b.val * 2 ^ (2 * k.val + 1) : Nat) : Int)) = ((n.val + a.val * 2 ^ (2 * k.val) + b.val * 2 ^ (2 * k.val + 1) : Nat) : Int) := by decide +kernel

theorem bitsS_step (k : Nat) (x y : Int) (hk : k < 4) (hx0 : 0 ≤ x) (hx : x < 16) (hy0 : 0 ≤ y) (hy : y < 16) :
    bits BinOp.or IntKind.i64 (bitsI k x y) (bits BinOp.or IntKind.i64 (wrap64 (bits BinOp.and IntKind.i64 (x / 2 ^ k) 1 * 2 ^ (2 * k))) (wrap64 (bits BinOp.and IntKind.i64 (y / 2 ^ k) 1 * 2 ^ (2 * k + 1)))) = bitsI (k + 1) x y := by
  have hp : (1 : Int) ≤ 2 ^ k := by have := two_pow_bd (k := k) (by omega); omega
  have e1 : 0 ≤ x / 2 ^ k ∧ x / 2 ^ k < 16 := ⟨Int.ediv_nonneg hx0 (by omega), by
    have := Int.ediv_le_self (b := 2 ^ k) hx0; omega⟩
  have e2 : 0 ≤ y / 2 ^ k ∧ y / 2 ^ k < 16 := ⟨Int.ediv_nonneg hy0 (by omega), by
    have := Int.ediv_le_self (b := 2 ^ k) hy0; omega⟩
  rw [and_one _ e1.1 e1.2, and_one _ e2.1 e2.2]
  have B := bitsI_bd k x y (by omega)
  have a1 : x / 2 ^ k % 2 = 0 ∨ x / 2 ^ k % 2 = 1 := by omega
  have a2 : y / 2 ^ k % 2 = 0 ∨ y / 2 ^ k % 2 = 1 := by omega
  show _ = bitsI k x y + x / 2 ^ k % 2 * 2 ^ (2 * k) + y / 2 ^ k % 2 * 2 ^ (2 * k + 1)
  have h64 : (4 : Int) ^ k ≤ 64 := by
    have hk' : k = 0 ∨ k = 1 ∨ k = 2 ∨ k = 3 := by omega
    rcases hk' with rfl | rfl | rfl | rfl <;> decide
  obtain ⟨n, hn⟩ := Int.eq_ofNat_of_zero_le B.1
  obtain ⟨a, ha⟩ := Int.eq_ofNat_of_zero_le (show 0 ≤ x / 2 ^ k % 2 by omega)
  obtain ⟨b, hb⟩ := Int.eq_ofNat_of_zero_le (show 0 ≤ y / 2 ^ k % 2 by omega)
  rw [hn, ha, hb]
  have hn4 : n < 4 ^ k := by
    have h := B.2; rw [hn] at h; exact_mod_cast h
  have C := or_check ⟨k, hk⟩ ⟨n, by omega⟩ ⟨a, by omega⟩ ⟨b, by omega⟩ hn4
  have w1 : wrap64 ((a : Int) * 2 ^ (2 * k)) = ((a * 2 ^ (2 * k) : Nat) : Int) := by
    have hk' : k = 0 ∨ k = 1 ∨ k = 2 ∨ k = 3 := by omega
    rcases hk' with rfl | rfl | rfl | rfl <;> simp [wrap64] <;> omega
  have w2 : wrap64 ((b : Int) * 2 ^ (2 * k + 1)) = ((b * 2 ^ (2 * k + 1) : Nat) : Int) := by
    have hk' : k = 0 ∨ k = 1 ∨ k = 2 ∨ k = 3 := by omega
    rcases hk' with rfl | rfl | rfl | rfl <;> simp [wrap64] <;> omega
  rw [w1, w2, C]
  simp

end Go.Proofs.YtogefmkplkddoaaDoor
