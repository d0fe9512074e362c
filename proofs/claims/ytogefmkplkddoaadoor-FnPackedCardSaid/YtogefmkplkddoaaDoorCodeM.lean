/- Codes of numbers: the plain part. -/
import Derived.Test.YtogefmkplkddoaaDoorBase
namespace Go.Proofs.YtogefmkplkddoaaDoor
open Go.RowKit

/-- A number's bits, as text. -/
def bins (k : Nat) : List UInt8 := if _h : k = 0 then [] else bins (k / 2) ++ [UInt8.ofNat (48 + k % 2)]
termination_by k
decreasing_by omega
theorem bins_zero : bins 0 = [] := by rw [bins]; simp
theorem bins_pos {k : Nat} (h : k ≠ 0) : bins k = bins (k / 2) ++ [UInt8.ofNat (48 + k % 2)] := by rw [bins]; simp [h]
theorem binU (k : Nat) : ((UInt8.ofNat (48 + k % 2)).toNat : Int) = 48 + (k : Int) % 2 := by
  have : (UInt8.ofNat (48 + k % 2)).toNat = 48 + k % 2 := by
    rw [UInt8.toNat_ofNat']; omega
  rw [this]; omega
theorem bins_length_le (k : Nat) : (bins k).length ≤ k := by
  induction k using Nat.strongRecOn with
  | _ k ih =>
    by_cases h : k = 0
    · subst h; rw [bins_zero]; simp
    · rw [bins_pos h]
      have := ih (k / 2) (by omega)
      simp; omega
/-- m bits of a number, from the highest on. -/
def hiBits (n m : Nat) : Nat → List UInt8
  | 0 => []
  | k + 1 => hiBits n m k ++ [UInt8.ofNat (48 + n / 2 ^ (m - 1 - k) % 2)]
theorem hiBits_length (n m : Nat) : ∀ k, (hiBits n m k).length = k := by
  intro k
  induction k with
  | zero => rfl
  | succ k ih => rw [hiBits, List.length_append, ih]; rfl
theorem bins_bd : ∀ (m n : Nat), n < 2 ^ m → (bins n).length ≤ m := by
  intro m
  induction m with
  | zero => intro n h; have : n = 0 := by simpa using h
            subst this; rw [bins_zero]; simp
  | succ m ih =>
    intro n h
    by_cases h0 : n = 0
    · subst h0; rw [bins_zero]; simp
    · rw [bins_pos h0]
      have := ih (n / 2) (by rw [Nat.pow_succ] at h; omega)
      simp; omega
theorem bins_lo : ∀ (m n : Nat), 2 ^ m ≤ n → m < (bins n).length := by
  intro m
  induction m with
  | zero => intro n h
            have h0 : n ≠ 0 := by have : 1 ≤ n := by simpa using h
                                  omega
            rw [bins_pos h0]; simp
  | succ m ih =>
    intro n h
    rw [Nat.pow_succ] at h
    have hp : 0 < 2 ^ m := Nat.two_pow_pos m
    have h0 : n ≠ 0 := by omega
    rw [bins_pos h0]
    have := ih (n / 2) (by omega)
    simp; omega
theorem hiBits_half (n m : Nat) : ∀ k, k ≤ m → hiBits n (m + 1) k = hiBits (n / 2) m k := by
  intro k
  induction k with
  | zero => intro _; rfl
  | succ k ih =>
    intro h
    rw [hiBits, hiBits, ih (by omega), show m + 1 - 1 - k = (m - 1 - k) + 1 by omega, Nat.pow_succ, Nat.mul_comm, ← Nat.div_div_eq_div_mul]
theorem hiBits_all : ∀ (m n : Nat), (bins n).length = m → hiBits n m m = bins n := by
  intro m
  induction m with
  | zero => intro n h; rw [hiBits]; exact (List.length_eq_zero_iff.1 h).symm
  | succ m ih =>
    intro n h
    have h0 : n ≠ 0 := by rintro rfl; rw [bins_zero] at h; simp at h
    rw [bins_pos h0] at h ⊢
    have h2 : (bins (n / 2)).length = m := by simpa using h
    rw [hiBits, hiBits_half _ _ _ (Nat.le_refl _), ih _ h2, show m + 1 - 1 - m = 0 by omega]
    simp
def zerosL (k : Nat) : List UInt8 := List.replicate k 48
theorem zerosL_succ (k : Nat) : zerosL (k + 1) = zerosL k ++ [48] := by rw [zerosL, List.replicate_succ']; rfl
theorem zerosL_length (k : Nat) : (zerosL k).length = k := by simp [zerosL]
theorem zerosL_zero : zerosL 0 = [] := rfl
/-- The code of a number. -/
def codeL (n : Nat) : List UInt8 := zerosL ((bins n).length - 1) ++ bins n
def codeB (n : Nat) : ByteArray := ⟨(codeL n).toArray⟩
theorem bins_31 {n : Nat} (h : n ≤ 1000000001) : (bins n).length ≤ 30 := bins_bd 30 n (by omega)
theorem codeL_length (n : Nat) : (codeL n).length = 2 * (bins n).length - 1 := by
  simp [codeL, zerosL_length]; omega
end Go.Proofs.YtogefmkplkddoaaDoor
