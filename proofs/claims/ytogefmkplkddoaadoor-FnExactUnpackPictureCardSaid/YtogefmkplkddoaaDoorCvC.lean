/- All spots in the order of a curve. -/
import Derived.Test.YtogefmkplkddoaaDoorMem
import Derived.Test.YtogefmkplkddoaaDoorCvB
import Derived.Deep.RegionHeld3
namespace Go.Proofs.YtogefmkplkddoaaDoor
open Go.RowKit

def visRow (c o : Int) (y : Nat) (L : List (Int × Int)) : Nat → List (Int × Int)
  | 0 => L
  | m + 1 => (visRow c o y L m).set (idxI c o m y).toNat ((m : Int), (y : Int))
def visTo (c o : Int) (s : Nat) : Nat → List (Int × Int)
  | 0 => List.replicate (s * s) (0, 0)
  | k + 1 => visRow c o k (visTo c o s k) s
theorem visRow_length (c o : Int) (y : Nat) (L : List (Int × Int)) : ∀ m, (visRow c o y L m).length = L.length := by
  intro m
  induction m with
  | zero => rfl
  | succ m ih => simp [visRow, ih]
theorem visTo_length (c o : Int) (s : Nat) : ∀ k, (visTo c o s k).length = s * s := by
  intro k
  induction k with
  | zero => simp [visTo]
  | succ k ih => simp [visTo, visRow_length, ih]

theorem turnsI_lt (k : Nat) (hk : k ≤ 4) (x y : Int) (hx0 : 0 ≤ x) (hx : x < side k) (hy0 : 0 ≤ y) (hy : y < side k) : 0 ≤ turnsI k x y ∧ turnsI k x y < side k * side k :=
  turnsI_bd k x y hk hx0 hx hy0 hy
theorem idxI_bd (c o x y : Int) (h0 : 0 ≤ o) (h4 : o ≤ 4) (hx0 : 0 ≤ x) (hx : x < side o) (hy0 : 0 ≤ y) (hy : y < side o) :
    0 ≤ idxI c o x y ∧ idxI c o x y < side o * side o := by
  have hs := side_pos h0 h4
  have h1 : y * side o ≤ (side o - 1) * side o := Int.mul_le_mul_of_nonneg_right (by omega) (by omega)
  have h2 : (side o - 1) * side o = side o * side o - side o := by rw [Int.sub_mul, Int.one_mul]
  have h3 : 0 ≤ y * side o := Int.mul_nonneg hy0 (by omega)
  rw [h2] at h1
  unfold idxI
  split
  · omega
  · split
    · split <;> omega
    · split
      · have := bitsI_bd o.toNat x y (by omega)
        have e : (4 : Int) ^ o.toNat = side o * side o := by
          rcases side_cases h0 h4 with rfl | rfl | rfl | rfl | rfl <;> decide +kernel
        omega
      · obtain ⟨k, rfl⟩ := Int.eq_ofNat_of_zero_le h0
        exact turnsI_lt k (by omega) x y hx0 hx hy0 hy

end Go.Proofs.YtogefmkplkddoaaDoor
