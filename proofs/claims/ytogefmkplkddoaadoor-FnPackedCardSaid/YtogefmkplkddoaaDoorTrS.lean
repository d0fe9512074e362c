/- Trees of squares: the reference's texts and codes of pictures. -/
import Derived.Test.YtogefmkplkddoaaDoorTrJ
import Derived.Test.YtogefmkplkddoaaDoorSIs
namespace Go.Proofs.YtogefmkplkddoaaDoor
open Go.RowKit

/-- The pixels of a square of a picture. -/
def sqF (B : Int → Int → Bool) (x y : Nat) : Nat → Nat → Bool := fun i j => B ((x + i : Nat) : Int) ((y + j : Nat) : Int)
theorem sqF_right (B : Int → Int → Bool) (x y h : Nat) : (fun i j => sqF B x y (i + h) j) = sqF B (x + h) y := by
  funext i j
  simp only [sqF]
  rw [show x + (i + h) = x + h + i by omega]
theorem sqF_down (B : Int → Int → Bool) (x y h : Nat) : (fun i j => sqF B x y i (j + h)) = sqF B x (y + h) := by
  funext i j
  simp only [sqF]
  rw [show y + (j + h) = y + h + j by omega]
theorem sqF_both (B : Int → Int → Bool) (x y h : Nat) : (fun i j => sqF B x y (i + h) (j + h)) = sqF B (x + h) (y + h) := by
  funext i j
  simp only [sqF]
  rw [show x + (i + h) = x + h + i by omega, show y + (j + h) = y + h + j by omega]
open Classical in
noncomputable def smB (n : Nat) (f : Nat → Nat → Bool) : Bool := if same n f then true else false
theorem smB_yes {n : Nat} {f : Nat → Nat → Bool} (h : same n f) : smB n f = true := by unfold smB; exact if_pos h
theorem smB_no {n : Nat} {f : Nat → Nat → Bool} (h : ¬ same n f) : smB n f = false := by unfold smB; exact if_neg h
theorem pk_len : ∀ (n : Nat) (T : QT), T.fits n = true → (T.pk n).length ≤ 3 * 4 ^ n - 1
  | 0, .leaf b, _ => by simp [QT.pk]
  | n + 1, .leaf b, _ => by
    have : 1 ≤ 4 ^ (n + 1) := Nat.one_le_pow _ _ (by decide)
    simp [QT.pk]; omega
  | 0, .node .., h => by cases h
  | n + 1, .node a b c d, h => by
    simp only [QT.fits, Bool.and_eq_true] at h
    have h1 := pk_len n a h.1
    have h2 := pk_len n b h.2.1
    have h3 := pk_len n c h.2.2.1
    have h4 := pk_len n d h.2.2.2
    have e : 4 ^ (n + 1) = 4 * 4 ^ n := by rw [Nat.pow_succ]; omega
    have : 1 ≤ 4 ^ n := Nat.one_le_pow _ _ (by decide)
    simp only [QT.pk, List.length_cons, List.length_append]
    omega
end Go.Proofs.YtogefmkplkddoaaDoor
