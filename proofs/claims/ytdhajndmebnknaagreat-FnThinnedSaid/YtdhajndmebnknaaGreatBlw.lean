/- How many sets of pixels there are up to a level: both sides. -/
import Derived.Test.YtdhajndmebnknaaGreatLabS
import Derived.Test.YtdhajndmebnknaaGreatPsS
namespace Go.Proofs.YtdhajndmebnknaaGreat
open Go.RowKit

/-- Which pixels have a number up to a level. -/
def lowB (G : Nat → Int) (lvl : Int) (n : Nat) : List Bool := (List.range n).map fun i => decide (G i ≤ lvl)
def belowN (rows : List (List Int)) (lvl : Int) : Nat :=
  (labL (rchB nbF (okI (lowB (gF rows (tabW rows)) lvl (tabW rows * rows.length)) (tabW rows) rows.length) (tabW rows * rows.length)) (spB (lowB (gF rows (tabW rows)) lvl (tabW rows * rows.length)) (tabW rows) (tabW rows * rows.length))).2
theorem belowN_le (rows : List (List Int)) (lvl : Int) : belowN rows lvl ≤ tabW rows * rows.length := by
  unfold belowN
  have h1 := (labL_le (rchB nbF (okI (lowB (gF rows (tabW rows)) lvl (tabW rows * rows.length)) (tabW rows) rows.length) (tabW rows * rows.length)) (spB (lowB (gF rows (tabW rows)) lvl (tabW rows * rows.length)) (tabW rows) (tabW rows * rows.length)) _ (Nat.le_refl _)).1
  rw [List.take_length] at h1
  exact Nat.le_trans h1 (spB_len _ _ _)

/-- The first k pixels turned. -/
def invTo (L : List Bool) (k : Nat) : List Bool := (L.take k).map (fun b => !b) ++ L.drop k
theorem invTo_len (L : List Bool) (k : Nat) : (invTo L k).length = L.length := by simp [invTo]; omega
theorem invTo_at {L : List Bool} {k : Nat} (h : k < L.length) : (invTo L k)[k]'(by rw [invTo_len]; exact h) = L[k] := by
  have hl : ((L.take k).map fun b => !b).length = k := by simp; omega
  simp only [invTo]
  rw [List.getElem_append_right (by omega), List.getElem_drop]
  congr 1
  omega
theorem invTo_set {L : List Bool} {k : Nat} (h : k < L.length) : (invTo L k).set k (!L[k]) = invTo L (k + 1) := by
  have hl : ((L.take k).map fun b => !b).length = k := by simp; omega
  unfold invTo
  rw [List.set_append_right _ _ (by omega), hl, Nat.sub_self, List.drop_eq_getElem_cons h, List.set_cons_zero, List.take_succ_eq_append_getElem h, List.map_append, List.append_assoc]
  rfl
theorem invTo_all {L : List Bool} : invTo L L.length = L.map fun b => !b := by simp [invTo]
theorem bools_set (L : List Bool) (k : Nat) (b : Bool) : (bools L).set k (.bool b) = bools (L.set k b) := by simp [bools, List.map_set]

end Go.Proofs.YtdhajndmebnknaaGreat
