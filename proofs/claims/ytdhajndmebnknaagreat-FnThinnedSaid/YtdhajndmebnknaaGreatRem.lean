/- The grey picture of a picture: the program's. Grey pictures by a function of places: remade; a number that is stored. -/
import Derived.Test.YtdhajndmebnknaaGreatGrid
import Derived.Test.YtdhajndmebnknaaGreatImgOf
import Derived.Test.YtdhajndmebnknaaGreatArd
namespace Go.Proofs.YtdhajndmebnknaaGreat
open Go.RowKit

def gf (L : List Bool) (W H x y : Nat) : Int := if bit L W H x y then 0 else 99
theorem oneIf_any (b : Bool) (w : World) : Calls Tryz.prog 69 #[.bool b] w fun e w' => e = .returned (.int .i64 (if b then 1 else 0)) ∧ w = w' := by
  cases b
  · go_enter Tryz.func69, Tryz.ntmps69
    go_wp2_with fail
    go_ret
    exact ⟨rfl, rfl⟩
  · go_enter Tryz.func69, Tryz.ntmps69
    go_wp2_with fail
    go_ret
    exact ⟨rfl, rfl⟩
end Go.Proofs.YtdhajndmebnknaaGreat

namespace Go.Proofs.YtdhajndmebnknaaGreat
open Go.RowKit

/-- A matrix by a function of places. -/
def gO (O : Nat → Int) (W H : Nat) : List (List Int) := gridI (fun x y => O (y * W + x)) W H
theorem gO_length (O : Nat → Int) (W H : Nat) : (gO O W H).length = H := gridI_length _ _ _
theorem gO_row (O : Nat → Int) (W H y : Nat) (h : y < (gO O W H).length) : (gO O W H)[y] = (List.range W).map fun x => O (y * W + x) := by
  simp [gO, gridI, rowI]
theorem gO_w (O : Nat → Int) (W H y : Nat) (h : y < (gO O W H).length) : (gO O W H)[y].length = W := by rw [gO_row]; simp
theorem gO_get (O : Nat → Int) (W H y x : Nat) (h : y < (gO O W H).length) (hx : x < (gO O W H)[y].length) : (gO O W H)[y][x] = O (y * W + x) := by
  simp [gO, gridI, rowI]
theorem gO_set (O : Nat → Int) (W H x y : Nat) (v : Int) (hx : x < W) (hy : y < H) : (gO O W H).set y (((gO O W H)[y]'(by rw [gO_length]; exact hy)).set x v) = gO (setF O (y * W + x) v) W H := by
  apply List.ext_getElem
  · simp [gO_length]
  · intro j h1 h2
    rw [List.length_set, gO_length] at h1
    rw [List.getElem_set]
    by_cases e : y = j
    · subst e
      rw [if_pos rfl]
      apply List.ext_getElem
      · simp [gO_w]
      · intro i h3 h4
        rw [List.length_set, gO_w] at h3
        rw [List.getElem_set, gO_get]
        by_cases e2 : x = i
        · subst e2; rw [if_pos rfl, gO_get, setF_same]
        · rw [if_neg e2, gO_get, setF_ne (by omega)]
    · rw [if_neg e]
      apply List.ext_getElem
      · simp [gO_w]
      · intro i h3 h4
        rw [gO_w] at h3
        have hne : j * W + i ≠ y * W + x := by
          intro h
          have a := congrArg (· / W) h
          simp only [plD h3, plD hx] at a
          exact e a.symm
        rw [gO_get, gO_get, setF_ne hne]
theorem tabW_gO (O : Nat → Int) {W H : Nat} (hH : 0 < H) : tabW (gO O W H) = W := by
  rw [← tabW_head (by rw [gO_length]; exact hH), gO_w]

end Go.Proofs.YtdhajndmebnknaaGreat
