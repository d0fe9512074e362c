/- Images told as pictures. -/
import Derived.Test.YtgbciimfpahekaaDoorImgC
import Derived.Test.YtgbciimfpahekaaDoorBts
namespace Go.Proofs.YtgbciimfpahekaaDoor
open Go.RowKit

def strs (l : List ByteArray) : List Value := l.map Value.string
/-- The bytes of a row, the first k of them. -/
def rowB (L : List Bool) (W y k : Nat) : List UInt8 := (List.range k).map fun x => if L.getD (y * W + x) false then 35 else 46
theorem rowB_succ (L : List Bool) (W y k : Nat) : rowB L W y (k + 1) = rowB L W y k ++ [if L.getD (y * W + k) false then 35 else 46] := by simp [rowB, List.range_succ]
theorem rowB_length (L : List Bool) (W y k : Nat) : (rowB L W y k).length = k := by simp [rowB]
def rowS (L : List Bool) (W y : Nat) : ByteArray := ⟨(rowB L W y W).toArray⟩
def rowsTo (L : List Bool) (W k : Nat) : List ByteArray := (List.range k).map (rowS L W)
theorem rowsTo_succ (L : List Bool) (W k : Nat) : rowsTo L W (k + 1) = rowsTo L W k ++ [rowS L W k] := by simp [rowsTo, List.range_succ]
theorem rowsTo_length (L : List Bool) (W k : Nat) : (rowsTo L W k).length = k := by simp [rowsTo]

theorem strT : ElemT 22 9 (.string ByteArray.empty) 1 16 := ⟨Tryd.underlying22, by kernel_rfl, rfl, by decide, by decide⟩

theorem bit_in {L : List Bool} {W H x y : Nat} (hx : x < W) (hy : y < H) : bit L W H x y = L.getD (y * W + x) false := by
  have e : ((y : Int) * W + x).toNat = y * W + x := by
    rw [← Int.natCast_mul]; omega
  simp [bit, e, hx, hy]

end Go.Proofs.YtgbciimfpahekaaDoor
