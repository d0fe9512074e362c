/- SpotAt, the program's and the reference's. -/
import Derived.Test.YtogefmkplkddoaaDoorCvD
namespace Go.Proofs.YtogefmkplkddoaaDoor
open Go.RowKit

/-- What SpotAt answers. -/
def spotOk (c o n : Int) : Bool := curveOkB c o && inB n 0 (side o * side o - 1)
def spotP (c o n : Int) : Int × Int := if spotOk c o n then (visTo c o (side o).toNat (side o).toNat).getD n.toNat (0, 0) else (0, 0)
def spotV (p : Int × Int) : Value := .agg #[.int .i64 p.1, .int .i64 p.2]

theorem curveOk_iff {c o : Int} : curveOkB c o = true ↔ (0 ≤ c ∧ c ≤ 3) ∧ 0 ≤ o ∧ o ≤ 4 := by simp [curveOkB, inB]

theorem spot_ret {c o n : Int} {p : Int × Int} {b : Bool} (h : spotP c o n = p ∧ spotOk c o n = b) : Ending.returned (.tuple #[.agg #[.int .i64 p.1, .int .i64 p.2], .bool b]) = .returned (.tuple #[spotV (spotP c o n), .bool (spotOk c o n)]) := by
  rw [h.1, h.2]; rfl

end Go.Proofs.YtogefmkplkddoaaDoor
