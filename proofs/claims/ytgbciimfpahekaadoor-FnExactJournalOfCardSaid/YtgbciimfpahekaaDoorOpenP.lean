/- Arguments of the laws opened: pictures. -/
import Derived.Test.YtgbciimfpahekaaDoorRow
import Derived.Test.YtgbciimfpahekaaDoorStr
import Derived.SliceStrings
namespace Go.Proofs.YtgbciimfpahekaaDoor
open Go.ChangeShapes Go.WideShapes Go.ChangeAt Go.RowKit

theorem strCells : Tryd.prog.cellsOf 9 = 1 := by kernel_rfl
theorem strsCells : Tryd.prog.cellsOf 22 = 1 := by kernel_rfl
/-- A slice of texts that came in. -/
theorem open_strs {H : Type} {enc : TypeId × Value → H} {W : World} {fuel : Nat} {cs : List Value} {x : DataW H × List MemPlace}
    (hf : DataW.trod enc Tryd.prog W 0 (fun _ => true) true fuel 22 cs = some x) : ∃ A c rows, cs = [.slice A rows.length c] ∧ RdA W A (strs rows) ∧ rows.length ≤ maxLen ∧ ∀ r ∈ rows, r.size ≤ maxLen := by
  rcases open_strings Tryd.underlying22 Tryd.underlying9 strCells hf with ⟨hcs, _⟩ | ⟨a, len, cap, zs, hcs, _, hl, hm, hz, _, hcell, hwf⟩
  · exact ⟨none, 0, [], hcs, fun h => absurd h (by simp [strs]), by simp, by simp⟩
  · simp only [if_true] at hz
    have hlen : (zs.take len).length = len := by rw [List.length_take]; omega
    refine ⟨some a, cap, zs.take len, by rw [hlen]; exact hcs, fun h => ⟨a, rfl, ?_, fun i hi => ?_⟩, by rw [hlen]; omega, fun r hr => hwf r (List.mem_of_mem_take hr)⟩
    · simp only [strs, List.length_map, hlen] at h
      have := World.block_lt_of_cell? W _ (hcell 0 (by omega))
      rwa [Addr.add_block'] at this
    · simp only [strs, List.length_map, hlen] at hi
      rw [hcell i (by omega)]
      simp [strs, List.getD_eq_getElem?_getD, show i < zs.length by omega]

end Go.Proofs.YtgbciimfpahekaaDoor
