/- Arguments of the laws opened: pictures. -/
import Derived.Test.YtdhajndmebnknaaRow
import Derived.Test.YtdhajndmebnknaaPicL
import Derived.SliceStrings
namespace Go.Proofs.Ytdhajndmebnknaa
open Go.ChangeShapes Go.WideShapes Go.ChangeAt Go.RowKit

theorem strCells : Try.prog.cellsOf 9 = 1 := by kernel_rfl
theorem strsCells : Try.prog.cellsOf 22 = 1 := by kernel_rfl
theorem picCells : Try.prog.cellsOf 24 = 1 := by kernel_rfl

/-- A slice of texts that came in. -/
theorem open_strs {H : Type} {enc : TypeId × Value → H} {W : World} {fuel : Nat} {cs : List Value} {x : DataW H × List MemPlace}
    (hf : DataW.trod enc Try.prog W 0 (fun _ => true) true fuel 22 cs = some x) : ∃ A c rows, cs = [.slice A rows.length c] ∧ RdA W A (strs rows) ∧ rows.length ≤ maxLen ∧ ∀ r ∈ rows, r.size ≤ maxLen := by
  rcases open_strings Try.underlying22 Try.underlying9 strCells hf with ⟨hcs, _⟩ | ⟨a, len, cap, zs, hcs, _, hl, hm, hz, _, hcell, hwf⟩
  · exact ⟨none, 0, [], hcs, fun h => absurd h (by simp [strs]), by simp, by simp⟩
  · simp only [if_true] at hz
    have hlen : (zs.take len).length = len := by rw [List.length_take]; omega
    refine ⟨some a, cap, zs.take len, by rw [hlen]; exact hcs, fun h => ⟨a, rfl, ?_, fun i hi => ?_⟩, by rw [hlen]; omega, fun r hr => hwf r (List.mem_of_mem_take hr)⟩
    · simp only [strs, List.length_map, hlen] at h
      have := World.block_lt_of_cell? W _ (hcell 0 (by omega))
      rwa [Addr.add_block'] at this
    · simp only [strs, List.length_map, hlen] at hi
      rw [hcell i (by omega)]
      simp [strs, List.getD_eq_getElem?_getD, show i < zs.length by omega]

set_option maxRecDepth 100000 in
theorem open_pic {H : Type} {enc : TypeId × Value → H} {W : World} {base : Nat} {v : Value} {d : DataW H} {p : List MemPlace} (hv : Value.okWide Try.prog W .any base 24 v)
    (h : DataW.Trod enc Try.prog W 0 (fun _ => true) true 24 v d p) : ∃ A c rows, v = .agg #[.slice A rows.length c] ∧ RdA W A (strs rows) ∧ rows.length ≤ maxLen ∧ ∀ r ∈ rows, r.size ≤ maxLen := by
  obtain ⟨cs, rfl, hs⟩ := okWide_struct Try.underlying24 hv
  rw [picCells] at hs
  obtain ⟨s, rfl⟩ : ∃ s, cs = #[s] := by
    refine ⟨cs[0], ?_⟩
    apply Array.ext
    · simpa using hs
    · intro i h1 h2
      have : i = 0 := by omega
      subst this; rfl
  obtain ⟨fuel, hf⟩ := h
  obtain ⟨y0, n, _, _, h1⟩ := trod_struct1 Try.underlying24 hf
  rw [strsCells] at h1
  obtain ⟨A, c, rows, hcs, hA, hn, hz⟩ := open_strs h1
  simp [Value.cells] at hcs
  exact ⟨A, c, rows, by rw [hcs], hA, hn, hz⟩
end Go.Proofs.Ytdhajndmebnknaa
