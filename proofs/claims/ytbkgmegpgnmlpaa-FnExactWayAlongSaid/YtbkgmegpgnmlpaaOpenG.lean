/- Arguments of the laws opened: numbers, matrices, grey pictures. -/
import Derived.Test.YtbkgmegpgnmlpaaRow
import Derived.Test.YtbkgmegpgnmlpaaMatC
import Derived.Deep.Matrix
namespace Go.Proofs.Ytbkgmegpgnmlpaa
open Go.ChangeShapes Go.WideShapes Go.ChangeAt Go.RowKit

theorem intCells : Try.prog.cellsOf 2 = 1 := by kernel_rfl
theorem intsCells : Try.prog.cellsOf 61 = 1 := by kernel_rfl
theorem wf_i64 {n : Int} (h : (Lit.int .i64 n).wf = true) : -9223372036854775808 ≤ n ∧ n ≤ 9223372036854775807 := by
  have hmin : IntKind.i64.min = -9223372036854775808 := rfl
  have hmax : IntKind.i64.max = 9223372036854775807 := rfl
  simp only [Lit.wf, Bool.and_eq_true, decide_eq_true_eq] at h
  omega


/-- A slice of slices of numbers that came in. -/
theorem open_mat {H : Type} {enc : TypeId × Value → H} {W : World} {fuel : Nat} {cs : List Value} {x : DataW H × List MemPlace}
    (hf : DataW.trod enc Try.prog W 0 (fun _ => true) true fuel 42 cs = some x) : ∃ A c rows, cs = [.slice A rows.length c] ∧ MatRdA W A rows ∧ rows.length ≤ maxLen ∧ ∀ r ∈ rows, r.length ≤ maxLen := by
  rcases Go.Deep.open_int_rows Try.underlying42 Try.underlying61 Try.underlying2 intsCells intCells hf with ⟨hcs, _⟩ | ⟨a, len, cap, A, L, C, Z, hcs, _, hl, hm, _, hr⟩
  · exact ⟨none, 0, [], hcs, fun h => absurd h (by simp), by simp, by simp⟩
  · have hlen : ((List.range len).map fun r => (Z r).take (L r)).length = len := by simp
    have hrow : ∀ i, i < len → ((Z i).take (L i)).length = L i := fun i hi => by
      obtain ⟨_, h1, _, h2, _⟩ := hr i (by omega)
      rw [List.length_take]; omega
    refine ⟨some a, cap, (List.range len).map fun r => (Z r).take (L r), by rw [hlen]; exact hcs, fun h => ⟨a, rfl, ?_, fun i hi => ?_⟩, by rw [hlen]; omega, fun r hr' => ?_⟩
    · rw [hlen] at h
      have := World.block_lt_of_cell? W _ (hr 0 (by omega)).1
      rwa [Addr.add_block'] at this
    · have hi' : i < len := by rw [hlen] at hi; exact hi
      obtain ⟨h0, h1, h2, h3, _, h5, h6⟩ := hr i (by omega)
      have e : ((List.range len).map fun r => (Z r).take (L r))[i] = (Z i).take (L i) := by simp
      rw [e]
      refine ⟨A i, C i, by rw [hrow i hi']; exact h0, fun hpos => ?_⟩
      simp only [ints, List.length_map, hrow i hi'] at hpos
      cases hA : A i with
      | none => have := h5 hA; omega
      | some a' =>
        obtain ⟨_, h7⟩ := h6 a' hA
        refine ⟨a', rfl, ?_, fun j hj => ?_⟩
        · have := World.block_lt_of_cell? W _ (h7 0 (by omega))
          rwa [Addr.add_block'] at this
        · simp only [ints, List.length_map, hrow i hi'] at hj
          rw [h7 j (by omega)]
          simp [ints, List.getD_eq_getElem?_getD, show j < (Z i).length by omega]
    · obtain ⟨i, hi, rfl⟩ := List.mem_map.1 hr'
      have hi' : i < len := by simpa using hi
      have := (hr i (by omega)).2.1
      have := (hr i (by omega)).2.2.1
      rw [hrow i hi']; omega
end Go.Proofs.Ytbkgmegpgnmlpaa
