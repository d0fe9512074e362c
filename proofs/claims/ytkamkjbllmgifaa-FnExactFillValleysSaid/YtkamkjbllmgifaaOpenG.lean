/- Arguments of the laws opened: numbers, matrices, grey pictures. -/
import Derived.Test.YtkamkjbllmgifaaRow
import Derived.Test.YtkamkjbllmgifaaMatP
import Derived.Deep.Matrix
namespace Go.Proofs.Ytkamkjbllmgifaa
open Go.ChangeShapes Go.WideShapes Go.ChangeAt Go.RowKit

theorem intCells : Try.prog.cellsOf 2 = 1 := by kernel_rfl
theorem intsCells : Try.prog.cellsOf 34 = 1 := by kernel_rfl
theorem wf_i64 {n : Int} (h : (Lit.int .i64 n).wf = true) : -9223372036854775808 ≤ n ∧ n ≤ 9223372036854775807 := by
  have hmin : IntKind.i64.min = -9223372036854775808 := rfl
  have hmax : IntKind.i64.max = 9223372036854775807 := rfl
  simp only [Lit.wf, Bool.and_eq_true, decide_eq_true_eq] at h
  omega

set_option maxRecDepth 100000 in
theorem open_nums {H : Type} {enc : TypeId × Value → H} {W : World} {base : Nat} {v : Value} {d : DataW H} {p : List MemPlace} (hv : Value.okWide Try.prog W .any base 34 v)
    (h : DataW.Trod enc Try.prog W 0 (fun _ => true) true 34 v d p) : ∃ A c L, v = .slice A L.length c ∧ RdA W A (ints L) ∧ L.length ≤ maxLen ∧ ∀ n ∈ L, -9223372036854775808 ≤ n ∧ n ≤ 9223372036854775807 := by
  obtain ⟨A, n, c, rfl⟩ := okWide_slice Try.underlying34 hv
  obtain ⟨fuel, hf⟩ := h
  rcases open_ints Try.underlying34 Try.underlying2 intCells hf with ⟨hcs, _⟩ | ⟨a, len, cap, zs, hcs, _, hl, hm, hz, _, hcell, hwf⟩
  · simp only [Value.cells, List.cons.injEq, and_true, Value.slice.injEq] at hcs
    obtain ⟨rfl, rfl, rfl⟩ := hcs
    exact ⟨none, 0, [], rfl, fun h => absurd h (by simp [ints]), by simp, by simp⟩
  · simp only [Value.cells, List.cons.injEq, and_true, Value.slice.injEq] at hcs
    obtain ⟨rfl, rfl, rfl⟩ := hcs
    simp only [if_true] at hz
    have hlen : (zs.take n).length = n := by rw [List.length_take]; omega
    refine ⟨some a, c, zs.take n, by rw [hlen], fun h => ⟨a, rfl, ?_, fun i hi => ?_⟩, by rw [hlen]; omega, fun r hr => wf_i64 (hwf r (List.mem_of_mem_take hr))⟩
    · simp only [ints, List.length_map, hlen] at h
      have := World.block_lt_of_cell? W _ (hcell 0 (by omega))
      rwa [Addr.add_block'] at this
    · simp only [ints, List.length_map, hlen] at hi
      rw [hcell i (by omega)]
      simp [ints, List.getD_eq_getElem?_getD, show i < zs.length by omega]

/-- A slice of slices of numbers that came in. -/
theorem open_mat {H : Type} {enc : TypeId × Value → H} {W : World} {fuel : Nat} {cs : List Value} {x : DataW H × List MemPlace}
    (hf : DataW.trod enc Try.prog W 0 (fun _ => true) true fuel 24 cs = some x) : ∃ A c rows, cs = [.slice A rows.length c] ∧ MatRdA W A rows ∧ rows.length ≤ maxLen ∧ ∀ r ∈ rows, r.length ≤ maxLen := by
  rcases Go.Deep.open_int_rows Try.underlying24 Try.underlying34 Try.underlying2 intsCells intCells hf with ⟨hcs, _⟩ | ⟨a, len, cap, A, L, C, Z, hcs, _, hl, hm, _, hr⟩
  · exact ⟨none, 0, [], hcs, fun h => absurd h (by simp), by simp, by simp⟩
  · have hlen : ((List.range len).map fun r => (Z r).take (L r)).length = len := by simp
    have hrow : ∀ i, i < len → ((Z i).take (L i)).length = L i := fun i hi => by
      obtain ⟨_, h1, _, h2, _⟩ := hr i (by omega)
      rw [List.length_take]; omega
    refine ⟨some a, cap, (List.range len).map fun r => (Z r).take (L r), by rw [hlen]; exact hcs, fun h => ⟨a, rfl, ?_, fun i hi => ?_⟩, by rw [hlen]; omega, fun r hr' => ?_⟩
    · rw [hlen] at h
      have := World.block_lt_of_cell? W _ (hr 0 (by omega)).1
      rwa [Addr.add_block'] at this
    · have hi' : i < len := by rw [hlen] at hi; exact hi
      obtain ⟨h0, h1, h2, h3, _, h5, h6⟩ := hr i (by omega)
      have e : ((List.range len).map fun r => (Z r).take (L r))[i] = (Z i).take (L i) := by simp
      rw [e]
      refine ⟨A i, C i, by rw [hrow i hi']; exact h0, fun hpos => ?_⟩
      simp only [ints, List.length_map, hrow i hi'] at hpos
      cases hA : A i with
      | none => have := h5 hA; omega
      | some a' =>
        obtain ⟨_, h7⟩ := h6 a' hA
        refine ⟨a', rfl, ?_, fun j hj => ?_⟩
        · have := World.block_lt_of_cell? W _ (h7 0 (by omega))
          rwa [Addr.add_block'] at this
        · simp only [ints, List.length_map, hrow i hi'] at hj
          rw [h7 j (by omega)]
          simp [ints, List.getD_eq_getElem?_getD, show j < (Z i).length by omega]
    · obtain ⟨i, hi, rfl⟩ := List.mem_map.1 hr'
      have hi' : i < len := by simpa using hi
      have := (hr i (by omega)).2.1
      have := (hr i (by omega)).2.2.1
      rw [hrow i hi']; omega
theorem greyCells : Try.prog.cellsOf 47 = 1 := by kernel_rfl
theorem matCells : Try.prog.cellsOf 24 = 1 := by kernel_rfl
set_option maxRecDepth 100000 in
theorem open_grey {H : Type} {enc : TypeId × Value → H} {W : World} {base : Nat} {v : Value} {d : DataW H} {p : List MemPlace} (hv : Value.okWide Try.prog W .any base 47 v)
    (h : DataW.Trod enc Try.prog W 0 (fun _ => true) true 47 v d p) : ∃ A c rows, v = .agg #[.slice A rows.length c] ∧ MatRdA W A rows ∧ rows.length ≤ maxLen ∧ ∀ r ∈ rows, r.length ≤ maxLen := by
  obtain ⟨cs, rfl, hs⟩ := okWide_struct Try.underlying47 hv
  rw [greyCells] at hs
  obtain ⟨s, rfl⟩ : ∃ s, cs = #[s] := by
    refine ⟨cs[0], ?_⟩
    apply Array.ext
    · simpa using hs
    · intro i h1 h2
      have : i = 0 := by omega
      subst this; rfl
  obtain ⟨fuel, hf⟩ := h
  obtain ⟨y0, n, _, _, h1⟩ := trod_struct1 Try.underlying47 hf
  rw [matCells] at h1
  obtain ⟨A, c, rows, hcs, hA, hn, hz⟩ := open_mat h1
  simp [Value.cells] at hcs
  exact ⟨A, c, rows, by rw [hcs], hA, hn, hz⟩
end Go.Proofs.Ytkamkjbllmgifaa
