/- Arguments of the laws opened: lists of texts. -/
import Derived.Test.YtogefmkplkddoaaOpenP
namespace Go.Proofs.Ytogefmkplkddoaa
open Go.ChangeShapes Go.WideShapes Go.ChangeAt Go.RowKit

set_option maxRecDepth 100000 in
theorem open_strsT {H : Type} {enc : TypeId × Value → H} {W : World} {base : Nat} {v : Value} {d : DataW H} {p : List MemPlace} (hv : Value.okWide Try.prog W .any base 36 v)
    (h : DataW.Trod enc Try.prog W 0 (fun _ => true) true 36 v d p) : ∃ A c rows, v = .slice A rows.length c ∧ RdA W A (strs rows) ∧ rows.length ≤ maxLen ∧ ∀ r ∈ rows, r.size ≤ maxLen := by
  obtain ⟨A, n, c, rfl⟩ := okWide_slice Try.underlying36 hv
  obtain ⟨fuel, hf⟩ := h
  obtain ⟨A', c', rows, hcs, h1, h2, h3⟩ := open_strs hf
  simp only [Value.cells, List.cons.injEq, and_true] at hcs
  exact ⟨A', c', rows, hcs, h1, h2, h3⟩
end Go.Proofs.Ytogefmkplkddoaa
