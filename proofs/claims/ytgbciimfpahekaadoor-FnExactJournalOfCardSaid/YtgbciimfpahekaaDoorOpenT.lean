/- Arguments of the laws opened: lists of texts. -/
import Derived.Test.YtgbciimfpahekaaDoorOpenP
namespace Go.Proofs.YtgbciimfpahekaaDoor
open Go.ChangeShapes Go.WideShapes Go.ChangeAt Go.RowKit

set_option maxRecDepth 100000 in
theorem open_strsT {H : Type} {enc : TypeId × Value → H} {W : World} {base : Nat} {v : Value} {d : DataW H} {p : List MemPlace} (hv : Value.okWide Tryd.prog W .any base 22 v)
    (h : DataW.Trod enc Tryd.prog W 0 (fun _ => true) true 22 v d p) : ∃ A c rows, v = .slice A rows.length c ∧ RdA W A (strs rows) ∧ rows.length ≤ maxLen ∧ ∀ r ∈ rows, r.size ≤ maxLen := by
  obtain ⟨A, n, c, rfl⟩ := okWide_slice Tryd.underlying22 hv
  obtain ⟨fuel, hf⟩ := h
  obtain ⟨A', c', rows, hcs, h1, h2, h3⟩ := open_strs hf
  simp only [Value.cells, List.cons.injEq, and_true] at hcs
  exact ⟨A', c', rows, hcs, h1, h2, h3⟩
end Go.Proofs.YtgbciimfpahekaaDoor
