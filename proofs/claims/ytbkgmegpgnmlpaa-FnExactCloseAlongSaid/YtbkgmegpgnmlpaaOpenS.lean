/- Arguments of the laws opened: spots; copies of spots. -/
import Derived.Test.YtbkgmegpgnmlpaaOpenG
import Derived.Test.YtbkgmegpgnmlpaaHQ
namespace Go.Proofs.Ytbkgmegpgnmlpaa
open Go.ChangeShapes Go.WideShapes Go.ChangeAt Go.RowKit

theorem spotCells : Try.prog.cellsOf 38 = 2 := by kernel_rfl
set_option maxRecDepth 100000 in
theorem open_spot {H : Type} {enc : TypeId × Value → H} {W : World} {base : Nat} {v : Value} {d : DataW H} {p : List MemPlace} (hv : Value.okWide Try.prog W .any base 38 v)
    (h : DataW.Trod enc Try.prog W 0 (fun _ => true) true 38 v d p) : ∃ a b, v = .agg #[.int .i64 a, .int .i64 b] := by
  obtain ⟨cs, rfl, hs⟩ := okWide_struct Try.underlying38 hv
  rw [spotCells] at hs
  obtain ⟨x, y, rfl⟩ : ∃ x y, cs = #[x, y] := by
    refine ⟨cs[0], cs[1], ?_⟩
    apply Array.ext
    · simpa using hs
    · intro i h1 h2
      have : i = 0 ∨ i = 1 := by omega
      rcases this with e | e <;> subst e <;> rfl
  obtain ⟨fuel, hf⟩ := h
  obtain ⟨y0, y1, m, _, _, h0, h1⟩ := trod_struct2 Try.underlying38 hf
  obtain ⟨a, e0, _, _⟩ := DataW.trod_int Try.underlying2 h0
  obtain ⟨b, e1, _, _⟩ := DataW.trod_int Try.underlying2 h1
  simp [intCells, Value.cells] at e0 e1
  exact ⟨a, b, by rw [e0, e1]⟩
set_option maxHeartbeats 400000 in
theorem toSpot_any (x y : Int) (w : World) : Calls Try.prog 26 #[.agg #[.int .i64 x, .int .i64 y]] w fun e w' => e = .returned (.agg #[.int .i64 x, .int .i64 y]) ∧ Below w.heap.size w w' := by
  have T1 : Blk (((w.alloc (.cells #[.int .i64 x, .int .i64 y] 38)).alloc (.cells #[.int .i64 x, .int .i64 y] 29)).alloc (.cells #[.int .i64 x, .int .i64 y] 29)) (w.heap.size + 1) 29 #[.int .i64 x, .int .i64 y] := by
    have := (Blk.made (w.alloc (.cells #[.int .i64 x, .int .i64 y] 38)) 29 #[.int .i64 x, .int .i64 y]).more (.cells #[.int .i64 x, .int .i64 y] 29)
    simpa using this
  have c0 := T1.cell 0
  have c1 := T1.cell 1
  have B1 : Below w.heap.size w (((w.alloc (.cells #[.int .i64 x, .int .i64 y] 38)).alloc (.cells #[.int .i64 x, .int .i64 y] 29)).alloc (.cells #[.int .i64 x, .int .i64 y] 29)) := Ext.more (Ext.more (Ext.more (Ext.refl _) _) _) _
  go_enter Try.func26, Try.ntmps26
  go_wp2_with fail
  generalize ((w.alloc (.cells #[.int .i64 x, .int .i64 y] 38)).alloc (.cells #[.int .i64 x, .int .i64 y] 29)).alloc (.cells #[.int .i64 x, .int .i64 y] 29) = w1 at *
  simp at c0 c1
  refine bodyPost_ret (v := .agg #[.int .i64 x, .int .i64 y]) (by simp [results, Try.results26, go_sem, c0, c1]) rfl ⟨rfl, B1⟩
end Go.Proofs.Ytbkgmegpgnmlpaa
