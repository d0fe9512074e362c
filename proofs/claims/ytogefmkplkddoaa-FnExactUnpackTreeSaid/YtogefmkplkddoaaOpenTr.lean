/- Arguments of the laws opened: a tree. -/
import Derived.Test.YtogefmkplkddoaaRow
import Derived.Test.YtogefmkplkddoaaTldP
namespace Go.Proofs.Ytogefmkplkddoaa
open Go.ChangeShapes Go.WideShapes Go.ChangeAt Go.RowKit

theorem intCellsT : Try.prog.cellsOf 2 = 1 := by kernel_rfl
theorem strCellsT : Try.prog.cellsOf 9 = 1 := by kernel_rfl
theorem treeCells : Try.prog.cellsOf 26 = 2 := by kernel_rfl
set_option maxRecDepth 100000 in
theorem open_tree {H : Type} {enc : TypeId × Value → H} {W : World} {base : Nat} {v : Value} {d : DataW H} {p : List MemPlace} (hv : Value.okWide Try.prog W .any base 26 v)
    (h : DataW.Trod enc Try.prog W 0 (fun _ => true) true 26 v d p) : ∃ (s : Int) (t : ByteArray), v = .agg #[.int .i64 s, .string t] ∧ t.size ≤ maxLen := by
  obtain ⟨cs, rfl, hs⟩ := okWide_struct Try.underlying26 hv
  rw [treeCells] at hs
  obtain ⟨x, y, rfl⟩ : ∃ x y, cs = #[x, y] := by
    refine ⟨cs[0], cs[1], ?_⟩
    apply Array.ext
    · simpa using hs
    · intro i h1 h2
      have : i = 0 ∨ i = 1 := by omega
      rcases this with e | e <;> subst e <;> rfl
  obtain ⟨fuel, hf⟩ := h
  obtain ⟨y0, y1, m, _, _, h0, h1⟩ := trod_struct2 Try.underlying26 hf
  obtain ⟨a, e0, _, _⟩ := DataW.trod_int Try.underlying2 h0
  obtain ⟨b, e1, _, hb⟩ := DataW.trod_string Try.underlying9 h1
  simp [intCellsT, strCellsT, Value.cells] at e0 e1
  exact ⟨a, b, by rw [e0, e1], hb⟩
set_option maxHeartbeats 400000 in
theorem toTree_any (s : Int) (t : ByteArray) (w : World) : Calls Try.prog 12 #[.agg #[.int .i64 s, .string t]] w fun e w' => e = .returned (.agg #[.int .i64 s, .string t]) ∧ Below w.heap.size w w' := by
  have T1 : Blk (((w.alloc (.cells #[.int .i64 s, .string t] 26)).alloc (.cells #[.int .i64 s, .string t] 29)).alloc (.cells #[.int .i64 s, .string t] 29)) (w.heap.size + 1) 29 #[.int .i64 s, .string t] := by
    have := (Blk.made (w.alloc (.cells #[.int .i64 s, .string t] 26)) 29 #[.int .i64 s, .string t]).more (.cells #[.int .i64 s, .string t] 29)
    simpa using this
  have c0 := T1.cell 0
  have c1 := T1.cell 1
  have B1 : Below w.heap.size w (((w.alloc (.cells #[.int .i64 s, .string t] 26)).alloc (.cells #[.int .i64 s, .string t] 29)).alloc (.cells #[.int .i64 s, .string t] 29)) := Ext.more (Ext.more (Ext.more (Ext.refl _) _) _) _
  go_enter Try.func12, Try.ntmps12
  go_wp2_with fail
  generalize ((w.alloc (.cells #[.int .i64 s, .string t] 26)).alloc (.cells #[.int .i64 s, .string t] 29)).alloc (.cells #[.int .i64 s, .string t] 29) = w1 at *
  simp at c0 c1
  refine bodyPost_ret (v := .agg #[.int .i64 s, .string t]) (by simp [results, Try.results12, go_sem, c0, c1]) rfl ⟨rfl, B1⟩
def szT (t : ByteArray) : Int := if 1048576 < t.size then -1 else 1048576 - t.size
set_option maxHeartbeats 400000 in
theorem szTree_any (s : Int) (t : ByteArray) (w : World) (ht : t.size ≤ maxLen) : Calls Try.prog 10 #[.agg #[.int .i64 s, .string t], .int .i64 1048576] w fun e w' => e = .returned (.int .i64 (szT t)) ∧ Below w.heap.size w w' := by
  have T1 := Blk.made w 26 #[.int .i64 s, .string t]
  have c0 := T1.cell 0
  have c1 := T1.cell 1
  have B1 : Below w.heap.size w (w.alloc (.cells #[.int .i64 s, .string t] 26)) := Ext.more (Ext.refl _) _
  simp at c0 c1
  unfold maxLen at ht
  by_cases h : 1048576 < t.size
  · have F : Hid (szT t = -1) := by rw [Hid, szT, if_pos h]
    have q : (1048576 : Int) - (t.size : Int) < 0 := by omega
    go_enter Try.func10, Try.ntmps10
    go_wp2_with fail
    go_ret
    exact ⟨by rw [F.out]; rfl, B1⟩
  · have F : Hid (szT t = 1048576 - t.size) := by rw [Hid, szT, if_neg h]
    have q : ¬ (1048576 : Int) - (t.size : Int) < 0 := by omega
    go_enter Try.func10, Try.ntmps10
    go_wp2_with fail
    go_ret
    exact ⟨by rw [F.out]; rfl, B1⟩
end Go.Proofs.Ytogefmkplkddoaa
