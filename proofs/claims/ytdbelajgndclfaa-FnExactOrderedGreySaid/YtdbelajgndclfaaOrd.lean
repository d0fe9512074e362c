/- Halftones by the table: the table on both sides. -/
import Derived.Test.YtdbelajgndclfaaGIm
namespace Go.Proofs.Ytdbelajgndclfaa
open Go.RowKit

def ordT (i : Nat) : Int := [0, 8, 2, 10, 12, 4, 14, 6, 3, 11, 1, 9, 15, 7, 13, 5].getD i 0
def ordC : Array Value := #[.int .i64 0, .int .i64 8, .int .i64 2, .int .i64 10, .int .i64 12, .int .i64 4, .int .i64 14, .int .i64 6, .int .i64 3, .int .i64 11, .int .i64 1, .int .i64 9, .int .i64 15, .int .i64 7, .int .i64 13, .int .i64 5]
theorem ordC_get (i : Nat) (h : i < 16) : ordC[i]? = some (.int .i64 (ordT i)) := by
  have : i = 0 ∨ i = 1 ∨ i = 2 ∨ i = 3 ∨ i = 4 ∨ i = 5 ∨ i = 6 ∨ i = 7 ∨ i = 8 ∨ i = 9 ∨ i = 10 ∨ i = 11 ∨ i = 12 ∨ i = 13 ∨ i = 14 ∨ i = 15 := by omega
  rcases this with h | h | h | h | h | h | h | h | h | h | h | h | h | h | h | h <;> subst h <;> rfl
theorem ordT_bd (i : Nat) : 0 ≤ ordT i ∧ ordT i ≤ 15 := by
  by_cases h : i < 16
  · have : i = 0 ∨ i = 1 ∨ i = 2 ∨ i = 3 ∨ i = 4 ∨ i = 5 ∨ i = 6 ∨ i = 7 ∨ i = 8 ∨ i = 9 ∨ i = 10 ∨ i = 11 ∨ i = 12 ∨ i = 13 ∨ i = 14 ∨ i = 15 := by omega
    rcases this with h | h | h | h | h | h | h | h | h | h | h | h | h | h | h | h <;> subst h <;> decide
  · have : ordT i = 0 := by unfold ordT; rw [List.getD_eq_getElem?_getD, List.getElem?_eq_none (by simp; omega)]; rfl
    rw [this]; decide
def ordAt (x y : Nat) : Int := ordT (y % 4 * 4 + x % 4)

set_option maxHeartbeats 1000000 in
theorem orderAt_any (x y : Nat) (w : World) (hx : x ≤ 1000000) (hy : y ≤ 1000000) :
    Calls Try.prog 86 #[.int .i64 x, .int .i64 y] w fun e w' => e = .returned (.int .i64 (ordAt x y)) ∧ w = w' := by
  have hidx : ∀ i : Nat, i < 16 → ∀ V : World, (Instr.index 138 (.agg ordC) (.int .i64 (i : Int))).run Try.prog V = .ok (.int .i64 (ordT i)) V := by
    intro i h V
    have : i = 0 ∨ i = 1 ∨ i = 2 ∨ i = 3 ∨ i = 4 ∨ i = 5 ∨ i = 6 ∨ i = 7 ∨ i = 8 ∨ i = 9 ∨ i = 10 ∨ i = 11 ∨ i = 12 ∨ i = 13 ∨ i = 14 ∨ i = 15 := by omega
    rcases this with h | h | h | h | h | h | h | h | h | h | h | h | h | h | h | h <;> subst h <;> (show (_ : Result Value) = _; kernel_rfl)
  have hI := hidx (y % 4 * 4 + x % 4) (by omega)
  have e : ((y : Int) % 4 * 4 + (x : Int) % 4) = ((y % 4 * 4 + x % 4 : Nat) : Int) := by omega
  rw [← e] at hI
  have E : Hid (ordT (y % 4 * 4 + x % 4) = ordAt x y) := rfl
  generalize ordT (y % 4 * 4 + x % 4) = r at *
  unfold ordC at hI
  clear hidx e
  go_enter Try.func86, Try.ntmps86
  go_wp2_with fail
  go_ret
  exact ⟨ret_int E.out, rfl⟩
theorem tableL_any (w : World) : Calls Try.prog 79 #[] w fun e w' => e = .returned (.slice (some ⟨w.heap.size, 0, none⟩) 16 16) ∧ w' = w.alloc (.cells ordC 2) := by
  go_enter Try.func79, Try.ntmps79
  go_wp2_with fail
  go_ret
  exact ⟨rfl, rfl⟩
theorem tableL_ext (w : World) : Calls Try.prog 79 #[] w fun e w' => e = .returned (.slice (some ⟨w.heap.size, 0, none⟩) 16 16) ∧ Blk w' w.heap.size 2 ordC ∧ Below w.heap.size w w' :=
  (tableL_any w).mono fun _ _ ⟨h1, h2⟩ => ⟨h1, by rw [h2]; exact Blk.made _ _ _, by rw [h2]; exact Ext.more (Ext.refl _) _⟩
end Go.Proofs.Ytdbelajgndclfaa
