/- The neighbours of a pixel; a grey picture's sizes, numbers and spots. -/
import Derived.Test.YtgbciimfpahekaaDoorGrid
import Derived.Test.YtgbciimfpahekaaDoorHQ
import Derived.Test.YtgbciimfpahekaaDoorWaysB
import Derived.Test.YtgbciimfpahekaaDoorGIm
namespace Go.Proofs.YtgbciimfpahekaaDoor
open Go.RowKit

/-- How many neighbours are laid before a column and a row of the nine. -/
def arN (i j : Nat) : Nat := if i = 0 then (if j ≤ 1 then 0 else 1) else if i = 1 then (if j = 0 then 1 else if j ≤ 2 then 2 else 3) else if i = 2 then (if j ≤ 1 then 3 else 4) else 4
/-- What reads a grey picture at a place. -/
theorem MatRd.num {w : World} {A : Option Addr} {rows : List (List Int)} (h : MatRd w A rows) {y x : Nat} (hy : y < rows.length) (hx : x < rows[y].length) :
    ∃ g gr cy, A = some ⟨g, 0, none⟩ ∧ g < w.heap.size ∧ w.cell? ⟨g, y, none⟩ = some (.slice (some ⟨gr, 0, none⟩) rows[y].length cy) ∧ gr < w.heap.size ∧ w.cell? ⟨gr, x, none⟩ = some (.int .i64 rows[y][x]) := by
  obtain ⟨g, rfl, hg, hc⟩ := h (by omega)
  obtain ⟨Ay, cy, k1, k2⟩ := hc y hy
  obtain ⟨gr, rfl, hgr, hcr⟩ := k2 (by simp [ints]; omega)
  have := hcr x (by simpa [ints] using hx)
  exact ⟨g, gr, cy, rfl, hg, k1, hgr, by rw [this]; simp [ints]⟩
/-- All spots in reading order. -/
def spG (W k : Nat) : List (Int × Int) := (List.range k).map fun i => (((i % W : Nat) : Int), ((i / W : Nat) : Int))
theorem spG_length (W k : Nat) : (spG W k).length = k := by simp [spG]
theorem spG_succ (W y x : Nat) (hx : x < W) : spL (spG W (y * W + (x + 1))) = spL (spG W (y * W + x)) ++ [.int .i64 x, .int .i64 y] := by
  rw [← Nat.add_assoc, spG, List.range_succ, List.map_append, spL_append]
  show _ ++ spL [((((y * W + x) % W : Nat) : Int), (((y * W + x) / W : Nat) : Int))] = _
  rw [plD hx, plM hx]
  rfl
end Go.Proofs.YtgbciimfpahekaaDoor
