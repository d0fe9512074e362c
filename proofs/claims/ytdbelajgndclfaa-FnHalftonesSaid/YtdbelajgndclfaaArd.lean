/- The neighbours of a pixel; a grey picture's sizes, numbers and spots. -/
import Derived.Test.YtdbelajgndclfaaGrid
import Derived.Test.YtdbelajgndclfaaHQ
import Derived.Test.YtdbelajgndclfaaWaysB
import Derived.Test.YtdbelajgndclfaaGIm
namespace Go.Proofs.Ytdbelajgndclfaa
open Go.RowKit

/-- How many neighbours are laid before a column and a row of the nine. -/
def arN (i j : Nat) : Nat := if i = 0 then (if j ≤ 1 then 0 else 1) else if i = 1 then (if j = 0 then 1 else if j ≤ 2 then 2 else 3) else if i = 2 then (if j ≤ 1 then 3 else 4) else 4
theorem own_spots {w : World} {base g cap n : Nat} {L : List (Int × Int)} (h : w.ownsRow base 114 2 (.slice (some ⟨g, 0, none⟩) n cap) n (spL L)) (hl : L.length = n) : SpAt w g L := by
  refine ⟨(h.lt g rfl).2, fun i hi => ⟨?_, ?_⟩⟩
  · rw [h.cellAt (i * 2) (by omega), spL_fst, List.getElem?_eq_getElem hi]; rfl
  · rw [h.cellAt (i * 2 + 1) (by omega), spL_snd, List.getElem?_eq_getElem hi]; rfl

/-- What reads a grey picture at a place. -/
theorem MatRd.num {w : World} {A : Option Addr} {rows : List (List Int)} (h : MatRd w A rows) {y x : Nat} (hy : y < rows.length) (hx : x < rows[y].length) :
    ∃ g gr cy, A = some ⟨g, 0, none⟩ ∧ g < w.heap.size ∧ w.cell? ⟨g, y, none⟩ = some (.slice (some ⟨gr, 0, none⟩) rows[y].length cy) ∧ gr < w.heap.size ∧ w.cell? ⟨gr, x, none⟩ = some (.int .i64 rows[y][x]) := by
  obtain ⟨g, rfl, hg, hc⟩ := h (by omega)
  obtain ⟨Ay, cy, k1, k2⟩ := hc y hy
  obtain ⟨gr, rfl, hgr, hcr⟩ := k2 (by simp [ints]; omega)
  have := hcr x (by simpa [ints] using hx)
  exact ⟨g, gr, cy, rfl, hg, k1, hgr, by rw [this]; simp [ints]⟩
set_option maxHeartbeats 400000 in
theorem at_any (p : Nat) (A : Option Addr) (c : Nat) (rows : List (List Int)) (x y : Nat) (w : World) (h : GreyAt w p A c rows) (hy : y < rows.length) (hx : x < rows[y].length) :
    Calls Try.prog 95 #[.pointer (some ⟨p, 0, none⟩), .agg #[.int .i64 x, .int .i64 y]] w fun e w' => e = .returned (.int .i64 rows[y][x]) ∧ Below w.heap.size w w' := by
  have c0 := (h.ext (Ext.more (Ext.refl w) (.cells #[.int .i64 x, .int .i64 y] 114))).cell
  obtain ⟨g, gr, cy, rfl, hg, k1, hgr, k2⟩ := (h.ext (Ext.more (Ext.refl w) (.cells #[.int .i64 x, .int .i64 y] 114))).rd.num hy hx
  have B0 : Below w.heap.size w (w.alloc (.cells #[.int .i64 x, .int .i64 y] 114)) := Ext.more (Ext.refl _) _
  have k3 : (w.alloc (.cells #[.int .i64 x, .int .i64 y] 114)).cell? ⟨w.heap.size, 0, none⟩ = some (.int .i64 x) := cell_new w _ _ 0
  have k4 : (w.alloc (.cells #[.int .i64 x, .int .i64 y] 114)).cell? ⟨w.heap.size, 1, none⟩ = some (.int .i64 y) := cell_new w _ _ 1
  clear h
  generalize rows[y][x] = v at *
  generalize rows[y].length = W at *
  generalize rows.length = H at *
  have i0 : (0 : Int) ≤ (y : Int) := by omega
  have i1 : (y : Int) < (H : Int) := by omega
  have i2 : (0 : Int) ≤ (x : Int) := by omega
  have i3 : (x : Int) < (W : Int) := by omega
  go_enter Try.func95, Try.ntmps95
  go_wp2_with fail
  generalize w.alloc (.cells #[.int .i64 x, .int .i64 y] 114) = w1 at *
  go_quiet (fail)
  go_wp2_with fail
  go_ret
  exact ⟨rfl, Ext.drawN B0 _⟩
set_option maxHeartbeats 400000 in
theorem has_any' (p : Nat) (A : Option Addr) (c : Nat) (rows : List (List Int)) (x y : Int) (w : World) (h : GreyAt w p A c rows) (hn : 0 < rows.length) (hW : tabW rows ≤ 1000) (hH : rows.length ≤ 1000) :
    Calls Try.prog 97 #[.pointer (some ⟨p, 0, none⟩), .agg #[.int .i64 x, .int .i64 y]] w fun e w' => e = .returned (.bool (inG (tabW rows) rows.length (x, y))) ∧ Below w.heap.size w w' := by
  have B0 : Below w.heap.size w (w.alloc (.cells #[.int .i64 x, .int .i64 y] 114)) := Ext.more (Ext.refl _) _
  have SZ := Lib.hid (sizes_any p A c rows _ (h.ext B0) hn)
  have k3 : (w.alloc (.cells #[.int .i64 x, .int .i64 y] 114)).cell? ⟨w.heap.size, 0, none⟩ = some (.int .i64 x) := cell_new w _ _ 0
  have k4 : (w.alloc (.cells #[.int .i64 x, .int .i64 y] 114)).cell? ⟨w.heap.size, 1, none⟩ = some (.int .i64 y) := cell_new w _ _ 1
  have I1 := Lib.hid (fun V => in_any x 0 ((tabW rows : Int) - 1) V)
  have I2 := Lib.hid (fun V => in_any y 0 ((rows.length : Int) - 1) V)
  have E : Hid (inG (tabW rows) rows.length (x, y) = (inB x 0 ((tabW rows : Int) - 1) && inB y 0 ((rows.length : Int) - 1))) := rfl
  rw [E.out]
  clear E h hn
  generalize tabW rows = W at *
  generalize rows.length = H at *
  cases h1 : inB x 0 ((W : Int) - 1)
  · rw [h1] at I1
    clear h1
    go_enter Try.func97, Try.ntmps97
    go_wp2_with fail
    generalize w.alloc (.cells #[.int .i64 x, .int .i64 y] 114) = w1 at *
    refine SZ.out.mono ?_
    rintro e w2 ⟨rfl, n, rfl⟩
    replace k3 := cell_drewN (n := n) k3
    replace k4 := cell_drewN (n := n) k4
    go_wp2_with (go_at_call 115; refine (I1.out _).mono ?_; rintro e w' ⟨rfl, rfl⟩)
    go_ret
    exact ⟨rfl, Ext.drawN B0 _⟩
  · rw [h1] at I1
    clear h1
    generalize inB y 0 ((H : Int) - 1) = b2 at *
    go_enter Try.func97, Try.ntmps97
    go_wp2_with fail
    generalize w.alloc (.cells #[.int .i64 x, .int .i64 y] 114) = w1 at *
    refine SZ.out.mono ?_
    rintro e w2 ⟨rfl, n, rfl⟩
    replace k3 := cell_drewN (n := n) k3
    replace k4 := cell_drewN (n := n) k4
    go_wp2_with fail
    refine (I1.out _).mono ?_
    rintro e w' ⟨rfl, rfl⟩
    go_wp2_with fail
    refine (I2.out _).mono ?_
    rintro e w' ⟨rfl, rfl⟩
    go_wp2_with fail
    go_ret
    exact ⟨rfl, Ext.drawN B0 _⟩

/-- All spots in reading order. -/
def spG (W k : Nat) : List (Int × Int) := (List.range k).map fun i => (((i % W : Nat) : Int), ((i / W : Nat) : Int))
theorem spG_length (W k : Nat) : (spG W k).length = k := by simp [spG]
theorem spG_succ (W y x : Nat) (hx : x < W) : spL (spG W (y * W + (x + 1))) = spL (spG W (y * W + x)) ++ [.int .i64 x, .int .i64 y] := by
  rw [← Nat.add_assoc, spG, List.range_succ, List.map_append, spL_append]
  show _ ++ spL [((((y * W + x) % W : Nat) : Int), (((y * W + x) / W : Nat) : Int))] = _
  rw [plD hx, plM hx]
  rfl
end Go.Proofs.Ytdbelajgndclfaa
