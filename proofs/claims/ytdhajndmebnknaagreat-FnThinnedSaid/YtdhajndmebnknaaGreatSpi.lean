/- The heights of ways: what is held while they are found. The least heights of ways from a pixel: the program's. The least heights of ways to the edge: the program's. -/
import Derived.Test.YtdhajndmebnknaaGreatRem
import Derived.Laws.EntriesVeiled
namespace Go.Proofs.YtdhajndmebnknaaGreat
open Go.RowKit

/-- The number at a place. -/
def gF (rows : List (List Int)) (W : Nat) (i : Nat) : Int := (rows.getD (i / W) []).getD (i % W) 0
theorem gF_at {rows : List (List Int)} {W x y : Nat} (hx : x < W) (hy : y < rows.length) (hx2 : x < rows[y].length) : gF rows W (y * W + x) = rows[y][x] := by
  rw [gF, plD hx, plM hx]
  simp [List.getD_eq_getElem?_getD, hy, hx2]
theorem gF_bd {rows : List (List Int)} {W : Nat} (hok : greyOk rows = true) (hW : tabW rows = W) : ∀ i, i < W * rows.length → 0 ≤ gF rows W i ∧ gF rows W i ≤ 99 := by
  intro i hi
  obtain ⟨s1, s2, s3, s4⟩ := tab_sizes hok
  obtain ⟨e, hm⟩ := pl_eq (W := W) i (by omega)
  have hr := pl_row hi
  have hl := tab_row hok (i / W) hr
  have := tab_num hok (i / W) (i % W) hr (by omega)
  rw [e, gF_at hm hr (by omega)]
  exact this

theorem SpAt.put {w : World} {g : Nat} {L : List (Int × Int)} (h : SpAt w g L) {p : Addr} (hp : g ≠ p.block) (u : Value) : SpAt (w.setCell p u) g L := by
  refine ⟨by simpa [World.setCell] using h.1, fun i hi => ?_⟩
  have hc : ∀ j, (w.setCell p u).cell? ⟨g, j, none⟩ = w.cell? ⟨g, j, none⟩ := fun j => World.cell?_setCell_other w _ _ _ (fun e => hp (by rw [e]))
  exact ⟨(hc _).trans (h.2 i hi).1, (hc _).trans (h.2 i hi).2⟩
theorem MatRd.same {w : World} {A : Option Addr} {r1 r2 : List (List Int)} (h1 : MatRd w A r1) (h2 : MatRd w A r2) {y x : Nat} (hy1 : y < r1.length) (hx1 : x < r1[y].length) (hy2 : y < r2.length) (hx2 : x < r2[y].length) : r1[y][x] = r2[y][x] := by
  obtain ⟨g, gr, cy, rfl, _, a1, _, a2⟩ := h1.num hy1 hx1
  obtain ⟨g', gr', cy', e, _, b1, _, b2⟩ := h2.num hy2 hx2
  simp only [Option.some.injEq, Addr.mk.injEq, and_true] at e
  subst e
  rw [a1] at b1
  simp only [Option.some.injEq, Value.slice.injEq, Addr.mk.injEq, and_true] at b1
  obtain ⟨rfl, _⟩ := b1
  rw [a2] at b2
  simpa using b2

section
variable {w0 : World} {lo po : Nat} {A : Option Addr} {c : Nat} {vs : List Value} {W H : Nat} {O : Nat → Int} {wr : World}
end
theorem sumF_congr {O P : Nat → Int} : ∀ n, (∀ i, i < n → O i = P i) → sumF O n = sumF P n := by
  intro n
  induction n with
  | zero => intro _; rfl
  | succ n ih => intro h; rw [sumF, sumF, ih (fun i hi => h i (by omega)), h n (by omega)]
end Go.Proofs.YtdhajndmebnknaaGreat

namespace Go.Proofs.YtdhajndmebnknaaGreat
open Go.RowKit

def bit1 : Value → Nat
  | .bool true => 1
  | _ => 0
end Go.Proofs.YtdhajndmebnknaaGreat

namespace Go.Proofs.YtdhajndmebnknaaGreat
open Go.RowKit

/-- Whether a place is at the edge. -/
def edgeB (W H i : Nat) : Bool := decide (i % W = 0) || decide (i / W = 0) || decide (i % W + 1 = W) || decide (i / W + 1 = H)
theorem edgeB_xy {W H x y : Nat} (hx : x < W) : edgeB W H (y * W + x) = (decide (x = 0) || decide (y = 0) || decide (x + 1 = W) || decide (y + 1 = H)) := by
  rw [edgeB, plD hx, plM hx]
end Go.Proofs.YtdhajndmebnknaaGreat
