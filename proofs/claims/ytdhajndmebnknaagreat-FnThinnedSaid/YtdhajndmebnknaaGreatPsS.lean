/- The reference's list of a grey picture's numbers; places; least heights between places and to the edge. The reference's places of spots; least heights between places and to the edge. The reference's least height between two places. -/
import Derived.Test.YtdhajndmebnknaaGreatPasW
import Derived.Test.YtdhajndmebnknaaGreatSpi
import Derived.Deep.RegionLaw
namespace Go.Proofs.YtdhajndmebnknaaGreat
open Go.RowKit

theorem flat_len {rows : List (List Int)} {W : Nat} (hr : ∀ y (h : y < rows.length), rows[y].length = W) : ∀ k, k ≤ rows.length → ((rows.take k).flatten).length = k * W := by
  intro k
  induction k with
  | zero => intro _; simp
  | succ k ih =>
    intro h
    rw [List.take_succ_eq_append_getElem (by omega), List.flatten_append, List.length_append, ih (by omega), Nat.succ_mul]
    simp [hr k (by omega)]
theorem flat_succ {rows : List (List Int)} {k : Nat} (h : k < rows.length) : (rows.take (k + 1)).flatten = (rows.take k).flatten ++ rows[k] := by
  rw [List.take_succ_eq_append_getElem h, List.flatten_append]; simp
theorem flat_get {rows : List (List Int)} {W : Nat} (hr : ∀ y (h : y < rows.length), rows[y].length = W) {x y : Nat} (hy : y < rows.length) (hx : x < W) : ∀ k, y < k → k ≤ rows.length → ((rows.take k).flatten).getD (y * W + x) 0 = gF rows W (y * W + x) := by
  intro k
  induction k with
  | zero => intro h; omega
  | succ k ih =>
    intro h1 h2
    have hl := flat_len hr k (by omega)
    rw [flat_succ (by omega), List.getD_eq_getElem?_getD]
    by_cases e : y = k
    · subst e
      rw [List.getElem?_append_right (by omega), hl, Nat.add_sub_cancel_left, gF_at hx hy (by rw [hr y hy]; exact hx), List.getElem?_eq_getElem (by rw [hr y hy]; exact hx)]
      rfl
    · have : y * W + x < k * W := by
        have := Nat.mul_le_mul_right W (show y + 1 ≤ k by omega)
        rw [Nat.succ_mul] at this
        omega
      rw [List.getElem?_append_left (by omega), ← List.getD_eq_getElem?_getD]
      exact ih (by omega) (by omega)

end Go.Proofs.YtdhajndmebnknaaGreat

namespace Go.Proofs.YtdhajndmebnknaaGreat
open Go.RowKit

/-- The place of a spot; 0. -/
def plcO (W H : Nat) (x y : Int) : Int := if inG W H (x, y) then ((plc W (x, y) : Nat) : Int) else 0
end Go.Proofs.YtdhajndmebnknaaGreat

namespace Go.Proofs.YtdhajndmebnknaaGreat
open Go.RowKit

theorem IsPass.congrF {W n : Nat} {G : Nat → Int} {F F' : Nat → Prop} {O : Nat → Int} (h : IsPass W n G F O) (e : ∀ i, F i ↔ F' i) : IsPass W n G F' O := by
  have : F = F' := funext fun i => propext (e i)
  rwa [← this]
theorem rdNew (w : World) (t : TypeId) (v : Int) : Rd (w.alloc (.cells #[.int .i64 v] t)) (some ⟨w.heap.size, 0, none⟩) (ints [v]) := by
  intro _
  refine ⟨w.heap.size, rfl, by simp, fun i hi => ?_⟩
  have : i = 0 := by simp [ints] at hi; omega
  subst this
  exact cell_new w _ _ 0
/-- What the callees of the search need of a grey picture. -/
structure GreyN (rows : List (List Int)) (W H n : Nat) : Prop where
  ok : greyOk rows = true
  w : tabW rows = W
  h : rows.length = H
  n : n = W * H
section
variable {rows : List (List Int)} {W H n : Nat}
theorem GreyN.w1 (g : GreyN rows W H n) : 0 < W ∧ W ≤ 16 ∧ 0 < H ∧ H ≤ 16 := by
  obtain ⟨s1, s2, s3, s4⟩ := tab_sizes g.ok
  have := g.w; have := g.h
  omega
theorem GreyN.row (g : GreyN rows W H n) : ∀ y (h : y < rows.length), rows[y].length = W := fun y hy => by rw [tab_row g.ok y hy, g.w]
theorem GreyN.get (g : GreyN rows W H n) : ∀ i, i < n → rows.flatten.getD i 0 = gF rows W i := by
  intro i hi
  obtain ⟨w0, _, _, _⟩ := g.w1
  obtain ⟨e, hm⟩ := pl_eq (W := W) i w0
  have hr : i / W < rows.length := by rw [g.h]; exact pl_row (by rw [← g.n]; exact hi)
  have := flat_get g.row hr hm rows.length hr (Nat.le_refl _)
  rwa [List.take_length, ← e] at this
theorem GreyN.len (g : GreyN rows W H n) : rows.flatten.length = n := by
  have := flat_len g.row rows.length (Nat.le_refl _)
  rw [List.take_length, g.h] at this
  rw [this, g.n, Nat.mul_comm]
theorem GreyN.bd (g : GreyN rows W H n) : ∀ i (h : i < rows.flatten.length), 0 ≤ rows.flatten[i] ∧ rows.flatten[i] ≤ 99 := by
  intro i hi
  have hi' := hi
  rw [g.len] at hi'
  have h1 := g.get i hi'
  rw [List.getD_eq_getElem?_getD, List.getElem?_eq_getElem hi, Option.getD_some] at h1
  rw [h1]
  exact gF_bd g.ok g.w i (by rw [g.h, ← g.n]; exact hi')
end
end Go.Proofs.YtdhajndmebnknaaGreat
