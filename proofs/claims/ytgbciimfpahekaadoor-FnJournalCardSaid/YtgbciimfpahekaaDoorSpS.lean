/- The reference's least heights to the edge. -/
import Derived.Test.YtgbciimfpahekaaDoorPsS
namespace Go.Proofs.YtgbciimfpahekaaDoor
open Go.RowKit

def edgeTo (W H k : Nat) : List Int := ((List.range k).filter (edgeB W H)).map fun i => ((i : Nat) : Int)
theorem edgeTo_succ (W H k : Nat) : edgeTo W H (k + 1) = if edgeB W H k = true then edgeTo W H k ++ [((k : Nat) : Int)] else edgeTo W H k := by
  unfold edgeTo
  rw [List.range_succ, List.filter_append, List.map_append]
  cases h : edgeB W H k <;> simp [h]
theorem edgeTo_len (W H k : Nat) : (edgeTo W H k).length ≤ k := by
  unfold edgeTo
  rw [List.length_map]
  exact Nat.le_trans (List.length_filter_le _ _) (by simp)
theorem edgeTo_mem (W H k i : Nat) : ((i : Nat) : Int) ∈ edgeTo W H k ↔ i < k ∧ edgeB W H i = true := by
  unfold edgeTo
  rw [List.mem_map]
  constructor
  · rintro ⟨j, hj, e⟩
    rw [List.mem_filter, List.mem_range] at hj
    obtain rfl : j = i := by omega
    exact hj
  · intro h
    exact ⟨i, by rw [List.mem_filter, List.mem_range]; exact h, rfl⟩
theorem edgeTo_bd (W H k : Nat) : ∀ v ∈ edgeTo W H k, 0 ≤ v ∧ v < k := by
  intro v hv
  unfold edgeTo at hv
  rw [List.mem_map] at hv
  obtain ⟨j, hj, rfl⟩ := hv
  rw [List.mem_filter, List.mem_range] at hj
  omega
theorem IsPass.congrFn {W n : Nat} {G : Nat → Int} {F F' : Nat → Prop} {O : Nat → Int} (h : IsPass W n G F O) (e : ∀ i, i < n → (F i ↔ F' i)) : IsPass W n G F' O := by
  have to : ∀ {A B : Nat → Prop} {k : Int} {i : Nat}, (∀ i, i < n → A i → B i) → Way W n G A k i → Way W n G B k i := by
    intro A B k i hab w
    induction w with
    | start i hi hF hG => exact .start i hi (hab i hi hF) hG
    | step q s _ ha hG ih => exact .step q s ih ha hG
  refine ⟨fun i hi => ?_, fun i k w => h.least i k (to (fun i hi => (e i hi).2) w)⟩
  obtain ⟨a, b, d⟩ := h.sound i hi
  exact ⟨a, b, fun hl => to (fun i hi => (e i hi).1) (d hl)⟩

end Go.Proofs.YtgbciimfpahekaaDoor
