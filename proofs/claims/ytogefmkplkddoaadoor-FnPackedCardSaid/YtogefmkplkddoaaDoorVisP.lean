/- The spots along a curve: each in the square, none twice. -/
import Derived.Test.YtogefmkplkddoaaDoorAlong
namespace Go.Proofs.YtogefmkplkddoaaDoor
open Go.RowKit

def okV (c o : Int) (s : Nat) : Nat → List (Int × Int) → Bool
  | _, [] => true
  | n, p :: r => decide (0 ≤ p.1) && decide (p.1 < s) && decide (0 ≤ p.2) && decide (p.2 < s) && decide (idxI c o p.1 p.2 = n) && okV c o s (n + 1) r
theorem okV_all : ∀ c : Fin 4, ∀ o : Fin 5, okV (c.val : Int) (o.val : Int) (2 ^ o.val) 0 (visTo (c.val : Int) (o.val : Int) (2 ^ o.val) (2 ^ o.val)) = true := by decide +kernel
theorem okV_at (c o : Int) (s : Nat) : ∀ (L : List (Int × Int)) (n : Nat), okV c o s n L = true → ∀ i (h : i < L.length), 0 ≤ L[i].1 ∧ L[i].1 < s ∧ 0 ≤ L[i].2 ∧ L[i].2 < s ∧ idxI c o L[i].1 L[i].2 = ((n + i : Nat) : Int) := by
  intro L
  induction L with
  | nil => intro n _ i h; simp at h
  | cons p r ih =>
    intro n h i hi
    simp only [okV, Bool.and_eq_true, decide_eq_true_eq] at h
    cases i with
    | zero => exact ⟨h.1.1.1.1.1, h.1.1.1.1.2, h.1.1.1.2, h.1.1.2, h.1.2⟩
    | succ i =>
      have := ih (n + 1) h.2 i (by simpa using hi)
      simp only [List.getElem_cons_succ]
      rw [show n + (i + 1) = n + 1 + i from by omega]; exact this
theorem vis_at (c o : Int) (hc0 : 0 ≤ c) (hc3 : c ≤ 3) (h0 : 0 ≤ o) (h4 : o ≤ 4) (s : Nat) (hs : side o = s) (i : Nat) (hi : i < (visTo c o s s).length) :
    0 ≤ (visTo c o s s)[i].1 ∧ (visTo c o s s)[i].1 < s ∧ 0 ≤ (visTo c o s s)[i].2 ∧ (visTo c o s s)[i].2 < s ∧ idxI c o (visTo c o s s)[i].1 (visTo c o s s)[i].2 = (i : Int) := by
  obtain ⟨c, rfl⟩ := Int.eq_ofNat_of_zero_le hc0
  obtain ⟨o, rfl⟩ := Int.eq_ofNat_of_zero_le h0
  have h := okV_all ⟨c, by omega⟩ ⟨o, by omega⟩
  have e : (2 : Nat) ^ o = s := by
    have h1 : ((2 ^ o : Nat) : Int) = s := by rw [← hs]; simp [side]
    omega
  simp only [e] at h
  have := okV_at _ _ _ _ 0 h i hi
  simpa using this
end Go.Proofs.YtogefmkplkddoaaDoor
