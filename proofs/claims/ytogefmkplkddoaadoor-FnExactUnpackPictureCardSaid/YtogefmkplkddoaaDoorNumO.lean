/- Numbers read from their codes: the results, in the laws' words. -/
import Derived.Test.YtogefmkplkddoaaDoorNumI
import Derived.Test.YtogefmkplkddoaaDoorShp
namespace Go.Proofs.YtogefmkplkddoaaDoor
open Go.RowKit

theorem NmRes.o {w w' : World} {s : ByteArray} {e : Ending} (h : NmRes w s e w') : ∃ A c, e = .returned (.tuple #[.slice A (nmO s).length c, .bool (nmB s)]) ∧ IntsO w' w.heap.size w'.heap.size A c (nmO s) ∧ Below w.heap.size w w' := by
  obtain ⟨A, c, he, ho, hb⟩ := h
  exact ⟨A, c, he, RowO.of_own ho, hb⟩
/-- There are no more numbers than letters. -/
theorem nmV_len : ∀ (n : Nat) (l : List UInt8), l.length ≤ n → ∀ o, nmV l = some o → o.length ≤ n := by
  intro n
  induction n with
  | zero =>
    intro l hl o h
    obtain rfl : l = [] := List.eq_nil_of_length_eq_zero (by omega)
    rw [nmV_nil] at h; cases h; exact Nat.le_refl _
  | succ n ih =>
    intro l hl o h
    by_cases he : l = []
    · subst he; rw [nmV_nil] at h; cases h; exact Nat.zero_le _
    · cases hs : nmStep l with
      | none => rw [nmV_bad he hs] at h; cases h
      | some x =>
        obtain ⟨v, r⟩ := x
        rw [nmV_good he hs] at h
        have hr := nmStep_lt hs
        cases hx : nmV r with
        | none => rw [hx] at h; cases h
        | some y =>
          rw [hx] at h
          cases h
          have := ih r (by omega) y hx
          simp; omega
theorem nmO_len (s : ByteArray) : (nmO s).length ≤ 1048576 := by
  rw [nmO, nmR]
  split
  · cases h : nmV s.data.toList with
    | none => simp
    | some o =>
      have := nmV_len s.size s.data.toList (Nat.le_refl _) o h
      show o.length ≤ _
      omega
  · simp
end Go.Proofs.YtogefmkplkddoaaDoor
